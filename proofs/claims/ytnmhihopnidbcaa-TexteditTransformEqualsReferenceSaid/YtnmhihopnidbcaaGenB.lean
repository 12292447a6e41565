/-
  Own text GenB of this claim: what functions of the given program compute, in plain Lean, and the proof; no condition.
-/
import Derived.Test.YtnmhihopnidbcaaGenA
namespace Go.Proofs.Ytnmhihopnidbcaa
open Go.Fx
set_option linter.unusedVariables false
def f6_c0 : LCode := (.seq (.region [⟨some 0, .mv (.c (.bool false)), none⟩])
 (.seq (.region [⟨some 11, .build [(.int .i64 0), (.int .i64 0), (.str [])] [(0, 1, (.c (.int .i64 1))), (1, 1, (.c (.int .i64 2))), (2, 1, (.c (.str [120, 121])))], none⟩,
   ⟨some 12, .build [(.int .i64 0), (.int .i64 0), (.str [])] [(0, 1, (.c (.int .i64 4))), (1, 1, (.c (.int .i64 4))), (2, 1, (.c (.str [122])))], none⟩,
   ⟨some 13, .mkSl true 3 [(.int .i64 0), (.int .i64 0), (.str [])] 2 [(0, (.t 11)), (1, (.t 12))], none⟩,
   ⟨some 1, .mv (.t 13), none⟩])
 (.seq (.region [⟨some 15, .mv (.t 1), none⟩,
   ⟨some 16, .call 7 [(.c (.str [97, 98, 99, 100, 101, 102])), (.t 15)], none⟩,
   ⟨some 14, .mv (.t 16), none⟩,
   ⟨some 17, .ext 0 (.t 14), none⟩,
   ⟨some 18, .ext 1 (.t 14), none⟩,
   ⟨some 2, .mv (.t 17), none⟩,
   ⟨some 3, .mv (.t 18), none⟩])
 (.seq (.region [⟨some 20, .mv (.t 1), none⟩,
   ⟨some 21, .call 8 [(.c (.str [97, 98, 99, 100, 101, 102])), (.t 20)], none⟩,
   ⟨some 19, .mv (.t 21), none⟩,
   ⟨some 22, .ext 0 (.t 19), none⟩,
   ⟨some 23, .ext 1 (.t 19), none⟩,
   ⟨some 4, .mv (.t 22), none⟩,
   ⟨some 5, .mv (.t 23), none⟩])
 (.seq (.region [⟨some 25, .mv (.t 1), none⟩,
   ⟨some 26, .build [(.int .i64 0), (.int .i64 0), (.str [])] [(0, 1, (.c (.int .i64 2))), (1, 1, (.c (.int .i64 4)))], none⟩,
   ⟨some 27, .mkSl true 3 [(.int .i64 0), (.int .i64 0), (.str [])] 1 [(0, (.t 26))], none⟩,
   ⟨some 28, .call 14 [(.c (.str [97, 98, 99, 100, 101, 102])), (.t 25), (.t 27)], none⟩,
   ⟨some 24, .mv (.t 28), none⟩,
   ⟨some 29, .ext 0 (.t 24), none⟩,
   ⟨some 30, .ext 1 (.t 24), none⟩,
   ⟨some 6, .mv (.t 29), none⟩,
   ⟨some 7, .mv (.t 30), none⟩])
 (.seq (.region [⟨some 32, .build [(.int .i64 0), (.int .i64 0), (.str [])] [(0, 1, (.c (.int .i64 1))), (1, 1, (.c (.int .i64 1))), (2, 1, (.c (.str [49])))], none⟩,
   ⟨some 33, .mkSl true 3 [(.int .i64 0), (.int .i64 0), (.str [])] 1 [(0, (.t 32))], none⟩,
   ⟨some 34, .build [(.int .i64 0), (.int .i64 0), (.str [])] [(0, 1, (.c (.int .i64 0))), (1, 1, (.c (.int .i64 2))), (2, 1, (.c (.str [50])))], none⟩,
   ⟨some 35, .mkSl true 3 [(.int .i64 0), (.int .i64 0), (.str [])] 1 [(0, (.t 34))], none⟩,
   ⟨some 36, .call 16 [(.c (.str [97, 98, 99])), (.t 33), (.t 35)], none⟩,
   ⟨some 31, .mv (.t 36), none⟩,
   ⟨some 37, .ext 0 (.t 31), none⟩,
   ⟨some 38, .ext 1 (.t 31), none⟩,
   ⟨some 39, .ext 2 (.t 31), none⟩,
   ⟨some 8, .mv (.t 37), none⟩,
   ⟨some 9, .mv (.t 38), none⟩,
   ⟨some 10, .mv (.t 39), none⟩])
 (.seq (.region [⟨some 40, .mv (.t 3), none⟩,
   ⟨some 41, .bin .eql (.t 40) (.c (.int .i64 0)), none⟩,
   ⟨some 42, .mv (.t 41), none⟩,
   ⟨some 43, .mv (.t 2), some (42, true)⟩,
   ⟨some 44, .bin .eql (.t 43) (.c (.str [97, 120, 121, 99, 100, 122, 101, 102])), some (42, true)⟩,
   ⟨some 45, .pick (.t 42) (.t 44) (.c (.bool false)), none⟩,
   ⟨some 46, .mv (.t 45), none⟩,
   ⟨some 47, .mv (.t 5), some (46, true)⟩,
   ⟨some 48, .bin .eql (.t 47) (.c (.int .i64 0)), some (46, true)⟩,
   ⟨some 49, .pick (.t 46) (.t 48) (.c (.bool false)), none⟩,
   ⟨some 50, .mv (.t 49), none⟩,
   ⟨some 51, .mv (.t 4), some (50, true)⟩,
   ⟨some 52, .build [(.int .i64 0), (.int .i64 0), (.str [])] [(0, 1, (.c (.int .i64 1))), (1, 1, (.c (.int .i64 3))), (2, 1, (.c (.str [98])))], some (50, true)⟩,
   ⟨some 53, .build [(.int .i64 0), (.int .i64 0), (.str [])] [(0, 1, (.c (.int .i64 5))), (1, 1, (.c (.int .i64 6)))], some (50, true)⟩,
   ⟨some 54, .mkSl true 3 [(.int .i64 0), (.int .i64 0), (.str [])] 2 [(0, (.t 52)), (1, (.t 53))], some (50, true)⟩,
   ⟨some 55, .call 13 [(.t 51), (.t 54)], some (50, true)⟩,
   ⟨some 56, .pick (.t 50) (.t 55) (.c (.bool false)), none⟩,
   ⟨some 57, .mv (.t 56), none⟩,
   ⟨some 58, .mv (.t 7), some (57, true)⟩,
   ⟨some 59, .bin .eql (.t 58) (.c (.int .i64 0)), some (57, true)⟩,
   ⟨some 60, .pick (.t 57) (.t 59) (.c (.bool false)), none⟩,
   ⟨some 61, .mv (.t 60), none⟩,
   ⟨some 62, .mv (.t 6), some (61, true)⟩,
   ⟨some 63, .build [(.int .i64 0), (.int .i64 0), (.str [])] [(0, 1, (.c (.int .i64 1))), (1, 1, (.c (.int .i64 3))), (2, 1, (.c (.str [120])))], some (61, true)⟩,
   ⟨some 64, .build [(.int .i64 0), (.int .i64 0), (.str [])] [(0, 1, (.c (.int .i64 4))), (1, 1, (.c (.int .i64 4))), (2, 1, (.c (.str [122])))], some (61, true)⟩,
   ⟨some 65, .mkSl true 3 [(.int .i64 0), (.int .i64 0), (.str [])] 2 [(0, (.t 63)), (1, (.t 64))], some (61, true)⟩,
   ⟨some 66, .call 13 [(.t 62), (.t 65)], some (61, true)⟩,
   ⟨some 67, .pick (.t 61) (.t 66) (.c (.bool false)), none⟩,
   ⟨some 68, .mv (.t 67), none⟩,
   ⟨some 69, .mv (.t 10), some (68, true)⟩,
   ⟨some 70, .bin .eql (.t 69) (.c (.int .i64 0)), some (68, true)⟩,
   ⟨some 71, .pick (.t 68) (.t 70) (.c (.bool false)), none⟩,
   ⟨some 72, .mv (.t 71), none⟩,
   ⟨some 73, .mv (.t 8), some (72, true)⟩,
   ⟨some 74, .build [(.int .i64 0), (.int .i64 0), (.str [])] [(0, 1, (.c (.int .i64 1))), (1, 1, (.c (.int .i64 1))), (2, 1, (.c (.str [49])))], some (72, true)⟩,
   ⟨some 75, .mkSl true 3 [(.int .i64 0), (.int .i64 0), (.str [])] 1 [(0, (.t 74))], some (72, true)⟩,
   ⟨some 76, .call 13 [(.t 73), (.t 75)], some (72, true)⟩,
   ⟨some 77, .pick (.t 72) (.t 76) (.c (.bool false)), none⟩,
   ⟨some 78, .mv (.t 77), none⟩,
   ⟨some 79, .mv (.t 9), some (78, true)⟩,
   ⟨some 80, .build [(.int .i64 0), (.int .i64 0), (.str [])] [(0, 1, (.c (.int .i64 0))), (1, 1, (.c (.int .i64 1))), (2, 1, (.c (.str [50])))], some (78, true)⟩,
   ⟨some 81, .build [(.int .i64 0), (.int .i64 0), (.str [])] [(0, 1, (.c (.int .i64 2))), (1, 1, (.c (.int .i64 3)))], some (78, true)⟩,
   ⟨some 82, .mkSl true 3 [(.int .i64 0), (.int .i64 0), (.str [])] 2 [(0, (.t 80)), (1, (.t 81))], some (78, true)⟩,
   ⟨some 83, .call 13 [(.t 79), (.t 82)], some (78, true)⟩,
   ⟨some 84, .pick (.t 78) (.t 83) (.c (.bool false)), none⟩,
   ⟨some 0, .mv (.t 84), none⟩])
 .ret)))))))
def f6_lay : Lay := ⟨85, [], false⟩
def f6_res : List LRes := [.t 0]
def f6_L : LFn := ⟨0, f6_lay, f6_c0, f6_res⟩
theorem f6_low : lowFn Try.prog [] 6 = some f6_L := by kernel_rfl
theorem f6_fok : FnOk Try.prog 6 := ⟨_, Try.func6, rfl, rfl⟩
noncomputable def S_glossatorlaw4_texteditExamples (m : Option Nat) : Option Bool :=
  (S_textedit_Apply m ([97, 98, 99, 100, 101, 102] : List UInt8) ([(G_TextEdit.mk 1 2 ([120, 121] : List UInt8)), (G_TextEdit.mk 4 4 ([122] : List UInt8))] : List G_TextEdit)).bind fun v1 =>
  (S_textedit_Invert m ([97, 98, 99, 100, 101, 102] : List UInt8) ([(G_TextEdit.mk 1 2 ([120, 121] : List UInt8)), (G_TextEdit.mk 4 4 ([122] : List UInt8))] : List G_TextEdit)).bind fun v2 =>
  (S_textedit_Compose m ([97, 98, 99, 100, 101, 102] : List UInt8) ([(G_TextEdit.mk 1 2 ([120, 121] : List UInt8)), (G_TextEdit.mk 4 4 ([122] : List UInt8))] : List G_TextEdit) ([(G_TextEdit.mk 2 4 ([] : List UInt8))] : List G_TextEdit)).bind fun v3 =>
  (S_textedit_Transform m ([97, 98, 99] : List UInt8) ([(G_TextEdit.mk 1 1 ([49] : List UInt8))] : List G_TextEdit) ([(G_TextEdit.mk 0 2 ([50] : List UInt8))] : List G_TextEdit)).bind fun v4 =>
  (if ((((v1.2 == 0) && (v1.1 == ([97, 120, 121, 99, 100, 122, 101, 102] : List UInt8))) && (v2.2 == 0)) == true) = true then S_glossatorref4_EqualEdits m v2.1 ([(G_TextEdit.mk 1 3 ([98] : List UInt8)), (G_TextEdit.mk 5 6 ([] : List UInt8))] : List G_TextEdit) else some default).bind fun v5 =>
  (if ((((((v1.2 == 0) && (v1.1 == ([97, 120, 121, 99, 100, 122, 101, 102] : List UInt8))) && (v2.2 == 0)) && v5) && (v3.2 == 0)) == true) = true then S_glossatorref4_EqualEdits m v3.1 ([(G_TextEdit.mk 1 3 ([120] : List UInt8)), (G_TextEdit.mk 4 4 ([122] : List UInt8))] : List G_TextEdit) else some default).bind fun v6 =>
  (if ((((((((v1.2 == 0) && (v1.1 == ([97, 120, 121, 99, 100, 122, 101, 102] : List UInt8))) && (v2.2 == 0)) && v5) && (v3.2 == 0)) && v6) && (v4.2.2 == 0)) == true) = true then S_glossatorref4_EqualEdits m v4.1 ([(G_TextEdit.mk 1 1 ([49] : List UInt8))] : List G_TextEdit) else some default).bind fun v7 =>
  (if (((((((((v1.2 == 0) && (v1.1 == ([97, 120, 121, 99, 100, 122, 101, 102] : List UInt8))) && (v2.2 == 0)) && v5) && (v3.2 == 0)) && v6) && (v4.2.2 == 0)) && v7) == true) = true then S_glossatorref4_EqualEdits m v4.2.1 ([(G_TextEdit.mk 0 1 ([50] : List UInt8)), (G_TextEdit.mk 2 3 ([] : List UInt8))] : List G_TextEdit) else some default).bind fun v8 =>
  some (((((((((v1.2 == 0) && (v1.1 == ([97, 120, 121, 99, 100, 122, 101, 102] : List UInt8))) && (v2.2 == 0)) && v5) && (v3.2 == 0)) && v6) && (v4.2.2 == 0)) && v7) && v8)

def f6_Q (o : Bool) : Exit → Env → AHeap → Nat → Prop := FinK f6_res (PureEnd (.bool o))

theorem f6_start {m : Option Nat} {o : Bool} (h : S_glossatorlaw4_texteditExamples m = some o) : LWp Try.prog f6_lay 0 f6_c0 (f6_Q o) (initEnv 0 []) [] 0 := by
  unfold S_glossatorlaw4_texteditExamples at h
  refine seqI ?_
  refine regI ?_
  refine seqI ?_
  refine regI ?_
  refine seqI ?_
  refine regI ?_
  obtain ⟨v1, h1, h⟩ := bind_some h
  refine PFn.call (f7_ok h1) (And.intro (Vw.same _ rfl) (And.intro (Vw.islF _ _ _) trivial)) ?_
  show yops _ _ _ [(16, .tup [.str v1.1, .int .i64 v1.2]), (15, .isl 3 (([(G_TextEdit.mk 1 2 ([120, 121] : List UInt8)), (G_TextEdit.mk 4 4 ([122] : List UInt8))] : List G_TextEdit).map e_TextEdit) true), (1, .isl 3 (([(G_TextEdit.mk 1 2 ([120, 121] : List UInt8)), (G_TextEdit.mk 4 4 ([122] : List UInt8))] : List G_TextEdit).map e_TextEdit) true), (13, .isl 3 (([(G_TextEdit.mk 1 2 ([120, 121] : List UInt8)), (G_TextEdit.mk 4 4 ([122] : List UInt8))] : List G_TextEdit).map e_TextEdit) true), (12, .agg [.int .i64 4, .int .i64 4, .str ([122] : List UInt8)]), (11, .agg [.int .i64 1, .int .i64 2, .str ([120, 121] : List UInt8)]), (0, .bool false)] _ _
  refine LWp.sim (e := [(1, .isl 3 (([(G_TextEdit.mk 1 2 ([120, 121] : List UInt8)), (G_TextEdit.mk 4 4 ([122] : List UInt8))] : List G_TextEdit).map e_TextEdit) true), (2, .str v1.1), (3, .int .i64 v1.2)]) (L := []) (n := 0) ?_ ?_
  · exact simI (M := []) rfl (And.intro (Vw.same _ rfl) (And.intro (Vw.same _ rfl) (And.intro (Vw.same _ rfl) trivial))) trivial
  refine seqI ?_
  refine regI ?_
  obtain ⟨v2, h2, h⟩ := bind_some h
  refine PFn.call (f8_ok h2) (And.intro (Vw.same _ rfl) (And.intro (Vw.islF _ _ _) trivial)) ?_
  refine seqI ?_
  refine regI ?_
  obtain ⟨v3, h3, h⟩ := bind_some h
  refine PFn.call (f14_ok h3) (And.intro (Vw.same _ rfl) (And.intro (Vw.islF _ _ _) (And.intro (Vw.islF _ _ _) trivial))) ?_
  show yops _ _ _ [(28, .tup [.isl 3 (v3.1.map e_TextEdit) false, .int .i64 v3.2]), (27, .isl 3 (([(G_TextEdit.mk 2 4 ([] : List UInt8))] : List G_TextEdit).map e_TextEdit) true), (26, .agg [.int .i64 2, .int .i64 4, .str ([] : List UInt8)]), (25, .isl 3 (([(G_TextEdit.mk 1 2 ([120, 121] : List UInt8)), (G_TextEdit.mk 4 4 ([122] : List UInt8))] : List G_TextEdit).map e_TextEdit) true), (5, .int .i64 v2.2), (4, .isl 3 (v2.1.map e_TextEdit) false), (23, .int .i64 v2.2), (22, .isl 3 (v2.1.map e_TextEdit) false), (19, .tup [.isl 3 (v2.1.map e_TextEdit) false, .int .i64 v2.2]), (21, .tup [.isl 3 (v2.1.map e_TextEdit) false, .int .i64 v2.2]), (20, .isl 3 (([(G_TextEdit.mk 1 2 ([120, 121] : List UInt8)), (G_TextEdit.mk 4 4 ([122] : List UInt8))] : List G_TextEdit).map e_TextEdit) true), (1, .isl 3 (([(G_TextEdit.mk 1 2 ([120, 121] : List UInt8)), (G_TextEdit.mk 4 4 ([122] : List UInt8))] : List G_TextEdit).map e_TextEdit) true), (2, .str v1.1), (3, .int .i64 v1.2)] _ _
  refine LWp.sim (e := [(2, .str v1.1), (3, .int .i64 v1.2), (4, .isl 3 (v2.1.map e_TextEdit) false), (5, .int .i64 v2.2), (6, .isl 3 (v3.1.map e_TextEdit) false), (7, .int .i64 v3.2)]) (L := []) (n := 0) ?_ ?_
  · exact simI (M := []) rfl (And.intro (Vw.same _ rfl) (And.intro (Vw.same _ rfl) (And.intro (Vw.same _ rfl) (And.intro (Vw.same _ rfl) (And.intro (Vw.same _ rfl) (And.intro (Vw.same _ rfl) trivial)))))) trivial
  refine seqI ?_
  refine regI ?_
  obtain ⟨v4, h4, h⟩ := bind_some h
  refine PFn.call (f16_ok h4) (And.intro (Vw.same _ rfl) (And.intro (Vw.islF _ _ _) (And.intro (Vw.islF _ _ _) trivial))) ?_
  show yops _ _ _ [(36, .tup [.isl 3 (v4.1.map e_TextEdit) false, .isl 3 (v4.2.1.map e_TextEdit) false, .int .i64 v4.2.2]), (35, .isl 3 (([(G_TextEdit.mk 0 2 ([50] : List UInt8))] : List G_TextEdit).map e_TextEdit) true), (34, .agg [.int .i64 0, .int .i64 2, .str ([50] : List UInt8)]), (33, .isl 3 (([(G_TextEdit.mk 1 1 ([49] : List UInt8))] : List G_TextEdit).map e_TextEdit) true), (32, .agg [.int .i64 1, .int .i64 1, .str ([49] : List UInt8)]), (2, .str v1.1), (3, .int .i64 v1.2), (4, .isl 3 (v2.1.map e_TextEdit) false), (5, .int .i64 v2.2), (6, .isl 3 (v3.1.map e_TextEdit) false), (7, .int .i64 v3.2)] _ _
  refine LWp.sim (e := [(2, .str v1.1), (3, .int .i64 v1.2), (4, .isl 3 (v2.1.map e_TextEdit) false), (5, .int .i64 v2.2), (6, .isl 3 (v3.1.map e_TextEdit) false), (7, .int .i64 v3.2), (8, .isl 3 (v4.1.map e_TextEdit) false), (9, .isl 3 (v4.2.1.map e_TextEdit) false), (10, .int .i64 v4.2.2)]) (L := []) (n := 0) ?_ ?_
  · exact simI (M := []) rfl (And.intro (Vw.same _ rfl) (And.intro (Vw.same _ rfl) (And.intro (Vw.same _ rfl) (And.intro (Vw.same _ rfl) (And.intro (Vw.same _ rfl) (And.intro (Vw.same _ rfl) (And.intro (Vw.same _ rfl) (And.intro (Vw.same _ rfl) (And.intro (Vw.same _ rfl) trivial))))))))) trivial
  refine seqI ?_
  refine regI ?_
  refine And.intro (fun hp => hp) ?_
  show yops _ _ _ [(44, .cnd ((v1.2 == 0) == true) (.bool (v1.1 == ([97, 120, 121, 99, 100, 122, 101, 102] : List UInt8)))), (43, .cnd ((v1.2 == 0) == true) (.str v1.1)), (42, .bool (v1.2 == 0)), (41, .bool (v1.2 == 0)), (40, .int .i64 v1.2), (2, .str v1.1), (3, .int .i64 v1.2), (4, .isl 3 (v2.1.map e_TextEdit) false), (5, .int .i64 v2.2), (6, .isl 3 (v3.1.map e_TextEdit) false), (7, .int .i64 v3.2), (8, .isl 3 (v4.1.map e_TextEdit) false), (9, .isl 3 (v4.2.1.map e_TextEdit) false), (10, .int .i64 v4.2.2)] _ _
  refine And.intro (fun hc => (bqt hc)) ?_
  refine And.intro (fun hp => hp) ?_
  refine And.intro (fun hc => (bqt hc)) ?_
  show yops _ _ _ [(49, .bool (((v1.2 == 0) && (v1.1 == ([97, 120, 121, 99, 100, 122, 101, 102] : List UInt8))) && (v2.2 == 0))), (48, .cnd (((v1.2 == 0) && (v1.1 == ([97, 120, 121, 99, 100, 122, 101, 102] : List UInt8))) == true) (.bool (v2.2 == 0))), (47, .cnd (((v1.2 == 0) && (v1.1 == ([97, 120, 121, 99, 100, 122, 101, 102] : List UInt8))) == true) (.int .i64 v2.2)), (46, .bool ((v1.2 == 0) && (v1.1 == ([97, 120, 121, 99, 100, 122, 101, 102] : List UInt8)))), (45, .bool ((v1.2 == 0) && (v1.1 == ([97, 120, 121, 99, 100, 122, 101, 102] : List UInt8)))), (44, .cnd ((v1.2 == 0) == true) (.bool (v1.1 == ([97, 120, 121, 99, 100, 122, 101, 102] : List UInt8)))), (43, .cnd ((v1.2 == 0) == true) (.str v1.1)), (42, .bool (v1.2 == 0)), (41, .bool (v1.2 == 0)), (40, .int .i64 v1.2), (2, .str v1.1), (3, .int .i64 v1.2), (4, .isl 3 (v2.1.map e_TextEdit) false), (5, .int .i64 v2.2), (6, .isl 3 (v3.1.map e_TextEdit) false), (7, .int .i64 v3.2), (8, .isl 3 (v4.1.map e_TextEdit) false), (9, .isl 3 (v4.2.1.map e_TextEdit) false), (10, .int .i64 v4.2.2)] _ _
  refine Or.inl (Exists.intro (.isl 3 (([(G_TextEdit.mk 1 3 ([98] : List UInt8)), (G_TextEdit.mk 5 6 ([] : List UInt8))] : List G_TextEdit).map e_TextEdit) true) (And.intro (fun hp => And.intro (And.intro hp hp) (And.intro rfl (And.intro rfl rfl))) ?_))
  obtain ⟨v5, h5, h⟩ := bind_some h
  refine Or.inl (Exists.intro (.bool v5) (And.intro (fun hp => And.intro (And.intro hp hp) (PFn.call (f13_ok (ite_tt hp h5)) (And.intro (Vw.same _ rfl) (And.intro (Vw.islF _ _ _) trivial)) (And.intro rfl (And.intro rfl rfl)))) ?_))
  refine And.intro (fun hc => (bqt hc)) ?_
  show yops _ _ _ [(56, .bool ((((v1.2 == 0) && (v1.1 == ([97, 120, 121, 99, 100, 122, 101, 102] : List UInt8))) && (v2.2 == 0)) && v5)), (55, .cnd ((((v1.2 == 0) && (v1.1 == ([97, 120, 121, 99, 100, 122, 101, 102] : List UInt8))) && (v2.2 == 0)) == true) (.bool v5)), (54, .cnd ((((v1.2 == 0) && (v1.1 == ([97, 120, 121, 99, 100, 122, 101, 102] : List UInt8))) && (v2.2 == 0)) == true) (.isl 3 (([(G_TextEdit.mk 1 3 ([98] : List UInt8)), (G_TextEdit.mk 5 6 ([] : List UInt8))] : List G_TextEdit).map e_TextEdit) true)), (53, .cnd ((((v1.2 == 0) && (v1.1 == ([97, 120, 121, 99, 100, 122, 101, 102] : List UInt8))) && (v2.2 == 0)) == true) (.agg [.int .i64 5, .int .i64 6, .str ([] : List UInt8)])), (52, .cnd ((((v1.2 == 0) && (v1.1 == ([97, 120, 121, 99, 100, 122, 101, 102] : List UInt8))) && (v2.2 == 0)) == true) (.agg [.int .i64 1, .int .i64 3, .str ([98] : List UInt8)])), (51, .cnd ((((v1.2 == 0) && (v1.1 == ([97, 120, 121, 99, 100, 122, 101, 102] : List UInt8))) && (v2.2 == 0)) == true) (.isl 3 (v2.1.map e_TextEdit) false)), (50, .bool (((v1.2 == 0) && (v1.1 == ([97, 120, 121, 99, 100, 122, 101, 102] : List UInt8))) && (v2.2 == 0))), (49, .bool (((v1.2 == 0) && (v1.1 == ([97, 120, 121, 99, 100, 122, 101, 102] : List UInt8))) && (v2.2 == 0))), (48, .cnd (((v1.2 == 0) && (v1.1 == ([97, 120, 121, 99, 100, 122, 101, 102] : List UInt8))) == true) (.bool (v2.2 == 0))), (47, .cnd (((v1.2 == 0) && (v1.1 == ([97, 120, 121, 99, 100, 122, 101, 102] : List UInt8))) == true) (.int .i64 v2.2)), (46, .bool ((v1.2 == 0) && (v1.1 == ([97, 120, 121, 99, 100, 122, 101, 102] : List UInt8)))), (45, .bool ((v1.2 == 0) && (v1.1 == ([97, 120, 121, 99, 100, 122, 101, 102] : List UInt8)))), (44, .cnd ((v1.2 == 0) == true) (.bool (v1.1 == ([97, 120, 121, 99, 100, 122, 101, 102] : List UInt8)))), (43, .cnd ((v1.2 == 0) == true) (.str v1.1)), (42, .bool (v1.2 == 0)), (41, .bool (v1.2 == 0)), (40, .int .i64 v1.2), (2, .str v1.1), (3, .int .i64 v1.2), (4, .isl 3 (v2.1.map e_TextEdit) false), (5, .int .i64 v2.2), (6, .isl 3 (v3.1.map e_TextEdit) false), (7, .int .i64 v3.2), (8, .isl 3 (v4.1.map e_TextEdit) false), (9, .isl 3 (v4.2.1.map e_TextEdit) false), (10, .int .i64 v4.2.2)] _ _
  refine And.intro (fun hp => hp) ?_
  refine And.intro (fun hc => (bqt hc)) ?_
  refine Or.inl (Exists.intro (.isl 3 (([(G_TextEdit.mk 1 3 ([120] : List UInt8)), (G_TextEdit.mk 4 4 ([122] : List UInt8))] : List G_TextEdit).map e_TextEdit) true) (And.intro (fun hp => And.intro (And.intro hp hp) (And.intro rfl (And.intro rfl rfl))) ?_))
  obtain ⟨v6, h6, h⟩ := bind_some h
  refine Or.inl (Exists.intro (.bool v6) (And.intro (fun hp => And.intro (And.intro hp hp) (PFn.call (f13_ok (ite_tt hp h6)) (And.intro (Vw.same _ rfl) (And.intro (Vw.islF _ _ _) trivial)) (And.intro rfl (And.intro rfl rfl)))) ?_))
  refine And.intro (fun hc => (bqt hc)) ?_
  show yops _ _ _ [(67, .bool ((((((v1.2 == 0) && (v1.1 == ([97, 120, 121, 99, 100, 122, 101, 102] : List UInt8))) && (v2.2 == 0)) && v5) && (v3.2 == 0)) && v6)), (66, .cnd ((((((v1.2 == 0) && (v1.1 == ([97, 120, 121, 99, 100, 122, 101, 102] : List UInt8))) && (v2.2 == 0)) && v5) && (v3.2 == 0)) == true) (.bool v6)), (65, .cnd ((((((v1.2 == 0) && (v1.1 == ([97, 120, 121, 99, 100, 122, 101, 102] : List UInt8))) && (v2.2 == 0)) && v5) && (v3.2 == 0)) == true) (.isl 3 (([(G_TextEdit.mk 1 3 ([120] : List UInt8)), (G_TextEdit.mk 4 4 ([122] : List UInt8))] : List G_TextEdit).map e_TextEdit) true)), (64, .cnd ((((((v1.2 == 0) && (v1.1 == ([97, 120, 121, 99, 100, 122, 101, 102] : List UInt8))) && (v2.2 == 0)) && v5) && (v3.2 == 0)) == true) (.agg [.int .i64 4, .int .i64 4, .str ([122] : List UInt8)])), (63, .cnd ((((((v1.2 == 0) && (v1.1 == ([97, 120, 121, 99, 100, 122, 101, 102] : List UInt8))) && (v2.2 == 0)) && v5) && (v3.2 == 0)) == true) (.agg [.int .i64 1, .int .i64 3, .str ([120] : List UInt8)])), (62, .cnd ((((((v1.2 == 0) && (v1.1 == ([97, 120, 121, 99, 100, 122, 101, 102] : List UInt8))) && (v2.2 == 0)) && v5) && (v3.2 == 0)) == true) (.isl 3 (v3.1.map e_TextEdit) false)), (61, .bool (((((v1.2 == 0) && (v1.1 == ([97, 120, 121, 99, 100, 122, 101, 102] : List UInt8))) && (v2.2 == 0)) && v5) && (v3.2 == 0))), (60, .bool (((((v1.2 == 0) && (v1.1 == ([97, 120, 121, 99, 100, 122, 101, 102] : List UInt8))) && (v2.2 == 0)) && v5) && (v3.2 == 0))), (59, .cnd (((((v1.2 == 0) && (v1.1 == ([97, 120, 121, 99, 100, 122, 101, 102] : List UInt8))) && (v2.2 == 0)) && v5) == true) (.bool (v3.2 == 0))), (58, .cnd (((((v1.2 == 0) && (v1.1 == ([97, 120, 121, 99, 100, 122, 101, 102] : List UInt8))) && (v2.2 == 0)) && v5) == true) (.int .i64 v3.2)), (57, .bool ((((v1.2 == 0) && (v1.1 == ([97, 120, 121, 99, 100, 122, 101, 102] : List UInt8))) && (v2.2 == 0)) && v5)), (56, .bool ((((v1.2 == 0) && (v1.1 == ([97, 120, 121, 99, 100, 122, 101, 102] : List UInt8))) && (v2.2 == 0)) && v5)), (55, .cnd ((((v1.2 == 0) && (v1.1 == ([97, 120, 121, 99, 100, 122, 101, 102] : List UInt8))) && (v2.2 == 0)) == true) (.bool v5)), (54, .cnd ((((v1.2 == 0) && (v1.1 == ([97, 120, 121, 99, 100, 122, 101, 102] : List UInt8))) && (v2.2 == 0)) == true) (.isl 3 (([(G_TextEdit.mk 1 3 ([98] : List UInt8)), (G_TextEdit.mk 5 6 ([] : List UInt8))] : List G_TextEdit).map e_TextEdit) true)), (53, .cnd ((((v1.2 == 0) && (v1.1 == ([97, 120, 121, 99, 100, 122, 101, 102] : List UInt8))) && (v2.2 == 0)) == true) (.agg [.int .i64 5, .int .i64 6, .str ([] : List UInt8)])), (52, .cnd ((((v1.2 == 0) && (v1.1 == ([97, 120, 121, 99, 100, 122, 101, 102] : List UInt8))) && (v2.2 == 0)) == true) (.agg [.int .i64 1, .int .i64 3, .str ([98] : List UInt8)])), (51, .cnd ((((v1.2 == 0) && (v1.1 == ([97, 120, 121, 99, 100, 122, 101, 102] : List UInt8))) && (v2.2 == 0)) == true) (.isl 3 (v2.1.map e_TextEdit) false)), (50, .bool (((v1.2 == 0) && (v1.1 == ([97, 120, 121, 99, 100, 122, 101, 102] : List UInt8))) && (v2.2 == 0))), (49, .bool (((v1.2 == 0) && (v1.1 == ([97, 120, 121, 99, 100, 122, 101, 102] : List UInt8))) && (v2.2 == 0))), (48, .cnd (((v1.2 == 0) && (v1.1 == ([97, 120, 121, 99, 100, 122, 101, 102] : List UInt8))) == true) (.bool (v2.2 == 0))), (47, .cnd (((v1.2 == 0) && (v1.1 == ([97, 120, 121, 99, 100, 122, 101, 102] : List UInt8))) == true) (.int .i64 v2.2)), (46, .bool ((v1.2 == 0) && (v1.1 == ([97, 120, 121, 99, 100, 122, 101, 102] : List UInt8)))), (45, .bool ((v1.2 == 0) && (v1.1 == ([97, 120, 121, 99, 100, 122, 101, 102] : List UInt8)))), (44, .cnd ((v1.2 == 0) == true) (.bool (v1.1 == ([97, 120, 121, 99, 100, 122, 101, 102] : List UInt8)))), (43, .cnd ((v1.2 == 0) == true) (.str v1.1)), (42, .bool (v1.2 == 0)), (41, .bool (v1.2 == 0)), (40, .int .i64 v1.2), (2, .str v1.1), (3, .int .i64 v1.2), (4, .isl 3 (v2.1.map e_TextEdit) false), (5, .int .i64 v2.2), (6, .isl 3 (v3.1.map e_TextEdit) false), (7, .int .i64 v3.2), (8, .isl 3 (v4.1.map e_TextEdit) false), (9, .isl 3 (v4.2.1.map e_TextEdit) false), (10, .int .i64 v4.2.2)] _ _
  refine And.intro (fun hp => hp) ?_
  refine And.intro (fun hc => (bqt hc)) ?_
  refine Or.inl (Exists.intro (.isl 3 (([(G_TextEdit.mk 1 1 ([49] : List UInt8))] : List G_TextEdit).map e_TextEdit) true) (And.intro (fun hp => And.intro hp (And.intro rfl (And.intro rfl rfl))) ?_))
  obtain ⟨v7, h7, h⟩ := bind_some h
  refine Or.inl (Exists.intro (.bool v7) (And.intro (fun hp => And.intro (And.intro hp hp) (PFn.call (f13_ok (ite_tt hp h7)) (And.intro (Vw.same _ rfl) (And.intro (Vw.islF _ _ _) trivial)) (And.intro rfl (And.intro rfl rfl)))) ?_))
  refine And.intro (fun hc => (bqt hc)) ?_
  show yops _ _ _ [(77, .bool ((((((((v1.2 == 0) && (v1.1 == ([97, 120, 121, 99, 100, 122, 101, 102] : List UInt8))) && (v2.2 == 0)) && v5) && (v3.2 == 0)) && v6) && (v4.2.2 == 0)) && v7)), (76, .cnd ((((((((v1.2 == 0) && (v1.1 == ([97, 120, 121, 99, 100, 122, 101, 102] : List UInt8))) && (v2.2 == 0)) && v5) && (v3.2 == 0)) && v6) && (v4.2.2 == 0)) == true) (.bool v7)), (75, .cnd ((((((((v1.2 == 0) && (v1.1 == ([97, 120, 121, 99, 100, 122, 101, 102] : List UInt8))) && (v2.2 == 0)) && v5) && (v3.2 == 0)) && v6) && (v4.2.2 == 0)) == true) (.isl 3 (([(G_TextEdit.mk 1 1 ([49] : List UInt8))] : List G_TextEdit).map e_TextEdit) true)), (74, .cnd ((((((((v1.2 == 0) && (v1.1 == ([97, 120, 121, 99, 100, 122, 101, 102] : List UInt8))) && (v2.2 == 0)) && v5) && (v3.2 == 0)) && v6) && (v4.2.2 == 0)) == true) (.agg [.int .i64 1, .int .i64 1, .str ([49] : List UInt8)])), (73, .cnd ((((((((v1.2 == 0) && (v1.1 == ([97, 120, 121, 99, 100, 122, 101, 102] : List UInt8))) && (v2.2 == 0)) && v5) && (v3.2 == 0)) && v6) && (v4.2.2 == 0)) == true) (.isl 3 (v4.1.map e_TextEdit) false)), (72, .bool (((((((v1.2 == 0) && (v1.1 == ([97, 120, 121, 99, 100, 122, 101, 102] : List UInt8))) && (v2.2 == 0)) && v5) && (v3.2 == 0)) && v6) && (v4.2.2 == 0))), (71, .bool (((((((v1.2 == 0) && (v1.1 == ([97, 120, 121, 99, 100, 122, 101, 102] : List UInt8))) && (v2.2 == 0)) && v5) && (v3.2 == 0)) && v6) && (v4.2.2 == 0))), (70, .cnd (((((((v1.2 == 0) && (v1.1 == ([97, 120, 121, 99, 100, 122, 101, 102] : List UInt8))) && (v2.2 == 0)) && v5) && (v3.2 == 0)) && v6) == true) (.bool (v4.2.2 == 0))), (69, .cnd (((((((v1.2 == 0) && (v1.1 == ([97, 120, 121, 99, 100, 122, 101, 102] : List UInt8))) && (v2.2 == 0)) && v5) && (v3.2 == 0)) && v6) == true) (.int .i64 v4.2.2)), (68, .bool ((((((v1.2 == 0) && (v1.1 == ([97, 120, 121, 99, 100, 122, 101, 102] : List UInt8))) && (v2.2 == 0)) && v5) && (v3.2 == 0)) && v6)), (67, .bool ((((((v1.2 == 0) && (v1.1 == ([97, 120, 121, 99, 100, 122, 101, 102] : List UInt8))) && (v2.2 == 0)) && v5) && (v3.2 == 0)) && v6)), (66, .cnd ((((((v1.2 == 0) && (v1.1 == ([97, 120, 121, 99, 100, 122, 101, 102] : List UInt8))) && (v2.2 == 0)) && v5) && (v3.2 == 0)) == true) (.bool v6)), (65, .cnd ((((((v1.2 == 0) && (v1.1 == ([97, 120, 121, 99, 100, 122, 101, 102] : List UInt8))) && (v2.2 == 0)) && v5) && (v3.2 == 0)) == true) (.isl 3 (([(G_TextEdit.mk 1 3 ([120] : List UInt8)), (G_TextEdit.mk 4 4 ([122] : List UInt8))] : List G_TextEdit).map e_TextEdit) true)), (64, .cnd ((((((v1.2 == 0) && (v1.1 == ([97, 120, 121, 99, 100, 122, 101, 102] : List UInt8))) && (v2.2 == 0)) && v5) && (v3.2 == 0)) == true) (.agg [.int .i64 4, .int .i64 4, .str ([122] : List UInt8)])), (63, .cnd ((((((v1.2 == 0) && (v1.1 == ([97, 120, 121, 99, 100, 122, 101, 102] : List UInt8))) && (v2.2 == 0)) && v5) && (v3.2 == 0)) == true) (.agg [.int .i64 1, .int .i64 3, .str ([120] : List UInt8)])), (62, .cnd ((((((v1.2 == 0) && (v1.1 == ([97, 120, 121, 99, 100, 122, 101, 102] : List UInt8))) && (v2.2 == 0)) && v5) && (v3.2 == 0)) == true) (.isl 3 (v3.1.map e_TextEdit) false)), (61, .bool (((((v1.2 == 0) && (v1.1 == ([97, 120, 121, 99, 100, 122, 101, 102] : List UInt8))) && (v2.2 == 0)) && v5) && (v3.2 == 0))), (60, .bool (((((v1.2 == 0) && (v1.1 == ([97, 120, 121, 99, 100, 122, 101, 102] : List UInt8))) && (v2.2 == 0)) && v5) && (v3.2 == 0))), (59, .cnd (((((v1.2 == 0) && (v1.1 == ([97, 120, 121, 99, 100, 122, 101, 102] : List UInt8))) && (v2.2 == 0)) && v5) == true) (.bool (v3.2 == 0))), (58, .cnd (((((v1.2 == 0) && (v1.1 == ([97, 120, 121, 99, 100, 122, 101, 102] : List UInt8))) && (v2.2 == 0)) && v5) == true) (.int .i64 v3.2)), (57, .bool ((((v1.2 == 0) && (v1.1 == ([97, 120, 121, 99, 100, 122, 101, 102] : List UInt8))) && (v2.2 == 0)) && v5)), (56, .bool ((((v1.2 == 0) && (v1.1 == ([97, 120, 121, 99, 100, 122, 101, 102] : List UInt8))) && (v2.2 == 0)) && v5)), (55, .cnd ((((v1.2 == 0) && (v1.1 == ([97, 120, 121, 99, 100, 122, 101, 102] : List UInt8))) && (v2.2 == 0)) == true) (.bool v5)), (54, .cnd ((((v1.2 == 0) && (v1.1 == ([97, 120, 121, 99, 100, 122, 101, 102] : List UInt8))) && (v2.2 == 0)) == true) (.isl 3 (([(G_TextEdit.mk 1 3 ([98] : List UInt8)), (G_TextEdit.mk 5 6 ([] : List UInt8))] : List G_TextEdit).map e_TextEdit) true)), (53, .cnd ((((v1.2 == 0) && (v1.1 == ([97, 120, 121, 99, 100, 122, 101, 102] : List UInt8))) && (v2.2 == 0)) == true) (.agg [.int .i64 5, .int .i64 6, .str ([] : List UInt8)])), (52, .cnd ((((v1.2 == 0) && (v1.1 == ([97, 120, 121, 99, 100, 122, 101, 102] : List UInt8))) && (v2.2 == 0)) == true) (.agg [.int .i64 1, .int .i64 3, .str ([98] : List UInt8)])), (51, .cnd ((((v1.2 == 0) && (v1.1 == ([97, 120, 121, 99, 100, 122, 101, 102] : List UInt8))) && (v2.2 == 0)) == true) (.isl 3 (v2.1.map e_TextEdit) false)), (50, .bool (((v1.2 == 0) && (v1.1 == ([97, 120, 121, 99, 100, 122, 101, 102] : List UInt8))) && (v2.2 == 0))), (49, .bool (((v1.2 == 0) && (v1.1 == ([97, 120, 121, 99, 100, 122, 101, 102] : List UInt8))) && (v2.2 == 0))), (48, .cnd (((v1.2 == 0) && (v1.1 == ([97, 120, 121, 99, 100, 122, 101, 102] : List UInt8))) == true) (.bool (v2.2 == 0))), (47, .cnd (((v1.2 == 0) && (v1.1 == ([97, 120, 121, 99, 100, 122, 101, 102] : List UInt8))) == true) (.int .i64 v2.2)), (46, .bool ((v1.2 == 0) && (v1.1 == ([97, 120, 121, 99, 100, 122, 101, 102] : List UInt8)))), (45, .bool ((v1.2 == 0) && (v1.1 == ([97, 120, 121, 99, 100, 122, 101, 102] : List UInt8)))), (44, .cnd ((v1.2 == 0) == true) (.bool (v1.1 == ([97, 120, 121, 99, 100, 122, 101, 102] : List UInt8)))), (43, .cnd ((v1.2 == 0) == true) (.str v1.1)), (42, .bool (v1.2 == 0)), (41, .bool (v1.2 == 0)), (40, .int .i64 v1.2), (2, .str v1.1), (3, .int .i64 v1.2), (4, .isl 3 (v2.1.map e_TextEdit) false), (5, .int .i64 v2.2), (6, .isl 3 (v3.1.map e_TextEdit) false), (7, .int .i64 v3.2), (8, .isl 3 (v4.1.map e_TextEdit) false), (9, .isl 3 (v4.2.1.map e_TextEdit) false), (10, .int .i64 v4.2.2)] _ _
  refine Or.inl (Exists.intro (.isl 3 (([(G_TextEdit.mk 0 1 ([50] : List UInt8)), (G_TextEdit.mk 2 3 ([] : List UInt8))] : List G_TextEdit).map e_TextEdit) true) (And.intro (fun hp => And.intro (And.intro hp hp) (And.intro rfl (And.intro rfl rfl))) ?_))
  obtain ⟨v8, h8, h⟩ := bind_some h
  refine Or.inl (Exists.intro (.bool v8) (And.intro (fun hp => And.intro (And.intro hp hp) (PFn.call (f13_ok (ite_tt hp h8)) (And.intro (Vw.same _ rfl) (And.intro (Vw.islF _ _ _) trivial)) (And.intro rfl (And.intro rfl rfl)))) ?_))
  refine And.intro (fun hc => (bqt hc)) ?_
  show yops _ _ _ [(84, .bool (((((((((v1.2 == 0) && (v1.1 == ([97, 120, 121, 99, 100, 122, 101, 102] : List UInt8))) && (v2.2 == 0)) && v5) && (v3.2 == 0)) && v6) && (v4.2.2 == 0)) && v7) && v8)), (83, .cnd (((((((((v1.2 == 0) && (v1.1 == ([97, 120, 121, 99, 100, 122, 101, 102] : List UInt8))) && (v2.2 == 0)) && v5) && (v3.2 == 0)) && v6) && (v4.2.2 == 0)) && v7) == true) (.bool v8)), (82, .cnd (((((((((v1.2 == 0) && (v1.1 == ([97, 120, 121, 99, 100, 122, 101, 102] : List UInt8))) && (v2.2 == 0)) && v5) && (v3.2 == 0)) && v6) && (v4.2.2 == 0)) && v7) == true) (.isl 3 (([(G_TextEdit.mk 0 1 ([50] : List UInt8)), (G_TextEdit.mk 2 3 ([] : List UInt8))] : List G_TextEdit).map e_TextEdit) true)), (81, .cnd (((((((((v1.2 == 0) && (v1.1 == ([97, 120, 121, 99, 100, 122, 101, 102] : List UInt8))) && (v2.2 == 0)) && v5) && (v3.2 == 0)) && v6) && (v4.2.2 == 0)) && v7) == true) (.agg [.int .i64 2, .int .i64 3, .str ([] : List UInt8)])), (80, .cnd (((((((((v1.2 == 0) && (v1.1 == ([97, 120, 121, 99, 100, 122, 101, 102] : List UInt8))) && (v2.2 == 0)) && v5) && (v3.2 == 0)) && v6) && (v4.2.2 == 0)) && v7) == true) (.agg [.int .i64 0, .int .i64 1, .str ([50] : List UInt8)])), (79, .cnd (((((((((v1.2 == 0) && (v1.1 == ([97, 120, 121, 99, 100, 122, 101, 102] : List UInt8))) && (v2.2 == 0)) && v5) && (v3.2 == 0)) && v6) && (v4.2.2 == 0)) && v7) == true) (.isl 3 (v4.2.1.map e_TextEdit) false)), (78, .bool ((((((((v1.2 == 0) && (v1.1 == ([97, 120, 121, 99, 100, 122, 101, 102] : List UInt8))) && (v2.2 == 0)) && v5) && (v3.2 == 0)) && v6) && (v4.2.2 == 0)) && v7)), (77, .bool ((((((((v1.2 == 0) && (v1.1 == ([97, 120, 121, 99, 100, 122, 101, 102] : List UInt8))) && (v2.2 == 0)) && v5) && (v3.2 == 0)) && v6) && (v4.2.2 == 0)) && v7)), (76, .cnd ((((((((v1.2 == 0) && (v1.1 == ([97, 120, 121, 99, 100, 122, 101, 102] : List UInt8))) && (v2.2 == 0)) && v5) && (v3.2 == 0)) && v6) && (v4.2.2 == 0)) == true) (.bool v7)), (75, .cnd ((((((((v1.2 == 0) && (v1.1 == ([97, 120, 121, 99, 100, 122, 101, 102] : List UInt8))) && (v2.2 == 0)) && v5) && (v3.2 == 0)) && v6) && (v4.2.2 == 0)) == true) (.isl 3 (([(G_TextEdit.mk 1 1 ([49] : List UInt8))] : List G_TextEdit).map e_TextEdit) true)), (74, .cnd ((((((((v1.2 == 0) && (v1.1 == ([97, 120, 121, 99, 100, 122, 101, 102] : List UInt8))) && (v2.2 == 0)) && v5) && (v3.2 == 0)) && v6) && (v4.2.2 == 0)) == true) (.agg [.int .i64 1, .int .i64 1, .str ([49] : List UInt8)])), (73, .cnd ((((((((v1.2 == 0) && (v1.1 == ([97, 120, 121, 99, 100, 122, 101, 102] : List UInt8))) && (v2.2 == 0)) && v5) && (v3.2 == 0)) && v6) && (v4.2.2 == 0)) == true) (.isl 3 (v4.1.map e_TextEdit) false)), (72, .bool (((((((v1.2 == 0) && (v1.1 == ([97, 120, 121, 99, 100, 122, 101, 102] : List UInt8))) && (v2.2 == 0)) && v5) && (v3.2 == 0)) && v6) && (v4.2.2 == 0))), (71, .bool (((((((v1.2 == 0) && (v1.1 == ([97, 120, 121, 99, 100, 122, 101, 102] : List UInt8))) && (v2.2 == 0)) && v5) && (v3.2 == 0)) && v6) && (v4.2.2 == 0))), (70, .cnd (((((((v1.2 == 0) && (v1.1 == ([97, 120, 121, 99, 100, 122, 101, 102] : List UInt8))) && (v2.2 == 0)) && v5) && (v3.2 == 0)) && v6) == true) (.bool (v4.2.2 == 0))), (69, .cnd (((((((v1.2 == 0) && (v1.1 == ([97, 120, 121, 99, 100, 122, 101, 102] : List UInt8))) && (v2.2 == 0)) && v5) && (v3.2 == 0)) && v6) == true) (.int .i64 v4.2.2)), (68, .bool ((((((v1.2 == 0) && (v1.1 == ([97, 120, 121, 99, 100, 122, 101, 102] : List UInt8))) && (v2.2 == 0)) && v5) && (v3.2 == 0)) && v6)), (67, .bool ((((((v1.2 == 0) && (v1.1 == ([97, 120, 121, 99, 100, 122, 101, 102] : List UInt8))) && (v2.2 == 0)) && v5) && (v3.2 == 0)) && v6)), (66, .cnd ((((((v1.2 == 0) && (v1.1 == ([97, 120, 121, 99, 100, 122, 101, 102] : List UInt8))) && (v2.2 == 0)) && v5) && (v3.2 == 0)) == true) (.bool v6)), (65, .cnd ((((((v1.2 == 0) && (v1.1 == ([97, 120, 121, 99, 100, 122, 101, 102] : List UInt8))) && (v2.2 == 0)) && v5) && (v3.2 == 0)) == true) (.isl 3 (([(G_TextEdit.mk 1 3 ([120] : List UInt8)), (G_TextEdit.mk 4 4 ([122] : List UInt8))] : List G_TextEdit).map e_TextEdit) true)), (64, .cnd ((((((v1.2 == 0) && (v1.1 == ([97, 120, 121, 99, 100, 122, 101, 102] : List UInt8))) && (v2.2 == 0)) && v5) && (v3.2 == 0)) == true) (.agg [.int .i64 4, .int .i64 4, .str ([122] : List UInt8)])), (63, .cnd ((((((v1.2 == 0) && (v1.1 == ([97, 120, 121, 99, 100, 122, 101, 102] : List UInt8))) && (v2.2 == 0)) && v5) && (v3.2 == 0)) == true) (.agg [.int .i64 1, .int .i64 3, .str ([120] : List UInt8)])), (62, .cnd ((((((v1.2 == 0) && (v1.1 == ([97, 120, 121, 99, 100, 122, 101, 102] : List UInt8))) && (v2.2 == 0)) && v5) && (v3.2 == 0)) == true) (.isl 3 (v3.1.map e_TextEdit) false)), (61, .bool (((((v1.2 == 0) && (v1.1 == ([97, 120, 121, 99, 100, 122, 101, 102] : List UInt8))) && (v2.2 == 0)) && v5) && (v3.2 == 0))), (60, .bool (((((v1.2 == 0) && (v1.1 == ([97, 120, 121, 99, 100, 122, 101, 102] : List UInt8))) && (v2.2 == 0)) && v5) && (v3.2 == 0))), (59, .cnd (((((v1.2 == 0) && (v1.1 == ([97, 120, 121, 99, 100, 122, 101, 102] : List UInt8))) && (v2.2 == 0)) && v5) == true) (.bool (v3.2 == 0))), (58, .cnd (((((v1.2 == 0) && (v1.1 == ([97, 120, 121, 99, 100, 122, 101, 102] : List UInt8))) && (v2.2 == 0)) && v5) == true) (.int .i64 v3.2)), (57, .bool ((((v1.2 == 0) && (v1.1 == ([97, 120, 121, 99, 100, 122, 101, 102] : List UInt8))) && (v2.2 == 0)) && v5)), (56, .bool ((((v1.2 == 0) && (v1.1 == ([97, 120, 121, 99, 100, 122, 101, 102] : List UInt8))) && (v2.2 == 0)) && v5)), (55, .cnd ((((v1.2 == 0) && (v1.1 == ([97, 120, 121, 99, 100, 122, 101, 102] : List UInt8))) && (v2.2 == 0)) == true) (.bool v5)), (54, .cnd ((((v1.2 == 0) && (v1.1 == ([97, 120, 121, 99, 100, 122, 101, 102] : List UInt8))) && (v2.2 == 0)) == true) (.isl 3 (([(G_TextEdit.mk 1 3 ([98] : List UInt8)), (G_TextEdit.mk 5 6 ([] : List UInt8))] : List G_TextEdit).map e_TextEdit) true)), (53, .cnd ((((v1.2 == 0) && (v1.1 == ([97, 120, 121, 99, 100, 122, 101, 102] : List UInt8))) && (v2.2 == 0)) == true) (.agg [.int .i64 5, .int .i64 6, .str ([] : List UInt8)])), (52, .cnd ((((v1.2 == 0) && (v1.1 == ([97, 120, 121, 99, 100, 122, 101, 102] : List UInt8))) && (v2.2 == 0)) == true) (.agg [.int .i64 1, .int .i64 3, .str ([98] : List UInt8)])), (51, .cnd ((((v1.2 == 0) && (v1.1 == ([97, 120, 121, 99, 100, 122, 101, 102] : List UInt8))) && (v2.2 == 0)) == true) (.isl 3 (v2.1.map e_TextEdit) false)), (50, .bool (((v1.2 == 0) && (v1.1 == ([97, 120, 121, 99, 100, 122, 101, 102] : List UInt8))) && (v2.2 == 0))), (49, .bool (((v1.2 == 0) && (v1.1 == ([97, 120, 121, 99, 100, 122, 101, 102] : List UInt8))) && (v2.2 == 0))), (48, .cnd (((v1.2 == 0) && (v1.1 == ([97, 120, 121, 99, 100, 122, 101, 102] : List UInt8))) == true) (.bool (v2.2 == 0))), (47, .cnd (((v1.2 == 0) && (v1.1 == ([97, 120, 121, 99, 100, 122, 101, 102] : List UInt8))) == true) (.int .i64 v2.2)), (46, .bool ((v1.2 == 0) && (v1.1 == ([97, 120, 121, 99, 100, 122, 101, 102] : List UInt8)))), (45, .bool ((v1.2 == 0) && (v1.1 == ([97, 120, 121, 99, 100, 122, 101, 102] : List UInt8)))), (44, .cnd ((v1.2 == 0) == true) (.bool (v1.1 == ([97, 120, 121, 99, 100, 122, 101, 102] : List UInt8)))), (43, .cnd ((v1.2 == 0) == true) (.str v1.1)), (42, .bool (v1.2 == 0)), (41, .bool (v1.2 == 0)), (40, .int .i64 v1.2), (2, .str v1.1), (3, .int .i64 v1.2), (4, .isl 3 (v2.1.map e_TextEdit) false), (5, .int .i64 v2.2), (6, .isl 3 (v3.1.map e_TextEdit) false), (7, .int .i64 v3.2), (8, .isl 3 (v4.1.map e_TextEdit) false), (9, .isl 3 (v4.2.1.map e_TextEdit) false), (10, .int .i64 v4.2.2)] _ _
  refine LWp.sim (e := [(0, .bool (((((((((v1.2 == 0) && (v1.1 == ([97, 120, 121, 99, 100, 122, 101, 102] : List UInt8))) && (v2.2 == 0)) && v5) && (v3.2 == 0)) && v6) && (v4.2.2 == 0)) && v7) && v8))]) (L := []) (n := 0) ?_ ?_
  · exact simI (M := []) rfl (And.intro (Vw.same _ rfl) trivial) trivial
  refine retI ?_
  cases h
  exact And.intro trivial (And.intro rfl (Vw.same _ rfl))

theorem f6_ok {m : Option Nat} {o : Bool} (h : S_glossatorlaw4_texteditExamples m = some o) : PFn Try.prog 6 [] (.bool o) := PFn.ofFnW (L := f6_L) f6_low f6_fok (Nat.le_of_ble_eq_true rfl) rfl (f6_start h)

def f9_c2 : LCode := (.seq (.region [⟨some 33, .mv (.t 1), none⟩,
   ⟨some 34, .mv (.t 6), none⟩,
   ⟨some 35, .iaddr 3 (.t 33) (.t 34), none⟩,
   ⟨some 36, .load true 3 (.t 35), none⟩,
   ⟨some 8, .alloc [(.int .i64 0), (.int .i64 0), (.str [])], none⟩,
   ⟨none, .store 3 (.t 8) (.t 36), none⟩])
 (.seq (.seq (.region [⟨some 37, .faddr 0 (.t 8), none⟩,
   ⟨some 38, .load false 1 (.t 37), none⟩,
   ⟨some 39, .bin .lss (.t 38) (.c (.int .i64 0)), none⟩,
   ⟨some 40, .mv (.t 39), none⟩,
   ⟨some 41, .faddr 0 (.t 8), some (40, false)⟩,
   ⟨some 42, .load false 1 (.t 41), some (40, false)⟩,
   ⟨some 43, .mv (.t 7), some (40, false)⟩,
   ⟨some 44, .bin .leq (.t 42) (.t 43), some (40, false)⟩,
   ⟨some 45, .pick (.t 40) (.c (.bool true)) (.t 44), none⟩,
   ⟨some 46, .mv (.t 45), none⟩,
   ⟨some 47, .faddr 1 (.t 8), some (46, false)⟩,
   ⟨some 48, .load false 1 (.t 47), some (46, false)⟩,
   ⟨some 49, .faddr 0 (.t 8), some (46, false)⟩,
   ⟨some 50, .load false 1 (.t 49), some (46, false)⟩,
   ⟨some 51, .bin .lss (.t 48) (.t 50), some (46, false)⟩,
   ⟨some 52, .pick (.t 46) (.c (.bool true)) (.t 51), none⟩,
   ⟨some 53, .mv (.t 52), none⟩,
   ⟨some 54, .faddr 1 (.t 8), some (53, false)⟩,
   ⟨some 55, .load false 1 (.t 54), some (53, false)⟩,
   ⟨some 56, .mv (.t 0), some (53, false)⟩,
   ⟨some 57, .len true (.t 56), some (53, false)⟩,
   ⟨some 58, .bin .gtr (.t 55) (.t 57), some (53, false)⟩,
   ⟨some 59, .pick (.t 53) (.c (.bool true)) (.t 58), none⟩])
 (.cond (.t 59)
  (.seq (.region [⟨some 4, .mv (.c (.int .i64 3)), none⟩])
  .ret)
  .skip))
 (.region [⟨some 60, .mv (.t 5), none⟩,
   ⟨some 61, .faddr 2 (.t 8), none⟩,
   ⟨some 62, .load false 1 (.t 61), none⟩,
   ⟨some 63, .len true (.t 62), none⟩,
   ⟨some 64, .bin .add (.t 60) (.t 63), none⟩,
   ⟨some 65, .faddr 0 (.t 8), none⟩,
   ⟨some 66, .load false 1 (.t 65), none⟩,
   ⟨some 67, .bin .add (.t 64) (.t 66), none⟩,
   ⟨some 68, .faddr 1 (.t 8), none⟩,
   ⟨some 69, .load false 1 (.t 68), none⟩,
   ⟨some 70, .bin .sub (.t 67) (.t 69), none⟩,
   ⟨some 5, .mv (.t 70), none⟩])))
def f9_c0 : LCode := (.region [⟨some 23, .mv (.t 6), none⟩,
   ⟨some 24, .bin .add (.t 23) (.c (.int .i64 1)), none⟩,
   ⟨some 6, .mv (.t 24), none⟩])
def f9_c3 : LCode := (.seq (.seq (.region [⟨some 19, .mv (.t 6), none⟩,
   ⟨some 20, .mv (.t 1), none⟩,
   ⟨some 21, .len false (.t 20), none⟩,
   ⟨some 22, .bin .lss (.t 19) (.t 21), none⟩])
 (.cond (.t 22)
  .skip
  (.exit 0)))
 (.seq (.block 1
  (.seq (.region [⟨some 7, .mv (.c (.int .i64 (-1))), none⟩])
  (.seq (.seq (.region [⟨some 25, .mv (.t 6), none⟩,
    ⟨some 26, .bin .gtr (.t 25) (.c (.int .i64 0)), none⟩])
  (.cond (.t 26)
   (.region [⟨some 27, .mv (.t 1), none⟩,
     ⟨some 28, .mv (.t 6), none⟩,
     ⟨some 29, .bin .sub (.t 28) (.c (.int .i64 1)), none⟩,
     ⟨some 30, .iaddr 3 (.t 27) (.t 29), none⟩,
     ⟨some 31, .faddr 1 (.t 30), none⟩,
     ⟨some 32, .load false 1 (.t 31), none⟩,
     ⟨some 7, .mv (.t 32), none⟩])
   .skip))
  f9_c2)))
 f9_c0))
def f9_c1 : LCode := (.seq (.seq (.region [⟨some 71, .mv (.t 5), none⟩,
   ⟨some 72, .bin .gtr (.t 71) (.c (.int .i64 2000)), none⟩])
 (.cond (.t 72)
  (.seq (.region [⟨some 4, .mv (.c (.int .i64 2)), none⟩])
  .ret)
  .skip))
 (.seq (.region [⟨some 4, .mv (.c (.int .i64 0)), none⟩])
 .ret))
def f9_c4 : LCode := (.seq (.region [⟨some 4, .mv (.c (.int .i64 0)), none⟩])
 (.seq (.seq (.region [⟨some 9, .mv (.t 0), none⟩,
   ⟨some 10, .len true (.t 9), none⟩,
   ⟨some 11, .bin .gtr (.t 10) (.c (.int .i64 2000)), none⟩,
   ⟨some 12, .mv (.t 11), none⟩,
   ⟨some 13, .mv (.t 1), some (12, false)⟩,
   ⟨some 14, .len false (.t 13), some (12, false)⟩,
   ⟨some 15, .bin .gtr (.t 14) (.c (.int .i64 50)), some (12, false)⟩,
   ⟨some 16, .pick (.t 12) (.c (.bool true)) (.t 15), none⟩])
 (.cond (.t 16)
  (.seq (.region [⟨some 4, .mv (.c (.int .i64 2)), none⟩])
  .ret)
  .skip))
 (.seq (.region [⟨some 17, .mv (.t 0), none⟩,
   ⟨some 18, .len true (.t 17), none⟩,
   ⟨some 5, .mv (.t 18), none⟩])
 (.seq (.seq (.region [⟨some 6, .mv (.c (.int .i64 0)), none⟩])
 (.block 0
  (.loop
   f9_c3)))
 f9_c1))))
def f9_lay : Lay := ⟨73, [], false⟩
def f9_res : List LRes := [.t 4]
def f9_L : LFn := ⟨2, f9_lay, f9_c4, f9_res⟩
theorem f9_low : lowFn Try.prog [] 9 = some f9_L := by kernel_rfl
theorem f9_fok : FnOk Try.prog 9 := ⟨_, Try.func9, rfl, rfl⟩
def f9_Q (a0 : List UInt8) (a1 : List G_TextEdit) (o : Int) : Exit → Env → AHeap → Nat → Prop := FinK f9_res (PureEnd (.int .i64 o))

def f9_L1_env (a0 : List UInt8) (a1 : List G_TextEdit) (s : (Int × Int)) : Env := [(0, .str a0), (1, .isl 3 (a1.map e_TextEdit) false), (5, .int .i64 s.1), (6, .int .i64 s.2)]
def f9_L1_hp (a0 : List UInt8) (a1 : List G_TextEdit) (s : (Int × Int)) : AHeap := []
def f9_L1_Q (a0 : List UInt8) (a1 : List G_TextEdit) (o : Int) : Exit → Env → AHeap → Nat → Prop := (QBlock 0 (QSeq Try.prog f9_lay 0 f9_c1 (f9_Q a0 a1 o)))

noncomputable def S_glossatorref4_ValidateEdits_j3 (m : Option Nat) (a0 : List UInt8) (a1 : List G_TextEdit) (v2 : Int) (v3 : Int) (v5 : Int) : Option ((Int × Int) ⊕ Int) :=
  if (0 : Int) ≤ v3 ∧ v3 < ((a1.map e_TextEdit).length : Int) then
  if ((((decide ((a1.getD v3.toNat default).f_Start < 0)) || (decide ((a1.getD v3.toNat default).f_Start ≤ v5))) || (decide ((a1.getD v3.toNat default).f_End < (a1.getD v3.toNat default).f_Start))) || (decide ((a1.getD v3.toNat default).f_End > (a0.length : Int)))) = true then
    Option.map Sum.inr (
      some 3)
  else
    some (.inl ((W ((W ((W (v2 + (((a1.getD v3.toNat default).f_NewText).length : Int))) + (a1.getD v3.toNat default).f_Start)) - (a1.getD v3.toNat default).f_End)), (W (v3 + 1))))
  else none

theorem f9_j3_ok {a0 : List UInt8} {a1 : List G_TextEdit} {v2 : Int} {v3 : Int} {v5 : Int} {m : Option Nat} {o : ((Int × Int) ⊕ Int)} (h : S_glossatorref4_ValidateEdits_j3 m a0 a1 v2 v3 v5 = some o) :
    LWp Try.prog f9_lay 0 f9_c2 (QBlock 1 (QSeq Try.prog f9_lay 0 f9_c0 (BodyQ 0 0 (f9_L1_env a0 a1) (f9_L1_hp a0 a1) (f9_L1_Q a0 a1) o))) [(0, .str a0), (1, .isl 3 (a1.map e_TextEdit) false), (5, .int .i64 v2), (6, .int .i64 v3), (7, .int .i64 v5)] [] 0 := by
  unfold S_glossatorref4_ValidateEdits_j3 at h
  refine seqI ?_
  refine regI ?_
  obtain ⟨h15, h⟩ := ite_some h
  refine And.intro h15 ?_
  refine Exists.intro (e_TextEdit (a1.getD v3.toNat default)) (And.intro (getD_enc e_TextEdit _ _ (idx_ltL e_TextEdit h15)) (And.intro (And.intro (idx_lt h15) (Nat.le_of_ble_eq_true rfl)) ?_))
  refine seqI ?_
  refine seqI ?_
  refine regI ?_
  refine And.intro (fun hp => hp) ?_
  show yops _ _ _ [(42, .cnd ((decide ((a1.getD v3.toNat default).f_Start < 0)) == false) (.int .i64 ((a1.getD v3.toNat default).f_Start))), (41, .cnd ((decide ((a1.getD v3.toNat default).f_Start < 0)) == false) (.ptr (0, 0) 0 0)), (40, .bool (decide ((a1.getD v3.toNat default).f_Start < 0))), (39, .bool (decide ((a1.getD v3.toNat default).f_Start < 0))), (38, .int .i64 ((a1.getD v3.toNat default).f_Start)), (37, .ptr (0, 0) 0 0), (8, .ptr (0, 0) 0 0), (36, .agg [.int .i64 ((a1.getD v3.toNat default).f_Start), .int .i64 ((a1.getD v3.toNat default).f_End), .str ((a1.getD v3.toNat default).f_NewText)]), (35, .iptr 3 (a1.map e_TextEdit) v3.toNat 0), (34, .int .i64 v3), (33, .isl 3 (a1.map e_TextEdit) false), (0, .str a0), (1, .isl 3 (a1.map e_TextEdit) false), (5, .int .i64 v2), (6, .int .i64 v3), (7, .int .i64 v5)] _ _
  refine And.intro (fun hp => (And.intro hp hp)) ?_
  refine And.intro (fun hc => (bqf hc)) ?_
  refine And.intro (fun hp => hp) ?_
  show yops _ _ _ [(48, .cnd (((decide ((a1.getD v3.toNat default).f_Start < 0)) || (decide ((a1.getD v3.toNat default).f_Start ≤ v5))) == false) (.int .i64 ((a1.getD v3.toNat default).f_End))), (47, .cnd (((decide ((a1.getD v3.toNat default).f_Start < 0)) || (decide ((a1.getD v3.toNat default).f_Start ≤ v5))) == false) (.ptr (0, 0) 0 1)), (46, .bool ((decide ((a1.getD v3.toNat default).f_Start < 0)) || (decide ((a1.getD v3.toNat default).f_Start ≤ v5)))), (45, .bool ((decide ((a1.getD v3.toNat default).f_Start < 0)) || (decide ((a1.getD v3.toNat default).f_Start ≤ v5)))), (44, .cnd ((decide ((a1.getD v3.toNat default).f_Start < 0)) == false) (.bool (decide ((a1.getD v3.toNat default).f_Start ≤ v5)))), (43, .cnd ((decide ((a1.getD v3.toNat default).f_Start < 0)) == false) (.int .i64 v5)), (42, .cnd ((decide ((a1.getD v3.toNat default).f_Start < 0)) == false) (.int .i64 ((a1.getD v3.toNat default).f_Start))), (41, .cnd ((decide ((a1.getD v3.toNat default).f_Start < 0)) == false) (.ptr (0, 0) 0 0)), (40, .bool (decide ((a1.getD v3.toNat default).f_Start < 0))), (39, .bool (decide ((a1.getD v3.toNat default).f_Start < 0))), (38, .int .i64 ((a1.getD v3.toNat default).f_Start)), (37, .ptr (0, 0) 0 0), (8, .ptr (0, 0) 0 0), (36, .agg [.int .i64 ((a1.getD v3.toNat default).f_Start), .int .i64 ((a1.getD v3.toNat default).f_End), .str ((a1.getD v3.toNat default).f_NewText)]), (35, .iptr 3 (a1.map e_TextEdit) v3.toNat 0), (34, .int .i64 v3), (33, .isl 3 (a1.map e_TextEdit) false), (0, .str a0), (1, .isl 3 (a1.map e_TextEdit) false), (5, .int .i64 v2), (6, .int .i64 v3), (7, .int .i64 v5)] _ _
  refine And.intro (fun hp => hp) ?_
  refine And.intro (fun hp => (And.intro hp hp)) ?_
  refine And.intro (fun hc => (bqf hc)) ?_
  refine And.intro (fun hp => hp) ?_
  show yops _ _ _ [(55, .cnd ((((decide ((a1.getD v3.toNat default).f_Start < 0)) || (decide ((a1.getD v3.toNat default).f_Start ≤ v5))) || (decide ((a1.getD v3.toNat default).f_End < (a1.getD v3.toNat default).f_Start))) == false) (.int .i64 ((a1.getD v3.toNat default).f_End))), (54, .cnd ((((decide ((a1.getD v3.toNat default).f_Start < 0)) || (decide ((a1.getD v3.toNat default).f_Start ≤ v5))) || (decide ((a1.getD v3.toNat default).f_End < (a1.getD v3.toNat default).f_Start))) == false) (.ptr (0, 0) 0 1)), (53, .bool (((decide ((a1.getD v3.toNat default).f_Start < 0)) || (decide ((a1.getD v3.toNat default).f_Start ≤ v5))) || (decide ((a1.getD v3.toNat default).f_End < (a1.getD v3.toNat default).f_Start)))), (52, .bool (((decide ((a1.getD v3.toNat default).f_Start < 0)) || (decide ((a1.getD v3.toNat default).f_Start ≤ v5))) || (decide ((a1.getD v3.toNat default).f_End < (a1.getD v3.toNat default).f_Start)))), (51, .cnd (((decide ((a1.getD v3.toNat default).f_Start < 0)) || (decide ((a1.getD v3.toNat default).f_Start ≤ v5))) == false) (.bool (decide ((a1.getD v3.toNat default).f_End < (a1.getD v3.toNat default).f_Start)))), (50, .cnd (((decide ((a1.getD v3.toNat default).f_Start < 0)) || (decide ((a1.getD v3.toNat default).f_Start ≤ v5))) == false) (.int .i64 ((a1.getD v3.toNat default).f_Start))), (49, .cnd (((decide ((a1.getD v3.toNat default).f_Start < 0)) || (decide ((a1.getD v3.toNat default).f_Start ≤ v5))) == false) (.ptr (0, 0) 0 0)), (48, .cnd (((decide ((a1.getD v3.toNat default).f_Start < 0)) || (decide ((a1.getD v3.toNat default).f_Start ≤ v5))) == false) (.int .i64 ((a1.getD v3.toNat default).f_End))), (47, .cnd (((decide ((a1.getD v3.toNat default).f_Start < 0)) || (decide ((a1.getD v3.toNat default).f_Start ≤ v5))) == false) (.ptr (0, 0) 0 1)), (46, .bool ((decide ((a1.getD v3.toNat default).f_Start < 0)) || (decide ((a1.getD v3.toNat default).f_Start ≤ v5)))), (45, .bool ((decide ((a1.getD v3.toNat default).f_Start < 0)) || (decide ((a1.getD v3.toNat default).f_Start ≤ v5)))), (44, .cnd ((decide ((a1.getD v3.toNat default).f_Start < 0)) == false) (.bool (decide ((a1.getD v3.toNat default).f_Start ≤ v5)))), (43, .cnd ((decide ((a1.getD v3.toNat default).f_Start < 0)) == false) (.int .i64 v5)), (42, .cnd ((decide ((a1.getD v3.toNat default).f_Start < 0)) == false) (.int .i64 ((a1.getD v3.toNat default).f_Start))), (41, .cnd ((decide ((a1.getD v3.toNat default).f_Start < 0)) == false) (.ptr (0, 0) 0 0)), (40, .bool (decide ((a1.getD v3.toNat default).f_Start < 0))), (39, .bool (decide ((a1.getD v3.toNat default).f_Start < 0))), (38, .int .i64 ((a1.getD v3.toNat default).f_Start)), (37, .ptr (0, 0) 0 0), (8, .ptr (0, 0) 0 0), (36, .agg [.int .i64 ((a1.getD v3.toNat default).f_Start), .int .i64 ((a1.getD v3.toNat default).f_End), .str ((a1.getD v3.toNat default).f_NewText)]), (35, .iptr 3 (a1.map e_TextEdit) v3.toNat 0), (34, .int .i64 v3), (33, .isl 3 (a1.map e_TextEdit) false), (0, .str a0), (1, .isl 3 (a1.map e_TextEdit) false), (5, .int .i64 v2), (6, .int .i64 v3), (7, .int .i64 v5)] _ _
  refine And.intro (fun hp => hp) ?_
  refine And.intro (fun hp => (And.intro hp hp)) ?_
  refine And.intro (fun hc => (bqf hc)) ?_
  refine LWp.sim (e := [(0, .str a0), (1, .isl 3 (a1.map e_TextEdit) false), (5, .int .i64 v2), (6, .int .i64 v3), (8, .ptr (0, 0) 0 0), (59, .bool ((((decide ((a1.getD v3.toNat default).f_Start < 0)) || (decide ((a1.getD v3.toNat default).f_Start ≤ v5))) || (decide ((a1.getD v3.toNat default).f_End < (a1.getD v3.toNat default).f_Start))) || (decide ((a1.getD v3.toNat default).f_End > (a0.length : Int)))))]) (L := [((0, 0), .one [.int .i64 ((a1.getD v3.toNat default).f_Start), .int .i64 ((a1.getD v3.toNat default).f_End), .str ((a1.getD v3.toNat default).f_NewText)])]) (n := 1) ?_ ?_
  · exact simI (M := [((0, 0), (0, 0))]) rfl (And.intro (Vw.same _ rfl) (And.intro (Vw.same _ rfl) (And.intro (Vw.same _ rfl) (And.intro (Vw.same _ rfl) (And.intro (Vw.ptr _ _ _ _ rfl) (And.intro (Vw.same _ rfl) trivial)))))) (And.intro (And.intro rfl (BVw.oneL (And.intro (Vw.same _ rfl) (And.intro (Vw.same _ rfl) (And.intro (Vw.same _ rfl) trivial))))) trivial)
  refine condI (v := ((((decide ((a1.getD v3.toNat default).f_Start < 0)) || (decide ((a1.getD v3.toNat default).f_Start ≤ v5))) || (decide ((a1.getD v3.toNat default).f_End < (a1.getD v3.toNat default).f_Start))) || (decide ((a1.getD v3.toNat default).f_End > (a0.length : Int))))) rfl trivial (fun h16 => ?_) (fun h16 => ?_)
  · have h := ite_tt h16 h
    refine seqI ?_
    refine regI ?_
    refine retI ?_
    obtain ⟨o, hq, rfl⟩ := Option.map_eq_some_iff.1 h
    replace h := hq; clear hq
    refine And.intro nofun ?_
    cases h
    exact And.intro trivial (And.intro rfl (Vw.same _ rfl))
  · have h := ite_ff h16 h
    refine skipI ?_
    refine regI ?_
    refine LWp.sim (e := [(0, .str a0), (1, .isl 3 (a1.map e_TextEdit) false), (5, .int .i64 (W ((W ((W (v2 + (((a1.getD v3.toNat default).f_NewText).length : Int))) + (a1.getD v3.toNat default).f_Start)) - (a1.getD v3.toNat default).f_End))), (6, .int .i64 v3)]) (L := []) (n := 0) ?_ ?_
    · exact simI (M := []) rfl (And.intro (Vw.same _ rfl) (And.intro (Vw.same _ rfl) (And.intro (Vw.same _ rfl) (And.intro (Vw.same _ rfl) trivial)))) trivial
    refine regI ?_
    cases h
    exact And.intro rfl (simI (M := []) rfl (And.intro (Vw.same _ rfl) (And.intro (Vw.same _ rfl) (And.intro (Vw.same _ rfl) (And.intro (Vw.same _ rfl) trivial)))) trivial)

noncomputable def S_glossatorref4_ValidateEdits_j4 (m : Option Nat) (v2 : Int) : Option Int :=
  if (decide (v2 > 2000)) = true then
    some 2
  else
    some 0

noncomputable def S_glossatorref4_ValidateEdits_b1 (m : Option Nat) (a0 : List UInt8) (a1 : List G_TextEdit) (v2 : Int) (v3 : Int) : Option ((Int × Int) ⊕ Int) :=
  if (decide (v3 < ((a1.map e_TextEdit).length : Int))) = true then
    if (decide (v3 > 0)) = true then
      if (0 : Int) ≤ (W (v3 - 1)) ∧ (W (v3 - 1)) < ((a1.map e_TextEdit).length : Int) then
      S_glossatorref4_ValidateEdits_j3 m a0 a1 v2 v3 ((a1.getD ((W (v3 - 1)).toNat) default).f_End)
      else none
    else
      S_glossatorref4_ValidateEdits_j3 m a0 a1 v2 v3 (-1)
  else
    Option.map Sum.inr (
      S_glossatorref4_ValidateEdits_j4 m v2)

noncomputable def S_glossatorref4_ValidateEdits_l1 (m : Option Nat) (a0 : List UInt8) (a1 : List G_TextEdit) (v2 : Int) (v3 : Int) : Option Int := loopM m (fun (s : (Int × Int)) => S_glossatorref4_ValidateEdits_b1 m a0 a1 s.1 s.2) (v2, v3)

theorem f9_j4_ok {a0 : List UInt8} {a1 : List G_TextEdit} {v2 : Int} {m : Option Nat} {o : Int} (h : S_glossatorref4_ValidateEdits_j4 m v2 = some o) :
    LWp Try.prog f9_lay 0 f9_c1 (f9_Q a0 a1 o) [(5, .int .i64 v2)] [] 0 := by
  unfold S_glossatorref4_ValidateEdits_j4 at h
  refine seqI ?_
  refine seqI ?_
  refine regI ?_
  refine condI (v := (decide (v2 > 2000))) rfl trivial (fun h17 => ?_) (fun h17 => ?_)
  · have h := ite_tt h17 h
    refine seqI ?_
    refine regI ?_
    refine retI ?_
    cases h
    exact And.intro trivial (And.intro rfl (Vw.same _ rfl))
  · have h := ite_ff h17 h
    refine skipI ?_
    refine seqI ?_
    refine regI ?_
    refine retI ?_
    cases h
    exact And.intro trivial (And.intro rfl (Vw.same _ rfl))

theorem f9_L1_bok {a0 : List UInt8} {a1 : List G_TextEdit} {v2 : Int} {v3 : Int} {m : Option Nat} {o : (Int × Int) ⊕ Int} (h : S_glossatorref4_ValidateEdits_b1 m a0 a1 v2 v3 = some o) :
    LWp Try.prog f9_lay 0 f9_c3 (BodyQ 0 0 (f9_L1_env a0 a1) (f9_L1_hp a0 a1) (f9_L1_Q a0 a1) o) [(0, .str a0), (1, .isl 3 (a1.map e_TextEdit) false), (5, .int .i64 v2), (6, .int .i64 v3)] [] 0 := by
  unfold S_glossatorref4_ValidateEdits_b1 at h
  refine seqI ?_
  refine seqI ?_
  refine regI ?_
  refine condI (v := (decide (v3 < ((a1.map e_TextEdit).length : Int)))) rfl trivial (fun h12 => ?_) (fun h12 => ?_)
  · have h := ite_tt h12 h
    refine skipI ?_
    refine seqI ?_
    refine blockI ?_
    refine seqI ?_
    refine regI ?_
    refine seqI ?_
    refine seqI ?_
    refine regI ?_
    refine condI (v := (decide (v3 > 0))) rfl trivial (fun h13 => ?_) (fun h13 => ?_)
    · have h := ite_tt h13 h
      refine regI ?_
      obtain ⟨h14, h⟩ := ite_some h
      refine And.intro h14 ?_
      show yops _ _ _ [(30, .iptr 3 (a1.map e_TextEdit) ((W (v3 - 1)).toNat) 0), (29, .int .i64 (W (v3 - 1))), (28, .int .i64 v3), (27, .isl 3 (a1.map e_TextEdit) false), (26, .bool (decide (v3 > 0))), (25, .int .i64 v3), (7, .int .i64 (-1)), (22, .bool (decide (v3 < ((a1.map e_TextEdit).length : Int)))), (21, .int .i64 ((a1.map e_TextEdit).length : Int)), (20, .isl 3 (a1.map e_TextEdit) false), (19, .int .i64 v3), (0, .str a0), (1, .isl 3 (a1.map e_TextEdit) false), (5, .int .i64 v2), (6, .int .i64 v3)] _ _
      refine Exists.intro (e_TextEdit (a1.getD ((W (v3 - 1)).toNat) default)) (And.intro (getD_enc e_TextEdit _ _ (idx_ltL e_TextEdit h14)) (And.intro (And.intro (idx_lt h14) (Nat.le_of_ble_eq_true rfl)) ?_))
      refine LWp.sim ?_ (f9_j3_ok h)
      exact simI (M := []) rfl (And.intro (Vw.same _ rfl) (And.intro (Vw.same _ rfl) (And.intro (Vw.same _ rfl) (And.intro (Vw.same _ rfl) (And.intro (Vw.same _ rfl) trivial))))) trivial
    · have h := ite_ff h13 h
      refine skipI ?_
      refine LWp.sim ?_ (f9_j3_ok h)
      exact simI (M := []) rfl (And.intro (Vw.same _ rfl) (And.intro (Vw.same _ rfl) (And.intro (Vw.same _ rfl) (And.intro (Vw.same _ rfl) (And.intro (Vw.same _ rfl) trivial))))) trivial
  · have h := ite_ff h12 h
    refine exitI ?_
    obtain ⟨o, hq, rfl⟩ := Option.map_eq_some_iff.1 h
    replace h := hq; clear hq
    refine And.intro nofun ?_
    refine LWp.sim ?_ (f9_j4_ok h)
    exact simI (M := []) rfl (And.intro (Vw.same _ rfl) trivial) trivial

theorem f9_L1_ok {a0 : List UInt8} {a1 : List G_TextEdit} {v2 : Int} {v3 : Int} {m : Option Nat} {o : Int} (h : S_glossatorref4_ValidateEdits_l1 m a0 a1 v2 v3 = some o) :
    LWp Try.prog f9_lay 0 (.loop f9_c3) (QBlock 0 (QSeq Try.prog f9_lay 0 f9_c1 (f9_Q a0 a1 o))) [(0, .str a0), (1, .isl 3 (a1.map e_TextEdit) false), (5, .int .i64 v2), (6, .int .i64 v3)] [] 0 :=
  LWp_loopM (m := m) (s := ((v2, v3) : (Int × Int))) (r := o) (fun (s : (Int × Int)) => S_glossatorref4_ValidateEdits_b1 m a0 a1 s.1 s.2) (f9_L1_env a0 a1) (f9_L1_hp a0 a1) (f9_L1_Q a0 a1) (fun s o h => f9_L1_bok h) h

noncomputable def S_glossatorref4_ValidateEdits (m : Option Nat) (a0 : List UInt8) (a1 : List G_TextEdit) : Option Int :=
  if ((decide ((a0.length : Int) > 2000)) || (decide (((a1.map e_TextEdit).length : Int) > 50))) = true then
    some 2
  else
    S_glossatorref4_ValidateEdits_l1 m a0 a1 (a0.length : Int) 0

theorem f9_start {a0 : List UInt8} {a1 : List G_TextEdit} {m : Option Nat} {o : Int} (h : S_glossatorref4_ValidateEdits m a0 a1 = some o) : LWp Try.prog f9_lay 0 f9_c4 (f9_Q a0 a1 o) (initEnv 0 [.str a0, .isl 3 (a1.map e_TextEdit) false]) [] 0 := by
  unfold S_glossatorref4_ValidateEdits at h
  refine seqI ?_
  refine regI ?_
  refine seqI ?_
  refine seqI ?_
  refine regI ?_
  refine And.intro (fun hp => hp) ?_
  show yops _ _ _ [(14, .cnd ((decide ((a0.length : Int) > 2000)) == false) (.int .i64 ((a1.map e_TextEdit).length : Int))), (13, .cnd ((decide ((a0.length : Int) > 2000)) == false) (.isl 3 (a1.map e_TextEdit) false)), (12, .bool (decide ((a0.length : Int) > 2000))), (11, .bool (decide ((a0.length : Int) > 2000))), (10, .int .i64 (a0.length : Int)), (9, .str a0), (4, .int .i64 0), (0, .str a0), (1, .isl 3 (a1.map e_TextEdit) false)] _ _
  refine And.intro (fun hp => hp) ?_
  refine And.intro (fun hc => (bqf hc)) ?_
  refine LWp.sim (e := [(0, .str a0), (1, .isl 3 (a1.map e_TextEdit) false), (16, .bool ((decide ((a0.length : Int) > 2000)) || (decide (((a1.map e_TextEdit).length : Int) > 50))))]) (L := []) (n := 0) ?_ ?_
  · exact simI (M := []) rfl (And.intro (Vw.same _ rfl) (And.intro (Vw.same _ rfl) (And.intro (Vw.same _ rfl) trivial))) trivial
  refine condI (v := ((decide ((a0.length : Int) > 2000)) || (decide (((a1.map e_TextEdit).length : Int) > 50)))) rfl trivial (fun h1 => ?_) (fun h1 => ?_)
  · have h := ite_tt h1 h
    refine seqI ?_
    refine regI ?_
    refine retI ?_
    cases h
    exact And.intro trivial (And.intro rfl (Vw.same _ rfl))
  · have h := ite_ff h1 h
    refine skipI ?_
    refine seqI ?_
    refine regI ?_
    refine seqI ?_
    refine seqI ?_
    refine regI ?_
    refine blockI ?_
    refine LWp.sim ?_ (f9_L1_ok h)
    exact simI (M := []) rfl (And.intro (Vw.same _ rfl) (And.intro (Vw.same _ rfl) (And.intro (Vw.same _ rfl) (And.intro (Vw.same _ rfl) trivial)))) trivial

theorem f9_ok {a0 : List UInt8} {a1 : List G_TextEdit} {m : Option Nat} {o : Int} (h : S_glossatorref4_ValidateEdits m a0 a1 = some o) : PFn Try.prog 9 [.str a0, .isl 3 (a1.map e_TextEdit) false] (.int .i64 o) := PFn.ofFnW (L := f9_L) f9_low f9_fok (Nat.le_of_ble_eq_true rfl) rfl (f9_start h)

def f10_c1 : LCode := (.seq (.seq (.region [⟨some 9, .mv (.t 5), none⟩,
   ⟨some 10, .bin .geq (.t 9) (.c (.int .i64 0)), none⟩])
 (.cond (.t 10)
  .skip
  (.exit 0)))
 (.seq (.block 1
  (.quiet [⟨some 13, .mv (.t 0), none⟩,
    ⟨some 14, .mv (.t 1), none⟩,
    ⟨some 15, .mv (.t 5), none⟩,
    ⟨some 16, .iaddr 3 (.t 14) (.t 15), none⟩,
    ⟨some 17, .faddr 0 (.t 16), none⟩,
    ⟨some 18, .load false 1 (.t 17), none⟩,
    ⟨some 19, .slStr (.t 13) none (some (.t 18)), none⟩,
    ⟨some 20, .mv (.t 1), none⟩,
    ⟨some 21, .mv (.t 5), none⟩,
    ⟨some 22, .iaddr 3 (.t 20) (.t 21), none⟩,
    ⟨some 23, .faddr 2 (.t 22), none⟩,
    ⟨some 24, .load false 1 (.t 23), none⟩,
    ⟨some 25, .bin .add (.t 19) (.t 24), none⟩,
    ⟨some 26, .mv (.t 0), none⟩,
    ⟨some 27, .mv (.t 1), none⟩,
    ⟨some 28, .mv (.t 5), none⟩,
    ⟨some 29, .iaddr 3 (.t 27) (.t 28), none⟩,
    ⟨some 30, .faddr 1 (.t 29), none⟩,
    ⟨some 31, .load false 1 (.t 30), none⟩,
    ⟨some 32, .slStr (.t 26) (some (.t 31)) none, none⟩,
    ⟨some 33, .bin .add (.t 25) (.t 32), none⟩,
    ⟨some 0, .mv (.t 33), none⟩]))
 (.region [⟨some 11, .mv (.t 5), none⟩,
   ⟨some 12, .bin .sub (.t 11) (.c (.int .i64 1)), none⟩,
   ⟨some 5, .mv (.t 12), none⟩])))
def f10_c0 : LCode := (.seq (.region [⟨some 34, .mv (.t 0), none⟩,
   ⟨some 4, .mv (.t 34), none⟩])
 .ret)
def f10_c2 : LCode := (.seq (.region [⟨some 4, .mv (.c (.str [])), none⟩])
 (.seq (.seq (.region [⟨some 6, .mv (.t 1), none⟩,
   ⟨some 7, .len false (.t 6), none⟩,
   ⟨some 8, .bin .sub (.t 7) (.c (.int .i64 1)), none⟩,
   ⟨some 5, .mv (.t 8), none⟩])
 (.block 0
  (.loop
   f10_c1)))
 f10_c0))
def f10_lay : Lay := ⟨35, [], false⟩
def f10_res : List LRes := [.t 4]
def f10_L : LFn := ⟨2, f10_lay, f10_c2, f10_res⟩
theorem f10_low : lowFn Try.prog [] 10 = some f10_L := by kernel_rfl
theorem f10_fok : FnOk Try.prog 10 := ⟨_, Try.func10, rfl, rfl⟩
def f10_Q (a0 : List UInt8) (a1 : List G_TextEdit) (o : (List UInt8)) : Exit → Env → AHeap → Nat → Prop := FinK f10_res (PureEnd (.str o))

def f10_L1_env (a1 : List G_TextEdit) (s : ((List UInt8) × Int)) : Env := [(0, .str s.1), (1, .isl 3 (a1.map e_TextEdit) false), (5, .int .i64 s.2)]
def f10_L1_hp (a1 : List G_TextEdit) (s : ((List UInt8) × Int)) : AHeap := []
def f10_L1_Q (a0 : List UInt8) (a1 : List G_TextEdit) (o : (List UInt8)) : Exit → Env → AHeap → Nat → Prop := (QBlock 0 (QSeq Try.prog f10_lay 0 f10_c0 (f10_Q a0 a1 o)))

noncomputable def S_glossatorref4_ApplyEdits_j1 (m : Option Nat) (v1 : List UInt8) : Option (List UInt8) :=
  some v1

noncomputable def S_glossatorref4_ApplyEdits_b1 (m : Option Nat) (a1 : List G_TextEdit) (v1 : List UInt8) (v2 : Int) : Option (((List UInt8) × Int) ⊕ (List UInt8)) :=
  if (decide (v2 ≥ 0)) = true then
    if (0 : Int) ≤ v2 ∧ v2 < ((a1.map e_TextEdit).length : Int) then
    if (0 : Int) ≤ (a1.getD v2.toNat default).f_Start ∧ (a1.getD v2.toNat default).f_Start ≤ (v1.length : Int) then
    if (0 : Int) ≤ v2 ∧ v2 < ((a1.map e_TextEdit).length : Int) then
    if (((((v1.take ((a1.getD v2.toNat default).f_Start).toNat).drop 0).length + ((a1.getD v2.toNat default).f_NewText).length : Nat) : Int) ≤ 9223372036854775807) then
    if (0 : Int) ≤ v2 ∧ v2 < ((a1.map e_TextEdit).length : Int) then
    if (0 : Int) ≤ (a1.getD v2.toNat default).f_End ∧ (a1.getD v2.toNat default).f_End ≤ (v1.length : Int) then
    if ((((((v1.take ((a1.getD v2.toNat default).f_Start).toNat).drop 0) ++ (a1.getD v2.toNat default).f_NewText).length + ((v1.take v1.length).drop ((a1.getD v2.toNat default).f_End).toNat).length : Nat) : Int) ≤ 9223372036854775807) then
    some (.inl (((((v1.take ((a1.getD v2.toNat default).f_Start).toNat).drop 0) ++ (a1.getD v2.toNat default).f_NewText) ++ ((v1.take v1.length).drop ((a1.getD v2.toNat default).f_End).toNat)), (W (v2 - 1))))
    else none
    else none
    else none
    else none
    else none
    else none
    else none
  else
    Option.map Sum.inr (
      S_glossatorref4_ApplyEdits_j1 m v1)

noncomputable def S_glossatorref4_ApplyEdits_l1 (m : Option Nat) (a1 : List G_TextEdit) (v1 : List UInt8) (v2 : Int) : Option (List UInt8) := loopM m (fun (s : ((List UInt8) × Int)) => S_glossatorref4_ApplyEdits_b1 m a1 s.1 s.2) (v1, v2)

theorem f10_j1_ok {a0 : List UInt8} {a1 : List G_TextEdit} {v1 : List UInt8} {m : Option Nat} {o : (List UInt8)} (h : S_glossatorref4_ApplyEdits_j1 m v1 = some o) :
    LWp Try.prog f10_lay 0 f10_c0 (f10_Q a0 a1 o) [(0, .str v1)] [] 0 := by
  unfold S_glossatorref4_ApplyEdits_j1 at h
  refine seqI ?_
  refine regI ?_
  refine retI ?_
  cases h
  exact And.intro trivial (And.intro rfl (Vw.same _ rfl))

theorem f10_L1_bok {a0 : List UInt8} {a1 : List G_TextEdit} {v1 : List UInt8} {v2 : Int} {m : Option Nat} {o : ((List UInt8) × Int) ⊕ (List UInt8)} (h : S_glossatorref4_ApplyEdits_b1 m a1 v1 v2 = some o) :
    LWp Try.prog f10_lay 0 f10_c1 (BodyQ 0 0 (f10_L1_env a1) (f10_L1_hp a1) (f10_L1_Q a0 a1) o) [(0, .str v1), (1, .isl 3 (a1.map e_TextEdit) false), (5, .int .i64 v2)] [] 0 := by
  unfold S_glossatorref4_ApplyEdits_b1 at h
  refine seqI ?_
  refine seqI ?_
  refine regI ?_
  refine condI (v := (decide (v2 ≥ 0))) rfl trivial (fun h17 => ?_) (fun h17 => ?_)
  · have h := ite_tt h17 h
    refine skipI ?_
    refine seqI ?_
    refine blockI ?_
    refine quietI ?_
    obtain ⟨h18, h⟩ := ite_some h
    refine And.intro h18 ?_
    show yqs _ _ [(16, .iptr 3 (a1.map e_TextEdit) v2.toNat 0), (15, .int .i64 v2), (14, .isl 3 (a1.map e_TextEdit) false), (13, .str v1), (10, .bool (decide (v2 ≥ 0))), (9, .int .i64 v2), (0, .str v1), (1, .isl 3 (a1.map e_TextEdit) false), (5, .int .i64 v2)] _ _
    refine Exists.intro (e_TextEdit (a1.getD v2.toNat default)) (And.intro (getD_enc e_TextEdit _ _ (idx_ltL e_TextEdit h18)) (And.intro (And.intro (idx_lt h18) (Nat.le_of_ble_eq_true rfl)) ?_))
    obtain ⟨h19, h⟩ := ite_some h
    refine And.intro (And.intro (Int.le_refl _) h19) ?_
    obtain ⟨h20, h⟩ := ite_some h
    refine And.intro h20 ?_
    show yqs _ _ [(22, .iptr 3 (a1.map e_TextEdit) v2.toNat 0), (21, .int .i64 v2), (20, .isl 3 (a1.map e_TextEdit) false), (19, .str ((v1.take ((a1.getD v2.toNat default).f_Start).toNat).drop 0)), (18, .int .i64 ((a1.getD v2.toNat default).f_Start)), (17, .iptr 3 (a1.map e_TextEdit) v2.toNat 0), (16, .iptr 3 (a1.map e_TextEdit) v2.toNat 0), (15, .int .i64 v2), (14, .isl 3 (a1.map e_TextEdit) false), (13, .str v1), (10, .bool (decide (v2 ≥ 0))), (9, .int .i64 v2), (0, .str v1), (1, .isl 3 (a1.map e_TextEdit) false), (5, .int .i64 v2)] _ _
    refine Exists.intro (e_TextEdit (a1.getD v2.toNat default)) (And.intro (getD_enc e_TextEdit _ _ (idx_ltL e_TextEdit h20)) (And.intro (And.intro (idx_lt h20) (Nat.le_of_ble_eq_true rfl)) ?_))
    obtain ⟨h21, h⟩ := ite_some h
    refine And.intro h21 ?_
    obtain ⟨h22, h⟩ := ite_some h
    refine And.intro h22 ?_
    show yqs _ _ [(29, .iptr 3 (a1.map e_TextEdit) v2.toNat 0), (28, .int .i64 v2), (27, .isl 3 (a1.map e_TextEdit) false), (26, .str v1), (25, .str (((v1.take ((a1.getD v2.toNat default).f_Start).toNat).drop 0) ++ (a1.getD v2.toNat default).f_NewText)), (24, .str ((a1.getD v2.toNat default).f_NewText)), (23, .iptr 3 (a1.map e_TextEdit) v2.toNat 2), (22, .iptr 3 (a1.map e_TextEdit) v2.toNat 0), (21, .int .i64 v2), (20, .isl 3 (a1.map e_TextEdit) false), (19, .str ((v1.take ((a1.getD v2.toNat default).f_Start).toNat).drop 0)), (18, .int .i64 ((a1.getD v2.toNat default).f_Start)), (17, .iptr 3 (a1.map e_TextEdit) v2.toNat 0), (16, .iptr 3 (a1.map e_TextEdit) v2.toNat 0), (15, .int .i64 v2), (14, .isl 3 (a1.map e_TextEdit) false), (13, .str v1), (10, .bool (decide (v2 ≥ 0))), (9, .int .i64 v2), (0, .str v1), (1, .isl 3 (a1.map e_TextEdit) false), (5, .int .i64 v2)] _ _
    refine Exists.intro (e_TextEdit (a1.getD v2.toNat default)) (And.intro (getD_enc e_TextEdit _ _ (idx_ltL e_TextEdit h22)) (And.intro (And.intro (idx_lt h22) (Nat.le_of_ble_eq_true rfl)) ?_))
    obtain ⟨h23, h⟩ := ite_some h
    refine And.intro (And.intro (And.left h23) (And.intro (And.right h23) (Int.le_refl _))) ?_
    obtain ⟨h24, h⟩ := ite_some h
    refine And.intro h24 ?_
    refine LWp.sim (e := [(0, .str ((((v1.take ((a1.getD v2.toNat default).f_Start).toNat).drop 0) ++ (a1.getD v2.toNat default).f_NewText) ++ ((v1.take v1.length).drop ((a1.getD v2.toNat default).f_End).toNat))), (1, .isl 3 (a1.map e_TextEdit) false), (5, .int .i64 v2)]) (L := []) (n := 0) ?_ ?_
    · exact simI (M := []) rfl (And.intro (Vw.same _ rfl) (And.intro (Vw.same _ rfl) (And.intro (Vw.same _ rfl) trivial))) trivial
    refine regI ?_
    cases h
    exact And.intro rfl (simI (M := []) rfl (And.intro (Vw.same _ rfl) (And.intro (Vw.same _ rfl) (And.intro (Vw.same _ rfl) trivial))) trivial)
  · have h := ite_ff h17 h
    refine exitI ?_
    obtain ⟨o, hq, rfl⟩ := Option.map_eq_some_iff.1 h
    replace h := hq; clear hq
    refine And.intro nofun ?_
    refine LWp.sim ?_ (f10_j1_ok h)
    exact simI (M := []) rfl (And.intro (Vw.same _ rfl) trivial) trivial

theorem f10_L1_ok {a0 : List UInt8} {a1 : List G_TextEdit} {v1 : List UInt8} {v2 : Int} {m : Option Nat} {o : (List UInt8)} (h : S_glossatorref4_ApplyEdits_l1 m a1 v1 v2 = some o) :
    LWp Try.prog f10_lay 0 (.loop f10_c1) (QBlock 0 (QSeq Try.prog f10_lay 0 f10_c0 (f10_Q a0 a1 o))) [(0, .str v1), (1, .isl 3 (a1.map e_TextEdit) false), (5, .int .i64 v2)] [] 0 :=
  LWp_loopM (m := m) (s := ((v1, v2) : ((List UInt8) × Int))) (r := o) (fun (s : ((List UInt8) × Int)) => S_glossatorref4_ApplyEdits_b1 m a1 s.1 s.2) (f10_L1_env a1) (f10_L1_hp a1) (f10_L1_Q a0 a1) (fun s o h => f10_L1_bok h) h

noncomputable def S_glossatorref4_ApplyEdits (m : Option Nat) (a0 : List UInt8) (a1 : List G_TextEdit) : Option (List UInt8) :=
  S_glossatorref4_ApplyEdits_l1 m a1 a0 (W (((a1.map e_TextEdit).length : Int) - 1))

theorem f10_start {a0 : List UInt8} {a1 : List G_TextEdit} {m : Option Nat} {o : (List UInt8)} (h : S_glossatorref4_ApplyEdits m a0 a1 = some o) : LWp Try.prog f10_lay 0 f10_c2 (f10_Q a0 a1 o) (initEnv 0 [.str a0, .isl 3 (a1.map e_TextEdit) false]) [] 0 := by
  unfold S_glossatorref4_ApplyEdits at h
  refine seqI ?_
  refine regI ?_
  refine seqI ?_
  refine seqI ?_
  refine regI ?_
  refine blockI ?_
  refine LWp.sim ?_ (f10_L1_ok h)
  exact simI (M := []) rfl (And.intro (Vw.same _ rfl) (And.intro (Vw.same _ rfl) (And.intro (Vw.same _ rfl) trivial))) trivial

theorem f10_ok {a0 : List UInt8} {a1 : List G_TextEdit} {m : Option Nat} {o : (List UInt8)} (h : S_glossatorref4_ApplyEdits m a0 a1 = some o) : PFn Try.prog 10 [.str a0, .isl 3 (a1.map e_TextEdit) false] (.str o) := PFn.ofFnW (L := f10_L) f10_low f10_fok (Nat.le_of_ble_eq_true rfl) rfl (f10_start h)

def f11_c1 : LCode := (.seq (.seq (.region [⟨some 9, .mv (.t 6), none⟩,
   ⟨some 10, .mv (.t 1), none⟩,
   ⟨some 11, .len false (.t 10), none⟩,
   ⟨some 12, .bin .lss (.t 9) (.t 11), none⟩])
 (.cond (.t 12)
  .skip
  (.exit 0)))
 (.seq (.block 1
  (.seq (.region [⟨some 15, .mv (.t 1), none⟩,
    ⟨some 16, .mv (.t 6), none⟩,
    ⟨some 17, .iaddr 3 (.t 15) (.t 16), none⟩,
    ⟨some 18, .load true 3 (.t 17), none⟩,
    ⟨some 7, .alloc [(.int .i64 0), (.int .i64 0), (.str [])], none⟩,
    ⟨none, .store 3 (.t 7) (.t 18), none⟩])
  (.seq (.draw [⟨⟨some 19, .mv (.t 0), none⟩, []⟩,
    ⟨⟨some 20, .faddr 0 (.t 7), none⟩, []⟩,
    ⟨⟨some 21, .load false 1 (.t 20), none⟩, []⟩,
    ⟨⟨some 22, .slStr (.t 19) none (some (.t 21)), none⟩, []⟩,
    ⟨⟨some 23, .mv (.t 1), none⟩, []⟩,
    ⟨⟨some 24, .mv (.t 6), none⟩, []⟩,
    ⟨⟨some 25, .slSl 3 (.t 23) none (some (.t 24)) none, none⟩, []⟩,
    ⟨⟨some 26, .call 10 [(.t 22), (.t 25)], none⟩, []⟩,
    ⟨⟨some 27, .len true (.t 26), none⟩, []⟩,
    ⟨⟨some 8, .mv (.t 27), none⟩, []⟩])
  (.draw [⟨⟨some 28, .mv (.t 5), none⟩, []⟩,
    ⟨⟨some 29, .mv (.t 8), none⟩, []⟩,
    ⟨⟨some 30, .mv (.t 8), none⟩, []⟩,
    ⟨⟨some 31, .faddr 2 (.t 7), none⟩, []⟩,
    ⟨⟨some 32, .load false 1 (.t 31), none⟩, []⟩,
    ⟨⟨some 33, .len true (.t 32), none⟩, []⟩,
    ⟨⟨some 34, .bin .add (.t 30) (.t 33), none⟩, []⟩,
    ⟨⟨some 35, .mv (.t 0), none⟩, []⟩,
    ⟨⟨some 36, .faddr 0 (.t 7), none⟩, []⟩,
    ⟨⟨some 37, .load false 1 (.t 36), none⟩, []⟩,
    ⟨⟨some 38, .faddr 1 (.t 7), none⟩, []⟩,
    ⟨⟨some 39, .load false 1 (.t 38), none⟩, []⟩,
    ⟨⟨some 40, .slStr (.t 35) (some (.t 37)) (some (.t 39)), none⟩, []⟩,
    ⟨⟨some 41, .build [(.int .i64 0), (.int .i64 0), (.str [])] [(0, 1, (.t 29)), (1, 1, (.t 34)), (2, 1, (.t 40))], none⟩, []⟩,
    ⟨⟨some 42, .mkSl true 3 [(.int .i64 0), (.int .i64 0), (.str [])] 1 [(0, (.t 41))], none⟩, []⟩,
    ⟨⟨some 43, .app true 3 32 (.t 28) (.t 42), none⟩, []⟩,
    ⟨⟨some 5, .mv (.t 43), none⟩, []⟩]))))
 (.region [⟨some 13, .mv (.t 6), none⟩,
   ⟨some 14, .bin .add (.t 13) (.c (.int .i64 1)), none⟩,
   ⟨some 6, .mv (.t 14), none⟩])))
def f11_c0 : LCode := (.seq (.region [⟨some 44, .mv (.t 5), none⟩,
   ⟨some 4, .mv (.t 44), none⟩])
 .ret)
def f11_c2 : LCode := (.seq (.region [⟨some 4, .mv (.c (.val (.slice none 0 0))), none⟩])
 (.seq (.region [⟨some 5, .mv (.c (.val (.slice none 0 0))), none⟩])
 (.seq (.seq (.region [⟨some 6, .mv (.c (.int .i64 0)), none⟩])
 (.block 0
  (.loop
   f11_c1)))
 f11_c0)))
def f11_lay : Lay := ⟨45, [], false⟩
def f11_res : List LRes := [.t 4]
def f11_L : LFn := ⟨2, f11_lay, f11_c2, f11_res⟩
theorem f11_low : lowFn Try.prog [] 11 = some f11_L := by kernel_rfl
theorem f11_fok : FnOk Try.prog 11 := ⟨_, Try.func11, rfl, rfl⟩
def f11_Q (a0 : List UInt8) (a1 : List G_TextEdit) (o : (List G_TextEdit)) : Exit → Env → AHeap → Nat → Prop := FinK f11_res (PureEnd (.isl 3 (o.map e_TextEdit) false))

def f11_L1_env (a0 : List UInt8) (a1 : List G_TextEdit) (s : ((List G_TextEdit) × Int)) : Env := [(0, .str a0), (1, .isl 3 (a1.map e_TextEdit) false), (5, .osl (0, 0) 3 (s.1.map e_TextEdit)), (6, .int .i64 s.2)]
def f11_L1_hp (a0 : List UInt8) (a1 : List G_TextEdit) (s : ((List G_TextEdit) × Int)) : AHeap := [((0, 0), .tok)]
def f11_L1_Q (a0 : List UInt8) (a1 : List G_TextEdit) (o : (List G_TextEdit)) : Exit → Env → AHeap → Nat → Prop := (QBlock 0 (QSeq Try.prog f11_lay 0 f11_c0 (f11_Q a0 a1 o)))

noncomputable def S_glossatorref4_InvertEdits_j1 (m : Option Nat) (v2 : List G_TextEdit) : Option (List G_TextEdit) :=
  some v2

noncomputable def S_glossatorref4_InvertEdits_b1 (m : Option Nat) (a0 : List UInt8) (a1 : List G_TextEdit) (v2 : List G_TextEdit) (v3 : Int) : Option (((List G_TextEdit) × Int) ⊕ (List G_TextEdit)) :=
  if (decide (v3 < ((a1.map e_TextEdit).length : Int))) = true then
    if (0 : Int) ≤ v3 ∧ v3 < ((a1.map e_TextEdit).length : Int) then
    if (0 : Int) ≤ (a1.getD v3.toNat default).f_Start ∧ (a1.getD v3.toNat default).f_Start ≤ (a0.length : Int) then
    if (0 : Int) ≤ v3 ∧ v3 ≤ ((a1.map e_TextEdit).length : Int) then
    (S_glossatorref4_ApplyEdits m ((a0.take ((a1.getD v3.toNat default).f_Start).toNat).drop 0) (a1.take v3.toNat)).bind fun v5 =>
    if (0 : Int) ≤ (a1.getD v3.toNat default).f_Start ∧ (a1.getD v3.toNat default).f_Start ≤ (a1.getD v3.toNat default).f_End ∧ (a1.getD v3.toNat default).f_End ≤ (a0.length : Int) then
    if ((v2 ++ ([(G_TextEdit.mk (v5.length : Int) (W ((v5.length : Int) + (((a1.getD v3.toNat default).f_NewText).length : Int))) ((a0.take ((a1.getD v3.toNat default).f_End).toNat).drop ((a1.getD v3.toNat default).f_Start).toNat))] : List G_TextEdit)).map e_TextEdit).length * 32 ≤ 140737488355328 then
    some (.inl ((v2 ++ ([(G_TextEdit.mk (v5.length : Int) (W ((v5.length : Int) + (((a1.getD v3.toNat default).f_NewText).length : Int))) ((a0.take ((a1.getD v3.toNat default).f_End).toNat).drop ((a1.getD v3.toNat default).f_Start).toNat))] : List G_TextEdit)), (W (v3 + 1))))
    else none
    else none
    else none
    else none
    else none
  else
    Option.map Sum.inr (
      S_glossatorref4_InvertEdits_j1 m v2)

noncomputable def S_glossatorref4_InvertEdits_l1 (m : Option Nat) (a0 : List UInt8) (a1 : List G_TextEdit) (v2 : List G_TextEdit) (v3 : Int) : Option (List G_TextEdit) := loopM m (fun (s : ((List G_TextEdit) × Int)) => S_glossatorref4_InvertEdits_b1 m a0 a1 s.1 s.2) (v2, v3)

theorem f11_j1_ok {a0 : List UInt8} {a1 : List G_TextEdit} {v2 : List G_TextEdit} {m : Option Nat} {o : (List G_TextEdit)} (h : S_glossatorref4_InvertEdits_j1 m v2 = some o) :
    LWp Try.prog f11_lay 0 f11_c0 (f11_Q a0 a1 o) [(5, .osl (0, 0) 3 (v2.map e_TextEdit))] [((0, 0), .tok)] 1 := by
  unfold S_glossatorref4_InvertEdits_j1 at h
  refine seqI ?_
  refine regI ?_
  refine retI ?_
  cases h
  exact And.intro trivial (And.intro rfl (Vw.oslI _ _ _))

theorem f11_L1_bok {a0 : List UInt8} {a1 : List G_TextEdit} {v2 : List G_TextEdit} {v3 : Int} {m : Option Nat} {o : ((List G_TextEdit) × Int) ⊕ (List G_TextEdit)} (h : S_glossatorref4_InvertEdits_b1 m a0 a1 v2 v3 = some o) :
    LWp Try.prog f11_lay 0 f11_c1 (BodyQ 0 1 (f11_L1_env a0 a1) (f11_L1_hp a0 a1) (f11_L1_Q a0 a1) o) [(0, .str a0), (1, .isl 3 (a1.map e_TextEdit) false), (5, .osl (0, 0) 3 (v2.map e_TextEdit)), (6, .int .i64 v3)] [((0, 0), .tok)] 1 := by
  unfold S_glossatorref4_InvertEdits_b1 at h
  refine seqI ?_
  refine seqI ?_
  refine regI ?_
  refine condI (v := (decide (v3 < ((a1.map e_TextEdit).length : Int)))) rfl trivial (fun h15 => ?_) (fun h15 => ?_)
  · have h := ite_tt h15 h
    refine skipI ?_
    refine seqI ?_
    refine blockI ?_
    refine seqI ?_
    refine regI ?_
    obtain ⟨h16, h⟩ := ite_some h
    refine And.intro h16 ?_
    show yops _ _ _ [(17, .iptr 3 (a1.map e_TextEdit) v3.toNat 0), (16, .int .i64 v3), (15, .isl 3 (a1.map e_TextEdit) false), (12, .bool (decide (v3 < ((a1.map e_TextEdit).length : Int)))), (11, .int .i64 ((a1.map e_TextEdit).length : Int)), (10, .isl 3 (a1.map e_TextEdit) false), (9, .int .i64 v3), (0, .str a0), (1, .isl 3 (a1.map e_TextEdit) false), (5, .osl (0, 0) 3 (v2.map e_TextEdit)), (6, .int .i64 v3)] _ _
    refine Exists.intro (e_TextEdit (a1.getD v3.toNat default)) (And.intro (getD_enc e_TextEdit _ _ (idx_ltL e_TextEdit h16)) (And.intro (And.intro (idx_lt h16) (Nat.le_of_ble_eq_true rfl)) ?_))
    refine LWp.sim (e := [(0, .str a0), (1, .isl 3 (a1.map e_TextEdit) false), (5, .osl (0, 0) 3 (v2.map e_TextEdit)), (6, .int .i64 v3), (7, .ptr (1, 0) 0 0)]) (L := [((0, 0), .tok), ((1, 0), .one [.int .i64 ((a1.getD v3.toNat default).f_Start), .int .i64 ((a1.getD v3.toNat default).f_End), .str ((a1.getD v3.toNat default).f_NewText)])]) (n := 2) ?_ ?_
    · exact simI (M := [((0, 0), (0, 0)), ((1, 0), (1, 0))]) rfl (And.intro (Vw.same _ rfl) (And.intro (Vw.same _ rfl) (And.intro (Vw.osl _ _ _ _ rfl) (And.intro (Vw.same _ rfl) (And.intro (Vw.ptr _ _ _ _ rfl) trivial))))) (And.intro (And.intro rfl BVw.tok) (And.intro (And.intro rfl (BVw.oneL (And.intro (Vw.same _ rfl) (And.intro (Vw.same _ rfl) (And.intro (Vw.same _ rfl) trivial))))) trivial))
    refine seqI ?_
    refine drawO rfl ?_
    obtain ⟨h17, h⟩ := ite_some h
    refine And.intro (And.intro (Int.le_refl _) h17) ?_
    obtain ⟨h18, h⟩ := ite_some h
    refine Exists.intro (.isl 3 ((a1.take v3.toNat).map e_TextEdit) false) (And.intro (sl_eq e_TextEdit (slB e_TextEdit a1 _) rfl) (And.intro (And.intro rfl (And.intro (Int.le_refl _) h18)) ?_))
    obtain ⟨v5, h19, h⟩ := bind_some h
    refine PFn.call (f10_ok h19) (And.intro (Vw.same _ rfl) (And.intro (Vw.same _ rfl) trivial)) ?_
    show yops _ _ _ [(26, .str v5), (25, .isl 3 ((a1.take v3.toNat).map e_TextEdit) false), (24, .int .i64 v3), (23, .isl 3 (a1.map e_TextEdit) false), (22, .str ((a0.take ((a1.getD v3.toNat default).f_Start).toNat).drop 0)), (21, .int .i64 ((a1.getD v3.toNat default).f_Start)), (20, .ptr (1, 0) 0 0), (19, .str a0), (0, .str a0), (1, .isl 3 (a1.map e_TextEdit) false), (5, .osl (0, 0) 3 (v2.map e_TextEdit)), (6, .int .i64 v3), (7, .ptr (1, 0) 0 0)] _ _
    refine LWp.sim (e := [(0, .str a0), (1, .isl 3 (a1.map e_TextEdit) false), (5, .osl (0, 0) 3 (v2.map e_TextEdit)), (6, .int .i64 v3), (7, .ptr (1, 0) 0 0), (8, .int .i64 (v5.length : Int))]) (L := [((0, 0), .tok), ((1, 0), .one [.int .i64 ((a1.getD v3.toNat default).f_Start), .int .i64 ((a1.getD v3.toNat default).f_End), .str ((a1.getD v3.toNat default).f_NewText)])]) (n := 2) ?_ ?_
    · exact simI (M := [((0, 0), (0, 0)), ((1, 0), (1, 0))]) rfl (And.intro (Vw.same _ rfl) (And.intro (Vw.same _ rfl) (And.intro (Vw.osl _ _ _ _ rfl) (And.intro (Vw.same _ rfl) (And.intro (Vw.ptr _ _ _ _ rfl) (And.intro (Vw.same _ rfl) trivial)))))) (And.intro (And.intro rfl BVw.tok) (And.intro (And.intro rfl (BVw.oneL (And.intro (Vw.same _ rfl) (And.intro (Vw.same _ rfl) (And.intro (Vw.same _ rfl) trivial))))) trivial))
    refine drawO rfl ?_
    obtain ⟨h20, h⟩ := ite_some h
    refine And.intro h20 ?_
    show yops _ _ _ [(40, .str ((a0.take ((a1.getD v3.toNat default).f_End).toNat).drop ((a1.getD v3.toNat default).f_Start).toNat)), (39, .int .i64 ((a1.getD v3.toNat default).f_End)), (38, .ptr (1, 0) 0 1), (37, .int .i64 ((a1.getD v3.toNat default).f_Start)), (36, .ptr (1, 0) 0 0), (35, .str a0), (34, .int .i64 (W ((v5.length : Int) + (((a1.getD v3.toNat default).f_NewText).length : Int)))), (33, .int .i64 (((a1.getD v3.toNat default).f_NewText).length : Int)), (32, .str ((a1.getD v3.toNat default).f_NewText)), (31, .ptr (1, 0) 0 2), (30, .int .i64 (v5.length : Int)), (29, .int .i64 (v5.length : Int)), (28, .osl (0, 0) 3 (v2.map e_TextEdit)), (0, .str a0), (1, .isl 3 (a1.map e_TextEdit) false), (5, .osl (0, 0) 3 (v2.map e_TextEdit)), (6, .int .i64 v3), (7, .ptr (1, 0) 0 0), (8, .int .i64 (v5.length : Int))] _ _
    obtain ⟨h21, h⟩ := ite_some h
    refine Exists.intro ((v2 ++ ([(G_TextEdit.mk (v5.length : Int) (W ((v5.length : Int) + (((a1.getD v3.toNat default).f_NewText).length : Int))) ((a0.take ((a1.getD v3.toNat default).f_End).toNat).drop ((a1.getD v3.toNat default).f_Start).toNat))] : List G_TextEdit)).map e_TextEdit) (And.intro (app_enc e_TextEdit v2 ([(G_TextEdit.mk (v5.length : Int) (W ((v5.length : Int) + (((a1.getD v3.toNat default).f_NewText).length : Int))) ((a0.take ((a1.getD v3.toNat default).f_End).toNat).drop ((a1.getD v3.toNat default).f_Start).toNat))] : List G_TextEdit)) (And.intro h21 ?_))
    refine LWp.sim (e := [(0, .str a0), (1, .isl 3 (a1.map e_TextEdit) false), (5, .osl (0, 0) 3 ((v2 ++ ([(G_TextEdit.mk (v5.length : Int) (W ((v5.length : Int) + (((a1.getD v3.toNat default).f_NewText).length : Int))) ((a0.take ((a1.getD v3.toNat default).f_End).toNat).drop ((a1.getD v3.toNat default).f_Start).toNat))] : List G_TextEdit)).map e_TextEdit)), (6, .int .i64 v3)]) (L := [((0, 0), .tok)]) (n := 1) ?_ ?_
    · exact simI (M := [((0, 0), (2, 0))]) rfl (And.intro (Vw.same _ rfl) (And.intro (Vw.same _ rfl) (And.intro (Vw.osl _ _ _ _ rfl) (And.intro (Vw.same _ rfl) trivial)))) (And.intro (And.intro rfl BVw.tok) trivial)
    refine regI ?_
    cases h
    exact And.intro rfl (simI (M := [((0, 0), (0, 0))]) rfl (And.intro (Vw.same _ rfl) (And.intro (Vw.same _ rfl) (And.intro (Vw.osl _ _ _ _ rfl) (And.intro (Vw.same _ rfl) trivial)))) (And.intro (And.intro rfl BVw.tok) trivial))
  · have h := ite_ff h15 h
    refine exitI ?_
    obtain ⟨o, hq, rfl⟩ := Option.map_eq_some_iff.1 h
    replace h := hq; clear hq
    refine And.intro nofun ?_
    refine LWp.sim ?_ (f11_j1_ok h)
    exact simI (M := [((0, 0), (0, 0))]) rfl (And.intro (Vw.osl _ _ _ _ rfl) trivial) (And.intro (And.intro rfl BVw.tok) trivial)

theorem f11_L1_ok {a0 : List UInt8} {a1 : List G_TextEdit} {v2 : List G_TextEdit} {v3 : Int} {m : Option Nat} {o : (List G_TextEdit)} (h : S_glossatorref4_InvertEdits_l1 m a0 a1 v2 v3 = some o) :
    LWp Try.prog f11_lay 0 (.loop f11_c1) (QBlock 0 (QSeq Try.prog f11_lay 0 f11_c0 (f11_Q a0 a1 o))) [(0, .str a0), (1, .isl 3 (a1.map e_TextEdit) false), (5, .osl (0, 0) 3 (v2.map e_TextEdit)), (6, .int .i64 v3)] [((0, 0), .tok)] 1 :=
  LWp_loopM (m := m) (s := ((v2, v3) : ((List G_TextEdit) × Int))) (r := o) (fun (s : ((List G_TextEdit) × Int)) => S_glossatorref4_InvertEdits_b1 m a0 a1 s.1 s.2) (f11_L1_env a0 a1) (f11_L1_hp a0 a1) (f11_L1_Q a0 a1) (fun s o h => f11_L1_bok h) h

noncomputable def S_glossatorref4_InvertEdits (m : Option Nat) (a0 : List UInt8) (a1 : List G_TextEdit) : Option (List G_TextEdit) :=
  S_glossatorref4_InvertEdits_l1 m a0 a1 [] 0

theorem f11_start {a0 : List UInt8} {a1 : List G_TextEdit} {m : Option Nat} {o : (List G_TextEdit)} (h : S_glossatorref4_InvertEdits m a0 a1 = some o) : LWp Try.prog f11_lay 0 f11_c2 (f11_Q a0 a1 o) (initEnv 0 [.str a0, .isl 3 (a1.map e_TextEdit) false]) [] 0 := by
  unfold S_glossatorref4_InvertEdits at h
  refine seqI ?_
  refine regI ?_
  refine seqI ?_
  refine regI ?_
  refine seqI ?_
  refine seqI ?_
  refine regI ?_
  refine blockI ?_
  refine LWp.sim ?_ (f11_L1_ok h)
  exact simI (M := []) rfl (And.intro (Vw.same _ rfl) (And.intro (Vw.same _ rfl) (And.intro (Vw.nilO _ _ (by decide)) (And.intro (Vw.same _ rfl) trivial)))) (And.intro (And.intro rfl (And.intro (by decide) (by decide))) trivial)

theorem f11_ok {a0 : List UInt8} {a1 : List G_TextEdit} {m : Option Nat} {o : (List G_TextEdit)} (h : S_glossatorref4_InvertEdits m a0 a1 = some o) : PFn Try.prog 11 [.str a0, .isl 3 (a1.map e_TextEdit) false] (.isl 3 (o.map e_TextEdit) false) := PFn.ofFnW (L := f11_L) f11_low f11_fok (Nat.le_of_ble_eq_true rfl) rfl (f11_start h)

def f3_c0 : LCode := (.seq (.region [⟨some 37, .mv (.t 0), none⟩,
   ⟨some 38, .mv (.t 1), none⟩,
   ⟨some 39, .call 12 [(.t 37), (.t 38)], none⟩,
   ⟨some 40, .mv (.t 9), none⟩,
   ⟨some 41, .bin .eql (.t 39) (.t 40), none⟩,
   ⟨some 42, .mv (.t 41), none⟩,
   ⟨some 43, .mv (.t 5), some (42, true)⟩,
   ⟨some 44, .mv (.t 10), some (42, true)⟩,
   ⟨some 45, .bin .eql (.t 43) (.t 44), some (42, true)⟩,
   ⟨some 46, .pick (.t 42) (.t 45) (.c (.bool false)), none⟩,
   ⟨some 47, .mv (.t 46), none⟩,
   ⟨some 48, .mv (.t 6), some (47, true)⟩,
   ⟨some 49, .mv (.t 9), some (47, true)⟩,
   ⟨some 50, .bin .eql (.t 48) (.t 49), some (47, true)⟩,
   ⟨some 51, .pick (.t 47) (.t 50) (.c (.bool false)), none⟩,
   ⟨some 52, .mv (.t 51), none⟩,
   ⟨some 53, .mv (.t 7), some (52, true)⟩,
   ⟨some 54, .mv (.t 11), some (52, true)⟩,
   ⟨some 55, .call 13 [(.t 53), (.t 54)], some (52, true)⟩,
   ⟨some 56, .pick (.t 52) (.t 55) (.c (.bool false)), none⟩,
   ⟨some 57, .mv (.t 56), none⟩,
   ⟨some 58, .mv (.t 8), some (57, true)⟩,
   ⟨some 59, .mv (.t 9), some (57, true)⟩,
   ⟨some 60, .bin .eql (.t 58) (.t 59), some (57, true)⟩,
   ⟨some 61, .pick (.t 57) (.t 60) (.c (.bool false)), none⟩,
   ⟨some 4, .mv (.t 61), none⟩])
 .ret)
def f3_c1 : LCode := (.seq (.region [⟨some 4, .mv (.c (.bool false)), none⟩])
 (.seq (.seq (.region [⟨some 12, .call 6 [], none⟩,
   ⟨some 13, .un .not (.t 12), none⟩])
 (.cond (.t 13)
  (.seq (.region [⟨some 4, .mv (.c (.bool false)), none⟩])
  .ret)
  .skip))
 (.seq (.region [⟨some 15, .mv (.t 0), none⟩,
   ⟨some 16, .mv (.t 1), none⟩,
   ⟨some 17, .call 7 [(.t 15), (.t 16)], none⟩,
   ⟨some 14, .mv (.t 17), none⟩,
   ⟨some 18, .ext 0 (.t 14), none⟩,
   ⟨some 19, .ext 1 (.t 14), none⟩,
   ⟨some 5, .mv (.t 18), none⟩,
   ⟨some 6, .mv (.t 19), none⟩])
 (.seq (.region [⟨some 21, .mv (.t 0), none⟩,
   ⟨some 22, .mv (.t 1), none⟩,
   ⟨some 23, .call 8 [(.t 21), (.t 22)], none⟩,
   ⟨some 20, .mv (.t 23), none⟩,
   ⟨some 24, .ext 0 (.t 20), none⟩,
   ⟨some 25, .ext 1 (.t 20), none⟩,
   ⟨some 7, .mv (.t 24), none⟩,
   ⟨some 8, .mv (.t 25), none⟩])
 (.seq (.region [⟨some 26, .mv (.t 0), none⟩,
   ⟨some 27, .mv (.t 1), none⟩,
   ⟨some 28, .call 9 [(.t 26), (.t 27)], none⟩,
   ⟨some 9, .mv (.t 28), none⟩])
 (.seq (.region [⟨some 10, .mv (.c (.str [])), none⟩])
 (.seq (.region [⟨some 11, .mv (.c (.val (.slice none 0 0))), none⟩])
 (.seq (.seq (.region [⟨some 29, .mv (.t 9), none⟩,
   ⟨some 30, .bin .eql (.t 29) (.c (.int .i64 0)), none⟩])
 (.cond (.t 30)
  (.region [⟨some 31, .mv (.t 0), none⟩,
    ⟨some 32, .mv (.t 1), none⟩,
    ⟨some 33, .call 10 [(.t 31), (.t 32)], none⟩,
    ⟨some 34, .mv (.t 0), none⟩,
    ⟨some 35, .mv (.t 1), none⟩,
    ⟨some 36, .call 11 [(.t 34), (.t 35)], none⟩,
    ⟨some 10, .mv (.t 33), none⟩,
    ⟨some 11, .mv (.t 36), none⟩])
  .skip))
 f3_c0))))))))
def f3_lay : Lay := ⟨62, [], false⟩
def f3_res : List LRes := [.t 4]
def f3_L : LFn := ⟨2, f3_lay, f3_c1, f3_res⟩
theorem f3_low : lowFn Try.prog [] 3 = some f3_L := by kernel_rfl
theorem f3_fok : FnOk Try.prog 3 := ⟨_, Try.func3, rfl, rfl⟩
noncomputable def S_glossatorlaw4_TexteditApplyEqualsReference_j1 (m : Option Nat) (a0 : List UInt8) (a1 : List G_TextEdit) (v2 : (List UInt8) × Int) (v3 : (List G_TextEdit) × Int) (v4 : Int) (v7 : List UInt8) (v8 : List G_TextEdit) : Option Bool :=
  (S_textedit_Validate m a0 a1).bind fun v9 =>
  (if ((((v9 == v4) && (v2.1 == v7)) && (v2.2 == v4)) == true) = true then S_glossatorref4_EqualEdits m v3.1 v8 else some default).bind fun v10 =>
  some (((((v9 == v4) && (v2.1 == v7)) && (v2.2 == v4)) && v10) && (v3.2 == v4))

def f3_Q (a0 : List UInt8) (a1 : List G_TextEdit) (o : Bool) : Exit → Env → AHeap → Nat → Prop := FinK f3_res (PureEnd (.bool o))

theorem f3_j1_ok {a0 : List UInt8} {a1 : List G_TextEdit} {v2 : (List UInt8) × Int} {v3 : (List G_TextEdit) × Int} {v4 : Int} {v7 : List UInt8} {v8 : List G_TextEdit} {m : Option Nat} {o : Bool} (h : S_glossatorlaw4_TexteditApplyEqualsReference_j1 m a0 a1 v2 v3 v4 v7 v8 = some o) :
    LWp Try.prog f3_lay 0 f3_c0 (f3_Q a0 a1 o) [(0, .str a0), (1, .isl 3 (a1.map e_TextEdit) false), (5, .str v2.1), (6, .int .i64 v2.2), (7, .isl 3 (v3.1.map e_TextEdit) false), (8, .int .i64 v3.2), (9, .int .i64 v4), (10, .str v7), (11, .isl 3 (v8.map e_TextEdit) false)] [] 0 := by
  unfold S_glossatorlaw4_TexteditApplyEqualsReference_j1 at h
  refine seqI ?_
  refine regI ?_
  obtain ⟨v9, h9, h⟩ := bind_some h
  refine PFn.call (f12_ok h9) (And.intro (Vw.same _ rfl) (And.intro (Vw.same _ rfl) trivial)) ?_
  refine And.intro (fun hp => (And.intro hp hp)) ?_
  show yops _ _ _ [(45, .cnd ((v9 == v4) == true) (.bool (v2.1 == v7))), (44, .cnd ((v9 == v4) == true) (.str v7)), (43, .cnd ((v9 == v4) == true) (.str v2.1)), (42, .bool (v9 == v4)), (41, .bool (v9 == v4)), (40, .int .i64 v4), (39, .int .i64 v9), (38, .isl 3 (a1.map e_TextEdit) false), (37, .str a0), (0, .str a0), (1, .isl 3 (a1.map e_TextEdit) false), (5, .str v2.1), (6, .int .i64 v2.2), (7, .isl 3 (v3.1.map e_TextEdit) false), (8, .int .i64 v3.2), (9, .int .i64 v4), (10, .str v7), (11, .isl 3 (v8.map e_TextEdit) false)] _ _
  refine And.intro (fun hc => (bqt hc)) ?_
  refine And.intro (fun hp => (And.intro hp hp)) ?_
  show yops _ _ _ [(50, .cnd (((v9 == v4) && (v2.1 == v7)) == true) (.bool (v2.2 == v4))), (49, .cnd (((v9 == v4) && (v2.1 == v7)) == true) (.int .i64 v4)), (48, .cnd (((v9 == v4) && (v2.1 == v7)) == true) (.int .i64 v2.2)), (47, .bool ((v9 == v4) && (v2.1 == v7))), (46, .bool ((v9 == v4) && (v2.1 == v7))), (45, .cnd ((v9 == v4) == true) (.bool (v2.1 == v7))), (44, .cnd ((v9 == v4) == true) (.str v7)), (43, .cnd ((v9 == v4) == true) (.str v2.1)), (42, .bool (v9 == v4)), (41, .bool (v9 == v4)), (40, .int .i64 v4), (39, .int .i64 v9), (38, .isl 3 (a1.map e_TextEdit) false), (37, .str a0), (0, .str a0), (1, .isl 3 (a1.map e_TextEdit) false), (5, .str v2.1), (6, .int .i64 v2.2), (7, .isl 3 (v3.1.map e_TextEdit) false), (8, .int .i64 v3.2), (9, .int .i64 v4), (10, .str v7), (11, .isl 3 (v8.map e_TextEdit) false)] _ _
  refine And.intro (fun hc => (bqt hc)) ?_
  obtain ⟨v10, h10, h⟩ := bind_some h
  refine Or.inl (Exists.intro (.bool v10) (And.intro (fun hp => And.intro (And.intro hp hp) (PFn.call (f13_ok (ite_tt hp h10)) (And.intro (Vw.same _ rfl) (And.intro (Vw.same _ rfl) trivial)) (And.intro rfl (And.intro rfl rfl)))) ?_))
  refine And.intro (fun hc => (bqt hc)) ?_
  show yops _ _ _ [(56, .bool ((((v9 == v4) && (v2.1 == v7)) && (v2.2 == v4)) && v10)), (55, .cnd ((((v9 == v4) && (v2.1 == v7)) && (v2.2 == v4)) == true) (.bool v10)), (54, .cnd ((((v9 == v4) && (v2.1 == v7)) && (v2.2 == v4)) == true) (.isl 3 (v8.map e_TextEdit) false)), (53, .cnd ((((v9 == v4) && (v2.1 == v7)) && (v2.2 == v4)) == true) (.isl 3 (v3.1.map e_TextEdit) false)), (52, .bool (((v9 == v4) && (v2.1 == v7)) && (v2.2 == v4))), (51, .bool (((v9 == v4) && (v2.1 == v7)) && (v2.2 == v4))), (50, .cnd (((v9 == v4) && (v2.1 == v7)) == true) (.bool (v2.2 == v4))), (49, .cnd (((v9 == v4) && (v2.1 == v7)) == true) (.int .i64 v4)), (48, .cnd (((v9 == v4) && (v2.1 == v7)) == true) (.int .i64 v2.2)), (47, .bool ((v9 == v4) && (v2.1 == v7))), (46, .bool ((v9 == v4) && (v2.1 == v7))), (45, .cnd ((v9 == v4) == true) (.bool (v2.1 == v7))), (44, .cnd ((v9 == v4) == true) (.str v7)), (43, .cnd ((v9 == v4) == true) (.str v2.1)), (42, .bool (v9 == v4)), (41, .bool (v9 == v4)), (40, .int .i64 v4), (39, .int .i64 v9), (38, .isl 3 (a1.map e_TextEdit) false), (37, .str a0), (0, .str a0), (1, .isl 3 (a1.map e_TextEdit) false), (5, .str v2.1), (6, .int .i64 v2.2), (7, .isl 3 (v3.1.map e_TextEdit) false), (8, .int .i64 v3.2), (9, .int .i64 v4), (10, .str v7), (11, .isl 3 (v8.map e_TextEdit) false)] _ _
  refine And.intro (fun hp => (And.intro hp hp)) ?_
  refine And.intro (fun hc => (bqt hc)) ?_
  show yops _ _ _ [(61, .bool (((((v9 == v4) && (v2.1 == v7)) && (v2.2 == v4)) && v10) && (v3.2 == v4))), (60, .cnd (((((v9 == v4) && (v2.1 == v7)) && (v2.2 == v4)) && v10) == true) (.bool (v3.2 == v4))), (59, .cnd (((((v9 == v4) && (v2.1 == v7)) && (v2.2 == v4)) && v10) == true) (.int .i64 v4)), (58, .cnd (((((v9 == v4) && (v2.1 == v7)) && (v2.2 == v4)) && v10) == true) (.int .i64 v3.2)), (57, .bool ((((v9 == v4) && (v2.1 == v7)) && (v2.2 == v4)) && v10)), (56, .bool ((((v9 == v4) && (v2.1 == v7)) && (v2.2 == v4)) && v10)), (55, .cnd ((((v9 == v4) && (v2.1 == v7)) && (v2.2 == v4)) == true) (.bool v10)), (54, .cnd ((((v9 == v4) && (v2.1 == v7)) && (v2.2 == v4)) == true) (.isl 3 (v8.map e_TextEdit) false)), (53, .cnd ((((v9 == v4) && (v2.1 == v7)) && (v2.2 == v4)) == true) (.isl 3 (v3.1.map e_TextEdit) false)), (52, .bool (((v9 == v4) && (v2.1 == v7)) && (v2.2 == v4))), (51, .bool (((v9 == v4) && (v2.1 == v7)) && (v2.2 == v4))), (50, .cnd (((v9 == v4) && (v2.1 == v7)) == true) (.bool (v2.2 == v4))), (49, .cnd (((v9 == v4) && (v2.1 == v7)) == true) (.int .i64 v4)), (48, .cnd (((v9 == v4) && (v2.1 == v7)) == true) (.int .i64 v2.2)), (47, .bool ((v9 == v4) && (v2.1 == v7))), (46, .bool ((v9 == v4) && (v2.1 == v7))), (45, .cnd ((v9 == v4) == true) (.bool (v2.1 == v7))), (44, .cnd ((v9 == v4) == true) (.str v7)), (43, .cnd ((v9 == v4) == true) (.str v2.1)), (42, .bool (v9 == v4)), (41, .bool (v9 == v4)), (40, .int .i64 v4), (39, .int .i64 v9), (38, .isl 3 (a1.map e_TextEdit) false), (37, .str a0), (0, .str a0), (1, .isl 3 (a1.map e_TextEdit) false), (5, .str v2.1), (6, .int .i64 v2.2), (7, .isl 3 (v3.1.map e_TextEdit) false), (8, .int .i64 v3.2), (9, .int .i64 v4), (10, .str v7), (11, .isl 3 (v8.map e_TextEdit) false)] _ _
  refine LWp.sim (e := [(4, .bool (((((v9 == v4) && (v2.1 == v7)) && (v2.2 == v4)) && v10) && (v3.2 == v4)))]) (L := []) (n := 0) ?_ ?_
  · exact simI (M := []) rfl (And.intro (Vw.same _ rfl) trivial) trivial
  refine retI ?_
  cases h
  exact And.intro trivial (And.intro rfl (Vw.same _ rfl))

noncomputable def S_glossatorlaw4_TexteditApplyEqualsReference (m : Option Nat) (a0 : List UInt8) (a1 : List G_TextEdit) : Option Bool :=
  (S_glossatorlaw4_texteditExamples (some 4096)).bind fun v1 =>
  if (!v1) = true then
    some false
  else
    (S_textedit_Apply m a0 a1).bind fun v2 =>
    (S_textedit_Invert m a0 a1).bind fun v3 =>
    (S_glossatorref4_ValidateEdits m a0 a1).bind fun v4 =>
    if (v4 == 0) = true then
      (S_glossatorref4_ApplyEdits m a0 a1).bind fun v5 =>
      (S_glossatorref4_InvertEdits m a0 a1).bind fun v6 =>
      S_glossatorlaw4_TexteditApplyEqualsReference_j1 m a0 a1 v2 v3 v4 v5 v6
    else
      S_glossatorlaw4_TexteditApplyEqualsReference_j1 m a0 a1 v2 v3 v4 ([] : List UInt8) []

theorem f3_start {a0 : List UInt8} {a1 : List G_TextEdit} {m : Option Nat} {o : Bool} (h : S_glossatorlaw4_TexteditApplyEqualsReference m a0 a1 = some o) : LWp Try.prog f3_lay 0 f3_c1 (f3_Q a0 a1 o) (initEnv 0 [.str a0, .isl 3 (a1.map e_TextEdit) false]) [] 0 := by
  unfold S_glossatorlaw4_TexteditApplyEqualsReference at h
  refine seqI ?_
  refine regI ?_
  refine seqI ?_
  refine seqI ?_
  refine regI ?_
  obtain ⟨v1, h1, h⟩ := bind_some h
  refine PFn.call (f6_ok h1) trivial ?_
  refine condI (v := (!v1)) rfl trivial (fun h2 => ?_) (fun h2 => ?_)
  · have h := ite_tt h2 h
    refine seqI ?_
    refine regI ?_
    refine retI ?_
    cases h
    exact And.intro trivial (And.intro rfl (Vw.same _ rfl))
  · have h := ite_ff h2 h
    refine skipI ?_
    refine seqI ?_
    refine regI ?_
    obtain ⟨v2, h3, h⟩ := bind_some h
    refine PFn.call (f7_ok h3) (And.intro (Vw.same _ rfl) (And.intro (Vw.same _ rfl) trivial)) ?_
    show yops _ _ _ [(17, .tup [.str v2.1, .int .i64 v2.2]), (16, .isl 3 (a1.map e_TextEdit) false), (15, .str a0), (13, .bool (!v1)), (12, .bool v1), (4, .bool false), (0, .str a0), (1, .isl 3 (a1.map e_TextEdit) false)] _ _
    refine LWp.sim (e := [(0, .str a0), (1, .isl 3 (a1.map e_TextEdit) false), (5, .str v2.1), (6, .int .i64 v2.2)]) (L := []) (n := 0) ?_ ?_
    · exact simI (M := []) rfl (And.intro (Vw.same _ rfl) (And.intro (Vw.same _ rfl) (And.intro (Vw.same _ rfl) (And.intro (Vw.same _ rfl) trivial)))) trivial
    refine seqI ?_
    refine regI ?_
    obtain ⟨v3, h4, h⟩ := bind_some h
    refine PFn.call (f8_ok h4) (And.intro (Vw.same _ rfl) (And.intro (Vw.same _ rfl) trivial)) ?_
    refine LWp.sim (e := [(0, .str a0), (1, .isl 3 (a1.map e_TextEdit) false), (5, .str v2.1), (6, .int .i64 v2.2), (7, .isl 3 (v3.1.map e_TextEdit) false), (8, .int .i64 v3.2)]) (L := []) (n := 0) ?_ ?_
    · exact simI (M := []) rfl (And.intro (Vw.same _ rfl) (And.intro (Vw.same _ rfl) (And.intro (Vw.same _ rfl) (And.intro (Vw.same _ rfl) (And.intro (Vw.same _ rfl) (And.intro (Vw.same _ rfl) trivial)))))) trivial
    refine seqI ?_
    refine regI ?_
    obtain ⟨v4, h5, h⟩ := bind_some h
    refine PFn.call (f9_ok h5) (And.intro (Vw.same _ rfl) (And.intro (Vw.same _ rfl) trivial)) ?_
    refine seqI ?_
    refine regI ?_
    refine seqI ?_
    refine regI ?_
    refine seqI ?_
    refine seqI ?_
    refine regI ?_
    refine LWp.sim (e := [(0, .str a0), (1, .isl 3 (a1.map e_TextEdit) false), (5, .str v2.1), (6, .int .i64 v2.2), (7, .isl 3 (v3.1.map e_TextEdit) false), (8, .int .i64 v3.2), (9, .int .i64 v4), (10, .str ([] : List UInt8)), (11, .val (.slice none 0 0)), (30, .bool (v4 == 0))]) (L := []) (n := 0) ?_ ?_
    · exact simI (M := []) rfl (And.intro (Vw.same _ rfl) (And.intro (Vw.same _ rfl) (And.intro (Vw.same _ rfl) (And.intro (Vw.same _ rfl) (And.intro (Vw.same _ rfl) (And.intro (Vw.same _ rfl) (And.intro (Vw.same _ rfl) (And.intro (Vw.same _ rfl) (And.intro (Vw.same _ rfl) (And.intro (Vw.same _ rfl) trivial)))))))))) trivial
    refine condI (v := (v4 == 0)) rfl trivial (fun h6 => ?_) (fun h6 => ?_)
    · have h := ite_tt h6 h
      refine regI ?_
      obtain ⟨v5, h7, h⟩ := bind_some h
      refine PFn.call (f10_ok h7) (And.intro (Vw.same _ rfl) (And.intro (Vw.same _ rfl) trivial)) ?_
      obtain ⟨v6, h8, h⟩ := bind_some h
      refine PFn.call (f11_ok h8) (And.intro (Vw.same _ rfl) (And.intro (Vw.same _ rfl) trivial)) ?_
      show yops _ _ _ [(36, .isl 3 (v6.map e_TextEdit) false), (35, .isl 3 (a1.map e_TextEdit) false), (34, .str a0), (33, .str v5), (32, .isl 3 (a1.map e_TextEdit) false), (31, .str a0), (0, .str a0), (1, .isl 3 (a1.map e_TextEdit) false), (5, .str v2.1), (6, .int .i64 v2.2), (7, .isl 3 (v3.1.map e_TextEdit) false), (8, .int .i64 v3.2), (9, .int .i64 v4), (10, .str ([] : List UInt8)), (11, .val (.slice none 0 0)), (30, .bool (v4 == 0))] _ _
      refine LWp.sim ?_ (f3_j1_ok h)
      exact simI (M := []) rfl (And.intro (Vw.same _ rfl) (And.intro (Vw.same _ rfl) (And.intro (Vw.same _ rfl) (And.intro (Vw.same _ rfl) (And.intro (Vw.same _ rfl) (And.intro (Vw.same _ rfl) (And.intro (Vw.same _ rfl) (And.intro (Vw.same _ rfl) (And.intro (Vw.same _ rfl) trivial))))))))) trivial
    · have h := ite_ff h6 h
      refine skipI ?_
      refine LWp.sim ?_ (f3_j1_ok h)
      exact simI (M := []) rfl (And.intro (Vw.same _ rfl) (And.intro (Vw.same _ rfl) (And.intro (Vw.same _ rfl) (And.intro (Vw.same _ rfl) (And.intro (Vw.same _ rfl) (And.intro (Vw.same _ rfl) (And.intro (Vw.same _ rfl) (And.intro (Vw.same _ rfl) (And.intro (Vw.nilI _ _) trivial))))))))) trivial

theorem f3_ok {a0 : List UInt8} {a1 : List G_TextEdit} {m : Option Nat} {o : Bool} (h : S_glossatorlaw4_TexteditApplyEqualsReference m a0 a1 = some o) : PFn Try.prog 3 [.str a0, .isl 3 (a1.map e_TextEdit) false] (.bool o) := PFn.ofFnW (L := f3_L) f3_low f3_fok (Nat.le_of_ble_eq_true rfl) rfl (f3_start h)

def f27_c1 : LCode := (.seq (.seq (.region [⟨some 6, .mv (.t 5), none⟩,
   ⟨some 7, .mv (.t 0), none⟩,
   ⟨some 8, .len false (.t 7), none⟩,
   ⟨some 9, .bin .lss (.t 6) (.t 8), none⟩])
 (.cond (.t 9)
  .skip
  (.exit 0)))
 (.seq (.block 1
  (.seq (.region [⟨some 12, .mv (.t 0), none⟩,
    ⟨some 13, .mv (.t 5), none⟩,
    ⟨some 14, .iaddr 3 (.t 12) (.t 13), none⟩,
    ⟨some 15, .faddr 0 (.t 14), none⟩,
    ⟨some 16, .load false 1 (.t 15), none⟩,
    ⟨some 17, .mv (.t 1), none⟩,
    ⟨some 18, .bin .eql (.t 16) (.t 17), none⟩])
  (.cond (.t 18)
   (.seq (.region [⟨some 19, .mv (.t 0), none⟩,
     ⟨some 20, .mv (.t 5), none⟩,
     ⟨some 21, .iaddr 3 (.t 19) (.t 20), none⟩,
     ⟨some 22, .faddr 2 (.t 21), none⟩,
     ⟨some 23, .load false 1 (.t 22), none⟩,
     ⟨some 4, .mv (.t 23), none⟩])
   .ret)
   .skip)))
 (.region [⟨some 10, .mv (.t 5), none⟩,
   ⟨some 11, .bin .add (.t 10) (.c (.int .i64 1)), none⟩,
   ⟨some 5, .mv (.t 11), none⟩])))
def f27_c0 : LCode := (.seq (.region [⟨some 4, .mv (.c (.str [])), none⟩])
 .ret)
def f27_c2 : LCode := (.seq (.region [⟨some 4, .mv (.c (.str [])), none⟩])
 (.seq (.seq (.region [⟨some 5, .mv (.c (.int .i64 0)), none⟩])
 (.block 0
  (.loop
   f27_c1)))
 f27_c0))
def f27_lay : Lay := ⟨24, [], false⟩
def f27_res : List LRes := [.t 4]
def f27_L : LFn := ⟨2, f27_lay, f27_c2, f27_res⟩
theorem f27_low : lowFn Try.prog [] 27 = some f27_L := by kernel_rfl
theorem f27_fok : FnOk Try.prog 27 := ⟨_, Try.func27, rfl, rfl⟩
def f27_Q (a0 : List G_TextEdit) (a1 : Int) (o : (List UInt8)) : Exit → Env → AHeap → Nat → Prop := FinK f27_res (PureEnd (.str o))

def f27_L1_env (a0 : List G_TextEdit) (a1 : Int) (s : Int) : Env := [(0, .isl 3 (a0.map e_TextEdit) false), (1, .int .i64 a1), (5, .int .i64 s)]
def f27_L1_hp (a0 : List G_TextEdit) (a1 : Int) (s : Int) : AHeap := []
def f27_L1_Q (a0 : List G_TextEdit) (a1 : Int) (o : (List UInt8)) : Exit → Env → AHeap → Nat → Prop := (QBlock 0 (QSeq Try.prog f27_lay 0 f27_c0 (f27_Q a0 a1 o)))

noncomputable def S_glossatorref4_InsertedAt_j1 (m : Option Nat) : Option (List UInt8) :=
  some ([] : List UInt8)

noncomputable def S_glossatorref4_InsertedAt_b1 (m : Option Nat) (a0 : List G_TextEdit) (a1 : Int) (v1 : Int) : Option (Int ⊕ (List UInt8)) :=
  if (decide (v1 < ((a0.map e_TextEdit).length : Int))) = true then
    if (0 : Int) ≤ v1 ∧ v1 < ((a0.map e_TextEdit).length : Int) then
    if ((a0.getD v1.toNat default).f_Start == a1) = true then
      if (0 : Int) ≤ v1 ∧ v1 < ((a0.map e_TextEdit).length : Int) then
      Option.map Sum.inr (
        some ((a0.getD v1.toNat default).f_NewText))
      else none
    else
      some (.inl (W (v1 + 1)))
    else none
  else
    Option.map Sum.inr (
      S_glossatorref4_InsertedAt_j1 m)

noncomputable def S_glossatorref4_InsertedAt_l1 (m : Option Nat) (a0 : List G_TextEdit) (a1 : Int) (v1 : Int) : Option (List UInt8) := loopM m (fun (s : Int) => S_glossatorref4_InsertedAt_b1 m a0 a1 s) v1

theorem f27_j1_ok {a0 : List G_TextEdit} {a1 : Int} {m : Option Nat} {o : (List UInt8)} (h : S_glossatorref4_InsertedAt_j1 m = some o) :
    LWp Try.prog f27_lay 0 f27_c0 (f27_Q a0 a1 o) [] [] 0 := by
  unfold S_glossatorref4_InsertedAt_j1 at h
  refine seqI ?_
  refine regI ?_
  refine retI ?_
  cases h
  exact And.intro trivial (And.intro rfl (Vw.same _ rfl))

theorem f27_L1_bok {a0 : List G_TextEdit} {a1 : Int} {v1 : Int} {m : Option Nat} {o : Int ⊕ (List UInt8)} (h : S_glossatorref4_InsertedAt_b1 m a0 a1 v1 = some o) :
    LWp Try.prog f27_lay 0 f27_c1 (BodyQ 0 0 (f27_L1_env a0 a1) (f27_L1_hp a0 a1) (f27_L1_Q a0 a1) o) [(0, .isl 3 (a0.map e_TextEdit) false), (1, .int .i64 a1), (5, .int .i64 v1)] [] 0 := by
  unfold S_glossatorref4_InsertedAt_b1 at h
  refine seqI ?_
  refine seqI ?_
  refine regI ?_
  refine condI (v := (decide (v1 < ((a0.map e_TextEdit).length : Int)))) rfl trivial (fun h9 => ?_) (fun h9 => ?_)
  · have h := ite_tt h9 h
    refine skipI ?_
    refine seqI ?_
    refine blockI ?_
    refine seqI ?_
    refine regI ?_
    obtain ⟨h10, h⟩ := ite_some h
    refine And.intro h10 ?_
    show yops _ _ _ [(14, .iptr 3 (a0.map e_TextEdit) v1.toNat 0), (13, .int .i64 v1), (12, .isl 3 (a0.map e_TextEdit) false), (9, .bool (decide (v1 < ((a0.map e_TextEdit).length : Int)))), (8, .int .i64 ((a0.map e_TextEdit).length : Int)), (7, .isl 3 (a0.map e_TextEdit) false), (6, .int .i64 v1), (0, .isl 3 (a0.map e_TextEdit) false), (1, .int .i64 a1), (5, .int .i64 v1)] _ _
    refine Exists.intro (e_TextEdit (a0.getD v1.toNat default)) (And.intro (getD_enc e_TextEdit _ _ (idx_ltL e_TextEdit h10)) (And.intro (And.intro (idx_lt h10) (Nat.le_of_ble_eq_true rfl)) ?_))
    refine LWp.sim (e := [(0, .isl 3 (a0.map e_TextEdit) false), (1, .int .i64 a1), (5, .int .i64 v1), (18, .bool ((a0.getD v1.toNat default).f_Start == a1))]) (L := []) (n := 0) ?_ ?_
    · exact simI (M := []) rfl (And.intro (Vw.same _ rfl) (And.intro (Vw.same _ rfl) (And.intro (Vw.same _ rfl) (And.intro (Vw.same _ rfl) trivial)))) trivial
    refine condI (v := ((a0.getD v1.toNat default).f_Start == a1)) rfl trivial (fun h11 => ?_) (fun h11 => ?_)
    · have h := ite_tt h11 h
      refine seqI ?_
      refine regI ?_
      obtain ⟨h12, h⟩ := ite_some h
      refine And.intro h12 ?_
      refine Exists.intro (e_TextEdit (a0.getD v1.toNat default)) (And.intro (getD_enc e_TextEdit _ _ (idx_ltL e_TextEdit h12)) (And.intro (And.intro (idx_lt h12) (Nat.le_of_ble_eq_true rfl)) ?_))
      refine retI ?_
      obtain ⟨o, hq, rfl⟩ := Option.map_eq_some_iff.1 h
      replace h := hq; clear hq
      refine And.intro nofun ?_
      cases h
      exact And.intro trivial (And.intro rfl (Vw.same _ rfl))
    · have h := ite_ff h11 h
      refine skipI ?_
      refine regI ?_
      cases h
      exact And.intro rfl (simI (M := []) rfl (And.intro (Vw.same _ rfl) (And.intro (Vw.same _ rfl) (And.intro (Vw.same _ rfl) trivial))) trivial)
  · have h := ite_ff h9 h
    refine exitI ?_
    obtain ⟨o, hq, rfl⟩ := Option.map_eq_some_iff.1 h
    replace h := hq; clear hq
    refine And.intro nofun ?_
    refine LWp.sim ?_ (f27_j1_ok h)
    exact simI (M := []) rfl trivial trivial

theorem f27_L1_ok {a0 : List G_TextEdit} {a1 : Int} {v1 : Int} {m : Option Nat} {o : (List UInt8)} (h : S_glossatorref4_InsertedAt_l1 m a0 a1 v1 = some o) :
    LWp Try.prog f27_lay 0 (.loop f27_c1) (QBlock 0 (QSeq Try.prog f27_lay 0 f27_c0 (f27_Q a0 a1 o))) [(0, .isl 3 (a0.map e_TextEdit) false), (1, .int .i64 a1), (5, .int .i64 v1)] [] 0 :=
  LWp_loopM (m := m) (s := (v1 : Int)) (r := o) (fun (s : Int) => S_glossatorref4_InsertedAt_b1 m a0 a1 s) (f27_L1_env a0 a1) (f27_L1_hp a0 a1) (f27_L1_Q a0 a1) (fun s o h => f27_L1_bok h) h

noncomputable def S_glossatorref4_InsertedAt (m : Option Nat) (a0 : List G_TextEdit) (a1 : Int) : Option (List UInt8) :=
  S_glossatorref4_InsertedAt_l1 m a0 a1 0

theorem f27_start {a0 : List G_TextEdit} {a1 : Int} {m : Option Nat} {o : (List UInt8)} (h : S_glossatorref4_InsertedAt m a0 a1 = some o) : LWp Try.prog f27_lay 0 f27_c2 (f27_Q a0 a1 o) (initEnv 0 [.isl 3 (a0.map e_TextEdit) false, .int .i64 a1]) [] 0 := by
  unfold S_glossatorref4_InsertedAt at h
  refine seqI ?_
  refine regI ?_
  refine seqI ?_
  refine seqI ?_
  refine regI ?_
  refine blockI ?_
  refine LWp.sim ?_ (f27_L1_ok h)
  exact simI (M := []) rfl (And.intro (Vw.same _ rfl) (And.intro (Vw.same _ rfl) (And.intro (Vw.same _ rfl) trivial))) trivial

theorem f27_ok {a0 : List G_TextEdit} {a1 : Int} {m : Option Nat} {o : (List UInt8)} (h : S_glossatorref4_InsertedAt m a0 a1 = some o) : PFn Try.prog 27 [.isl 3 (a0.map e_TextEdit) false, .int .i64 a1] (.str o) := PFn.ofFnW (L := f27_L) f27_low f27_fok (Nat.le_of_ble_eq_true rfl) rfl (f27_start h)

def f28_c1 : LCode := (.seq (.seq (.region [⟨some 6, .mv (.t 5), none⟩,
   ⟨some 7, .mv (.t 0), none⟩,
   ⟨some 8, .len false (.t 7), none⟩,
   ⟨some 9, .bin .lss (.t 6) (.t 8), none⟩])
 (.cond (.t 9)
  .skip
  (.exit 0)))
 (.seq (.block 1
  (.seq (.region [⟨some 12, .mv (.t 0), none⟩,
    ⟨some 13, .mv (.t 5), none⟩,
    ⟨some 14, .iaddr 3 (.t 12) (.t 13), none⟩,
    ⟨some 15, .faddr 0 (.t 14), none⟩,
    ⟨some 16, .load false 1 (.t 15), none⟩,
    ⟨some 17, .mv (.t 1), none⟩,
    ⟨some 18, .bin .leq (.t 16) (.t 17), none⟩,
    ⟨some 19, .mv (.t 18), none⟩,
    ⟨some 20, .mv (.t 1), some (19, true)⟩,
    ⟨some 21, .mv (.t 0), some (19, true)⟩,
    ⟨some 22, .mv (.t 5), some (19, true)⟩,
    ⟨some 23, .iaddr 3 (.t 21) (.t 22), some (19, true)⟩,
    ⟨some 24, .faddr 1 (.t 23), some (19, true)⟩,
    ⟨some 25, .load false 1 (.t 24), some (19, true)⟩,
    ⟨some 26, .bin .lss (.t 20) (.t 25), some (19, true)⟩,
    ⟨some 27, .pick (.t 19) (.t 26) (.c (.bool false)), none⟩])
  (.cond (.t 27)
   (.seq (.region [⟨some 4, .mv (.c (.bool true)), none⟩])
   .ret)
   .skip)))
 (.region [⟨some 10, .mv (.t 5), none⟩,
   ⟨some 11, .bin .add (.t 10) (.c (.int .i64 1)), none⟩,
   ⟨some 5, .mv (.t 11), none⟩])))
def f28_c0 : LCode := (.seq (.region [⟨some 4, .mv (.c (.bool false)), none⟩])
 .ret)
def f28_c2 : LCode := (.seq (.region [⟨some 4, .mv (.c (.bool false)), none⟩])
 (.seq (.seq (.region [⟨some 5, .mv (.c (.int .i64 0)), none⟩])
 (.block 0
  (.loop
   f28_c1)))
 f28_c0))
def f28_lay : Lay := ⟨28, [], false⟩
def f28_res : List LRes := [.t 4]
def f28_L : LFn := ⟨2, f28_lay, f28_c2, f28_res⟩
theorem f28_low : lowFn Try.prog [] 28 = some f28_L := by kernel_rfl
theorem f28_fok : FnOk Try.prog 28 := ⟨_, Try.func28, rfl, rfl⟩
def f28_Q (a0 : List G_TextEdit) (a1 : Int) (o : Bool) : Exit → Env → AHeap → Nat → Prop := FinK f28_res (PureEnd (.bool o))

def f28_L1_env (a0 : List G_TextEdit) (a1 : Int) (s : Int) : Env := [(0, .isl 3 (a0.map e_TextEdit) false), (1, .int .i64 a1), (5, .int .i64 s)]
def f28_L1_hp (a0 : List G_TextEdit) (a1 : Int) (s : Int) : AHeap := []
def f28_L1_Q (a0 : List G_TextEdit) (a1 : Int) (o : Bool) : Exit → Env → AHeap → Nat → Prop := (QBlock 0 (QSeq Try.prog f28_lay 0 f28_c0 (f28_Q a0 a1 o)))

noncomputable def S_glossatorref4_DeletesByte_j1 (m : Option Nat) : Option Bool :=
  some false

noncomputable def S_glossatorref4_DeletesByte_b1 (m : Option Nat) (a0 : List G_TextEdit) (a1 : Int) (v1 : Int) : Option (Int ⊕ Bool) :=
  if (decide (v1 < ((a0.map e_TextEdit).length : Int))) = true then
    if (0 : Int) ≤ v1 ∧ v1 < ((a0.map e_TextEdit).length : Int) then
    if (((decide ((a0.getD v1.toNat default).f_Start ≤ a1)) == true) = true → (0 : Int) ≤ v1 ∧ v1 < ((a0.map e_TextEdit).length : Int)) then
    if ((decide ((a0.getD v1.toNat default).f_Start ≤ a1)) && (decide (a1 < (a0.getD v1.toNat default).f_End))) = true then
      Option.map Sum.inr (
        some true)
    else
      some (.inl (W (v1 + 1)))
    else none
    else none
  else
    Option.map Sum.inr (
      S_glossatorref4_DeletesByte_j1 m)

noncomputable def S_glossatorref4_DeletesByte_l1 (m : Option Nat) (a0 : List G_TextEdit) (a1 : Int) (v1 : Int) : Option Bool := loopM m (fun (s : Int) => S_glossatorref4_DeletesByte_b1 m a0 a1 s) v1

theorem f28_j1_ok {a0 : List G_TextEdit} {a1 : Int} {m : Option Nat} {o : Bool} (h : S_glossatorref4_DeletesByte_j1 m = some o) :
    LWp Try.prog f28_lay 0 f28_c0 (f28_Q a0 a1 o) [] [] 0 := by
  unfold S_glossatorref4_DeletesByte_j1 at h
  refine seqI ?_
  refine regI ?_
  refine retI ?_
  cases h
  exact And.intro trivial (And.intro rfl (Vw.same _ rfl))

theorem f28_L1_bok {a0 : List G_TextEdit} {a1 : Int} {v1 : Int} {m : Option Nat} {o : Int ⊕ Bool} (h : S_glossatorref4_DeletesByte_b1 m a0 a1 v1 = some o) :
    LWp Try.prog f28_lay 0 f28_c1 (BodyQ 0 0 (f28_L1_env a0 a1) (f28_L1_hp a0 a1) (f28_L1_Q a0 a1) o) [(0, .isl 3 (a0.map e_TextEdit) false), (1, .int .i64 a1), (5, .int .i64 v1)] [] 0 := by
  unfold S_glossatorref4_DeletesByte_b1 at h
  refine seqI ?_
  refine seqI ?_
  refine regI ?_
  refine condI (v := (decide (v1 < ((a0.map e_TextEdit).length : Int)))) rfl trivial (fun h9 => ?_) (fun h9 => ?_)
  · have h := ite_tt h9 h
    refine skipI ?_
    refine seqI ?_
    refine blockI ?_
    refine seqI ?_
    refine regI ?_
    obtain ⟨h10, h⟩ := ite_some h
    refine And.intro h10 ?_
    show yops _ _ _ [(14, .iptr 3 (a0.map e_TextEdit) v1.toNat 0), (13, .int .i64 v1), (12, .isl 3 (a0.map e_TextEdit) false), (9, .bool (decide (v1 < ((a0.map e_TextEdit).length : Int)))), (8, .int .i64 ((a0.map e_TextEdit).length : Int)), (7, .isl 3 (a0.map e_TextEdit) false), (6, .int .i64 v1), (0, .isl 3 (a0.map e_TextEdit) false), (1, .int .i64 a1), (5, .int .i64 v1)] _ _
    refine Exists.intro (e_TextEdit (a0.getD v1.toNat default)) (And.intro (getD_enc e_TextEdit _ _ (idx_ltL e_TextEdit h10)) (And.intro (And.intro (idx_lt h10) (Nat.le_of_ble_eq_true rfl)) ?_))
    obtain ⟨h11, h⟩ := ite_some h
    refine And.intro (fun hp => (And.intro (And.intro hp hp) (h11 hp))) ?_
    show yops _ _ _ [(23, .cnd ((decide ((a0.getD v1.toNat default).f_Start ≤ a1)) == true) (.iptr 3 (a0.map e_TextEdit) v1.toNat 0)), (22, .cnd ((decide ((a0.getD v1.toNat default).f_Start ≤ a1)) == true) (.int .i64 v1)), (21, .cnd ((decide ((a0.getD v1.toNat default).f_Start ≤ a1)) == true) (.isl 3 (a0.map e_TextEdit) false)), (20, .cnd ((decide ((a0.getD v1.toNat default).f_Start ≤ a1)) == true) (.int .i64 a1)), (19, .bool (decide ((a0.getD v1.toNat default).f_Start ≤ a1))), (18, .bool (decide ((a0.getD v1.toNat default).f_Start ≤ a1))), (17, .int .i64 a1), (16, .int .i64 ((a0.getD v1.toNat default).f_Start)), (15, .iptr 3 (a0.map e_TextEdit) v1.toNat 0), (14, .iptr 3 (a0.map e_TextEdit) v1.toNat 0), (13, .int .i64 v1), (12, .isl 3 (a0.map e_TextEdit) false), (9, .bool (decide (v1 < ((a0.map e_TextEdit).length : Int)))), (8, .int .i64 ((a0.map e_TextEdit).length : Int)), (7, .isl 3 (a0.map e_TextEdit) false), (6, .int .i64 v1), (0, .isl 3 (a0.map e_TextEdit) false), (1, .int .i64 a1), (5, .int .i64 v1)] _ _
    refine And.intro (fun hp => hp) ?_
    refine Exists.intro (e_TextEdit (a0.getD v1.toNat default)) (And.intro (fun hp => And.intro (getD_enc e_TextEdit _ _ (idx_ltL e_TextEdit (h11 hp))) (And.intro hp (And.intro (idx_lt (h11 hp)) (Nat.le_of_ble_eq_true rfl)))) ?_)
    refine And.intro (fun hp => (And.intro hp hp)) ?_
    refine And.intro (fun hc => (bqt hc)) ?_
    refine LWp.sim (e := [(0, .isl 3 (a0.map e_TextEdit) false), (1, .int .i64 a1), (5, .int .i64 v1), (27, .bool ((decide ((a0.getD v1.toNat default).f_Start ≤ a1)) && (decide (a1 < (a0.getD v1.toNat default).f_End))))]) (L := []) (n := 0) ?_ ?_
    · exact simI (M := []) rfl (And.intro (Vw.same _ rfl) (And.intro (Vw.same _ rfl) (And.intro (Vw.same _ rfl) (And.intro (Vw.same _ rfl) trivial)))) trivial
    refine condI (v := ((decide ((a0.getD v1.toNat default).f_Start ≤ a1)) && (decide (a1 < (a0.getD v1.toNat default).f_End)))) rfl trivial (fun h12 => ?_) (fun h12 => ?_)
    · have h := ite_tt h12 h
      refine seqI ?_
      refine regI ?_
      refine retI ?_
      obtain ⟨o, hq, rfl⟩ := Option.map_eq_some_iff.1 h
      replace h := hq; clear hq
      refine And.intro nofun ?_
      cases h
      exact And.intro trivial (And.intro rfl (Vw.same _ rfl))
    · have h := ite_ff h12 h
      refine skipI ?_
      refine regI ?_
      cases h
      exact And.intro rfl (simI (M := []) rfl (And.intro (Vw.same _ rfl) (And.intro (Vw.same _ rfl) (And.intro (Vw.same _ rfl) trivial))) trivial)
  · have h := ite_ff h9 h
    refine exitI ?_
    obtain ⟨o, hq, rfl⟩ := Option.map_eq_some_iff.1 h
    replace h := hq; clear hq
    refine And.intro nofun ?_
    refine LWp.sim ?_ (f28_j1_ok h)
    exact simI (M := []) rfl trivial trivial

theorem f28_L1_ok {a0 : List G_TextEdit} {a1 : Int} {v1 : Int} {m : Option Nat} {o : Bool} (h : S_glossatorref4_DeletesByte_l1 m a0 a1 v1 = some o) :
    LWp Try.prog f28_lay 0 (.loop f28_c1) (QBlock 0 (QSeq Try.prog f28_lay 0 f28_c0 (f28_Q a0 a1 o))) [(0, .isl 3 (a0.map e_TextEdit) false), (1, .int .i64 a1), (5, .int .i64 v1)] [] 0 :=
  LWp_loopM (m := m) (s := (v1 : Int)) (r := o) (fun (s : Int) => S_glossatorref4_DeletesByte_b1 m a0 a1 s) (f28_L1_env a0 a1) (f28_L1_hp a0 a1) (f28_L1_Q a0 a1) (fun s o h => f28_L1_bok h) h

noncomputable def S_glossatorref4_DeletesByte (m : Option Nat) (a0 : List G_TextEdit) (a1 : Int) : Option Bool :=
  S_glossatorref4_DeletesByte_l1 m a0 a1 0

theorem f28_start {a0 : List G_TextEdit} {a1 : Int} {m : Option Nat} {o : Bool} (h : S_glossatorref4_DeletesByte m a0 a1 = some o) : LWp Try.prog f28_lay 0 f28_c2 (f28_Q a0 a1 o) (initEnv 0 [.isl 3 (a0.map e_TextEdit) false, .int .i64 a1]) [] 0 := by
  unfold S_glossatorref4_DeletesByte at h
  refine seqI ?_
  refine regI ?_
  refine seqI ?_
  refine seqI ?_
  refine regI ?_
  refine blockI ?_
  refine LWp.sim ?_ (f28_L1_ok h)
  exact simI (M := []) rfl (And.intro (Vw.same _ rfl) (And.intro (Vw.same _ rfl) (And.intro (Vw.same _ rfl) trivial))) trivial

theorem f28_ok {a0 : List G_TextEdit} {a1 : Int} {m : Option Nat} {o : Bool} (h : S_glossatorref4_DeletesByte m a0 a1 = some o) : PFn Try.prog 28 [.isl 3 (a0.map e_TextEdit) false, .int .i64 a1] (.bool o) := PFn.ofFnW (L := f28_L) f28_low f28_fok (Nat.le_of_ble_eq_true rfl) rfl (f28_start h)

def f24_c2 : LCode := (.seq (.seq (.region [⟨some 18, .mv (.t 8), none⟩,
   ⟨some 19, .mv (.t 7), none⟩,
   ⟨some 20, .len true (.t 19), none⟩,
   ⟨some 21, .bin .lss (.t 18) (.t 20), none⟩])
 (.cond (.t 21)
  .skip
  (.exit 2)))
 (.seq (.block 3
  (.region [⟨some 24, .mv (.t 5), none⟩,
    ⟨some 25, .mv (.t 7), none⟩,
    ⟨some 26, .mv (.t 8), none⟩,
    ⟨some 27, .idxS (.t 25) (.t 26), none⟩,
    ⟨some 28, .build [(.int .u8 0), (.int .i64 0)] [(0, 1, (.t 27)), (1, 1, (.c (.int .i64 (-1))))], none⟩,
    ⟨some 29, .mkSl true 2 [(.int .u8 0), (.int .i64 0)] 1 [(0, (.t 28))], none⟩,
    ⟨some 30, .app true 2 16 (.t 24) (.t 29), none⟩,
    ⟨some 5, .mv (.t 30), none⟩]))
 (.region [⟨some 22, .mv (.t 8), none⟩,
   ⟨some 23, .bin .add (.t 22) (.c (.int .i64 1)), none⟩,
   ⟨some 8, .mv (.t 23), none⟩])))
def f24_c0 : LCode := (.seq (.region [⟨some 31, .mv (.t 6), none⟩,
   ⟨some 32, .mv (.t 0), none⟩,
   ⟨some 33, .len false (.t 32), none⟩,
   ⟨some 34, .bin .lss (.t 31) (.t 33), none⟩,
   ⟨some 35, .mv (.t 34), none⟩,
   ⟨some 36, .mv (.t 1), some (35, true)⟩,
   ⟨some 37, .mv (.t 6), some (35, true)⟩,
   ⟨some 38, .call 28 [(.t 36), (.t 37)], some (35, true)⟩,
   ⟨some 39, .un .not (.t 38), some (35, true)⟩,
   ⟨some 40, .pick (.t 35) (.t 39) (.c (.bool false)), none⟩])
 (.cond (.t 40)
  (.region [⟨some 41, .mv (.t 5), none⟩,
    ⟨some 42, .mv (.t 0), none⟩,
    ⟨some 43, .mv (.t 6), none⟩,
    ⟨some 44, .iaddr 2 (.t 42) (.t 43), none⟩,
    ⟨some 45, .load true 2 (.t 44), none⟩,
    ⟨some 46, .mkSl true 2 [(.int .u8 0), (.int .i64 0)] 1 [(0, (.t 45))], none⟩,
    ⟨some 47, .app true 2 16 (.t 41) (.t 46), none⟩,
    ⟨some 5, .mv (.t 47), none⟩])
  .skip))
def f24_c1 : LCode := (.region [⟨some 13, .mv (.t 6), none⟩,
   ⟨some 14, .bin .add (.t 13) (.c (.int .i64 1)), none⟩,
   ⟨some 6, .mv (.t 14), none⟩])
def f24_c4 : LCode := (.seq (.seq (.region [⟨some 9, .mv (.t 6), none⟩,
   ⟨some 10, .mv (.t 0), none⟩,
   ⟨some 11, .len false (.t 10), none⟩,
   ⟨some 12, .bin .leq (.t 9) (.t 11), none⟩])
 (.cond (.t 12)
  .skip
  (.exit 0)))
 (.seq (.block 1
  (.seq (.region [⟨some 15, .mv (.t 1), none⟩,
    ⟨some 16, .mv (.t 6), none⟩,
    ⟨some 17, .call 27 [(.t 15), (.t 16)], none⟩,
    ⟨some 7, .mv (.t 17), none⟩])
  (.seq (.seq (.region [⟨some 8, .mv (.c (.int .i64 0)), none⟩])
  (.block 2
   (.loop
    f24_c2)))
  f24_c0)))
 f24_c1))
def f24_c3 : LCode := (.seq (.region [⟨some 48, .mv (.t 5), none⟩,
   ⟨some 4, .mv (.t 48), none⟩])
 .ret)
def f24_c5 : LCode := (.seq (.region [⟨some 4, .mv (.c (.val (.slice none 0 0))), none⟩])
 (.seq (.region [⟨some 5, .mv (.c (.val (.slice none 0 0))), none⟩])
 (.seq (.seq (.region [⟨some 6, .mv (.c (.int .i64 0)), none⟩])
 (.block 0
  (.loop
   f24_c4)))
 f24_c3)))
def f24_lay : Lay := ⟨49, [], false⟩
def f24_res : List LRes := [.t 4]
def f24_L : LFn := ⟨2, f24_lay, f24_c5, f24_res⟩
theorem f24_low : lowFn Try.prog [] 24 = some f24_L := by kernel_rfl
theorem f24_fok : FnOk Try.prog 24 := ⟨_, Try.func24, rfl, rfl⟩
def f24_Q (a0 : List G_TracedByte) (a1 : List G_TextEdit) (o : (List G_TracedByte)) : Exit → Env → AHeap → Nat → Prop := FinK f24_res (PureEnd (.isl 2 (o.map e_TracedByte) false))

def f24_L3_env (a0 : List G_TracedByte) (a1 : List G_TextEdit) (s : ((List G_TracedByte) × Int)) : Env := [(0, .isl 2 (a0.map e_TracedByte) false), (1, .isl 3 (a1.map e_TextEdit) false), (5, .osl (0, 0) 2 (s.1.map e_TracedByte)), (6, .int .i64 s.2)]
def f24_L3_hp (a0 : List G_TracedByte) (a1 : List G_TextEdit) (s : ((List G_TracedByte) × Int)) : AHeap := [((0, 0), .tok)]
def f24_L3_Q (a0 : List G_TracedByte) (a1 : List G_TextEdit) (o : (List G_TracedByte)) : Exit → Env → AHeap → Nat → Prop := (QBlock 0 (QSeq Try.prog f24_lay 0 f24_c3 (f24_Q a0 a1 o)))

def f24_L4_env (a0 : List G_TracedByte) (a1 : List G_TextEdit) (v7 : Int) (v13 : (List UInt8)) (s : ((List G_TracedByte) × Int)) : Env := [(0, .isl 2 (a0.map e_TracedByte) false), (1, .isl 3 (a1.map e_TextEdit) false), (5, .osl (0, 0) 2 (s.1.map e_TracedByte)), (6, .int .i64 v7), (7, .str v13), (8, .int .i64 s.2)]
def f24_L4_hp (a0 : List G_TracedByte) (a1 : List G_TextEdit) (v7 : Int) (v13 : (List UInt8)) (s : ((List G_TracedByte) × Int)) : AHeap := [((0, 0), .tok)]
def f24_L4_Q (a0 : List G_TracedByte) (a1 : List G_TextEdit) (o : (((List G_TracedByte) × Int) ⊕ (List G_TracedByte))) : Exit → Env → AHeap → Nat → Prop := (QBlock 2 (QSeq Try.prog f24_lay 0 f24_c0 (QBlock 1 (QSeq Try.prog f24_lay 0 f24_c1 (BodyQ 0 1 (f24_L3_env a0 a1) (f24_L3_hp a0 a1) (f24_L3_Q a0 a1) o)))))

noncomputable def S_glossatorref4_applyToTrace_j6 (m : Option Nat) (a0 : List G_TracedByte) (a1 : List G_TextEdit) (v7 : Int) (v17 : List G_TracedByte) : Option (((List G_TracedByte) × Int) ⊕ (List G_TracedByte)) :=
  some (.inl (v17, (W (v7 + 1))))

noncomputable def S_glossatorref4_applyToTrace_j5 (m : Option Nat) (a0 : List G_TracedByte) (a1 : List G_TextEdit) (v7 : Int) (v14 : List G_TracedByte) : Option (((List G_TracedByte) × Int) ⊕ (List G_TracedByte)) :=
  (if ((decide (v7 < ((a0.map e_TracedByte).length : Int))) == true) = true then S_glossatorref4_DeletesByte m a1 v7 else some default).bind fun v16 =>
  if ((decide (v7 < ((a0.map e_TracedByte).length : Int))) && (!v16)) = true then
    if (0 : Int) ≤ v7 ∧ v7 < ((a0.map e_TracedByte).length : Int) then
    if ((v14 ++ ([(G_TracedByte.mk ((a0.getD v7.toNat default).f_Value) ((a0.getD v7.toNat default).f_Origin))] : List G_TracedByte)).map e_TracedByte).length * 16 ≤ 140737488355328 then
    S_glossatorref4_applyToTrace_j6 m a0 a1 v7 (v14 ++ ([(G_TracedByte.mk ((a0.getD v7.toNat default).f_Value) ((a0.getD v7.toNat default).f_Origin))] : List G_TracedByte))
    else none
    else none
  else
    S_glossatorref4_applyToTrace_j6 m a0 a1 v7 v14

noncomputable def S_glossatorref4_applyToTrace_b4 (m : Option Nat) (a0 : List G_TracedByte) (a1 : List G_TextEdit) (v7 : Int) (v13 : (List UInt8)) (v14 : List G_TracedByte) (v15 : Int) : Option (((List G_TracedByte) × Int) ⊕ (((List G_TracedByte) × Int) ⊕ (List G_TracedByte))) :=
  if (decide (v15 < (v13.length : Int))) = true then
    if (0 : Int) ≤ v15 ∧ v15 < (v13.length : Int) then
    if ((v14 ++ ([(G_TracedByte.mk (((v13.getD v15.toNat 0).toNat : Nat) : Int) (-1))] : List G_TracedByte)).map e_TracedByte).length * 16 ≤ 140737488355328 then
    some (.inl ((v14 ++ ([(G_TracedByte.mk (((v13.getD v15.toNat 0).toNat : Nat) : Int) (-1))] : List G_TracedByte)), (W (v15 + 1))))
    else none
    else none
  else
    Option.map Sum.inr (
      S_glossatorref4_applyToTrace_j5 m a0 a1 v7 v14)

noncomputable def S_glossatorref4_applyToTrace_l4 (m : Option Nat) (a0 : List G_TracedByte) (a1 : List G_TextEdit) (v7 : Int) (v13 : (List UInt8)) (v14 : List G_TracedByte) (v15 : Int) : Option (((List G_TracedByte) × Int) ⊕ (List G_TracedByte)) := loopM m (fun (s : ((List G_TracedByte) × Int)) => S_glossatorref4_applyToTrace_b4 m a0 a1 v7 v13 s.1 s.2) (v14, v15)

theorem f24_j6_ok {a0 : List G_TracedByte} {a1 : List G_TextEdit} {v7 : Int} {v17 : List G_TracedByte} {m : Option Nat} {o : (((List G_TracedByte) × Int) ⊕ (List G_TracedByte))} (h : S_glossatorref4_applyToTrace_j6 m a0 a1 v7 v17 = some o) :
    LWp Try.prog f24_lay 0 f24_c1 (BodyQ 0 1 (f24_L3_env a0 a1) (f24_L3_hp a0 a1) (f24_L3_Q a0 a1) o) [(0, .isl 2 (a0.map e_TracedByte) false), (1, .isl 3 (a1.map e_TextEdit) false), (5, .osl (0, 0) 2 (v17.map e_TracedByte)), (6, .int .i64 v7)] [((0, 0), .tok)] 1 := by
  unfold S_glossatorref4_applyToTrace_j6 at h
  refine regI ?_
  cases h
  exact And.intro rfl (simI (M := [((0, 0), (0, 0))]) rfl (And.intro (Vw.same _ rfl) (And.intro (Vw.same _ rfl) (And.intro (Vw.osl _ _ _ _ rfl) (And.intro (Vw.same _ rfl) trivial)))) (And.intro (And.intro rfl BVw.tok) trivial))

theorem f24_j5_ok {a0 : List G_TracedByte} {a1 : List G_TextEdit} {v7 : Int} {v14 : List G_TracedByte} {m : Option Nat} {o : (((List G_TracedByte) × Int) ⊕ (List G_TracedByte))} (h : S_glossatorref4_applyToTrace_j5 m a0 a1 v7 v14 = some o) :
    LWp Try.prog f24_lay 0 f24_c0 (QBlock 1 (QSeq Try.prog f24_lay 0 f24_c1 (BodyQ 0 1 (f24_L3_env a0 a1) (f24_L3_hp a0 a1) (f24_L3_Q a0 a1) o))) [(0, .isl 2 (a0.map e_TracedByte) false), (1, .isl 3 (a1.map e_TextEdit) false), (5, .osl (0, 0) 2 (v14.map e_TracedByte)), (6, .int .i64 v7)] [((0, 0), .tok)] 1 := by
  unfold S_glossatorref4_applyToTrace_j5 at h
  refine seqI ?_
  refine regI ?_
  obtain ⟨v16, h42, h⟩ := bind_some h
  refine Or.inl (Exists.intro (.bool v16) (And.intro (fun hp => And.intro (And.intro hp hp) (PFn.call (f28_ok (ite_tt hp h42)) (And.intro (Vw.same _ rfl) (And.intro (Vw.same _ rfl) trivial)) (And.intro rfl (And.intro rfl rfl)))) ?_))
  refine And.intro (fun hp => hp) ?_
  show yops _ _ _ [(39, .cnd ((decide (v7 < ((a0.map e_TracedByte).length : Int))) == true) (.bool (!v16))), (38, .cnd ((decide (v7 < ((a0.map e_TracedByte).length : Int))) == true) (.bool v16)), (37, .cnd ((decide (v7 < ((a0.map e_TracedByte).length : Int))) == true) (.int .i64 v7)), (36, .cnd ((decide (v7 < ((a0.map e_TracedByte).length : Int))) == true) (.isl 3 (a1.map e_TextEdit) false)), (35, .bool (decide (v7 < ((a0.map e_TracedByte).length : Int)))), (34, .bool (decide (v7 < ((a0.map e_TracedByte).length : Int)))), (33, .int .i64 ((a0.map e_TracedByte).length : Int)), (32, .isl 2 (a0.map e_TracedByte) false), (31, .int .i64 v7), (0, .isl 2 (a0.map e_TracedByte) false), (1, .isl 3 (a1.map e_TextEdit) false), (5, .osl (0, 0) 2 (v14.map e_TracedByte)), (6, .int .i64 v7)] _ _
  refine And.intro (fun hc => (bqt hc)) ?_
  refine LWp.sim (e := [(0, .isl 2 (a0.map e_TracedByte) false), (1, .isl 3 (a1.map e_TextEdit) false), (5, .osl (0, 0) 2 (v14.map e_TracedByte)), (6, .int .i64 v7), (40, .bool ((decide (v7 < ((a0.map e_TracedByte).length : Int))) && (!v16)))]) (L := [((0, 0), .tok)]) (n := 1) ?_ ?_
  · exact simI (M := [((0, 0), (0, 0))]) rfl (And.intro (Vw.same _ rfl) (And.intro (Vw.same _ rfl) (And.intro (Vw.osl _ _ _ _ rfl) (And.intro (Vw.same _ rfl) (And.intro (Vw.same _ rfl) trivial))))) (And.intro (And.intro rfl BVw.tok) trivial)
  refine condI (v := ((decide (v7 < ((a0.map e_TracedByte).length : Int))) && (!v16))) rfl trivial (fun h43 => ?_) (fun h43 => ?_)
  · have h := ite_tt h43 h
    refine regI ?_
    obtain ⟨h44, h⟩ := ite_some h
    refine And.intro h44 ?_
    refine Exists.intro (e_TracedByte (a0.getD v7.toNat default)) (And.intro (getD_enc e_TracedByte _ _ (idx_ltL e_TracedByte h44)) (And.intro (And.intro (idx_lt h44) (Nat.le_of_ble_eq_true rfl)) ?_))
    obtain ⟨h45, h⟩ := ite_some h
    refine Exists.intro ((v14 ++ ([(G_TracedByte.mk ((a0.getD v7.toNat default).f_Value) ((a0.getD v7.toNat default).f_Origin))] : List G_TracedByte)).map e_TracedByte) (And.intro (app_enc e_TracedByte v14 ([(G_TracedByte.mk ((a0.getD v7.toNat default).f_Value) ((a0.getD v7.toNat default).f_Origin))] : List G_TracedByte)) (And.intro h45 ?_))
    refine LWp.sim ?_ (f24_j6_ok h)
    exact simI (M := [((0, 0), (1, 0))]) rfl (And.intro (Vw.same _ rfl) (And.intro (Vw.same _ rfl) (And.intro (Vw.osl _ _ _ _ rfl) (And.intro (Vw.same _ rfl) trivial)))) (And.intro (And.intro rfl BVw.tok) trivial)
  · have h := ite_ff h43 h
    refine skipI ?_
    refine LWp.sim ?_ (f24_j6_ok h)
    exact simI (M := [((0, 0), (0, 0))]) rfl (And.intro (Vw.same _ rfl) (And.intro (Vw.same _ rfl) (And.intro (Vw.osl _ _ _ _ rfl) (And.intro (Vw.same _ rfl) trivial)))) (And.intro (And.intro rfl BVw.tok) trivial)

theorem f24_L4_bok {a0 : List G_TracedByte} {a1 : List G_TextEdit} {v7 : Int} {v13 : (List UInt8)} {v14 : List G_TracedByte} {v15 : Int} {m : Option Nat} {o : ((List G_TracedByte) × Int) ⊕ (((List G_TracedByte) × Int) ⊕ (List G_TracedByte))} (h : S_glossatorref4_applyToTrace_b4 m a0 a1 v7 v13 v14 v15 = some o) :
    LWp Try.prog f24_lay 0 f24_c2 (BodyQ 0 1 (f24_L4_env a0 a1 v7 v13) (f24_L4_hp a0 a1 v7 v13) (f24_L4_Q a0 a1) o) [(0, .isl 2 (a0.map e_TracedByte) false), (1, .isl 3 (a1.map e_TextEdit) false), (5, .osl (0, 0) 2 (v14.map e_TracedByte)), (6, .int .i64 v7), (7, .str v13), (8, .int .i64 v15)] [((0, 0), .tok)] 1 := by
  unfold S_glossatorref4_applyToTrace_b4 at h
  refine seqI ?_
  refine seqI ?_
  refine regI ?_
  refine condI (v := (decide (v15 < (v13.length : Int)))) rfl trivial (fun h39 => ?_) (fun h39 => ?_)
  · have h := ite_tt h39 h
    refine skipI ?_
    refine seqI ?_
    refine blockI ?_
    refine regI ?_
    obtain ⟨h40, h⟩ := ite_some h
    refine And.intro h40 ?_
    show yops _ _ _ [(27, .int .u8 (((v13.getD v15.toNat 0).toNat : Nat) : Int)), (26, .int .i64 v15), (25, .str v13), (24, .osl (0, 0) 2 (v14.map e_TracedByte)), (21, .bool (decide (v15 < (v13.length : Int)))), (20, .int .i64 (v13.length : Int)), (19, .str v13), (18, .int .i64 v15), (0, .isl 2 (a0.map e_TracedByte) false), (1, .isl 3 (a1.map e_TextEdit) false), (5, .osl (0, 0) 2 (v14.map e_TracedByte)), (6, .int .i64 v7), (7, .str v13), (8, .int .i64 v15)] _ _
    obtain ⟨h41, h⟩ := ite_some h
    refine Exists.intro ((v14 ++ ([(G_TracedByte.mk (((v13.getD v15.toNat 0).toNat : Nat) : Int) (-1))] : List G_TracedByte)).map e_TracedByte) (And.intro (app_enc e_TracedByte v14 ([(G_TracedByte.mk (((v13.getD v15.toNat 0).toNat : Nat) : Int) (-1))] : List G_TracedByte)) (And.intro h41 ?_))
    refine LWp.sim (e := [(0, .isl 2 (a0.map e_TracedByte) false), (1, .isl 3 (a1.map e_TextEdit) false), (5, .osl (0, 0) 2 ((v14 ++ ([(G_TracedByte.mk (((v13.getD v15.toNat 0).toNat : Nat) : Int) (-1))] : List G_TracedByte)).map e_TracedByte)), (6, .int .i64 v7), (7, .str v13), (8, .int .i64 v15)]) (L := [((0, 0), .tok)]) (n := 1) ?_ ?_
    · exact simI (M := [((0, 0), (1, 0))]) rfl (And.intro (Vw.same _ rfl) (And.intro (Vw.same _ rfl) (And.intro (Vw.osl _ _ _ _ rfl) (And.intro (Vw.same _ rfl) (And.intro (Vw.same _ rfl) (And.intro (Vw.same _ rfl) trivial)))))) (And.intro (And.intro rfl BVw.tok) trivial)
    refine regI ?_
    cases h
    exact And.intro rfl (simI (M := [((0, 0), (0, 0))]) rfl (And.intro (Vw.same _ rfl) (And.intro (Vw.same _ rfl) (And.intro (Vw.osl _ _ _ _ rfl) (And.intro (Vw.same _ rfl) (And.intro (Vw.same _ rfl) (And.intro (Vw.same _ rfl) trivial)))))) (And.intro (And.intro rfl BVw.tok) trivial))
  · have h := ite_ff h39 h
    refine exitI ?_
    obtain ⟨o, hq, rfl⟩ := Option.map_eq_some_iff.1 h
    replace h := hq; clear hq
    refine And.intro nofun ?_
    refine LWp.sim ?_ (f24_j5_ok h)
    exact simI (M := [((0, 0), (0, 0))]) rfl (And.intro (Vw.same _ rfl) (And.intro (Vw.same _ rfl) (And.intro (Vw.osl _ _ _ _ rfl) (And.intro (Vw.same _ rfl) trivial)))) (And.intro (And.intro rfl BVw.tok) trivial)

theorem f24_L4_ok {a0 : List G_TracedByte} {a1 : List G_TextEdit} {v7 : Int} {v13 : (List UInt8)} {v14 : List G_TracedByte} {v15 : Int} {m : Option Nat} {o : (((List G_TracedByte) × Int) ⊕ (List G_TracedByte))} (h : S_glossatorref4_applyToTrace_l4 m a0 a1 v7 v13 v14 v15 = some o) :
    LWp Try.prog f24_lay 0 (.loop f24_c2) (QBlock 2 (QSeq Try.prog f24_lay 0 f24_c0 (QBlock 1 (QSeq Try.prog f24_lay 0 f24_c1 (BodyQ 0 1 (f24_L3_env a0 a1) (f24_L3_hp a0 a1) (f24_L3_Q a0 a1) o))))) [(0, .isl 2 (a0.map e_TracedByte) false), (1, .isl 3 (a1.map e_TextEdit) false), (5, .osl (0, 0) 2 (v14.map e_TracedByte)), (6, .int .i64 v7), (7, .str v13), (8, .int .i64 v15)] [((0, 0), .tok)] 1 :=
  LWp_loopM (m := m) (s := ((v14, v15) : ((List G_TracedByte) × Int))) (r := o) (fun (s : ((List G_TracedByte) × Int)) => S_glossatorref4_applyToTrace_b4 m a0 a1 v7 v13 s.1 s.2) (f24_L4_env a0 a1 v7 v13) (f24_L4_hp a0 a1 v7 v13) (f24_L4_Q a0 a1) (fun s o h => f24_L4_bok h) h

noncomputable def S_glossatorref4_applyToTrace_j7 (m : Option Nat) (v6 : List G_TracedByte) : Option (List G_TracedByte) :=
  some v6

noncomputable def S_glossatorref4_applyToTrace_b3 (m : Option Nat) (a0 : List G_TracedByte) (a1 : List G_TextEdit) (v6 : List G_TracedByte) (v7 : Int) : Option (((List G_TracedByte) × Int) ⊕ (List G_TracedByte)) :=
  if (decide (v7 ≤ ((a0.map e_TracedByte).length : Int))) = true then
    (S_glossatorref4_InsertedAt m a1 v7).bind fun v13 =>
    S_glossatorref4_applyToTrace_l4 m a0 a1 v7 v13 v6 0
  else
    Option.map Sum.inr (
      S_glossatorref4_applyToTrace_j7 m v6)

noncomputable def S_glossatorref4_applyToTrace_l3 (m : Option Nat) (a0 : List G_TracedByte) (a1 : List G_TextEdit) (v6 : List G_TracedByte) (v7 : Int) : Option (List G_TracedByte) := loopM m (fun (s : ((List G_TracedByte) × Int)) => S_glossatorref4_applyToTrace_b3 m a0 a1 s.1 s.2) (v6, v7)

theorem f24_j7_ok {a0 : List G_TracedByte} {a1 : List G_TextEdit} {v6 : List G_TracedByte} {m : Option Nat} {o : (List G_TracedByte)} (h : S_glossatorref4_applyToTrace_j7 m v6 = some o) :
    LWp Try.prog f24_lay 0 f24_c3 (f24_Q a0 a1 o) [(5, .osl (0, 0) 2 (v6.map e_TracedByte))] [((0, 0), .tok)] 1 := by
  unfold S_glossatorref4_applyToTrace_j7 at h
  refine seqI ?_
  refine regI ?_
  refine retI ?_
  cases h
  exact And.intro trivial (And.intro rfl (Vw.oslI _ _ _))

theorem f24_L3_bok {a0 : List G_TracedByte} {a1 : List G_TextEdit} {v6 : List G_TracedByte} {v7 : Int} {m : Option Nat} {o : ((List G_TracedByte) × Int) ⊕ (List G_TracedByte)} (h : S_glossatorref4_applyToTrace_b3 m a0 a1 v6 v7 = some o) :
    LWp Try.prog f24_lay 0 f24_c4 (BodyQ 0 1 (f24_L3_env a0 a1) (f24_L3_hp a0 a1) (f24_L3_Q a0 a1) o) [(0, .isl 2 (a0.map e_TracedByte) false), (1, .isl 3 (a1.map e_TextEdit) false), (5, .osl (0, 0) 2 (v6.map e_TracedByte)), (6, .int .i64 v7)] [((0, 0), .tok)] 1 := by
  unfold S_glossatorref4_applyToTrace_b3 at h
  refine seqI ?_
  refine seqI ?_
  refine regI ?_
  refine condI (v := (decide (v7 ≤ ((a0.map e_TracedByte).length : Int)))) rfl trivial (fun h31 => ?_) (fun h31 => ?_)
  · have h := ite_tt h31 h
    refine skipI ?_
    refine seqI ?_
    refine blockI ?_
    refine seqI ?_
    refine regI ?_
    obtain ⟨v13, h32, h⟩ := bind_some h
    refine PFn.call (f27_ok h32) (And.intro (Vw.same _ rfl) (And.intro (Vw.same _ rfl) trivial)) ?_
    show yops _ _ _ [(17, .str v13), (16, .int .i64 v7), (15, .isl 3 (a1.map e_TextEdit) false), (12, .bool (decide (v7 ≤ ((a0.map e_TracedByte).length : Int)))), (11, .int .i64 ((a0.map e_TracedByte).length : Int)), (10, .isl 2 (a0.map e_TracedByte) false), (9, .int .i64 v7), (0, .isl 2 (a0.map e_TracedByte) false), (1, .isl 3 (a1.map e_TextEdit) false), (5, .osl (0, 0) 2 (v6.map e_TracedByte)), (6, .int .i64 v7)] _ _
    refine LWp.sim (e := [(0, .isl 2 (a0.map e_TracedByte) false), (1, .isl 3 (a1.map e_TextEdit) false), (5, .osl (0, 0) 2 (v6.map e_TracedByte)), (6, .int .i64 v7), (7, .str v13)]) (L := [((0, 0), .tok)]) (n := 1) ?_ ?_
    · exact simI (M := [((0, 0), (0, 0))]) rfl (And.intro (Vw.same _ rfl) (And.intro (Vw.same _ rfl) (And.intro (Vw.osl _ _ _ _ rfl) (And.intro (Vw.same _ rfl) (And.intro (Vw.same _ rfl) trivial))))) (And.intro (And.intro rfl BVw.tok) trivial)
    refine seqI ?_
    refine seqI ?_
    refine regI ?_
    refine blockI ?_
    refine LWp.sim ?_ (f24_L4_ok h)
    exact simI (M := [((0, 0), (0, 0))]) rfl (And.intro (Vw.same _ rfl) (And.intro (Vw.same _ rfl) (And.intro (Vw.osl _ _ _ _ rfl) (And.intro (Vw.same _ rfl) (And.intro (Vw.same _ rfl) (And.intro (Vw.same _ rfl) trivial)))))) (And.intro (And.intro rfl BVw.tok) trivial)
  · have h := ite_ff h31 h
    refine exitI ?_
    obtain ⟨o, hq, rfl⟩ := Option.map_eq_some_iff.1 h
    replace h := hq; clear hq
    refine And.intro nofun ?_
    refine LWp.sim ?_ (f24_j7_ok h)
    exact simI (M := [((0, 0), (0, 0))]) rfl (And.intro (Vw.osl _ _ _ _ rfl) trivial) (And.intro (And.intro rfl BVw.tok) trivial)

theorem f24_L3_ok {a0 : List G_TracedByte} {a1 : List G_TextEdit} {v6 : List G_TracedByte} {v7 : Int} {m : Option Nat} {o : (List G_TracedByte)} (h : S_glossatorref4_applyToTrace_l3 m a0 a1 v6 v7 = some o) :
    LWp Try.prog f24_lay 0 (.loop f24_c4) (QBlock 0 (QSeq Try.prog f24_lay 0 f24_c3 (f24_Q a0 a1 o))) [(0, .isl 2 (a0.map e_TracedByte) false), (1, .isl 3 (a1.map e_TextEdit) false), (5, .osl (0, 0) 2 (v6.map e_TracedByte)), (6, .int .i64 v7)] [((0, 0), .tok)] 1 :=
  LWp_loopM (m := m) (s := ((v6, v7) : ((List G_TracedByte) × Int))) (r := o) (fun (s : ((List G_TracedByte) × Int)) => S_glossatorref4_applyToTrace_b3 m a0 a1 s.1 s.2) (f24_L3_env a0 a1) (f24_L3_hp a0 a1) (f24_L3_Q a0 a1) (fun s o h => f24_L3_bok h) h

noncomputable def S_glossatorref4_applyToTrace (m : Option Nat) (a0 : List G_TracedByte) (a1 : List G_TextEdit) : Option (List G_TracedByte) :=
  S_glossatorref4_applyToTrace_l3 m a0 a1 [] 0

theorem f24_start {a0 : List G_TracedByte} {a1 : List G_TextEdit} {m : Option Nat} {o : (List G_TracedByte)} (h : S_glossatorref4_applyToTrace m a0 a1 = some o) : LWp Try.prog f24_lay 0 f24_c5 (f24_Q a0 a1 o) (initEnv 0 [.isl 2 (a0.map e_TracedByte) false, .isl 3 (a1.map e_TextEdit) false]) [] 0 := by
  unfold S_glossatorref4_applyToTrace at h
  refine seqI ?_
  refine regI ?_
  refine seqI ?_
  refine regI ?_
  refine seqI ?_
  refine seqI ?_
  refine regI ?_
  refine blockI ?_
  refine LWp.sim ?_ (f24_L3_ok h)
  exact simI (M := []) rfl (And.intro (Vw.same _ rfl) (And.intro (Vw.same _ rfl) (And.intro (Vw.nilO _ _ (by decide)) (And.intro (Vw.same _ rfl) trivial)))) (And.intro (And.intro rfl (And.intro (by decide) (by decide))) trivial)

theorem f24_ok {a0 : List G_TracedByte} {a1 : List G_TextEdit} {m : Option Nat} {o : (List G_TracedByte)} (h : S_glossatorref4_applyToTrace m a0 a1 = some o) : PFn Try.prog 24 [.isl 2 (a0.map e_TracedByte) false, .isl 3 (a1.map e_TextEdit) false] (.isl 2 (o.map e_TracedByte) false) := PFn.ofFnW (L := f24_L) f24_low f24_fok (Nat.le_of_ble_eq_true rfl) rfl (f24_start h)

def f18_c1 : LCode := (.seq (.seq (.region [⟨some 14, .mv (.t 7), none⟩,
   ⟨some 15, .mv (.t 1), none⟩,
   ⟨some 16, .len false (.t 15), none⟩,
   ⟨some 17, .bin .lss (.t 14) (.t 16), none⟩,
   ⟨some 18, .mv (.t 17), none⟩,
   ⟨some 19, .mv (.t 1), some (18, true)⟩,
   ⟨some 20, .mv (.t 7), some (18, true)⟩,
   ⟨some 21, .iaddr 2 (.t 19) (.t 20), some (18, true)⟩,
   ⟨some 22, .faddr 1 (.t 21), some (18, true)⟩,
   ⟨some 23, .load false 1 (.t 22), some (18, true)⟩,
   ⟨some 24, .bin .lss (.t 23) (.c (.int .i64 0)), some (18, true)⟩,
   ⟨some 25, .pick (.t 18) (.t 24) (.c (.bool false)), none⟩])
 (.cond (.t 25)
  .skip
  (.exit 2)))
 (.block 3
  (.seq (.region [⟨some 26, .mv (.t 9), none⟩,
    ⟨some 27, .mv (.t 1), none⟩,
    ⟨some 28, .mv (.t 7), none⟩,
    ⟨some 29, .iaddr 2 (.t 27) (.t 28), none⟩,
    ⟨some 30, .faddr 0 (.t 29), none⟩,
    ⟨some 31, .load false 1 (.t 30), none⟩,
    ⟨some 32, .mkSl true 1 [(.int .u8 0)] 1 [(0, (.t 31))], none⟩,
    ⟨some 33, .conv .b2s (.t 32), none⟩,
    ⟨some 34, .bin .add (.t 26) (.t 33), none⟩,
    ⟨some 9, .mv (.t 34), none⟩])
  (.region [⟨some 35, .mv (.t 7), none⟩,
    ⟨some 36, .bin .add (.t 35) (.c (.int .i64 1)), none⟩,
    ⟨some 7, .mv (.t 36), none⟩]))))
def f18_c3 : LCode := (.seq (.region [⟨some 61, .mv (.t 10), none⟩,
   ⟨some 62, .bin .add (.t 61) (.c (.int .i64 1)), none⟩,
   ⟨some 8, .mv (.t 62), none⟩])
 (.region [⟨some 63, .mv (.t 7), none⟩,
   ⟨some 64, .bin .add (.t 63) (.c (.int .i64 1)), none⟩,
   ⟨some 7, .mv (.t 64), none⟩]))
def f18_c4 : LCode := (.seq (.seq (.region [⟨some 47, .mv (.t 10), none⟩,
   ⟨some 48, .mv (.t 8), none⟩,
   ⟨some 49, .bin .gtr (.t 47) (.t 48), none⟩,
   ⟨some 50, .mv (.t 49), none⟩,
   ⟨some 51, .mv (.t 9), some (50, false)⟩,
   ⟨some 52, .bin .neq (.t 51) (.c (.str [])), some (50, false)⟩,
   ⟨some 53, .pick (.t 50) (.c (.bool true)) (.t 52), none⟩])
 (.cond (.t 53)
  (.region [⟨some 54, .mv (.t 6), none⟩,
    ⟨some 55, .mv (.t 8), none⟩,
    ⟨some 56, .mv (.t 10), none⟩,
    ⟨some 57, .mv (.t 9), none⟩,
    ⟨some 58, .build [(.int .i64 0), (.int .i64 0), (.str [])] [(0, 1, (.t 55)), (1, 1, (.t 56)), (2, 1, (.t 57))], none⟩,
    ⟨some 59, .mkSl true 3 [(.int .i64 0), (.int .i64 0), (.str [])] 1 [(0, (.t 58))], none⟩,
    ⟨some 60, .app true 3 32 (.t 54) (.t 59), none⟩,
    ⟨some 6, .mv (.t 60), none⟩])
  .skip))
 f18_c3)
def f18_c0 : LCode := (.seq (.region [⟨some 37, .mv (.t 0), none⟩,
   ⟨some 10, .mv (.t 37), none⟩])
 (.seq (.seq (.region [⟨some 38, .mv (.t 7), none⟩,
   ⟨some 39, .mv (.t 1), none⟩,
   ⟨some 40, .len false (.t 39), none⟩,
   ⟨some 41, .bin .lss (.t 38) (.t 40), none⟩])
 (.cond (.t 41)
  (.region [⟨some 42, .mv (.t 1), none⟩,
    ⟨some 43, .mv (.t 7), none⟩,
    ⟨some 44, .iaddr 2 (.t 42) (.t 43), none⟩,
    ⟨some 45, .faddr 1 (.t 44), none⟩,
    ⟨some 46, .load false 1 (.t 45), none⟩,
    ⟨some 10, .mv (.t 46), none⟩])
  .skip))
 f18_c4))
def f18_c5 : LCode := (.seq (.seq (.region [⟨some 11, .mv (.t 8), none⟩,
   ⟨some 12, .mv (.t 0), none⟩,
   ⟨some 13, .bin .leq (.t 11) (.t 12), none⟩])
 (.cond (.t 13)
  .skip
  (.exit 0)))
 (.block 1
  (.seq (.region [⟨some 9, .mv (.c (.str [])), none⟩])
  (.seq (.block 2
   (.loop
    f18_c1))
  f18_c0))))
def f18_c2 : LCode := (.seq (.seq (.region [⟨some 65, .mv (.t 6), none⟩,
   ⟨some 66, .len false (.t 65), none⟩,
   ⟨some 67, .bin .gtr (.t 66) (.c (.int .i64 50)), none⟩])
 (.cond (.t 67)
  (.seq (.region [⟨some 4, .mv (.c (.val (.slice none 0 0))), none⟩,
    ⟨some 5, .mv (.c (.bool false)), none⟩])
  .ret)
  .skip))
 (.seq (.region [⟨some 68, .mv (.t 6), none⟩,
   ⟨some 4, .mv (.t 68), none⟩,
   ⟨some 5, .mv (.c (.bool true)), none⟩])
 .ret))
def f18_c6 : LCode := (.seq (.region [⟨some 4, .mv (.c (.val (.slice none 0 0))), none⟩,
   ⟨some 5, .mv (.c (.bool false)), none⟩])
 (.seq (.region [⟨some 6, .mv (.c (.val (.slice none 0 0))), none⟩])
 (.seq (.region [⟨some 7, .mv (.c (.int .i64 0)), none⟩])
 (.seq (.seq (.region [⟨some 8, .mv (.c (.int .i64 0)), none⟩])
 (.block 0
  (.loop
   f18_c5)))
 f18_c2))))
def f18_lay : Lay := ⟨69, [], false⟩
def f18_res : List LRes := [.t 4, .t 5]
def f18_L : LFn := ⟨2, f18_lay, f18_c6, f18_res⟩
theorem f18_low : lowFn Try.prog [] 18 = some f18_L := by kernel_rfl
theorem f18_fok : FnOk Try.prog 18 := ⟨_, Try.func18, rfl, rfl⟩
def f18_Q (a0 : Int) (a1 : List G_TracedByte) (o : (List G_TextEdit) × Bool) : Exit → Env → AHeap → Nat → Prop := FinK f18_res (PureEnd (.tup [.isl 3 (o.1.map e_TextEdit) false, .bool o.2]))

def f18_L3_env (a0 : Int) (a1 : List G_TracedByte) (s : ((List G_TextEdit) × Int × Int)) : Env := [(0, .int .i64 a0), (1, .isl 2 (a1.map e_TracedByte) false), (6, .osl (0, 0) 3 (s.1.map e_TextEdit)), (7, .int .i64 s.2.1), (8, .int .i64 s.2.2)]
def f18_L3_hp (a0 : Int) (a1 : List G_TracedByte) (s : ((List G_TextEdit) × Int × Int)) : AHeap := [((0, 0), .tok)]
def f18_L3_Q (a0 : Int) (a1 : List G_TracedByte) (o : ((List G_TextEdit) × Bool)) : Exit → Env → AHeap → Nat → Prop := (QBlock 0 (QSeq Try.prog f18_lay 0 f18_c2 (f18_Q a0 a1 o)))

def f18_L4_env (a0 : Int) (a1 : List G_TracedByte) (v5 : List G_TextEdit) (v7 : Int) (s : (Int × (List UInt8))) : Env := [(0, .int .i64 a0), (1, .isl 2 (a1.map e_TracedByte) false), (6, .osl (0, 0) 3 (v5.map e_TextEdit)), (7, .int .i64 s.1), (8, .int .i64 v7), (9, .str s.2)]
def f18_L4_hp (a0 : Int) (a1 : List G_TracedByte) (v5 : List G_TextEdit) (v7 : Int) (s : (Int × (List UInt8))) : AHeap := [((0, 0), .tok)]
def f18_L4_Q (a0 : Int) (a1 : List G_TracedByte) (o : (((List G_TextEdit) × Int × Int) ⊕ ((List G_TextEdit) × Bool))) : Exit → Env → AHeap → Nat → Prop := (QBlock 2 (QSeq Try.prog f18_lay 0 f18_c0 (QBlock 1 (BodyQ 0 1 (f18_L3_env a0 a1) (f18_L3_hp a0 a1) (f18_L3_Q a0 a1) o))))

noncomputable def S_glossatorref4_CanonicalEdits_j9 (m : Option Nat) (a0 : Int) (a1 : List G_TracedByte) (v12 : Int) (v14 : Int) (v15 : List G_TextEdit) : Option (((List G_TextEdit) × Int × Int) ⊕ ((List G_TextEdit) × Bool)) :=
  some (.inl (v15, (W (v12 + 1)), (W (v14 + 1))))

noncomputable def S_glossatorref4_CanonicalEdits_j8 (m : Option Nat) (a0 : Int) (a1 : List G_TracedByte) (v5 : List G_TextEdit) (v7 : Int) (v12 : Int) (v13 : List UInt8) (v14 : Int) : Option (((List G_TextEdit) × Int × Int) ⊕ ((List G_TextEdit) × Bool)) :=
  if ((decide (v14 > v7)) || (!(v13 == ([] : List UInt8)))) = true then
    if ((v5 ++ ([(G_TextEdit.mk v7 v14 v13)] : List G_TextEdit)).map e_TextEdit).length * 32 ≤ 140737488355328 then
    S_glossatorref4_CanonicalEdits_j9 m a0 a1 v12 v14 (v5 ++ ([(G_TextEdit.mk v7 v14 v13)] : List G_TextEdit))
    else none
  else
    S_glossatorref4_CanonicalEdits_j9 m a0 a1 v12 v14 v5

noncomputable def S_glossatorref4_CanonicalEdits_j7 (m : Option Nat) (a0 : Int) (a1 : List G_TracedByte) (v5 : List G_TextEdit) (v7 : Int) (v12 : Int) (v13 : List UInt8) : Option (((List G_TextEdit) × Int × Int) ⊕ ((List G_TextEdit) × Bool)) :=
  if (decide (v12 < ((a1.map e_TracedByte).length : Int))) = true then
    if (0 : Int) ≤ v12 ∧ v12 < ((a1.map e_TracedByte).length : Int) then
    S_glossatorref4_CanonicalEdits_j8 m a0 a1 v5 v7 v12 v13 ((a1.getD v12.toNat default).f_Origin)
    else none
  else
    S_glossatorref4_CanonicalEdits_j8 m a0 a1 v5 v7 v12 v13 a0

noncomputable def S_glossatorref4_CanonicalEdits_b4 (m : Option Nat) (a0 : Int) (a1 : List G_TracedByte) (v5 : List G_TextEdit) (v7 : Int) (v12 : Int) (v13 : List UInt8) : Option ((Int × (List UInt8)) ⊕ (((List G_TextEdit) × Int × Int) ⊕ ((List G_TextEdit) × Bool))) :=
  if (((decide (v12 < ((a1.map e_TracedByte).length : Int))) == true) = true → (0 : Int) ≤ v12 ∧ v12 < ((a1.map e_TracedByte).length : Int)) then
  if ((decide (v12 < ((a1.map e_TracedByte).length : Int))) && (decide ((a1.getD v12.toNat default).f_Origin < 0))) = true then
    if (0 : Int) ≤ v12 ∧ v12 < ((a1.map e_TracedByte).length : Int) then
    if (((v13.length + (([(a1.getD v12.toNat default).f_Value] : List Int).map toU8).length : Nat) : Int) ≤ 9223372036854775807) then
    some (.inl ((W (v12 + 1)), (v13 ++ (([(a1.getD v12.toNat default).f_Value] : List Int).map toU8))))
    else none
    else none
  else
    Option.map Sum.inr (
      S_glossatorref4_CanonicalEdits_j7 m a0 a1 v5 v7 v12 v13)
  else none

noncomputable def S_glossatorref4_CanonicalEdits_l4 (m : Option Nat) (a0 : Int) (a1 : List G_TracedByte) (v5 : List G_TextEdit) (v7 : Int) (v12 : Int) (v13 : List UInt8) : Option (((List G_TextEdit) × Int × Int) ⊕ ((List G_TextEdit) × Bool)) := loopM m (fun (s : (Int × (List UInt8))) => S_glossatorref4_CanonicalEdits_b4 m a0 a1 v5 v7 s.1 s.2) (v12, v13)

theorem f18_j9_ok {a0 : Int} {a1 : List G_TracedByte} {v12 : Int} {v14 : Int} {v15 : List G_TextEdit} {m : Option Nat} {o : (((List G_TextEdit) × Int × Int) ⊕ ((List G_TextEdit) × Bool))} (h : S_glossatorref4_CanonicalEdits_j9 m a0 a1 v12 v14 v15 = some o) :
    LWp Try.prog f18_lay 0 f18_c3 (QBlock 1 (BodyQ 0 1 (f18_L3_env a0 a1) (f18_L3_hp a0 a1) (f18_L3_Q a0 a1) o)) [(0, .int .i64 a0), (1, .isl 2 (a1.map e_TracedByte) false), (6, .osl (0, 0) 3 (v15.map e_TextEdit)), (7, .int .i64 v12), (10, .int .i64 v14)] [((0, 0), .tok)] 1 := by
  unfold S_glossatorref4_CanonicalEdits_j9 at h
  refine seqI ?_
  refine regI ?_
  refine regI ?_
  cases h
  exact And.intro rfl (simI (M := [((0, 0), (0, 0))]) rfl (And.intro (Vw.same _ rfl) (And.intro (Vw.same _ rfl) (And.intro (Vw.osl _ _ _ _ rfl) (And.intro (Vw.same _ rfl) (And.intro (Vw.same _ rfl) trivial))))) (And.intro (And.intro rfl BVw.tok) trivial))

theorem f18_j8_ok {a0 : Int} {a1 : List G_TracedByte} {v5 : List G_TextEdit} {v7 : Int} {v12 : Int} {v13 : List UInt8} {v14 : Int} {m : Option Nat} {o : (((List G_TextEdit) × Int × Int) ⊕ ((List G_TextEdit) × Bool))} (h : S_glossatorref4_CanonicalEdits_j8 m a0 a1 v5 v7 v12 v13 v14 = some o) :
    LWp Try.prog f18_lay 0 f18_c4 (QBlock 1 (BodyQ 0 1 (f18_L3_env a0 a1) (f18_L3_hp a0 a1) (f18_L3_Q a0 a1) o)) [(0, .int .i64 a0), (1, .isl 2 (a1.map e_TracedByte) false), (6, .osl (0, 0) 3 (v5.map e_TextEdit)), (7, .int .i64 v12), (8, .int .i64 v7), (9, .str v13), (10, .int .i64 v14)] [((0, 0), .tok)] 1 := by
  unfold S_glossatorref4_CanonicalEdits_j8 at h
  refine seqI ?_
  refine seqI ?_
  refine regI ?_
  refine And.intro (fun hp => hp) ?_
  show yops _ _ _ [(52, .cnd ((decide (v14 > v7)) == false) (.bool (!(v13 == ([] : List UInt8))))), (51, .cnd ((decide (v14 > v7)) == false) (.str v13)), (50, .bool (decide (v14 > v7))), (49, .bool (decide (v14 > v7))), (48, .int .i64 v7), (47, .int .i64 v14), (0, .int .i64 a0), (1, .isl 2 (a1.map e_TracedByte) false), (6, .osl (0, 0) 3 (v5.map e_TextEdit)), (7, .int .i64 v12), (8, .int .i64 v7), (9, .str v13), (10, .int .i64 v14)] _ _
  refine And.intro (fun hc => (bqf hc)) ?_
  refine condI (v := ((decide (v14 > v7)) || (!(v13 == ([] : List UInt8))))) rfl trivial (fun h50 => ?_) (fun h50 => ?_)
  · have h := ite_tt h50 h
    refine regI ?_
    obtain ⟨h51, h⟩ := ite_some h
    refine Exists.intro ((v5 ++ ([(G_TextEdit.mk v7 v14 v13)] : List G_TextEdit)).map e_TextEdit) (And.intro (app_enc e_TextEdit v5 ([(G_TextEdit.mk v7 v14 v13)] : List G_TextEdit)) (And.intro h51 ?_))
    refine LWp.sim ?_ (f18_j9_ok h)
    exact simI (M := [((0, 0), (1, 0))]) rfl (And.intro (Vw.same _ rfl) (And.intro (Vw.same _ rfl) (And.intro (Vw.osl _ _ _ _ rfl) (And.intro (Vw.same _ rfl) (And.intro (Vw.same _ rfl) trivial))))) (And.intro (And.intro rfl BVw.tok) trivial)
  · have h := ite_ff h50 h
    refine skipI ?_
    refine LWp.sim ?_ (f18_j9_ok h)
    exact simI (M := [((0, 0), (0, 0))]) rfl (And.intro (Vw.same _ rfl) (And.intro (Vw.same _ rfl) (And.intro (Vw.osl _ _ _ _ rfl) (And.intro (Vw.same _ rfl) (And.intro (Vw.same _ rfl) trivial))))) (And.intro (And.intro rfl BVw.tok) trivial)

theorem f18_j7_ok {a0 : Int} {a1 : List G_TracedByte} {v5 : List G_TextEdit} {v7 : Int} {v12 : Int} {v13 : List UInt8} {m : Option Nat} {o : (((List G_TextEdit) × Int × Int) ⊕ ((List G_TextEdit) × Bool))} (h : S_glossatorref4_CanonicalEdits_j7 m a0 a1 v5 v7 v12 v13 = some o) :
    LWp Try.prog f18_lay 0 f18_c0 (QBlock 1 (BodyQ 0 1 (f18_L3_env a0 a1) (f18_L3_hp a0 a1) (f18_L3_Q a0 a1) o)) [(0, .int .i64 a0), (1, .isl 2 (a1.map e_TracedByte) false), (6, .osl (0, 0) 3 (v5.map e_TextEdit)), (7, .int .i64 v12), (8, .int .i64 v7), (9, .str v13)] [((0, 0), .tok)] 1 := by
  unfold S_glossatorref4_CanonicalEdits_j7 at h
  refine seqI ?_
  refine regI ?_
  refine seqI ?_
  refine seqI ?_
  refine regI ?_
  refine condI (v := (decide (v12 < ((a1.map e_TracedByte).length : Int)))) rfl trivial (fun h48 => ?_) (fun h48 => ?_)
  · have h := ite_tt h48 h
    refine regI ?_
    obtain ⟨h49, h⟩ := ite_some h
    refine And.intro h49 ?_
    show yops _ _ _ [(44, .iptr 2 (a1.map e_TracedByte) v12.toNat 0), (43, .int .i64 v12), (42, .isl 2 (a1.map e_TracedByte) false), (41, .bool (decide (v12 < ((a1.map e_TracedByte).length : Int)))), (40, .int .i64 ((a1.map e_TracedByte).length : Int)), (39, .isl 2 (a1.map e_TracedByte) false), (38, .int .i64 v12), (10, .int .i64 a0), (37, .int .i64 a0), (0, .int .i64 a0), (1, .isl 2 (a1.map e_TracedByte) false), (6, .osl (0, 0) 3 (v5.map e_TextEdit)), (7, .int .i64 v12), (8, .int .i64 v7), (9, .str v13)] _ _
    refine Exists.intro (e_TracedByte (a1.getD v12.toNat default)) (And.intro (getD_enc e_TracedByte _ _ (idx_ltL e_TracedByte h49)) (And.intro (And.intro (idx_lt h49) (Nat.le_of_ble_eq_true rfl)) ?_))
    refine LWp.sim ?_ (f18_j8_ok h)
    exact simI (M := [((0, 0), (0, 0))]) rfl (And.intro (Vw.same _ rfl) (And.intro (Vw.same _ rfl) (And.intro (Vw.osl _ _ _ _ rfl) (And.intro (Vw.same _ rfl) (And.intro (Vw.same _ rfl) (And.intro (Vw.same _ rfl) (And.intro (Vw.same _ rfl) trivial))))))) (And.intro (And.intro rfl BVw.tok) trivial)
  · have h := ite_ff h48 h
    refine skipI ?_
    refine LWp.sim ?_ (f18_j8_ok h)
    exact simI (M := [((0, 0), (0, 0))]) rfl (And.intro (Vw.same _ rfl) (And.intro (Vw.same _ rfl) (And.intro (Vw.osl _ _ _ _ rfl) (And.intro (Vw.same _ rfl) (And.intro (Vw.same _ rfl) (And.intro (Vw.same _ rfl) (And.intro (Vw.same _ rfl) trivial))))))) (And.intro (And.intro rfl BVw.tok) trivial)

theorem f18_L4_bok {a0 : Int} {a1 : List G_TracedByte} {v5 : List G_TextEdit} {v7 : Int} {v12 : Int} {v13 : List UInt8} {m : Option Nat} {o : (Int × (List UInt8)) ⊕ (((List G_TextEdit) × Int × Int) ⊕ ((List G_TextEdit) × Bool))} (h : S_glossatorref4_CanonicalEdits_b4 m a0 a1 v5 v7 v12 v13 = some o) :
    LWp Try.prog f18_lay 0 f18_c1 (BodyQ 0 1 (f18_L4_env a0 a1 v5 v7) (f18_L4_hp a0 a1 v5 v7) (f18_L4_Q a0 a1) o) [(0, .int .i64 a0), (1, .isl 2 (a1.map e_TracedByte) false), (6, .osl (0, 0) 3 (v5.map e_TextEdit)), (7, .int .i64 v12), (8, .int .i64 v7), (9, .str v13)] [((0, 0), .tok)] 1 := by
  unfold S_glossatorref4_CanonicalEdits_b4 at h
  refine seqI ?_
  refine seqI ?_
  refine regI ?_
  obtain ⟨h44, h⟩ := ite_some h
  refine And.intro (fun hp => (And.intro (And.intro hp hp) (h44 hp))) ?_
  show yops _ _ _ [(21, .cnd ((decide (v12 < ((a1.map e_TracedByte).length : Int))) == true) (.iptr 2 (a1.map e_TracedByte) v12.toNat 0)), (20, .cnd ((decide (v12 < ((a1.map e_TracedByte).length : Int))) == true) (.int .i64 v12)), (19, .cnd ((decide (v12 < ((a1.map e_TracedByte).length : Int))) == true) (.isl 2 (a1.map e_TracedByte) false)), (18, .bool (decide (v12 < ((a1.map e_TracedByte).length : Int)))), (17, .bool (decide (v12 < ((a1.map e_TracedByte).length : Int)))), (16, .int .i64 ((a1.map e_TracedByte).length : Int)), (15, .isl 2 (a1.map e_TracedByte) false), (14, .int .i64 v12), (0, .int .i64 a0), (1, .isl 2 (a1.map e_TracedByte) false), (6, .osl (0, 0) 3 (v5.map e_TextEdit)), (7, .int .i64 v12), (8, .int .i64 v7), (9, .str v13)] _ _
  refine And.intro (fun hp => hp) ?_
  refine Exists.intro (e_TracedByte (a1.getD v12.toNat default)) (And.intro (fun hp => And.intro (getD_enc e_TracedByte _ _ (idx_ltL e_TracedByte (h44 hp))) (And.intro hp (And.intro (idx_lt (h44 hp)) (Nat.le_of_ble_eq_true rfl)))) ?_)
  refine And.intro (fun hp => hp) ?_
  refine And.intro (fun hc => (bqt hc)) ?_
  refine LWp.sim (e := [(0, .int .i64 a0), (1, .isl 2 (a1.map e_TracedByte) false), (6, .osl (0, 0) 3 (v5.map e_TextEdit)), (7, .int .i64 v12), (8, .int .i64 v7), (9, .str v13), (25, .bool ((decide (v12 < ((a1.map e_TracedByte).length : Int))) && (decide ((a1.getD v12.toNat default).f_Origin < 0))))]) (L := [((0, 0), .tok)]) (n := 1) ?_ ?_
  · exact simI (M := [((0, 0), (0, 0))]) rfl (And.intro (Vw.same _ rfl) (And.intro (Vw.same _ rfl) (And.intro (Vw.osl _ _ _ _ rfl) (And.intro (Vw.same _ rfl) (And.intro (Vw.same _ rfl) (And.intro (Vw.same _ rfl) (And.intro (Vw.same _ rfl) trivial))))))) (And.intro (And.intro rfl BVw.tok) trivial)
  refine condI (v := ((decide (v12 < ((a1.map e_TracedByte).length : Int))) && (decide ((a1.getD v12.toNat default).f_Origin < 0)))) rfl trivial (fun h45 => ?_) (fun h45 => ?_)
  · have h := ite_tt h45 h
    refine skipI ?_
    refine blockI ?_
    refine seqI ?_
    refine regI ?_
    obtain ⟨h46, h⟩ := ite_some h
    refine And.intro h46 ?_
    refine Exists.intro (e_TracedByte (a1.getD v12.toNat default)) (And.intro (getD_enc e_TracedByte _ _ (idx_ltL e_TracedByte h46)) (And.intro (And.intro (idx_lt h46) (Nat.le_of_ble_eq_true rfl)) ?_))
    refine Exists.intro (([(a1.getD v12.toNat default).f_Value] : List Int).map toU8) (And.intro (b2s_enc ([(a1.getD v12.toNat default).f_Value] : List Int)) (And.intro (b2s_all ([(a1.getD v12.toNat default).f_Value] : List Int)) ?_))
    obtain ⟨h47, h⟩ := ite_some h
    refine And.intro h47 ?_
    show yops _ _ _ [(34, .str (v13 ++ (([(a1.getD v12.toNat default).f_Value] : List Int).map toU8))), (33, .str (([(a1.getD v12.toNat default).f_Value] : List Int).map toU8)), (32, .isl 1 (([(a1.getD v12.toNat default).f_Value] : List Int).map e_u8) true), (31, .int .u8 ((a1.getD v12.toNat default).f_Value)), (30, .iptr 2 (a1.map e_TracedByte) v12.toNat 0), (29, .iptr 2 (a1.map e_TracedByte) v12.toNat 0), (28, .int .i64 v12), (27, .isl 2 (a1.map e_TracedByte) false), (26, .str v13), (0, .int .i64 a0), (1, .isl 2 (a1.map e_TracedByte) false), (6, .osl (0, 0) 3 (v5.map e_TextEdit)), (7, .int .i64 v12), (8, .int .i64 v7), (9, .str v13), (25, .bool ((decide (v12 < ((a1.map e_TracedByte).length : Int))) && (decide ((a1.getD v12.toNat default).f_Origin < 0))))] _ _
    refine LWp.sim (e := [(0, .int .i64 a0), (1, .isl 2 (a1.map e_TracedByte) false), (6, .osl (0, 0) 3 (v5.map e_TextEdit)), (7, .int .i64 v12), (8, .int .i64 v7), (9, .str (v13 ++ (([(a1.getD v12.toNat default).f_Value] : List Int).map toU8)))]) (L := [((0, 0), .tok)]) (n := 1) ?_ ?_
    · exact simI (M := [((0, 0), (0, 0))]) rfl (And.intro (Vw.same _ rfl) (And.intro (Vw.same _ rfl) (And.intro (Vw.osl _ _ _ _ rfl) (And.intro (Vw.same _ rfl) (And.intro (Vw.same _ rfl) (And.intro (Vw.same _ rfl) trivial)))))) (And.intro (And.intro rfl BVw.tok) trivial)
    refine regI ?_
    cases h
    exact And.intro rfl (simI (M := [((0, 0), (0, 0))]) rfl (And.intro (Vw.same _ rfl) (And.intro (Vw.same _ rfl) (And.intro (Vw.osl _ _ _ _ rfl) (And.intro (Vw.same _ rfl) (And.intro (Vw.same _ rfl) (And.intro (Vw.same _ rfl) trivial)))))) (And.intro (And.intro rfl BVw.tok) trivial))
  · have h := ite_ff h45 h
    refine exitI ?_
    obtain ⟨o, hq, rfl⟩ := Option.map_eq_some_iff.1 h
    replace h := hq; clear hq
    refine And.intro nofun ?_
    refine LWp.sim ?_ (f18_j7_ok h)
    exact simI (M := [((0, 0), (0, 0))]) rfl (And.intro (Vw.same _ rfl) (And.intro (Vw.same _ rfl) (And.intro (Vw.osl _ _ _ _ rfl) (And.intro (Vw.same _ rfl) (And.intro (Vw.same _ rfl) (And.intro (Vw.same _ rfl) trivial)))))) (And.intro (And.intro rfl BVw.tok) trivial)

theorem f18_L4_ok {a0 : Int} {a1 : List G_TracedByte} {v5 : List G_TextEdit} {v7 : Int} {v12 : Int} {v13 : List UInt8} {m : Option Nat} {o : (((List G_TextEdit) × Int × Int) ⊕ ((List G_TextEdit) × Bool))} (h : S_glossatorref4_CanonicalEdits_l4 m a0 a1 v5 v7 v12 v13 = some o) :
    LWp Try.prog f18_lay 0 (.loop f18_c1) (QBlock 2 (QSeq Try.prog f18_lay 0 f18_c0 (QBlock 1 (BodyQ 0 1 (f18_L3_env a0 a1) (f18_L3_hp a0 a1) (f18_L3_Q a0 a1) o)))) [(0, .int .i64 a0), (1, .isl 2 (a1.map e_TracedByte) false), (6, .osl (0, 0) 3 (v5.map e_TextEdit)), (7, .int .i64 v12), (8, .int .i64 v7), (9, .str v13)] [((0, 0), .tok)] 1 :=
  LWp_loopM (m := m) (s := ((v12, v13) : (Int × (List UInt8)))) (r := o) (fun (s : (Int × (List UInt8))) => S_glossatorref4_CanonicalEdits_b4 m a0 a1 v5 v7 s.1 s.2) (f18_L4_env a0 a1 v5 v7) (f18_L4_hp a0 a1 v5 v7) (f18_L4_Q a0 a1) (fun s o h => f18_L4_bok h) h

noncomputable def S_glossatorref4_CanonicalEdits_j10 (m : Option Nat) (v5 : List G_TextEdit) : Option ((List G_TextEdit) × Bool) :=
  if (decide (((v5.map e_TextEdit).length : Int) > 50)) = true then
    some ([], false)
  else
    some (v5, true)

noncomputable def S_glossatorref4_CanonicalEdits_b3 (m : Option Nat) (a0 : Int) (a1 : List G_TracedByte) (v5 : List G_TextEdit) (v6 : Int) (v7 : Int) : Option (((List G_TextEdit) × Int × Int) ⊕ ((List G_TextEdit) × Bool)) :=
  if (decide (v7 ≤ a0)) = true then
    S_glossatorref4_CanonicalEdits_l4 m a0 a1 v5 v7 v6 ([] : List UInt8)
  else
    Option.map Sum.inr (
      S_glossatorref4_CanonicalEdits_j10 m v5)

noncomputable def S_glossatorref4_CanonicalEdits_l3 (m : Option Nat) (a0 : Int) (a1 : List G_TracedByte) (v5 : List G_TextEdit) (v6 : Int) (v7 : Int) : Option ((List G_TextEdit) × Bool) := loopM m (fun (s : ((List G_TextEdit) × Int × Int)) => S_glossatorref4_CanonicalEdits_b3 m a0 a1 s.1 s.2.1 s.2.2) (v5, v6, v7)

theorem f18_j10_ok {a0 : Int} {a1 : List G_TracedByte} {v5 : List G_TextEdit} {m : Option Nat} {o : ((List G_TextEdit) × Bool)} (h : S_glossatorref4_CanonicalEdits_j10 m v5 = some o) :
    LWp Try.prog f18_lay 0 f18_c2 (f18_Q a0 a1 o) [(6, .osl (0, 0) 3 (v5.map e_TextEdit))] [((0, 0), .tok)] 1 := by
  unfold S_glossatorref4_CanonicalEdits_j10 at h
  refine seqI ?_
  refine seqI ?_
  refine regI ?_
  refine condI (v := (decide (((v5.map e_TextEdit).length : Int) > 50))) rfl trivial (fun h52 => ?_) (fun h52 => ?_)
  · have h := ite_tt h52 h
    refine seqI ?_
    refine regI ?_
    refine retI ?_
    cases h
    exact And.intro trivial (And.intro trivial (And.intro rfl (Vw.tupL (And.intro (Vw.nilI _ _) (And.intro (Vw.same _ rfl) trivial)))))
  · have h := ite_ff h52 h
    refine skipI ?_
    refine seqI ?_
    refine regI ?_
    refine retI ?_
    cases h
    exact And.intro trivial (And.intro trivial (And.intro rfl (Vw.tupL (And.intro (Vw.oslI _ _ _) (And.intro (Vw.same _ rfl) trivial)))))

theorem f18_L3_bok {a0 : Int} {a1 : List G_TracedByte} {v5 : List G_TextEdit} {v6 : Int} {v7 : Int} {m : Option Nat} {o : ((List G_TextEdit) × Int × Int) ⊕ ((List G_TextEdit) × Bool)} (h : S_glossatorref4_CanonicalEdits_b3 m a0 a1 v5 v6 v7 = some o) :
    LWp Try.prog f18_lay 0 f18_c5 (BodyQ 0 1 (f18_L3_env a0 a1) (f18_L3_hp a0 a1) (f18_L3_Q a0 a1) o) [(0, .int .i64 a0), (1, .isl 2 (a1.map e_TracedByte) false), (6, .osl (0, 0) 3 (v5.map e_TextEdit)), (7, .int .i64 v6), (8, .int .i64 v7)] [((0, 0), .tok)] 1 := by
  unfold S_glossatorref4_CanonicalEdits_b3 at h
  refine seqI ?_
  refine seqI ?_
  refine regI ?_
  refine condI (v := (decide (v7 ≤ a0))) rfl trivial (fun h35 => ?_) (fun h35 => ?_)
  · have h := ite_tt h35 h
    refine skipI ?_
    refine blockI ?_
    refine seqI ?_
    refine regI ?_
    refine seqI ?_
    refine blockI ?_
    refine LWp.sim ?_ (f18_L4_ok h)
    exact simI (M := [((0, 0), (0, 0))]) rfl (And.intro (Vw.same _ rfl) (And.intro (Vw.same _ rfl) (And.intro (Vw.osl _ _ _ _ rfl) (And.intro (Vw.same _ rfl) (And.intro (Vw.same _ rfl) (And.intro (Vw.same _ rfl) trivial)))))) (And.intro (And.intro rfl BVw.tok) trivial)
  · have h := ite_ff h35 h
    refine exitI ?_
    obtain ⟨o, hq, rfl⟩ := Option.map_eq_some_iff.1 h
    replace h := hq; clear hq
    refine And.intro nofun ?_
    refine LWp.sim ?_ (f18_j10_ok h)
    exact simI (M := [((0, 0), (0, 0))]) rfl (And.intro (Vw.osl _ _ _ _ rfl) trivial) (And.intro (And.intro rfl BVw.tok) trivial)

theorem f18_L3_ok {a0 : Int} {a1 : List G_TracedByte} {v5 : List G_TextEdit} {v6 : Int} {v7 : Int} {m : Option Nat} {o : ((List G_TextEdit) × Bool)} (h : S_glossatorref4_CanonicalEdits_l3 m a0 a1 v5 v6 v7 = some o) :
    LWp Try.prog f18_lay 0 (.loop f18_c5) (QBlock 0 (QSeq Try.prog f18_lay 0 f18_c2 (f18_Q a0 a1 o))) [(0, .int .i64 a0), (1, .isl 2 (a1.map e_TracedByte) false), (6, .osl (0, 0) 3 (v5.map e_TextEdit)), (7, .int .i64 v6), (8, .int .i64 v7)] [((0, 0), .tok)] 1 :=
  LWp_loopM (m := m) (s := ((v5, v6, v7) : ((List G_TextEdit) × Int × Int))) (r := o) (fun (s : ((List G_TextEdit) × Int × Int)) => S_glossatorref4_CanonicalEdits_b3 m a0 a1 s.1 s.2.1 s.2.2) (f18_L3_env a0 a1) (f18_L3_hp a0 a1) (f18_L3_Q a0 a1) (fun s o h => f18_L3_bok h) h

noncomputable def S_glossatorref4_CanonicalEdits (m : Option Nat) (a0 : Int) (a1 : List G_TracedByte) : Option ((List G_TextEdit) × Bool) :=
  S_glossatorref4_CanonicalEdits_l3 m a0 a1 [] 0 0

theorem f18_start {a0 : Int} {a1 : List G_TracedByte} {m : Option Nat} {o : (List G_TextEdit) × Bool} (h : S_glossatorref4_CanonicalEdits m a0 a1 = some o) : LWp Try.prog f18_lay 0 f18_c6 (f18_Q a0 a1 o) (initEnv 0 [.int .i64 a0, .isl 2 (a1.map e_TracedByte) false]) [] 0 := by
  unfold S_glossatorref4_CanonicalEdits at h
  refine seqI ?_
  refine regI ?_
  refine seqI ?_
  refine regI ?_
  refine seqI ?_
  refine regI ?_
  refine seqI ?_
  refine seqI ?_
  refine regI ?_
  refine blockI ?_
  refine LWp.sim ?_ (f18_L3_ok h)
  exact simI (M := []) rfl (And.intro (Vw.same _ rfl) (And.intro (Vw.same _ rfl) (And.intro (Vw.nilO _ _ (by decide)) (And.intro (Vw.same _ rfl) (And.intro (Vw.same _ rfl) trivial))))) (And.intro (And.intro rfl (And.intro (by decide) (by decide))) trivial)

theorem f18_ok {a0 : Int} {a1 : List G_TracedByte} {m : Option Nat} {o : (List G_TextEdit) × Bool} (h : S_glossatorref4_CanonicalEdits m a0 a1 = some o) : PFn Try.prog 18 [.int .i64 a0, .isl 2 (a1.map e_TracedByte) false] (.tup [.isl 3 (o.1.map e_TextEdit) false, .bool o.2]) := PFn.ofFnW (L := f18_L) f18_low f18_fok (Nat.le_of_ble_eq_true rfl) rfl (f18_start h)

def f17_c6 : LCode := (.region [⟨some 43, .mv (.t 17), none⟩,
   ⟨some 44, .bin .add (.t 43) (.c (.int .i64 1)), none⟩,
   ⟨some 17, .mv (.t 44), none⟩])
def f17_c1 : LCode := (.seq (.seq (.region [⟨some 39, .mv (.t 17), none⟩,
   ⟨some 40, .mv (.t 16), none⟩,
   ⟨some 41, .len true (.t 40), none⟩,
   ⟨some 42, .bin .lss (.t 39) (.t 41), none⟩])
 (.cond (.t 42)
  .skip
  (.exit 4)))
 (.seq (.block 5
  (.seq (.region [⟨some 45, .mv (.t 14), none⟩,
    ⟨some 46, .mv (.t 3), none⟩,
    ⟨some 47, .eq false .bool (.t 45) (.t 46), none⟩])
  (.cond (.t 47)
   (.seq (.region [⟨some 48, .mv (.t 10), none⟩,
     ⟨some 49, .mv (.t 16), none⟩,
     ⟨some 50, .mv (.t 17), none⟩,
     ⟨some 51, .idxS (.t 49) (.t 50), none⟩,
     ⟨some 52, .mv (.t 11), none⟩,
     ⟨some 53, .build [(.int .u8 0), (.int .i64 0)] [(0, 1, (.t 51)), (1, 1, (.t 52))], none⟩,
     ⟨some 54, .mkSl true 2 [(.int .u8 0), (.int .i64 0)] 1 [(0, (.t 53))], none⟩,
     ⟨some 55, .app true 2 16 (.t 48) (.t 54), none⟩,
     ⟨some 10, .mv (.t 55), none⟩])
   (.region [⟨some 56, .mv (.t 11), none⟩,
     ⟨some 57, .bin .add (.t 56) (.c (.int .i64 1)), none⟩,
     ⟨some 11, .mv (.t 57), none⟩]))
   (.region [⟨some 58, .mv (.t 10), none⟩,
     ⟨some 59, .mv (.t 16), none⟩,
     ⟨some 60, .mv (.t 17), none⟩,
     ⟨some 61, .idxS (.t 59) (.t 60), none⟩,
     ⟨some 62, .build [(.int .u8 0), (.int .i64 0)] [(0, 1, (.t 61)), (1, 1, (.c (.int .i64 (-1))))], none⟩,
     ⟨some 63, .mkSl true 2 [(.int .u8 0), (.int .i64 0)] 1 [(0, (.t 62))], none⟩,
     ⟨some 64, .app true 2 16 (.t 58) (.t 63), none⟩,
     ⟨some 10, .mv (.t 64), none⟩]))))
 f17_c6))
def f17_c7 : LCode := (.seq (.region [⟨some 36, .mv (.t 15), none⟩,
   ⟨some 37, .mv (.t 12), none⟩,
   ⟨some 38, .call 27 [(.t 36), (.t 37)], none⟩,
   ⟨some 16, .mv (.t 38), none⟩])
 (.seq (.region [⟨some 17, .mv (.c (.int .i64 0)), none⟩])
 (.block 4
  (.loop
   f17_c1))))
def f17_c0 : LCode := (.region [⟨some 29, .mv (.t 13), none⟩,
   ⟨some 30, .bin .add (.t 29) (.c (.int .i64 1)), none⟩,
   ⟨some 13, .mv (.t 30), none⟩])
def f17_c4 : LCode := (.seq (.seq (.region [⟨some 27, .mv (.t 13), none⟩,
   ⟨some 28, .bin .lss (.t 27) (.c (.int .i64 2)), none⟩])
 (.cond (.t 28)
  .skip
  (.exit 2)))
 (.seq (.block 3
  (.seq (.region [⟨some 31, .mv (.t 13), none⟩,
    ⟨some 32, .bin .eql (.t 31) (.c (.int .i64 0)), none⟩,
    ⟨some 14, .mv (.t 32), none⟩])
  (.seq (.region [⟨some 33, .mv (.t 2), none⟩,
    ⟨some 15, .mv (.t 33), none⟩])
  (.seq (.seq (.region [⟨some 34, .mv (.t 14), none⟩])
  (.cond (.t 34)
   (.region [⟨some 35, .mv (.t 1), none⟩,
     ⟨some 15, .mv (.t 35), none⟩])
   .skip))
  f17_c7))))
 f17_c0))
def f17_c8 : LCode := (.seq (.region [⟨some 87, .mv (.t 9), none⟩,
   ⟨some 88, .mv (.t 12), none⟩,
   ⟨some 89, .call 28 [(.t 87), (.t 88)], none⟩,
   ⟨some 90, .un .not (.t 89), none⟩])
 (.cond (.t 90)
  (.region [⟨some 91, .mv (.t 11), none⟩,
    ⟨some 92, .bin .add (.t 91) (.c (.int .i64 1)), none⟩,
    ⟨some 11, .mv (.t 92), none⟩])
  .skip))
def f17_c2 : LCode := (.seq (.seq (.region [⟨some 65, .mv (.t 12), none⟩,
   ⟨some 66, .mv (.t 0), none⟩,
   ⟨some 67, .len true (.t 66), none⟩,
   ⟨some 68, .bin .eql (.t 65) (.t 67), none⟩])
 (.cond (.t 68)
  (.exit 0)
  .skip))
 (.seq (.seq (.region [⟨some 69, .mv (.t 1), none⟩,
   ⟨some 70, .mv (.t 12), none⟩,
   ⟨some 71, .call 28 [(.t 69), (.t 70)], none⟩,
   ⟨some 72, .un .not (.t 71), none⟩,
   ⟨some 73, .mv (.t 72), none⟩,
   ⟨some 74, .mv (.t 2), some (73, true)⟩,
   ⟨some 75, .mv (.t 12), some (73, true)⟩,
   ⟨some 76, .call 28 [(.t 74), (.t 75)], some (73, true)⟩,
   ⟨some 77, .un .not (.t 76), some (73, true)⟩,
   ⟨some 78, .pick (.t 73) (.t 77) (.c (.bool false)), none⟩])
 (.cond (.t 78)
  (.region [⟨some 79, .mv (.t 10), none⟩,
    ⟨some 80, .mv (.t 0), none⟩,
    ⟨some 81, .mv (.t 12), none⟩,
    ⟨some 82, .idxS (.t 80) (.t 81), none⟩,
    ⟨some 83, .mv (.t 11), none⟩,
    ⟨some 84, .build [(.int .u8 0), (.int .i64 0)] [(0, 1, (.t 82)), (1, 1, (.t 83))], none⟩,
    ⟨some 85, .mkSl true 2 [(.int .u8 0), (.int .i64 0)] 1 [(0, (.t 84))], none⟩,
    ⟨some 86, .app true 2 16 (.t 79) (.t 85), none⟩,
    ⟨some 10, .mv (.t 86), none⟩])
  .skip))
 f17_c8))
def f17_c3 : LCode := (.region [⟨some 25, .mv (.t 12), none⟩,
   ⟨some 26, .bin .add (.t 25) (.c (.int .i64 1)), none⟩,
   ⟨some 12, .mv (.t 26), none⟩])
def f17_c9 : LCode := (.seq (.seq (.region [⟨some 21, .mv (.t 12), none⟩,
   ⟨some 22, .mv (.t 0), none⟩,
   ⟨some 23, .len true (.t 22), none⟩,
   ⟨some 24, .bin .leq (.t 21) (.t 23), none⟩])
 (.cond (.t 24)
  .skip
  (.exit 0)))
 (.seq (.block 1
  (.seq (.seq (.region [⟨some 13, .mv (.c (.int .i64 0)), none⟩])
  (.block 2
   (.loop
    f17_c4)))
  f17_c2))
 f17_c3))
def f17_c5 : LCode := (.seq (.region [⟨some 93, .mv (.t 10), none⟩,
   ⟨some 8, .mv (.t 93), none⟩])
 .ret)
def f17_c10 : LCode := (.seq (.region [⟨some 10, .mv (.c (.val (.slice none 0 0))), none⟩])
 (.seq (.region [⟨some 11, .mv (.c (.int .i64 0)), none⟩])
 (.seq (.seq (.region [⟨some 12, .mv (.c (.int .i64 0)), none⟩])
 (.block 0
  (.loop
   f17_c9)))
 f17_c5)))
def f17_c11 : LCode := (.seq (.region [⟨some 8, .mv (.c (.val (.slice none 0 0))), none⟩])
 (.seq (.region [⟨some 18, .mv (.t 2), none⟩,
   ⟨some 9, .mv (.t 18), none⟩])
 (.seq (.seq (.region [⟨some 19, .mv (.t 3), none⟩])
 (.cond (.t 19)
  (.region [⟨some 20, .mv (.t 1), none⟩,
    ⟨some 9, .mv (.t 20), none⟩])
  .skip))
 f17_c10)))
def f17_lay : Lay := ⟨94, [], false⟩
def f17_res : List LRes := [.t 8]
def f17_L : LFn := ⟨4, f17_lay, f17_c11, f17_res⟩
theorem f17_low : lowFn Try.prog [] 17 = some f17_L := by kernel_rfl
theorem f17_fok : FnOk Try.prog 17 := ⟨_, Try.func17, rfl, rfl⟩
def f17_Q (a0 : List UInt8) (a1 : List G_TextEdit) (a2 : List G_TextEdit) (a3 : Bool) (o : (List G_TracedByte)) : Exit → Env → AHeap → Nat → Prop := FinK f17_res (PureEnd (.isl 2 (o.map e_TracedByte) false))

def f17_L9_env (a0 : List UInt8) (a1 : List G_TextEdit) (a2 : List G_TextEdit) (a3 : Bool) (v1 : List G_TextEdit) (s : ((List G_TracedByte) × Int × Int)) : Env := [(0, .str a0), (1, .isl 3 (a1.map e_TextEdit) false), (2, .isl 3 (a2.map e_TextEdit) false), (3, .bool a3), (9, .isl 3 (v1.map e_TextEdit) false), (10, .osl (0, 0) 2 (s.1.map e_TracedByte)), (11, .int .i64 s.2.1), (12, .int .i64 s.2.2)]
def f17_L9_hp (a0 : List UInt8) (a1 : List G_TextEdit) (a2 : List G_TextEdit) (a3 : Bool) (v1 : List G_TextEdit) (s : ((List G_TracedByte) × Int × Int)) : AHeap := [((0, 0), .tok)]
def f17_L9_Q (a0 : List UInt8) (a1 : List G_TextEdit) (a2 : List G_TextEdit) (a3 : Bool) (o : (List G_TracedByte)) : Exit → Env → AHeap → Nat → Prop := (QBlock 0 (QSeq Try.prog f17_lay 0 f17_c5 (f17_Q a0 a1 a2 a3 o)))

def f17_L12_env (a0 : List UInt8) (a1 : List G_TextEdit) (a2 : List G_TextEdit) (a3 : Bool) (v1 : List G_TextEdit) (v45 : Int) (s : ((List G_TracedByte) × Int × Int)) : Env := [(0, .str a0), (1, .isl 3 (a1.map e_TextEdit) false), (2, .isl 3 (a2.map e_TextEdit) false), (3, .bool a3), (9, .isl 3 (v1.map e_TextEdit) false), (10, .osl (0, 0) 2 (s.1.map e_TracedByte)), (11, .int .i64 s.2.1), (12, .int .i64 v45), (13, .int .i64 s.2.2)]
def f17_L12_hp (a0 : List UInt8) (a1 : List G_TextEdit) (a2 : List G_TextEdit) (a3 : Bool) (v1 : List G_TextEdit) (v45 : Int) (s : ((List G_TracedByte) × Int × Int)) : AHeap := [((0, 0), .tok)]
def f17_L12_Q (a0 : List UInt8) (a1 : List G_TextEdit) (a2 : List G_TextEdit) (a3 : Bool) (v1 : List G_TextEdit) (o : (((List G_TracedByte) × Int × Int) ⊕ (List G_TracedByte))) : Exit → Env → AHeap → Nat → Prop := (QBlock 2 (QSeq Try.prog f17_lay 0 f17_c2 (QBlock 1 (QSeq Try.prog f17_lay 0 f17_c3 (BodyQ 0 1 (f17_L9_env a0 a1 a2 a3 v1) (f17_L9_hp a0 a1 a2 a3 v1) (f17_L9_Q a0 a1 a2 a3) o)))))

def f17_L13_env (a0 : List UInt8) (a1 : List G_TextEdit) (a2 : List G_TextEdit) (a3 : Bool) (v1 : List G_TextEdit) (v45 : Int) (v100 : Int) (v113 : (List UInt8)) (s : ((List G_TracedByte) × Int × Int)) : Env := [(0, .str a0), (1, .isl 3 (a1.map e_TextEdit) false), (2, .isl 3 (a2.map e_TextEdit) false), (3, .bool a3), (9, .isl 3 (v1.map e_TextEdit) false), (10, .osl (0, 0) 2 (s.1.map e_TracedByte)), (11, .int .i64 s.2.1), (12, .int .i64 v45), (13, .int .i64 v100), (14, .bool (v100 == 0)), (16, .str v113), (17, .int .i64 s.2.2)]
def f17_L13_hp (a0 : List UInt8) (a1 : List G_TextEdit) (a2 : List G_TextEdit) (a3 : Bool) (v1 : List G_TextEdit) (v45 : Int) (v100 : Int) (v113 : (List UInt8)) (s : ((List G_TracedByte) × Int × Int)) : AHeap := [((0, 0), .tok)]
def f17_L13_Q (a0 : List UInt8) (a1 : List G_TextEdit) (a2 : List G_TextEdit) (a3 : Bool) (v1 : List G_TextEdit) (v45 : Int) (o : (((List G_TracedByte) × Int × Int) ⊕ (((List G_TracedByte) × Int × Int) ⊕ (List G_TracedByte)))) : Exit → Env → AHeap → Nat → Prop := (QBlock 4 (QBlock 3 (QSeq Try.prog f17_lay 0 f17_c0 (BodyQ 0 1 (f17_L12_env a0 a1 a2 a3 v1 v45) (f17_L12_hp a0 a1 a2 a3 v1 v45) (f17_L12_Q a0 a1 a2 a3 v1) o))))

noncomputable def S_glossatorref4_MergeEdits_j51 (m : Option Nat) (a0 : List UInt8) (a1 : List G_TextEdit) (a2 : List G_TextEdit) (a3 : Bool) (v1 : List G_TextEdit) (v45 : Int) (v100 : Int) (v113 : (List UInt8)) (v118 : Int) (v121 : List G_TracedByte) (v122 : Int) : Option (((List G_TracedByte) × Int × Int) ⊕ (((List G_TracedByte) × Int × Int) ⊕ (((List G_TracedByte) × Int × Int) ⊕ (List G_TracedByte)))) :=
  some (.inl (v121, v122, (W (v118 + 1))))

theorem f17_j51_ok {a0 : List UInt8} {a1 : List G_TextEdit} {a2 : List G_TextEdit} {a3 : Bool} {v1 : List G_TextEdit} {v45 : Int} {v100 : Int} {v113 : (List UInt8)} {v118 : Int} {v121 : List G_TracedByte} {v122 : Int} {m : Option Nat} {o : (((List G_TracedByte) × Int × Int) ⊕ (((List G_TracedByte) × Int × Int) ⊕ (((List G_TracedByte) × Int × Int) ⊕ (List G_TracedByte))))} (h : S_glossatorref4_MergeEdits_j51 m a0 a1 a2 a3 v1 v45 v100 v113 v118 v121 v122 = some o) :
    LWp Try.prog f17_lay 0 f17_c6 (BodyQ 0 1 (f17_L13_env a0 a1 a2 a3 v1 v45 v100 v113) (f17_L13_hp a0 a1 a2 a3 v1 v45 v100 v113) (f17_L13_Q a0 a1 a2 a3 v1 v45) o) [(0, .str a0), (1, .isl 3 (a1.map e_TextEdit) false), (2, .isl 3 (a2.map e_TextEdit) false), (3, .bool a3), (9, .isl 3 (v1.map e_TextEdit) false), (10, .osl (0, 0) 2 (v121.map e_TracedByte)), (11, .int .i64 v122), (12, .int .i64 v45), (13, .int .i64 v100), (14, .bool (v100 == 0)), (16, .str v113), (17, .int .i64 v118)] [((0, 0), .tok)] 1 := by
  unfold S_glossatorref4_MergeEdits_j51 at h
  refine regI ?_
  cases h
  exact And.intro rfl (simI (M := [((0, 0), (0, 0))]) rfl (And.intro (Vw.same _ rfl) (And.intro (Vw.same _ rfl) (And.intro (Vw.same _ rfl) (And.intro (Vw.same _ rfl) (And.intro (Vw.same _ rfl) (And.intro (Vw.osl _ _ _ _ rfl) (And.intro (Vw.same _ rfl) (And.intro (Vw.same _ rfl) (And.intro (Vw.same _ rfl) (And.intro (Vw.same _ rfl) (And.intro (Vw.same _ rfl) (And.intro (Vw.same _ rfl) trivial)))))))))))) (And.intro (And.intro rfl BVw.tok) trivial))

noncomputable def S_glossatorref4_MergeEdits_j52 (m : Option Nat) (a0 : List UInt8) (a1 : List G_TextEdit) (a2 : List G_TextEdit) (a3 : Bool) (v1 : List G_TextEdit) (v45 : Int) (v100 : Int) (v116 : List G_TracedByte) (v117 : Int) : Option (((List G_TracedByte) × Int × Int) ⊕ (((List G_TracedByte) × Int × Int) ⊕ (List G_TracedByte))) :=
  some (.inl (v116, v117, (W (v100 + 1))))

noncomputable def S_glossatorref4_MergeEdits_b13 (m : Option Nat) (a0 : List UInt8) (a1 : List G_TextEdit) (a2 : List G_TextEdit) (a3 : Bool) (v1 : List G_TextEdit) (v45 : Int) (v100 : Int) (v113 : (List UInt8)) (v116 : List G_TracedByte) (v117 : Int) (v118 : Int) : Option (((List G_TracedByte) × Int × Int) ⊕ (((List G_TracedByte) × Int × Int) ⊕ (((List G_TracedByte) × Int × Int) ⊕ (List G_TracedByte)))) :=
  if (decide (v118 < (v113.length : Int))) = true then
    if ((v100 == 0) == a3) = true then
      if (0 : Int) ≤ v118 ∧ v118 < (v113.length : Int) then
      if ((v116 ++ ([(G_TracedByte.mk (((v113.getD v118.toNat 0).toNat : Nat) : Int) v117)] : List G_TracedByte)).map e_TracedByte).length * 16 ≤ 140737488355328 then
      S_glossatorref4_MergeEdits_j51 m a0 a1 a2 a3 v1 v45 v100 v113 v118 (v116 ++ ([(G_TracedByte.mk (((v113.getD v118.toNat 0).toNat : Nat) : Int) v117)] : List G_TracedByte)) (W (v117 + 1))
      else none
      else none
    else
      if (0 : Int) ≤ v118 ∧ v118 < (v113.length : Int) then
      if ((v116 ++ ([(G_TracedByte.mk (((v113.getD v118.toNat 0).toNat : Nat) : Int) (-1))] : List G_TracedByte)).map e_TracedByte).length * 16 ≤ 140737488355328 then
      S_glossatorref4_MergeEdits_j51 m a0 a1 a2 a3 v1 v45 v100 v113 v118 (v116 ++ ([(G_TracedByte.mk (((v113.getD v118.toNat 0).toNat : Nat) : Int) (-1))] : List G_TracedByte)) v117
      else none
      else none
  else
    Option.map Sum.inr (
      S_glossatorref4_MergeEdits_j52 m a0 a1 a2 a3 v1 v45 v100 v116 v117)

noncomputable def S_glossatorref4_MergeEdits_l13 (m : Option Nat) (a0 : List UInt8) (a1 : List G_TextEdit) (a2 : List G_TextEdit) (a3 : Bool) (v1 : List G_TextEdit) (v45 : Int) (v100 : Int) (v113 : (List UInt8)) (v116 : List G_TracedByte) (v117 : Int) (v118 : Int) : Option (((List G_TracedByte) × Int × Int) ⊕ (((List G_TracedByte) × Int × Int) ⊕ (List G_TracedByte))) := loopM m (fun (s : ((List G_TracedByte) × Int × Int)) => S_glossatorref4_MergeEdits_b13 m a0 a1 a2 a3 v1 v45 v100 v113 s.1 s.2.1 s.2.2) (v116, v117, v118)

theorem f17_j52_ok {a0 : List UInt8} {a1 : List G_TextEdit} {a2 : List G_TextEdit} {a3 : Bool} {v1 : List G_TextEdit} {v45 : Int} {v100 : Int} {v116 : List G_TracedByte} {v117 : Int} {m : Option Nat} {o : (((List G_TracedByte) × Int × Int) ⊕ (((List G_TracedByte) × Int × Int) ⊕ (List G_TracedByte)))} (h : S_glossatorref4_MergeEdits_j52 m a0 a1 a2 a3 v1 v45 v100 v116 v117 = some o) :
    LWp Try.prog f17_lay 0 f17_c0 (BodyQ 0 1 (f17_L12_env a0 a1 a2 a3 v1 v45) (f17_L12_hp a0 a1 a2 a3 v1 v45) (f17_L12_Q a0 a1 a2 a3 v1) o) [(0, .str a0), (1, .isl 3 (a1.map e_TextEdit) false), (2, .isl 3 (a2.map e_TextEdit) false), (3, .bool a3), (9, .isl 3 (v1.map e_TextEdit) false), (10, .osl (0, 0) 2 (v116.map e_TracedByte)), (11, .int .i64 v117), (12, .int .i64 v45), (13, .int .i64 v100)] [((0, 0), .tok)] 1 := by
  unfold S_glossatorref4_MergeEdits_j52 at h
  refine regI ?_
  cases h
  exact And.intro rfl (simI (M := [((0, 0), (0, 0))]) rfl (And.intro (Vw.same _ rfl) (And.intro (Vw.same _ rfl) (And.intro (Vw.same _ rfl) (And.intro (Vw.same _ rfl) (And.intro (Vw.same _ rfl) (And.intro (Vw.osl _ _ _ _ rfl) (And.intro (Vw.same _ rfl) (And.intro (Vw.same _ rfl) (And.intro (Vw.same _ rfl) trivial))))))))) (And.intro (And.intro rfl BVw.tok) trivial))

theorem f17_L13_bok {a0 : List UInt8} {a1 : List G_TextEdit} {a2 : List G_TextEdit} {a3 : Bool} {v1 : List G_TextEdit} {v45 : Int} {v100 : Int} {v113 : (List UInt8)} {v116 : List G_TracedByte} {v117 : Int} {v118 : Int} {m : Option Nat} {o : ((List G_TracedByte) × Int × Int) ⊕ (((List G_TracedByte) × Int × Int) ⊕ (((List G_TracedByte) × Int × Int) ⊕ (List G_TracedByte)))} (h : S_glossatorref4_MergeEdits_b13 m a0 a1 a2 a3 v1 v45 v100 v113 v116 v117 v118 = some o) :
    LWp Try.prog f17_lay 0 f17_c1 (BodyQ 0 1 (f17_L13_env a0 a1 a2 a3 v1 v45 v100 v113) (f17_L13_hp a0 a1 a2 a3 v1 v45 v100 v113) (f17_L13_Q a0 a1 a2 a3 v1 v45) o) [(0, .str a0), (1, .isl 3 (a1.map e_TextEdit) false), (2, .isl 3 (a2.map e_TextEdit) false), (3, .bool a3), (9, .isl 3 (v1.map e_TextEdit) false), (10, .osl (0, 0) 2 (v116.map e_TracedByte)), (11, .int .i64 v117), (12, .int .i64 v45), (13, .int .i64 v100), (14, .bool (v100 == 0)), (16, .str v113), (17, .int .i64 v118)] [((0, 0), .tok)] 1 := by
  unfold S_glossatorref4_MergeEdits_b13 at h
  refine seqI ?_
  refine seqI ?_
  refine regI ?_
  refine condI (v := (decide (v118 < (v113.length : Int)))) rfl trivial (fun h204 => ?_) (fun h204 => ?_)
  · have h := ite_tt h204 h
    refine skipI ?_
    refine seqI ?_
    refine blockI ?_
    refine seqI ?_
    refine regI ?_
    refine condI (v := ((v100 == 0) == a3)) rfl trivial (fun h205 => ?_) (fun h205 => ?_)
    · have h := ite_tt h205 h
      refine seqI ?_
      refine regI ?_
      obtain ⟨h206, h⟩ := ite_some h
      refine And.intro h206 ?_
      show yops _ _ _ [(51, .int .u8 (((v113.getD v118.toNat 0).toNat : Nat) : Int)), (50, .int .i64 v118), (49, .str v113), (48, .osl (0, 0) 2 (v116.map e_TracedByte)), (47, .bool ((v100 == 0) == a3)), (46, .bool a3), (45, .bool (v100 == 0)), (42, .bool (decide (v118 < (v113.length : Int)))), (41, .int .i64 (v113.length : Int)), (40, .str v113), (39, .int .i64 v118), (0, .str a0), (1, .isl 3 (a1.map e_TextEdit) false), (2, .isl 3 (a2.map e_TextEdit) false), (3, .bool a3), (9, .isl 3 (v1.map e_TextEdit) false), (10, .osl (0, 0) 2 (v116.map e_TracedByte)), (11, .int .i64 v117), (12, .int .i64 v45), (13, .int .i64 v100), (14, .bool (v100 == 0)), (16, .str v113), (17, .int .i64 v118)] _ _
      obtain ⟨h207, h⟩ := ite_some h
      refine Exists.intro ((v116 ++ ([(G_TracedByte.mk (((v113.getD v118.toNat 0).toNat : Nat) : Int) v117)] : List G_TracedByte)).map e_TracedByte) (And.intro (app_enc e_TracedByte v116 ([(G_TracedByte.mk (((v113.getD v118.toNat 0).toNat : Nat) : Int) v117)] : List G_TracedByte)) (And.intro h207 ?_))
      refine LWp.sim (e := [(0, .str a0), (1, .isl 3 (a1.map e_TextEdit) false), (2, .isl 3 (a2.map e_TextEdit) false), (3, .bool a3), (9, .isl 3 (v1.map e_TextEdit) false), (10, .osl (0, 0) 2 ((v116 ++ ([(G_TracedByte.mk (((v113.getD v118.toNat 0).toNat : Nat) : Int) v117)] : List G_TracedByte)).map e_TracedByte)), (11, .int .i64 v117), (12, .int .i64 v45), (13, .int .i64 v100), (14, .bool (v100 == 0)), (16, .str v113), (17, .int .i64 v118)]) (L := [((0, 0), .tok)]) (n := 1) ?_ ?_
      · exact simI (M := [((0, 0), (1, 0))]) rfl (And.intro (Vw.same _ rfl) (And.intro (Vw.same _ rfl) (And.intro (Vw.same _ rfl) (And.intro (Vw.same _ rfl) (And.intro (Vw.same _ rfl) (And.intro (Vw.osl _ _ _ _ rfl) (And.intro (Vw.same _ rfl) (And.intro (Vw.same _ rfl) (And.intro (Vw.same _ rfl) (And.intro (Vw.same _ rfl) (And.intro (Vw.same _ rfl) (And.intro (Vw.same _ rfl) trivial)))))))))))) (And.intro (And.intro rfl BVw.tok) trivial)
      refine regI ?_
      refine LWp.sim ?_ (f17_j51_ok h)
      exact simI (M := [((0, 0), (0, 0))]) rfl (And.intro (Vw.same _ rfl) (And.intro (Vw.same _ rfl) (And.intro (Vw.same _ rfl) (And.intro (Vw.same _ rfl) (And.intro (Vw.same _ rfl) (And.intro (Vw.osl _ _ _ _ rfl) (And.intro (Vw.same _ rfl) (And.intro (Vw.same _ rfl) (And.intro (Vw.same _ rfl) (And.intro (Vw.same _ rfl) (And.intro (Vw.same _ rfl) (And.intro (Vw.same _ rfl) trivial)))))))))))) (And.intro (And.intro rfl BVw.tok) trivial)
    · have h := ite_ff h205 h
      refine regI ?_
      obtain ⟨h208, h⟩ := ite_some h
      refine And.intro h208 ?_
      show yops _ _ _ [(61, .int .u8 (((v113.getD v118.toNat 0).toNat : Nat) : Int)), (60, .int .i64 v118), (59, .str v113), (58, .osl (0, 0) 2 (v116.map e_TracedByte)), (47, .bool ((v100 == 0) == a3)), (46, .bool a3), (45, .bool (v100 == 0)), (42, .bool (decide (v118 < (v113.length : Int)))), (41, .int .i64 (v113.length : Int)), (40, .str v113), (39, .int .i64 v118), (0, .str a0), (1, .isl 3 (a1.map e_TextEdit) false), (2, .isl 3 (a2.map e_TextEdit) false), (3, .bool a3), (9, .isl 3 (v1.map e_TextEdit) false), (10, .osl (0, 0) 2 (v116.map e_TracedByte)), (11, .int .i64 v117), (12, .int .i64 v45), (13, .int .i64 v100), (14, .bool (v100 == 0)), (16, .str v113), (17, .int .i64 v118)] _ _
      obtain ⟨h209, h⟩ := ite_some h
      refine Exists.intro ((v116 ++ ([(G_TracedByte.mk (((v113.getD v118.toNat 0).toNat : Nat) : Int) (-1))] : List G_TracedByte)).map e_TracedByte) (And.intro (app_enc e_TracedByte v116 ([(G_TracedByte.mk (((v113.getD v118.toNat 0).toNat : Nat) : Int) (-1))] : List G_TracedByte)) (And.intro h209 ?_))
      refine LWp.sim ?_ (f17_j51_ok h)
      exact simI (M := [((0, 0), (1, 0))]) rfl (And.intro (Vw.same _ rfl) (And.intro (Vw.same _ rfl) (And.intro (Vw.same _ rfl) (And.intro (Vw.same _ rfl) (And.intro (Vw.same _ rfl) (And.intro (Vw.osl _ _ _ _ rfl) (And.intro (Vw.same _ rfl) (And.intro (Vw.same _ rfl) (And.intro (Vw.same _ rfl) (And.intro (Vw.same _ rfl) (And.intro (Vw.same _ rfl) (And.intro (Vw.same _ rfl) trivial)))))))))))) (And.intro (And.intro rfl BVw.tok) trivial)
  · have h := ite_ff h204 h
    refine exitI ?_
    obtain ⟨o, hq, rfl⟩ := Option.map_eq_some_iff.1 h
    replace h := hq; clear hq
    refine And.intro nofun ?_
    refine LWp.sim ?_ (f17_j52_ok h)
    exact simI (M := [((0, 0), (0, 0))]) rfl (And.intro (Vw.same _ rfl) (And.intro (Vw.same _ rfl) (And.intro (Vw.same _ rfl) (And.intro (Vw.same _ rfl) (And.intro (Vw.same _ rfl) (And.intro (Vw.osl _ _ _ _ rfl) (And.intro (Vw.same _ rfl) (And.intro (Vw.same _ rfl) (And.intro (Vw.same _ rfl) trivial))))))))) (And.intro (And.intro rfl BVw.tok) trivial)

theorem f17_L13_ok {a0 : List UInt8} {a1 : List G_TextEdit} {a2 : List G_TextEdit} {a3 : Bool} {v1 : List G_TextEdit} {v45 : Int} {v100 : Int} {v113 : (List UInt8)} {v116 : List G_TracedByte} {v117 : Int} {v118 : Int} {m : Option Nat} {o : (((List G_TracedByte) × Int × Int) ⊕ (((List G_TracedByte) × Int × Int) ⊕ (List G_TracedByte)))} (h : S_glossatorref4_MergeEdits_l13 m a0 a1 a2 a3 v1 v45 v100 v113 v116 v117 v118 = some o) :
    LWp Try.prog f17_lay 0 (.loop f17_c1) (QBlock 4 (QBlock 3 (QSeq Try.prog f17_lay 0 f17_c0 (BodyQ 0 1 (f17_L12_env a0 a1 a2 a3 v1 v45) (f17_L12_hp a0 a1 a2 a3 v1 v45) (f17_L12_Q a0 a1 a2 a3 v1) o)))) [(0, .str a0), (1, .isl 3 (a1.map e_TextEdit) false), (2, .isl 3 (a2.map e_TextEdit) false), (3, .bool a3), (9, .isl 3 (v1.map e_TextEdit) false), (10, .osl (0, 0) 2 (v116.map e_TracedByte)), (11, .int .i64 v117), (12, .int .i64 v45), (13, .int .i64 v100), (14, .bool (v100 == 0)), (16, .str v113), (17, .int .i64 v118)] [((0, 0), .tok)] 1 :=
  LWp_loopM (m := m) (s := ((v116, v117, v118) : ((List G_TracedByte) × Int × Int))) (r := o) (fun (s : ((List G_TracedByte) × Int × Int)) => S_glossatorref4_MergeEdits_b13 m a0 a1 a2 a3 v1 v45 v100 v113 s.1 s.2.1 s.2.2) (f17_L13_env a0 a1 a2 a3 v1 v45 v100 v113) (f17_L13_hp a0 a1 a2 a3 v1 v45 v100 v113) (f17_L13_Q a0 a1 a2 a3 v1 v45) (fun s o h => f17_L13_bok h) h

noncomputable def S_glossatorref4_MergeEdits_j48 (m : Option Nat) (a0 : List UInt8) (a1 : List G_TextEdit) (a2 : List G_TextEdit) (a3 : Bool) (v1 : List G_TextEdit) (v45 : Int) (v98 : List G_TracedByte) (v99 : Int) (v100 : Int) (v112 : List G_TextEdit) : Option (((List G_TracedByte) × Int × Int) ⊕ (((List G_TracedByte) × Int × Int) ⊕ (List G_TracedByte))) :=
  (S_glossatorref4_InsertedAt m v112 v45).bind fun v113 =>
  S_glossatorref4_MergeEdits_l13 m a0 a1 a2 a3 v1 v45 v100 v113 v98 v99 0

theorem f17_j48_ok {a0 : List UInt8} {a1 : List G_TextEdit} {a2 : List G_TextEdit} {a3 : Bool} {v1 : List G_TextEdit} {v45 : Int} {v98 : List G_TracedByte} {v99 : Int} {v100 : Int} {v112 : List G_TextEdit} {m : Option Nat} {o : (((List G_TracedByte) × Int × Int) ⊕ (((List G_TracedByte) × Int × Int) ⊕ (List G_TracedByte)))} (h : S_glossatorref4_MergeEdits_j48 m a0 a1 a2 a3 v1 v45 v98 v99 v100 v112 = some o) :
    LWp Try.prog f17_lay 0 f17_c7 (QBlock 3 (QSeq Try.prog f17_lay 0 f17_c0 (BodyQ 0 1 (f17_L12_env a0 a1 a2 a3 v1 v45) (f17_L12_hp a0 a1 a2 a3 v1 v45) (f17_L12_Q a0 a1 a2 a3 v1) o))) [(0, .str a0), (1, .isl 3 (a1.map e_TextEdit) false), (2, .isl 3 (a2.map e_TextEdit) false), (3, .bool a3), (9, .isl 3 (v1.map e_TextEdit) false), (10, .osl (0, 0) 2 (v98.map e_TracedByte)), (11, .int .i64 v99), (12, .int .i64 v45), (13, .int .i64 v100), (14, .bool (v100 == 0)), (15, .isl 3 (v112.map e_TextEdit) false)] [((0, 0), .tok)] 1 := by
  unfold S_glossatorref4_MergeEdits_j48 at h
  refine seqI ?_
  refine regI ?_
  obtain ⟨v113, h191, h⟩ := bind_some h
  refine PFn.call (f27_ok h191) (And.intro (Vw.same _ rfl) (And.intro (Vw.same _ rfl) trivial)) ?_
  refine seqI ?_
  refine regI ?_
  refine blockI ?_
  refine LWp.sim ?_ (f17_L13_ok h)
  exact simI (M := [((0, 0), (0, 0))]) rfl (And.intro (Vw.same _ rfl) (And.intro (Vw.same _ rfl) (And.intro (Vw.same _ rfl) (And.intro (Vw.same _ rfl) (And.intro (Vw.same _ rfl) (And.intro (Vw.osl _ _ _ _ rfl) (And.intro (Vw.same _ rfl) (And.intro (Vw.same _ rfl) (And.intro (Vw.same _ rfl) (And.intro (Vw.same _ rfl) (And.intro (Vw.same _ rfl) (And.intro (Vw.same _ rfl) trivial)))))))))))) (And.intro (And.intro rfl BVw.tok) trivial)

noncomputable def S_glossatorref4_MergeEdits_j56 (m : Option Nat) (v128 : List G_TracedByte) : Option (List G_TracedByte) :=
  some v128

noncomputable def S_glossatorref4_MergeEdits_j55 (m : Option Nat) (a0 : List UInt8) (a1 : List G_TextEdit) (a2 : List G_TextEdit) (a3 : Bool) (v1 : List G_TextEdit) (v45 : Int) (v125 : List G_TracedByte) (v127 : Int) : Option (((List G_TracedByte) × Int × Int) ⊕ (List G_TracedByte)) :=
  some (.inl (v125, v127, (W (v45 + 1))))

noncomputable def S_glossatorref4_MergeEdits_j54 (m : Option Nat) (a0 : List UInt8) (a1 : List G_TextEdit) (a2 : List G_TextEdit) (a3 : Bool) (v1 : List G_TextEdit) (v45 : Int) (v99 : Int) (v125 : List G_TracedByte) : Option (((List G_TracedByte) × Int × Int) ⊕ (List G_TracedByte)) :=
  (S_glossatorref4_DeletesByte m v1 v45).bind fun v126 =>
  if (!v126) = true then
    S_glossatorref4_MergeEdits_j55 m a0 a1 a2 a3 v1 v45 v125 (W (v99 + 1))
  else
    S_glossatorref4_MergeEdits_j55 m a0 a1 a2 a3 v1 v45 v125 v99

noncomputable def S_glossatorref4_MergeEdits_j53 (m : Option Nat) (a0 : List UInt8) (a1 : List G_TextEdit) (a2 : List G_TextEdit) (a3 : Bool) (v1 : List G_TextEdit) (v45 : Int) (v98 : List G_TracedByte) (v99 : Int) : Option (((List G_TracedByte) × Int × Int) ⊕ (List G_TracedByte)) :=
  if (v45 == (a0.length : Int)) = true then
    Option.map Sum.inr (
      S_glossatorref4_MergeEdits_j56 m v98)
  else
    (S_glossatorref4_DeletesByte m a1 v45).bind fun v123 =>
    (if ((!v123) == true) = true then S_glossatorref4_DeletesByte m a2 v45 else some default).bind fun v124 =>
    if ((!v123) && (!v124)) = true then
      if (0 : Int) ≤ v45 ∧ v45 < (a0.length : Int) then
      if ((v98 ++ ([(G_TracedByte.mk (((a0.getD v45.toNat 0).toNat : Nat) : Int) v99)] : List G_TracedByte)).map e_TracedByte).length * 16 ≤ 140737488355328 then
      S_glossatorref4_MergeEdits_j54 m a0 a1 a2 a3 v1 v45 v99 (v98 ++ ([(G_TracedByte.mk (((a0.getD v45.toNat 0).toNat : Nat) : Int) v99)] : List G_TracedByte))
      else none
      else none
    else
      S_glossatorref4_MergeEdits_j54 m a0 a1 a2 a3 v1 v45 v99 v98

noncomputable def S_glossatorref4_MergeEdits_b12 (m : Option Nat) (a0 : List UInt8) (a1 : List G_TextEdit) (a2 : List G_TextEdit) (a3 : Bool) (v1 : List G_TextEdit) (v45 : Int) (v98 : List G_TracedByte) (v99 : Int) (v100 : Int) : Option (((List G_TracedByte) × Int × Int) ⊕ (((List G_TracedByte) × Int × Int) ⊕ (List G_TracedByte))) :=
  if (decide (v100 < 2)) = true then
    if (v100 == 0) = true then
      S_glossatorref4_MergeEdits_j48 m a0 a1 a2 a3 v1 v45 v98 v99 v100 a1
    else
      S_glossatorref4_MergeEdits_j48 m a0 a1 a2 a3 v1 v45 v98 v99 v100 a2
  else
    Option.map Sum.inr (
      S_glossatorref4_MergeEdits_j53 m a0 a1 a2 a3 v1 v45 v98 v99)

noncomputable def S_glossatorref4_MergeEdits_l12 (m : Option Nat) (a0 : List UInt8) (a1 : List G_TextEdit) (a2 : List G_TextEdit) (a3 : Bool) (v1 : List G_TextEdit) (v45 : Int) (v98 : List G_TracedByte) (v99 : Int) (v100 : Int) : Option (((List G_TracedByte) × Int × Int) ⊕ (List G_TracedByte)) := loopM m (fun (s : ((List G_TracedByte) × Int × Int)) => S_glossatorref4_MergeEdits_b12 m a0 a1 a2 a3 v1 v45 s.1 s.2.1 s.2.2) (v98, v99, v100)

theorem f17_j56_ok {a0 : List UInt8} {a1 : List G_TextEdit} {a2 : List G_TextEdit} {a3 : Bool} {v128 : List G_TracedByte} {m : Option Nat} {o : (List G_TracedByte)} (h : S_glossatorref4_MergeEdits_j56 m v128 = some o) :
    LWp Try.prog f17_lay 0 f17_c5 (f17_Q a0 a1 a2 a3 o) [(10, .osl (0, 0) 2 (v128.map e_TracedByte))] [((0, 0), .tok)] 1 := by
  unfold S_glossatorref4_MergeEdits_j56 at h
  refine seqI ?_
  refine regI ?_
  refine retI ?_
  cases h
  exact And.intro trivial (And.intro rfl (Vw.oslI _ _ _))

theorem f17_j55_ok {a0 : List UInt8} {a1 : List G_TextEdit} {a2 : List G_TextEdit} {a3 : Bool} {v1 : List G_TextEdit} {v45 : Int} {v125 : List G_TracedByte} {v127 : Int} {m : Option Nat} {o : (((List G_TracedByte) × Int × Int) ⊕ (List G_TracedByte))} (h : S_glossatorref4_MergeEdits_j55 m a0 a1 a2 a3 v1 v45 v125 v127 = some o) :
    LWp Try.prog f17_lay 0 f17_c3 (BodyQ 0 1 (f17_L9_env a0 a1 a2 a3 v1) (f17_L9_hp a0 a1 a2 a3 v1) (f17_L9_Q a0 a1 a2 a3) o) [(0, .str a0), (1, .isl 3 (a1.map e_TextEdit) false), (2, .isl 3 (a2.map e_TextEdit) false), (3, .bool a3), (9, .isl 3 (v1.map e_TextEdit) false), (10, .osl (0, 0) 2 (v125.map e_TracedByte)), (11, .int .i64 v127), (12, .int .i64 v45)] [((0, 0), .tok)] 1 := by
  unfold S_glossatorref4_MergeEdits_j55 at h
  refine regI ?_
  cases h
  exact And.intro rfl (simI (M := [((0, 0), (0, 0))]) rfl (And.intro (Vw.same _ rfl) (And.intro (Vw.same _ rfl) (And.intro (Vw.same _ rfl) (And.intro (Vw.same _ rfl) (And.intro (Vw.same _ rfl) (And.intro (Vw.osl _ _ _ _ rfl) (And.intro (Vw.same _ rfl) (And.intro (Vw.same _ rfl) trivial)))))))) (And.intro (And.intro rfl BVw.tok) trivial))

theorem f17_j54_ok {a0 : List UInt8} {a1 : List G_TextEdit} {a2 : List G_TextEdit} {a3 : Bool} {v1 : List G_TextEdit} {v45 : Int} {v99 : Int} {v125 : List G_TracedByte} {m : Option Nat} {o : (((List G_TracedByte) × Int × Int) ⊕ (List G_TracedByte))} (h : S_glossatorref4_MergeEdits_j54 m a0 a1 a2 a3 v1 v45 v99 v125 = some o) :
    LWp Try.prog f17_lay 0 f17_c8 (QBlock 1 (QSeq Try.prog f17_lay 0 f17_c3 (BodyQ 0 1 (f17_L9_env a0 a1 a2 a3 v1) (f17_L9_hp a0 a1 a2 a3 v1) (f17_L9_Q a0 a1 a2 a3) o))) [(0, .str a0), (1, .isl 3 (a1.map e_TextEdit) false), (2, .isl 3 (a2.map e_TextEdit) false), (3, .bool a3), (9, .isl 3 (v1.map e_TextEdit) false), (10, .osl (0, 0) 2 (v125.map e_TracedByte)), (11, .int .i64 v99), (12, .int .i64 v45)] [((0, 0), .tok)] 1 := by
  unfold S_glossatorref4_MergeEdits_j54 at h
  refine seqI ?_
  refine regI ?_
  obtain ⟨v126, h216, h⟩ := bind_some h
  refine PFn.call (f28_ok h216) (And.intro (Vw.same _ rfl) (And.intro (Vw.same _ rfl) trivial)) ?_
  refine condI (v := (!v126)) rfl trivial (fun h217 => ?_) (fun h217 => ?_)
  · have h := ite_tt h217 h
    refine regI ?_
    refine LWp.sim ?_ (f17_j55_ok h)
    exact simI (M := [((0, 0), (0, 0))]) rfl (And.intro (Vw.same _ rfl) (And.intro (Vw.same _ rfl) (And.intro (Vw.same _ rfl) (And.intro (Vw.same _ rfl) (And.intro (Vw.same _ rfl) (And.intro (Vw.osl _ _ _ _ rfl) (And.intro (Vw.same _ rfl) (And.intro (Vw.same _ rfl) trivial)))))))) (And.intro (And.intro rfl BVw.tok) trivial)
  · have h := ite_ff h217 h
    refine skipI ?_
    refine LWp.sim ?_ (f17_j55_ok h)
    exact simI (M := [((0, 0), (0, 0))]) rfl (And.intro (Vw.same _ rfl) (And.intro (Vw.same _ rfl) (And.intro (Vw.same _ rfl) (And.intro (Vw.same _ rfl) (And.intro (Vw.same _ rfl) (And.intro (Vw.osl _ _ _ _ rfl) (And.intro (Vw.same _ rfl) (And.intro (Vw.same _ rfl) trivial)))))))) (And.intro (And.intro rfl BVw.tok) trivial)

theorem f17_j53_ok {a0 : List UInt8} {a1 : List G_TextEdit} {a2 : List G_TextEdit} {a3 : Bool} {v1 : List G_TextEdit} {v45 : Int} {v98 : List G_TracedByte} {v99 : Int} {m : Option Nat} {o : (((List G_TracedByte) × Int × Int) ⊕ (List G_TracedByte))} (h : S_glossatorref4_MergeEdits_j53 m a0 a1 a2 a3 v1 v45 v98 v99 = some o) :
    LWp Try.prog f17_lay 0 f17_c2 (QBlock 1 (QSeq Try.prog f17_lay 0 f17_c3 (BodyQ 0 1 (f17_L9_env a0 a1 a2 a3 v1) (f17_L9_hp a0 a1 a2 a3 v1) (f17_L9_Q a0 a1 a2 a3) o))) [(0, .str a0), (1, .isl 3 (a1.map e_TextEdit) false), (2, .isl 3 (a2.map e_TextEdit) false), (3, .bool a3), (9, .isl 3 (v1.map e_TextEdit) false), (10, .osl (0, 0) 2 (v98.map e_TracedByte)), (11, .int .i64 v99), (12, .int .i64 v45)] [((0, 0), .tok)] 1 := by
  unfold S_glossatorref4_MergeEdits_j53 at h
  refine seqI ?_
  refine seqI ?_
  refine regI ?_
  refine condI (v := (v45 == (a0.length : Int))) rfl trivial (fun h210 => ?_) (fun h210 => ?_)
  · have h := ite_tt h210 h
    refine exitI ?_
    obtain ⟨o, hq, rfl⟩ := Option.map_eq_some_iff.1 h
    replace h := hq; clear hq
    refine And.intro nofun ?_
    refine LWp.sim ?_ (f17_j56_ok h)
    exact simI (M := [((0, 0), (0, 0))]) rfl (And.intro (Vw.osl _ _ _ _ rfl) trivial) (And.intro (And.intro rfl BVw.tok) trivial)
  · have h := ite_ff h210 h
    refine skipI ?_
    refine seqI ?_
    refine seqI ?_
    refine regI ?_
    obtain ⟨v123, h211, h⟩ := bind_some h
    refine PFn.call (f28_ok h211) (And.intro (Vw.same _ rfl) (And.intro (Vw.same _ rfl) trivial)) ?_
    show yops _ _ _ [(71, .bool v123), (70, .int .i64 v45), (69, .isl 3 (a1.map e_TextEdit) false), (68, .bool (v45 == (a0.length : Int))), (67, .int .i64 (a0.length : Int)), (66, .str a0), (65, .int .i64 v45), (0, .str a0), (1, .isl 3 (a1.map e_TextEdit) false), (2, .isl 3 (a2.map e_TextEdit) false), (3, .bool a3), (9, .isl 3 (v1.map e_TextEdit) false), (10, .osl (0, 0) 2 (v98.map e_TracedByte)), (11, .int .i64 v99), (12, .int .i64 v45)] _ _
    obtain ⟨v124, h212, h⟩ := bind_some h
    refine Or.inl (Exists.intro (.bool v124) (And.intro (fun hp => And.intro (And.intro hp hp) (PFn.call (f28_ok (ite_tt hp h212)) (And.intro (Vw.same _ rfl) (And.intro (Vw.same _ rfl) trivial)) (And.intro rfl (And.intro rfl rfl)))) ?_))
    refine And.intro (fun hp => hp) ?_
    show yops _ _ _ [(77, .cnd ((!v123) == true) (.bool (!v124))), (76, .cnd ((!v123) == true) (.bool v124)), (75, .cnd ((!v123) == true) (.int .i64 v45)), (74, .cnd ((!v123) == true) (.isl 3 (a2.map e_TextEdit) false)), (73, .bool (!v123)), (72, .bool (!v123)), (71, .bool v123), (70, .int .i64 v45), (69, .isl 3 (a1.map e_TextEdit) false), (68, .bool (v45 == (a0.length : Int))), (67, .int .i64 (a0.length : Int)), (66, .str a0), (65, .int .i64 v45), (0, .str a0), (1, .isl 3 (a1.map e_TextEdit) false), (2, .isl 3 (a2.map e_TextEdit) false), (3, .bool a3), (9, .isl 3 (v1.map e_TextEdit) false), (10, .osl (0, 0) 2 (v98.map e_TracedByte)), (11, .int .i64 v99), (12, .int .i64 v45)] _ _
    refine And.intro (fun hc => (bqt hc)) ?_
    refine LWp.sim (e := [(0, .str a0), (1, .isl 3 (a1.map e_TextEdit) false), (2, .isl 3 (a2.map e_TextEdit) false), (3, .bool a3), (9, .isl 3 (v1.map e_TextEdit) false), (10, .osl (0, 0) 2 (v98.map e_TracedByte)), (11, .int .i64 v99), (12, .int .i64 v45), (78, .bool ((!v123) && (!v124)))]) (L := [((0, 0), .tok)]) (n := 1) ?_ ?_
    · exact simI (M := [((0, 0), (0, 0))]) rfl (And.intro (Vw.same _ rfl) (And.intro (Vw.same _ rfl) (And.intro (Vw.same _ rfl) (And.intro (Vw.same _ rfl) (And.intro (Vw.same _ rfl) (And.intro (Vw.osl _ _ _ _ rfl) (And.intro (Vw.same _ rfl) (And.intro (Vw.same _ rfl) (And.intro (Vw.same _ rfl) trivial))))))))) (And.intro (And.intro rfl BVw.tok) trivial)
    refine condI (v := ((!v123) && (!v124))) rfl trivial (fun h213 => ?_) (fun h213 => ?_)
    · have h := ite_tt h213 h
      refine regI ?_
      obtain ⟨h214, h⟩ := ite_some h
      refine And.intro h214 ?_
      obtain ⟨h215, h⟩ := ite_some h
      refine Exists.intro ((v98 ++ ([(G_TracedByte.mk (((a0.getD v45.toNat 0).toNat : Nat) : Int) v99)] : List G_TracedByte)).map e_TracedByte) (And.intro (app_enc e_TracedByte v98 ([(G_TracedByte.mk (((a0.getD v45.toNat 0).toNat : Nat) : Int) v99)] : List G_TracedByte)) (And.intro h215 ?_))
      refine LWp.sim ?_ (f17_j54_ok h)
      exact simI (M := [((0, 0), (1, 0))]) rfl (And.intro (Vw.same _ rfl) (And.intro (Vw.same _ rfl) (And.intro (Vw.same _ rfl) (And.intro (Vw.same _ rfl) (And.intro (Vw.same _ rfl) (And.intro (Vw.osl _ _ _ _ rfl) (And.intro (Vw.same _ rfl) (And.intro (Vw.same _ rfl) trivial)))))))) (And.intro (And.intro rfl BVw.tok) trivial)
    · have h := ite_ff h213 h
      refine skipI ?_
      refine LWp.sim ?_ (f17_j54_ok h)
      exact simI (M := [((0, 0), (0, 0))]) rfl (And.intro (Vw.same _ rfl) (And.intro (Vw.same _ rfl) (And.intro (Vw.same _ rfl) (And.intro (Vw.same _ rfl) (And.intro (Vw.same _ rfl) (And.intro (Vw.osl _ _ _ _ rfl) (And.intro (Vw.same _ rfl) (And.intro (Vw.same _ rfl) trivial)))))))) (And.intro (And.intro rfl BVw.tok) trivial)

theorem f17_L12_bok {a0 : List UInt8} {a1 : List G_TextEdit} {a2 : List G_TextEdit} {a3 : Bool} {v1 : List G_TextEdit} {v45 : Int} {v98 : List G_TracedByte} {v99 : Int} {v100 : Int} {m : Option Nat} {o : ((List G_TracedByte) × Int × Int) ⊕ (((List G_TracedByte) × Int × Int) ⊕ (List G_TracedByte))} (h : S_glossatorref4_MergeEdits_b12 m a0 a1 a2 a3 v1 v45 v98 v99 v100 = some o) :
    LWp Try.prog f17_lay 0 f17_c4 (BodyQ 0 1 (f17_L12_env a0 a1 a2 a3 v1 v45) (f17_L12_hp a0 a1 a2 a3 v1 v45) (f17_L12_Q a0 a1 a2 a3 v1) o) [(0, .str a0), (1, .isl 3 (a1.map e_TextEdit) false), (2, .isl 3 (a2.map e_TextEdit) false), (3, .bool a3), (9, .isl 3 (v1.map e_TextEdit) false), (10, .osl (0, 0) 2 (v98.map e_TracedByte)), (11, .int .i64 v99), (12, .int .i64 v45), (13, .int .i64 v100)] [((0, 0), .tok)] 1 := by
  unfold S_glossatorref4_MergeEdits_b12 at h
  refine seqI ?_
  refine seqI ?_
  refine regI ?_
  refine condI (v := (decide (v100 < 2))) rfl trivial (fun h189 => ?_) (fun h189 => ?_)
  · have h := ite_tt h189 h
    refine skipI ?_
    refine seqI ?_
    refine blockI ?_
    refine seqI ?_
    refine regI ?_
    refine seqI ?_
    refine regI ?_
    refine seqI ?_
    refine seqI ?_
    refine regI ?_
    refine LWp.sim (e := [(0, .str a0), (1, .isl 3 (a1.map e_TextEdit) false), (2, .isl 3 (a2.map e_TextEdit) false), (3, .bool a3), (9, .isl 3 (v1.map e_TextEdit) false), (10, .osl (0, 0) 2 (v98.map e_TracedByte)), (11, .int .i64 v99), (12, .int .i64 v45), (13, .int .i64 v100), (14, .bool (v100 == 0)), (15, .isl 3 (a2.map e_TextEdit) false), (34, .bool (v100 == 0))]) (L := [((0, 0), .tok)]) (n := 1) ?_ ?_
    · exact simI (M := [((0, 0), (0, 0))]) rfl (And.intro (Vw.same _ rfl) (And.intro (Vw.same _ rfl) (And.intro (Vw.same _ rfl) (And.intro (Vw.same _ rfl) (And.intro (Vw.same _ rfl) (And.intro (Vw.osl _ _ _ _ rfl) (And.intro (Vw.same _ rfl) (And.intro (Vw.same _ rfl) (And.intro (Vw.same _ rfl) (And.intro (Vw.same _ rfl) (And.intro (Vw.same _ rfl) (And.intro (Vw.same _ rfl) trivial)))))))))))) (And.intro (And.intro rfl BVw.tok) trivial)
    refine condI (v := (v100 == 0)) rfl trivial (fun h190 => ?_) (fun h190 => ?_)
    · have h := ite_tt h190 h
      refine regI ?_
      refine LWp.sim ?_ (f17_j48_ok h)
      exact simI (M := [((0, 0), (0, 0))]) rfl (And.intro (Vw.same _ rfl) (And.intro (Vw.same _ rfl) (And.intro (Vw.same _ rfl) (And.intro (Vw.same _ rfl) (And.intro (Vw.same _ rfl) (And.intro (Vw.osl _ _ _ _ rfl) (And.intro (Vw.same _ rfl) (And.intro (Vw.same _ rfl) (And.intro (Vw.same _ rfl) (And.intro (Vw.same _ rfl) (And.intro (Vw.same _ rfl) trivial))))))))))) (And.intro (And.intro rfl BVw.tok) trivial)
    · have h := ite_ff h190 h
      refine skipI ?_
      refine LWp.sim ?_ (f17_j48_ok h)
      exact simI (M := [((0, 0), (0, 0))]) rfl (And.intro (Vw.same _ rfl) (And.intro (Vw.same _ rfl) (And.intro (Vw.same _ rfl) (And.intro (Vw.same _ rfl) (And.intro (Vw.same _ rfl) (And.intro (Vw.osl _ _ _ _ rfl) (And.intro (Vw.same _ rfl) (And.intro (Vw.same _ rfl) (And.intro (Vw.same _ rfl) (And.intro (Vw.same _ rfl) (And.intro (Vw.same _ rfl) trivial))))))))))) (And.intro (And.intro rfl BVw.tok) trivial)
  · have h := ite_ff h189 h
    refine exitI ?_
    obtain ⟨o, hq, rfl⟩ := Option.map_eq_some_iff.1 h
    replace h := hq; clear hq
    refine And.intro nofun ?_
    refine LWp.sim ?_ (f17_j53_ok h)
    exact simI (M := [((0, 0), (0, 0))]) rfl (And.intro (Vw.same _ rfl) (And.intro (Vw.same _ rfl) (And.intro (Vw.same _ rfl) (And.intro (Vw.same _ rfl) (And.intro (Vw.same _ rfl) (And.intro (Vw.osl _ _ _ _ rfl) (And.intro (Vw.same _ rfl) (And.intro (Vw.same _ rfl) trivial)))))))) (And.intro (And.intro rfl BVw.tok) trivial)

theorem f17_L12_ok {a0 : List UInt8} {a1 : List G_TextEdit} {a2 : List G_TextEdit} {a3 : Bool} {v1 : List G_TextEdit} {v45 : Int} {v98 : List G_TracedByte} {v99 : Int} {v100 : Int} {m : Option Nat} {o : (((List G_TracedByte) × Int × Int) ⊕ (List G_TracedByte))} (h : S_glossatorref4_MergeEdits_l12 m a0 a1 a2 a3 v1 v45 v98 v99 v100 = some o) :
    LWp Try.prog f17_lay 0 (.loop f17_c4) (QBlock 2 (QSeq Try.prog f17_lay 0 f17_c2 (QBlock 1 (QSeq Try.prog f17_lay 0 f17_c3 (BodyQ 0 1 (f17_L9_env a0 a1 a2 a3 v1) (f17_L9_hp a0 a1 a2 a3 v1) (f17_L9_Q a0 a1 a2 a3) o))))) [(0, .str a0), (1, .isl 3 (a1.map e_TextEdit) false), (2, .isl 3 (a2.map e_TextEdit) false), (3, .bool a3), (9, .isl 3 (v1.map e_TextEdit) false), (10, .osl (0, 0) 2 (v98.map e_TracedByte)), (11, .int .i64 v99), (12, .int .i64 v45), (13, .int .i64 v100)] [((0, 0), .tok)] 1 :=
  LWp_loopM (m := m) (s := ((v98, v99, v100) : ((List G_TracedByte) × Int × Int))) (r := o) (fun (s : ((List G_TracedByte) × Int × Int)) => S_glossatorref4_MergeEdits_b12 m a0 a1 a2 a3 v1 v45 s.1 s.2.1 s.2.2) (f17_L12_env a0 a1 a2 a3 v1 v45) (f17_L12_hp a0 a1 a2 a3 v1 v45) (f17_L12_Q a0 a1 a2 a3 v1) (fun s o h => f17_L12_bok h) h

noncomputable def S_glossatorref4_MergeEdits_b9 (m : Option Nat) (a0 : List UInt8) (a1 : List G_TextEdit) (a2 : List G_TextEdit) (a3 : Bool) (v1 : List G_TextEdit) (v43 : List G_TracedByte) (v44 : Int) (v45 : Int) : Option (((List G_TracedByte) × Int × Int) ⊕ (List G_TracedByte)) :=
  if (decide (v45 ≤ (a0.length : Int))) = true then
    S_glossatorref4_MergeEdits_l12 m a0 a1 a2 a3 v1 v45 v43 v44 0
  else
    Option.map Sum.inr (
      S_glossatorref4_MergeEdits_j56 m v43)

noncomputable def S_glossatorref4_MergeEdits_l9 (m : Option Nat) (a0 : List UInt8) (a1 : List G_TextEdit) (a2 : List G_TextEdit) (a3 : Bool) (v1 : List G_TextEdit) (v43 : List G_TracedByte) (v44 : Int) (v45 : Int) : Option (List G_TracedByte) := loopM m (fun (s : ((List G_TracedByte) × Int × Int)) => S_glossatorref4_MergeEdits_b9 m a0 a1 a2 a3 v1 s.1 s.2.1 s.2.2) (v43, v44, v45)

theorem f17_L9_bok {a0 : List UInt8} {a1 : List G_TextEdit} {a2 : List G_TextEdit} {a3 : Bool} {v1 : List G_TextEdit} {v43 : List G_TracedByte} {v44 : Int} {v45 : Int} {m : Option Nat} {o : ((List G_TracedByte) × Int × Int) ⊕ (List G_TracedByte)} (h : S_glossatorref4_MergeEdits_b9 m a0 a1 a2 a3 v1 v43 v44 v45 = some o) :
    LWp Try.prog f17_lay 0 f17_c9 (BodyQ 0 1 (f17_L9_env a0 a1 a2 a3 v1) (f17_L9_hp a0 a1 a2 a3 v1) (f17_L9_Q a0 a1 a2 a3) o) [(0, .str a0), (1, .isl 3 (a1.map e_TextEdit) false), (2, .isl 3 (a2.map e_TextEdit) false), (3, .bool a3), (9, .isl 3 (v1.map e_TextEdit) false), (10, .osl (0, 0) 2 (v43.map e_TracedByte)), (11, .int .i64 v44), (12, .int .i64 v45)] [((0, 0), .tok)] 1 := by
  unfold S_glossatorref4_MergeEdits_b9 at h
  refine seqI ?_
  refine seqI ?_
  refine regI ?_
  refine condI (v := (decide (v45 ≤ (a0.length : Int)))) rfl trivial (fun h146 => ?_) (fun h146 => ?_)
  · have h := ite_tt h146 h
    refine skipI ?_
    refine seqI ?_
    refine blockI ?_
    refine seqI ?_
    refine seqI ?_
    refine regI ?_
    refine blockI ?_
    refine LWp.sim ?_ (f17_L12_ok h)
    exact simI (M := [((0, 0), (0, 0))]) rfl (And.intro (Vw.same _ rfl) (And.intro (Vw.same _ rfl) (And.intro (Vw.same _ rfl) (And.intro (Vw.same _ rfl) (And.intro (Vw.same _ rfl) (And.intro (Vw.osl _ _ _ _ rfl) (And.intro (Vw.same _ rfl) (And.intro (Vw.same _ rfl) (And.intro (Vw.same _ rfl) trivial))))))))) (And.intro (And.intro rfl BVw.tok) trivial)
  · have h := ite_ff h146 h
    refine exitI ?_
    obtain ⟨o, hq, rfl⟩ := Option.map_eq_some_iff.1 h
    replace h := hq; clear hq
    refine And.intro nofun ?_
    refine LWp.sim ?_ (f17_j56_ok h)
    exact simI (M := [((0, 0), (0, 0))]) rfl (And.intro (Vw.osl _ _ _ _ rfl) trivial) (And.intro (And.intro rfl BVw.tok) trivial)

theorem f17_L9_ok {a0 : List UInt8} {a1 : List G_TextEdit} {a2 : List G_TextEdit} {a3 : Bool} {v1 : List G_TextEdit} {v43 : List G_TracedByte} {v44 : Int} {v45 : Int} {m : Option Nat} {o : (List G_TracedByte)} (h : S_glossatorref4_MergeEdits_l9 m a0 a1 a2 a3 v1 v43 v44 v45 = some o) :
    LWp Try.prog f17_lay 0 (.loop f17_c9) (QBlock 0 (QSeq Try.prog f17_lay 0 f17_c5 (f17_Q a0 a1 a2 a3 o))) [(0, .str a0), (1, .isl 3 (a1.map e_TextEdit) false), (2, .isl 3 (a2.map e_TextEdit) false), (3, .bool a3), (9, .isl 3 (v1.map e_TextEdit) false), (10, .osl (0, 0) 2 (v43.map e_TracedByte)), (11, .int .i64 v44), (12, .int .i64 v45)] [((0, 0), .tok)] 1 :=
  LWp_loopM (m := m) (s := ((v43, v44, v45) : ((List G_TracedByte) × Int × Int))) (r := o) (fun (s : ((List G_TracedByte) × Int × Int)) => S_glossatorref4_MergeEdits_b9 m a0 a1 a2 a3 v1 s.1 s.2.1 s.2.2) (f17_L9_env a0 a1 a2 a3 v1) (f17_L9_hp a0 a1 a2 a3 v1) (f17_L9_Q a0 a1 a2 a3) (fun s o h => f17_L9_bok h) h

noncomputable def S_glossatorref4_MergeEdits_j1 (m : Option Nat) (a0 : List UInt8) (a1 : List G_TextEdit) (a2 : List G_TextEdit) (a3 : Bool) (v1 : List G_TextEdit) : Option (List G_TracedByte) :=
  S_glossatorref4_MergeEdits_l9 m a0 a1 a2 a3 v1 [] 0 0

theorem f17_j1_ok {a0 : List UInt8} {a1 : List G_TextEdit} {a2 : List G_TextEdit} {a3 : Bool} {v1 : List G_TextEdit} {m : Option Nat} {o : (List G_TracedByte)} (h : S_glossatorref4_MergeEdits_j1 m a0 a1 a2 a3 v1 = some o) :
    LWp Try.prog f17_lay 0 f17_c10 (f17_Q a0 a1 a2 a3 o) [(0, .str a0), (1, .isl 3 (a1.map e_TextEdit) false), (2, .isl 3 (a2.map e_TextEdit) false), (3, .bool a3), (9, .isl 3 (v1.map e_TextEdit) false)] [] 0 := by
  unfold S_glossatorref4_MergeEdits_j1 at h
  refine seqI ?_
  refine regI ?_
  refine seqI ?_
  refine regI ?_
  refine seqI ?_
  refine seqI ?_
  refine regI ?_
  refine blockI ?_
  refine LWp.sim ?_ (f17_L9_ok h)
  exact simI (M := []) rfl (And.intro (Vw.same _ rfl) (And.intro (Vw.same _ rfl) (And.intro (Vw.same _ rfl) (And.intro (Vw.same _ rfl) (And.intro (Vw.same _ rfl) (And.intro (Vw.nilO _ _ (by decide)) (And.intro (Vw.same _ rfl) (And.intro (Vw.same _ rfl) trivial)))))))) (And.intro (And.intro rfl (And.intro (by decide) (by decide))) trivial)

noncomputable def S_glossatorref4_MergeEdits (m : Option Nat) (a0 : List UInt8) (a1 : List G_TextEdit) (a2 : List G_TextEdit) (a3 : Bool) : Option (List G_TracedByte) :=
  if a3 = true then
    S_glossatorref4_MergeEdits_j1 m a0 a1 a2 a3 a1
  else
    S_glossatorref4_MergeEdits_j1 m a0 a1 a2 a3 a2

theorem f17_start {a0 : List UInt8} {a1 : List G_TextEdit} {a2 : List G_TextEdit} {a3 : Bool} {m : Option Nat} {o : (List G_TracedByte)} (h : S_glossatorref4_MergeEdits m a0 a1 a2 a3 = some o) : LWp Try.prog f17_lay 0 f17_c11 (f17_Q a0 a1 a2 a3 o) (initEnv 0 [.str a0, .isl 3 (a1.map e_TextEdit) false, .isl 3 (a2.map e_TextEdit) false, .bool a3]) [] 0 := by
  unfold S_glossatorref4_MergeEdits at h
  refine seqI ?_
  refine regI ?_
  refine seqI ?_
  refine regI ?_
  refine seqI ?_
  refine seqI ?_
  refine regI ?_
  refine condI (v := a3) rfl trivial (fun h1 => ?_) (fun h1 => ?_)
  · have h := ite_tt h1 h
    refine regI ?_
    refine LWp.sim ?_ (f17_j1_ok h)
    exact simI (M := []) rfl (And.intro (Vw.same _ rfl) (And.intro (Vw.same _ rfl) (And.intro (Vw.same _ rfl) (And.intro (Vw.same _ rfl) (And.intro (Vw.same _ rfl) trivial))))) trivial
  · have h := ite_ff h1 h
    refine skipI ?_
    refine LWp.sim ?_ (f17_j1_ok h)
    exact simI (M := []) rfl (And.intro (Vw.same _ rfl) (And.intro (Vw.same _ rfl) (And.intro (Vw.same _ rfl) (And.intro (Vw.same _ rfl) (And.intro (Vw.same _ rfl) trivial))))) trivial

theorem f17_ok {a0 : List UInt8} {a1 : List G_TextEdit} {a2 : List G_TextEdit} {a3 : Bool} {m : Option Nat} {o : (List G_TracedByte)} (h : S_glossatorref4_MergeEdits m a0 a1 a2 a3 = some o) : PFn Try.prog 17 [.str a0, .isl 3 (a1.map e_TextEdit) false, .isl 3 (a2.map e_TextEdit) false, .bool a3] (.isl 2 (o.map e_TracedByte) false) := PFn.ofFnW (L := f17_L) f17_low f17_fok (Nat.le_of_ble_eq_true rfl) rfl (f17_start h)

def f5_c0 : LCode := (.seq (.region [⟨some 86, .mv (.t 7), none⟩,
   ⟨some 87, .mv (.t 11), none⟩,
   ⟨some 88, .call 13 [(.t 86), (.t 87)], none⟩,
   ⟨some 89, .mv (.t 88), none⟩,
   ⟨some 90, .mv (.t 8), some (89, true)⟩,
   ⟨some 91, .mv (.t 12), some (89, true)⟩,
   ⟨some 92, .call 13 [(.t 90), (.t 91)], some (89, true)⟩,
   ⟨some 93, .pick (.t 89) (.t 92) (.c (.bool false)), none⟩,
   ⟨some 94, .mv (.t 93), none⟩,
   ⟨some 95, .mv (.t 9), some (94, true)⟩,
   ⟨some 96, .mv (.t 10), some (94, true)⟩,
   ⟨some 97, .bin .eql (.t 95) (.t 96), some (94, true)⟩,
   ⟨some 98, .pick (.t 94) (.t 97) (.c (.bool false)), none⟩,
   ⟨some 6, .mv (.t 98), none⟩])
 .ret)
def f5_c1 : LCode := (.seq (.region [⟨some 11, .mv (.c (.val (.slice none 0 0))), none⟩,
   ⟨some 12, .mv (.c (.val (.slice none 0 0))), none⟩])
 (.seq (.seq (.region [⟨some 45, .mv (.t 10), none⟩,
   ⟨some 46, .bin .eql (.t 45) (.c (.int .i64 0)), none⟩])
 (.cond (.t 46)
  (.seq (.region [⟨some 47, .mv (.t 0), none⟩,
    ⟨some 48, .mv (.t 1), none⟩,
    ⟨some 49, .mv (.t 2), none⟩,
    ⟨some 50, .call 17 [(.t 47), (.t 48), (.t 49), (.c (.bool false))], none⟩,
    ⟨some 51, .mv (.t 0), none⟩,
    ⟨some 52, .mv (.t 1), none⟩,
    ⟨some 53, .mv (.t 2), none⟩,
    ⟨some 54, .call 17 [(.t 51), (.t 52), (.t 53), (.c (.bool true))], none⟩,
    ⟨some 13, .mv (.t 50), none⟩,
    ⟨some 14, .mv (.t 54), none⟩])
  (.seq (.region [⟨some 56, .mv (.t 0), none⟩,
    ⟨some 57, .mv (.t 2), none⟩,
    ⟨some 58, .call 10 [(.t 56), (.t 57)], none⟩,
    ⟨some 59, .len true (.t 58), none⟩,
    ⟨some 60, .mv (.t 13), none⟩,
    ⟨some 61, .call 18 [(.t 59), (.t 60)], none⟩,
    ⟨some 55, .mv (.t 61), none⟩,
    ⟨some 62, .ext 0 (.t 55), none⟩,
    ⟨some 63, .ext 1 (.t 55), none⟩,
    ⟨some 15, .mv (.t 62), none⟩,
    ⟨some 16, .mv (.t 63), none⟩])
  (.seq (.region [⟨some 65, .mv (.t 0), none⟩,
    ⟨some 66, .mv (.t 1), none⟩,
    ⟨some 67, .call 10 [(.t 65), (.t 66)], none⟩,
    ⟨some 68, .len true (.t 67), none⟩,
    ⟨some 69, .mv (.t 14), none⟩,
    ⟨some 70, .call 18 [(.t 68), (.t 69)], none⟩,
    ⟨some 64, .mv (.t 70), none⟩,
    ⟨some 71, .ext 0 (.t 64), none⟩,
    ⟨some 72, .ext 1 (.t 64), none⟩,
    ⟨some 17, .mv (.t 71), none⟩,
    ⟨some 18, .mv (.t 72), none⟩])
  (.seq (.region [⟨some 73, .mv (.t 14), none⟩,
    ⟨some 74, .len false (.t 73), none⟩,
    ⟨some 75, .bin .gtr (.t 74) (.c (.int .i64 2000)), none⟩,
    ⟨some 76, .mv (.t 75), none⟩,
    ⟨some 77, .mv (.t 16), some (76, false)⟩,
    ⟨some 78, .un .not (.t 77), some (76, false)⟩,
    ⟨some 79, .pick (.t 76) (.c (.bool true)) (.t 78), none⟩,
    ⟨some 80, .mv (.t 79), none⟩,
    ⟨some 81, .mv (.t 18), some (80, false)⟩,
    ⟨some 82, .un .not (.t 81), some (80, false)⟩,
    ⟨some 83, .pick (.t 80) (.c (.bool true)) (.t 82), none⟩])
  (.cond (.t 83)
   (.region [⟨some 10, .mv (.c (.int .i64 2)), none⟩])
   (.region [⟨some 84, .mv (.t 15), none⟩,
     ⟨some 85, .mv (.t 17), none⟩,
     ⟨some 11, .mv (.t 84), none⟩,
     ⟨some 12, .mv (.t 85), none⟩]))))))
  .skip))
 f5_c0))
def f5_c2 : LCode := (.seq (.region [⟨some 30, .mv (.t 0), none⟩,
   ⟨some 31, .mv (.t 1), none⟩,
   ⟨some 32, .mv (.t 2), none⟩,
   ⟨some 33, .call 16 [(.t 30), (.t 31), (.t 32)], none⟩,
   ⟨some 29, .mv (.t 33), none⟩,
   ⟨some 34, .ext 0 (.t 29), none⟩,
   ⟨some 35, .ext 1 (.t 29), none⟩,
   ⟨some 36, .ext 2 (.t 29), none⟩,
   ⟨some 7, .mv (.t 34), none⟩,
   ⟨some 8, .mv (.t 35), none⟩,
   ⟨some 9, .mv (.t 36), none⟩])
 (.seq (.region [⟨some 37, .mv (.t 0), none⟩,
   ⟨some 38, .mv (.t 1), none⟩,
   ⟨some 39, .call 9 [(.t 37), (.t 38)], none⟩,
   ⟨some 10, .mv (.t 39), none⟩])
 (.seq (.seq (.region [⟨some 40, .mv (.t 10), none⟩,
   ⟨some 41, .bin .eql (.t 40) (.c (.int .i64 0)), none⟩])
 (.cond (.t 41)
  (.region [⟨some 42, .mv (.t 0), none⟩,
    ⟨some 43, .mv (.t 2), none⟩,
    ⟨some 44, .call 9 [(.t 42), (.t 43)], none⟩,
    ⟨some 10, .mv (.t 44), none⟩])
  .skip))
 f5_c1)))
def f5_c3 : LCode := (.seq (.region [⟨some 6, .mv (.c (.bool false)), none⟩])
 (.seq (.seq (.region [⟨some 19, .call 6 [], none⟩,
   ⟨some 20, .un .not (.t 19), none⟩])
 (.cond (.t 20)
  (.seq (.region [⟨some 6, .mv (.c (.bool false)), none⟩])
  .ret)
  .skip))
 (.seq (.seq (.region [⟨some 21, .mv (.t 0), none⟩,
   ⟨some 22, .len true (.t 21), none⟩,
   ⟨some 23, .bin .leq (.t 22) (.c (.int .i64 2000)), none⟩])
 (.cond (.t 23)
  (.region [⟨some 24, .mv (.t 0), none⟩,
    ⟨some 25, .mv (.t 0), none⟩,
    ⟨some 26, .len true (.t 25), none⟩,
    ⟨some 27, .mnx false [(.t 26), (.c (.int .i64 300))], none⟩,
    ⟨some 28, .slStr (.t 24) none (some (.t 27)), none⟩,
    ⟨some 0, .mv (.t 28), none⟩])
  .skip))
 f5_c2)))
def f5_lay : Lay := ⟨99, [], false⟩
def f5_res : List LRes := [.t 6]
def f5_L : LFn := ⟨3, f5_lay, f5_c3, f5_res⟩
theorem f5_low : lowFn Try.prog [] 5 = some f5_L := by kernel_rfl
theorem f5_fok : FnOk Try.prog 5 := ⟨_, Try.func5, rfl, rfl⟩
noncomputable def S_glossatorlaw4_TexteditTransformEqualsReference_j3 (m : Option Nat) (v3 : (List G_TextEdit) × (List G_TextEdit) × Int) (v13 : Int) (v14 : List G_TextEdit) (v15 : List G_TextEdit) : Option Bool :=
  (S_glossatorref4_EqualEdits m v3.1 v14).bind fun v16 =>
  (if (v16 == true) = true then S_glossatorref4_EqualEdits m v3.2.1 v15 else some default).bind fun v17 =>
  some ((v16 && v17) && (v3.2.2 == v13))

def f5_Q (a0 : List UInt8) (a1 : List G_TextEdit) (a2 : List G_TextEdit) (o : Bool) : Exit → Env → AHeap → Nat → Prop := FinK f5_res (PureEnd (.bool o))

theorem f5_j3_ok {a0 : List UInt8} {a1 : List G_TextEdit} {a2 : List G_TextEdit} {v3 : (List G_TextEdit) × (List G_TextEdit) × Int} {v13 : Int} {v14 : List G_TextEdit} {v15 : List G_TextEdit} {m : Option Nat} {o : Bool} (h : S_glossatorlaw4_TexteditTransformEqualsReference_j3 m v3 v13 v14 v15 = some o) :
    LWp Try.prog f5_lay 0 f5_c0 (f5_Q a0 a1 a2 o) [(7, .isl 3 (v3.1.map e_TextEdit) false), (8, .isl 3 (v3.2.1.map e_TextEdit) false), (9, .int .i64 v3.2.2), (10, .int .i64 v13), (11, .isl 3 (v14.map e_TextEdit) false), (12, .isl 3 (v15.map e_TextEdit) false)] [] 0 := by
  unfold S_glossatorlaw4_TexteditTransformEqualsReference_j3 at h
  refine seqI ?_
  refine regI ?_
  obtain ⟨v16, h17, h⟩ := bind_some h
  refine PFn.call (f13_ok h17) (And.intro (Vw.same _ rfl) (And.intro (Vw.same _ rfl) trivial)) ?_
  obtain ⟨v17, h18, h⟩ := bind_some h
  refine Or.inl (Exists.intro (.bool v17) (And.intro (fun hp => And.intro (And.intro hp hp) (PFn.call (f13_ok (ite_tt hp h18)) (And.intro (Vw.same _ rfl) (And.intro (Vw.same _ rfl) trivial)) (And.intro rfl (And.intro rfl rfl)))) ?_))
  refine And.intro (fun hc => (bqt hc)) ?_
  show yops _ _ _ [(93, .bool (v16 && v17)), (92, .cnd (v16 == true) (.bool v17)), (91, .cnd (v16 == true) (.isl 3 (v15.map e_TextEdit) false)), (90, .cnd (v16 == true) (.isl 3 (v3.2.1.map e_TextEdit) false)), (89, .bool v16), (88, .bool v16), (87, .isl 3 (v14.map e_TextEdit) false), (86, .isl 3 (v3.1.map e_TextEdit) false), (7, .isl 3 (v3.1.map e_TextEdit) false), (8, .isl 3 (v3.2.1.map e_TextEdit) false), (9, .int .i64 v3.2.2), (10, .int .i64 v13), (11, .isl 3 (v14.map e_TextEdit) false), (12, .isl 3 (v15.map e_TextEdit) false)] _ _
  refine And.intro (fun hp => (And.intro hp hp)) ?_
  refine And.intro (fun hc => (bqt hc)) ?_
  show yops _ _ _ [(98, .bool ((v16 && v17) && (v3.2.2 == v13))), (97, .cnd ((v16 && v17) == true) (.bool (v3.2.2 == v13))), (96, .cnd ((v16 && v17) == true) (.int .i64 v13)), (95, .cnd ((v16 && v17) == true) (.int .i64 v3.2.2)), (94, .bool (v16 && v17)), (93, .bool (v16 && v17)), (92, .cnd (v16 == true) (.bool v17)), (91, .cnd (v16 == true) (.isl 3 (v15.map e_TextEdit) false)), (90, .cnd (v16 == true) (.isl 3 (v3.2.1.map e_TextEdit) false)), (89, .bool v16), (88, .bool v16), (87, .isl 3 (v14.map e_TextEdit) false), (86, .isl 3 (v3.1.map e_TextEdit) false), (7, .isl 3 (v3.1.map e_TextEdit) false), (8, .isl 3 (v3.2.1.map e_TextEdit) false), (9, .int .i64 v3.2.2), (10, .int .i64 v13), (11, .isl 3 (v14.map e_TextEdit) false), (12, .isl 3 (v15.map e_TextEdit) false)] _ _
  refine LWp.sim (e := [(6, .bool ((v16 && v17) && (v3.2.2 == v13)))]) (L := []) (n := 0) ?_ ?_
  · exact simI (M := []) rfl (And.intro (Vw.same _ rfl) trivial) trivial
  refine retI ?_
  cases h
  exact And.intro trivial (And.intro rfl (Vw.same _ rfl))

noncomputable def S_glossatorlaw4_TexteditTransformEqualsReference_j2 (m : Option Nat) (a1 : List G_TextEdit) (a2 : List G_TextEdit) (v2 : List UInt8) (v3 : (List G_TextEdit) × (List G_TextEdit) × Int) (v6 : Int) : Option Bool :=
  if (v6 == 0) = true then
    (S_glossatorref4_MergeEdits m v2 a1 a2 false).bind fun v7 =>
    (S_glossatorref4_MergeEdits m v2 a1 a2 true).bind fun v8 =>
    (S_glossatorref4_ApplyEdits m v2 a2).bind fun v9 =>
    (S_glossatorref4_CanonicalEdits m (v9.length : Int) v7).bind fun v10 =>
    (S_glossatorref4_ApplyEdits m v2 a1).bind fun v11 =>
    (S_glossatorref4_CanonicalEdits m (v11.length : Int) v8).bind fun v12 =>
    if (((decide (((v8.map e_TracedByte).length : Int) > 2000)) || (!v10.2)) || (!v12.2)) = true then
      S_glossatorlaw4_TexteditTransformEqualsReference_j3 m v3 2 [] []
    else
      S_glossatorlaw4_TexteditTransformEqualsReference_j3 m v3 v6 v10.1 v12.1
  else
    S_glossatorlaw4_TexteditTransformEqualsReference_j3 m v3 v6 [] []

theorem f5_j2_ok {a0 : List UInt8} {a1 : List G_TextEdit} {a2 : List G_TextEdit} {v2 : List UInt8} {v3 : (List G_TextEdit) × (List G_TextEdit) × Int} {v6 : Int} {m : Option Nat} {o : Bool} (h : S_glossatorlaw4_TexteditTransformEqualsReference_j2 m a1 a2 v2 v3 v6 = some o) :
    LWp Try.prog f5_lay 0 f5_c1 (f5_Q a0 a1 a2 o) [(0, .str v2), (1, .isl 3 (a1.map e_TextEdit) false), (2, .isl 3 (a2.map e_TextEdit) false), (7, .isl 3 (v3.1.map e_TextEdit) false), (8, .isl 3 (v3.2.1.map e_TextEdit) false), (9, .int .i64 v3.2.2), (10, .int .i64 v6)] [] 0 := by
  unfold S_glossatorlaw4_TexteditTransformEqualsReference_j2 at h
  refine seqI ?_
  refine regI ?_
  refine seqI ?_
  refine seqI ?_
  refine regI ?_
  refine condI (v := (v6 == 0)) rfl trivial (fun h9 => ?_) (fun h9 => ?_)
  · have h := ite_tt h9 h
    refine seqI ?_
    refine regI ?_
    obtain ⟨v7, h10, h⟩ := bind_some h
    refine PFn.call (f17_ok h10) (And.intro (Vw.same _ rfl) (And.intro (Vw.same _ rfl) (And.intro (Vw.same _ rfl) (And.intro (Vw.same _ rfl) trivial)))) ?_
    show yops _ _ _ [(50, .isl 2 (v7.map e_TracedByte) false), (49, .isl 3 (a2.map e_TextEdit) false), (48, .isl 3 (a1.map e_TextEdit) false), (47, .str v2), (46, .bool (v6 == 0)), (45, .int .i64 v6), (12, .val (.slice none 0 0)), (11, .val (.slice none 0 0)), (0, .str v2), (1, .isl 3 (a1.map e_TextEdit) false), (2, .isl 3 (a2.map e_TextEdit) false), (7, .isl 3 (v3.1.map e_TextEdit) false), (8, .isl 3 (v3.2.1.map e_TextEdit) false), (9, .int .i64 v3.2.2), (10, .int .i64 v6)] _ _
    obtain ⟨v8, h11, h⟩ := bind_some h
    refine PFn.call (f17_ok h11) (And.intro (Vw.same _ rfl) (And.intro (Vw.same _ rfl) (And.intro (Vw.same _ rfl) (And.intro (Vw.same _ rfl) trivial)))) ?_
    refine LWp.sim (e := [(0, .str v2), (1, .isl 3 (a1.map e_TextEdit) false), (2, .isl 3 (a2.map e_TextEdit) false), (7, .isl 3 (v3.1.map e_TextEdit) false), (8, .isl 3 (v3.2.1.map e_TextEdit) false), (9, .int .i64 v3.2.2), (10, .int .i64 v6), (11, .val (.slice none 0 0)), (12, .val (.slice none 0 0)), (13, .isl 2 (v7.map e_TracedByte) false), (14, .isl 2 (v8.map e_TracedByte) false)]) (L := []) (n := 0) ?_ ?_
    · exact simI (M := []) rfl (And.intro (Vw.same _ rfl) (And.intro (Vw.same _ rfl) (And.intro (Vw.same _ rfl) (And.intro (Vw.same _ rfl) (And.intro (Vw.same _ rfl) (And.intro (Vw.same _ rfl) (And.intro (Vw.same _ rfl) (And.intro (Vw.same _ rfl) (And.intro (Vw.same _ rfl) (And.intro (Vw.same _ rfl) (And.intro (Vw.same _ rfl) trivial))))))))))) trivial
    refine seqI ?_
    refine regI ?_
    obtain ⟨v9, h12, h⟩ := bind_some h
    refine PFn.call (f10_ok h12) (And.intro (Vw.same _ rfl) (And.intro (Vw.same _ rfl) trivial)) ?_
    obtain ⟨v10, h13, h⟩ := bind_some h
    refine PFn.call (f18_ok h13) (And.intro (Vw.same _ rfl) (And.intro (Vw.same _ rfl) trivial)) ?_
    show yops _ _ _ [(61, .tup [.isl 3 (v10.1.map e_TextEdit) false, .bool v10.2]), (60, .isl 2 (v7.map e_TracedByte) false), (59, .int .i64 (v9.length : Int)), (58, .str v9), (57, .isl 3 (a2.map e_TextEdit) false), (56, .str v2), (0, .str v2), (1, .isl 3 (a1.map e_TextEdit) false), (2, .isl 3 (a2.map e_TextEdit) false), (7, .isl 3 (v3.1.map e_TextEdit) false), (8, .isl 3 (v3.2.1.map e_TextEdit) false), (9, .int .i64 v3.2.2), (10, .int .i64 v6), (11, .val (.slice none 0 0)), (12, .val (.slice none 0 0)), (13, .isl 2 (v7.map e_TracedByte) false), (14, .isl 2 (v8.map e_TracedByte) false)] _ _
    refine LWp.sim (e := [(0, .str v2), (1, .isl 3 (a1.map e_TextEdit) false), (7, .isl 3 (v3.1.map e_TextEdit) false), (8, .isl 3 (v3.2.1.map e_TextEdit) false), (9, .int .i64 v3.2.2), (10, .int .i64 v6), (11, .val (.slice none 0 0)), (12, .val (.slice none 0 0)), (14, .isl 2 (v8.map e_TracedByte) false), (15, .isl 3 (v10.1.map e_TextEdit) false), (16, .bool v10.2)]) (L := []) (n := 0) ?_ ?_
    · exact simI (M := []) rfl (And.intro (Vw.same _ rfl) (And.intro (Vw.same _ rfl) (And.intro (Vw.same _ rfl) (And.intro (Vw.same _ rfl) (And.intro (Vw.same _ rfl) (And.intro (Vw.same _ rfl) (And.intro (Vw.same _ rfl) (And.intro (Vw.same _ rfl) (And.intro (Vw.same _ rfl) (And.intro (Vw.same _ rfl) (And.intro (Vw.same _ rfl) trivial))))))))))) trivial
    refine seqI ?_
    refine regI ?_
    obtain ⟨v11, h14, h⟩ := bind_some h
    refine PFn.call (f10_ok h14) (And.intro (Vw.same _ rfl) (And.intro (Vw.same _ rfl) trivial)) ?_
    obtain ⟨v12, h15, h⟩ := bind_some h
    refine PFn.call (f18_ok h15) (And.intro (Vw.same _ rfl) (And.intro (Vw.same _ rfl) trivial)) ?_
    show yops _ _ _ [(70, .tup [.isl 3 (v12.1.map e_TextEdit) false, .bool v12.2]), (69, .isl 2 (v8.map e_TracedByte) false), (68, .int .i64 (v11.length : Int)), (67, .str v11), (66, .isl 3 (a1.map e_TextEdit) false), (65, .str v2), (0, .str v2), (1, .isl 3 (a1.map e_TextEdit) false), (7, .isl 3 (v3.1.map e_TextEdit) false), (8, .isl 3 (v3.2.1.map e_TextEdit) false), (9, .int .i64 v3.2.2), (10, .int .i64 v6), (11, .val (.slice none 0 0)), (12, .val (.slice none 0 0)), (14, .isl 2 (v8.map e_TracedByte) false), (15, .isl 3 (v10.1.map e_TextEdit) false), (16, .bool v10.2)] _ _
    refine LWp.sim (e := [(7, .isl 3 (v3.1.map e_TextEdit) false), (8, .isl 3 (v3.2.1.map e_TextEdit) false), (9, .int .i64 v3.2.2), (10, .int .i64 v6), (11, .val (.slice none 0 0)), (12, .val (.slice none 0 0)), (14, .isl 2 (v8.map e_TracedByte) false), (15, .isl 3 (v10.1.map e_TextEdit) false), (16, .bool v10.2), (17, .isl 3 (v12.1.map e_TextEdit) false), (18, .bool v12.2)]) (L := []) (n := 0) ?_ ?_
    · exact simI (M := []) rfl (And.intro (Vw.same _ rfl) (And.intro (Vw.same _ rfl) (And.intro (Vw.same _ rfl) (And.intro (Vw.same _ rfl) (And.intro (Vw.same _ rfl) (And.intro (Vw.same _ rfl) (And.intro (Vw.same _ rfl) (And.intro (Vw.same _ rfl) (And.intro (Vw.same _ rfl) (And.intro (Vw.same _ rfl) (And.intro (Vw.same _ rfl) trivial))))))))))) trivial
    refine seqI ?_
    refine regI ?_
    refine And.intro (fun hp => hp) ?_
    show yops _ _ _ [(78, .cnd ((decide (((v8.map e_TracedByte).length : Int) > 2000)) == false) (.bool (!v10.2))), (77, .cnd ((decide (((v8.map e_TracedByte).length : Int) > 2000)) == false) (.bool v10.2)), (76, .bool (decide (((v8.map e_TracedByte).length : Int) > 2000))), (75, .bool (decide (((v8.map e_TracedByte).length : Int) > 2000))), (74, .int .i64 ((v8.map e_TracedByte).length : Int)), (73, .isl 2 (v8.map e_TracedByte) false), (7, .isl 3 (v3.1.map e_TextEdit) false), (8, .isl 3 (v3.2.1.map e_TextEdit) false), (9, .int .i64 v3.2.2), (10, .int .i64 v6), (11, .val (.slice none 0 0)), (12, .val (.slice none 0 0)), (14, .isl 2 (v8.map e_TracedByte) false), (15, .isl 3 (v10.1.map e_TextEdit) false), (16, .bool v10.2), (17, .isl 3 (v12.1.map e_TextEdit) false), (18, .bool v12.2)] _ _
    refine And.intro (fun hc => (bqf hc)) ?_
    refine And.intro (fun hp => hp) ?_
    refine And.intro (fun hc => (bqf hc)) ?_
    show yops _ _ _ [(83, .bool (((decide (((v8.map e_TracedByte).length : Int) > 2000)) || (!v10.2)) || (!v12.2))), (82, .cnd (((decide (((v8.map e_TracedByte).length : Int) > 2000)) || (!v10.2)) == false) (.bool (!v12.2))), (81, .cnd (((decide (((v8.map e_TracedByte).length : Int) > 2000)) || (!v10.2)) == false) (.bool v12.2)), (80, .bool ((decide (((v8.map e_TracedByte).length : Int) > 2000)) || (!v10.2))), (79, .bool ((decide (((v8.map e_TracedByte).length : Int) > 2000)) || (!v10.2))), (78, .cnd ((decide (((v8.map e_TracedByte).length : Int) > 2000)) == false) (.bool (!v10.2))), (77, .cnd ((decide (((v8.map e_TracedByte).length : Int) > 2000)) == false) (.bool v10.2)), (76, .bool (decide (((v8.map e_TracedByte).length : Int) > 2000))), (75, .bool (decide (((v8.map e_TracedByte).length : Int) > 2000))), (74, .int .i64 ((v8.map e_TracedByte).length : Int)), (73, .isl 2 (v8.map e_TracedByte) false), (7, .isl 3 (v3.1.map e_TextEdit) false), (8, .isl 3 (v3.2.1.map e_TextEdit) false), (9, .int .i64 v3.2.2), (10, .int .i64 v6), (11, .val (.slice none 0 0)), (12, .val (.slice none 0 0)), (14, .isl 2 (v8.map e_TracedByte) false), (15, .isl 3 (v10.1.map e_TextEdit) false), (16, .bool v10.2), (17, .isl 3 (v12.1.map e_TextEdit) false), (18, .bool v12.2)] _ _
    refine LWp.sim (e := [(7, .isl 3 (v3.1.map e_TextEdit) false), (8, .isl 3 (v3.2.1.map e_TextEdit) false), (9, .int .i64 v3.2.2), (10, .int .i64 v6), (11, .val (.slice none 0 0)), (12, .val (.slice none 0 0)), (15, .isl 3 (v10.1.map e_TextEdit) false), (17, .isl 3 (v12.1.map e_TextEdit) false), (83, .bool (((decide (((v8.map e_TracedByte).length : Int) > 2000)) || (!v10.2)) || (!v12.2)))]) (L := []) (n := 0) ?_ ?_
    · exact simI (M := []) rfl (And.intro (Vw.same _ rfl) (And.intro (Vw.same _ rfl) (And.intro (Vw.same _ rfl) (And.intro (Vw.same _ rfl) (And.intro (Vw.same _ rfl) (And.intro (Vw.same _ rfl) (And.intro (Vw.same _ rfl) (And.intro (Vw.same _ rfl) (And.intro (Vw.same _ rfl) trivial))))))))) trivial
    refine condI (v := (((decide (((v8.map e_TracedByte).length : Int) > 2000)) || (!v10.2)) || (!v12.2))) rfl trivial (fun h16 => ?_) (fun h16 => ?_)
    · have h := ite_tt h16 h
      refine regI ?_
      refine LWp.sim ?_ (f5_j3_ok h)
      exact simI (M := []) rfl (And.intro (Vw.same _ rfl) (And.intro (Vw.same _ rfl) (And.intro (Vw.same _ rfl) (And.intro (Vw.same _ rfl) (And.intro (Vw.nilI _ _) (And.intro (Vw.nilI _ _) trivial)))))) trivial
    · have h := ite_ff h16 h
      refine regI ?_
      refine LWp.sim ?_ (f5_j3_ok h)
      exact simI (M := []) rfl (And.intro (Vw.same _ rfl) (And.intro (Vw.same _ rfl) (And.intro (Vw.same _ rfl) (And.intro (Vw.same _ rfl) (And.intro (Vw.same _ rfl) (And.intro (Vw.same _ rfl) trivial)))))) trivial
  · have h := ite_ff h9 h
    refine skipI ?_
    refine LWp.sim ?_ (f5_j3_ok h)
    exact simI (M := []) rfl (And.intro (Vw.same _ rfl) (And.intro (Vw.same _ rfl) (And.intro (Vw.same _ rfl) (And.intro (Vw.same _ rfl) (And.intro (Vw.nilI _ _) (And.intro (Vw.nilI _ _) trivial)))))) trivial

noncomputable def S_glossatorlaw4_TexteditTransformEqualsReference_j1 (m : Option Nat) (a1 : List G_TextEdit) (a2 : List G_TextEdit) (v2 : List UInt8) : Option Bool :=
  (S_textedit_Transform m v2 a1 a2).bind fun v3 =>
  (S_glossatorref4_ValidateEdits m v2 a1).bind fun v4 =>
  if (v4 == 0) = true then
    (S_glossatorref4_ValidateEdits m v2 a2).bind fun v5 =>
    S_glossatorlaw4_TexteditTransformEqualsReference_j2 m a1 a2 v2 v3 v5
  else
    S_glossatorlaw4_TexteditTransformEqualsReference_j2 m a1 a2 v2 v3 v4

theorem f5_j1_ok {a0 : List UInt8} {a1 : List G_TextEdit} {a2 : List G_TextEdit} {v2 : List UInt8} {m : Option Nat} {o : Bool} (h : S_glossatorlaw4_TexteditTransformEqualsReference_j1 m a1 a2 v2 = some o) :
    LWp Try.prog f5_lay 0 f5_c2 (f5_Q a0 a1 a2 o) [(0, .str v2), (1, .isl 3 (a1.map e_TextEdit) false), (2, .isl 3 (a2.map e_TextEdit) false)] [] 0 := by
  unfold S_glossatorlaw4_TexteditTransformEqualsReference_j1 at h
  refine seqI ?_
  refine regI ?_
  obtain ⟨v3, h5, h⟩ := bind_some h
  refine PFn.call (f16_ok h5) (And.intro (Vw.same _ rfl) (And.intro (Vw.same _ rfl) (And.intro (Vw.same _ rfl) trivial))) ?_
  refine LWp.sim (e := [(0, .str v2), (1, .isl 3 (a1.map e_TextEdit) false), (2, .isl 3 (a2.map e_TextEdit) false), (7, .isl 3 (v3.1.map e_TextEdit) false), (8, .isl 3 (v3.2.1.map e_TextEdit) false), (9, .int .i64 v3.2.2)]) (L := []) (n := 0) ?_ ?_
  · exact simI (M := []) rfl (And.intro (Vw.same _ rfl) (And.intro (Vw.same _ rfl) (And.intro (Vw.same _ rfl) (And.intro (Vw.same _ rfl) (And.intro (Vw.same _ rfl) (And.intro (Vw.same _ rfl) trivial)))))) trivial
  refine seqI ?_
  refine regI ?_
  obtain ⟨v4, h6, h⟩ := bind_some h
  refine PFn.call (f9_ok h6) (And.intro (Vw.same _ rfl) (And.intro (Vw.same _ rfl) trivial)) ?_
  refine seqI ?_
  refine seqI ?_
  refine regI ?_
  refine condI (v := (v4 == 0)) rfl trivial (fun h7 => ?_) (fun h7 => ?_)
  · have h := ite_tt h7 h
    refine regI ?_
    obtain ⟨v5, h8, h⟩ := bind_some h
    refine PFn.call (f9_ok h8) (And.intro (Vw.same _ rfl) (And.intro (Vw.same _ rfl) trivial)) ?_
    show yops _ _ _ [(44, .int .i64 v5), (43, .isl 3 (a2.map e_TextEdit) false), (42, .str v2), (41, .bool (v4 == 0)), (40, .int .i64 v4), (10, .int .i64 v4), (39, .int .i64 v4), (38, .isl 3 (a1.map e_TextEdit) false), (37, .str v2), (0, .str v2), (1, .isl 3 (a1.map e_TextEdit) false), (2, .isl 3 (a2.map e_TextEdit) false), (7, .isl 3 (v3.1.map e_TextEdit) false), (8, .isl 3 (v3.2.1.map e_TextEdit) false), (9, .int .i64 v3.2.2)] _ _
    refine LWp.sim ?_ (f5_j2_ok h)
    exact simI (M := []) rfl (And.intro (Vw.same _ rfl) (And.intro (Vw.same _ rfl) (And.intro (Vw.same _ rfl) (And.intro (Vw.same _ rfl) (And.intro (Vw.same _ rfl) (And.intro (Vw.same _ rfl) (And.intro (Vw.same _ rfl) trivial))))))) trivial
  · have h := ite_ff h7 h
    refine skipI ?_
    refine LWp.sim ?_ (f5_j2_ok h)
    exact simI (M := []) rfl (And.intro (Vw.same _ rfl) (And.intro (Vw.same _ rfl) (And.intro (Vw.same _ rfl) (And.intro (Vw.same _ rfl) (And.intro (Vw.same _ rfl) (And.intro (Vw.same _ rfl) (And.intro (Vw.same _ rfl) trivial))))))) trivial

noncomputable def S_glossatorlaw4_TexteditTransformEqualsReference (m : Option Nat) (a0 : List UInt8) (a1 : List G_TextEdit) (a2 : List G_TextEdit) : Option Bool :=
  (S_glossatorlaw4_texteditExamples (some 4096)).bind fun v1 =>
  if (!v1) = true then
    some false
  else
    if (decide ((a0.length : Int) ≤ 2000)) = true then
      if (0 : Int) ≤ (if 300 < (a0.length : Int) then 300 else (a0.length : Int)) ∧ (if 300 < (a0.length : Int) then 300 else (a0.length : Int)) ≤ (a0.length : Int) then
      S_glossatorlaw4_TexteditTransformEqualsReference_j1 m a1 a2 ((a0.take (if 300 < (a0.length : Int) then 300 else (a0.length : Int)).toNat).drop 0)
      else none
    else
      S_glossatorlaw4_TexteditTransformEqualsReference_j1 m a1 a2 a0

theorem f5_start {a0 : List UInt8} {a1 : List G_TextEdit} {a2 : List G_TextEdit} {m : Option Nat} {o : Bool} (h : S_glossatorlaw4_TexteditTransformEqualsReference m a0 a1 a2 = some o) : LWp Try.prog f5_lay 0 f5_c3 (f5_Q a0 a1 a2 o) (initEnv 0 [.str a0, .isl 3 (a1.map e_TextEdit) false, .isl 3 (a2.map e_TextEdit) false]) [] 0 := by
  unfold S_glossatorlaw4_TexteditTransformEqualsReference at h
  refine seqI ?_
  refine regI ?_
  refine seqI ?_
  refine seqI ?_
  refine regI ?_
  obtain ⟨v1, h1, h⟩ := bind_some h
  refine PFn.call (f6_ok h1) trivial ?_
  refine condI (v := (!v1)) rfl trivial (fun h2 => ?_) (fun h2 => ?_)
  · have h := ite_tt h2 h
    refine seqI ?_
    refine regI ?_
    refine retI ?_
    cases h
    exact And.intro trivial (And.intro rfl (Vw.same _ rfl))
  · have h := ite_ff h2 h
    refine skipI ?_
    refine seqI ?_
    refine seqI ?_
    refine regI ?_
    refine condI (v := (decide ((a0.length : Int) ≤ 2000))) rfl trivial (fun h3 => ?_) (fun h3 => ?_)
    · have h := ite_tt h3 h
      refine regI ?_
      obtain ⟨h4, h⟩ := ite_some h
      refine And.intro (And.intro (Int.le_refl _) h4) ?_
      show yops _ _ _ [(28, .str ((a0.take (if 300 < (a0.length : Int) then 300 else (a0.length : Int)).toNat).drop 0)), (27, .int .i64 (if 300 < (a0.length : Int) then 300 else (a0.length : Int))), (26, .int .i64 (a0.length : Int)), (25, .str a0), (24, .str a0), (23, .bool (decide ((a0.length : Int) ≤ 2000))), (22, .int .i64 (a0.length : Int)), (21, .str a0), (20, .bool (!v1)), (19, .bool v1), (6, .bool false), (0, .str a0), (1, .isl 3 (a1.map e_TextEdit) false), (2, .isl 3 (a2.map e_TextEdit) false)] _ _
      refine LWp.sim ?_ (f5_j1_ok h)
      exact simI (M := []) rfl (And.intro (Vw.same _ rfl) (And.intro (Vw.same _ rfl) (And.intro (Vw.same _ rfl) trivial))) trivial
    · have h := ite_ff h3 h
      refine skipI ?_
      refine LWp.sim ?_ (f5_j1_ok h)
      exact simI (M := []) rfl (And.intro (Vw.same _ rfl) (And.intro (Vw.same _ rfl) (And.intro (Vw.same _ rfl) trivial))) trivial

theorem f5_ok {a0 : List UInt8} {a1 : List G_TextEdit} {a2 : List G_TextEdit} {m : Option Nat} {o : Bool} (h : S_glossatorlaw4_TexteditTransformEqualsReference m a0 a1 a2 = some o) : PFn Try.prog 5 [.str a0, .isl 3 (a1.map e_TextEdit) false, .isl 3 (a2.map e_TextEdit) false] (.bool o) := PFn.ofFnW (L := f5_L) f5_low f5_fok (Nat.le_of_ble_eq_true rfl) rfl (f5_start h)
end Go.Proofs.Ytnmhihopnidbcaa
