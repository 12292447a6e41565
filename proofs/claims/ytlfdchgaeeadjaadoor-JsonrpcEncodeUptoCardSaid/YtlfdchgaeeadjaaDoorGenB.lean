/-
  Own text GenB of this claim: what functions of the given program compute, in plain Lean, and the proof; no condition.
-/
import Derived.Test.YtlfdchgaeeadjaaDoorGenA
namespace Go.Proofs.YtlfdchgaeeadjaaDoor
open Go.Fx
set_option linter.unusedVariables false
def z1x : LCode := (.seq (.region [⟨some 107, .bin .lss (.t 106) (.t 105), none⟩])
 (.seq (.cond (.t 107)
  .skip
  (.exit 0))
 (.seq (.block 1
  (.seq (.region [⟨some 108, .iaddr 1 (.t 104) (.t 106), none⟩,
   ⟨some 109, .load false 1 (.t 108), none⟩,
   ⟨some 6, .mv (.t 109), none⟩])
  (.region [⟨some 110, .mv (.t 4), none⟩,
   ⟨some 111, .mv (.t 110), none⟩,
   ⟨some 112, .mv (.t 6), some (111, true)⟩,
   ⟨some 113, .call 62 [(.t 112)], some (111, true)⟩,
   ⟨some 114, .pick (.t 111) (.t 113) (.c (.bool false)), none⟩,
   ⟨some 4, .mv (.t 114), none⟩])))
 (.region [⟨some 115, .bin .add (.t 106) (.c (.int .i64 1)), none⟩,
  ⟨some 106, .mv (.t 115), none⟩]))))
def z2m : LCode := (.seq (.region [⟨some 122, .bin .lss (.t 121) (.t 120), none⟩])
 (.seq (.cond (.t 122)
  .skip
  (.exit 2))
 (.seq (.block 3
  (.seq (.region [⟨some 123, .iaddr 5 (.t 119) (.t 121), none⟩,
   ⟨some 124, .load true 5 (.t 123), none⟩,
   ⟨some 8, .alloc [(.int .i64 0), (.int .i64 0), (.str []), (.isl 1 [] true), (.isl 5 [] true)], none⟩,
   ⟨none, .store 5 (.t 8) (.t 124), none⟩])
  (.seq (.region [⟨some 125, .load true 5 (.t 8), none⟩,
   ⟨some 126, .call 38 [(.t 125)], none⟩,
   ⟨some 9, .mv (.t 126), none⟩])
  (.seq (.region [⟨some 127, .mv (.t 9), none⟩,
   ⟨some 128, .bin .neq (.t 127) (.c (.int .i64 0)), none⟩])
  (.cond (.t 128)
   (.seq (.region [⟨some 129, .mv (.t 9), none⟩,
    ⟨some 2, .mv (.t 129), none⟩])
   .ret)
   .skip)))))
 (.region [⟨some 130, .bin .add (.t 121) (.c (.int .i64 1)), none⟩,
  ⟨some 121, .mv (.t 130), none⟩]))))
def V5 : LCode := (.seq (.region [⟨some 2, .mv (.c (.int .i64 0)), none⟩])
 .ret)
def V1 : LCode := (.seq (.seq (.region [⟨some 116, .mv (.t 4), none⟩,
 ⟨some 117, .un .not (.t 116), none⟩])
 (.cond (.t 117)
  (.seq (.region [⟨some 2, .mv (.c (.int .i64 3)), none⟩])
  .ret)
  .skip))
 (.seq (.seq (.region [⟨some 118, .faddr 4 (.t 1), none⟩,
  ⟨some 119, .load false 1 (.t 118), none⟩,
  ⟨some 120, .len false (.t 119), none⟩,
  ⟨some 121, .mv (.c (.int .i64 0)), none⟩])
 (.block 2
  (.loop
   z2m)))
 V5))
def z8s : LCode := (.seq (.seq (.region [⟨some 103, .faddr 3 (.t 1), none⟩,
 ⟨some 104, .load false 1 (.t 103), none⟩,
 ⟨some 105, .len false (.t 104), none⟩,
 ⟨some 106, .mv (.c (.int .i64 0)), none⟩])
 (.block 0
  (.loop
   z1x)))
 V1)
def z9y : LCode := (.seq (.region [⟨some 1, .box (.t 0), none⟩,
 ⟨some 2, .mv (.c (.int .i64 0)), none⟩])
 (.seq (.seq (.region [⟨some 10, .faddr 0 (.t 1), none⟩,
  ⟨some 11, .load false 1 (.t 10), none⟩,
  ⟨some 12, .bin .lss (.t 11) (.c (.int .i64 0)), none⟩,
  ⟨some 13, .mv (.t 12), none⟩,
  ⟨some 14, .faddr 0 (.t 1), some (13, false)⟩,
  ⟨some 15, .load false 1 (.t 14), some (13, false)⟩,
  ⟨some 16, .bin .gtr (.t 15) (.c (.int .i64 5)), some (13, false)⟩,
  ⟨some 17, .pick (.t 13) (.c (.bool true)) (.t 16), none⟩])
 (.cond (.t 17)
  (.seq (.region [⟨some 2, .mv (.c (.int .i64 7)), none⟩])
  .ret)
  .skip))
 (.seq (.region [⟨some 3, .mv (.c (.int .i64 9007199254740991)), none⟩])
 (.seq (.region [⟨some 18, .faddr 1 (.t 1), none⟩,
  ⟨some 19, .load false 1 (.t 18), none⟩,
  ⟨some 20, .bin .eql (.t 19) (.c (.int .i64 0)), none⟩,
  ⟨some 21, .mv (.t 20), none⟩,
  ⟨some 22, .faddr 0 (.t 1), some (21, false)⟩,
  ⟨some 23, .load false 1 (.t 22), some (21, false)⟩,
  ⟨some 24, .bin .eql (.t 23) (.c (.int .i64 1)), some (21, false)⟩,
  ⟨some 25, .mv (.t 24), some (21, false)⟩,
  ⟨some 26, .faddr 1 (.t 1), some (25, true)⟩,
  ⟨some 27, .load false 1 (.t 26), some (25, true)⟩,
  ⟨some 28, .bin .eql (.t 27) (.c (.int .i64 1)), some (25, true)⟩,
  ⟨some 29, .pick (.t 25) (.t 28) (.c (.bool false)), some (21, false)⟩,
  ⟨some 30, .pick (.t 21) (.c (.bool true)) (.t 29), none⟩,
  ⟨some 31, .mv (.t 30), none⟩,
  ⟨some 32, .faddr 0 (.t 1), some (31, false)⟩,
  ⟨some 33, .load false 1 (.t 32), some (31, false)⟩,
  ⟨some 34, .bin .eql (.t 33) (.c (.int .i64 2)), some (31, false)⟩,
  ⟨some 35, .mv (.t 34), some (31, false)⟩,
  ⟨some 36, .mv (.t 3), some (35, true)⟩,
  ⟨some 37, .un .neg (.t 36), some (35, true)⟩,
  ⟨some 38, .faddr 1 (.t 1), some (35, true)⟩,
  ⟨some 39, .load false 1 (.t 38), some (35, true)⟩,
  ⟨some 40, .bin .leq (.t 37) (.t 39), some (35, true)⟩,
  ⟨some 41, .pick (.t 35) (.t 40) (.c (.bool false)), some (31, false)⟩,
  ⟨some 42, .mv (.t 41), some (31, false)⟩,
  ⟨some 43, .faddr 1 (.t 1), some (42, true)⟩,
  ⟨some 44, .load false 1 (.t 43), some (42, true)⟩,
  ⟨some 45, .mv (.t 3), some (42, true)⟩,
  ⟨some 46, .bin .leq (.t 44) (.t 45), some (42, true)⟩,
  ⟨some 47, .pick (.t 42) (.t 46) (.c (.bool false)), some (31, false)⟩,
  ⟨some 48, .pick (.t 31) (.c (.bool true)) (.t 47), none⟩,
  ⟨some 4, .mv (.t 48), none⟩])
 (.seq (.region [⟨some 49, .mv (.t 4), none⟩,
  ⟨some 50, .mv (.t 49), none⟩,
  ⟨some 51, .faddr 2 (.t 1), some (50, true)⟩,
  ⟨some 52, .load false 1 (.t 51), some (50, true)⟩,
  ⟨some 53, .bin .eql (.t 52) (.c (.str [])), some (50, true)⟩,
  ⟨some 54, .mv (.t 53), some (50, true)⟩,
  ⟨some 55, .faddr 0 (.t 1), some (54, false)⟩,
  ⟨some 56, .load false 1 (.t 55), some (54, false)⟩,
  ⟨some 57, .bin .eql (.t 56) (.c (.int .i64 3)), some (54, false)⟩,
  ⟨some 58, .mv (.t 57), some (54, false)⟩,
  ⟨some 59, .faddr 2 (.t 1), some (58, true)⟩,
  ⟨some 60, .load false 1 (.t 59), some (58, true)⟩,
  ⟨some 61, .call 62 [(.t 60)], some (58, true)⟩,
  ⟨some 62, .pick (.t 58) (.t 61) (.c (.bool false)), some (54, false)⟩,
  ⟨some 63, .pick (.t 54) (.c (.bool true)) (.t 62), some (50, true)⟩,
  ⟨some 64, .pick (.t 50) (.t 63) (.c (.bool false)), none⟩,
  ⟨some 4, .mv (.t 64), none⟩])
 (.seq (.region [⟨some 65, .mv (.t 4), none⟩,
  ⟨some 66, .mv (.t 65), none⟩,
  ⟨some 67, .faddr 4 (.t 1), some (66, true)⟩,
  ⟨some 68, .load false 1 (.t 67), some (66, true)⟩,
  ⟨some 69, .len false (.t 68), some (66, true)⟩,
  ⟨some 70, .bin .eql (.t 69) (.c (.int .i64 0)), some (66, true)⟩,
  ⟨some 71, .mv (.t 70), some (66, true)⟩,
  ⟨some 72, .faddr 0 (.t 1), some (71, false)⟩,
  ⟨some 73, .load false 1 (.t 72), some (71, false)⟩,
  ⟨some 74, .bin .geq (.t 73) (.c (.int .i64 4)), some (71, false)⟩,
  ⟨some 75, .pick (.t 71) (.c (.bool true)) (.t 74), some (66, true)⟩,
  ⟨some 76, .pick (.t 66) (.t 75) (.c (.bool false)), none⟩,
  ⟨some 4, .mv (.t 76), none⟩])
 (.seq (.seq (.region [⟨some 77, .faddr 0 (.t 1), none⟩,
  ⟨some 78, .load false 1 (.t 77), none⟩,
  ⟨some 79, .bin .eql (.t 78) (.c (.int .i64 5)), none⟩])
 (.cond (.t 79)
  (.region [⟨some 80, .mv (.t 4), none⟩,
   ⟨some 81, .mv (.t 80), none⟩,
   ⟨some 82, .faddr 3 (.t 1), some (81, true)⟩,
   ⟨some 83, .load false 1 (.t 82), some (81, true)⟩,
   ⟨some 84, .len false (.t 83), some (81, true)⟩,
   ⟨some 85, .faddr 4 (.t 1), some (81, true)⟩,
   ⟨some 86, .load false 1 (.t 85), some (81, true)⟩,
   ⟨some 87, .len false (.t 86), some (81, true)⟩,
   ⟨some 88, .bin .eql (.t 84) (.t 87), some (81, true)⟩,
   ⟨some 89, .pick (.t 81) (.t 88) (.c (.bool false)), none⟩,
   ⟨some 90, .mv (.t 89), none⟩,
   ⟨some 91, .faddr 3 (.t 1), some (90, true)⟩,
   ⟨some 92, .load false 1 (.t 91), some (90, true)⟩,
   ⟨some 93, .call 63 [(.t 92)], some (90, true)⟩,
   ⟨some 94, .un .not (.t 93), some (90, true)⟩,
   ⟨some 95, .pick (.t 90) (.t 94) (.c (.bool false)), none⟩,
   ⟨some 4, .mv (.t 95), none⟩])
  (.region [⟨some 96, .mv (.t 4), none⟩,
   ⟨some 97, .mv (.t 96), none⟩,
   ⟨some 98, .faddr 3 (.t 1), some (97, true)⟩,
   ⟨some 99, .load false 1 (.t 98), some (97, true)⟩,
   ⟨some 100, .len false (.t 99), some (97, true)⟩,
   ⟨some 101, .bin .eql (.t 100) (.c (.int .i64 0)), some (97, true)⟩,
   ⟨some 102, .pick (.t 97) (.t 101) (.c (.bool false)), none⟩,
   ⟨some 4, .mv (.t 102), none⟩])))
 z8s)))))))
def wn : Lay := ⟨131, [], false⟩
def z55 : List LRes := [.t 2]
def zcl : LFn := ⟨1, wn, z9y, z55⟩
theorem ze5 : w8 Tryd.prog [] 38 = some zcl := by kernel_rfl
theorem zeh : uf Tryd.prog 38 := ⟨_, Tryd.func38, rfl, rfl⟩
def Q0 (a0 : G_QJSON) (o : Int) : Exit → Env → AHeap → Nat → Prop := Zy z55 (W3 3 3 (.int .i64 o) [])
def W9 (a0 : G_QJSON) (s : (Bool × Int)) : Env := [(1, .ptr (3, 0) 0 0), (4, .bool s.1), (104, .isl 1 (a0.f_Names.map z6) false), (105, .int .i64 ((a0.f_Names.map z6).length : Int)), (106, .int .i64 s.2)]
def U2 (a0 : G_QJSON) (s : (Bool × Int)) : AHeap := [((3, 0), .one [.int .i64 a0.f_Kind, .int .i64 a0.f_Num, .str a0.f_Text, .isl 1 (a0.f_Names.map z6) false, .isl 5 (a0.f_Elems.map z7) false])]
def z10 (a0 : G_QJSON) (o : Int) : Exit → Env → AHeap → Nat → Prop := (xy 0 (X3 Tryd.prog wn 3 V1 (Q0 a0 o)))
noncomputable def j4 (rec5 : G_QJSON → Option Int) (m : Option Nat) : Option Int :=
 some 0
noncomputable def qz (rec5 : G_QJSON → Option Int) (m : Option Nat) (a0 : G_QJSON) (v11 : Int) : Option (Int ⊕ Int) :=
 if (decide (v11 < ((a0.f_Elems.map z7).length : Int))) = true then
  if (0 : Int) ≤ v11 ∧ v11 < ((a0.f_Elems.map z7).length : Int) then
  ((kz (a0.f_Elems.getD v11.toNat default))).bind fun v14 =>
  (rec5 v14).bind fun v15 =>
  if (v15 != 0) = true then
   Option.map Sum.inr (
    some v15)
  else
   some (.inl (W (v11 + 1)))
  else none
 else
  Option.map Sum.inr (
   j4 rec5 m)
noncomputable def w9 (rec5 : G_QJSON → Option Int) (m : Option Nat) (a0 : G_QJSON) (v11 : Int) : Option Int := Zc m (fun (s : Int) => qz rec5 m a0 s) v11
noncomputable def y6 (rec5 : G_QJSON → Option Int) (m : Option Nat) (a0 : G_QJSON) (v5 : Bool) : Option Int :=
 if (!v5) = true then
  some 3
 else
  w9 rec5 m a0 0
noncomputable def zp (rec5 : G_QJSON → Option Int) (m : Option Nat) (a0 : G_QJSON) (v5 : Bool) (v6 : Int) : Option ((Bool × Int) ⊕ Int) :=
 if (decide (v6 < ((a0.f_Names.map z6).length : Int))) = true then
  if (0 : Int) ≤ v6 ∧ v6 < ((a0.f_Names.map z6).length : Int) then
  (if (v5 == true) = true then yp m (a0.f_Names.getD v6.toNat default) else some default).bind fun v8 =>
  some (.inl ((v5 && v8), (W (v6 + 1))))
  else none
 else
  Option.map Sum.inr (
   y6 rec5 m a0 v5)
noncomputable def q9 (rec5 : G_QJSON → Option Int) (m : Option Nat) (a0 : G_QJSON) (v5 : Bool) (v6 : Int) : Option Int := Zc m (fun (s : (Bool × Int)) => zp rec5 m a0 s.1 s.2) (v5, v6)
def Wc (a0 : G_QJSON) (s : Int) : Env := [(119, .isl 5 (a0.f_Elems.map z7) false), (120, .int .i64 ((a0.f_Elems.map z7).length : Int)), (121, .int .i64 s)]
def Vo (a0 : G_QJSON) (s : Int) : AHeap := []
def z0k (a0 : G_QJSON) (o : Int) : Exit → Env → AHeap → Nat → Prop := (xy 2 (X3 Tryd.prog wn 3 V5 (Q0 a0 o)))
theorem z60 {rec5 : G_QJSON → Option Int} (hrec5 : ∀ {a0 : G_QJSON} {o : Int}, rec5 a0 = some o → ACalls Tryd.prog 38 [.agg [.int .i64 a0.f_Kind, .int .i64 a0.f_Num, .str a0.f_Text, .isl 1 (a0.f_Names.map z6) false, .isl 5 (a0.f_Elems.map z7) false]] [] 3 (xu 3 (.int .i64 o) [])) {a0 : G_QJSON} {m : Option Nat} {o : Int} (h : j4 rec5 m = some o) :
 LWp Tryd.prog wn 3 V5 (Q0 a0 o) [] [] 3 := by
 unfold j4 at h
 refine zb ?_
 refine zj ?_
 refine wg ?_
 cases h
 exact AI TT (z7f (n' := 3) [] [] rfl rfl (VS rfl) TT)
theorem z4d {rec5 : G_QJSON → Option Int} (hrec5 : ∀ {a0 : G_QJSON} {o : Int}, rec5 a0 = some o → ACalls Tryd.prog 38 [.agg [.int .i64 a0.f_Kind, .int .i64 a0.f_Num, .str a0.f_Text, .isl 1 (a0.f_Names.map z6) false, .isl 5 (a0.f_Elems.map z7) false]] [] 3 (xu 3 (.int .i64 o) [])) {a0 : G_QJSON} {v11 : Int} {m : Option Nat} {o : Int ⊕ Int} (h : qz rec5 m a0 v11 = some o) :
 LWp Tryd.prog wn 3 z2m (Zr 3 3 (Wc a0) (Vo a0) (z0k a0) o) [(119, .isl 5 (a0.f_Elems.map z7) false), (120, .int .i64 ((a0.f_Elems.map z7).length : Int)), (121, .int .i64 v11)] [] 3 := by
 unfold qz at h
 refine zb ?_
 refine zj ?_
 refine zb ?_
 refine qr (v := (decide (v11 < ((a0.f_Elems.map z7).length : Int)))) rfl TT (fun h25 => ?_) (fun h25 => ?_)
 ·have h := zk h25 h
  refine ji ?_
  refine zb ?_
  refine je ?_
  refine zb ?_
  refine zj ?_
  obtain ⟨h26, h⟩ := xz h
  refine AI h26 ?_
  obtain ⟨v14, h27, h⟩ := bind_some h
  refine EX (y8 v14) (AI (wo (kn z7 h26) h27) (AI (AI (Zh h26) (NB rfl)) ?_))
  refine zb ?_
  refine zj ?_
  obtain ⟨v15, h28, h⟩ := bind_some h
  refine J4 (k := 3) (m := 0) (L' := []) (rest := [((3, 0), .one [.int .i64 v14.f_Kind, .int .i64 v14.f_Num, .str v14.f_Text, .isl 1 (v14.f_Names.map z6) false, .isl 5 (v14.f_Elems.map z7) false])]) (R' := .int .i64 v15) [] (hrec5 h28) rfl rfl rfl (AI (VS rfl) TT) TT (wz _ rfl) TT rfl ?_
  refine LWp.sim (e := [(9, .int .i64 v15), (119, .isl 5 (a0.f_Elems.map z7) false), (120, .int .i64 ((a0.f_Elems.map z7).length : Int)), (121, .int .i64 v11)]) (L := []) (n := 3) ?_ ?_
  ·exact xa (M := []) rfl (AI (VS rfl) (AI (VS rfl) (AI (VS rfl) (AI (VS rfl) TT)))) TT
  refine zb ?_
  refine zj ?_
  refine qr (v := (v15 != 0)) rfl TT (fun h29 => ?_) (fun h29 => ?_)
  ·have h := zk h29 h
   refine zb ?_
   refine zj ?_
   refine wg ?_
   obtain ⟨o, hq, rfl⟩ := Option.map_eq_some_iff.1 h
   replace h := hq; clear hq
   refine AI nofun ?_
   cases h
   exact AI TT (z7f (n' := 3) [] [] rfl rfl (VS rfl) TT)
  ·have h := zw h29 h
   refine ji ?_
   refine zj ?_
   cases h
   exact AI rfl (xa (M := []) rfl (AI (VS rfl) (AI (VS rfl) (AI (VS rfl) TT))) TT)
 ·have h := zw h25 h
  refine Ja ?_
  obtain ⟨o, hq, rfl⟩ := Option.map_eq_some_iff.1 h
  replace h := hq; clear hq
  refine AI nofun ?_
  refine LWp.sim ?_ (z60 hrec5 h)
  exact xa (M := []) rfl TT TT
theorem z73 {rec5 : G_QJSON → Option Int} (hrec5 : ∀ {a0 : G_QJSON} {o : Int}, rec5 a0 = some o → ACalls Tryd.prog 38 [.agg [.int .i64 a0.f_Kind, .int .i64 a0.f_Num, .str a0.f_Text, .isl 1 (a0.f_Names.map z6) false, .isl 5 (a0.f_Elems.map z7) false]] [] 3 (xu 3 (.int .i64 o) [])) {a0 : G_QJSON} {v11 : Int} {m : Option Nat} {o : Int} (h : w9 rec5 m a0 v11 = some o) :
 LWp Tryd.prog wn 3 (.loop z2m) (xy 2 (X3 Tryd.prog wn 3 V5 (Q0 a0 o))) [(119, .isl 5 (a0.f_Elems.map z7) false), (120, .int .i64 ((a0.f_Elems.map z7).length : Int)), (121, .int .i64 v11)] [] 3 :=
 w7 (m := m) (s := (v11 : Int)) (r := o) (fun (s : Int) => qz rec5 m a0 s) (Wc a0) (Vo a0) (z0k a0) (fun s o h => z4d hrec5 h) h
theorem z7u {rec5 : G_QJSON → Option Int} (hrec5 : ∀ {a0 : G_QJSON} {o : Int}, rec5 a0 = some o → ACalls Tryd.prog 38 [.agg [.int .i64 a0.f_Kind, .int .i64 a0.f_Num, .str a0.f_Text, .isl 1 (a0.f_Names.map z6) false, .isl 5 (a0.f_Elems.map z7) false]] [] 3 (xu 3 (.int .i64 o) [])) {a0 : G_QJSON} {v5 : Bool} {m : Option Nat} {o : Int} (h : y6 rec5 m a0 v5 = some o) :
 LWp Tryd.prog wn 3 V1 (Q0 a0 o) [(1, .ptr (3, 0) 0 0), (4, .bool v5)] [((3, 0), .one [.int .i64 a0.f_Kind, .int .i64 a0.f_Num, .str a0.f_Text, .isl 1 (a0.f_Names.map z6) false, .isl 5 (a0.f_Elems.map z7) false])] 4 := by
 unfold y6 at h
 refine zb ?_
 refine zb ?_
 refine zj ?_
 refine qr (v := (!v5)) rfl TT (fun h14 => ?_) (fun h14 => ?_)
 ·have h := zk h14 h
  refine zb ?_
  refine zj ?_
  refine wg ?_
  cases h
  exact AI TT (z7f (n' := 4) [] [] rfl rfl (VS rfl) TT)
 ·have h := zw h14 h
  refine ji ?_
  refine zb ?_
  refine zb ?_
  refine zj ?_
  refine je ?_
  refine LWp.sim ?_ (z73 hrec5 h)
  exact xa (M := []) rfl (AI (VS rfl) (AI (VS rfl) (AI (VS rfl) TT))) TT
theorem z4o {rec5 : G_QJSON → Option Int} (hrec5 : ∀ {a0 : G_QJSON} {o : Int}, rec5 a0 = some o → ACalls Tryd.prog 38 [.agg [.int .i64 a0.f_Kind, .int .i64 a0.f_Num, .str a0.f_Text, .isl 1 (a0.f_Names.map z6) false, .isl 5 (a0.f_Elems.map z7) false]] [] 3 (xu 3 (.int .i64 o) [])) {a0 : G_QJSON} {v5 : Bool} {v6 : Int} {m : Option Nat} {o : (Bool × Int) ⊕ Int} (h : zp rec5 m a0 v5 v6 = some o) :
 LWp Tryd.prog wn 3 z1x (Zr 3 4 (W9 a0) (U2 a0) (z10 a0) o) [(1, .ptr (3, 0) 0 0), (4, .bool v5), (104, .isl 1 (a0.f_Names.map z6) false), (105, .int .i64 ((a0.f_Names.map z6).length : Int)), (106, .int .i64 v6)] [((3, 0), .one [.int .i64 a0.f_Kind, .int .i64 a0.f_Num, .str a0.f_Text, .isl 1 (a0.f_Names.map z6) false, .isl 5 (a0.f_Elems.map z7) false])] 4 := by
 unfold zp at h
 refine zb ?_
 refine zj ?_
 refine zb ?_
 refine qr (v := (decide (v6 < ((a0.f_Names.map z6).length : Int)))) rfl TT (fun h11 => ?_) (fun h11 => ?_)
 ·have h := zk h11 h
  refine ji ?_
  refine zb ?_
  refine je ?_
  refine zb ?_
  refine zj ?_
  obtain ⟨h12, h⟩ := xz h
  refine AI h12 ?_
  refine EX (z6 (a0.f_Names.getD v6.toNat default)) (AI (Zf z6 _ _ (kn z6 h12)) (AI (AI (Zh h12) (NB rfl)) ?_))
  refine zj ?_
  obtain ⟨v8, h13, h⟩ := bind_some h
  refine Or.inl (EX (.bool v8) (AI (fun hp => AI hp (PFn.call (zh9 (zk hp h13)) (AI (VS rfl) TT) (AI rfl (AI rfl rfl)))) ?_))
  refine AI (fun hc => (bqt hc)) ?_
  refine LWp.sim (e := [(1, .ptr (3, 0) 0 0), (4, .bool (v5 && v8)), (104, .isl 1 (a0.f_Names.map z6) false), (105, .int .i64 ((a0.f_Names.map z6).length : Int)), (106, .int .i64 v6)]) (L := [((3, 0), .one [.int .i64 a0.f_Kind, .int .i64 a0.f_Num, .str a0.f_Text, .isl 1 (a0.f_Names.map z6) false, .isl 5 (a0.f_Elems.map z7) false])]) (n := 4) ?_ ?_
  ·exact xa (M := [((3, 0), (3, 0))]) rfl (AI (Vw.ptr _ _ _ _ rfl) (AI (VS rfl) (AI (VS rfl) (AI (VS rfl) (AI (VS rfl) TT))))) (AI (AI rfl (BVw.oneL (AI (VS rfl) (AI (VS rfl) (AI (VS rfl) (AI (VS rfl) (AI (VS rfl) TT))))))) TT)
  refine zj ?_
  cases h
  exact AI rfl (xa (M := [((3, 0), (3, 0))]) rfl (AI (Vw.ptr _ _ _ _ rfl) (AI (VS rfl) (AI (VS rfl) (AI (VS rfl) (AI (VS rfl) TT))))) (AI (AI rfl (BVw.oneL (AI (VS rfl) (AI (VS rfl) (AI (VS rfl) (AI (VS rfl) (AI (VS rfl) TT))))))) TT))
 ·have h := zw h11 h
  refine Ja ?_
  obtain ⟨o, hq, rfl⟩ := Option.map_eq_some_iff.1 h
  replace h := hq; clear hq
  refine AI nofun ?_
  refine LWp.sim ?_ (z7u hrec5 h)
  exact xa (M := [((3, 0), (3, 0))]) rfl (AI (Vw.ptr _ _ _ _ rfl) (AI (VS rfl) TT)) (AI (AI rfl (BVw.oneL (AI (VS rfl) (AI (VS rfl) (AI (VS rfl) (AI (VS rfl) (AI (VS rfl) TT))))))) TT)
theorem z6x {rec5 : G_QJSON → Option Int} (hrec5 : ∀ {a0 : G_QJSON} {o : Int}, rec5 a0 = some o → ACalls Tryd.prog 38 [.agg [.int .i64 a0.f_Kind, .int .i64 a0.f_Num, .str a0.f_Text, .isl 1 (a0.f_Names.map z6) false, .isl 5 (a0.f_Elems.map z7) false]] [] 3 (xu 3 (.int .i64 o) [])) {a0 : G_QJSON} {v5 : Bool} {v6 : Int} {m : Option Nat} {o : Int} (h : q9 rec5 m a0 v5 v6 = some o) :
 LWp Tryd.prog wn 3 (.loop z1x) (xy 0 (X3 Tryd.prog wn 3 V1 (Q0 a0 o))) [(1, .ptr (3, 0) 0 0), (4, .bool v5), (104, .isl 1 (a0.f_Names.map z6) false), (105, .int .i64 ((a0.f_Names.map z6).length : Int)), (106, .int .i64 v6)] [((3, 0), .one [.int .i64 a0.f_Kind, .int .i64 a0.f_Num, .str a0.f_Text, .isl 1 (a0.f_Names.map z6) false, .isl 5 (a0.f_Elems.map z7) false])] 4 :=
 w7 (m := m) (s := ((v5, v6) : (Bool × Int))) (r := o) (fun (s : (Bool × Int)) => zp rec5 m a0 s.1 s.2) (W9 a0) (U2 a0) (z10 a0) (fun s o h => z4o hrec5 h) h
noncomputable def zq (rec5 : G_QJSON → Option Int) (m : Option Nat) (a0 : G_QJSON) (v3 : Bool) : Option Int :=
 q9 rec5 m a0 v3 0
theorem Ki {rec5 : G_QJSON → Option Int} (hrec5 : ∀ {a0 : G_QJSON} {o : Int}, rec5 a0 = some o → ACalls Tryd.prog 38 [.agg [.int .i64 a0.f_Kind, .int .i64 a0.f_Num, .str a0.f_Text, .isl 1 (a0.f_Names.map z6) false, .isl 5 (a0.f_Elems.map z7) false]] [] 3 (xu 3 (.int .i64 o) [])) {a0 : G_QJSON} {v3 : Bool} {m : Option Nat} {o : Int} (h : zq rec5 m a0 v3 = some o) :
 LWp Tryd.prog wn 3 z8s (Q0 a0 o) [(1, .ptr (3, 0) 0 0), (4, .bool v3)] [((3, 0), .one [.int .i64 a0.f_Kind, .int .i64 a0.f_Num, .str a0.f_Text, .isl 1 (a0.f_Names.map z6) false, .isl 5 (a0.f_Elems.map z7) false])] 4 := by
 unfold zq at h
 refine zb ?_
 refine zb ?_
 refine zj ?_
 refine je ?_
 refine LWp.sim ?_ (z6x hrec5 h)
 exact xa (M := [((3, 0), (3, 0))]) rfl (AI (Vw.ptr _ _ _ _ rfl) (AI (VS rfl) (AI (VS rfl) (AI (VS rfl) (AI (VS rfl) TT))))) (AI (AI rfl (BVw.oneL (AI (VS rfl) (AI (VS rfl) (AI (VS rfl) (AI (VS rfl) (AI (VS rfl) TT))))))) TT)
noncomputable def zo (rec5 : G_QJSON → Option Int) (m : Option Nat) (a0 : G_QJSON) : Option Int :=
 if ((decide (a0.f_Kind < 0)) || (decide (a0.f_Kind > 5))) = true then
  some 7
 else
  (if ((((((a0.f_Num == 0) || ((a0.f_Kind == 1) && (a0.f_Num == 1))) || (((a0.f_Kind == 2) && (decide ((W (0 - 9007199254740991)) ≤ a0.f_Num))) && (decide (a0.f_Num ≤ 9007199254740991)))) == true) && ((a0.f_Text == ([] : List UInt8)) == false)) && ((a0.f_Kind == 3) == true)) = true then yp m a0.f_Text else some default).bind fun v1 =>
  if (a0.f_Kind == 5) = true then
   (if (((((((a0.f_Num == 0) || ((a0.f_Kind == 1) && (a0.f_Num == 1))) || (((a0.f_Kind == 2) && (decide ((W (0 - 9007199254740991)) ≤ a0.f_Num))) && (decide (a0.f_Num ≤ 9007199254740991)))) && ((a0.f_Text == ([] : List UInt8)) || ((a0.f_Kind == 3) && v1))) && ((((a0.f_Elems.map z7).length : Int) == 0) || (decide (a0.f_Kind ≥ 4)))) && (((a0.f_Names.map z6).length : Int) == ((a0.f_Elems.map z7).length : Int))) == true) = true then xr m a0.f_Names else some default).bind fun v2 =>
   zq rec5 m a0 (((((((a0.f_Num == 0) || ((a0.f_Kind == 1) && (a0.f_Num == 1))) || (((a0.f_Kind == 2) && (decide ((W (0 - 9007199254740991)) ≤ a0.f_Num))) && (decide (a0.f_Num ≤ 9007199254740991)))) && ((a0.f_Text == ([] : List UInt8)) || ((a0.f_Kind == 3) && v1))) && ((((a0.f_Elems.map z7).length : Int) == 0) || (decide (a0.f_Kind ≥ 4)))) && (((a0.f_Names.map z6).length : Int) == ((a0.f_Elems.map z7).length : Int))) && (!v2))
  else
   zq rec5 m a0 ((((((a0.f_Num == 0) || ((a0.f_Kind == 1) && (a0.f_Num == 1))) || (((a0.f_Kind == 2) && (decide ((W (0 - 9007199254740991)) ≤ a0.f_Num))) && (decide (a0.f_Num ≤ 9007199254740991)))) && ((a0.f_Text == ([] : List UInt8)) || ((a0.f_Kind == 3) && v1))) && ((((a0.f_Elems.map z7).length : Int) == 0) || (decide (a0.f_Kind ≥ 4)))) && (((a0.f_Names.map z6).length : Int) == 0))
theorem z5s {rec5 : G_QJSON → Option Int} (hrec5 : ∀ {a0 : G_QJSON} {o : Int}, rec5 a0 = some o → ACalls Tryd.prog 38 [.agg [.int .i64 a0.f_Kind, .int .i64 a0.f_Num, .str a0.f_Text, .isl 1 (a0.f_Names.map z6) false, .isl 5 (a0.f_Elems.map z7) false]] [] 3 (xu 3 (.int .i64 o) [])) {a0 : G_QJSON} {m : Option Nat} {o : Int} (h : zo rec5 m a0 = some o) : LWp Tryd.prog wn 3 z9y (Q0 a0 o) (yx 0 [.agg [.int .i64 a0.f_Kind, .int .i64 a0.f_Num, .str a0.f_Text, .isl 1 (a0.f_Names.map z6) false, .isl 5 (a0.f_Elems.map z7) false]]) [] 3 := by
 unfold zo at h
 refine zb ?_
 refine zj ?_
 refine zb ?_
 refine zb ?_
 refine zj ?_
 refine AI (fun hp => hp) ?_
 refine AI (fun hp => hp) ?_
 refine AI (fun hc => (bqf hc)) ?_
 refine LWp.sim (e := [(1, .ptr (3, 0) 0 0), (17, .bool ((decide (a0.f_Kind < 0)) || (decide (a0.f_Kind > 5))))]) (L := [((3, 0), .one [.int .i64 a0.f_Kind, .int .i64 a0.f_Num, .str a0.f_Text, .isl 1 (a0.f_Names.map z6) false, .isl 5 (a0.f_Elems.map z7) false])]) (n := 4) ?_ ?_
 ·exact xa (M := [((3, 0), (3, 0))]) rfl (AI (Vw.ptr _ _ _ _ rfl) (AI (VS rfl) TT)) (AI (AI rfl (BVw.oneL (AI (VS rfl) (AI (VS rfl) (AI (VS rfl) (AI (VS rfl) (AI (VS rfl) TT))))))) TT)
 refine qr (v := ((decide (a0.f_Kind < 0)) || (decide (a0.f_Kind > 5)))) rfl TT (fun h1 => ?_) (fun h1 => ?_)
 ·have h := zk h1 h
  refine zb ?_
  refine zj ?_
  refine wg ?_
  cases h
  exact AI TT (z7f (n' := 4) [] [] rfl rfl (VS rfl) TT)
 ·have h := zw h1 h
  refine ji ?_
  refine zb ?_
  refine zj ?_
  refine zb ?_
  refine zj ?_
  refine AI (fun hp => hp) ?_
  refine AI (fun hp => hp) ?_
  refine AI (fun hp => hp) ?_
  refine AI (fun hp => hp) ?_
  refine AI (fun hp => hp) ?_
  refine AI (fun hp => (AI hp (fun hc => (z20 hp (bqt hc))))) ?_
  refine AI (fun hc => (bqf hc)) ?_
  refine AI (fun hp => hp) ?_
  refine AI (fun hp => hp) ?_
  refine AI (fun hp => hp) ?_
  refine AI (fun hp => hp) ?_
  refine AI (fun hp => hp) ?_
  refine AI (fun hp => (AI hp hp)) ?_
  refine AI (fun hp => (AI hp (fun hc => (z20 hp (bqt hc))))) ?_
  refine AI (fun hp => hp) ?_
  refine AI (fun hp => hp) ?_
  refine AI (fun hp => (AI hp hp)) ?_
  refine AI (fun hp => (AI hp (fun hc => (z20 hp (bqt hc))))) ?_
  refine AI (fun hc => (bqf hc)) ?_
  refine LWp.sim (e := [(1, .ptr (3, 0) 0 0), (4, .bool (((a0.f_Num == 0) || ((a0.f_Kind == 1) && (a0.f_Num == 1))) || (((a0.f_Kind == 2) && (decide ((W (0 - 9007199254740991)) ≤ a0.f_Num))) && (decide (a0.f_Num ≤ 9007199254740991)))))]) (L := [((3, 0), .one [.int .i64 a0.f_Kind, .int .i64 a0.f_Num, .str a0.f_Text, .isl 1 (a0.f_Names.map z6) false, .isl 5 (a0.f_Elems.map z7) false])]) (n := 4) ?_ ?_
  ·exact xa (M := [((3, 0), (3, 0))]) rfl (AI (Vw.ptr _ _ _ _ rfl) (AI (VS rfl) TT)) (AI (AI rfl (BVw.oneL (AI (VS rfl) (AI (VS rfl) (AI (VS rfl) (AI (VS rfl) (AI (VS rfl) TT))))))) TT)
  refine zb ?_
  refine zj ?_
  refine AI (fun hp => hp) ?_
  refine AI (fun hp => hp) ?_
  refine AI (fun hp => hp) ?_
  refine AI (fun hp => hp) ?_
  refine AI (fun hp => hp) ?_
  refine AI (fun hp => hp) ?_
  refine AI (fun hp => hp) ?_
  obtain ⟨v1, h2, h⟩ := bind_some h
  refine Or.inl (EX (.bool v1) (AI (fun hp => AI hp (PFn.call (zh9 (zk hp h2)) (AI (VS rfl) TT) (AI rfl (AI rfl rfl)))) ?_))
  refine AI (fun hp => (AI hp (fun hc => (z20 hp (bqt hc))))) ?_
  refine AI (fun hp => (AI hp (fun hc => (z20 hp (bqf hc))))) ?_
  refine AI (fun hc => (bqt hc)) ?_
  refine LWp.sim (e := [(1, .ptr (3, 0) 0 0), (4, .bool ((((a0.f_Num == 0) || ((a0.f_Kind == 1) && (a0.f_Num == 1))) || (((a0.f_Kind == 2) && (decide ((W (0 - 9007199254740991)) ≤ a0.f_Num))) && (decide (a0.f_Num ≤ 9007199254740991)))) && ((a0.f_Text == ([] : List UInt8)) || ((a0.f_Kind == 3) && v1))))]) (L := [((3, 0), .one [.int .i64 a0.f_Kind, .int .i64 a0.f_Num, .str a0.f_Text, .isl 1 (a0.f_Names.map z6) false, .isl 5 (a0.f_Elems.map z7) false])]) (n := 4) ?_ ?_
  ·exact xa (M := [((3, 0), (3, 0))]) rfl (AI (Vw.ptr _ _ _ _ rfl) (AI (VS rfl) TT)) (AI (AI rfl (BVw.oneL (AI (VS rfl) (AI (VS rfl) (AI (VS rfl) (AI (VS rfl) (AI (VS rfl) TT))))))) TT)
  refine zb ?_
  refine zj ?_
  refine AI (fun hp => hp) ?_
  refine AI (fun hp => hp) ?_
  refine AI (fun hp => hp) ?_
  refine AI (fun hp => hp) ?_
  refine AI (fun hp => hp) ?_
  refine AI (fun hp => hp) ?_
  refine AI (fun hp => (AI hp (fun hc => (z20 hp (bqf hc))))) ?_
  refine AI (fun hc => (bqt hc)) ?_
  refine LWp.sim (e := [(1, .ptr (3, 0) 0 0), (4, .bool (((((a0.f_Num == 0) || ((a0.f_Kind == 1) && (a0.f_Num == 1))) || (((a0.f_Kind == 2) && (decide ((W (0 - 9007199254740991)) ≤ a0.f_Num))) && (decide (a0.f_Num ≤ 9007199254740991)))) && ((a0.f_Text == ([] : List UInt8)) || ((a0.f_Kind == 3) && v1))) && ((((a0.f_Elems.map z7).length : Int) == 0) || (decide (a0.f_Kind ≥ 4)))))]) (L := [((3, 0), .one [.int .i64 a0.f_Kind, .int .i64 a0.f_Num, .str a0.f_Text, .isl 1 (a0.f_Names.map z6) false, .isl 5 (a0.f_Elems.map z7) false])]) (n := 4) ?_ ?_
  ·exact xa (M := [((3, 0), (3, 0))]) rfl (AI (Vw.ptr _ _ _ _ rfl) (AI (VS rfl) TT)) (AI (AI rfl (BVw.oneL (AI (VS rfl) (AI (VS rfl) (AI (VS rfl) (AI (VS rfl) (AI (VS rfl) TT))))))) TT)
  refine zb ?_
  refine zb ?_
  refine zj ?_
  refine qr (v := (a0.f_Kind == 5)) rfl TT (fun h3 => ?_) (fun h3 => ?_)
  ·have h := zk h3 h
   refine zj ?_
   refine AI (fun hp => hp) ?_
   refine AI (fun hp => hp) ?_
   refine AI (fun hp => hp) ?_
   refine AI (fun hp => hp) ?_
   refine AI (fun hp => (AI hp hp)) ?_
   refine AI (fun hc => (bqt hc)) ?_
   refine AI (fun hp => hp) ?_
   obtain ⟨v2, h4, h⟩ := bind_some h
   refine Or.inl (EX (.bool v2) (AI (fun hp => AI hp (PFn.call (zr4 (zk hp h4)) (AI (VS rfl) TT) (AI rfl (AI rfl rfl)))) ?_))
   refine AI (fun hp => hp) ?_
   refine AI (fun hc => (bqt hc)) ?_
   refine LWp.sim ?_ (Ki hrec5 h)
   exact xa (M := [((3, 0), (3, 0))]) rfl (AI (Vw.ptr _ _ _ _ rfl) (AI (VS rfl) TT)) (AI (AI rfl (BVw.oneL (AI (VS rfl) (AI (VS rfl) (AI (VS rfl) (AI (VS rfl) (AI (VS rfl) TT))))))) TT)
  ·have h := zw h3 h
   refine zj ?_
   refine AI (fun hp => hp) ?_
   refine AI (fun hp => hp) ?_
   refine AI (fun hp => hp) ?_
   refine AI (fun hc => (bqt hc)) ?_
   refine LWp.sim ?_ (Ki hrec5 h)
   exact xa (M := [((3, 0), (3, 0))]) rfl (AI (Vw.ptr _ _ _ _ rfl) (AI (VS rfl) TT)) (AI (AI rfl (BVw.oneL (AI (VS rfl) (AI (VS rfl) (AI (VS rfl) (AI (VS rfl) (AI (VS rfl) TT))))))) TT)
theorem z9d {rec5 : G_QJSON → Option Int} (hrec5 : ∀ {a0 : G_QJSON} {o : Int}, rec5 a0 = some o → ACalls Tryd.prog 38 [.agg [.int .i64 a0.f_Kind, .int .i64 a0.f_Num, .str a0.f_Text, .isl 1 (a0.f_Names.map z6) false, .isl 5 (a0.f_Elems.map z7) false]] [] 3 (xu 3 (.int .i64 o) [])) {a0 : G_QJSON} {m : Option Nat} {o : Int} (h : zo rec5 m a0 = some o) : ACalls Tryd.prog 38 [.agg [.int .i64 a0.f_Kind, .int .i64 a0.f_Num, .str a0.f_Text, .isl 1 (a0.f_Names.map z6) false, .isl 5 (a0.f_Elems.map z7) false]] [] 3 (xu 3 (.int .i64 o) []) := Ji (L := zcl) ze5 zeh (NB rfl) (z5s hrec5 h)
noncomputable def ye (m : Option Nat) : Nat → G_QJSON → Option Int
 | 0 => fun _ => none
 | k + 1 => zo (ye m k) m
noncomputable def jd (m : Option Nat) (a0 : G_QJSON) : Option Int := zhp m (fun k => ye m k a0)
theorem z5l {m : Option Nat} : ∀ (k : Nat) {a0 : G_QJSON} {o : Int}, ye m k a0 = some o → ACalls Tryd.prog 38 [.agg [.int .i64 a0.f_Kind, .int .i64 a0.f_Num, .str a0.f_Text, .isl 1 (a0.f_Names.map z6) false, .isl 5 (a0.f_Elems.map z7) false]] [] 3 (xu 3 (.int .i64 o) [])
 | 0, _, _, h => nomatch h
 | k + 1, _, _, h => z9d (fun h => z5l k h) h
theorem zfs {a0 : G_QJSON} {m : Option Nat} {o : Int} (h : jd m a0 = some o) : ACalls Tryd.prog 38 [.agg [.int .i64 a0.f_Kind, .int .i64 a0.f_Num, .str a0.f_Text, .isl 1 (a0.f_Names.map z6) false, .isl 5 (a0.f_Elems.map z7) false]] [] 3 (xu 3 (.int .i64 o) []) := (Y6 h).elim fun k h => z5l k h
noncomputable def wj (m : Option Nat) (a0 : G_QJSON) : Option Int := zo (jd m) m a0
theorem zr1 {a0 : G_QJSON} {m : Option Nat} {o : Int} (h : wj m a0 = some o) : PFn Tryd.prog 38 [.agg [.int .i64 a0.f_Kind, .int .i64 a0.f_Num, .str a0.f_Text, .isl 1 (a0.f_Names.map z6) false, .isl 5 (a0.f_Elems.map z7) false]] (.int .i64 o) :=
 ⟨rfl, _, J4 (k := 3) (m := 0) (L' := []) (rest := []) (R' := .int .i64 o) [] (z9d zfs h) rfl rfl rfl (AI (VS rfl) TT) TT (wz _ rfl) TT rfl ⟨rfl, rfl, rfl⟩⟩
def zlu : LCode := (.seq (.region [⟨some 1, .box (.t 0), none⟩,
 ⟨some 2, .mv (.c (.int .i64 0)), none⟩])
 (.seq (.seq (.region [⟨some 6, .load true 5 (.t 1), none⟩,
  ⟨some 7, .call 37 [(.t 6)], none⟩,
  ⟨some 5, .mv (.t 7), none⟩,
  ⟨some 8, .ext 0 (.t 5), none⟩,
  ⟨some 9, .ext 1 (.t 5), none⟩,
  ⟨some 3, .mv (.t 8), none⟩,
  ⟨some 4, .mv (.t 9), none⟩])
 (.seq (.region [⟨some 10, .mv (.t 3), none⟩,
  ⟨some 11, .bin .gtr (.t 10) (.c (.int .i64 400)), none⟩,
  ⟨some 12, .mv (.t 11), none⟩,
  ⟨some 13, .mv (.t 4), some (12, false)⟩,
  ⟨some 14, .bin .gtr (.t 13) (.c (.int .i64 20)), some (12, false)⟩,
  ⟨some 15, .pick (.t 12) (.c (.bool true)) (.t 14), none⟩])
 (.cond (.t 15)
  (.seq (.region [⟨some 2, .mv (.c (.int .i64 2)), none⟩])
  .ret)
  .skip)))
 (.seq (.region [⟨some 16, .load true 5 (.t 1), none⟩,
  ⟨some 17, .call 38 [(.t 16)], none⟩,
  ⟨some 2, .mv (.t 17), none⟩])
 .ret)))
def zd0 : Lay := ⟨18, [], false⟩
def zcn : List LRes := [.t 2]
def zr6 : LFn := ⟨1, zd0, zlu, zcn⟩
theorem zoh : w8 Tryd.prog [] 11 = some zr6 := by kernel_rfl
theorem zo2 : uf Tryd.prog 11 := ⟨_, Tryd.func11, rfl, rfl⟩
noncomputable def yr (m : Option Nat) (a0 : G_QJSON) : Option Int :=
 (wq m a0).bind fun v1 =>
 if ((decide (v1.1 > 400)) || (decide (v1.2 > 20))) = true then
  some 2
 else
  (wj m a0).bind fun v2 =>
  some v2
def ztp (a0 : G_QJSON) (o : Int) : Exit → Env → AHeap → Nat → Prop := Zy zcn (j1 (.int .i64 o))
theorem zfh {a0 : G_QJSON} {m : Option Nat} {o : Int} (h : yr m a0 = some o) : LWp Tryd.prog zd0 0 zlu (ztp a0 o) (yx 0 [.agg [.int .i64 a0.f_Kind, .int .i64 a0.f_Num, .str a0.f_Text, .isl 1 (a0.f_Names.map z6) false, .isl 5 (a0.f_Elems.map z7) false]]) [] 0 := by
 unfold yr at h
 refine zb ?_
 refine zj ?_
 refine zb ?_
 refine zb ?_
 refine zj ?_
 obtain ⟨v1, h1, h⟩ := bind_some h
 refine PFn.call (zpw h1) (AI (VS rfl) TT) ?_
 refine LWp.sim (e := [(1, .ptr (0, 0) 0 0), (3, .int .i64 v1.1), (4, .int .i64 v1.2)]) (L := [((0, 0), .one [.int .i64 a0.f_Kind, .int .i64 a0.f_Num, .str a0.f_Text, .isl 1 (a0.f_Names.map z6) false, .isl 5 (a0.f_Elems.map z7) false])]) (n := 1) ?_ ?_
 ·exact xa (M := [((0, 0), (0, 0))]) rfl (AI (Vw.ptr _ _ _ _ rfl) (AI (VS rfl) (AI (VS rfl) TT))) (AI (AI rfl (BVw.oneL (AI (VS rfl) (AI (VS rfl) (AI (VS rfl) (AI (VS rfl) (AI (VS rfl) TT))))))) TT)
 refine zb ?_
 refine zj ?_
 refine AI (fun hp => hp) ?_
 refine AI (fun hc => (bqf hc)) ?_
 refine qr (v := ((decide (v1.1 > 400)) || (decide (v1.2 > 20)))) rfl TT (fun h2 => ?_) (fun h2 => ?_)
 ·have h := zk h2 h
  refine zb ?_
  refine zj ?_
  refine wg ?_
  cases h
  exact AI TT (AI rfl (VS rfl))
 ·have h := zw h2 h
  refine ji ?_
  refine zb ?_
  refine zj ?_
  obtain ⟨v2, h3, h⟩ := bind_some h
  refine PFn.call (zr1 h3) (AI (VS rfl) TT) ?_
  refine LWp.sim (e := [(2, .int .i64 v2)]) (L := []) (n := 0) ?_ ?_
  ·exact xa (M := []) rfl (AI (VS rfl) TT) TT
  refine wg ?_
  cases h
  exact AI TT (AI rfl (VS rfl))
theorem zlo {a0 : G_QJSON} {m : Option Nat} {o : Int} (h : yr m a0 = some o) : PFn Tryd.prog 11 [.agg [.int .i64 a0.f_Kind, .int .i64 a0.f_Num, .str a0.f_Text, .isl 1 (a0.f_Names.map z6) false, .isl 5 (a0.f_Elems.map z7) false]] (.int .i64 o) := PFn.ofFnW (L := zr6) zoh zo2 (NB rfl) rfl (zfh h)
def zl3 : LCode := (.seq (.region [⟨some 2, .alloc [(.int .i64 0), (.int .i64 0), (.str []), (.isl 1 [] true), (.isl 5 [] true)], none⟩])
 (.seq (.region [⟨some 3, .mv (.t 0), none⟩,
  ⟨some 4, .build [(.int .i64 0), (.int .i64 0), (.str []), (.isl 1 [] true), (.isl 5 [] true)] [(0, 1, (.c (.int .i64 2))), (1, 1, (.t 3))], none⟩,
  ⟨none, .store 5 (.t 2) (.t 4), none⟩])
 .ret))
def zhv : Lay := ⟨5, [], false⟩
def zc6 : List LRes := [.cell 2 true 5]
def zq2 : LFn := ⟨1, zhv, zl3, zc6⟩
theorem zm3 : w8 Tryd.prog [] 57 = some zq2 := by kernel_rfl
theorem znv : uf Tryd.prog 57 := ⟨_, Tryd.func57, rfl, rfl⟩
noncomputable def yh (m : Option Nat) (a0 : Int) : Option G_QJSON :=
 some (G_QJSON.mk 2 a0 ([] : List UInt8) ([] : List (List UInt8)) ([] : List (List AVal)))
def zsu (a0 : Int) (o : G_QJSON) : Exit → Env → AHeap → Nat → Prop := Zy zc6 (j1 (.agg [.int .i64 o.f_Kind, .int .i64 o.f_Num, .str o.f_Text, .isl 1 (o.f_Names.map z6) false, .isl 5 (o.f_Elems.map z7) false]))
theorem zem {a0 : Int} {m : Option Nat} {o : G_QJSON} (h : yh m a0 = some o) : LWp Tryd.prog zhv 0 zl3 (zsu a0 o) (yx 0 [.int .i64 a0]) [] 0 := by
 unfold yh at h
 refine zb ?_
 refine zj ?_
 refine zb ?_
 refine zj ?_
 refine wg ?_
 cases h
 exact AI (AI TT (AI rfl (NB rfl))) (AI rfl (Vw.aggL (AI (VS rfl) (AI (VS rfl) (AI (VS rfl) (AI (Vw.islF _ _ _) (AI (Vw.islF _ _ _) TT)))))))
theorem z39 {a0 : Int} {m : Option Nat} {o : G_QJSON} (h : yh m a0 = some o) : PFn Tryd.prog 57 [.int .i64 a0] (.agg [.int .i64 o.f_Kind, .int .i64 o.f_Num, .str o.f_Text, .isl 1 (o.f_Names.map z6) false, .isl 5 (o.f_Elems.map z7) false]) := PFn.ofFnW (L := zq2) zm3 znv (NB rfl) rfl (zem h)
def zkc : LCode := (.seq (.region [⟨some 2, .alloc [(.int .i64 0), (.int .i64 0), (.str []), (.isl 1 [] true), (.isl 5 [] true)], none⟩])
 (.seq (.region [⟨some 3, .mv (.t 0), none⟩,
  ⟨some 4, .build [(.int .i64 0), (.int .i64 0), (.str []), (.isl 1 [] true), (.isl 5 [] true)] [(0, 1, (.c (.int .i64 3))), (2, 1, (.t 3))], none⟩,
  ⟨none, .store 5 (.t 2) (.t 4), none⟩])
 .ret))
def zeb : Lay := ⟨5, [], false⟩
def zcy : List LRes := [.cell 2 true 5]
def zr8 : LFn := ⟨1, zeb, zkc, zcy⟩
theorem zos : w8 Tryd.prog [] 58 = some zr8 := by kernel_rfl
theorem zmu : uf Tryd.prog 58 := ⟨_, Tryd.func58, rfl, rfl⟩
noncomputable def x6 (m : Option Nat) (a0 : List UInt8) : Option G_QJSON :=
 some (G_QJSON.mk 3 0 a0 ([] : List (List UInt8)) ([] : List (List AVal)))
def zsj (a0 : List UInt8) (o : G_QJSON) : Exit → Env → AHeap → Nat → Prop := Zy zcy (j1 (.agg [.int .i64 o.f_Kind, .int .i64 o.f_Num, .str o.f_Text, .isl 1 (o.f_Names.map z6) false, .isl 5 (o.f_Elems.map z7) false]))
theorem zf9 {a0 : List UInt8} {m : Option Nat} {o : G_QJSON} (h : x6 m a0 = some o) : LWp Tryd.prog zeb 0 zkc (zsj a0 o) (yx 0 [.str a0]) [] 0 := by
 unfold x6 at h
 refine zb ?_
 refine zj ?_
 refine zb ?_
 refine zj ?_
 refine wg ?_
 cases h
 exact AI (AI TT (AI rfl (NB rfl))) (AI rfl (Vw.aggL (AI (VS rfl) (AI (VS rfl) (AI (VS rfl) (AI (Vw.islF _ _ _) (AI (Vw.islF _ _ _) TT)))))))
theorem z9u {a0 : List UInt8} {m : Option Nat} {o : G_QJSON} (h : x6 m a0 = some o) : PFn Tryd.prog 58 [.str a0] (.agg [.int .i64 o.f_Kind, .int .i64 o.f_Num, .str o.f_Text, .isl 1 (o.f_Names.map z6) false, .isl 5 (o.f_Elems.map z7) false]) := PFn.ofFnW (L := zr8) zos zmu (NB rfl) rfl (zf9 h)
def zlc : LCode := (.seq (.region [⟨some 4, .box (.t 1), none⟩,
 ⟨some 5, .box (.t 2), none⟩,
 ⟨some 6, .alloc [(.int .i64 0), (.int .i64 0), (.str []), (.isl 1 [] true), (.isl 5 [] true)], none⟩])
 (.seq (.draw [⟨⟨some 7, .mv (.t 0), none⟩, []⟩,
  ⟨⟨some 9, .faddr 3 (.t 5), none⟩, []⟩,
  ⟨⟨some 10, .load false 1 (.t 9), none⟩, []⟩,
  ⟨⟨some 12, .load true 5 (.t 4), none⟩, []⟩,
  ⟨⟨some 14, .faddr 4 (.t 5), none⟩, []⟩,
  ⟨⟨some 15, .load false 1 (.t 14), none⟩, []⟩,
  ⟨⟨some 8, .mkSl true 1 [(.str [])] 1 [(0, (.t 7))], none⟩, []⟩,
  ⟨⟨some 13, .mkSl true 5 [(.int .i64 0), (.int .i64 0), (.str []), (.isl 1 [] true), (.isl 5 [] true)] 1 [(0, (.t 12))], none⟩, []⟩,
  ⟨⟨some 11, .app true 1 16 (.t 8) (.t 10), none⟩, [3, 5]⟩,
  ⟨⟨some 16, .app true 5 80 (.t 13) (.t 15), none⟩, []⟩,
  ⟨⟨some 17, .build [(.int .i64 0), (.int .i64 0), (.str []), (.isl 1 [] true), (.isl 5 [] true)] [(0, 1, (.c (.int .i64 5))), (3, 1, (.t 11)), (4, 1, (.t 16))], none⟩, []⟩,
  ⟨⟨none, .store 5 (.t 6) (.t 17), none⟩, []⟩])
 .ret))
def zdw : Lay := ⟨18, [], false⟩
def zep : List LRes := [.cell 6 true 5]
def zqk : LFn := ⟨3, zdw, zlc, zep⟩
theorem zmq : w8 Tryd.prog [] 56 = some zqk := by kernel_rfl
theorem zng : uf Tryd.prog 56 := ⟨_, Tryd.func56, rfl, rfl⟩
noncomputable def z8 (m : Option Nat) (a0 : List UInt8) (a1 : G_QJSON) (a2 : G_QJSON) : Option G_QJSON :=
 if ((([a0] : List (List UInt8)) ++ a2.f_Names).map z6).length * 16 ≤ 140737488355328 then
 if ((([y8 a1] : List (List AVal)) ++ a2.f_Elems).map z7).length * 80 ≤ 140737488355328 then
 some (G_QJSON.mk 5 0 ([] : List UInt8) (([a0] : List (List UInt8)) ++ a2.f_Names) (([y8 a1] : List (List AVal)) ++ a2.f_Elems))
 else none
 else none
def zt9 (a0 : List UInt8) (a1 : G_QJSON) (a2 : G_QJSON) (o : G_QJSON) : Exit → Env → AHeap → Nat → Prop := Zy zep (j1 (.agg [.int .i64 o.f_Kind, .int .i64 o.f_Num, .str o.f_Text, .isl 1 (o.f_Names.map z6) false, .isl 5 (o.f_Elems.map z7) false]))
theorem zgd {a0 : List UInt8} {a1 : G_QJSON} {a2 : G_QJSON} {m : Option Nat} {o : G_QJSON} (h : z8 m a0 a1 a2 = some o) : LWp Tryd.prog zdw 0 zlc (zt9 a0 a1 a2 o) (yx 0 [.str a0, .agg [.int .i64 a1.f_Kind, .int .i64 a1.f_Num, .str a1.f_Text, .isl 1 (a1.f_Names.map z6) false, .isl 5 (a1.f_Elems.map z7) false], .agg [.int .i64 a2.f_Kind, .int .i64 a2.f_Num, .str a2.f_Text, .isl 1 (a2.f_Names.map z6) false, .isl 5 (a2.f_Elems.map z7) false]]) [] 0 := by
 unfold z8 at h
 refine zb ?_
 refine zj ?_
 refine zb ?_
 refine Wz ?_
 obtain ⟨h1, h⟩ := xz h
 refine EX ((([a0] : List (List UInt8)) ++ a2.f_Names).map z6) (AI (z1z z6 ([a0] : List (List UInt8)) a2.f_Names) (AI (AI rfl h1) ?_))
 refine AI rfl ?_
 refine AI rfl ?_
 obtain ⟨h2, h⟩ := xz h
 refine EX ((([y8 a1] : List (List AVal)) ++ a2.f_Elems).map z7) (AI (z1z z7 ([y8 a1] : List (List AVal)) a2.f_Elems) (AI (AI rfl h2) ?_))
 refine LWp.sim (e := [(6, .ptr (0, 0) 0 0)]) (L := [((0, 0), .one [.int .i64 5, .int .i64 0, .str ([] : List UInt8), .osl (1, 0) 1 ((([a0] : List (List UInt8)) ++ a2.f_Names).map z6), .osl (2, 0) 5 ((([y8 a1] : List (List AVal)) ++ a2.f_Elems).map z7)]), ((1, 0), .tok), ((2, 0), .tok)]) (n := 3) ?_ ?_
 ·exact xa (M := [((0, 0), (2, 0)), ((1, 0), (3, 0)), ((2, 0), (4, 0))]) rfl (AI (Vw.ptr _ _ _ _ rfl) TT) (AI (AI rfl (BVw.oneL (AI (VS rfl) (AI (VS rfl) (AI (VS rfl) (AI (Vw.osl _ _ _ _ rfl) (AI (Vw.osl _ _ _ _ rfl) TT))))))) (AI (AI rfl BVw.tok) (AI (AI rfl BVw.tok) TT)))
 refine wg ?_
 cases h
 exact AI (AI TT (AI rfl (NB rfl))) (AI rfl (Vw.aggL (AI (VS rfl) (AI (VS rfl) (AI (VS rfl) (AI (Vw.oslI _ _ _) (AI (Vw.oslI _ _ _) TT)))))))
theorem Zk {a0 : List UInt8} {a1 : G_QJSON} {a2 : G_QJSON} {m : Option Nat} {o : G_QJSON} (h : z8 m a0 a1 a2 = some o) : PFn Tryd.prog 56 [.str a0, .agg [.int .i64 a1.f_Kind, .int .i64 a1.f_Num, .str a1.f_Text, .isl 1 (a1.f_Names.map z6) false, .isl 5 (a1.f_Elems.map z7) false], .agg [.int .i64 a2.f_Kind, .int .i64 a2.f_Num, .str a2.f_Text, .isl 1 (a2.f_Names.map z6) false, .isl 5 (a2.f_Elems.map z7) false]] (.agg [.int .i64 o.f_Kind, .int .i64 o.f_Num, .str o.f_Text, .isl 1 (o.f_Names.map z6) false, .isl 5 (o.f_Elems.map z7) false]) := PFn.ofFnW (L := zqk) zmq zng (NB rfl) rfl (zgd h)
def zkk : LCode := (.seq (.region [⟨some 1, .box (.t 0), none⟩,
 ⟨some 2, .alloc [(.int .i64 0), (.int .i64 0), (.str []), (.isl 1 [] true), (.isl 5 [] true)], none⟩])
 (.seq (.region [⟨some 4, .build [(.int .i64 0), (.int .i64 0), (.str []), (.isl 1 [] true), (.isl 5 [] true)] [], none⟩,
  ⟨some 3, .alloc [(.int .i64 0), (.int .i64 0), (.str []), (.isl 1 [] true), (.isl 5 [] true)], none⟩,
  ⟨none, .store 5 (.t 3) (.t 4), none⟩])
 (.seq (.seq (.region [⟨some 5, .faddr 0 (.t 1), none⟩,
  ⟨some 6, .load false 1 (.t 5), none⟩])
 (.block 0
  (.seq (.region [⟨some 8, .bin .eql (.t 6) (.c (.int .i64 1)), none⟩,
   ⟨some 7, .mv (.t 8), none⟩])
  (.cond (.t 7)
   (.seq (.draw [⟨⟨some 9, .faddr 1 (.t 1), none⟩, []⟩,
    ⟨⟨some 10, .load false 1 (.t 9), none⟩, []⟩,
    ⟨⟨some 12, .faddr 3 (.t 1), none⟩, []⟩,
    ⟨⟨some 13, .load false 1 (.t 12), none⟩, []⟩,
    ⟨⟨some 15, .faddr 4 (.t 1), none⟩, []⟩,
    ⟨⟨some 16, .load true 5 (.t 15), none⟩, []⟩,
    ⟨⟨some 17, .load true 5 (.t 3), none⟩, []⟩,
    ⟨⟨some 11, .call 57 [(.t 10)], none⟩, [3, 5, 6]⟩,
    ⟨⟨some 14, .call 58 [(.t 13)], none⟩, [5, 6]⟩,
    ⟨⟨some 18, .call 56 [(.c (.str [112, 97, 114, 97, 109, 115])), (.t 16), (.t 17)], none⟩, []⟩,
    ⟨⟨some 19, .call 56 [(.c (.str [109, 101, 116, 104, 111, 100])), (.t 14), (.t 18)], none⟩, []⟩,
    ⟨⟨some 20, .call 56 [(.c (.str [105, 100])), (.t 11), (.t 19)], none⟩, []⟩,
    ⟨⟨none, .store 5 (.t 2) (.t 20), none⟩, []⟩])
   .ret)
   (.seq (.region [⟨some 22, .bin .eql (.t 6) (.c (.int .i64 2)), none⟩,
    ⟨some 21, .mv (.t 22), none⟩])
   (.cond (.t 21)
    (.seq (.draw [⟨⟨some 23, .faddr 3 (.t 1), none⟩, []⟩,
     ⟨⟨some 24, .load false 1 (.t 23), none⟩, []⟩,
     ⟨⟨some 26, .faddr 4 (.t 1), none⟩, []⟩,
     ⟨⟨some 27, .load true 5 (.t 26), none⟩, []⟩,
     ⟨⟨some 28, .load true 5 (.t 3), none⟩, []⟩,
     ⟨⟨some 25, .call 58 [(.t 24)], none⟩, [3, 4]⟩,
     ⟨⟨some 29, .call 56 [(.c (.str [112, 97, 114, 97, 109, 115])), (.t 27), (.t 28)], none⟩, []⟩,
     ⟨⟨some 30, .call 56 [(.c (.str [109, 101, 116, 104, 111, 100])), (.t 25), (.t 29)], none⟩, []⟩,
     ⟨⟨none, .store 5 (.t 2) (.t 30), none⟩, []⟩])
    .ret)
    (.seq (.region [⟨some 32, .bin .eql (.t 6) (.c (.int .i64 3)), none⟩,
     ⟨some 31, .mv (.t 32), none⟩])
    (.cond (.t 31)
     (.seq (.draw [⟨⟨some 33, .faddr 1 (.t 1), none⟩, []⟩,
      ⟨⟨some 34, .load false 1 (.t 33), none⟩, []⟩,
      ⟨⟨some 36, .faddr 4 (.t 1), none⟩, []⟩,
      ⟨⟨some 37, .load true 5 (.t 36), none⟩, []⟩,
      ⟨⟨some 38, .load true 5 (.t 3), none⟩, []⟩,
      ⟨⟨some 35, .call 57 [(.t 34)], none⟩, [3, 4]⟩,
      ⟨⟨some 39, .call 56 [(.c (.str [114, 101, 115, 117, 108, 116])), (.t 37), (.t 38)], none⟩, []⟩,
      ⟨⟨some 40, .call 56 [(.c (.str [105, 100])), (.t 35), (.t 39)], none⟩, []⟩,
      ⟨⟨none, .store 5 (.t 2) (.t 40), none⟩, []⟩])
     .ret)
     (.seq (.region [⟨some 42, .bin .eql (.t 6) (.c (.int .i64 4)), none⟩,
      ⟨some 41, .mv (.t 42), none⟩])
     (.cond (.t 41)
      (.seq (.draw [⟨⟨some 43, .faddr 1 (.t 1), none⟩, []⟩,
       ⟨⟨some 44, .load false 1 (.t 43), none⟩, []⟩,
       ⟨⟨some 46, .faddr 2 (.t 1), none⟩, []⟩,
       ⟨⟨some 47, .load false 1 (.t 46), none⟩, []⟩,
       ⟨⟨some 49, .faddr 3 (.t 1), none⟩, []⟩,
       ⟨⟨some 50, .load false 1 (.t 49), none⟩, []⟩,
       ⟨⟨some 52, .load true 5 (.t 3), none⟩, []⟩,
       ⟨⟨some 55, .load true 5 (.t 3), none⟩, []⟩,
       ⟨⟨some 45, .call 57 [(.t 44)], none⟩, [3, 5, 6, 7]⟩,
       ⟨⟨some 48, .call 57 [(.t 47)], none⟩, [5, 6, 7]⟩,
       ⟨⟨some 51, .call 58 [(.t 50)], none⟩, [6, 7]⟩,
       ⟨⟨some 53, .call 56 [(.c (.str [109, 101, 115, 115, 97, 103, 101])), (.t 51), (.t 52)], none⟩, [7]⟩,
       ⟨⟨some 54, .call 56 [(.c (.str [99, 111, 100, 101])), (.t 48), (.t 53)], none⟩, [7]⟩,
       ⟨⟨some 56, .call 56 [(.c (.str [101, 114, 114, 111, 114])), (.t 54), (.t 55)], none⟩, []⟩,
       ⟨⟨some 57, .call 56 [(.c (.str [105, 100])), (.t 45), (.t 56)], none⟩, []⟩,
       ⟨⟨none, .store 5 (.t 2) (.t 57), none⟩, []⟩])
      .ret)
      .skip))))))))))
 (.seq (.draw [⟨⟨some 59, .faddr 1 (.t 1), none⟩, []⟩,
  ⟨⟨some 60, .load false 1 (.t 59), none⟩, []⟩,
  ⟨⟨some 62, .load true 5 (.t 3), none⟩, []⟩,
  ⟨⟨some 64, .load true 5 (.t 3), none⟩, []⟩,
  ⟨⟨some 58, .call 58 [(.c (.str [36, 47, 99, 97, 110, 99, 101, 108]))], none⟩, [1, 2, 3]⟩,
  ⟨⟨some 61, .call 57 [(.t 60)], none⟩, [2, 3]⟩,
  ⟨⟨some 63, .call 56 [(.c (.str [105, 100])), (.t 61), (.t 62)], none⟩, [3]⟩,
  ⟨⟨some 65, .call 56 [(.c (.str [112, 97, 114, 97, 109, 115])), (.t 63), (.t 64)], none⟩, []⟩,
  ⟨⟨some 66, .call 56 [(.c (.str [109, 101, 116, 104, 111, 100])), (.t 58), (.t 65)], none⟩, []⟩,
  ⟨⟨none, .store 5 (.t 2) (.t 66), none⟩, []⟩])
 .ret))))
def zei : Lay := ⟨67, [], false⟩
def zc2 : List LRes := [.cell 2 true 5]
def zrf : LFn := ⟨1, zei, zkk, zc2⟩
theorem zm5 : w8 Tryd.prog [] 31 = some zrf := by kernel_rfl
theorem zof : uf Tryd.prog 31 := ⟨_, Tryd.func31, rfl, rfl⟩
noncomputable def ya (m : Option Nat) (a0 : G_QMessage) : Option G_QJSON :=
 if (a0.f_Kind == 1) = true then
  (yh m a0.f_ID).bind fun v1 =>
  (x6 m a0.f_Method).bind fun v2 =>
  (z8 m ([112, 97, 114, 97, 109, 115] : List UInt8) (G_QJSON.mk a0.f_Body.f_Kind a0.f_Body.f_Num a0.f_Body.f_Text a0.f_Body.f_Names a0.f_Body.f_Elems) (G_QJSON.mk 0 0 ([] : List UInt8) ([] : List (List UInt8)) ([] : List (List AVal)))).bind fun v3 =>
  (z8 m ([109, 101, 116, 104, 111, 100] : List UInt8) v2 v3).bind fun v4 =>
  (z8 m ([105, 100] : List UInt8) v1 v4).bind fun v5 =>
  some v5
 else
  if (a0.f_Kind == 2) = true then
   (x6 m a0.f_Method).bind fun v6 =>
   (z8 m ([112, 97, 114, 97, 109, 115] : List UInt8) (G_QJSON.mk a0.f_Body.f_Kind a0.f_Body.f_Num a0.f_Body.f_Text a0.f_Body.f_Names a0.f_Body.f_Elems) (G_QJSON.mk 0 0 ([] : List UInt8) ([] : List (List UInt8)) ([] : List (List AVal)))).bind fun v7 =>
   (z8 m ([109, 101, 116, 104, 111, 100] : List UInt8) v6 v7).bind fun v8 =>
   some v8
  else
   if (a0.f_Kind == 3) = true then
    (yh m a0.f_ID).bind fun v9 =>
    (z8 m ([114, 101, 115, 117, 108, 116] : List UInt8) (G_QJSON.mk a0.f_Body.f_Kind a0.f_Body.f_Num a0.f_Body.f_Text a0.f_Body.f_Names a0.f_Body.f_Elems) (G_QJSON.mk 0 0 ([] : List UInt8) ([] : List (List UInt8)) ([] : List (List AVal)))).bind fun v10 =>
    (z8 m ([105, 100] : List UInt8) v9 v10).bind fun v11 =>
    some v11
   else
    if (a0.f_Kind == 4) = true then
     (yh m a0.f_ID).bind fun v12 =>
     (yh m a0.f_Code).bind fun v13 =>
     (x6 m a0.f_Method).bind fun v14 =>
     (z8 m ([109, 101, 115, 115, 97, 103, 101] : List UInt8) v14 (G_QJSON.mk 0 0 ([] : List UInt8) ([] : List (List UInt8)) ([] : List (List AVal)))).bind fun v15 =>
     (z8 m ([99, 111, 100, 101] : List UInt8) v13 v15).bind fun v16 =>
     (z8 m ([101, 114, 114, 111, 114] : List UInt8) v16 (G_QJSON.mk 0 0 ([] : List UInt8) ([] : List (List UInt8)) ([] : List (List AVal)))).bind fun v17 =>
     (z8 m ([105, 100] : List UInt8) v12 v17).bind fun v18 =>
     some v18
    else
     (x6 m ([36, 47, 99, 97, 110, 99, 101, 108] : List UInt8)).bind fun v19 =>
     (yh m a0.f_ID).bind fun v20 =>
     (z8 m ([105, 100] : List UInt8) v20 (G_QJSON.mk 0 0 ([] : List UInt8) ([] : List (List UInt8)) ([] : List (List AVal)))).bind fun v21 =>
     (z8 m ([112, 97, 114, 97, 109, 115] : List UInt8) v21 (G_QJSON.mk 0 0 ([] : List UInt8) ([] : List (List UInt8)) ([] : List (List AVal)))).bind fun v22 =>
     (z8 m ([109, 101, 116, 104, 111, 100] : List UInt8) v19 v22).bind fun v23 =>
     some v23
def ztd (a0 : G_QMessage) (o : G_QJSON) : Exit → Env → AHeap → Nat → Prop := Zy zc2 (j1 (.agg [.int .i64 o.f_Kind, .int .i64 o.f_Num, .str o.f_Text, .isl 1 (o.f_Names.map z6) false, .isl 5 (o.f_Elems.map z7) false]))
set_option maxHeartbeats 4000000 in
theorem zgg {a0 : G_QMessage} {m : Option Nat} {o : G_QJSON} (h : ya m a0 = some o) : LWp Tryd.prog zei 0 zkk (ztd a0 o) (yx 0 [.agg [.int .i64 a0.f_Kind, .int .i64 a0.f_ID, .int .i64 a0.f_Code, .str a0.f_Method, .int .i64 a0.f_Body.f_Kind, .int .i64 a0.f_Body.f_Num, .str a0.f_Body.f_Text, .isl 1 (a0.f_Body.f_Names.map z6) false, .isl 5 (a0.f_Body.f_Elems.map z7) false]]) [] 0 := by
 unfold ya at h
 refine zb ?_
 refine zj ?_
 refine zb ?_
 refine zj ?_
 refine zb ?_
 refine zb ?_
 refine zj ?_
 refine je ?_
 refine zb ?_
 refine zj ?_
 refine LWp.sim (e := [(1, .ptr (0, 0) 0 0), (2, .ptr (1, 0) 0 0), (3, .ptr (2, 0) 0 0), (6, .int .i64 a0.f_Kind), (7, .bool (a0.f_Kind == 1))]) (L := [((0, 0), .one [.int .i64 a0.f_Kind, .int .i64 a0.f_ID, .int .i64 a0.f_Code, .str a0.f_Method, .int .i64 a0.f_Body.f_Kind, .int .i64 a0.f_Body.f_Num, .str a0.f_Body.f_Text, .isl 1 (a0.f_Body.f_Names.map z6) false, .isl 5 (a0.f_Body.f_Elems.map z7) false]), ((1, 0), .one [.int .i64 0, .int .i64 0, .str ([] : List UInt8), .isl 1 (([] : List (List UInt8)).map z6) true, .isl 5 (([] : List (List AVal)).map z7) true]), ((2, 0), .one [.int .i64 0, .int .i64 0, .str ([] : List UInt8), .isl 1 (([] : List (List UInt8)).map z6) true, .isl 5 (([] : List (List AVal)).map z7) true])]) (n := 3) ?_ ?_
 ·exact xa (M := [((0, 0), (0, 0)), ((1, 0), (1, 0)), ((2, 0), (2, 0))]) rfl (AI (Vw.ptr _ _ _ _ rfl) (AI (Vw.ptr _ _ _ _ rfl) (AI (Vw.ptr _ _ _ _ rfl) (AI (VS rfl) (AI (VS rfl) TT))))) (AI (AI rfl (BVw.oneL (AI (VS rfl) (AI (VS rfl) (AI (VS rfl) (AI (VS rfl) (AI (VS rfl) (AI (VS rfl) (AI (VS rfl) (AI (VS rfl) (AI (VS rfl) TT))))))))))) (AI (AI rfl (BVw.oneL (AI (VS rfl) (AI (VS rfl) (AI (VS rfl) (AI (VS rfl) (AI (VS rfl) TT))))))) (AI (AI rfl (BVw.oneL (AI (VS rfl) (AI (VS rfl) (AI (VS rfl) (AI (VS rfl) (AI (VS rfl) TT))))))) TT)))
 refine qr (v := (a0.f_Kind == 1)) rfl TT (fun h1 => ?_) (fun h1 => ?_)
 ·have h := zk h1 h
  refine zb ?_
  refine Wz ?_
  obtain ⟨v1, h2, h⟩ := bind_some h
  refine PFn.call (z39 h2) (AI (VS rfl) TT) ?_
  refine AI rfl ?_
  refine AI rfl ?_
  refine AI rfl ?_
  obtain ⟨v2, h3, h⟩ := bind_some h
  refine PFn.call (z9u h3) (AI (VS rfl) TT) ?_
  refine AI rfl ?_
  refine AI rfl ?_
  obtain ⟨v3, h4, h⟩ := bind_some h
  refine PFn.call (Zk h4) (AI (VS rfl) (AI (VS rfl) (AI (Vw.aggL (AI (VS rfl) (AI (VS rfl) (AI (VS rfl) (AI (Vw.islF _ _ _) (AI (Vw.islF _ _ _) TT)))))) TT))) ?_
  obtain ⟨v4, h5, h⟩ := bind_some h
  refine PFn.call (Zk h5) (AI (VS rfl) (AI (VS rfl) (AI (VS rfl) TT))) ?_
  obtain ⟨v5, h6, h⟩ := bind_some h
  refine PFn.call (Zk h6) (AI (VS rfl) (AI (VS rfl) (AI (VS rfl) TT))) ?_
  refine LWp.sim (e := [(2, .ptr (0, 0) 0 0)]) (L := [((0, 0), .one [.int .i64 v5.f_Kind, .int .i64 v5.f_Num, .str v5.f_Text, .isl 1 (v5.f_Names.map z6) false, .isl 5 (v5.f_Elems.map z7) false])]) (n := 1) ?_ ?_
  ·exact xa (M := [((0, 0), (1, 0))]) rfl (AI (Vw.ptr _ _ _ _ rfl) TT) (AI (AI rfl (BVw.oneL (AI (VS rfl) (AI (VS rfl) (AI (VS rfl) (AI (VS rfl) (AI (VS rfl) TT))))))) TT)
  refine wg ?_
  cases h
  exact AI (AI TT (AI rfl (NB rfl))) (AI rfl (VS rfl))
 ·have h := zw h1 h
  refine zb ?_
  refine zj ?_
  refine qr (v := (a0.f_Kind == 2)) rfl TT (fun h7 => ?_) (fun h7 => ?_)
  ·have h := zk h7 h
   refine zb ?_
   refine Wz ?_
   obtain ⟨v6, h8, h⟩ := bind_some h
   refine PFn.call (z9u h8) (AI (VS rfl) TT) ?_
   refine AI rfl ?_
   refine AI rfl ?_
   obtain ⟨v7, h9, h⟩ := bind_some h
   refine PFn.call (Zk h9) (AI (VS rfl) (AI (VS rfl) (AI (Vw.aggL (AI (VS rfl) (AI (VS rfl) (AI (VS rfl) (AI (Vw.islF _ _ _) (AI (Vw.islF _ _ _) TT)))))) TT))) ?_
   obtain ⟨v8, h10, h⟩ := bind_some h
   refine PFn.call (Zk h10) (AI (VS rfl) (AI (VS rfl) (AI (VS rfl) TT))) ?_
   refine LWp.sim (e := [(2, .ptr (0, 0) 0 0)]) (L := [((0, 0), .one [.int .i64 v8.f_Kind, .int .i64 v8.f_Num, .str v8.f_Text, .isl 1 (v8.f_Names.map z6) false, .isl 5 (v8.f_Elems.map z7) false])]) (n := 1) ?_ ?_
   ·exact xa (M := [((0, 0), (1, 0))]) rfl (AI (Vw.ptr _ _ _ _ rfl) TT) (AI (AI rfl (BVw.oneL (AI (VS rfl) (AI (VS rfl) (AI (VS rfl) (AI (VS rfl) (AI (VS rfl) TT))))))) TT)
   refine wg ?_
   cases h
   exact AI (AI TT (AI rfl (NB rfl))) (AI rfl (VS rfl))
  ·have h := zw h7 h
   refine zb ?_
   refine zj ?_
   refine qr (v := (a0.f_Kind == 3)) rfl TT (fun h11 => ?_) (fun h11 => ?_)
   ·have h := zk h11 h
    refine zb ?_
    refine Wz ?_
    obtain ⟨v9, h12, h⟩ := bind_some h
    refine PFn.call (z39 h12) (AI (VS rfl) TT) ?_
    refine AI rfl ?_
    refine AI rfl ?_
    obtain ⟨v10, h13, h⟩ := bind_some h
    refine PFn.call (Zk h13) (AI (VS rfl) (AI (VS rfl) (AI (Vw.aggL (AI (VS rfl) (AI (VS rfl) (AI (VS rfl) (AI (Vw.islF _ _ _) (AI (Vw.islF _ _ _) TT)))))) TT))) ?_
    obtain ⟨v11, h14, h⟩ := bind_some h
    refine PFn.call (Zk h14) (AI (VS rfl) (AI (VS rfl) (AI (VS rfl) TT))) ?_
    refine LWp.sim (e := [(2, .ptr (0, 0) 0 0)]) (L := [((0, 0), .one [.int .i64 v11.f_Kind, .int .i64 v11.f_Num, .str v11.f_Text, .isl 1 (v11.f_Names.map z6) false, .isl 5 (v11.f_Elems.map z7) false])]) (n := 1) ?_ ?_
    ·exact xa (M := [((0, 0), (1, 0))]) rfl (AI (Vw.ptr _ _ _ _ rfl) TT) (AI (AI rfl (BVw.oneL (AI (VS rfl) (AI (VS rfl) (AI (VS rfl) (AI (VS rfl) (AI (VS rfl) TT))))))) TT)
    refine wg ?_
    cases h
    exact AI (AI TT (AI rfl (NB rfl))) (AI rfl (VS rfl))
   ·have h := zw h11 h
    refine zb ?_
    refine zj ?_
    refine qr (v := (a0.f_Kind == 4)) rfl TT (fun h15 => ?_) (fun h15 => ?_)
    ·have h := zk h15 h
     refine zb ?_
     refine Wz ?_
     obtain ⟨v12, h16, h⟩ := bind_some h
     refine PFn.call (z39 h16) (AI (VS rfl) TT) ?_
     refine AI rfl ?_
     refine AI rfl ?_
     refine AI rfl ?_
     refine AI rfl ?_
     obtain ⟨v13, h17, h⟩ := bind_some h
     refine PFn.call (z39 h17) (AI (VS rfl) TT) ?_
     refine AI rfl ?_
     refine AI rfl ?_
     refine AI rfl ?_
     obtain ⟨v14, h18, h⟩ := bind_some h
     refine PFn.call (z9u h18) (AI (VS rfl) TT) ?_
     refine AI rfl ?_
     refine AI rfl ?_
     obtain ⟨v15, h19, h⟩ := bind_some h
     refine PFn.call (Zk h19) (AI (VS rfl) (AI (VS rfl) (AI (Vw.aggL (AI (VS rfl) (AI (VS rfl) (AI (VS rfl) (AI (Vw.islF _ _ _) (AI (Vw.islF _ _ _) TT)))))) TT))) ?_
     refine AI rfl ?_
     obtain ⟨v16, h20, h⟩ := bind_some h
     refine PFn.call (Zk h20) (AI (VS rfl) (AI (VS rfl) (AI (VS rfl) TT))) ?_
     refine AI rfl ?_
     obtain ⟨v17, h21, h⟩ := bind_some h
     refine PFn.call (Zk h21) (AI (VS rfl) (AI (VS rfl) (AI (Vw.aggL (AI (VS rfl) (AI (VS rfl) (AI (VS rfl) (AI (Vw.islF _ _ _) (AI (Vw.islF _ _ _) TT)))))) TT))) ?_
     obtain ⟨v18, h22, h⟩ := bind_some h
     refine PFn.call (Zk h22) (AI (VS rfl) (AI (VS rfl) (AI (VS rfl) TT))) ?_
     refine LWp.sim (e := [(2, .ptr (0, 0) 0 0)]) (L := [((0, 0), .one [.int .i64 v18.f_Kind, .int .i64 v18.f_Num, .str v18.f_Text, .isl 1 (v18.f_Names.map z6) false, .isl 5 (v18.f_Elems.map z7) false])]) (n := 1) ?_ ?_
     ·exact xa (M := [((0, 0), (1, 0))]) rfl (AI (Vw.ptr _ _ _ _ rfl) TT) (AI (AI rfl (BVw.oneL (AI (VS rfl) (AI (VS rfl) (AI (VS rfl) (AI (VS rfl) (AI (VS rfl) TT))))))) TT)
     refine wg ?_
     cases h
     exact AI (AI TT (AI rfl (NB rfl))) (AI rfl (VS rfl))
    ·have h := zw h15 h
     refine ji ?_
     refine zb ?_
     refine Wz ?_
     obtain ⟨v19, h23, h⟩ := bind_some h
     refine PFn.call (z9u h23) (AI (VS rfl) TT) ?_
     refine AI rfl ?_
     refine AI rfl ?_
     refine AI rfl ?_
     obtain ⟨v20, h24, h⟩ := bind_some h
     refine PFn.call (z39 h24) (AI (VS rfl) TT) ?_
     refine AI rfl ?_
     refine AI rfl ?_
     obtain ⟨v21, h25, h⟩ := bind_some h
     refine PFn.call (Zk h25) (AI (VS rfl) (AI (VS rfl) (AI (Vw.aggL (AI (VS rfl) (AI (VS rfl) (AI (VS rfl) (AI (Vw.islF _ _ _) (AI (Vw.islF _ _ _) TT)))))) TT))) ?_
     refine AI rfl ?_
     obtain ⟨v22, h26, h⟩ := bind_some h
     refine PFn.call (Zk h26) (AI (VS rfl) (AI (VS rfl) (AI (Vw.aggL (AI (VS rfl) (AI (VS rfl) (AI (VS rfl) (AI (Vw.islF _ _ _) (AI (Vw.islF _ _ _) TT)))))) TT))) ?_
     obtain ⟨v23, h27, h⟩ := bind_some h
     refine PFn.call (Zk h27) (AI (VS rfl) (AI (VS rfl) (AI (VS rfl) TT))) ?_
     refine LWp.sim (e := [(2, .ptr (0, 0) 0 0)]) (L := [((0, 0), .one [.int .i64 v23.f_Kind, .int .i64 v23.f_Num, .str v23.f_Text, .isl 1 (v23.f_Names.map z6) false, .isl 5 (v23.f_Elems.map z7) false])]) (n := 1) ?_ ?_
     ·exact xa (M := [((0, 0), (1, 0))]) rfl (AI (Vw.ptr _ _ _ _ rfl) TT) (AI (AI rfl (BVw.oneL (AI (VS rfl) (AI (VS rfl) (AI (VS rfl) (AI (VS rfl) (AI (VS rfl) TT))))))) TT)
     refine wg ?_
     cases h
     exact AI (AI TT (AI rfl (NB rfl))) (AI rfl (VS rfl))
theorem zrz {a0 : G_QMessage} {m : Option Nat} {o : G_QJSON} (h : ya m a0 = some o) : PFn Tryd.prog 31 [.agg [.int .i64 a0.f_Kind, .int .i64 a0.f_ID, .int .i64 a0.f_Code, .str a0.f_Method, .int .i64 a0.f_Body.f_Kind, .int .i64 a0.f_Body.f_Num, .str a0.f_Body.f_Text, .isl 1 (a0.f_Body.f_Names.map z6) false, .isl 5 (a0.f_Body.f_Elems.map z7) false]] (.agg [.int .i64 o.f_Kind, .int .i64 o.f_Num, .str o.f_Text, .isl 1 (o.f_Names.map z6) false, .isl 5 (o.f_Elems.map z7) false]) := PFn.ofFnW (L := zrf) zm5 zof (NB rfl) rfl (zgg h)
def zpu : LCode := (.seq (.region [⟨some 1, .box (.t 0), none⟩,
 ⟨some 2, .alloc [(.int .i64 0), (.int .i64 0), (.str []), (.isl 1 [] true), (.isl 5 [] true)], none⟩,
 ⟨some 3, .mv (.c (.int .i64 0)), none⟩])
 (.seq (.seq (.region [⟨some 7, .faddr 0 (.t 1), none⟩,
  ⟨some 8, .load false 1 (.t 7), none⟩,
  ⟨some 9, .bin .lss (.t 8) (.c (.int .i64 1)), none⟩,
  ⟨some 10, .mv (.t 9), none⟩,
  ⟨some 11, .faddr 0 (.t 1), some (10, false)⟩,
  ⟨some 12, .load false 1 (.t 11), some (10, false)⟩,
  ⟨some 13, .bin .gtr (.t 12) (.c (.int .i64 5)), some (10, false)⟩,
  ⟨some 14, .pick (.t 10) (.c (.bool true)) (.t 13), none⟩])
 (.cond (.t 14)
  (.seq (.region [⟨some 15, .build [(.int .i64 0), (.int .i64 0), (.str []), (.isl 1 [] true), (.isl 5 [] true)] [], none⟩,
   ⟨none, .store 5 (.t 2) (.t 15), none⟩,
   ⟨some 3, .mv (.c (.int .i64 7)), none⟩])
  .ret)
  .skip))
 (.seq (.seq (.region [⟨some 16, .load true 9 (.t 1), none⟩,
  ⟨some 17, .call 30 [(.t 16)], none⟩,
  ⟨some 18, .un .not (.t 17), none⟩])
 (.cond (.t 18)
  (.seq (.region [⟨some 19, .build [(.int .i64 0), (.int .i64 0), (.str []), (.isl 1 [] true), (.isl 5 [] true)] [], none⟩,
   ⟨none, .store 5 (.t 2) (.t 19), none⟩,
   ⟨some 3, .mv (.c (.int .i64 3)), none⟩])
  .ret)
  .skip))
 (.seq (.seq (.region [⟨some 20, .faddr 4 (.t 1), none⟩,
  ⟨some 21, .load true 5 (.t 20), none⟩,
  ⟨some 22, .call 11 [(.t 21)], none⟩,
  ⟨some 4, .mv (.t 22), none⟩])
 (.seq (.region [⟨some 23, .mv (.t 4), none⟩,
  ⟨some 24, .bin .neq (.t 23) (.c (.int .i64 0)), none⟩])
 (.cond (.t 24)
  (.seq (.region [⟨some 25, .build [(.int .i64 0), (.int .i64 0), (.str []), (.isl 1 [] true), (.isl 5 [] true)] [], none⟩,
   ⟨some 26, .mv (.t 4), none⟩,
   ⟨none, .store 5 (.t 2) (.t 25), none⟩,
   ⟨some 3, .mv (.t 26), none⟩])
  .ret)
  .skip)))
 (.seq (.region [⟨some 27, .load true 9 (.t 1), none⟩,
  ⟨some 28, .call 31 [(.t 27)], none⟩,
  ⟨some 5, .alloc [(.int .i64 0), (.int .i64 0), (.str []), (.isl 1 [] true), (.isl 5 [] true)], none⟩,
  ⟨none, .store 5 (.t 5) (.t 28), none⟩])
 (.seq (.seq (.region [⟨some 29, .load true 5 (.t 5), none⟩,
  ⟨some 30, .call 11 [(.t 29)], none⟩,
  ⟨some 6, .mv (.t 30), none⟩])
 (.seq (.region [⟨some 31, .mv (.t 6), none⟩,
  ⟨some 32, .bin .neq (.t 31) (.c (.int .i64 0)), none⟩])
 (.cond (.t 32)
  (.seq (.region [⟨some 33, .build [(.int .i64 0), (.int .i64 0), (.str []), (.isl 1 [] true), (.isl 5 [] true)] [], none⟩,
   ⟨some 34, .mv (.t 6), none⟩,
   ⟨none, .store 5 (.t 2) (.t 33), none⟩,
   ⟨some 3, .mv (.t 34), none⟩])
  .ret)
  .skip)))
 (.seq (.region [⟨some 35, .load true 5 (.t 5), none⟩,
  ⟨none, .store 5 (.t 2) (.t 35), none⟩,
  ⟨some 3, .mv (.c (.int .i64 0)), none⟩])
 .ret)))))))
def zl4 : Lay := ⟨36, [], false⟩
def zll : List LRes := [.cell 2 true 5, .t 3]
def zty : LFn := ⟨1, zl4, zpu, zll⟩
theorem zra : w8 Tryd.prog [] 8 = some zty := by kernel_rfl
theorem zqp : uf Tryd.prog 8 := ⟨_, Tryd.func8, rfl, rfl⟩
noncomputable def y9 (m : Option Nat) (a0 : G_QMessage) : Option (G_QJSON × Int) :=
 if ((decide (a0.f_Kind < 1)) || (decide (a0.f_Kind > 5))) = true then
  some ((G_QJSON.mk 0 0 ([] : List UInt8) ([] : List (List UInt8)) ([] : List (List AVal))), 7)
 else
  (yg m (G_QMessage.mk a0.f_Kind a0.f_ID a0.f_Code a0.f_Method (G_QJSON.mk a0.f_Body.f_Kind a0.f_Body.f_Num a0.f_Body.f_Text a0.f_Body.f_Names a0.f_Body.f_Elems))).bind fun v1 =>
  if (!v1) = true then
   some ((G_QJSON.mk 0 0 ([] : List UInt8) ([] : List (List UInt8)) ([] : List (List AVal))), 3)
  else
   (yr m (G_QJSON.mk a0.f_Body.f_Kind a0.f_Body.f_Num a0.f_Body.f_Text a0.f_Body.f_Names a0.f_Body.f_Elems)).bind fun v2 =>
   if (v2 != 0) = true then
    some ((G_QJSON.mk 0 0 ([] : List UInt8) ([] : List (List UInt8)) ([] : List (List AVal))), v2)
   else
    (ya m (G_QMessage.mk a0.f_Kind a0.f_ID a0.f_Code a0.f_Method (G_QJSON.mk a0.f_Body.f_Kind a0.f_Body.f_Num a0.f_Body.f_Text a0.f_Body.f_Names a0.f_Body.f_Elems))).bind fun v3 =>
    (yr m v3).bind fun v4 =>
    if (v4 != 0) = true then
     some ((G_QJSON.mk 0 0 ([] : List UInt8) ([] : List (List UInt8)) ([] : List (List AVal))), v4)
    else
     some (v3, 0)
def zua (a0 : G_QMessage) (o : G_QJSON × Int) : Exit → Env → AHeap → Nat → Prop := Zy zll (j1 (.tup [.agg [.int .i64 o.1.f_Kind, .int .i64 o.1.f_Num, .str o.1.f_Text, .isl 1 (o.1.f_Names.map z6) false, .isl 5 (o.1.f_Elems.map z7) false], .int .i64 o.2]))
theorem zik {a0 : G_QMessage} {m : Option Nat} {o : G_QJSON × Int} (h : y9 m a0 = some o) : LWp Tryd.prog zl4 0 zpu (zua a0 o) (yx 0 [.agg [.int .i64 a0.f_Kind, .int .i64 a0.f_ID, .int .i64 a0.f_Code, .str a0.f_Method, .int .i64 a0.f_Body.f_Kind, .int .i64 a0.f_Body.f_Num, .str a0.f_Body.f_Text, .isl 1 (a0.f_Body.f_Names.map z6) false, .isl 5 (a0.f_Body.f_Elems.map z7) false]]) [] 0 := by
 unfold y9 at h
 refine zb ?_
 refine zj ?_
 refine zb ?_
 refine zb ?_
 refine zj ?_
 refine AI (fun hp => hp) ?_
 refine AI (fun hp => hp) ?_
 refine AI (fun hc => (bqf hc)) ?_
 refine LWp.sim (e := [(1, .ptr (0, 0) 0 0), (2, .ptr (1, 0) 0 0), (14, .bool ((decide (a0.f_Kind < 1)) || (decide (a0.f_Kind > 5))))]) (L := [((0, 0), .one [.int .i64 a0.f_Kind, .int .i64 a0.f_ID, .int .i64 a0.f_Code, .str a0.f_Method, .int .i64 a0.f_Body.f_Kind, .int .i64 a0.f_Body.f_Num, .str a0.f_Body.f_Text, .isl 1 (a0.f_Body.f_Names.map z6) false, .isl 5 (a0.f_Body.f_Elems.map z7) false]), ((1, 0), .one [.int .i64 0, .int .i64 0, .str ([] : List UInt8), .isl 1 (([] : List (List UInt8)).map z6) true, .isl 5 (([] : List (List AVal)).map z7) true])]) (n := 2) ?_ ?_
 ·exact xa (M := [((0, 0), (0, 0)), ((1, 0), (1, 0))]) rfl (AI (Vw.ptr _ _ _ _ rfl) (AI (Vw.ptr _ _ _ _ rfl) (AI (VS rfl) TT))) (AI (AI rfl (BVw.oneL (AI (VS rfl) (AI (VS rfl) (AI (VS rfl) (AI (VS rfl) (AI (VS rfl) (AI (VS rfl) (AI (VS rfl) (AI (VS rfl) (AI (VS rfl) TT))))))))))) (AI (AI rfl (BVw.oneL (AI (VS rfl) (AI (VS rfl) (AI (VS rfl) (AI (VS rfl) (AI (VS rfl) TT))))))) TT))
 refine qr (v := ((decide (a0.f_Kind < 1)) || (decide (a0.f_Kind > 5)))) rfl TT (fun h1 => ?_) (fun h1 => ?_)
 ·have h := zk h1 h
  refine zb ?_
  refine zj ?_
  refine wg ?_
  cases h
  exact AI (AI TT (AI rfl (NB rfl))) (AI TT (AI rfl (Vw.tupL (AI (Vw.aggL (AI (VS rfl) (AI (VS rfl) (AI (VS rfl) (AI (Vw.islF _ _ _) (AI (Vw.islF _ _ _) TT)))))) (AI (VS rfl) TT)))))
 ·have h := zw h1 h
  refine ji ?_
  refine zb ?_
  refine zb ?_
  refine zj ?_
  obtain ⟨v1, h2, h⟩ := bind_some h
  refine PFn.call (zs3 h2) (AI (VS rfl) TT) ?_
  refine qr (v := (!v1)) rfl TT (fun h3 => ?_) (fun h3 => ?_)
  ·have h := zk h3 h
   refine zb ?_
   refine zj ?_
   refine wg ?_
   cases h
   exact AI (AI TT (AI rfl (NB rfl))) (AI TT (AI rfl (Vw.tupL (AI (Vw.aggL (AI (VS rfl) (AI (VS rfl) (AI (VS rfl) (AI (Vw.islF _ _ _) (AI (Vw.islF _ _ _) TT)))))) (AI (VS rfl) TT)))))
  ·have h := zw h3 h
   refine ji ?_
   refine zb ?_
   refine zb ?_
   refine zj ?_
   obtain ⟨v2, h4, h⟩ := bind_some h
   refine PFn.call (zlo h4) (AI (VS rfl) TT) ?_
   refine zb ?_
   refine zj ?_
   refine LWp.sim (e := [(1, .ptr (0, 0) 0 0), (2, .ptr (1, 0) 0 0), (4, .int .i64 v2), (24, .bool (v2 != 0))]) (L := [((0, 0), .one [.int .i64 a0.f_Kind, .int .i64 a0.f_ID, .int .i64 a0.f_Code, .str a0.f_Method, .int .i64 a0.f_Body.f_Kind, .int .i64 a0.f_Body.f_Num, .str a0.f_Body.f_Text, .isl 1 (a0.f_Body.f_Names.map z6) false, .isl 5 (a0.f_Body.f_Elems.map z7) false]), ((1, 0), .one [.int .i64 0, .int .i64 0, .str ([] : List UInt8), .isl 1 (([] : List (List UInt8)).map z6) true, .isl 5 (([] : List (List AVal)).map z7) true])]) (n := 2) ?_ ?_
   ·exact xa (M := [((0, 0), (0, 0)), ((1, 0), (1, 0))]) rfl (AI (Vw.ptr _ _ _ _ rfl) (AI (Vw.ptr _ _ _ _ rfl) (AI (VS rfl) (AI (VS rfl) TT)))) (AI (AI rfl (BVw.oneL (AI (VS rfl) (AI (VS rfl) (AI (VS rfl) (AI (VS rfl) (AI (VS rfl) (AI (VS rfl) (AI (VS rfl) (AI (VS rfl) (AI (VS rfl) TT))))))))))) (AI (AI rfl (BVw.oneL (AI (VS rfl) (AI (VS rfl) (AI (VS rfl) (AI (VS rfl) (AI (VS rfl) TT))))))) TT))
   refine qr (v := (v2 != 0)) rfl TT (fun h5 => ?_) (fun h5 => ?_)
   ·have h := zk h5 h
    refine zb ?_
    refine zj ?_
    refine wg ?_
    cases h
    exact AI (AI TT (AI rfl (NB rfl))) (AI TT (AI rfl (Vw.tupL (AI (Vw.aggL (AI (VS rfl) (AI (VS rfl) (AI (VS rfl) (AI (Vw.islF _ _ _) (AI (Vw.islF _ _ _) TT)))))) (AI (VS rfl) TT)))))
   ·have h := zw h5 h
    refine ji ?_
    refine zb ?_
    refine zj ?_
    obtain ⟨v3, h6, h⟩ := bind_some h
    refine PFn.call (zrz h6) (AI (VS rfl) TT) ?_
    refine zb ?_
    refine zb ?_
    refine zj ?_
    obtain ⟨v4, h7, h⟩ := bind_some h
    refine PFn.call (zlo h7) (AI (VS rfl) TT) ?_
    refine zb ?_
    refine zj ?_
    refine LWp.sim (e := [(2, .ptr (0, 0) 0 0), (5, .ptr (1, 0) 0 0), (6, .int .i64 v4), (32, .bool (v4 != 0))]) (L := [((0, 0), .one [.int .i64 0, .int .i64 0, .str ([] : List UInt8), .isl 1 (([] : List (List UInt8)).map z6) true, .isl 5 (([] : List (List AVal)).map z7) true]), ((1, 0), .one [.int .i64 v3.f_Kind, .int .i64 v3.f_Num, .str v3.f_Text, .isl 1 (v3.f_Names.map z6) false, .isl 5 (v3.f_Elems.map z7) false])]) (n := 2) ?_ ?_
    ·exact xa (M := [((0, 0), (1, 0)), ((1, 0), (2, 0))]) rfl (AI (Vw.ptr _ _ _ _ rfl) (AI (Vw.ptr _ _ _ _ rfl) (AI (VS rfl) (AI (VS rfl) TT)))) (AI (AI rfl (BVw.oneL (AI (VS rfl) (AI (VS rfl) (AI (VS rfl) (AI (VS rfl) (AI (VS rfl) TT))))))) (AI (AI rfl (BVw.oneL (AI (VS rfl) (AI (VS rfl) (AI (VS rfl) (AI (VS rfl) (AI (VS rfl) TT))))))) TT))
    refine qr (v := (v4 != 0)) rfl TT (fun h8 => ?_) (fun h8 => ?_)
    ·have h := zk h8 h
     refine zb ?_
     refine zj ?_
     refine wg ?_
     cases h
     exact AI (AI TT (AI rfl (NB rfl))) (AI TT (AI rfl (Vw.tupL (AI (Vw.aggL (AI (VS rfl) (AI (VS rfl) (AI (VS rfl) (AI (Vw.islF _ _ _) (AI (Vw.islF _ _ _) TT)))))) (AI (VS rfl) TT)))))
    ·have h := zw h8 h
     refine ji ?_
     refine zb ?_
     refine zj ?_
     refine wg ?_
     cases h
     exact AI (AI TT (AI rfl (NB rfl))) (AI TT (AI rfl (VS rfl)))
theorem zt6 {a0 : G_QMessage} {m : Option Nat} {o : G_QJSON × Int} (h : y9 m a0 = some o) : PFn Tryd.prog 8 [.agg [.int .i64 a0.f_Kind, .int .i64 a0.f_ID, .int .i64 a0.f_Code, .str a0.f_Method, .int .i64 a0.f_Body.f_Kind, .int .i64 a0.f_Body.f_Num, .str a0.f_Body.f_Text, .isl 1 (a0.f_Body.f_Names.map z6) false, .isl 5 (a0.f_Body.f_Elems.map z7) false]] (.tup [.agg [.int .i64 o.1.f_Kind, .int .i64 o.1.f_Num, .str o.1.f_Text, .isl 1 (o.1.f_Names.map z6) false, .isl 5 (o.1.f_Elems.map z7) false], .int .i64 o.2]) := PFn.ofFnW (L := zty) zra zqp (NB rfl) rfl (zik h)
def zrh : LCode := (.seq (.region [⟨some 1, .box (.t 0), none⟩,
 ⟨some 2, .mv (.c (.bool false)), none⟩])
 (.seq (.seq (.region [⟨some 7, .call 6 [], none⟩,
  ⟨some 8, .un .not (.t 7), none⟩])
 (.cond (.t 8)
  (.seq (.region [⟨some 2, .mv (.c (.bool false)), none⟩])
  .ret)
  .skip))
 (.seq (.region [⟨some 10, .load true 9 (.t 1), none⟩,
  ⟨some 11, .call 7 [(.t 10)], none⟩,
  ⟨some 9, .mv (.t 11), none⟩,
  ⟨some 12, .ext 0 (.t 9), none⟩,
  ⟨some 13, .ext 1 (.t 9), none⟩,
  ⟨some 3, .alloc [(.int .i64 0), (.int .i64 0), (.str []), (.isl 1 [] true), (.isl 5 [] true)], none⟩,
  ⟨none, .store 5 (.t 3) (.t 12), none⟩,
  ⟨some 4, .mv (.t 13), none⟩])
 (.seq (.region [⟨some 15, .load true 9 (.t 1), none⟩,
  ⟨some 16, .call 8 [(.t 15)], none⟩,
  ⟨some 14, .mv (.t 16), none⟩,
  ⟨some 17, .ext 0 (.t 14), none⟩,
  ⟨some 18, .ext 1 (.t 14), none⟩,
  ⟨some 5, .alloc [(.int .i64 0), (.int .i64 0), (.str []), (.isl 1 [] true), (.isl 5 [] true)], none⟩,
  ⟨none, .store 5 (.t 5) (.t 17), none⟩,
  ⟨some 6, .mv (.t 18), none⟩])
 (.seq (.region [⟨some 19, .call 6 [], none⟩,
  ⟨some 20, .mv (.t 19), none⟩,
  ⟨some 21, .mv (.t 4), some (20, true)⟩,
  ⟨some 22, .mv (.t 6), some (20, true)⟩,
  ⟨some 23, .bin .eql (.t 21) (.t 22), some (20, true)⟩,
  ⟨some 24, .pick (.t 20) (.t 23) (.c (.bool false)), none⟩,
  ⟨some 25, .mv (.t 24), none⟩,
  ⟨some 26, .load true 5 (.t 3), some (25, true)⟩,
  ⟨some 27, .load true 5 (.t 5), some (25, true)⟩,
  ⟨some 28, .call 9 [(.t 26), (.t 27)], some (25, true)⟩,
  ⟨some 29, .pick (.t 25) (.t 28) (.c (.bool false)), none⟩,
  ⟨some 2, .mv (.t 29), none⟩])
 .ret)))))
def zli : Lay := ⟨30, [], false⟩
def zkz : List LRes := [.t 2]
def ztu : LFn := ⟨1, zli, zrh, zkz⟩
theorem zqw : w8 Tryd.prog [] 3 = some ztu := by kernel_rfl
theorem zq5 : uf Tryd.prog 3 := ⟨_, Tryd.func3, rfl, rfl⟩
noncomputable def qo (m : Option Nat) (a0 : G_QMessage) : Option Bool :=
 (xn (some 4096)).bind fun v1 =>
 if (!v1) = true then
  some false
 else
  (jn m (G_QMessage.mk a0.f_Kind a0.f_ID a0.f_Code a0.f_Method (G_QJSON.mk a0.f_Body.f_Kind a0.f_Body.f_Num a0.f_Body.f_Text a0.f_Body.f_Names a0.f_Body.f_Elems))).bind fun v2 =>
  (y9 m (G_QMessage.mk a0.f_Kind a0.f_ID a0.f_Code a0.f_Method (G_QJSON.mk a0.f_Body.f_Kind a0.f_Body.f_Num a0.f_Body.f_Text a0.f_Body.f_Names a0.f_Body.f_Elems))).bind fun v3 =>
  (xn (some 4096)).bind fun v4 =>
  (if ((v4 && (v2.2 == v3.2)) == true) = true then zy m (G_QJSON.mk v2.1.f_Kind v2.1.f_Num v2.1.f_Text v2.1.f_Names v2.1.f_Elems) (G_QJSON.mk v3.1.f_Kind v3.1.f_Num v3.1.f_Text v3.1.f_Names v3.1.f_Elems) else some default).bind fun v5 =>
  some ((v4 && (v2.2 == v3.2)) && v5)
def zu2 (a0 : G_QMessage) (o : Bool) : Exit → Env → AHeap → Nat → Prop := Zy zkz (j1 (.bool o))
theorem zjy {a0 : G_QMessage} {m : Option Nat} {o : Bool} (h : qo m a0 = some o) : LWp Tryd.prog zli 0 zrh (zu2 a0 o) (yx 0 [.agg [.int .i64 a0.f_Kind, .int .i64 a0.f_ID, .int .i64 a0.f_Code, .str a0.f_Method, .int .i64 a0.f_Body.f_Kind, .int .i64 a0.f_Body.f_Num, .str a0.f_Body.f_Text, .isl 1 (a0.f_Body.f_Names.map z6) false, .isl 5 (a0.f_Body.f_Elems.map z7) false]]) [] 0 := by
 unfold qo at h
 refine zb ?_
 refine zj ?_
 refine zb ?_
 refine zb ?_
 refine zj ?_
 obtain ⟨v1, h1, h⟩ := bind_some h
 refine PFn.call (zqq h1) TT ?_
 refine qr (v := (!v1)) rfl TT (fun h2 => ?_) (fun h2 => ?_)
 ·have h := zk h2 h
  refine zb ?_
  refine zj ?_
  refine wg ?_
  cases h
  exact AI TT (AI rfl (VS rfl))
 ·have h := zw h2 h
  refine ji ?_
  refine zb ?_
  refine zj ?_
  obtain ⟨v2, h3, h⟩ := bind_some h
  refine PFn.call (ztn h3) (AI (VS rfl) TT) ?_
  refine LWp.sim (e := [(1, .ptr (0, 0) 0 0), (3, .ptr (1, 0) 0 0), (4, .int .i64 v2.2)]) (L := [((0, 0), .one [.int .i64 a0.f_Kind, .int .i64 a0.f_ID, .int .i64 a0.f_Code, .str a0.f_Method, .int .i64 a0.f_Body.f_Kind, .int .i64 a0.f_Body.f_Num, .str a0.f_Body.f_Text, .isl 1 (a0.f_Body.f_Names.map z6) false, .isl 5 (a0.f_Body.f_Elems.map z7) false]), ((1, 0), .one [.int .i64 v2.1.f_Kind, .int .i64 v2.1.f_Num, .str v2.1.f_Text, .isl 1 (v2.1.f_Names.map z6) false, .isl 5 (v2.1.f_Elems.map z7) false])]) (n := 2) ?_ ?_
  ·exact xa (M := [((0, 0), (0, 0)), ((1, 0), (1, 0))]) rfl (AI (Vw.ptr _ _ _ _ rfl) (AI (Vw.ptr _ _ _ _ rfl) (AI (VS rfl) TT))) (AI (AI rfl (BVw.oneL (AI (VS rfl) (AI (VS rfl) (AI (VS rfl) (AI (VS rfl) (AI (VS rfl) (AI (VS rfl) (AI (VS rfl) (AI (VS rfl) (AI (VS rfl) TT))))))))))) (AI (AI rfl (BVw.oneL (AI (VS rfl) (AI (VS rfl) (AI (VS rfl) (AI (VS rfl) (AI (VS rfl) TT))))))) TT))
  refine zb ?_
  refine zj ?_
  obtain ⟨v3, h4, h⟩ := bind_some h
  refine PFn.call (zt6 h4) (AI (VS rfl) TT) ?_
  refine LWp.sim (e := [(3, .ptr (0, 0) 0 0), (4, .int .i64 v2.2), (5, .ptr (1, 0) 0 0), (6, .int .i64 v3.2)]) (L := [((0, 0), .one [.int .i64 v2.1.f_Kind, .int .i64 v2.1.f_Num, .str v2.1.f_Text, .isl 1 (v2.1.f_Names.map z6) false, .isl 5 (v2.1.f_Elems.map z7) false]), ((1, 0), .one [.int .i64 v3.1.f_Kind, .int .i64 v3.1.f_Num, .str v3.1.f_Text, .isl 1 (v3.1.f_Names.map z6) false, .isl 5 (v3.1.f_Elems.map z7) false])]) (n := 2) ?_ ?_
  ·exact xa (M := [((0, 0), (1, 0)), ((1, 0), (2, 0))]) rfl (AI (Vw.ptr _ _ _ _ rfl) (AI (VS rfl) (AI (Vw.ptr _ _ _ _ rfl) (AI (VS rfl) TT)))) (AI (AI rfl (BVw.oneL (AI (VS rfl) (AI (VS rfl) (AI (VS rfl) (AI (VS rfl) (AI (VS rfl) TT))))))) (AI (AI rfl (BVw.oneL (AI (VS rfl) (AI (VS rfl) (AI (VS rfl) (AI (VS rfl) (AI (VS rfl) TT))))))) TT))
  refine zb ?_
  refine zj ?_
  obtain ⟨v4, h5, h⟩ := bind_some h
  refine PFn.call (zqq h5) TT ?_
  refine AI (fun hp => (AI hp hp)) ?_
  refine AI (fun hc => (bqt hc)) ?_
  obtain ⟨v5, h6, h⟩ := bind_some h
  refine Or.inl (EX (.bool v5) (AI (fun hp => AI (AI hp hp) (ACalls.same rfl (J4 (k := 3) (m := 0) (L' := []) (rest := [((0, 0), .one [.int .i64 v2.1.f_Kind, .int .i64 v2.1.f_Num, .str v2.1.f_Text, .isl 1 (v2.1.f_Names.map z6) false, .isl 5 (v2.1.f_Elems.map z7) false]), ((1, 0), .one [.int .i64 v3.1.f_Kind, .int .i64 v3.1.f_Num, .str v3.1.f_Text, .isl 1 (v3.1.f_Names.map z6) false, .isl 5 (v3.1.f_Elems.map z7) false])]) (R' := .bool v5) [] (z9j (zk hp h6)) rfl rfl rfl (AI (VS rfl) (AI (VS rfl) TT)) TT (wz _ rfl) TT rfl (AI rfl (HeapTo.get (AI (AI rfl (BVw.oneL (AI (VS rfl) (AI (VS rfl) (AI (VS rfl) (AI (VS rfl) (AI (VS rfl) TT))))))) (AI (AI rfl (BVw.oneL (AI (VS rfl) (AI (VS rfl) (AI (VS rfl) (AI (VS rfl) (AI (VS rfl) TT))))))) TT))))))) ?_))
  refine AI (fun hc => (bqt hc)) ?_
  refine LWp.sim (e := [(2, .bool ((v4 && (v2.2 == v3.2)) && v5))]) (L := []) (n := 0) ?_ ?_
  ·exact xa (M := []) rfl (AI (VS rfl) TT) TT
  refine wg ?_
  cases h
  exact AI TT (AI rfl (VS rfl))
theorem ztb {a0 : G_QMessage} {m : Option Nat} {o : Bool} (h : qo m a0 = some o) : PFn Tryd.prog 3 [.agg [.int .i64 a0.f_Kind, .int .i64 a0.f_ID, .int .i64 a0.f_Code, .str a0.f_Method, .int .i64 a0.f_Body.f_Kind, .int .i64 a0.f_Body.f_Num, .str a0.f_Body.f_Text, .isl 1 (a0.f_Body.f_Names.map z6) false, .isl 5 (a0.f_Body.f_Elems.map z7) false]] (.bool o) := PFn.ofFnW (L := ztu) zqw zq5 (NB rfl) rfl (zjy h)
end Go.Proofs.YtlfdchgaeeadjaaDoor
