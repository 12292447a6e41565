/-
  Own text GenB of this claim: what functions of the given program compute, in plain Lean, and the proof; no condition.
-/
import Derived.Test.YtkpgfihopaokgaaGreatDoorGenA
namespace Go.Proofs.YtkpgfihopaokgaaGreatDoor
open Go.Fx
set_option linter.unusedVariables false
def zh5 : LCode := (.region [Qm 12 8,
 Qo 13 (.bin .add (.t 12) (.c (i6 1))),
 Qm 8 13])
def zbu : LCode := (.seq (.seq (.region [Qm 9 8,
 Qm 10 1,
 Qo 11 (.bin .lss (.t 9) (.t 10))])
 (.cond (.t 11)
  .skip
  (.exit 0)))
 (.seq (.block 1
  (.seq (.region [Qm 14 7,
   Qo 15 (.bin .add (.t 14) (.c (i6 1))),
   Qm 7 15])
  (.seq (.region [Qm 16 0,
   Qm 17 8,
   Qo 18 (.idxS (.t 16) (.t 17)),
   Qo 19 (.bin .eql (.t 18) (.c (.int .u8 10)))])
  (.cond (.t 19)
   (.region [Qm 20 6,
    Qo 21 (.bin .add (.t 20) (.c (i6 1))),
    Qm 6 21,
    Qi 7 0])
   .skip))))
 zh5))
def z75 : LCode := (.seq (.region [Qm 22 6,
 Qm 23 7,
 Qm 4 22,
 Qm 5 23])
 .ret)
def zgr : LCode := (.seq (.region [Qi 4 0,
 Qi 5 0])
 (.seq (.region [Qi 6 0,
  Qi 7 0])
 (.seq (.seq (.region [Qi 8 0])
 (.block 0
  (.loop
   zbu)))
 z75)))
def Y1 : Lay := ⟨24, [], false⟩
def zag : List LRes := [.t 4, .t 5]
def zl3 : LFn := ⟨2, Y1, zgr, zag⟩
theorem zig : vu Tryz.prog [] 19 = some zl3 := by kernel_rfl
theorem zik : Qh Tryz.prog 19 := ⟨_, Tryz.func19, rfl, rfl⟩
def zfw (a0 : List UInt8) (a1 : Int) (o : Int × Int) : Exit → Env → AHeap → Nat → Prop := z19 zag (w8 (.tup [i6 o.1, i6 o.2]))
def Ja (a0 : List UInt8) (a1 : Int) (s : (Int × Int × Int)) : Env := [(0, .str a0), (1, i6 a1), (6, i6 s.1), (7, i6 s.2.1), (8, i6 s.2.2)]
def Ve (a0 : List UInt8) (a1 : Int) (s : (Int × Int × Int)) : AHeap := []
def z17 (a0 : List UInt8) (a1 : Int) (o : (Int × Int)) : Exit → Env → AHeap → Nat → Prop := (x6 0 (ui Tryz.prog Y1 0 z75 (zfw a0 a1 o)))
noncomputable def yl (m : Option Nat) (a0 : List UInt8) (a1 : Int) (v5 : Int) (v8 : Int) (v9 : Int) : Option ((Int × Int × Int) ⊕ (Int × Int)) :=
 some (.inl (v8, v9, (W (v5 + 1))))
theorem z22 {a0 : List UInt8} {a1 : Int} {v5 : Int} {v8 : Int} {v9 : Int} {m : Option Nat} {o : ((Int × Int × Int) ⊕ (Int × Int))} (h : yl m a0 a1 v5 v8 v9 = some o) :
 LWp Tryz.prog Y1 0 zh5 (wr 0 0 (Ja a0 a1) (Ve a0 a1) (z17 a0 a1) o) [(0, .str a0), (1, i6 a1), (6, i6 v8), (7, i6 v9), (8, i6 v5)] [] 0 := by
 unfold yl at h
 refine ye ?_
 cases h
 exact AI rfl (xg (M := []) rfl (S4 rfl rfl rfl rfl (AI (VS rfl) TT)) TT)
noncomputable def qf (m : Option Nat) (v3 : Int) (v4 : Int) : Option (Int × Int) :=
 some (v3, v4)
noncomputable def zq (m : Option Nat) (a0 : List UInt8) (a1 : Int) (v3 : Int) (v4 : Int) (v5 : Int) : Option ((Int × Int × Int) ⊕ (Int × Int)) :=
 if (decide (v5 < a1)) = true then
  if (0 : Int) ≤ v5 ∧ v5 < (a0.length : Int) then
  if ((((a0.getD v5.toNat 0).toNat : Nat) : Int) == 10) = true then
   yl m a0 a1 v5 (W (v3 + 1)) 0
  else
   yl m a0 a1 v5 v3 (W (v4 + 1))
  else none
 else
  Option.map Sum.inr (
   qf m v3 v4)
noncomputable def ym (m : Option Nat) (a0 : List UInt8) (a1 : Int) (v3 : Int) (v4 : Int) (v5 : Int) : Option (Int × Int) := vr m (fun (s : (Int × Int × Int)) => zq m a0 a1 s.1 s.2.1 s.2.2) (v3, v4, v5)
theorem zbv {a0 : List UInt8} {a1 : Int} {v3 : Int} {v4 : Int} {m : Option Nat} {o : (Int × Int)} (h : qf m v3 v4 = some o) :
 LWp Tryz.prog Y1 0 z75 (zfw a0 a1 o) [(6, i6 v3), (7, i6 v4)] [] 0 := by
 unfold qf at h
 refine zp (ye ?_)
 refine Zk ?_
 cases h
 exact AI TT (AI TT (AI rfl (VS rfl)))
theorem z91 {a0 : List UInt8} {a1 : Int} {v3 : Int} {v4 : Int} {v5 : Int} {m : Option Nat} {o : (Int × Int × Int) ⊕ (Int × Int)} (h : zq m a0 a1 v3 v4 v5 = some o) :
 LWp Tryz.prog Y1 0 zbu (wr 0 0 (Ja a0 a1) (Ve a0 a1) (z17 a0 a1) o) [(0, .str a0), (1, i6 a1), (6, i6 v3), (7, i6 v4), (8, i6 v5)] [] 0 := by
 unfold zq at h
 refine zp ?_
 refine zp (ye ?_)
 refine j0 (v := (decide (v5 < a1))) rfl TT (fun h7 => ?_) (fun h7 => ?_)
 ·have h := yy h7 h
  refine jc ?_
  refine zp ?_
  refine xx ?_
  refine zp (ye ?_)
  refine zp (ye ?_)
  obtain ⟨h8, h⟩ := zo h
  refine AI h8 ?_
  refine LWp.sim (e := [(0, .str a0), (1, i6 a1), (6, i6 v3), (7, i6 (W (v4 + 1))), (8, i6 v5), (19, .bool ((((a0.getD v5.toNat 0).toNat : Nat) : Int) == 10))]) (L := []) (n := 0) ?_ ?_
  ·exact xg (M := []) rfl (S4 rfl rfl rfl rfl (S2 rfl rfl TT)) TT
  refine j0 (v := ((((a0.getD v5.toNat 0).toNat : Nat) : Int) == 10)) rfl TT (fun h9 => ?_) (fun h9 => ?_)
  ·have h := yy h9 h
   refine ye ?_
   refine LWp.sim ?_ (z22 h)
   exact xg (M := []) rfl (S4 rfl rfl rfl rfl (AI (VS rfl) TT)) TT
  ·have h := q9 h9 h
   refine jc ?_
   refine LWp.sim ?_ (z22 h)
   exact xg (M := []) rfl (S4 rfl rfl rfl rfl (AI (VS rfl) TT)) TT
 ·have h := q9 h7 h
  refine Zo ?_
  obtain ⟨o, hq, rfl⟩ := Option.map_eq_some_iff.1 h
  replace h := hq; clear hq
  refine AI nofun ?_
  refine LWp.sim ?_ (zbv h)
  exact xg (M := []) rfl (S2 rfl rfl TT) TT
theorem zc6 {a0 : List UInt8} {a1 : Int} {v3 : Int} {v4 : Int} {v5 : Int} {m : Option Nat} {o : (Int × Int)} (h : ym m a0 a1 v3 v4 v5 = some o) :
 LWp Tryz.prog Y1 0 (.loop zbu) (x6 0 (ui Tryz.prog Y1 0 z75 (zfw a0 a1 o))) [(0, .str a0), (1, i6 a1), (6, i6 v3), (7, i6 v4), (8, i6 v5)] [] 0 :=
 j5 (m := m) (s := ((v3, v4, v5) : (Int × Int × Int))) (r := o) (fun (s : (Int × Int × Int)) => zq m a0 a1 s.1 s.2.1 s.2.2) (Ja a0 a1) (Ve a0 a1) (z17 a0 a1) (fun s o h => z91 h) h
noncomputable def yg (m : Option Nat) (a0 : List UInt8) (a1 : Int) : Option (Int × Int) :=
 ym m a0 a1 0 0 0
theorem zd5 {a0 : List UInt8} {a1 : Int} {m : Option Nat} {o : Int × Int} (h : yg m a0 a1 = some o) : LWp Tryz.prog Y1 0 zgr (zfw a0 a1 o) (je 0 [.str a0, i6 a1]) [] 0 := by
 unfold yg at h
 refine zp (ye ?_)
 refine zp (ye ?_)
 refine zp ?_
 refine zp (ye ?_)
 refine xx ?_
 refine LWp.sim ?_ (zc6 h)
 exact xg (M := []) rfl (S4 rfl rfl rfl rfl (AI (VS rfl) TT)) TT
theorem zgz {a0 : List UInt8} {a1 : Int} {m : Option Nat} {o : Int × Int} (h : yg m a0 a1 = some o) : PFn Tryz.prog 19 [.str a0, i6 a1] (.tup [i6 o.1, i6 o.2]) := PFn.ofFnW (L := zl3) zig zik (NB rfl) rfl (zd5 h)
def znd : LCode := (.region [Qm 74 5,
 Qt 75 4 9,
 Qo 76 (.mkSl true 4 [(i6 0), (i6 0), (i6 0), (i6 0)] 1 [(0, (.t 75))]),
 Qo 77 (.app true 4 32 (.t 74) (.t 76)),
 Qm 5 77])
def zlx : LCode := (.region [Qm 16 6,
 Qo 17 (.bin .add (.t 16) (.c (i6 1))),
 Qm 6 17])
def zjj : LCode := (.seq (.seq (.region [Qm 12 6,
 Qm 13 1,
 Qo 14 (.len false (.t 13)),
 Qo 15 (.bin .lss (.t 12) (.t 14))])
 (.cond (.t 15)
  .skip
  (.exit 0)))
 (.seq (.block 1
  (.seq (.region [Qm 19 0,
   Qm 20 1,
   Qm 21 6,
   Qo 22 (.iaddr 3 (.t 20) (.t 21)),
   Qf 23 0 22,
   Ql 24 1 23,
   Qo 25 (.call 19 [(.t 19), (.t 24)]),
   Qm 18 25,
   Qo 26 (.ext 0 (.t 18)),
   Qo 27 (.ext 1 (.t 18)),
   Qm 7 26,
   Qm 8 27])
  (.seq (.draw [⟨Qm 28 7, []⟩,
   ⟨Qm 29 8, []⟩,
   ⟨Qm 30 1, []⟩,
   ⟨Qm 31 6, []⟩,
   ⟨Qo 32 (.iaddr 3 (.t 30) (.t 31)), []⟩,
   ⟨Qf 33 1 32, []⟩,
   ⟨Ql 34 1 33, []⟩,
   ⟨Qm 35 1, []⟩,
   ⟨Qm 36 6, []⟩,
   ⟨Qo 37 (.iaddr 3 (.t 35) (.t 36)), []⟩,
   ⟨Qf 38 2 37, []⟩,
   ⟨Ql 39 1 38, []⟩,
   ⟨Qo 40 (.build [(i6 0), (i6 0), (i6 0), (i6 0)] [(0, 1, (.t 28)), (1, 1, (.t 29)), (2, 1, (.t 34)), (3, 1, (.t 39))]), []⟩,
   ⟨Qo 9 (.alloc [(i6 0), (i6 0), (i6 0), (i6 0)]), [6, 11]⟩,
   ⟨⟨none, .store 4 (.t 9) (.t 40), none⟩, []⟩])
  (.seq (.seq (.region [Qm 41 6,
   Qo 42 (.bin .gtr (.t 41) (.c (i6 0)))])
  (.cond (.t 42)
   (.seq (.region [Qm 44 0,
    Qm 45 1,
    Qm 46 6,
    Qo 47 (.bin .sub (.t 46) (.c (i6 1))),
    Qo 48 (.iaddr 3 (.t 45) (.t 47)),
    Qf 49 0 48,
    Ql 50 1 49,
    Qo 51 (.call 19 [(.t 44), (.t 50)]),
    Qm 43 51,
    Qo 52 (.ext 0 (.t 43)),
    Qo 53 (.ext 1 (.t 43)),
    Qm 10 52,
    Qm 11 53])
   (.seq (.region [Qm 54 7,
    Qm 55 10,
    Qo 56 (.bin .sub (.t 54) (.t 55)),
    Qf 57 0 9,
    ⟨none, .store 1 (.t 57) (.t 56), none⟩])
   (.seq (.region [Qf 58 0 9,
    Ql 59 1 58,
    Qo 60 (.bin .eql (.t 59) (.c (i6 0)))])
   (.cond (.t 60)
    (.draw [⟨Qm 61 1, []⟩,
     ⟨Qm 62 6, []⟩,
     ⟨Qo 63 (.iaddr 3 (.t 61) (.t 62)), []⟩,
     ⟨Qf 64 0 63, []⟩,
     ⟨Ql 65 1 64, []⟩,
     ⟨Qm 66 1, []⟩,
     ⟨Qm 67 6, []⟩,
     ⟨Qo 68 (.bin .sub (.t 67) (.c (i6 1))), []⟩,
     ⟨Qo 69 (.iaddr 3 (.t 66) (.t 68)), []⟩,
     ⟨Qf 70 0 69, []⟩,
     ⟨Ql 71 1 70, []⟩,
     ⟨Qo 72 (.bin .sub (.t 65) (.t 71)), []⟩,
     ⟨Qf 73 1 9, []⟩,
     ⟨⟨none, .store 1 (.t 73) (.t 72), none⟩, []⟩])
    .skip))))
   .skip))
  znd))))
 zlx))
def zee : LCode := (.seq (.region [Qm 78 5,
 Qm 4 78])
 .ret)
def zkm : LCode := (.seq (.region [Qo 4 (.mv (.c (.val (.slice none 0 0))))])
 (.seq (.region [Qo 5 (.mv (.c (.val (.slice none 0 0))))])
 (.seq (.seq (.region [Qi 6 0])
 (.block 0
  (.loop
   zjj)))
 zee)))
def Xr : Lay := ⟨79, [], false⟩
def zhb : List LRes := [.t 4]
def zp5 : LFn := ⟨2, Xr, zkm, zhb⟩
theorem zlo : vu Tryz.prog [] 9 = some zp5 := by kernel_rfl
theorem zmn : Qh Tryz.prog 9 := ⟨_, Tryz.func9, rfl, rfl⟩
def zno (a0 : List UInt8) (a1 : List G_SemanticToken) (o : (List G_TokenDelta)) : Exit → Env → AHeap → Nat → Prop := z19 zhb (w8 (.isl 4 (o.map z7) false))
def V8 (a0 : List UInt8) (a1 : List G_SemanticToken) (s : ((List G_TokenDelta) × Int)) : Env := [(0, .str a0), (1, .isl 3 (a1.map z6) false), (5, .osl (0, 0) 4 (s.1.map z7)), (6, i6 s.2)]
def z0q (a0 : List UInt8) (a1 : List G_SemanticToken) (s : ((List G_TokenDelta) × Int)) : AHeap := [((0, 0), .tok)]
def z4z (a0 : List UInt8) (a1 : List G_SemanticToken) (o : (List G_TokenDelta)) : Exit → Env → AHeap → Nat → Prop := (x6 0 (ui Tryz.prog Xr 0 zee (zno a0 a1 o)))
noncomputable def zy (m : Option Nat) (a0 : List UInt8) (a1 : List G_SemanticToken) (v5 : List G_TokenDelta) (v6 : Int) (v13 : Int) (v14 : Int) : Option (((List G_TokenDelta) × Int) ⊕ (List G_TokenDelta)) :=
 if ((v5 ++ ([(G_TokenDelta.mk v14 v13 ((a1.getD v6.toNat default).f_Length) ((a1.getD v6.toNat default).f_Kind))] : List G_TokenDelta)).map z7).length * 32 ≤ 140737488355328 then
 some (.inl ((v5 ++ ([(G_TokenDelta.mk v14 v13 ((a1.getD v6.toNat default).f_Length) ((a1.getD v6.toNat default).f_Kind))] : List G_TokenDelta)), (W (v6 + 1))))
 else none
theorem z04 {a0 : List UInt8} {a1 : List G_SemanticToken} {v5 : List G_TokenDelta} {v6 : Int} {v13 : Int} {v14 : Int} {m : Option Nat} {o : (((List G_TokenDelta) × Int) ⊕ (List G_TokenDelta))} (h : zy m a0 a1 v5 v6 v13 v14 = some o) :
 LWp Tryz.prog Xr 0 znd (x6 1 (ui Tryz.prog Xr 0 zlx (wr 0 1 (V8 a0 a1) (z0q a0 a1) (z4z a0 a1) o))) [(0, .str a0), (1, .isl 3 (a1.map z6) false), (5, .osl (0, 0) 4 (v5.map z7)), (6, i6 v6), (9, .ptr (1, 0) 0 0)] [((0, 0), .tok), ((1, 0), .one [i6 v14, i6 v13, i6 ((a1.getD v6.toNat default).f_Length), i6 ((a1.getD v6.toNat default).f_Kind)])] 2 := by
 unfold zy at h
 refine ye ?_
 obtain ⟨h36, h⟩ := zo h
 refine EX ((v5 ++ ([(G_TokenDelta.mk v14 v13 ((a1.getD v6.toNat default).f_Length) ((a1.getD v6.toNat default).f_Kind))] : List G_TokenDelta)).map z7) (AI (Qv z7 v5 ([(G_TokenDelta.mk v14 v13 ((a1.getD v6.toNat default).f_Length) ((a1.getD v6.toNat default).f_Kind))] : List G_TokenDelta)) (AI h36 ?_))
 refine ye ?_
 cases h
 exact AI rfl (xg (M := [((0, 0), (2, 0))]) rfl (S2 rfl rfl (AI (Vw.osl _ _ _ _ rfl) (AI (VS rfl) TT))) (AI (AI rfl BVw.tok) TT))
noncomputable def qp (m : Option Nat) (v5 : List G_TokenDelta) : Option (List G_TokenDelta) :=
 some v5
noncomputable def zx (m : Option Nat) (a0 : List UInt8) (a1 : List G_SemanticToken) (v5 : List G_TokenDelta) (v6 : Int) : Option (((List G_TokenDelta) × Int) ⊕ (List G_TokenDelta)) :=
 if (decide (v6 < ((a1.map z6).length : Int))) = true then
  if (0 : Int) ≤ v6 ∧ v6 < ((a1.map z6).length : Int) then
  (yg m a0 ((a1.getD v6.toNat default).f_Start)).bind fun v11 =>
  if (0 : Int) ≤ v6 ∧ v6 < ((a1.map z6).length : Int) then
  if (0 : Int) ≤ v6 ∧ v6 < ((a1.map z6).length : Int) then
  if (decide (v6 > 0)) = true then
   if (0 : Int) ≤ (W (v6 - 1)) ∧ (W (v6 - 1)) < ((a1.map z6).length : Int) then
   (yg m a0 ((a1.getD ((W (v6 - 1)).toNat) default).f_Start)).bind fun v12 =>
   if ((W (v11.1 - v12.1)) == 0) = true then
    if (0 : Int) ≤ v6 ∧ v6 < ((a1.map z6).length : Int) then
    if (0 : Int) ≤ (W (v6 - 1)) ∧ (W (v6 - 1)) < ((a1.map z6).length : Int) then
    zy m a0 a1 v5 v6 (W ((a1.getD v6.toNat default).f_Start - (a1.getD ((W (v6 - 1)).toNat) default).f_Start)) (W (v11.1 - v12.1))
    else none
    else none
   else
    zy m a0 a1 v5 v6 v11.2 (W (v11.1 - v12.1))
   else none
  else
   zy m a0 a1 v5 v6 v11.2 v11.1
  else none
  else none
  else none
 else
  Option.map Sum.inr (
   qp m v5)
noncomputable def yq (m : Option Nat) (a0 : List UInt8) (a1 : List G_SemanticToken) (v5 : List G_TokenDelta) (v6 : Int) : Option (List G_TokenDelta) := vr m (fun (s : ((List G_TokenDelta) × Int)) => zx m a0 a1 s.1 s.2) (v5, v6)
theorem zfu {a0 : List UInt8} {a1 : List G_SemanticToken} {v5 : List G_TokenDelta} {m : Option Nat} {o : (List G_TokenDelta)} (h : qp m v5 = some o) :
 LWp Tryz.prog Xr 0 zee (zno a0 a1 o) [(5, .osl (0, 0) 4 (v5.map z7))] [((0, 0), .tok)] 1 := by
 unfold qp at h
 refine zp (ye ?_)
 refine Zk ?_
 cases h
 exact AI TT (AI rfl (Vw.oslI _ _ _))
theorem z9a {a0 : List UInt8} {a1 : List G_SemanticToken} {v5 : List G_TokenDelta} {v6 : Int} {m : Option Nat} {o : ((List G_TokenDelta) × Int) ⊕ (List G_TokenDelta)} (h : zx m a0 a1 v5 v6 = some o) :
 LWp Tryz.prog Xr 0 zjj (wr 0 1 (V8 a0 a1) (z0q a0 a1) (z4z a0 a1) o) [(0, .str a0), (1, .isl 3 (a1.map z6) false), (5, .osl (0, 0) 4 (v5.map z7)), (6, i6 v6)] [((0, 0), .tok)] 1 := by
 unfold zx at h
 refine zp ?_
 refine zp (ye ?_)
 refine j0 (v := (decide (v6 < ((a1.map z6).length : Int)))) rfl TT (fun h25 => ?_) (fun h25 => ?_)
 ·have h := yy h25 h
  refine jc ?_
  refine zp ?_
  refine xx ?_
  refine zp (ye ?_)
  obtain ⟨h26, h⟩ := zo h
  refine AI h26 ?_
  refine EX (z6 (a1.getD v6.toNat default)) (AI (qd z6 _ _ (xh z6 h26)) (AI (AI (jk h26) (NB rfl)) ?_))
  obtain ⟨v11, h27, h⟩ := bind_some h
  refine PFn.call (zgz h27) (S2 rfl rfl TT) ?_
  refine LWp.sim (e := [(0, .str a0), (1, .isl 3 (a1.map z6) false), (5, .osl (0, 0) 4 (v5.map z7)), (6, i6 v6), (7, i6 v11.1), (8, i6 v11.2)]) (L := [((0, 0), .tok)]) (n := 1) ?_ ?_
  ·exact xg (M := [((0, 0), (0, 0))]) rfl (S2 rfl rfl (AI (Vw.osl _ _ _ _ rfl) (S2 rfl rfl (AI (VS rfl) TT)))) (AI (AI rfl BVw.tok) TT)
  refine zp ?_
  refine zg0 ?_
  obtain ⟨h28, h⟩ := zo h
  refine AI h28 ?_
  refine EX (z6 (a1.getD v6.toNat default)) (AI (qd z6 _ _ (xh z6 h28)) (AI (AI (jk h28) (NB rfl)) ?_))
  obtain ⟨h29, h⟩ := zo h
  refine AI h29 ?_
  refine EX (z6 (a1.getD v6.toNat default)) (AI (qd z6 _ _ (xh z6 h29)) (AI (AI (jk h29) (NB rfl)) ?_))
  refine AI (AI (AI (jk h29) (NB rfl)) (congrArg (yh false 1 2) (qd z6 _ _ (xh z6 h29)))) ?_
  refine AI (AI (AI (jk h28) (NB rfl)) (congrArg (yh false 1 1) (qd z6 _ _ (xh z6 h28)))) ?_
  refine LWp.sim (e := [(0, .str a0), (1, .isl 3 (a1.map z6) false), (5, .osl (0, 0) 4 (v5.map z7)), (6, i6 v6), (7, i6 v11.1), (9, .ptr (1, 0) 0 0)]) (L := [((0, 0), .tok), ((1, 0), .one [i6 v11.1, i6 v11.2, i6 ((a1.getD v6.toNat default).f_Length), i6 ((a1.getD v6.toNat default).f_Kind)])]) (n := 2) ?_ ?_
  ·exact xg (M := [((0, 0), (0, 0)), ((1, 0), (1, 0))]) rfl (S2 rfl rfl (AI (Vw.osl _ _ _ _ rfl) (S2 rfl rfl (SP rfl TT)))) (AI (AI rfl BVw.tok) (AI (AI rfl (OL rfl)) TT))
  refine zp ?_
  refine zp (ye ?_)
  refine j0 (v := (decide (v6 > 0))) rfl TT (fun h30 => ?_) (fun h30 => ?_)
  ·have h := yy h30 h
   refine zp (ye ?_)
   obtain ⟨h31, h⟩ := zo h
   refine AI h31 ?_
   refine EX (z6 (a1.getD ((W (v6 - 1)).toNat) default)) (AI (qd z6 _ _ (xh z6 h31)) (AI (AI (jk h31) (NB rfl)) ?_))
   obtain ⟨v12, h32, h⟩ := bind_some h
   refine PFn.call (zgz h32) (S2 rfl rfl TT) ?_
   refine LWp.sim (e := [(0, .str a0), (1, .isl 3 (a1.map z6) false), (5, .osl (0, 0) 4 (v5.map z7)), (6, i6 v6), (7, i6 v11.1), (9, .ptr (1, 0) 0 0), (10, i6 v12.1)]) (L := [((0, 0), .tok), ((1, 0), .one [i6 v11.1, i6 v11.2, i6 ((a1.getD v6.toNat default).f_Length), i6 ((a1.getD v6.toNat default).f_Kind)])]) (n := 2) ?_ ?_
   ·exact xg (M := [((0, 0), (0, 0)), ((1, 0), (1, 0))]) rfl (S2 rfl rfl (AI (Vw.osl _ _ _ _ rfl) (S2 rfl rfl (SP rfl (AI (VS rfl) TT))))) (AI (AI rfl BVw.tok) (AI (AI rfl (OL rfl)) TT))
   refine zp (ye ?_)
   refine zp (ye ?_)
   refine LWp.sim (e := [(0, .str a0), (1, .isl 3 (a1.map z6) false), (5, .osl (0, 0) 4 (v5.map z7)), (6, i6 v6), (9, .ptr (1, 0) 0 0), (60, .bool ((W (v11.1 - v12.1)) == 0))]) (L := [((0, 0), .tok), ((1, 0), .one [i6 (W (v11.1 - v12.1)), i6 v11.2, i6 ((a1.getD v6.toNat default).f_Length), i6 ((a1.getD v6.toNat default).f_Kind)])]) (n := 2) ?_ ?_
   ·exact xg (M := [((0, 0), (0, 0)), ((1, 0), (1, 0))]) rfl (S2 rfl rfl (AI (Vw.osl _ _ _ _ rfl) (AI (VS rfl) (SP rfl (AI (VS rfl) TT))))) (AI (AI rfl BVw.tok) (AI (AI rfl (OL rfl)) TT))
   refine j0 (v := ((W (v11.1 - v12.1)) == 0)) rfl TT (fun h33 => ?_) (fun h33 => ?_)
   ·have h := yy h33 h
    refine zob rfl ?_
    obtain ⟨h34, h⟩ := zo h
    refine AI h34 ?_
    refine EX (z6 (a1.getD v6.toNat default)) (AI (qd z6 _ _ (xh z6 h34)) (AI (AI (jk h34) (NB rfl)) ?_))
    obtain ⟨h35, h⟩ := zo h
    refine AI h35 ?_
    refine EX (z6 (a1.getD ((W (v6 - 1)).toNat) default)) (AI (qd z6 _ _ (xh z6 h35)) (AI (AI (jk h35) (NB rfl)) ?_))
    refine LWp.sim ?_ (z04 h)
    exact xg (M := [((0, 0), (0, 0)), ((1, 0), (1, 0))]) rfl (S2 rfl rfl (AI (Vw.osl _ _ _ _ rfl) (AI (VS rfl) (SP rfl TT)))) (AI (AI rfl BVw.tok) (AI (AI rfl (OL rfl)) TT))
   ·have h := q9 h33 h
    refine jc ?_
    refine LWp.sim ?_ (z04 h)
    exact xg (M := [((0, 0), (0, 0)), ((1, 0), (1, 0))]) rfl (S2 rfl rfl (AI (Vw.osl _ _ _ _ rfl) (AI (VS rfl) (SP rfl TT)))) (AI (AI rfl BVw.tok) (AI (AI rfl (OL rfl)) TT))
  ·have h := q9 h30 h
   refine jc ?_
   refine LWp.sim ?_ (z04 h)
   exact xg (M := [((0, 0), (0, 0)), ((1, 0), (1, 0))]) rfl (S2 rfl rfl (AI (Vw.osl _ _ _ _ rfl) (AI (VS rfl) (SP rfl TT)))) (AI (AI rfl BVw.tok) (AI (AI rfl (OL rfl)) TT))
 ·have h := q9 h25 h
  refine Zo ?_
  obtain ⟨o, hq, rfl⟩ := Option.map_eq_some_iff.1 h
  replace h := hq; clear hq
  refine AI nofun ?_
  refine LWp.sim ?_ (zfu h)
  exact xg (M := [((0, 0), (0, 0))]) rfl (AI (Vw.osl _ _ _ _ rfl) TT) (AI (AI rfl BVw.tok) TT)
theorem zfc {a0 : List UInt8} {a1 : List G_SemanticToken} {v5 : List G_TokenDelta} {v6 : Int} {m : Option Nat} {o : (List G_TokenDelta)} (h : yq m a0 a1 v5 v6 = some o) :
 LWp Tryz.prog Xr 0 (.loop zjj) (x6 0 (ui Tryz.prog Xr 0 zee (zno a0 a1 o))) [(0, .str a0), (1, .isl 3 (a1.map z6) false), (5, .osl (0, 0) 4 (v5.map z7)), (6, i6 v6)] [((0, 0), .tok)] 1 :=
 j5 (m := m) (s := ((v5, v6) : ((List G_TokenDelta) × Int))) (r := o) (fun (s : ((List G_TokenDelta) × Int)) => zx m a0 a1 s.1 s.2) (V8 a0 a1) (z0q a0 a1) (z4z a0 a1) (fun s o h => z9a h) h
noncomputable def y8 (m : Option Nat) (a0 : List UInt8) (a1 : List G_SemanticToken) : Option (List G_TokenDelta) :=
 yq m a0 a1 [] 0
theorem zel {a0 : List UInt8} {a1 : List G_SemanticToken} {m : Option Nat} {o : (List G_TokenDelta)} (h : y8 m a0 a1 = some o) : LWp Tryz.prog Xr 0 zkm (zno a0 a1 o) (je 0 [.str a0, .isl 3 (a1.map z6) false]) [] 0 := by
 unfold y8 at h
 refine zp (ye ?_)
 refine zp (ye ?_)
 refine zp ?_
 refine zp (ye ?_)
 refine xx ?_
 refine LWp.sim ?_ (zfc h)
 exact xg (M := []) rfl (S2 rfl rfl (AI (Vw.nilO _ _ (by decide)) (AI (VS rfl) TT))) (AI (AI rfl (AI (by decide) (by decide))) TT)
theorem zkl {a0 : List UInt8} {a1 : List G_SemanticToken} {m : Option Nat} {o : (List G_TokenDelta)} (h : y8 m a0 a1 = some o) : PFn Tryz.prog 9 [.str a0, .isl 3 (a1.map z6) false] (.isl 4 (o.map z7) false) := PFn.ofFnW (L := zp5) zlo zmn (NB rfl) rfl (zel h)
def zgy : LCode := (.seq (.region [Qm 60 0,
 Qm 61 11,
 Qm 62 10,
 Qm 63 7,
 Qo 64 (.iaddr 3 (.t 62) (.t 63)),
 Qt 65 3 64,
 Qo 66 (.mkSl true 3 [(i6 0), (i6 0), (i6 0)] 1 [(0, (.t 65))]),
 Qo 67 (.app true 3 24 (.t 61) (.t 66)),
 Qo 68 (.call 9 [(.t 60), (.t 67)]),
 Qm 12 68])
 (.seq (.quiet [Qm 69 12,
  Qm 70 12,
  Qo 71 (.len false (.t 70)),
  Qo 72 (.bin .sub (.t 71) (.c (i6 1))),
  Qo 73 (.iaddr 4 (.t 69) (.t 72)),
  Qt 74 4 73,
  Qm 75 1,
  Qm 76 7,
  Qo 77 (.iaddr 4 (.t 75) (.t 76)),
  Qt 78 4 77,
  Qo 79 (.eq false (.agg [.int, .int, .int, .int]) (.t 74) (.t 78))])
 (.cond (.t 79)
  (.region [Qm 80 10,
   Qm 6 80,
   Qo 8 (.mv (.c (.bool true)))])
  .skip)))
def zbe : LCode := (.region [Qm 27 9,
 Qo 28 (.bin .add (.t 27) (.c (i6 1))),
 Qm 9 28])
def zdf : LCode := (.seq (.seq (.region [Qm 19 9,
 Qm 20 0,
 Qo 21 (.len true (.t 20)),
 Qo 22 (.bin .leq (.t 19) (.t 21)),
 Qm 23 22,
 Qn 24 8 (23, true),
 Qg 25 (.un .not (.t 24)) (23, true),
 Qp 26 23 25])
 (.cond (.t 26)
  .skip
  (.exit 2)))
 (.seq (.block 3
  (.seq (.draw [⟨Qm 30 6, []⟩,
   ⟨Qm 32 9, []⟩,
   ⟨Qm 33 1, []⟩,
   ⟨Qm 34 7, []⟩,
   ⟨Qo 35 (.iaddr 4 (.t 33) (.t 34)), []⟩,
   ⟨Qf 36 2 35, []⟩,
   ⟨Ql 37 1 36, []⟩,
   ⟨Qm 38 1, []⟩,
   ⟨Qm 39 7, []⟩,
   ⟨Qo 40 (.iaddr 4 (.t 38) (.t 39)), []⟩,
   ⟨Qf 41 3 40, []⟩,
   ⟨Ql 42 1 41, []⟩,
   ⟨Qo 43 (.build [(i6 0), (i6 0), (i6 0)] [(0, 1, (.t 32)), (1, 1, (.t 37)), (2, 1, (.t 42))]), []⟩,
   ⟨Qo 29 (.mkSl true 3 [(i6 0), (i6 0), (i6 0)] 0 []), []⟩,
   ⟨Qo 44 (.mkSl true 3 [(i6 0), (i6 0), (i6 0)] 1 [(0, (.t 43))]), []⟩,
   ⟨Qo 31 (.app true 3 24 (.t 29) (.t 30)), [6, 11]⟩,
   ⟨Qo 45 (.app true 3 24 (.t 31) (.t 44)), []⟩,
   ⟨Qm 10 45, []⟩])
  (.seq (.seq (.region [Qm 46 0,
   Qm 47 10,
   Qo 48 (.call 8 [(.t 46), (.t 47)]),
   Qo 49 (.un .not (.t 48))])
  (.cond (.t 49)
   (.exit 3)
   .skip))
  (.seq (.region [Qo 11 (.mv (.c (.val (.slice none 0 0))))])
  (.seq (.seq (.region [Qm 50 7,
   Qo 51 (.bin .gtr (.t 50) (.c (i6 0)))])
  (.cond (.t 51)
   (.region [Qm 52 11,
    Qm 53 6,
    Qm 54 7,
    Qo 55 (.bin .sub (.t 54) (.c (i6 1))),
    Qo 56 (.iaddr 3 (.t 53) (.t 55)),
    Qt 57 3 56,
    Qo 58 (.mkSl true 3 [(i6 0), (i6 0), (i6 0)] 1 [(0, (.t 57))]),
    Qo 59 (.app true 3 24 (.t 52) (.t 58)),
    Qm 11 59])
   .skip))
  zgy)))))
 zbe))
def z6x : LCode := (.seq (.region [Qm 81 8,
 Qo 82 (.un .not (.t 81))])
 (.cond (.t 82)
  (.seq (.region [Qo 4 (.mv (.c (.val (.slice none 0 0)))),
   Qb 5])
  .ret)
  .skip))
def z2o : LCode := (.region [Qm 17 7,
 Qo 18 (.bin .add (.t 17) (.c (i6 1))),
 Qm 7 18])
def zcn : LCode := (.seq (.seq (.region [Qm 13 7,
 Qm 14 1,
 Qo 15 (.len false (.t 14)),
 Qo 16 (.bin .lss (.t 13) (.t 15))])
 (.cond (.t 16)
  .skip
  (.exit 0)))
 (.seq (.block 1
  (.seq (.region [Qb 8])
  (.seq (.seq (.region [Qi 9 0])
  (.block 2
   (.loop
    zdf)))
  z6x)))
 z2o))
def z6n : LCode := (.seq (.region [Qm 83 6,
 Qm 4 83,
 Qo 5 (.mv (.c (.bool true)))])
 .ret)
def zgv : LCode := (.seq (.region [Qo 4 (.mv (.c (.val (.slice none 0 0)))),
 Qb 5])
 (.seq (.region [Qo 6 (.mv (.c (.val (.slice none 0 0))))])
 (.seq (.seq (.region [Qi 7 0])
 (.block 0
  (.loop
   zcn)))
 z6n)))
def jq : Lay := ⟨84, [], false⟩
def zbr : List LRes := [.t 4, .t 5]
def zka : LFn := ⟨2, jq, zgv, zbr⟩
theorem zho : vu Tryz.prog [] 10 = some zka := by kernel_rfl
theorem zjc : Qh Tryz.prog 10 := ⟨_, Tryz.func10, rfl, rfl⟩
def zfe (a0 : List UInt8) (a1 : List G_TokenDelta) (o : (List G_SemanticToken) × Bool) : Exit → Env → AHeap → Nat → Prop := z19 zbr (w8 (.tup [.isl 3 (o.1.map z6) false, .bool o.2]))
def ku (a0 : List UInt8) (a1 : List G_TokenDelta) (s : ((List G_SemanticToken) × Int)) : Env := [(0, .str a0), (1, .isl 4 (a1.map z7) false), (6, .osl (0, 0) 3 (s.1.map z6)), (7, i6 s.2)]
def um (a0 : List UInt8) (a1 : List G_TokenDelta) (s : ((List G_SemanticToken) × Int)) : AHeap := [((0, 0), .tok)]
def Yi (a0 : List UInt8) (a1 : List G_TokenDelta) (o : ((List G_SemanticToken) × Bool)) : Exit → Env → AHeap → Nat → Prop := (x6 0 (ui Tryz.prog jq 0 z6n (zfe a0 a1 o)))
def Yd (a0 : List UInt8) (a1 : List G_TokenDelta) (v19 : Int) (s : ((List G_SemanticToken) × Bool × Int)) : Env := [(0, .str a0), (1, .isl 4 (a1.map z7) false), (6, .osl (0, 0) 3 (s.1.map z6)), (7, i6 v19), (8, .bool s.2.1), (9, i6 s.2.2)]
def Xk (a0 : List UInt8) (a1 : List G_TokenDelta) (v19 : Int) (s : ((List G_SemanticToken) × Bool × Int)) : AHeap := [((0, 0), .tok)]
def Wc (a0 : List UInt8) (a1 : List G_TokenDelta) (o : (((List G_SemanticToken) × Int) ⊕ ((List G_SemanticToken) × Bool))) : Exit → Env → AHeap → Nat → Prop := (x6 2 (ui Tryz.prog jq 0 z6x (x6 1 (ui Tryz.prog jq 0 z2o (wr 0 1 (ku a0 a1) (um a0 a1) (Yi a0 a1) o)))))
noncomputable def zu (m : Option Nat) (a0 : List UInt8) (a1 : List G_TokenDelta) (v19 : Int) (v45 : Int) (v54 : List G_SemanticToken) (v55 : Bool) : Option (((List G_SemanticToken) × Bool × Int) ⊕ (((List G_SemanticToken) × Int) ⊕ ((List G_SemanticToken) × Bool))) :=
 some (.inl (v54, v55, (W (v45 + 1))))
noncomputable def zw (m : Option Nat) (a0 : List UInt8) (a1 : List G_TokenDelta) (v19 : Int) (v43 : List G_SemanticToken) (v44 : Bool) (v45 : Int) (v52 : List G_SemanticToken) : Option (((List G_SemanticToken) × Bool × Int) ⊕ (((List G_SemanticToken) × Int) ⊕ ((List G_SemanticToken) × Bool))) :=
 if (0 : Int) ≤ v19 ∧ v19 < ((((([] : List G_SemanticToken) ++ v43) ++ ([(G_SemanticToken.mk v45 ((a1.getD v19.toNat default).f_Length) ((a1.getD v19.toNat default).f_Kind))] : List G_SemanticToken)).map z6).length : Int) then
 if ((v52 ++ ([(G_SemanticToken.mk ((((([] : List G_SemanticToken) ++ v43) ++ ([(G_SemanticToken.mk v45 ((a1.getD v19.toNat default).f_Length) ((a1.getD v19.toNat default).f_Kind))] : List G_SemanticToken)).getD v19.toNat default).f_Start) ((((([] : List G_SemanticToken) ++ v43) ++ ([(G_SemanticToken.mk v45 ((a1.getD v19.toNat default).f_Length) ((a1.getD v19.toNat default).f_Kind))] : List G_SemanticToken)).getD v19.toNat default).f_Length) ((((([] : List G_SemanticToken) ++ v43) ++ ([(G_SemanticToken.mk v45 ((a1.getD v19.toNat default).f_Length) ((a1.getD v19.toNat default).f_Kind))] : List G_SemanticToken)).getD v19.toNat default).f_Kind))] : List G_SemanticToken)).map z6).length * 24 ≤ 140737488355328 then
 (y8 m a0 (v52 ++ ([(G_SemanticToken.mk ((((([] : List G_SemanticToken) ++ v43) ++ ([(G_SemanticToken.mk v45 ((a1.getD v19.toNat default).f_Length) ((a1.getD v19.toNat default).f_Kind))] : List G_SemanticToken)).getD v19.toNat default).f_Start) ((((([] : List G_SemanticToken) ++ v43) ++ ([(G_SemanticToken.mk v45 ((a1.getD v19.toNat default).f_Length) ((a1.getD v19.toNat default).f_Kind))] : List G_SemanticToken)).getD v19.toNat default).f_Length) ((((([] : List G_SemanticToken) ++ v43) ++ ([(G_SemanticToken.mk v45 ((a1.getD v19.toNat default).f_Length) ((a1.getD v19.toNat default).f_Kind))] : List G_SemanticToken)).getD v19.toNat default).f_Kind))] : List G_SemanticToken))).bind fun v53 =>
 if (0 : Int) ≤ (W (((v53.map z7).length : Int) - 1)) ∧ (W (((v53.map z7).length : Int) - 1)) < ((v53.map z7).length : Int) then
 if (0 : Int) ≤ v19 ∧ v19 < ((a1.map z7).length : Int) then
 if (((v53.getD ((W (((v53.map z7).length : Int) - 1)).toNat) default).f_DeltaLine == (a1.getD v19.toNat default).f_DeltaLine) && (((v53.getD ((W (((v53.map z7).length : Int) - 1)).toNat) default).f_DeltaStart == (a1.getD v19.toNat default).f_DeltaStart) && (((v53.getD ((W (((v53.map z7).length : Int) - 1)).toNat) default).f_Length == (a1.getD v19.toNat default).f_Length) && (((v53.getD ((W (((v53.map z7).length : Int) - 1)).toNat) default).f_Kind == (a1.getD v19.toNat default).f_Kind) && true)))) = true then
  zu m a0 a1 v19 v45 ((([] : List G_SemanticToken) ++ v43) ++ ([(G_SemanticToken.mk v45 ((a1.getD v19.toNat default).f_Length) ((a1.getD v19.toNat default).f_Kind))] : List G_SemanticToken)) true
 else
  zu m a0 a1 v19 v45 v43 v44
 else none
 else none
 else none
 else none
theorem J1 {a0 : List UInt8} {a1 : List G_TokenDelta} {v19 : Int} {v45 : Int} {v54 : List G_SemanticToken} {v55 : Bool} {m : Option Nat} {o : (((List G_SemanticToken) × Bool × Int) ⊕ (((List G_SemanticToken) × Int) ⊕ ((List G_SemanticToken) × Bool)))} (h : zu m a0 a1 v19 v45 v54 v55 = some o) :
 LWp Tryz.prog jq 0 zbe (wr 0 1 (Yd a0 a1 v19) (Xk a0 a1 v19) (Wc a0 a1) o) [(0, .str a0), (1, .isl 4 (a1.map z7) false), (6, .osl (0, 0) 3 (v54.map z6)), (7, i6 v19), (8, .bool v55), (9, i6 v45)] [((0, 0), .tok)] 1 := by
 unfold zu at h
 refine ye ?_
 cases h
 exact AI rfl (xg (M := [((0, 0), (0, 0))]) rfl (S2 rfl rfl (AI (Vw.osl _ _ _ _ rfl) (S2 rfl rfl (AI (VS rfl) TT)))) (AI (AI rfl BVw.tok) TT))
theorem Uh {a0 : List UInt8} {a1 : List G_TokenDelta} {v19 : Int} {v43 : List G_SemanticToken} {v44 : Bool} {v45 : Int} {v52 : List G_SemanticToken} {m : Option Nat} {o : (((List G_SemanticToken) × Bool × Int) ⊕ (((List G_SemanticToken) × Int) ⊕ ((List G_SemanticToken) × Bool)))} (h : zw m a0 a1 v19 v43 v44 v45 v52 = some o) :
 LWp Tryz.prog jq 0 zgy (x6 3 (ui Tryz.prog jq 0 zbe (wr 0 1 (Yd a0 a1 v19) (Xk a0 a1 v19) (Wc a0 a1) o))) [(0, .str a0), (1, .isl 4 (a1.map z7) false), (6, .osl (0, 0) 3 (v43.map z6)), (7, i6 v19), (8, .bool v44), (9, i6 v45), (10, .osl (1, 0) 3 (((([] : List G_SemanticToken) ++ v43) ++ ([(G_SemanticToken.mk v45 ((a1.getD v19.toNat default).f_Length) ((a1.getD v19.toNat default).f_Kind))] : List G_SemanticToken)).map z6)), (11, .osl (2, 0) 3 (v52.map z6))] [((0, 0), .tok), ((1, 0), .tok), ((2, 0), .tok)] 3 := by
 unfold zw at h
 refine zp (ye ?_)
 obtain ⟨h142, h⟩ := zo h
 refine AI h142 ?_
 refine EX (z6 (((([] : List G_SemanticToken) ++ v43) ++ ([(G_SemanticToken.mk v45 ((a1.getD v19.toNat default).f_Length) ((a1.getD v19.toNat default).f_Kind))] : List G_SemanticToken)).getD v19.toNat default)) (AI (qd z6 _ _ (xh z6 h142)) (AI (AI (jk h142) (NB rfl)) ?_))
 obtain ⟨h143, h⟩ := zo h
 refine EX ((v52 ++ ([(G_SemanticToken.mk ((((([] : List G_SemanticToken) ++ v43) ++ ([(G_SemanticToken.mk v45 ((a1.getD v19.toNat default).f_Length) ((a1.getD v19.toNat default).f_Kind))] : List G_SemanticToken)).getD v19.toNat default).f_Start) ((((([] : List G_SemanticToken) ++ v43) ++ ([(G_SemanticToken.mk v45 ((a1.getD v19.toNat default).f_Length) ((a1.getD v19.toNat default).f_Kind))] : List G_SemanticToken)).getD v19.toNat default).f_Length) ((((([] : List G_SemanticToken) ++ v43) ++ ([(G_SemanticToken.mk v45 ((a1.getD v19.toNat default).f_Length) ((a1.getD v19.toNat default).f_Kind))] : List G_SemanticToken)).getD v19.toNat default).f_Kind))] : List G_SemanticToken)).map z6) (AI (Qv z6 v52 ([(G_SemanticToken.mk ((((([] : List G_SemanticToken) ++ v43) ++ ([(G_SemanticToken.mk v45 ((a1.getD v19.toNat default).f_Length) ((a1.getD v19.toNat default).f_Kind))] : List G_SemanticToken)).getD v19.toNat default).f_Start) ((((([] : List G_SemanticToken) ++ v43) ++ ([(G_SemanticToken.mk v45 ((a1.getD v19.toNat default).f_Length) ((a1.getD v19.toNat default).f_Kind))] : List G_SemanticToken)).getD v19.toNat default).f_Length) ((((([] : List G_SemanticToken) ++ v43) ++ ([(G_SemanticToken.mk v45 ((a1.getD v19.toNat default).f_Length) ((a1.getD v19.toNat default).f_Kind))] : List G_SemanticToken)).getD v19.toNat default).f_Kind))] : List G_SemanticToken)) (AI h143 ?_))
 obtain ⟨v53, h144, h⟩ := bind_some h
 refine PFn.call (zkl h144) (AI (VS rfl) (AI (Vw.oslI _ _ _) TT)) ?_
 refine LWp.sim (e := [(0, .str a0), (1, .isl 4 (a1.map z7) false), (6, .osl (0, 0) 3 (v43.map z6)), (7, i6 v19), (8, .bool v44), (9, i6 v45), (10, .osl (1, 0) 3 (((([] : List G_SemanticToken) ++ v43) ++ ([(G_SemanticToken.mk v45 ((a1.getD v19.toNat default).f_Length) ((a1.getD v19.toNat default).f_Kind))] : List G_SemanticToken)).map z6)), (12, .isl 4 (v53.map z7) false)]) (L := [((0, 0), .tok), ((1, 0), .tok)]) (n := 2) ?_ ?_
 ·exact xg (M := [((0, 0), (0, 0)), ((1, 0), (1, 0))]) rfl (S2 rfl rfl (AI (Vw.osl _ _ _ _ rfl) (S2 rfl rfl (AI (VS rfl) (AI (Vw.osl _ _ _ _ rfl) (AI (VS rfl) TT)))))) (AI (AI rfl BVw.tok) (AI (AI rfl BVw.tok) TT))
 refine zp ?_
 refine z2a ?_
 obtain ⟨h145, h⟩ := zo h
 refine AI h145 ?_
 refine EX (z7 (v53.getD ((W (((v53.map z7).length : Int) - 1)).toNat) default)) (AI (qd z7 _ _ (xh z7 h145)) (AI (AI (jk h145) (NB rfl)) ?_))
 obtain ⟨h146, h⟩ := zo h
 refine AI h146 ?_
 refine EX (z7 (a1.getD v19.toNat default)) (AI (qd z7 _ _ (xh z7 h146)) (AI (AI (jk h146) (NB rfl)) ?_))
 refine LWp.sim (e := [(0, .str a0), (1, .isl 4 (a1.map z7) false), (6, .osl (0, 0) 3 (v43.map z6)), (7, i6 v19), (8, .bool v44), (9, i6 v45), (10, .osl (1, 0) 3 (((([] : List G_SemanticToken) ++ v43) ++ ([(G_SemanticToken.mk v45 ((a1.getD v19.toNat default).f_Length) ((a1.getD v19.toNat default).f_Kind))] : List G_SemanticToken)).map z6)), (79, .bool (((v53.getD ((W (((v53.map z7).length : Int) - 1)).toNat) default).f_DeltaLine == (a1.getD v19.toNat default).f_DeltaLine) && (((v53.getD ((W (((v53.map z7).length : Int) - 1)).toNat) default).f_DeltaStart == (a1.getD v19.toNat default).f_DeltaStart) && (((v53.getD ((W (((v53.map z7).length : Int) - 1)).toNat) default).f_Length == (a1.getD v19.toNat default).f_Length) && (((v53.getD ((W (((v53.map z7).length : Int) - 1)).toNat) default).f_Kind == (a1.getD v19.toNat default).f_Kind) && true)))))]) (L := [((0, 0), .tok), ((1, 0), .tok)]) (n := 2) ?_ ?_
 ·exact xg (M := [((0, 0), (0, 0)), ((1, 0), (1, 0))]) rfl (S2 rfl rfl (AI (Vw.osl _ _ _ _ rfl) (S2 rfl rfl (AI (VS rfl) (AI (Vw.osl _ _ _ _ rfl) (AI (VS rfl) TT)))))) (AI (AI rfl BVw.tok) (AI (AI rfl BVw.tok) TT))
 refine j0 (v := (((v53.getD ((W (((v53.map z7).length : Int) - 1)).toNat) default).f_DeltaLine == (a1.getD v19.toNat default).f_DeltaLine) && (((v53.getD ((W (((v53.map z7).length : Int) - 1)).toNat) default).f_DeltaStart == (a1.getD v19.toNat default).f_DeltaStart) && (((v53.getD ((W (((v53.map z7).length : Int) - 1)).toNat) default).f_Length == (a1.getD v19.toNat default).f_Length) && (((v53.getD ((W (((v53.map z7).length : Int) - 1)).toNat) default).f_Kind == (a1.getD v19.toNat default).f_Kind) && true))))) rfl TT (fun h147 => ?_) (fun h147 => ?_)
 ·have h := yy h147 h
  refine ye ?_
  refine LWp.sim ?_ (J1 h)
  exact xg (M := [((0, 0), (1, 0))]) rfl (S2 rfl rfl (AI (Vw.osl _ _ _ _ rfl) (S2 rfl rfl (AI (VS rfl) TT)))) (AI (AI rfl BVw.tok) TT)
 ·have h := q9 h147 h
  refine jc ?_
  refine LWp.sim ?_ (J1 h)
  exact xg (M := [((0, 0), (0, 0))]) rfl (S2 rfl rfl (AI (Vw.osl _ _ _ _ rfl) (S2 rfl rfl (AI (VS rfl) TT)))) (AI (AI rfl BVw.tok) TT)
noncomputable def qh (m : Option Nat) (a0 : List UInt8) (a1 : List G_TokenDelta) (v19 : Int) (v43 : List G_SemanticToken) : Option (((List G_SemanticToken) × Int) ⊕ ((List G_SemanticToken) × Bool)) :=
 some (.inl (v43, (W (v19 + 1))))
noncomputable def yn (m : Option Nat) (a0 : List UInt8) (a1 : List G_TokenDelta) (v19 : Int) (v43 : List G_SemanticToken) (v44 : Bool) : Option (((List G_SemanticToken) × Int) ⊕ ((List G_SemanticToken) × Bool)) :=
 if (!v44) = true then
  Option.map Sum.inr (
   some ([], false))
 else
  qh m a0 a1 v19 v43
noncomputable def zc (m : Option Nat) (a0 : List UInt8) (a1 : List G_TokenDelta) (v19 : Int) (v43 : List G_SemanticToken) (v44 : Bool) (v45 : Int) : Option (((List G_SemanticToken) × Bool × Int) ⊕ (((List G_SemanticToken) × Int) ⊕ ((List G_SemanticToken) × Bool))) :=
 if ((decide (v45 ≤ (a0.length : Int))) && (!v44)) = true then
  if (0 : Int) ≤ v19 ∧ v19 < ((a1.map z7).length : Int) then
  if (0 : Int) ≤ v19 ∧ v19 < ((a1.map z7).length : Int) then
  if ((([] : List G_SemanticToken) ++ v43).map z6).length * 24 ≤ 140737488355328 then
  if (((([] : List G_SemanticToken) ++ v43) ++ ([(G_SemanticToken.mk v45 ((a1.getD v19.toNat default).f_Length) ((a1.getD v19.toNat default).f_Kind))] : List G_SemanticToken)).map z6).length * 24 ≤ 140737488355328 then
  (y9 m a0 ((([] : List G_SemanticToken) ++ v43) ++ ([(G_SemanticToken.mk v45 ((a1.getD v19.toNat default).f_Length) ((a1.getD v19.toNat default).f_Kind))] : List G_SemanticToken))).bind fun v51 =>
  if (!v51) = true then
   zu m a0 a1 v19 v45 v43 v44
  else
   if (decide (v19 > 0)) = true then
    if (0 : Int) ≤ (W (v19 - 1)) ∧ (W (v19 - 1)) < ((v43.map z6).length : Int) then
    if (([(G_SemanticToken.mk ((v43.getD ((W (v19 - 1)).toNat) default).f_Start) ((v43.getD ((W (v19 - 1)).toNat) default).f_Length) ((v43.getD ((W (v19 - 1)).toNat) default).f_Kind))] : List G_SemanticToken).map z6).length * 24 ≤ 140737488355328 then
    zw m a0 a1 v19 v43 v44 v45 ([(G_SemanticToken.mk ((v43.getD ((W (v19 - 1)).toNat) default).f_Start) ((v43.getD ((W (v19 - 1)).toNat) default).f_Length) ((v43.getD ((W (v19 - 1)).toNat) default).f_Kind))] : List G_SemanticToken)
    else none
    else none
   else
    zw m a0 a1 v19 v43 v44 v45 []
  else none
  else none
  else none
  else none
 else
  Option.map Sum.inr (
   yn m a0 a1 v19 v43 v44)
noncomputable def zk (m : Option Nat) (a0 : List UInt8) (a1 : List G_TokenDelta) (v19 : Int) (v43 : List G_SemanticToken) (v44 : Bool) (v45 : Int) : Option (((List G_SemanticToken) × Int) ⊕ ((List G_SemanticToken) × Bool)) := vr m (fun (s : ((List G_SemanticToken) × Bool × Int)) => zc m a0 a1 v19 s.1 s.2.1 s.2.2) (v43, v44, v45)
theorem z7p {a0 : List UInt8} {a1 : List G_TokenDelta} {v19 : Int} {v43 : List G_SemanticToken} {m : Option Nat} {o : (((List G_SemanticToken) × Int) ⊕ ((List G_SemanticToken) × Bool))} (h : qh m a0 a1 v19 v43 = some o) :
 LWp Tryz.prog jq 0 z2o (wr 0 1 (ku a0 a1) (um a0 a1) (Yi a0 a1) o) [(0, .str a0), (1, .isl 4 (a1.map z7) false), (6, .osl (0, 0) 3 (v43.map z6)), (7, i6 v19)] [((0, 0), .tok)] 1 := by
 unfold qh at h
 refine ye ?_
 cases h
 exact AI rfl (xg (M := [((0, 0), (0, 0))]) rfl (S2 rfl rfl (AI (Vw.osl _ _ _ _ rfl) (AI (VS rfl) TT))) (AI (AI rfl BVw.tok) TT))
theorem z7n {a0 : List UInt8} {a1 : List G_TokenDelta} {v19 : Int} {v43 : List G_SemanticToken} {v44 : Bool} {m : Option Nat} {o : (((List G_SemanticToken) × Int) ⊕ ((List G_SemanticToken) × Bool))} (h : yn m a0 a1 v19 v43 v44 = some o) :
 LWp Tryz.prog jq 0 z6x (x6 1 (ui Tryz.prog jq 0 z2o (wr 0 1 (ku a0 a1) (um a0 a1) (Yi a0 a1) o))) [(0, .str a0), (1, .isl 4 (a1.map z7) false), (6, .osl (0, 0) 3 (v43.map z6)), (7, i6 v19), (8, .bool v44)] [((0, 0), .tok)] 1 := by
 unfold yn at h
 refine zp (ye ?_)
 refine j0 (v := (!v44)) rfl TT (fun h148 => ?_) (fun h148 => ?_)
 ·have h := yy h148 h
  refine zp (ye ?_)
  refine Zk ?_
  obtain ⟨o, hq, rfl⟩ := Option.map_eq_some_iff.1 h
  replace h := hq; clear hq
  refine AI nofun ?_
  cases h
  exact AI TT (AI TT (AI rfl (Vw.tupL (AI (Vw.nilI _ _) (AI (VS rfl) TT)))))
 ·have h := q9 h148 h
  refine jc ?_
  refine LWp.sim ?_ (z7p h)
  exact xg (M := [((0, 0), (0, 0))]) rfl (S2 rfl rfl (AI (Vw.osl _ _ _ _ rfl) (AI (VS rfl) TT))) (AI (AI rfl BVw.tok) TT)
theorem z7i {a0 : List UInt8} {a1 : List G_TokenDelta} {v19 : Int} {v43 : List G_SemanticToken} {v44 : Bool} {v45 : Int} {m : Option Nat} {o : ((List G_SemanticToken) × Bool × Int) ⊕ (((List G_SemanticToken) × Int) ⊕ ((List G_SemanticToken) × Bool))} (h : zc m a0 a1 v19 v43 v44 v45 = some o) :
 LWp Tryz.prog jq 0 zdf (wr 0 1 (Yd a0 a1 v19) (Xk a0 a1 v19) (Wc a0 a1) o) [(0, .str a0), (1, .isl 4 (a1.map z7) false), (6, .osl (0, 0) 3 (v43.map z6)), (7, i6 v19), (8, .bool v44), (9, i6 v45)] [((0, 0), .tok)] 1 := by
 unfold zc at h
 refine zp ?_
 refine zp (ye ?_)
 refine AI (fun hp => hp) ?_
 refine AI (fun hc => (bqt hc)) ?_
 refine LWp.sim (e := [(0, .str a0), (1, .isl 4 (a1.map z7) false), (6, .osl (0, 0) 3 (v43.map z6)), (7, i6 v19), (8, .bool v44), (9, i6 v45), (26, .bool ((decide (v45 ≤ (a0.length : Int))) && (!v44)))]) (L := [((0, 0), .tok)]) (n := 1) ?_ ?_
 ·exact xg (M := [((0, 0), (0, 0))]) rfl (S2 rfl rfl (AI (Vw.osl _ _ _ _ rfl) (S4 rfl rfl rfl rfl TT))) (AI (AI rfl BVw.tok) TT)
 refine j0 (v := ((decide (v45 ≤ (a0.length : Int))) && (!v44))) rfl TT (fun h132 => ?_) (fun h132 => ?_)
 ·have h := yy h132 h
  refine jc ?_
  refine zp ?_
  refine xx ?_
  refine zp ?_
  refine zg0 ?_
  obtain ⟨h133, h⟩ := zo h
  refine AI h133 ?_
  refine EX (z7 (a1.getD v19.toNat default)) (AI (qd z7 _ _ (xh z7 h133)) (AI (AI (jk h133) (NB rfl)) ?_))
  obtain ⟨h134, h⟩ := zo h
  refine AI h134 ?_
  refine EX (z7 (a1.getD v19.toNat default)) (AI (qd z7 _ _ (xh z7 h134)) (AI (AI (jk h134) (NB rfl)) ?_))
  obtain ⟨h135, h⟩ := zo h
  refine EX ((([] : List G_SemanticToken) ++ v43).map z6) (AI (Qv z6 ([] : List G_SemanticToken) v43) (AI (AI rfl h135) ?_))
  refine AI (AI (AI (jk h134) (NB rfl)) (congrArg (yh false 1 3) (qd z7 _ _ (xh z7 h134)))) ?_
  refine AI (AI (AI (jk h133) (NB rfl)) (congrArg (yh false 1 2) (qd z7 _ _ (xh z7 h133)))) ?_
  obtain ⟨h136, h⟩ := zo h
  refine EX (((([] : List G_SemanticToken) ++ v43) ++ ([(G_SemanticToken.mk v45 ((a1.getD v19.toNat default).f_Length) ((a1.getD v19.toNat default).f_Kind))] : List G_SemanticToken)).map z6) (AI (Qv z6 (([] : List G_SemanticToken) ++ v43) ([(G_SemanticToken.mk v45 ((a1.getD v19.toNat default).f_Length) ((a1.getD v19.toNat default).f_Kind))] : List G_SemanticToken)) (AI h136 ?_))
  refine LWp.sim (e := [(0, .str a0), (1, .isl 4 (a1.map z7) false), (6, .osl (0, 0) 3 (v43.map z6)), (7, i6 v19), (8, .bool v44), (9, i6 v45), (10, .osl (1, 0) 3 (((([] : List G_SemanticToken) ++ v43) ++ ([(G_SemanticToken.mk v45 ((a1.getD v19.toNat default).f_Length) ((a1.getD v19.toNat default).f_Kind))] : List G_SemanticToken)).map z6))]) (L := [((0, 0), .tok), ((1, 0), .tok)]) (n := 2) ?_ ?_
  ·exact xg (M := [((0, 0), (0, 0)), ((1, 0), (2, 0))]) rfl (S2 rfl rfl (AI (Vw.osl _ _ _ _ rfl) (S2 rfl rfl (AI (VS rfl) (AI (Vw.osl _ _ _ _ rfl) TT))))) (AI (AI rfl BVw.tok) (AI (AI rfl BVw.tok) TT))
  refine zp ?_
  refine zp (ye ?_)
  obtain ⟨v51, h137, h⟩ := bind_some h
  refine PFn.call (zkb h137) (AI (VS rfl) (AI (Vw.oslI _ _ _) TT)) ?_
  refine j0 (v := (!v51)) rfl TT (fun h138 => ?_) (fun h138 => ?_)
  ·have h := yy h138 h
   refine Zo ?_
   refine LWp.sim ?_ (J1 h)
   exact xg (M := [((0, 0), (0, 0))]) rfl (S2 rfl rfl (AI (Vw.osl _ _ _ _ rfl) (S2 rfl rfl (AI (VS rfl) TT)))) (AI (AI rfl BVw.tok) TT)
  ·have h := q9 h138 h
   refine jc ?_
   refine zp (ye ?_)
   refine zp ?_
   refine zp (ye ?_)
   refine j0 (v := (decide (v19 > 0))) rfl TT (fun h139 => ?_) (fun h139 => ?_)
   ·have h := yy h139 h
    refine ye ?_
    obtain ⟨h140, h⟩ := zo h
    refine AI h140 ?_
    refine EX (z6 (v43.getD ((W (v19 - 1)).toNat) default)) (AI (qd z6 _ _ (xh z6 h140)) (AI (AI (jk h140) (NB rfl)) ?_))
    obtain ⟨h141, h⟩ := zo h
    refine EX (([(G_SemanticToken.mk ((v43.getD ((W (v19 - 1)).toNat) default).f_Start) ((v43.getD ((W (v19 - 1)).toNat) default).f_Length) ((v43.getD ((W (v19 - 1)).toNat) default).f_Kind))] : List G_SemanticToken).map z6) (AI rfl (AI h141 ?_))
    refine LWp.sim ?_ (Uh h)
    exact xg (M := [((0, 0), (0, 0)), ((1, 0), (1, 0)), ((2, 0), (2, 0))]) rfl (S2 rfl rfl (AI (Vw.osl _ _ _ _ rfl) (S2 rfl rfl (AI (VS rfl) (AI (Vw.osl _ _ _ _ rfl) (AI (Vw.osl _ _ _ _ rfl) TT)))))) (AI (AI rfl BVw.tok) (AI (AI rfl BVw.tok) (AI (AI rfl BVw.tok) TT)))
   ·have h := q9 h139 h
    refine jc ?_
    refine LWp.sim ?_ (Uh h)
    exact xg (M := [((0, 0), (0, 0)), ((1, 0), (1, 0))]) rfl (S2 rfl rfl (AI (Vw.osl _ _ _ _ rfl) (S2 rfl rfl (AI (VS rfl) (AI (Vw.osl _ _ _ _ rfl) (AI (Vw.nilO _ _ (by decide)) TT)))))) (AI (AI rfl BVw.tok) (AI (AI rfl BVw.tok) (AI (AI rfl (AI (by decide) (by decide))) TT)))
 ·have h := q9 h132 h
  refine Zo ?_
  obtain ⟨o, hq, rfl⟩ := Option.map_eq_some_iff.1 h
  replace h := hq; clear hq
  refine AI nofun ?_
  refine LWp.sim ?_ (z7n h)
  exact xg (M := [((0, 0), (0, 0))]) rfl (S2 rfl rfl (AI (Vw.osl _ _ _ _ rfl) (S2 rfl rfl TT))) (AI (AI rfl BVw.tok) TT)
theorem zd7 {a0 : List UInt8} {a1 : List G_TokenDelta} {v19 : Int} {v43 : List G_SemanticToken} {v44 : Bool} {v45 : Int} {m : Option Nat} {o : (((List G_SemanticToken) × Int) ⊕ ((List G_SemanticToken) × Bool))} (h : zk m a0 a1 v19 v43 v44 v45 = some o) :
 LWp Tryz.prog jq 0 (.loop zdf) (x6 2 (ui Tryz.prog jq 0 z6x (x6 1 (ui Tryz.prog jq 0 z2o (wr 0 1 (ku a0 a1) (um a0 a1) (Yi a0 a1) o))))) [(0, .str a0), (1, .isl 4 (a1.map z7) false), (6, .osl (0, 0) 3 (v43.map z6)), (7, i6 v19), (8, .bool v44), (9, i6 v45)] [((0, 0), .tok)] 1 :=
 j5 (m := m) (s := ((v43, v44, v45) : ((List G_SemanticToken) × Bool × Int))) (r := o) (fun (s : ((List G_SemanticToken) × Bool × Int)) => zc m a0 a1 v19 s.1 s.2.1 s.2.2) (Yd a0 a1 v19) (Xk a0 a1 v19) (Wc a0 a1) (fun s o h => z7i h) h
noncomputable def qe (m : Option Nat) (v18 : List G_SemanticToken) : Option ((List G_SemanticToken) × Bool) :=
 some (v18, true)
noncomputable def zd (m : Option Nat) (a0 : List UInt8) (a1 : List G_TokenDelta) (v18 : List G_SemanticToken) (v19 : Int) : Option (((List G_SemanticToken) × Int) ⊕ ((List G_SemanticToken) × Bool)) :=
 if (decide (v19 < ((a1.map z7).length : Int))) = true then
  zk m a0 a1 v19 v18 false 0
 else
  Option.map Sum.inr (
   qe m v18)
noncomputable def ql (m : Option Nat) (a0 : List UInt8) (a1 : List G_TokenDelta) (v18 : List G_SemanticToken) (v19 : Int) : Option ((List G_SemanticToken) × Bool) := vr m (fun (s : ((List G_SemanticToken) × Int)) => zd m a0 a1 s.1 s.2) (v18, v19)
theorem z7k {a0 : List UInt8} {a1 : List G_TokenDelta} {v18 : List G_SemanticToken} {m : Option Nat} {o : ((List G_SemanticToken) × Bool)} (h : qe m v18 = some o) :
 LWp Tryz.prog jq 0 z6n (zfe a0 a1 o) [(6, .osl (0, 0) 3 (v18.map z6))] [((0, 0), .tok)] 1 := by
 unfold qe at h
 refine zp (ye ?_)
 refine Zk ?_
 cases h
 exact AI TT (AI TT (AI rfl (Vw.tupL (AI (Vw.oslI _ _ _) (AI (VS rfl) TT)))))
theorem z8b {a0 : List UInt8} {a1 : List G_TokenDelta} {v18 : List G_SemanticToken} {v19 : Int} {m : Option Nat} {o : ((List G_SemanticToken) × Int) ⊕ ((List G_SemanticToken) × Bool)} (h : zd m a0 a1 v18 v19 = some o) :
 LWp Tryz.prog jq 0 zcn (wr 0 1 (ku a0 a1) (um a0 a1) (Yi a0 a1) o) [(0, .str a0), (1, .isl 4 (a1.map z7) false), (6, .osl (0, 0) 3 (v18.map z6)), (7, i6 v19)] [((0, 0), .tok)] 1 := by
 unfold zd at h
 refine zp ?_
 refine zp (ye ?_)
 refine j0 (v := (decide (v19 < ((a1.map z7).length : Int)))) rfl TT (fun h99 => ?_) (fun h99 => ?_)
 ·have h := yy h99 h
  refine jc ?_
  refine zp ?_
  refine xx ?_
  refine zp (ye ?_)
  refine zp ?_
  refine zp (ye ?_)
  refine xx ?_
  refine LWp.sim ?_ (zd7 h)
  exact xg (M := [((0, 0), (0, 0))]) rfl (S2 rfl rfl (AI (Vw.osl _ _ _ _ rfl) (S2 rfl rfl (AI (VS rfl) TT)))) (AI (AI rfl BVw.tok) TT)
 ·have h := q9 h99 h
  refine Zo ?_
  obtain ⟨o, hq, rfl⟩ := Option.map_eq_some_iff.1 h
  replace h := hq; clear hq
  refine AI nofun ?_
  refine LWp.sim ?_ (z7k h)
  exact xg (M := [((0, 0), (0, 0))]) rfl (AI (Vw.osl _ _ _ _ rfl) TT) (AI (AI rfl BVw.tok) TT)
theorem z97 {a0 : List UInt8} {a1 : List G_TokenDelta} {v18 : List G_SemanticToken} {v19 : Int} {m : Option Nat} {o : ((List G_SemanticToken) × Bool)} (h : ql m a0 a1 v18 v19 = some o) :
 LWp Tryz.prog jq 0 (.loop zcn) (x6 0 (ui Tryz.prog jq 0 z6n (zfe a0 a1 o))) [(0, .str a0), (1, .isl 4 (a1.map z7) false), (6, .osl (0, 0) 3 (v18.map z6)), (7, i6 v19)] [((0, 0), .tok)] 1 :=
 j5 (m := m) (s := ((v18, v19) : ((List G_SemanticToken) × Int))) (r := o) (fun (s : ((List G_SemanticToken) × Int)) => zd m a0 a1 s.1 s.2) (ku a0 a1) (um a0 a1) (Yi a0 a1) (fun s o h => z8b h) h
noncomputable def qb (m : Option Nat) (a0 : List UInt8) (a1 : List G_TokenDelta) : Option ((List G_SemanticToken) × Bool) :=
 ql m a0 a1 [] 0
theorem zdg {a0 : List UInt8} {a1 : List G_TokenDelta} {m : Option Nat} {o : (List G_SemanticToken) × Bool} (h : qb m a0 a1 = some o) : LWp Tryz.prog jq 0 zgv (zfe a0 a1 o) (je 0 [.str a0, .isl 4 (a1.map z7) false]) [] 0 := by
 unfold qb at h
 refine zp (ye ?_)
 refine zp (ye ?_)
 refine zp ?_
 refine zp (ye ?_)
 refine xx ?_
 refine LWp.sim ?_ (z97 h)
 exact xg (M := []) rfl (S2 rfl rfl (AI (Vw.nilO _ _ (by decide)) (AI (VS rfl) TT))) (AI (AI rfl (AI (by decide) (by decide))) TT)
theorem zn6 {a0 : List UInt8} {a1 : List G_TokenDelta} {m : Option Nat} {o : (List G_SemanticToken) × Bool} (h : qb m a0 a1 = some o) : PFn Tryz.prog 10 [.str a0, .isl 4 (a1.map z7) false] (.tup [.isl 3 (o.1.map z6) false, .bool o.2]) := PFn.ofFnW (L := zka) zho zjc (NB rfl) rfl (zdg h)
def za5 : LCode := (.seq (.seq (.region [Qm 11 5,
 Qm 12 0,
 Qo 13 (.len false (.t 12)),
 Qo 14 (.bin .lss (.t 11) (.t 13))])
 (.cond (.t 14)
  .skip
  (.exit 0)))
 (.seq (.block 1
  (.seq (.quiet [Qm 17 0,
   Qm 18 5,
   Qo 19 (.iaddr 4 (.t 17) (.t 18)),
   Qt 20 4 19,
   Qm 21 1,
   Qm 22 5,
   Qo 23 (.iaddr 4 (.t 21) (.t 22)),
   Qt 24 4 23,
   Qo 25 (.eq true (.agg [.int, .int, .int, .int]) (.t 20) (.t 24))])
  (.cond (.t 25)
   (.seq (.region [Qb 4])
   .ret)
   .skip)))
 (.region [Qm 15 5,
  Qo 16 (.bin .add (.t 15) (.c (i6 1))),
  Qm 5 16])))
def z5q : LCode := (.seq (.region [Qo 4 (.mv (.c (.bool true)))])
 .ret)
def zgq : LCode := (.seq (.region [Qb 4])
 (.seq (.seq (.region [Qm 6 0,
  Qo 7 (.len false (.t 6)),
  Qm 8 1,
  Qo 9 (.len false (.t 8)),
  Qo 10 (.bin .neq (.t 7) (.t 9))])
 (.cond (.t 10)
  (.seq (.region [Qb 4])
  .ret)
  .skip))
 (.seq (.seq (.region [Qi 5 0])
 (.block 0
  (.loop
   za5)))
 z5q)))
def Q4 : Lay := ⟨26, [], false⟩
def z9r : List LRes := [.t 4]
def zml : LFn := ⟨2, Q4, zgq, z9r⟩
theorem zi1 : vu Tryz.prog [] 11 = some zml := by kernel_rfl
theorem zih : Qh Tryz.prog 11 := ⟨_, Tryz.func11, rfl, rfl⟩
def zf0 (a0 : List G_TokenDelta) (a1 : List G_TokenDelta) (o : Bool) : Exit → Env → AHeap → Nat → Prop := z19 z9r (w8 (.bool o))
def Ul (a0 : List G_TokenDelta) (a1 : List G_TokenDelta) (s : Int) : Env := [(0, .isl 4 (a0.map z7) false), (1, .isl 4 (a1.map z7) false), (5, i6 s)]
def z24 (a0 : List G_TokenDelta) (a1 : List G_TokenDelta) (s : Int) : AHeap := []
def z63 (a0 : List G_TokenDelta) (a1 : List G_TokenDelta) (o : Bool) : Exit → Env → AHeap → Nat → Prop := (x6 0 (ui Tryz.prog Q4 0 z5q (zf0 a0 a1 o)))
noncomputable def qw (m : Option Nat) : Option Bool :=
 some true
noncomputable def yb (m : Option Nat) (a0 : List G_TokenDelta) (a1 : List G_TokenDelta) (v1 : Int) : Option (Int ⊕ Bool) :=
 if (decide (v1 < ((a0.map z7).length : Int))) = true then
  if (0 : Int) ≤ v1 ∧ v1 < ((a0.map z7).length : Int) then
  if (0 : Int) ≤ v1 ∧ v1 < ((a1.map z7).length : Int) then
  if (!(((a0.getD v1.toNat default).f_DeltaLine == (a1.getD v1.toNat default).f_DeltaLine) && (((a0.getD v1.toNat default).f_DeltaStart == (a1.getD v1.toNat default).f_DeltaStart) && (((a0.getD v1.toNat default).f_Length == (a1.getD v1.toNat default).f_Length) && (((a0.getD v1.toNat default).f_Kind == (a1.getD v1.toNat default).f_Kind) && true))))) = true then
   Option.map Sum.inr (
    some false)
  else
   some (.inl (W (v1 + 1)))
  else none
  else none
 else
  Option.map Sum.inr (
   qw m)
noncomputable def yu (m : Option Nat) (a0 : List G_TokenDelta) (a1 : List G_TokenDelta) (v1 : Int) : Option Bool := vr m (fun (s : Int) => yb m a0 a1 s) v1
theorem za0 {a0 : List G_TokenDelta} {a1 : List G_TokenDelta} {m : Option Nat} {o : Bool} (h : qw m = some o) :
 LWp Tryz.prog Q4 0 z5q (zf0 a0 a1 o) [] [] 0 := by
 unfold qw at h
 refine zp (ye ?_)
 refine Zk ?_
 cases h
 exact AI TT (AI rfl (VS rfl))
theorem z7r {a0 : List G_TokenDelta} {a1 : List G_TokenDelta} {v1 : Int} {m : Option Nat} {o : Int ⊕ Bool} (h : yb m a0 a1 v1 = some o) :
 LWp Tryz.prog Q4 0 za5 (wr 0 0 (Ul a0 a1) (z24 a0 a1) (z63 a0 a1) o) [(0, .isl 4 (a0.map z7) false), (1, .isl 4 (a1.map z7) false), (5, i6 v1)] [] 0 := by
 unfold yb at h
 refine zp ?_
 refine zp (ye ?_)
 refine j0 (v := (decide (v1 < ((a0.map z7).length : Int)))) rfl TT (fun h10 => ?_) (fun h10 => ?_)
 ·have h := yy h10 h
  refine jc ?_
  refine zp ?_
  refine xx ?_
  refine zp ?_
  refine z2a ?_
  obtain ⟨h11, h⟩ := zo h
  refine AI h11 ?_
  refine EX (z7 (a0.getD v1.toNat default)) (AI (qd z7 _ _ (xh z7 h11)) (AI (AI (jk h11) (NB rfl)) ?_))
  obtain ⟨h12, h⟩ := zo h
  refine AI h12 ?_
  refine EX (z7 (a1.getD v1.toNat default)) (AI (qd z7 _ _ (xh z7 h12)) (AI (AI (jk h12) (NB rfl)) ?_))
  refine LWp.sim (e := [(0, .isl 4 (a0.map z7) false), (1, .isl 4 (a1.map z7) false), (5, i6 v1), (25, .bool (!(((a0.getD v1.toNat default).f_DeltaLine == (a1.getD v1.toNat default).f_DeltaLine) && (((a0.getD v1.toNat default).f_DeltaStart == (a1.getD v1.toNat default).f_DeltaStart) && (((a0.getD v1.toNat default).f_Length == (a1.getD v1.toNat default).f_Length) && (((a0.getD v1.toNat default).f_Kind == (a1.getD v1.toNat default).f_Kind) && true))))))]) (L := []) (n := 0) ?_ ?_
  ·exact xg (M := []) rfl (S4 rfl rfl rfl rfl TT) TT
  refine j0 (v := (!(((a0.getD v1.toNat default).f_DeltaLine == (a1.getD v1.toNat default).f_DeltaLine) && (((a0.getD v1.toNat default).f_DeltaStart == (a1.getD v1.toNat default).f_DeltaStart) && (((a0.getD v1.toNat default).f_Length == (a1.getD v1.toNat default).f_Length) && (((a0.getD v1.toNat default).f_Kind == (a1.getD v1.toNat default).f_Kind) && true)))))) rfl TT (fun h13 => ?_) (fun h13 => ?_)
  ·have h := yy h13 h
   refine zp (ye ?_)
   refine Zk ?_
   obtain ⟨o, hq, rfl⟩ := Option.map_eq_some_iff.1 h
   replace h := hq; clear hq
   refine AI nofun ?_
   cases h
   exact AI TT (AI rfl (VS rfl))
  ·have h := q9 h13 h
   refine jc ?_
   refine ye ?_
   cases h
   exact AI rfl (xg (M := []) rfl (S2 rfl rfl (AI (VS rfl) TT)) TT)
 ·have h := q9 h10 h
  refine Zo ?_
  obtain ⟨o, hq, rfl⟩ := Option.map_eq_some_iff.1 h
  replace h := hq; clear hq
  refine AI nofun ?_
  refine LWp.sim ?_ (za0 h)
  exact xg (M := []) rfl TT TT
theorem za1 {a0 : List G_TokenDelta} {a1 : List G_TokenDelta} {v1 : Int} {m : Option Nat} {o : Bool} (h : yu m a0 a1 v1 = some o) :
 LWp Tryz.prog Q4 0 (.loop za5) (x6 0 (ui Tryz.prog Q4 0 z5q (zf0 a0 a1 o))) [(0, .isl 4 (a0.map z7) false), (1, .isl 4 (a1.map z7) false), (5, i6 v1)] [] 0 :=
 j5 (m := m) (s := (v1 : Int)) (r := o) (fun (s : Int) => yb m a0 a1 s) (Ul a0 a1) (z24 a0 a1) (z63 a0 a1) (fun s o h => z7r h) h
noncomputable def yp (m : Option Nat) (a0 : List G_TokenDelta) (a1 : List G_TokenDelta) : Option Bool :=
 if (((a0.map z7).length : Int) != ((a1.map z7).length : Int)) = true then
  some false
 else
  yu m a0 a1 0
theorem z9d {a0 : List G_TokenDelta} {a1 : List G_TokenDelta} {m : Option Nat} {o : Bool} (h : yp m a0 a1 = some o) : LWp Tryz.prog Q4 0 zgq (zf0 a0 a1 o) (je 0 [.isl 4 (a0.map z7) false, .isl 4 (a1.map z7) false]) [] 0 := by
 unfold yp at h
 refine zp (ye ?_)
 refine zp ?_
 refine zp (ye ?_)
 refine j0 (v := (((a0.map z7).length : Int) != ((a1.map z7).length : Int))) rfl TT (fun h1 => ?_) (fun h1 => ?_)
 ·have h := yy h1 h
  refine zp (ye ?_)
  refine Zk ?_
  cases h
  exact AI TT (AI rfl (VS rfl))
 ·have h := q9 h1 h
  refine jc ?_
  refine zp ?_
  refine zp (ye ?_)
  refine xx ?_
  refine LWp.sim ?_ (za1 h)
  exact xg (M := []) rfl (S2 rfl rfl (AI (VS rfl) TT)) TT
theorem zks {a0 : List G_TokenDelta} {a1 : List G_TokenDelta} {m : Option Nat} {o : Bool} (h : yp m a0 a1 = some o) : PFn Tryz.prog 11 [.isl 4 (a0.map z7) false, .isl 4 (a1.map z7) false] (.bool o) := PFn.ofFnW (L := zml) zi1 zih (NB rfl) rfl (z9d h)
def zad : LCode := (.seq (.seq (.region [Qm 11 5,
 Qm 12 0,
 Qo 13 (.len false (.t 12)),
 Qo 14 (.bin .lss (.t 11) (.t 13))])
 (.cond (.t 14)
  .skip
  (.exit 0)))
 (.seq (.block 1
  (.seq (.quiet [Qm 17 0,
   Qm 18 5,
   Qo 19 (.iaddr 3 (.t 17) (.t 18)),
   Qt 20 3 19,
   Qm 21 1,
   Qm 22 5,
   Qo 23 (.iaddr 3 (.t 21) (.t 22)),
   Qt 24 3 23,
   Qo 25 (.eq true (.agg [.int, .int, .int]) (.t 20) (.t 24))])
  (.cond (.t 25)
   (.seq (.region [Qb 4])
   .ret)
   .skip)))
 (.region [Qm 15 5,
  Qo 16 (.bin .add (.t 15) (.c (i6 1))),
  Qm 5 16])))
def z61 : LCode := (.seq (.region [Qo 4 (.mv (.c (.bool true)))])
 .ret)
def zgg : LCode := (.seq (.region [Qb 4])
 (.seq (.seq (.region [Qm 6 0,
  Qo 7 (.len false (.t 6)),
  Qm 8 1,
  Qo 9 (.len false (.t 8)),
  Qo 10 (.bin .neq (.t 7) (.t 9))])
 (.cond (.t 10)
  (.seq (.region [Qb 4])
  .ret)
  .skip))
 (.seq (.seq (.region [Qi 5 0])
 (.block 0
  (.loop
   zad)))
 z61)))
def Yz : Lay := ⟨26, [], false⟩
def zc0 : List LRes := [.t 4]
def zmi : LFn := ⟨2, Yz, zgg, zc0⟩
theorem zj0 : vu Tryz.prog [] 12 = some zmi := by kernel_rfl
theorem zjl : Qh Tryz.prog 12 := ⟨_, Tryz.func12, rfl, rfl⟩
def zf3 (a0 : List G_SemanticToken) (a1 : List G_SemanticToken) (o : Bool) : Exit → Env → AHeap → Nat → Prop := z19 zc0 (w8 (.bool o))
def Kv (a0 : List G_SemanticToken) (a1 : List G_SemanticToken) (s : Int) : Env := [(0, .isl 3 (a0.map z6) false), (1, .isl 3 (a1.map z6) false), (5, i6 s)]
def z1j (a0 : List G_SemanticToken) (a1 : List G_SemanticToken) (s : Int) : AHeap := []
def z6b (a0 : List G_SemanticToken) (a1 : List G_SemanticToken) (o : Bool) : Exit → Env → AHeap → Nat → Prop := (x6 0 (ui Tryz.prog Yz 0 z61 (zf3 a0 a1 o)))
noncomputable def qx (m : Option Nat) : Option Bool :=
 some true
noncomputable def ya (m : Option Nat) (a0 : List G_SemanticToken) (a1 : List G_SemanticToken) (v1 : Int) : Option (Int ⊕ Bool) :=
 if (decide (v1 < ((a0.map z6).length : Int))) = true then
  if (0 : Int) ≤ v1 ∧ v1 < ((a0.map z6).length : Int) then
  if (0 : Int) ≤ v1 ∧ v1 < ((a1.map z6).length : Int) then
  if (!(((a0.getD v1.toNat default).f_Start == (a1.getD v1.toNat default).f_Start) && (((a0.getD v1.toNat default).f_Length == (a1.getD v1.toNat default).f_Length) && (((a0.getD v1.toNat default).f_Kind == (a1.getD v1.toNat default).f_Kind) && true)))) = true then
   Option.map Sum.inr (
    some false)
  else
   some (.inl (W (v1 + 1)))
  else none
  else none
 else
  Option.map Sum.inr (
   qx m)
noncomputable def yv (m : Option Nat) (a0 : List G_SemanticToken) (a1 : List G_SemanticToken) (v1 : Int) : Option Bool := vr m (fun (s : Int) => ya m a0 a1 s) v1
theorem z95 {a0 : List G_SemanticToken} {a1 : List G_SemanticToken} {m : Option Nat} {o : Bool} (h : qx m = some o) :
 LWp Tryz.prog Yz 0 z61 (zf3 a0 a1 o) [] [] 0 := by
 unfold qx at h
 refine zp (ye ?_)
 refine Zk ?_
 cases h
 exact AI TT (AI rfl (VS rfl))
theorem z8w {a0 : List G_SemanticToken} {a1 : List G_SemanticToken} {v1 : Int} {m : Option Nat} {o : Int ⊕ Bool} (h : ya m a0 a1 v1 = some o) :
 LWp Tryz.prog Yz 0 zad (wr 0 0 (Kv a0 a1) (z1j a0 a1) (z6b a0 a1) o) [(0, .isl 3 (a0.map z6) false), (1, .isl 3 (a1.map z6) false), (5, i6 v1)] [] 0 := by
 unfold ya at h
 refine zp ?_
 refine zp (ye ?_)
 refine j0 (v := (decide (v1 < ((a0.map z6).length : Int)))) rfl TT (fun h10 => ?_) (fun h10 => ?_)
 ·have h := yy h10 h
  refine jc ?_
  refine zp ?_
  refine xx ?_
  refine zp ?_
  refine z2a ?_
  obtain ⟨h11, h⟩ := zo h
  refine AI h11 ?_
  refine EX (z6 (a0.getD v1.toNat default)) (AI (qd z6 _ _ (xh z6 h11)) (AI (AI (jk h11) (NB rfl)) ?_))
  obtain ⟨h12, h⟩ := zo h
  refine AI h12 ?_
  refine EX (z6 (a1.getD v1.toNat default)) (AI (qd z6 _ _ (xh z6 h12)) (AI (AI (jk h12) (NB rfl)) ?_))
  refine LWp.sim (e := [(0, .isl 3 (a0.map z6) false), (1, .isl 3 (a1.map z6) false), (5, i6 v1), (25, .bool (!(((a0.getD v1.toNat default).f_Start == (a1.getD v1.toNat default).f_Start) && (((a0.getD v1.toNat default).f_Length == (a1.getD v1.toNat default).f_Length) && (((a0.getD v1.toNat default).f_Kind == (a1.getD v1.toNat default).f_Kind) && true)))))]) (L := []) (n := 0) ?_ ?_
  ·exact xg (M := []) rfl (S4 rfl rfl rfl rfl TT) TT
  refine j0 (v := (!(((a0.getD v1.toNat default).f_Start == (a1.getD v1.toNat default).f_Start) && (((a0.getD v1.toNat default).f_Length == (a1.getD v1.toNat default).f_Length) && (((a0.getD v1.toNat default).f_Kind == (a1.getD v1.toNat default).f_Kind) && true))))) rfl TT (fun h13 => ?_) (fun h13 => ?_)
  ·have h := yy h13 h
   refine zp (ye ?_)
   refine Zk ?_
   obtain ⟨o, hq, rfl⟩ := Option.map_eq_some_iff.1 h
   replace h := hq; clear hq
   refine AI nofun ?_
   cases h
   exact AI TT (AI rfl (VS rfl))
  ·have h := q9 h13 h
   refine jc ?_
   refine ye ?_
   cases h
   exact AI rfl (xg (M := []) rfl (S2 rfl rfl (AI (VS rfl) TT)) TT)
 ·have h := q9 h10 h
  refine Zo ?_
  obtain ⟨o, hq, rfl⟩ := Option.map_eq_some_iff.1 h
  replace h := hq; clear hq
  refine AI nofun ?_
  refine LWp.sim ?_ (z95 h)
  exact xg (M := []) rfl TT TT
theorem zcx {a0 : List G_SemanticToken} {a1 : List G_SemanticToken} {v1 : Int} {m : Option Nat} {o : Bool} (h : yv m a0 a1 v1 = some o) :
 LWp Tryz.prog Yz 0 (.loop zad) (x6 0 (ui Tryz.prog Yz 0 z61 (zf3 a0 a1 o))) [(0, .isl 3 (a0.map z6) false), (1, .isl 3 (a1.map z6) false), (5, i6 v1)] [] 0 :=
 j5 (m := m) (s := (v1 : Int)) (r := o) (fun (s : Int) => ya m a0 a1 s) (Kv a0 a1) (z1j a0 a1) (z6b a0 a1) (fun s o h => z8w h) h
noncomputable def yr (m : Option Nat) (a0 : List G_SemanticToken) (a1 : List G_SemanticToken) : Option Bool :=
 if (((a0.map z6).length : Int) != ((a1.map z6).length : Int)) = true then
  some false
 else
  yv m a0 a1 0
theorem zcb {a0 : List G_SemanticToken} {a1 : List G_SemanticToken} {m : Option Nat} {o : Bool} (h : yr m a0 a1 = some o) : LWp Tryz.prog Yz 0 zgg (zf3 a0 a1 o) (je 0 [.isl 3 (a0.map z6) false, .isl 3 (a1.map z6) false]) [] 0 := by
 unfold yr at h
 refine zp (ye ?_)
 refine zp ?_
 refine zp (ye ?_)
 refine j0 (v := (((a0.map z6).length : Int) != ((a1.map z6).length : Int))) rfl TT (fun h1 => ?_) (fun h1 => ?_)
 ·have h := yy h1 h
  refine zp (ye ?_)
  refine Zk ?_
  cases h
  exact AI TT (AI rfl (VS rfl))
 ·have h := q9 h1 h
  refine jc ?_
  refine zp ?_
  refine zp (ye ?_)
  refine xx ?_
  refine LWp.sim ?_ (zcx h)
  exact xg (M := []) rfl (S2 rfl rfl (AI (VS rfl) TT)) TT
theorem zm6 {a0 : List G_SemanticToken} {a1 : List G_SemanticToken} {m : Option Nat} {o : Bool} (h : yr m a0 a1 = some o) : PFn Tryz.prog 12 [.isl 3 (a0.map z6) false, .isl 3 (a1.map z6) false] (.bool o) := PFn.ofFnW (L := zmi) zj0 zjl (NB rfl) rfl (zcb h)
def zmd : LCode := (.seq (.region [Qm 71 0,
 Qm 72 2,
 Qo 73 (.call 10 [(.t 71), (.t 72)]),
 Qm 70 73,
 Qo 74 (.ext 0 (.t 70)),
 Qo 75 (.ext 1 (.t 70)),
 Qm 13 74,
 Qm 14 75])
 (.seq (.region [Qm 76 7,
  Qm 77 11,
  Qo 78 (.call 11 [(.t 76), (.t 77)]),
  Qm 79 78,
  Qn 80 8 (79, true),
  Qn 81 12 (79, true),
  Qg 82 (.bin .eql (.t 80) (.t 81)) (79, true),
  Qp 83 79 82,
  Qm 84 83,
  Qn 85 9 (84, true),
  Qn 86 13 (84, true),
  Qg 87 (.call 12 [(.t 85), (.t 86)]) (84, true),
  Qp 88 84 87,
  Qm 89 88,
  Qn 90 10 (89, true),
  Qg 91 (.bin .eql (.t 90) (.c (i6 0))) (89, true),
  Qn 92 14 (89, true),
  Qg 93 (.eq false .bool (.t 91) (.t 92)) (89, true),
  Qp 94 89 93,
  Qm 95 94,
  Qn 96 14 (95, true),
  Qn 97 96 (95, true),
  Qn 98 10 (97, false),
  Qg 99 (.bin .eql (.t 98) (.c (i6 3))) (97, false),
  Qg 100 (.pick (.t 97) (.c (.bool true)) (.t 99)) (95, true),
  Qp 101 95 100,
  Qm 6 101])
 .ret))
def zke : LCode := (.seq (.quiet [Qm 25 1,
 Qm 26 1,
 Qo 27 (.len false (.t 26)),
 Qo 28 (.mnx false [(.t 27), (.c (i6 8))]),
 Qo 29 (.slSl 3 (.t 25) none (some (.t 28)) none),
 Qm 30 2,
 Qm 31 2,
 Qo 32 (.len false (.t 31)),
 Qo 33 (.mnx false [(.t 32), (.c (i6 8))]),
 Qo 34 (.slSl 4 (.t 30) none (some (.t 33)) none),
 Qm 1 29,
 Qm 2 34])
 (.seq (.region [Qm 36 0,
  Qm 37 1,
  Qo 38 (.call 6 [(.t 36), (.t 37)]),
  Qm 35 38,
  Qo 39 (.ext 0 (.t 35)),
  Qo 40 (.ext 1 (.t 35)),
  Qm 7 39,
  Qm 8 40])
 (.seq (.region [Qm 42 0,
  Qm 43 2,
  Qo 44 (.call 7 [(.t 42), (.t 43)]),
  Qm 41 44,
  Qo 45 (.ext 0 (.t 41)),
  Qo 46 (.ext 1 (.t 41)),
  Qm 9 45,
  Qm 10 46])
 (.seq (.seq (.region [Qm 47 0,
  Qo 48 (.len true (.t 47)),
  Qo 49 (.bin .gtr (.t 48) (.c (i6 2000)))])
 (.cond (.t 49)
  (.seq (.region [Qm 50 7,
   Qo 51 (.len false (.t 50)),
   Qm 52 9,
   Qo 53 (.len false (.t 52)),
   Qo 54 (.bin .add (.t 51) (.t 53)),
   Qo 55 (.bin .eql (.t 54) (.c (i6 0))),
   Qm 56 55,
   Qn 57 8 (56, true),
   Qg 58 (.bin .eql (.t 57) (.c (i6 2))) (56, true),
   Qp 59 56 58,
   Qm 60 59,
   Qn 61 10 (60, true),
   Qg 62 (.bin .eql (.t 61) (.c (i6 2))) (60, true),
   Qp 63 60 62,
   Qm 6 63])
  .ret)
  .skip))
 (.seq (.region [Qo 11 (.mv (.c (.val (.slice none 0 0))))])
 (.seq (.region [Qi 12 3])
 (.seq (.seq (.region [Qm 64 0,
  Qm 65 1,
  Qo 66 (.call 8 [(.t 64), (.t 65)])])
 (.cond (.t 66)
  (.region [Qm 67 0,
   Qm 68 1,
   Qo 69 (.call 9 [(.t 67), (.t 68)]),
   Qm 11 69,
   Qi 12 0])
  .skip))
 zmd)))))))
def zmm : LCode := (.seq (.region [Qb 6])
 (.seq (.seq (.region [Qo 15 (.call 5 []),
  Qo 16 (.un .not (.t 15))])
 (.cond (.t 16)
  (.seq (.region [Qb 6])
  .ret)
  .skip))
 (.seq (.seq (.region [Qm 17 0,
  Qo 18 (.len true (.t 17)),
  Qo 19 (.bin .leq (.t 18) (.c (i6 2000)))])
 (.cond (.t 19)
  (.region [Qm 20 0,
   Qm 21 0,
   Qo 22 (.len true (.t 21)),
   Qo 23 (.mnx false [(.t 22), (.c (i6 120))]),
   Qo 24 (.slStr (.t 20) none (some (.t 23))),
   Qm 0 24])
  .skip))
 zke)))
def z5t : Lay := ⟨102, [], false⟩
def zgn : List LRes := [.t 6]
def zpf : LFn := ⟨3, z5t, zmm, zgn⟩
theorem zmx : vu Tryz.prog [] 3 = some zpf := by kernel_rfl
theorem zlq : Qh Tryz.prog 3 := ⟨_, Tryz.func3, rfl, rfl⟩
noncomputable def ze (m : Option Nat) (a2 : List G_TokenDelta) (v2 : List UInt8) (v3 : (List G_TokenDelta) × Int) (v4 : (List G_SemanticToken) × Int) (v7 : List G_TokenDelta) (v8 : Int) : Option Bool :=
 (qb m v2 (a2.take (if 8 < ((a2.map z7).length : Int) then 8 else ((a2.map z7).length : Int)).toNat)).bind fun v9 =>
 (yp m v3.1 v7).bind fun v10 =>
 (if ((v10 && (v3.2 == v8)) == true) = true then yr m v4.1 v9.1 else some default).bind fun v11 =>
 some ((((v10 && (v3.2 == v8)) && v11) && ((v4.2 == 0) == v9.2)) && (v9.2 || (v4.2 == 3)))
def znq (a0 : List UInt8) (a1 : List G_SemanticToken) (a2 : List G_TokenDelta) (o : Bool) : Exit → Env → AHeap → Nat → Prop := z19 zgn (w8 (.bool o))
theorem z6e {a0 : List UInt8} {a1 : List G_SemanticToken} {a2 : List G_TokenDelta} {v2 : List UInt8} {v3 : (List G_TokenDelta) × Int} {v4 : (List G_SemanticToken) × Int} {v7 : List G_TokenDelta} {v8 : Int} {m : Option Nat} {o : Bool} (h : ze m a2 v2 v3 v4 v7 v8 = some o) :
 LWp Tryz.prog z5t 0 zmd (znq a0 a1 a2 o) [(0, .str v2), (2, .isl 4 ((a2.take (if 8 < ((a2.map z7).length : Int) then 8 else ((a2.map z7).length : Int)).toNat).map z7) false), (7, .isl 4 (v3.1.map z7) false), (8, i6 v3.2), (9, .isl 3 (v4.1.map z6) false), (10, i6 v4.2), (11, .isl 4 (v7.map z7) false), (12, i6 v8)] [] 0 := by
 unfold ze at h
 refine zp (ye ?_)
 obtain ⟨v9, h13, h⟩ := bind_some h
 refine PFn.call (zn6 h13) (S2 rfl rfl TT) ?_
 refine LWp.sim (e := [(7, .isl 4 (v3.1.map z7) false), (8, i6 v3.2), (9, .isl 3 (v4.1.map z6) false), (10, i6 v4.2), (11, .isl 4 (v7.map z7) false), (12, i6 v8), (13, .isl 3 (v9.1.map z6) false), (14, .bool v9.2)]) (L := []) (n := 0) ?_ ?_
 ·exact xg (M := []) rfl (S4 rfl rfl rfl rfl (S4 rfl rfl rfl rfl TT)) TT
 refine zp (ye ?_)
 obtain ⟨v10, h14, h⟩ := bind_some h
 refine PFn.call (zks h14) (S2 rfl rfl TT) ?_
 refine AI (fun hp => (AI hp hp)) ?_
 refine AI (fun hc => (bqt hc)) ?_
 obtain ⟨v11, h15, h⟩ := bind_some h
 refine Or.inl (EX (.bool v11) (AI (fun hp => AI (AI hp hp) (PFn.call (zm6 (yy hp h15)) (S2 rfl rfl TT) (AI rfl (AI rfl rfl)))) ?_))
 refine AI (fun hc => (bqt hc)) ?_
 refine AI (fun hp => hp) ?_
 refine AI (fun hp => (AI hp hp)) ?_
 refine AI (fun hc => (bqt hc)) ?_
 refine AI (fun hp => hp) ?_
 refine AI (fun hp => hp) ?_
 refine AI (fun hp => (AI hp (fun hc => (zl1 hp (bqf hc))))) ?_
 refine AI (fun hc => (bqt hc)) ?_
 refine LWp.sim (e := [(6, .bool ((((v10 && (v3.2 == v8)) && v11) && ((v4.2 == 0) == v9.2)) && (v9.2 || (v4.2 == 3))))]) (L := []) (n := 0) ?_ ?_
 ·exact xg (M := []) rfl (AI (VS rfl) TT) TT
 refine Zk ?_
 cases h
 exact AI TT (AI rfl (VS rfl))
noncomputable def z8 (m : Option Nat) (a1 : List G_SemanticToken) (a2 : List G_TokenDelta) (v2 : List UInt8) : Option Bool :=
 if (0 : Int) ≤ (if 8 < ((a1.map z6).length : Int) then 8 else ((a1.map z6).length : Int)) ∧ (if 8 < ((a1.map z6).length : Int) then 8 else ((a1.map z6).length : Int)) ≤ ((a1.map z6).length : Int) then
 if (0 : Int) ≤ (if 8 < ((a2.map z7).length : Int) then 8 else ((a2.map z7).length : Int)) ∧ (if 8 < ((a2.map z7).length : Int) then 8 else ((a2.map z7).length : Int)) ≤ ((a2.map z7).length : Int) then
 (xe m v2 (a1.take (if 8 < ((a1.map z6).length : Int) then 8 else ((a1.map z6).length : Int)).toNat)).bind fun v3 =>
 (qz m v2 (a2.take (if 8 < ((a2.map z7).length : Int) then 8 else ((a2.map z7).length : Int)).toNat)).bind fun v4 =>
 if (decide ((v2.length : Int) > 2000)) = true then
  some ((((W (((v3.1.map z7).length : Int) + ((v4.1.map z6).length : Int))) == 0) && (v3.2 == 2)) && (v4.2 == 2))
 else
  (y9 m v2 (a1.take (if 8 < ((a1.map z6).length : Int) then 8 else ((a1.map z6).length : Int)).toNat)).bind fun v5 =>
  if v5 = true then
   (y8 m v2 (a1.take (if 8 < ((a1.map z6).length : Int) then 8 else ((a1.map z6).length : Int)).toNat)).bind fun v6 =>
   ze m a2 v2 v3 v4 v6 0
  else
   ze m a2 v2 v3 v4 [] 3
 else none
 else none
theorem z6t {a0 : List UInt8} {a1 : List G_SemanticToken} {a2 : List G_TokenDelta} {v2 : List UInt8} {m : Option Nat} {o : Bool} (h : z8 m a1 a2 v2 = some o) :
 LWp Tryz.prog z5t 0 zke (znq a0 a1 a2 o) [(0, .str v2), (1, .isl 3 (a1.map z6) false), (2, .isl 4 (a2.map z7) false)] [] 0 := by
 unfold z8 at h
 refine zp ?_
 refine z2a ?_
 obtain ⟨h5, h⟩ := zo h
 refine EX (.isl 3 ((a1.take (if 8 < ((a1.map z6).length : Int) then 8 else ((a1.map z6).length : Int)).toNat).map z6) false) (AI (zn5 z6 (slB z6 a1 _) rfl) (AI (AI rfl (AI (Int.le_refl _) h5)) ?_))
 obtain ⟨h6, h⟩ := zo h
 refine EX (.isl 4 ((a2.take (if 8 < ((a2.map z7).length : Int) then 8 else ((a2.map z7).length : Int)).toNat).map z7) false) (AI (zn5 z7 (slB z7 a2 _) rfl) (AI (AI rfl (AI (Int.le_refl _) h6)) ?_))
 refine LWp.sim (e := [(0, .str v2), (1, .isl 3 ((a1.take (if 8 < ((a1.map z6).length : Int) then 8 else ((a1.map z6).length : Int)).toNat).map z6) false), (2, .isl 4 ((a2.take (if 8 < ((a2.map z7).length : Int) then 8 else ((a2.map z7).length : Int)).toNat).map z7) false)]) (L := []) (n := 0) ?_ ?_
 ·exact xg (M := []) rfl (S2 rfl rfl (AI (VS rfl) TT)) TT
 refine zp (ye ?_)
 obtain ⟨v3, h7, h⟩ := bind_some h
 refine PFn.call (zo3 h7) (S2 rfl rfl TT) ?_
 refine LWp.sim (e := [(0, .str v2), (1, .isl 3 ((a1.take (if 8 < ((a1.map z6).length : Int) then 8 else ((a1.map z6).length : Int)).toNat).map z6) false), (2, .isl 4 ((a2.take (if 8 < ((a2.map z7).length : Int) then 8 else ((a2.map z7).length : Int)).toNat).map z7) false), (7, .isl 4 (v3.1.map z7) false), (8, i6 v3.2)]) (L := []) (n := 0) ?_ ?_
 ·exact xg (M := []) rfl (S4 rfl rfl rfl rfl (AI (VS rfl) TT)) TT
 refine zp (ye ?_)
 obtain ⟨v4, h8, h⟩ := bind_some h
 refine PFn.call (zom h8) (S2 rfl rfl TT) ?_
 refine LWp.sim (e := [(0, .str v2), (1, .isl 3 ((a1.take (if 8 < ((a1.map z6).length : Int) then 8 else ((a1.map z6).length : Int)).toNat).map z6) false), (2, .isl 4 ((a2.take (if 8 < ((a2.map z7).length : Int) then 8 else ((a2.map z7).length : Int)).toNat).map z7) false), (7, .isl 4 (v3.1.map z7) false), (8, i6 v3.2), (9, .isl 3 (v4.1.map z6) false), (10, i6 v4.2)]) (L := []) (n := 0) ?_ ?_
 ·exact xg (M := []) rfl (S4 rfl rfl rfl rfl (S2 rfl rfl (AI (VS rfl) TT))) TT
 refine zp ?_
 refine zp (ye ?_)
 refine j0 (v := (decide ((v2.length : Int) > 2000))) rfl TT (fun h9 => ?_) (fun h9 => ?_)
 ·have h := yy h9 h
  refine zp (ye ?_)
  refine AI (fun hp => hp) ?_
  refine AI (fun hc => (bqt hc)) ?_
  refine AI (fun hp => hp) ?_
  refine AI (fun hc => (bqt hc)) ?_
  refine LWp.sim (e := [(6, .bool ((((W (((v3.1.map z7).length : Int) + ((v4.1.map z6).length : Int))) == 0) && (v3.2 == 2)) && (v4.2 == 2)))]) (L := []) (n := 0) ?_ ?_
  ·exact xg (M := []) rfl (AI (VS rfl) TT) TT
  refine Zk ?_
  cases h
  exact AI TT (AI rfl (VS rfl))
 ·have h := q9 h9 h
  refine jc ?_
  refine zp (ye ?_)
  refine zp (ye ?_)
  refine zp ?_
  refine zp (ye ?_)
  obtain ⟨v5, h10, h⟩ := bind_some h
  refine PFn.call (zkb h10) (S2 rfl rfl TT) ?_
  refine LWp.sim (e := [(0, .str v2), (1, .isl 3 ((a1.take (if 8 < ((a1.map z6).length : Int) then 8 else ((a1.map z6).length : Int)).toNat).map z6) false), (2, .isl 4 ((a2.take (if 8 < ((a2.map z7).length : Int) then 8 else ((a2.map z7).length : Int)).toNat).map z7) false), (7, .isl 4 (v3.1.map z7) false), (8, i6 v3.2), (9, .isl 3 (v4.1.map z6) false), (10, i6 v4.2), (11, .val (.slice none 0 0)), (12, i6 3), (66, .bool v5)]) (L := []) (n := 0) ?_ ?_
  ·exact xg (M := []) rfl (S4 rfl rfl rfl rfl (S4 rfl rfl rfl rfl (S2 rfl rfl TT))) TT
  refine j0 (v := v5) rfl TT (fun h11 => ?_) (fun h11 => ?_)
  ·have h := yy h11 h
   refine ye ?_
   obtain ⟨v6, h12, h⟩ := bind_some h
   refine PFn.call (zkl h12) (S2 rfl rfl TT) ?_
   refine LWp.sim ?_ (z6e h)
   exact xg (M := []) rfl (S4 rfl rfl rfl rfl (S4 rfl rfl rfl rfl TT)) TT
  ·have h := q9 h11 h
   refine jc ?_
   refine LWp.sim ?_ (z6e h)
   exact xg (M := []) rfl (S4 rfl rfl rfl rfl (S2 rfl rfl (AI (Vw.nilI _ _) (AI (VS rfl) TT)))) TT
noncomputable def zh (m : Option Nat) (a0 : List UInt8) (a1 : List G_SemanticToken) (a2 : List G_TokenDelta) : Option Bool :=
 (xf m).bind fun v1 =>
 if (!v1) = true then
  some false
 else
  if (decide ((a0.length : Int) ≤ 2000)) = true then
   if (0 : Int) ≤ (if 120 < (a0.length : Int) then 120 else (a0.length : Int)) ∧ (if 120 < (a0.length : Int) then 120 else (a0.length : Int)) ≤ (a0.length : Int) then
   z8 m a1 a2 ((a0.take (if 120 < (a0.length : Int) then 120 else (a0.length : Int)).toNat).drop 0)
   else none
  else
   z8 m a1 a2 a0
theorem zfb {a0 : List UInt8} {a1 : List G_SemanticToken} {a2 : List G_TokenDelta} {m : Option Nat} {o : Bool} (h : zh m a0 a1 a2 = some o) : LWp Tryz.prog z5t 0 zmm (znq a0 a1 a2 o) (je 0 [.str a0, .isl 3 (a1.map z6) false, .isl 4 (a2.map z7) false]) [] 0 := by
 unfold zh at h
 refine zp (ye ?_)
 refine zp ?_
 refine zp (ye ?_)
 obtain ⟨v1, h1, h⟩ := bind_some h
 refine PFn.call (znp h1) TT ?_
 refine j0 (v := (!v1)) rfl TT (fun h2 => ?_) (fun h2 => ?_)
 ·have h := yy h2 h
  refine zp (ye ?_)
  refine Zk ?_
  cases h
  exact AI TT (AI rfl (VS rfl))
 ·have h := q9 h2 h
  refine jc ?_
  refine zp ?_
  refine zp (ye ?_)
  refine j0 (v := (decide ((a0.length : Int) ≤ 2000))) rfl TT (fun h3 => ?_) (fun h3 => ?_)
  ·have h := yy h3 h
   refine ye ?_
   obtain ⟨h4, h⟩ := zo h
   refine AI (AI (Int.le_refl _) h4) ?_
   refine LWp.sim ?_ (z6t h)
   exact xg (M := []) rfl (S2 rfl rfl (AI (VS rfl) TT)) TT
  ·have h := q9 h3 h
   refine jc ?_
   refine LWp.sim ?_ (z6t h)
   exact xg (M := []) rfl (S2 rfl rfl (AI (VS rfl) TT)) TT
theorem zo5 {a0 : List UInt8} {a1 : List G_SemanticToken} {a2 : List G_TokenDelta} {m : Option Nat} {o : Bool} (h : zh m a0 a1 a2 = some o) : PFn Tryz.prog 3 [.str a0, .isl 3 (a1.map z6) false, .isl 4 (a2.map z7) false] (.bool o) := PFn.ofFnW (L := zpf) zmx zlq (NB rfl) rfl (zfb h)
end Go.Proofs.YtkpgfihopaokgaaGreatDoor
