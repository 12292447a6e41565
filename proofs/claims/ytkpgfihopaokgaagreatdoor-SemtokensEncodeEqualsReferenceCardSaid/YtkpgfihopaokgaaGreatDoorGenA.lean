/-
  Own text GenA of this claim: what functions of the given program compute, in plain Lean, and the proof; no condition.
-/
import Derived.Test.YtkpgfihopaokgaaGreatDoorChecked
import Derived.Test.YtkpgfihopaokgaaGreatDoorFxN
import Derived.Test.YtkpgfihopaokgaaGreatDoorFxMd
import Derived.Test.YtkpgfihopaokgaaGreatDoorFxLb
import Derived.Test.YtkpgfihopaokgaaGreatDoorLib
import Derived.Test.YtkpgfihopaokgaaGreatDoorEv4
import Derived.Test.YtkpgfihopaokgaaGreatDoorFxAb
import Derived.KernelRfl
namespace Go.Proofs.YtkpgfihopaokgaaGreatDoor
open Go.Fx
set_option linter.unusedVariables false
set_option maxHeartbeats 4000000
set_option maxHeartbeats 1600000
structure G_SemanticToken where
 f_Start : Int
 f_Length : Int
 f_Kind : Int
instance : Inhabited G_SemanticToken := ⟨(G_SemanticToken.mk 0 0 0)⟩
structure G_TokenDelta where
 f_DeltaLine : Int
 f_DeltaStart : Int
 f_Length : Int
 f_Kind : Int
instance : Inhabited G_TokenDelta := ⟨(G_TokenDelta.mk 0 0 0 0)⟩
def z6 (x : G_SemanticToken) : List AVal := [i6 x.f_Start, i6 x.f_Length, i6 x.f_Kind]
def z7 (x : G_TokenDelta) : List AVal := [i6 x.f_DeltaLine, i6 x.f_DeltaStart, i6 x.f_Length, i6 x.f_Kind]
def jw (x : Int) : List AVal := [i6 x]
theorem z5k (x : G_SemanticToken) : AVal.nid.nidL (z6 x) = true ∧ ∀ y ∈ z6 x, y.imm = some y := ⟨rfl, by simp [z6, AVal.imm]⟩
theorem zcm (x : G_TokenDelta) : AVal.nid.nidL (z7 x) = true ∧ ∀ y ∈ z7 x, y.imm = some y := ⟨rfl, by simp [z7, AVal.imm]⟩
theorem znh (x : Int) : AVal.nid.nidL (jw x) = true ∧ ∀ y ∈ jw x, y.imm = some y := ⟨rfl, by simp [jw, AVal.imm]⟩
def xf (m : Option Nat) : Option (Bool) := some true
theorem znp {m : Option Nat} {o : Bool} (h : xf m = some o) : PFn Tryz.prog 5 [] (.bool o) := by
 cases h
 exact zos
def zbh : LCode := (.seq (.region [Qo 11 (.bin .lss (.t 10) (.t 9))])
 (.seq (.cond (.t 11)
  .skip
  (.exit 0))
 (.seq (.block 1
  (.seq (.region [Qo 12 (.iaddr 3 (.t 8) (.t 10)),
   Qt 13 3 12,
   Qo 7 (.alloc [(i6 0), (i6 0), (i6 0)]),
   ⟨none, .store 3 (.t 7) (.t 13), none⟩])
  (.seq (.seq (.region [Qf 14 0 7,
   Ql 15 1 14,
   Qm 16 5,
   Qo 17 (.bin .lss (.t 15) (.t 16)),
   Qm 18 17,
   Qe 19 0 7 (18, false),
   Qk 20 1 19 (18, false),
   Qn 21 0 (18, false),
   Qg 22 (.len true (.t 21)) (18, false),
   Qg 23 (.bin .gtr (.t 20) (.t 22)) (18, false),
   Qo 24 (.pick (.t 18) (.c (.bool true)) (.t 23)),
   Qm 25 24,
   Qe 26 1 7 (25, false),
   Qk 27 1 26 (25, false),
   Qg 28 (.bin .lss (.t 27) (.c (i6 1))) (25, false),
   Qo 29 (.pick (.t 25) (.c (.bool true)) (.t 28)),
   Qm 30 29,
   Qe 31 1 7 (30, false),
   Qk 32 1 31 (30, false),
   Qn 33 0 (30, false),
   Qg 34 (.len true (.t 33)) (30, false),
   Qe 35 0 7 (30, false),
   Qk 36 1 35 (30, false),
   Qg 37 (.bin .sub (.t 34) (.t 36)) (30, false),
   Qg 38 (.bin .gtr (.t 32) (.t 37)) (30, false),
   Qo 39 (.pick (.t 30) (.c (.bool true)) (.t 38))])
  (.cond (.t 39)
   (.seq (.region [Qb 4])
   .ret)
   .skip))
  (.region [Qf 40 0 7,
   Ql 41 1 40,
   Qf 42 1 7,
   Ql 43 1 42,
   Qo 44 (.bin .add (.t 41) (.t 43)),
   Qm 5 44]))))
 (.region [Qo 45 (.bin .add (.t 10) (.c (i6 1))),
  Qm 10 45]))))
def z71 : LCode := (.seq (.region [Qo 4 (.mv (.c (.bool true)))])
 .ret)
def zgx : LCode := (.seq (.region [Qb 4])
 (.seq (.region [Qi 5 0])
 (.seq (.seq (.region [Qm 8 1,
  Qo 9 (.len false (.t 8)),
  Qi 10 0])
 (.block 0
  (.loop
   zbh)))
 z71)))
def Qu : Lay := ⟨46, [], false⟩
def zbb : List LRes := [.t 4]
def zn3 : LFn := ⟨2, Qu, zgx, zbb⟩
theorem zic : vu Tryz.prog [] 15 = some zn3 := by kernel_rfl
theorem zhd : Qh Tryz.prog 15 := ⟨_, Tryz.func15, rfl, rfl⟩
def zg9 (a0 : List UInt8) (a1 : List G_SemanticToken) (o : Bool) : Exit → Env → AHeap → Nat → Prop := z19 zbb (w8 (.bool o))
def U5 (a0 : List UInt8) (a1 : List G_SemanticToken) (s : (Int × Int)) : Env := [(0, .str a0), (5, i6 s.1), (8, .isl 3 (a1.map z6) false), (9, i6 ((a1.map z6).length : Int)), (10, i6 s.2)]
def z32 (a0 : List UInt8) (a1 : List G_SemanticToken) (s : (Int × Int)) : AHeap := []
def z6i (a0 : List UInt8) (a1 : List G_SemanticToken) (o : Bool) : Exit → Env → AHeap → Nat → Prop := (x6 0 (ui Tryz.prog Qu 0 z71 (zg9 a0 a1 o)))
noncomputable def xi (m : Option Nat) : Option Bool :=
 some true
noncomputable def yf (m : Option Nat) (a0 : List UInt8) (a1 : List G_SemanticToken) (v1 : Int) (v2 : Int) : Option ((Int × Int) ⊕ Bool) :=
 if (decide (v2 < ((a1.map z6).length : Int))) = true then
  if (0 : Int) ≤ v2 ∧ v2 < ((a1.map z6).length : Int) then
  if ((((decide ((a1.getD v2.toNat default).f_Start < v1)) || (decide ((a1.getD v2.toNat default).f_Start > (a0.length : Int)))) || (decide ((a1.getD v2.toNat default).f_Length < 1))) || (decide ((a1.getD v2.toNat default).f_Length > (W ((a0.length : Int) - (a1.getD v2.toNat default).f_Start))))) = true then
   Option.map Sum.inr (
    some false)
  else
   some (.inl ((W ((a1.getD v2.toNat default).f_Start + (a1.getD v2.toNat default).f_Length)), (W (v2 + 1))))
  else none
 else
  Option.map Sum.inr (
   xi m)
noncomputable def qr (m : Option Nat) (a0 : List UInt8) (a1 : List G_SemanticToken) (v1 : Int) (v2 : Int) : Option Bool := vr m (fun (s : (Int × Int)) => yf m a0 a1 s.1 s.2) (v1, v2)
theorem zde {a0 : List UInt8} {a1 : List G_SemanticToken} {m : Option Nat} {o : Bool} (h : xi m = some o) :
 LWp Tryz.prog Qu 0 z71 (zg9 a0 a1 o) [] [] 0 := by
 unfold xi at h
 refine zp (ye ?_)
 refine Zk ?_
 cases h
 exact AI TT (AI rfl (VS rfl))
theorem z82 {a0 : List UInt8} {a1 : List G_SemanticToken} {v1 : Int} {v2 : Int} {m : Option Nat} {o : (Int × Int) ⊕ Bool} (h : yf m a0 a1 v1 v2 = some o) :
 LWp Tryz.prog Qu 0 zbh (wr 0 0 (U5 a0 a1) (z32 a0 a1) (z6i a0 a1) o) [(0, .str a0), (5, i6 v1), (8, .isl 3 (a1.map z6) false), (9, i6 ((a1.map z6).length : Int)), (10, i6 v2)] [] 0 := by
 unfold yf at h
 refine zp (ye ?_)
 refine zp ?_
 refine j0 (v := (decide (v2 < ((a1.map z6).length : Int)))) rfl TT (fun h7 => ?_) (fun h7 => ?_)
 ·have h := yy h7 h
  refine jc ?_
  refine zp ?_
  refine xx ?_
  refine zp (ye ?_)
  obtain ⟨h8, h⟩ := zo h
  refine AI h8 ?_
  refine EX (z6 (a1.getD v2.toNat default)) (AI (qd z6 _ _ (xh z6 h8)) (AI (AI (jk h8) (NB rfl)) ?_))
  refine zp ?_
  refine zp (ye ?_)
  refine AI (fun hp => hp) ?_
  refine AI (fun hp => hp) ?_
  refine AI (fun hp => (AI hp hp)) ?_
  refine AI (fun hc => (bqf hc)) ?_
  refine AI (fun hp => hp) ?_
  refine AI (fun hp => hp) ?_
  refine AI (fun hc => (bqf hc)) ?_
  refine AI (fun hp => hp) ?_
  refine AI (fun hp => hp) ?_
  refine AI (fun hp => hp) ?_
  refine AI (fun hp => (AI hp hp)) ?_
  refine AI (fun hp => (AI hp hp)) ?_
  refine AI (fun hc => (bqf hc)) ?_
  refine LWp.sim (e := [(0, .str a0), (7, .ptr (0, 0) 0 0), (8, .isl 3 (a1.map z6) false), (9, i6 ((a1.map z6).length : Int)), (10, i6 v2), (39, .bool ((((decide ((a1.getD v2.toNat default).f_Start < v1)) || (decide ((a1.getD v2.toNat default).f_Start > (a0.length : Int)))) || (decide ((a1.getD v2.toNat default).f_Length < 1))) || (decide ((a1.getD v2.toNat default).f_Length > (W ((a0.length : Int) - (a1.getD v2.toNat default).f_Start))))))]) (L := [((0, 0), .one [i6 ((a1.getD v2.toNat default).f_Start), i6 ((a1.getD v2.toNat default).f_Length), i6 ((a1.getD v2.toNat default).f_Kind)])]) (n := 1) ?_ ?_
  ·exact xg (M := [((0, 0), (0, 0))]) rfl (AI (VS rfl) (SP rfl (S4 rfl rfl rfl rfl TT))) (AI (AI rfl (OL rfl)) TT)
  refine j0 (v := ((((decide ((a1.getD v2.toNat default).f_Start < v1)) || (decide ((a1.getD v2.toNat default).f_Start > (a0.length : Int)))) || (decide ((a1.getD v2.toNat default).f_Length < 1))) || (decide ((a1.getD v2.toNat default).f_Length > (W ((a0.length : Int) - (a1.getD v2.toNat default).f_Start)))))) rfl TT (fun h9 => ?_) (fun h9 => ?_)
  ·have h := yy h9 h
   refine zp (ye ?_)
   refine Zk ?_
   obtain ⟨o, hq, rfl⟩ := Option.map_eq_some_iff.1 h
   replace h := hq; clear hq
   refine AI nofun ?_
   cases h
   exact AI TT (AI rfl (VS rfl))
  ·have h := q9 h9 h
   refine jc ?_
   refine ye ?_
   refine ye ?_
   cases h
   exact AI rfl (xg (M := []) rfl (S4 rfl rfl rfl rfl (AI (VS rfl) TT)) TT)
 ·have h := q9 h7 h
  refine Zo ?_
  obtain ⟨o, hq, rfl⟩ := Option.map_eq_some_iff.1 h
  replace h := hq; clear hq
  refine AI nofun ?_
  refine LWp.sim ?_ (zde h)
  exact xg (M := []) rfl TT TT
theorem zc7 {a0 : List UInt8} {a1 : List G_SemanticToken} {v1 : Int} {v2 : Int} {m : Option Nat} {o : Bool} (h : qr m a0 a1 v1 v2 = some o) :
 LWp Tryz.prog Qu 0 (.loop zbh) (x6 0 (ui Tryz.prog Qu 0 z71 (zg9 a0 a1 o))) [(0, .str a0), (5, i6 v1), (8, .isl 3 (a1.map z6) false), (9, i6 ((a1.map z6).length : Int)), (10, i6 v2)] [] 0 :=
 j5 (m := m) (s := ((v1, v2) : (Int × Int))) (r := o) (fun (s : (Int × Int)) => yf m a0 a1 s.1 s.2) (U5 a0 a1) (z32 a0 a1) (z6i a0 a1) (fun s o h => z82 h) h
noncomputable def yw (m : Option Nat) (a0 : List UInt8) (a1 : List G_SemanticToken) : Option Bool :=
 qr m a0 a1 0 0
theorem zdk {a0 : List UInt8} {a1 : List G_SemanticToken} {m : Option Nat} {o : Bool} (h : yw m a0 a1 = some o) : LWp Tryz.prog Qu 0 zgx (zg9 a0 a1 o) (je 0 [.str a0, .isl 3 (a1.map z6) false]) [] 0 := by
 unfold yw at h
 refine zp (ye ?_)
 refine zp (ye ?_)
 refine zp ?_
 refine zp (ye ?_)
 refine xx ?_
 refine LWp.sim ?_ (zc7 h)
 exact xg (M := []) rfl (S4 rfl rfl rfl rfl (AI (VS rfl) TT)) TT
theorem zgu {a0 : List UInt8} {a1 : List G_SemanticToken} {m : Option Nat} {o : Bool} (h : yw m a0 a1 = some o) : PFn Tryz.prog 15 [.str a0, .isl 3 (a1.map z6) false] (.bool o) := PFn.ofFnW (L := zn3) zic zhd (NB rfl) rfl (zdk h)
def u6 (m : Option Nat) (a0 a1 : List UInt8) : Option Int := match a1 with
 | [c] => some (Go.Lib.countByte a0 c)
 | _ => none
theorem zjk : Qh Tryz.prog 16 := ⟨_, Tryz.func16, rfl, rfl⟩
theorem znc {m : Option Nat} {a0 a1 : List UInt8} {o : Int} (h : u6 m a0 a1 = some o) : PFn Tryz.prog 16 [.str a0, .str a1] (i6 o) := by
 unfold u6 at h
 split at h
 ·cases h
  exact Ub Tryz.l16 rfl zjk _ _
 ·cases h
def zcq : LCode := (.seq (.seq (.region [Qm 9 5,
 Qo 10 (.bin .geq (.t 9) (.c (i6 0)))])
 (.cond (.t 10)
  .skip
  (.exit 0)))
 (.seq (.block 1
  (.seq (.region [Qm 13 0,
   Qm 14 5,
   Qo 15 (.idxS (.t 13) (.t 14)),
   Qm 16 1,
   Qo 17 (.bin .eql (.t 15) (.t 16))])
  (.cond (.t 17)
   (.seq (.region [Qm 18 5,
    Qm 4 18])
   .ret)
   .skip)))
 (.region [Qm 11 5,
  Qo 12 (.bin .sub (.t 11) (.c (i6 1))),
  Qm 5 12])))
def z5y : LCode := (.seq (.region [Qo 4 (.mv (.c (i6 (-1))))])
 .ret)
def zh0 : LCode := (.seq (.region [Qi 4 0])
 (.seq (.seq (.region [Qm 6 0,
  Qo 7 (.len true (.t 6)),
  Qo 8 (.bin .sub (.t 7) (.c (i6 1))),
  Qm 5 8])
 (.block 0
  (.loop
   zcq)))
 z5y))
def Q9 : Lay := ⟨19, [], false⟩
def zbn : List LRes := [.t 4]
def zmp : LFn := ⟨2, Q9, zh0, zbn⟩
theorem zi8 : vu Tryz.prog [] 29 = some zmp := by kernel_rfl
theorem zjm : Qh Tryz.prog 29 := ⟨_, Tryz.func29, rfl, rfl⟩
def zfr (a0 : List UInt8) (a1 : Int) (o : Int) : Exit → Env → AHeap → Nat → Prop := z19 zbn (w8 (i6 o))
def Uk (a0 : List UInt8) (a1 : Int) (s : Int) : Env := [(0, .str a0), (1, .int .u8 a1), (5, i6 s)]
def z1o (a0 : List UInt8) (a1 : Int) (s : Int) : AHeap := []
def z66 (a0 : List UInt8) (a1 : Int) (o : Int) : Exit → Env → AHeap → Nat → Prop := (x6 0 (ui Tryz.prog Q9 0 z5y (zfr a0 a1 o)))
noncomputable def qg (m : Option Nat) : Option Int :=
 some (-1)
noncomputable def zr (m : Option Nat) (a0 : List UInt8) (a1 : Int) (v1 : Int) : Option (Int ⊕ Int) :=
 if (decide (v1 ≥ 0)) = true then
  if (0 : Int) ≤ v1 ∧ v1 < (a0.length : Int) then
  if ((((a0.getD v1.toNat 0).toNat : Nat) : Int) == a1) = true then
   Option.map Sum.inr (
    some v1)
  else
   some (.inl (W (v1 - 1)))
  else none
 else
  Option.map Sum.inr (
   qg m)
noncomputable def y5 (m : Option Nat) (a0 : List UInt8) (a1 : Int) (v1 : Int) : Option Int := vr m (fun (s : Int) => zr m a0 a1 s) v1
theorem zbi {a0 : List UInt8} {a1 : Int} {m : Option Nat} {o : Int} (h : qg m = some o) :
 LWp Tryz.prog Q9 0 z5y (zfr a0 a1 o) [] [] 0 := by
 unfold qg at h
 refine zp (ye ?_)
 refine Zk ?_
 cases h
 exact AI TT (AI rfl (VS rfl))
theorem z7y {a0 : List UInt8} {a1 : Int} {v1 : Int} {m : Option Nat} {o : Int ⊕ Int} (h : zr m a0 a1 v1 = some o) :
 LWp Tryz.prog Q9 0 zcq (wr 0 0 (Uk a0 a1) (z1o a0 a1) (z66 a0 a1) o) [(0, .str a0), (1, .int .u8 a1), (5, i6 v1)] [] 0 := by
 unfold zr at h
 refine zp ?_
 refine zp (ye ?_)
 refine j0 (v := (decide (v1 ≥ 0))) rfl TT (fun h7 => ?_) (fun h7 => ?_)
 ·have h := yy h7 h
  refine jc ?_
  refine zp ?_
  refine xx ?_
  refine zp (ye ?_)
  obtain ⟨h8, h⟩ := zo h
  refine AI h8 ?_
  refine j0 (v := ((((a0.getD v1.toNat 0).toNat : Nat) : Int) == a1)) rfl TT (fun h9 => ?_) (fun h9 => ?_)
  ·have h := yy h9 h
   refine zp (ye ?_)
   refine LWp.sim (e := [(4, i6 v1)]) (L := []) (n := 0) ?_ ?_
   ·exact xg (M := []) rfl (AI (VS rfl) TT) TT
   refine Zk ?_
   obtain ⟨o, hq, rfl⟩ := Option.map_eq_some_iff.1 h
   replace h := hq; clear hq
   refine AI nofun ?_
   cases h
   exact AI TT (AI rfl (VS rfl))
  ·have h := q9 h9 h
   refine jc ?_
   refine ye ?_
   cases h
   exact AI rfl (xg (M := []) rfl (S2 rfl rfl (AI (VS rfl) TT)) TT)
 ·have h := q9 h7 h
  refine Zo ?_
  obtain ⟨o, hq, rfl⟩ := Option.map_eq_some_iff.1 h
  replace h := hq; clear hq
  refine AI nofun ?_
  refine LWp.sim ?_ (zbi h)
  exact xg (M := []) rfl TT TT
theorem z9n {a0 : List UInt8} {a1 : Int} {v1 : Int} {m : Option Nat} {o : Int} (h : y5 m a0 a1 v1 = some o) :
 LWp Tryz.prog Q9 0 (.loop zcq) (x6 0 (ui Tryz.prog Q9 0 z5y (zfr a0 a1 o))) [(0, .str a0), (1, .int .u8 a1), (5, i6 v1)] [] 0 :=
 j5 (m := m) (s := (v1 : Int)) (r := o) (fun (s : Int) => zr m a0 a1 s) (Uk a0 a1) (z1o a0 a1) (z66 a0 a1) (fun s o h => z7y h) h
noncomputable def q7 (m : Option Nat) (a0 : List UInt8) (a1 : Int) : Option Int :=
 y5 m a0 a1 (W ((a0.length : Int) - 1))
theorem zcj {a0 : List UInt8} {a1 : Int} {m : Option Nat} {o : Int} (h : q7 m a0 a1 = some o) : LWp Tryz.prog Q9 0 zh0 (zfr a0 a1 o) (je 0 [.str a0, .int .u8 a1]) [] 0 := by
 unfold q7 at h
 refine zp (ye ?_)
 refine zp ?_
 refine zp (ye ?_)
 refine xx ?_
 refine LWp.sim ?_ (z9n h)
 exact xg (M := []) rfl (S2 rfl rfl (AI (VS rfl) TT)) TT
theorem zkj {a0 : List UInt8} {a1 : Int} {m : Option Nat} {o : Int} (h : q7 m a0 a1 = some o) : PFn Tryz.prog 29 [.str a0, .int .u8 a1] (i6 o) := PFn.ofFnW (L := zmp) zi8 zjm (NB rfl) rfl (zcj h)
def zas : LCode := (.seq (.seq (.region [Qm 12 5,
 Qo 13 (.bin .geq (.t 12) (.c (i6 0)))])
 (.cond (.t 13)
  .skip
  (.exit 0)))
 (.seq (.block 1
  (.region [Qm 16 4,
   Qo 17 (.bin .mul (.t 16) (.c (.int .u32 16777619))),
   Qm 18 0,
   Qm 19 5,
   Qo 20 (.idxS (.t 18) (.t 19)),
   Qo 21 (.conv (.int .u32) (.t 20)),
   Qo 22 (.bin .add (.t 17) (.t 21)),
   Qm 4 22]))
 (.region [Qm 14 5,
  Qo 15 (.bin .sub (.t 14) (.c (i6 1))),
  Qm 5 15])))
def zgt : LCode := (.region [Qm 35 7,
 Qm 36 7,
 Qo 37 (.bin .mul (.t 35) (.t 36)),
 Qm 7 37])
def zgi : LCode := (.region [Qm 27 8,
 Qo 28 (.bin .shr (.t 27) (.c (.int .u64 1))),
 Qm 8 28])
def zd8 : LCode := (.seq (.seq (.region [Qm 25 8,
 Qo 26 (.bin .gtr (.t 25) (.c (i6 0)))])
 (.cond (.t 26)
  .skip
  (.exit 2)))
 (.seq (.block 3
  (.seq (.seq (.region [Qm 29 8,
   Qo 30 (.bin .and (.t 29) (.c (i6 1))),
   Qo 31 (.bin .neq (.t 30) (.c (i6 0)))])
  (.cond (.t 31)
   (.region [Qm 32 6,
    Qm 33 7,
    Qo 34 (.bin .mul (.t 32) (.t 33)),
    Qm 6 34])
   .skip))
  zgt))
 zgi))
def z6s : LCode := (.seq (.region [Qm 38 4,
 Qm 39 6,
 Qm 2 38,
 Qm 3 39])
 .ret)
def z5z : LCode := (.seq (.region [Qo 6 (.mv (.c (.int .u32 1))),
 Qo 7 (.mv (.c (.int .u32 16777619)))])
 (.seq (.seq (.region [Qm 23 0,
  Qo 24 (.len true (.t 23)),
  Qm 8 24])
 (.block 2
  (.loop
   zd8)))
 z6s))
def zha : LCode := (.seq (.region [Qo 2 (.mv (.c (.int .u32 0))),
 Qo 3 (.mv (.c (.int .u32 0)))])
 (.seq (.region [Qo 4 (.mv (.c (.int .u32 0)))])
 (.seq (.seq (.region [Qm 9 0,
  Qo 10 (.len true (.t 9)),
  Qo 11 (.bin .sub (.t 10) (.c (i6 1))),
  Qm 5 11])
 (.block 0
  (.loop
   zas)))
 z5z)))
def wv : Lay := ⟨40, [], false⟩
def zao : List LRes := [.t 2, .t 3]
def zkt : LFn := ⟨1, wv, zha, zao⟩
theorem zjh : vu Tryz.prog [] 44 = some zkt := by kernel_rfl
theorem zji : Qh Tryz.prog 44 := ⟨_, Tryz.func44, rfl, rfl⟩
def z4y (a0 : List UInt8) (o : Int × Int) : Exit → Env → AHeap → Nat → Prop := z19 zao (w8 (.tup [.int .u32 o.1, .int .u32 o.2]))
def Ud (a0 : List UInt8) (s : (Int × Int)) : Env := [(0, .str a0), (4, .int .u32 s.1), (5, i6 s.2)]
def z1d (a0 : List UInt8) (s : (Int × Int)) : AHeap := []
def z67 (a0 : List UInt8) (o : (Int × Int)) : Exit → Env → AHeap → Nat → Prop := (x6 0 (ui Tryz.prog wv 0 z5z (z4y a0 o)))
noncomputable def qt (m : Option Nat) (v1 : Int) (v5 : Int) (v6 : Int) (v8 : Int) : Option ((Int × Int × Int) ⊕ (Int × Int)) :=
 some (.inl (v8, (IntKind.wrap .u32 (v5 * v5)), (v6.fdiv (2 ^ (min (1 : Int).toNat (IntKind.bits .i64))))))
noncomputable def xt (m : Option Nat) (v1 : Int) (v4 : Int) : Option (Int × Int) :=
 some (v1, v4)
noncomputable def qy (m : Option Nat) (v1 : Int) (v4 : Int) (v5 : Int) (v6 : Int) : Option ((Int × Int × Int) ⊕ (Int × Int)) :=
 if (decide (v6 > 0)) = true then
  if ((Zl .and .i64 v6 1) != 0) = true then
   qt m v1 v5 v6 (IntKind.wrap .u32 (v4 * v5))
  else
   qt m v1 v5 v6 v4
 else
  Option.map Sum.inr (
   xt m v1 v4)
noncomputable def jo (m : Option Nat) (v1 : Int) (v4 : Int) (v5 : Int) (v6 : Int) : Option (Int × Int) := vr m (fun (s : (Int × Int × Int)) => qy m v1 s.1 s.2.1 s.2.2) (v4, v5, v6)
noncomputable def xv (m : Option Nat) (a0 : List UInt8) (v1 : Int) : Option (Int × Int) :=
 jo m v1 1 16777619 (a0.length : Int)
noncomputable def qv (m : Option Nat) (a0 : List UInt8) (v1 : Int) (v2 : Int) : Option ((Int × Int) ⊕ (Int × Int)) :=
 if (decide (v2 ≥ 0)) = true then
  if (0 : Int) ≤ v2 ∧ v2 < (a0.length : Int) then
  some (.inl ((IntKind.wrap .u32 ((IntKind.wrap .u32 (v1 * 16777619)) + (IntKind.wrap .u32 (((a0.getD v2.toNat 0).toNat : Nat) : Int)))), (W (v2 - 1))))
  else none
 else
  Option.map Sum.inr (
   xv m a0 v1)
noncomputable def jp (m : Option Nat) (a0 : List UInt8) (v1 : Int) (v2 : Int) : Option (Int × Int) := vr m (fun (s : (Int × Int)) => qv m a0 s.1 s.2) (v1, v2)
def Jc (v1 : Int) (s : (Int × Int × Int)) : Env := [(4, .int .u32 v1), (6, .int .u32 s.1), (7, .int .u32 s.2.1), (8, i6 s.2.2)]
def Wz (v1 : Int) (s : (Int × Int × Int)) : AHeap := []
def z0b (a0 : List UInt8) (o : (Int × Int)) : Exit → Env → AHeap → Nat → Prop := (x6 2 (ui Tryz.prog wv 0 z6s (z4y a0 o)))
theorem z3m {a0 : List UInt8} {v1 : Int} {v5 : Int} {v6 : Int} {v8 : Int} {m : Option Nat} {o : ((Int × Int × Int) ⊕ (Int × Int))} (h : qt m v1 v5 v6 v8 = some o) :
 LWp Tryz.prog wv 0 zgt (x6 3 (ui Tryz.prog wv 0 zgi (wr 0 0 (Jc v1) (Wz v1) (z0b a0) o))) [(4, .int .u32 v1), (6, .int .u32 v8), (7, .int .u32 v5), (8, i6 v6)] [] 0 := by
 unfold qt at h
 refine ye ?_
 refine ye ?_
 refine AI (by decide) ?_
 cases h
 exact AI rfl (xg (M := []) rfl (S4 rfl rfl rfl rfl TT) TT)
theorem zap {a0 : List UInt8} {v1 : Int} {v4 : Int} {m : Option Nat} {o : (Int × Int)} (h : xt m v1 v4 = some o) :
 LWp Tryz.prog wv 0 z6s (z4y a0 o) [(4, .int .u32 v1), (6, .int .u32 v4)] [] 0 := by
 unfold xt at h
 refine zp (ye ?_)
 refine Zk ?_
 cases h
 exact AI TT (AI TT (AI rfl (VS rfl)))
theorem z81 {a0 : List UInt8} {v1 : Int} {v4 : Int} {v5 : Int} {v6 : Int} {m : Option Nat} {o : (Int × Int × Int) ⊕ (Int × Int)} (h : qy m v1 v4 v5 v6 = some o) :
 LWp Tryz.prog wv 0 zd8 (wr 0 0 (Jc v1) (Wz v1) (z0b a0) o) [(4, .int .u32 v1), (6, .int .u32 v4), (7, .int .u32 v5), (8, i6 v6)] [] 0 := by
 unfold qy at h
 refine zp ?_
 refine zp (ye ?_)
 refine j0 (v := (decide (v6 > 0))) rfl TT (fun h11 => ?_) (fun h11 => ?_)
 ·have h := yy h11 h
  refine jc ?_
  refine zp ?_
  refine xx ?_
  refine zp ?_
  refine zp (ye ?_)
  refine j0 (v := ((Zl .and .i64 v6 1) != 0)) rfl TT (fun h12 => ?_) (fun h12 => ?_)
  ·have h := yy h12 h
   refine ye ?_
   refine LWp.sim ?_ (z3m h)
   exact xg (M := []) rfl (S4 rfl rfl rfl rfl TT) TT
  ·have h := q9 h12 h
   refine jc ?_
   refine LWp.sim ?_ (z3m h)
   exact xg (M := []) rfl (S4 rfl rfl rfl rfl TT) TT
 ·have h := q9 h11 h
  refine Zo ?_
  obtain ⟨o, hq, rfl⟩ := Option.map_eq_some_iff.1 h
  replace h := hq; clear hq
  refine AI nofun ?_
  refine LWp.sim ?_ (zap h)
  exact xg (M := []) rfl (S2 rfl rfl TT) TT
theorem zbw {a0 : List UInt8} {v1 : Int} {v4 : Int} {v5 : Int} {v6 : Int} {m : Option Nat} {o : (Int × Int)} (h : jo m v1 v4 v5 v6 = some o) :
 LWp Tryz.prog wv 0 (.loop zd8) (x6 2 (ui Tryz.prog wv 0 z6s (z4y a0 o))) [(4, .int .u32 v1), (6, .int .u32 v4), (7, .int .u32 v5), (8, i6 v6)] [] 0 :=
 j5 (m := m) (s := ((v4, v5, v6) : (Int × Int × Int))) (r := o) (fun (s : (Int × Int × Int)) => qy m v1 s.1 s.2.1 s.2.2) (Jc v1) (Wz v1) (z0b a0) (fun s o h => z81 h) h
theorem zbd {a0 : List UInt8} {v1 : Int} {m : Option Nat} {o : (Int × Int)} (h : xv m a0 v1 = some o) :
 LWp Tryz.prog wv 0 z5z (z4y a0 o) [(0, .str a0), (4, .int .u32 v1)] [] 0 := by
 unfold xv at h
 refine zp (ye ?_)
 refine zp ?_
 refine zp (ye ?_)
 refine xx ?_
 refine LWp.sim ?_ (zbw h)
 exact xg (M := []) rfl (S4 rfl rfl rfl rfl TT) TT
theorem z8s {a0 : List UInt8} {v1 : Int} {v2 : Int} {m : Option Nat} {o : (Int × Int) ⊕ (Int × Int)} (h : qv m a0 v1 v2 = some o) :
 LWp Tryz.prog wv 0 zas (wr 0 0 (Ud a0) (z1d a0) (z67 a0) o) [(0, .str a0), (4, .int .u32 v1), (5, i6 v2)] [] 0 := by
 unfold qv at h
 refine zp ?_
 refine zp (ye ?_)
 refine j0 (v := (decide (v2 ≥ 0))) rfl TT (fun h5 => ?_) (fun h5 => ?_)
 ·have h := yy h5 h
  refine jc ?_
  refine zp ?_
  refine xx ?_
  refine ye ?_
  obtain ⟨h6, h⟩ := zo h
  refine AI h6 ?_
  refine LWp.sim (e := [(0, .str a0), (4, .int .u32 (IntKind.wrap .u32 ((IntKind.wrap .u32 (v1 * 16777619)) + (IntKind.wrap .u32 (((a0.getD v2.toNat 0).toNat : Nat) : Int))))), (5, i6 v2)]) (L := []) (n := 0) ?_ ?_
  ·exact xg (M := []) rfl (S2 rfl rfl (AI (VS rfl) TT)) TT
  refine ye ?_
  cases h
  exact AI rfl (xg (M := []) rfl (S2 rfl rfl (AI (VS rfl) TT)) TT)
 ·have h := q9 h5 h
  refine Zo ?_
  obtain ⟨o, hq, rfl⟩ := Option.map_eq_some_iff.1 h
  replace h := hq; clear hq
  refine AI nofun ?_
  refine LWp.sim ?_ (zbd h)
  exact xg (M := []) rfl (S2 rfl rfl TT) TT
theorem zac {a0 : List UInt8} {v1 : Int} {v2 : Int} {m : Option Nat} {o : (Int × Int)} (h : jp m a0 v1 v2 = some o) :
 LWp Tryz.prog wv 0 (.loop zas) (x6 0 (ui Tryz.prog wv 0 z5z (z4y a0 o))) [(0, .str a0), (4, .int .u32 v1), (5, i6 v2)] [] 0 :=
 j5 (m := m) (s := ((v1, v2) : (Int × Int))) (r := o) (fun (s : (Int × Int)) => qv m a0 s.1 s.2) (Ud a0) (z1d a0) (z67 a0) (fun s o h => z8s h) h
noncomputable def xc (m : Option Nat) (a0 : List UInt8) : Option (Int × Int) :=
 jp m a0 0 (W ((a0.length : Int) - 1))
theorem zc9 {a0 : List UInt8} {m : Option Nat} {o : Int × Int} (h : xc m a0 = some o) : LWp Tryz.prog wv 0 zha (z4y a0 o) (je 0 [.str a0]) [] 0 := by
 unfold xc at h
 refine zp (ye ?_)
 refine zp (ye ?_)
 refine zp ?_
 refine zp (ye ?_)
 refine xx ?_
 refine LWp.sim ?_ (zac h)
 exact xg (M := []) rfl (S2 rfl rfl (AI (VS rfl) TT)) TT
theorem zmo {a0 : List UInt8} {m : Option Nat} {o : Int × Int} (h : xc m a0 = some o) : PFn Tryz.prog 44 [.str a0] (.tup [.int .u32 o.1, .int .u32 o.2]) := PFn.ofFnW (L := zkt) zjh zji (NB rfl) rfl (zc9 h)
def zdl : LCode := (.seq (.seq (.region [Qm 26 10,
 Qm 27 8,
 Qo 28 (.bin .geq (.t 26) (.t 27))])
 (.cond (.t 28)
  .skip
  (.exit 0)))
 (.seq (.block 1
  (.region [Qm 31 9,
   Qo 32 (.bin .mul (.t 31) (.c (.int .u32 16777619))),
   Qm 33 0,
   Qm 34 10,
   Qo 35 (.idxS (.t 33) (.t 34)),
   Qo 36 (.conv (.int .u32) (.t 35)),
   Qo 37 (.bin .add (.t 32) (.t 36)),
   Qm 9 37]))
 (.region [Qm 29 10,
  Qo 30 (.bin .sub (.t 29) (.c (i6 1))),
  Qm 10 30])))
def zcd : LCode := (.seq (.seq (.region [Qm 51 11,
 Qo 52 (.bin .geq (.t 51) (.c (i6 0)))])
 (.cond (.t 52)
  .skip
  (.exit 2)))
 (.seq (.block 3
  (.seq (.region [Qm 55 9,
   Qo 56 (.bin .mul (.t 55) (.c (.int .u32 16777619))),
   Qm 9 56])
  (.seq (.region [Qm 57 9,
   Qm 58 0,
   Qm 59 11,
   Qo 60 (.idxS (.t 58) (.t 59)),
   Qo 61 (.conv (.int .u32) (.t 60)),
   Qo 62 (.bin .add (.t 57) (.t 61)),
   Qm 9 62])
  (.seq (.region [Qm 63 9,
   Qm 64 6,
   Qm 65 0,
   Qm 66 11,
   Qm 67 7,
   Qo 68 (.bin .add (.t 66) (.t 67)),
   Qo 69 (.idxS (.t 65) (.t 68)),
   Qo 70 (.conv (.int .u32) (.t 69)),
   Qo 71 (.bin .mul (.t 64) (.t 70)),
   Qo 72 (.bin .sub (.t 63) (.t 71)),
   Qm 9 72])
  (.seq (.region [Qm 73 9,
   Qm 74 5,
   Qo 75 (.bin .eql (.t 73) (.t 74)),
   Qm 76 75,
   Qn 77 0 (76, true),
   Qn 78 11 (76, true),
   Qn 79 11 (76, true),
   Qn 80 7 (76, true),
   Qg 81 (.bin .add (.t 79) (.t 80)) (76, true),
   Qg 82 (.slStr (.t 77) (some (.t 78)) (some (.t 81))) (76, true),
   Qn 83 1 (76, true),
   Qg 84 (.bin .eql (.t 82) (.t 83)) (76, true),
   Qp 85 76 84])
  (.cond (.t 85)
   (.seq (.region [Qm 86 11,
    Qm 4 86])
   .ret)
   .skip))))))
 (.region [Qm 53 11,
  Qo 54 (.bin .sub (.t 53) (.c (i6 1))),
  Qm 11 54])))
def z6w : LCode := (.seq (.region [Qo 4 (.mv (.c (i6 (-1))))])
 .ret)
def z5m : LCode := (.seq (.seq (.region [Qm 38 9,
 Qm 39 5,
 Qo 40 (.bin .eql (.t 38) (.t 39)),
 Qm 41 40,
 Qn 42 0 (41, true),
 Qn 43 8 (41, true),
 Qg 44 (.slStr (.t 42) (some (.t 43)) none) (41, true),
 Qn 45 1 (41, true),
 Qg 46 (.bin .eql (.t 44) (.t 45)) (41, true),
 Qp 47 41 46])
 (.cond (.t 47)
  (.seq (.region [Qm 48 8,
   Qm 4 48])
  .ret)
  .skip))
 (.seq (.seq (.region [Qm 49 8,
  Qo 50 (.bin .sub (.t 49) (.c (i6 1))),
  Qm 11 50])
 (.block 2
  (.loop
   zcd)))
 z6w))
def zgp : LCode := (.seq (.region [Qi 4 0])
 (.seq (.region [Qm 13 1,
  Qc 14 44 13,
  Qm 12 14,
  Qo 15 (.ext 0 (.t 12)),
  Qo 16 (.ext 1 (.t 12)),
  Qm 5 15,
  Qm 6 16])
 (.seq (.region [Qm 17 1,
  Qo 18 (.len true (.t 17)),
  Qm 7 18])
 (.seq (.region [Qm 19 0,
  Qo 20 (.len true (.t 19)),
  Qm 21 7,
  Qo 22 (.bin .sub (.t 20) (.t 21)),
  Qm 8 22])
 (.seq (.region [Qo 9 (.mv (.c (.int .u32 0)))])
 (.seq (.seq (.region [Qm 23 0,
  Qo 24 (.len true (.t 23)),
  Qo 25 (.bin .sub (.t 24) (.c (i6 1))),
  Qm 10 25])
 (.block 0
  (.loop
   zdl)))
 z5m))))))
def k6 : Lay := ⟨87, [], false⟩
def zaa : List LRes := [.t 4]
def zkw : LFn := ⟨2, k6, zgp, zaa⟩
theorem zjs : vu Tryz.prog [] 30 = some zkw := by kernel_rfl
theorem zj1 : Qh Tryz.prog 30 := ⟨_, Tryz.func30, rfl, rfl⟩
def z48 (a0 : List UInt8) (a1 : List UInt8) (o : Int) : Exit → Env → AHeap → Nat → Prop := z19 zaa (w8 (i6 o))
def Um (a0 : List UInt8) (a1 : List UInt8) (v1 : Int × Int) (s : (Int × Int)) : Env := [(0, .str a0), (1, .str a1), (5, .int .u32 v1.1), (6, .int .u32 v1.2), (7, i6 (a1.length : Int)), (8, i6 (W ((a0.length : Int) - (a1.length : Int)))), (9, .int .u32 s.1), (10, i6 s.2)]
def z26 (a0 : List UInt8) (a1 : List UInt8) (v1 : Int × Int) (s : (Int × Int)) : AHeap := []
def z6k (a0 : List UInt8) (a1 : List UInt8) (o : Int) : Exit → Env → AHeap → Nat → Prop := (x6 0 (ui Tryz.prog k6 0 z5m (z48 a0 a1 o)))
noncomputable def qm (m : Option Nat) : Option Int :=
 some (-1)
noncomputable def yj (m : Option Nat) (a0 : List UInt8) (a1 : List UInt8) (v1 : Int × Int) (v4 : Int) (v5 : Int) : Option ((Int × Int) ⊕ Int) :=
 if (decide (v5 ≥ 0)) = true then
  if (0 : Int) ≤ v5 ∧ v5 < (a0.length : Int) then
  if (0 : Int) ≤ (W (v5 + (a1.length : Int))) ∧ (W (v5 + (a1.length : Int))) < (a0.length : Int) then
  if ((((IntKind.wrap .u32 ((IntKind.wrap .u32 ((IntKind.wrap .u32 (v4 * 16777619)) + (IntKind.wrap .u32 (((a0.getD v5.toNat 0).toNat : Nat) : Int)))) - (IntKind.wrap .u32 (v1.2 * (IntKind.wrap .u32 (((a0.getD (W (v5 + (a1.length : Int))).toNat 0).toNat : Nat) : Int)))))) == v1.1) == true) = true → (0 : Int) ≤ v5 ∧ v5 ≤ (W (v5 + (a1.length : Int))) ∧ (W (v5 + (a1.length : Int))) ≤ (a0.length : Int)) then
  if (((IntKind.wrap .u32 ((IntKind.wrap .u32 ((IntKind.wrap .u32 (v4 * 16777619)) + (IntKind.wrap .u32 (((a0.getD v5.toNat 0).toNat : Nat) : Int)))) - (IntKind.wrap .u32 (v1.2 * (IntKind.wrap .u32 (((a0.getD (W (v5 + (a1.length : Int))).toNat 0).toNat : Nat) : Int)))))) == v1.1) && (((a0.take (W (v5 + (a1.length : Int))).toNat).drop v5.toNat) == a1)) = true then
   Option.map Sum.inr (
    some v5)
  else
   some (.inl ((IntKind.wrap .u32 ((IntKind.wrap .u32 ((IntKind.wrap .u32 (v4 * 16777619)) + (IntKind.wrap .u32 (((a0.getD v5.toNat 0).toNat : Nat) : Int)))) - (IntKind.wrap .u32 (v1.2 * (IntKind.wrap .u32 (((a0.getD (W (v5 + (a1.length : Int))).toNat 0).toNat : Nat) : Int)))))), (W (v5 - 1))))
  else none
  else none
  else none
 else
  Option.map Sum.inr (
   qm m)
noncomputable def xy (m : Option Nat) (a0 : List UInt8) (a1 : List UInt8) (v1 : Int × Int) (v4 : Int) (v5 : Int) : Option Int := vr m (fun (s : (Int × Int)) => yj m a0 a1 v1 s.1 s.2) (v4, v5)
noncomputable def qk (m : Option Nat) (a0 : List UInt8) (a1 : List UInt8) (v1 : Int × Int) (v2 : Int) : Option Int :=
 if (((v2 == v1.1) == true) = true → (0 : Int) ≤ (W ((a0.length : Int) - (a1.length : Int))) ∧ (W ((a0.length : Int) - (a1.length : Int))) ≤ (a0.length : Int)) then
 if ((v2 == v1.1) && (((a0.take a0.length).drop (W ((a0.length : Int) - (a1.length : Int))).toNat) == a1)) = true then
  some (W ((a0.length : Int) - (a1.length : Int)))
 else
  xy m a0 a1 v1 v2 (W ((W ((a0.length : Int) - (a1.length : Int))) - 1))
 else none
noncomputable def yk (m : Option Nat) (a0 : List UInt8) (a1 : List UInt8) (v1 : Int × Int) (v2 : Int) (v3 : Int) : Option ((Int × Int) ⊕ Int) :=
 if (decide (v3 ≥ (W ((a0.length : Int) - (a1.length : Int))))) = true then
  if (0 : Int) ≤ v3 ∧ v3 < (a0.length : Int) then
  some (.inl ((IntKind.wrap .u32 ((IntKind.wrap .u32 (v2 * 16777619)) + (IntKind.wrap .u32 (((a0.getD v3.toNat 0).toNat : Nat) : Int)))), (W (v3 - 1))))
  else none
 else
  Option.map Sum.inr (
   qk m a0 a1 v1 v2)
noncomputable def xz (m : Option Nat) (a0 : List UInt8) (a1 : List UInt8) (v1 : Int × Int) (v2 : Int) (v3 : Int) : Option Int := vr m (fun (s : (Int × Int)) => yk m a0 a1 v1 s.1 s.2) (v2, v3)
def U8 (a0 : List UInt8) (a1 : List UInt8) (v1 : Int × Int) (s : (Int × Int)) : Env := [(0, .str a0), (1, .str a1), (5, .int .u32 v1.1), (6, .int .u32 v1.2), (7, i6 (a1.length : Int)), (9, .int .u32 s.1), (11, i6 s.2)]
def z3j (a0 : List UInt8) (a1 : List UInt8) (v1 : Int × Int) (s : (Int × Int)) : AHeap := []
def z64 (a0 : List UInt8) (a1 : List UInt8) (o : Int) : Exit → Env → AHeap → Nat → Prop := (x6 2 (ui Tryz.prog k6 0 z6w (z48 a0 a1 o)))
theorem zd3 {a0 : List UInt8} {a1 : List UInt8} {m : Option Nat} {o : Int} (h : qm m = some o) :
 LWp Tryz.prog k6 0 z6w (z48 a0 a1 o) [] [] 0 := by
 unfold qm at h
 refine zp (ye ?_)
 refine Zk ?_
 cases h
 exact AI TT (AI rfl (VS rfl))
theorem z7q {a0 : List UInt8} {a1 : List UInt8} {v1 : Int × Int} {v4 : Int} {v5 : Int} {m : Option Nat} {o : (Int × Int) ⊕ Int} (h : yj m a0 a1 v1 v4 v5 = some o) :
 LWp Tryz.prog k6 0 zcd (wr 0 0 (U8 a0 a1 v1) (z3j a0 a1 v1) (z64 a0 a1) o) [(0, .str a0), (1, .str a1), (5, .int .u32 v1.1), (6, .int .u32 v1.2), (7, i6 (a1.length : Int)), (9, .int .u32 v4), (11, i6 v5)] [] 0 := by
 unfold yj at h
 refine zp ?_
 refine zp (ye ?_)
 refine j0 (v := (decide (v5 ≥ 0))) rfl TT (fun h20 => ?_) (fun h20 => ?_)
 ·have h := yy h20 h
  refine jc ?_
  refine zp ?_
  refine xx ?_
  refine zp (ye ?_)
  refine zp (ye ?_)
  obtain ⟨h21, h⟩ := zo h
  refine AI h21 ?_
  refine LWp.sim (e := [(0, .str a0), (1, .str a1), (5, .int .u32 v1.1), (6, .int .u32 v1.2), (7, i6 (a1.length : Int)), (9, .int .u32 (IntKind.wrap .u32 ((IntKind.wrap .u32 (v4 * 16777619)) + (IntKind.wrap .u32 (((a0.getD v5.toNat 0).toNat : Nat) : Int))))), (11, i6 v5)]) (L := []) (n := 0) ?_ ?_
  ·exact xg (M := []) rfl (S4 rfl rfl rfl rfl (S2 rfl rfl (AI (VS rfl) TT))) TT
  refine zp (ye ?_)
  obtain ⟨h22, h⟩ := zo h
  refine AI h22 ?_
  refine LWp.sim (e := [(0, .str a0), (1, .str a1), (5, .int .u32 v1.1), (6, .int .u32 v1.2), (7, i6 (a1.length : Int)), (9, .int .u32 (IntKind.wrap .u32 ((IntKind.wrap .u32 ((IntKind.wrap .u32 (v4 * 16777619)) + (IntKind.wrap .u32 (((a0.getD v5.toNat 0).toNat : Nat) : Int)))) - (IntKind.wrap .u32 (v1.2 * (IntKind.wrap .u32 (((a0.getD (W (v5 + (a1.length : Int))).toNat 0).toNat : Nat) : Int))))))), (11, i6 v5)]) (L := []) (n := 0) ?_ ?_
  ·exact xg (M := []) rfl (S4 rfl rfl rfl rfl (S2 rfl rfl (AI (VS rfl) TT))) TT
  refine zp (ye ?_)
  refine AI (fun hp => (AI hp hp)) ?_
  obtain ⟨h23, h⟩ := zo h
  refine AI (fun hp => (AI (AI hp (AI hp hp)) (h23 hp))) ?_
  refine AI (fun hp => (AI hp hp)) ?_
  refine AI (fun hc => (bqt hc)) ?_
  refine LWp.sim (e := [(0, .str a0), (1, .str a1), (5, .int .u32 v1.1), (6, .int .u32 v1.2), (7, i6 (a1.length : Int)), (9, .int .u32 (IntKind.wrap .u32 ((IntKind.wrap .u32 ((IntKind.wrap .u32 (v4 * 16777619)) + (IntKind.wrap .u32 (((a0.getD v5.toNat 0).toNat : Nat) : Int)))) - (IntKind.wrap .u32 (v1.2 * (IntKind.wrap .u32 (((a0.getD (W (v5 + (a1.length : Int))).toNat 0).toNat : Nat) : Int))))))), (11, i6 v5), (85, .bool (((IntKind.wrap .u32 ((IntKind.wrap .u32 ((IntKind.wrap .u32 (v4 * 16777619)) + (IntKind.wrap .u32 (((a0.getD v5.toNat 0).toNat : Nat) : Int)))) - (IntKind.wrap .u32 (v1.2 * (IntKind.wrap .u32 (((a0.getD (W (v5 + (a1.length : Int))).toNat 0).toNat : Nat) : Int)))))) == v1.1) && (((a0.take (W (v5 + (a1.length : Int))).toNat).drop v5.toNat) == a1)))]) (L := []) (n := 0) ?_ ?_
  ·exact xg (M := []) rfl (S4 rfl rfl rfl rfl (S4 rfl rfl rfl rfl TT)) TT
  refine j0 (v := (((IntKind.wrap .u32 ((IntKind.wrap .u32 ((IntKind.wrap .u32 (v4 * 16777619)) + (IntKind.wrap .u32 (((a0.getD v5.toNat 0).toNat : Nat) : Int)))) - (IntKind.wrap .u32 (v1.2 * (IntKind.wrap .u32 (((a0.getD (W (v5 + (a1.length : Int))).toNat 0).toNat : Nat) : Int)))))) == v1.1) && (((a0.take (W (v5 + (a1.length : Int))).toNat).drop v5.toNat) == a1))) rfl TT (fun h24 => ?_) (fun h24 => ?_)
  ·have h := yy h24 h
   refine zp (ye ?_)
   refine Zk ?_
   obtain ⟨o, hq, rfl⟩ := Option.map_eq_some_iff.1 h
   replace h := hq; clear hq
   refine AI nofun ?_
   cases h
   exact AI TT (AI rfl (VS rfl))
  ·have h := q9 h24 h
   refine jc ?_
   refine ye ?_
   cases h
   exact AI rfl (xg (M := []) rfl (S4 rfl rfl rfl rfl (S2 rfl rfl (AI (VS rfl) TT))) TT)
 ·have h := q9 h20 h
  refine Zo ?_
  obtain ⟨o, hq, rfl⟩ := Option.map_eq_some_iff.1 h
  replace h := hq; clear hq
  refine AI nofun ?_
  refine LWp.sim ?_ (zd3 h)
  exact xg (M := []) rfl TT TT
theorem zck {a0 : List UInt8} {a1 : List UInt8} {v1 : Int × Int} {v4 : Int} {v5 : Int} {m : Option Nat} {o : Int} (h : xy m a0 a1 v1 v4 v5 = some o) :
 LWp Tryz.prog k6 0 (.loop zcd) (x6 2 (ui Tryz.prog k6 0 z6w (z48 a0 a1 o))) [(0, .str a0), (1, .str a1), (5, .int .u32 v1.1), (6, .int .u32 v1.2), (7, i6 (a1.length : Int)), (9, .int .u32 v4), (11, i6 v5)] [] 0 :=
 j5 (m := m) (s := ((v4, v5) : (Int × Int))) (r := o) (fun (s : (Int × Int)) => yj m a0 a1 v1 s.1 s.2) (U8 a0 a1 v1) (z3j a0 a1 v1) (z64 a0 a1) (fun s o h => z7q h) h
theorem zbz {a0 : List UInt8} {a1 : List UInt8} {v1 : Int × Int} {v2 : Int} {m : Option Nat} {o : Int} (h : qk m a0 a1 v1 v2 = some o) :
 LWp Tryz.prog k6 0 z5m (z48 a0 a1 o) [(0, .str a0), (1, .str a1), (5, .int .u32 v1.1), (6, .int .u32 v1.2), (7, i6 (a1.length : Int)), (8, i6 (W ((a0.length : Int) - (a1.length : Int)))), (9, .int .u32 v2)] [] 0 := by
 unfold qk at h
 refine zp ?_
 refine zp (ye ?_)
 obtain ⟨h8, h⟩ := zo h
 refine AI (fun hp => (AI (AI hp hp) (AI (And.left (h8 hp)) (AI (And.right (h8 hp)) (Int.le_refl _))))) ?_
 refine AI (fun hp => (AI hp hp)) ?_
 refine AI (fun hc => (bqt hc)) ?_
 refine LWp.sim (e := [(0, .str a0), (1, .str a1), (5, .int .u32 v1.1), (6, .int .u32 v1.2), (7, i6 (a1.length : Int)), (8, i6 (W ((a0.length : Int) - (a1.length : Int)))), (9, .int .u32 v2), (47, .bool ((v2 == v1.1) && (((a0.take a0.length).drop (W ((a0.length : Int) - (a1.length : Int))).toNat) == a1)))]) (L := []) (n := 0) ?_ ?_
 ·exact xg (M := []) rfl (S4 rfl rfl rfl rfl (S4 rfl rfl rfl rfl TT)) TT
 refine j0 (v := ((v2 == v1.1) && (((a0.take a0.length).drop (W ((a0.length : Int) - (a1.length : Int))).toNat) == a1))) rfl TT (fun h9 => ?_) (fun h9 => ?_)
 ·have h := yy h9 h
  refine zp (ye ?_)
  refine Zk ?_
  cases h
  exact AI TT (AI rfl (VS rfl))
 ·have h := q9 h9 h
  refine jc ?_
  refine zp ?_
  refine zp (ye ?_)
  refine xx ?_
  refine LWp.sim ?_ (zck h)
  exact xg (M := []) rfl (S4 rfl rfl rfl rfl (S2 rfl rfl (AI (VS rfl) TT))) TT
theorem z86 {a0 : List UInt8} {a1 : List UInt8} {v1 : Int × Int} {v2 : Int} {v3 : Int} {m : Option Nat} {o : (Int × Int) ⊕ Int} (h : yk m a0 a1 v1 v2 v3 = some o) :
 LWp Tryz.prog k6 0 zdl (wr 0 0 (Um a0 a1 v1) (z26 a0 a1 v1) (z6k a0 a1) o) [(0, .str a0), (1, .str a1), (5, .int .u32 v1.1), (6, .int .u32 v1.2), (7, i6 (a1.length : Int)), (8, i6 (W ((a0.length : Int) - (a1.length : Int)))), (9, .int .u32 v2), (10, i6 v3)] [] 0 := by
 unfold yk at h
 refine zp ?_
 refine zp (ye ?_)
 refine j0 (v := (decide (v3 ≥ (W ((a0.length : Int) - (a1.length : Int)))))) rfl TT (fun h6 => ?_) (fun h6 => ?_)
 ·have h := yy h6 h
  refine jc ?_
  refine zp ?_
  refine xx ?_
  refine ye ?_
  obtain ⟨h7, h⟩ := zo h
  refine AI h7 ?_
  refine LWp.sim (e := [(0, .str a0), (1, .str a1), (5, .int .u32 v1.1), (6, .int .u32 v1.2), (7, i6 (a1.length : Int)), (8, i6 (W ((a0.length : Int) - (a1.length : Int)))), (9, .int .u32 (IntKind.wrap .u32 ((IntKind.wrap .u32 (v2 * 16777619)) + (IntKind.wrap .u32 (((a0.getD v3.toNat 0).toNat : Nat) : Int))))), (10, i6 v3)]) (L := []) (n := 0) ?_ ?_
  ·exact xg (M := []) rfl (S4 rfl rfl rfl rfl (S4 rfl rfl rfl rfl TT)) TT
  refine ye ?_
  cases h
  exact AI rfl (xg (M := []) rfl (S4 rfl rfl rfl rfl (S4 rfl rfl rfl rfl TT)) TT)
 ·have h := q9 h6 h
  refine Zo ?_
  obtain ⟨o, hq, rfl⟩ := Option.map_eq_some_iff.1 h
  replace h := hq; clear hq
  refine AI nofun ?_
  refine LWp.sim ?_ (zbz h)
  exact xg (M := []) rfl (S4 rfl rfl rfl rfl (S2 rfl rfl (AI (VS rfl) TT))) TT
theorem zc5 {a0 : List UInt8} {a1 : List UInt8} {v1 : Int × Int} {v2 : Int} {v3 : Int} {m : Option Nat} {o : Int} (h : xz m a0 a1 v1 v2 v3 = some o) :
 LWp Tryz.prog k6 0 (.loop zdl) (x6 0 (ui Tryz.prog k6 0 z5m (z48 a0 a1 o))) [(0, .str a0), (1, .str a1), (5, .int .u32 v1.1), (6, .int .u32 v1.2), (7, i6 (a1.length : Int)), (8, i6 (W ((a0.length : Int) - (a1.length : Int)))), (9, .int .u32 v2), (10, i6 v3)] [] 0 :=
 j5 (m := m) (s := ((v2, v3) : (Int × Int))) (r := o) (fun (s : (Int × Int)) => yk m a0 a1 v1 s.1 s.2) (Um a0 a1 v1) (z26 a0 a1 v1) (z6k a0 a1) (fun s o h => z86 h) h
noncomputable def yx (m : Option Nat) (a0 : List UInt8) (a1 : List UInt8) : Option Int :=
 (xc m a1).bind fun v1 =>
 xz m a0 a1 v1 0 (W ((a0.length : Int) - 1))
theorem zdo {a0 : List UInt8} {a1 : List UInt8} {m : Option Nat} {o : Int} (h : yx m a0 a1 = some o) : LWp Tryz.prog k6 0 zgp (z48 a0 a1 o) (je 0 [.str a0, .str a1]) [] 0 := by
 unfold yx at h
 refine zp (ye ?_)
 refine zp (ye ?_)
 obtain ⟨v1, h1, h⟩ := bind_some h
 refine PFn.call (zmo h1) (AI (VS rfl) TT) ?_
 refine LWp.sim (e := [(0, .str a0), (1, .str a1), (5, .int .u32 v1.1), (6, .int .u32 v1.2)]) (L := []) (n := 0) ?_ ?_
 ·exact xg (M := []) rfl (S4 rfl rfl rfl rfl TT) TT
 refine zp (ye ?_)
 refine zp (ye ?_)
 refine LWp.sim (e := [(0, .str a0), (1, .str a1), (5, .int .u32 v1.1), (6, .int .u32 v1.2), (7, i6 (a1.length : Int)), (8, i6 (W ((a0.length : Int) - (a1.length : Int))))]) (L := []) (n := 0) ?_ ?_
 ·exact xg (M := []) rfl (S4 rfl rfl rfl rfl (S2 rfl rfl TT)) TT
 refine zp (ye ?_)
 refine zp ?_
 refine zp (ye ?_)
 refine xx ?_
 refine LWp.sim ?_ (zc5 h)
 exact xg (M := []) rfl (S4 rfl rfl rfl rfl (S4 rfl rfl rfl rfl TT)) TT
theorem zkz {a0 : List UInt8} {a1 : List UInt8} {m : Option Nat} {o : Int} (h : yx m a0 a1 = some o) : PFn Tryz.prog 30 [.str a0, .str a1] (i6 o) := PFn.ofFnW (L := zkw) zjs zj1 (NB rfl) rfl (zdo h)
def zgl : LCode := (.seq (.region [Qi 4 0])
 (.seq (.region [Qm 6 1,
  Qo 7 (.len true (.t 6)),
  Qm 5 7])
 (.seq (.block 0
  (.seq (.region [Qm 9 5,
   Qo 10 (.bin .eql (.t 9) (.c (i6 0))),
   Qm 8 10])
  (.cond (.t 8)
   (.seq (.region [Qm 11 0,
    Qo 12 (.len true (.t 11)),
    Qm 4 12])
   .ret)
   (.seq (.region [Qm 14 5,
    Qo 15 (.bin .eql (.t 14) (.c (i6 1))),
    Qm 13 15])
   (.cond (.t 13)
    (.seq (.region [Qm 16 0,
     Qm 17 1,
     Qo 18 (.idxS (.t 17) (.c (i6 0))),
     Qo 19 (.call 29 [(.t 16), (.t 18)]),
     Qm 4 19])
    .ret)
    (.seq (.region [Qm 21 5,
     Qm 22 0,
     Qo 23 (.len true (.t 22)),
     Qo 24 (.bin .eql (.t 21) (.t 23)),
     Qm 20 24])
    (.cond (.t 20)
     (.seq (.seq (.region [Qm 25 1,
      Qm 26 0,
      Qo 27 (.bin .eql (.t 25) (.t 26))])
     (.cond (.t 27)
      (.seq (.region [Qi 4 0])
      .ret)
      .skip))
     (.seq (.region [Qo 4 (.mv (.c (i6 (-1))))])
     .ret))
     (.seq (.region [Qm 29 5,
      Qm 30 0,
      Qo 31 (.len true (.t 30)),
      Qo 32 (.bin .gtr (.t 29) (.t 31)),
      Qm 28 32])
     (.cond (.t 28)
      (.seq (.region [Qo 4 (.mv (.c (i6 (-1))))])
      .ret)
      .skip)))))))))
 (.seq (.region [Qm 33 0,
  Qm 34 1,
  Qo 35 (.call 30 [(.t 33), (.t 34)]),
  Qm 4 35])
 .ret))))
def zdq : Lay := ⟨36, [], false⟩
def zbq : List LRes := [.t 4]
def zlg : LFn := ⟨2, zdq, zgl, zbq⟩
theorem zht : vu Tryz.prog [] 17 = some zlg := by kernel_rfl
theorem zj8 : Qh Tryz.prog 17 := ⟨_, Tryz.func17, rfl, rfl⟩
noncomputable def xn (m : Option Nat) (a0 : List UInt8) (a1 : List UInt8) : Option Int :=
 if ((a1.length : Int) == 0) = true then
  some (a0.length : Int)
 else
  if ((a1.length : Int) == 1) = true then
   if (0 : Int) ≤ 0 ∧ 0 < (a1.length : Int) then
   (q7 m a0 (((a1.getD (0 : Int).toNat 0).toNat : Nat) : Int)).bind fun v1 =>
   some v1
   else none
  else
   if ((a1.length : Int) == (a0.length : Int)) = true then
    if (a1 == a0) = true then
     some 0
    else
     some (-1)
   else
    if (decide ((a1.length : Int) > (a0.length : Int))) = true then
     some (-1)
    else
     (yx m a0 a1).bind fun v2 =>
     some v2
def znr (a0 : List UInt8) (a1 : List UInt8) (o : Int) : Exit → Env → AHeap → Nat → Prop := z19 zbq (w8 (i6 o))
theorem zav {a0 : List UInt8} {a1 : List UInt8} {m : Option Nat} {o : Int} (h : xn m a0 a1 = some o) : LWp Tryz.prog zdq 0 zgl (znr a0 a1 o) (je 0 [.str a0, .str a1]) [] 0 := by
 unfold xn at h
 refine zp (ye ?_)
 refine zp (ye ?_)
 refine zp ?_
 refine xx ?_
 refine zp (ye ?_)
 refine j0 (v := ((a1.length : Int) == 0)) rfl TT (fun h1 => ?_) (fun h1 => ?_)
 ·have h := yy h1 h
  refine zp (ye ?_)
  refine LWp.sim (e := [(4, i6 (a0.length : Int))]) (L := []) (n := 0) ?_ ?_
  ·exact xg (M := []) rfl (AI (VS rfl) TT) TT
  refine Zk ?_
  cases h
  exact AI TT (AI rfl (VS rfl))
 ·have h := q9 h1 h
  refine zp (ye ?_)
  refine LWp.sim (e := [(0, .str a0), (1, .str a1), (5, i6 (a1.length : Int)), (13, .bool ((a1.length : Int) == 1))]) (L := []) (n := 0) ?_ ?_
  ·exact xg (M := []) rfl (S4 rfl rfl rfl rfl TT) TT
  refine j0 (v := ((a1.length : Int) == 1)) rfl TT (fun h2 => ?_) (fun h2 => ?_)
  ·have h := yy h2 h
   refine zp (ye ?_)
   obtain ⟨h3, h⟩ := zo h
   refine AI h3 ?_
   obtain ⟨v1, h4, h⟩ := bind_some h
   refine PFn.call (zkj h4) (S2 rfl rfl TT) ?_
   refine Zk ?_
   cases h
   exact AI TT (AI rfl (VS rfl))
  ·have h := q9 h2 h
   refine zp (ye ?_)
   refine j0 (v := ((a1.length : Int) == (a0.length : Int))) rfl TT (fun h5 => ?_) (fun h5 => ?_)
   ·have h := yy h5 h
    refine zp ?_
    refine zp (ye ?_)
    refine LWp.sim (e := [(27, .bool (a1 == a0))]) (L := []) (n := 0) ?_ ?_
    ·exact xg (M := []) rfl (AI (VS rfl) TT) TT
    refine j0 (v := (a1 == a0)) rfl TT (fun h6 => ?_) (fun h6 => ?_)
    ·have h := yy h6 h
     refine zp (ye ?_)
     refine Zk ?_
     cases h
     exact AI TT (AI rfl (VS rfl))
    ·have h := q9 h6 h
     refine jc ?_
     refine zp (ye ?_)
     refine Zk ?_
     cases h
     exact AI TT (AI rfl (VS rfl))
   ·have h := q9 h5 h
    refine zp (ye ?_)
    refine LWp.sim (e := [(0, .str a0), (1, .str a1), (28, .bool (decide ((a1.length : Int) > (a0.length : Int))))]) (L := []) (n := 0) ?_ ?_
    ·exact xg (M := []) rfl (S2 rfl rfl (AI (VS rfl) TT)) TT
    refine j0 (v := (decide ((a1.length : Int) > (a0.length : Int)))) rfl TT (fun h7 => ?_) (fun h7 => ?_)
    ·have h := yy h7 h
     refine zp (ye ?_)
     refine Zk ?_
     cases h
     exact AI TT (AI rfl (VS rfl))
    ·have h := q9 h7 h
     refine jc ?_
     refine zp (ye ?_)
     obtain ⟨v2, h8, h⟩ := bind_some h
     refine PFn.call (zkz h8) (S2 rfl rfl TT) ?_
     refine Zk ?_
     cases h
     exact AI TT (AI rfl (VS rfl))
theorem zki {a0 : List UInt8} {a1 : List UInt8} {m : Option Nat} {o : Int} (h : xn m a0 a1 = some o) : PFn Tryz.prog 17 [.str a0, .str a1] (i6 o) := PFn.ofFnW (L := zlg) zht zj8 (NB rfl) rfl (zav h)
def zl2 : LCode := (.draw [⟨Qm 51 6, []⟩,
 ⟨Qt 52 4 11, []⟩,
 ⟨Qf 55 0 9, []⟩,
 ⟨Ql 56 1 55, []⟩,
 ⟨Qo 53 (.mkSl true 4 [(i6 0), (i6 0), (i6 0), (i6 0)] 1 [(0, (.t 52))]), []⟩,
 ⟨Qo 54 (.app true 4 32 (.t 51) (.t 53)), [3]⟩,
 ⟨Qm 6 54, []⟩,
 ⟨Qm 7 56, []⟩])
def zm2 : LCode := (.region [Qo 57 (.bin .add (.t 23) (.c (i6 1))),
 Qm 23 57])
def zhh : LCode := (.seq (.region [Qo 24 (.bin .lss (.t 23) (.t 22))])
 (.seq (.cond (.t 24)
  .skip
  (.exit 1))
 (.seq (.block 2
  (.seq (.region [Qo 25 (.iaddr 3 (.t 21) (.t 23)),
   Qt 26 3 25,
   Qo 9 (.alloc [(i6 0), (i6 0), (i6 0)]),
   ⟨none, .store 3 (.t 9) (.t 26), none⟩])
  (.seq (.region [Qm 27 0,
   Qm 28 7,
   Qf 29 0 9,
   Ql 30 1 29,
   Qo 31 (.slStr (.t 27) (some (.t 28)) (some (.t 30))),
   Qm 10 31])
  (.seq (.draw [⟨Qm 32 10, []⟩,
   ⟨Qm 34 10, []⟩,
   ⟨Qo 35 (.len true (.t 34)), []⟩,
   ⟨Qf 36 1 9, []⟩,
   ⟨Ql 37 1 36, []⟩,
   ⟨Qf 38 2 9, []⟩,
   ⟨Ql 39 1 38, []⟩,
   ⟨Qo 33 (.call 16 [(.t 32), (.c (.str [10]))]), [4, 6]⟩,
   ⟨Qo 40 (.build [(i6 0), (i6 0), (i6 0), (i6 0)] [(0, 1, (.t 33)), (1, 1, (.t 35)), (2, 1, (.t 37)), (3, 1, (.t 39))]), []⟩,
   ⟨Qo 11 (.alloc [(i6 0), (i6 0), (i6 0), (i6 0)]), [4, 6]⟩,
   ⟨⟨none, .store 4 (.t 11) (.t 40), none⟩, []⟩])
  (.seq (.seq (.region [Qf 41 0 11,
   Ql 42 1 41,
   Qo 43 (.bin .gtr (.t 42) (.c (i6 0)))])
  (.cond (.t 43)
   (.region [Qm 44 10,
    Qo 45 (.len true (.t 44)),
    Qo 46 (.bin .sub (.t 45) (.c (i6 1))),
    Qm 47 10,
    Qo 48 (.call 17 [(.t 47), (.c (.str [10]))]),
    Qo 49 (.bin .sub (.t 46) (.t 48)),
    Qf 50 1 11,
    ⟨none, .store 1 (.t 50) (.t 49), none⟩])
   .skip))
  zl2)))))
 zm2)))
def zfn : LCode := (.seq (.region [Qm 58 6,
 Qm 4 58,
 Qi 5 0])
 .ret)
def zle : LCode := (.seq (.region [Qo 4 (.mv (.c (.val (.slice none 0 0)))),
 Qi 5 0])
 (.seq (.block 0
  (.seq (.region [Qm 13 0,
   Qo 14 (.len true (.t 13)),
   Qo 15 (.bin .gtr (.t 14) (.c (i6 2000))),
   Qm 12 15])
  (.cond (.t 12)
   (.seq (.region [Qo 4 (.mv (.c (.val (.slice none 0 0)))),
    Qi 5 2])
   .ret)
   (.seq (.region [Qm 17 0,
    Qm 18 1,
    Qo 19 (.call 15 [(.t 17), (.t 18)]),
    Qo 20 (.un .not (.t 19)),
    Qm 16 20])
   (.cond (.t 16)
    (.seq (.region [Qo 4 (.mv (.c (.val (.slice none 0 0)))),
     Qi 5 3])
    .ret)
    .skip)))))
 (.seq (.region [Qo 6 (.mv (.c (.val (.slice none 0 0))))])
 (.seq (.region [Qi 7 0])
 (.seq (.seq (.region [Qm 21 1,
  Qo 22 (.len false (.t 21)),
  Qi 23 0])
 (.block 1
  (.loop
   zhh)))
 zfn)))))
def Xn : Lay := ⟨59, [], false⟩
def zh2 : List LRes := [.t 4, .t 5]
def zpn : LFn := ⟨2, Xn, zle, zh2⟩
theorem zn4 : vu Tryz.prog [] 6 = some zpn := by kernel_rfl
theorem zl8 : Qh Tryz.prog 6 := ⟨_, Tryz.func6, rfl, rfl⟩
def znj (a0 : List UInt8) (a1 : List G_SemanticToken) (o : (List G_TokenDelta) × Int) : Exit → Env → AHeap → Nat → Prop := z19 zh2 (w8 (.tup [.isl 4 (o.1.map z7) false, i6 o.2]))
def Vd (a0 : List UInt8) (a1 : List G_SemanticToken) (s : ((List G_TokenDelta) × Int × Int)) : Env := [(0, .str a0), (6, .osl (0, 0) 4 (s.1.map z7)), (7, i6 s.2.1), (21, .isl 3 (a1.map z6) false), (22, i6 ((a1.map z6).length : Int)), (23, i6 s.2.2)]
def z11 (a0 : List UInt8) (a1 : List G_SemanticToken) (s : ((List G_TokenDelta) × Int × Int)) : AHeap := [((0, 0), .tok)]
def z3o (a0 : List UInt8) (a1 : List G_SemanticToken) (o : ((List G_TokenDelta) × Int)) : Exit → Env → AHeap → Nat → Prop := (x6 1 (ui Tryz.prog Xn 0 zfn (znj a0 a1 o)))
noncomputable def xa (m : Option Nat) (a0 : List UInt8) (a1 : List G_SemanticToken) (v5 : List G_TokenDelta) (v7 : Int) (v11 : Int) (v13 : Int) : Option (((List G_TokenDelta) × Int × Int) ⊕ ((List G_TokenDelta) × Int)) :=
 if ((v5 ++ ([(G_TokenDelta.mk v11 v13 ((a1.getD v7.toNat default).f_Length) ((a1.getD v7.toNat default).f_Kind))] : List G_TokenDelta)).map z7).length * 32 ≤ 140737488355328 then
 some (.inl ((v5 ++ ([(G_TokenDelta.mk v11 v13 ((a1.getD v7.toNat default).f_Length) ((a1.getD v7.toNat default).f_Kind))] : List G_TokenDelta)), (a1.getD v7.toNat default).f_Start, (W (v7 + 1))))
 else none
theorem z5l {a0 : List UInt8} {a1 : List G_SemanticToken} {v5 : List G_TokenDelta} {v7 : Int} {v11 : Int} {v13 : Int} {m : Option Nat} {o : (((List G_TokenDelta) × Int × Int) ⊕ ((List G_TokenDelta) × Int))} (h : xa m a0 a1 v5 v7 v11 v13 = some o) :
 LWp Tryz.prog Xn 0 zl2 (x6 2 (ui Tryz.prog Xn 0 zm2 (wr 0 1 (Vd a0 a1) (z11 a0 a1) (z3o a0 a1) o))) [(0, .str a0), (6, .osl (0, 0) 4 (v5.map z7)), (9, .ptr (1, 0) 0 0), (11, .ptr (2, 0) 0 0), (21, .isl 3 (a1.map z6) false), (22, i6 ((a1.map z6).length : Int)), (23, i6 v7)] [((0, 0), .tok), ((1, 0), .one [i6 ((a1.getD v7.toNat default).f_Start), i6 ((a1.getD v7.toNat default).f_Length), i6 ((a1.getD v7.toNat default).f_Kind)]), ((2, 0), .one [i6 v11, i6 v13, i6 ((a1.getD v7.toNat default).f_Length), i6 ((a1.getD v7.toNat default).f_Kind)])] 3 := by
 unfold xa at h
 refine zg0 ?_
 obtain ⟨h24, h⟩ := zo h
 refine EX ((v5 ++ ([(G_TokenDelta.mk v11 v13 ((a1.getD v7.toNat default).f_Length) ((a1.getD v7.toNat default).f_Kind))] : List G_TokenDelta)).map z7) (AI (Qv z7 v5 ([(G_TokenDelta.mk v11 v13 ((a1.getD v7.toNat default).f_Length) ((a1.getD v7.toNat default).f_Kind))] : List G_TokenDelta)) (AI h24 ?_))
 refine AI rfl ?_
 refine LWp.sim (e := [(0, .str a0), (6, .osl (0, 0) 4 ((v5 ++ ([(G_TokenDelta.mk v11 v13 ((a1.getD v7.toNat default).f_Length) ((a1.getD v7.toNat default).f_Kind))] : List G_TokenDelta)).map z7)), (7, i6 ((a1.getD v7.toNat default).f_Start)), (21, .isl 3 (a1.map z6) false), (22, i6 ((a1.map z6).length : Int)), (23, i6 v7)]) (L := [((0, 0), .tok)]) (n := 1) ?_ ?_
 ·exact xg (M := [((0, 0), (3, 0))]) rfl (AI (VS rfl) (AI (Vw.osl _ _ _ _ rfl) (S4 rfl rfl rfl rfl TT))) (AI (AI rfl BVw.tok) TT)
 refine ye ?_
 cases h
 exact AI rfl (xg (M := [((0, 0), (0, 0))]) rfl (AI (VS rfl) (AI (Vw.osl _ _ _ _ rfl) (S4 rfl rfl rfl rfl TT))) (AI (AI rfl BVw.tok) TT))
noncomputable def ji (m : Option Nat) (v5 : List G_TokenDelta) : Option ((List G_TokenDelta) × Int) :=
 some (v5, 0)
noncomputable def qi (m : Option Nat) (a0 : List UInt8) (a1 : List G_SemanticToken) (v5 : List G_TokenDelta) (v6 : Int) (v7 : Int) : Option (((List G_TokenDelta) × Int × Int) ⊕ ((List G_TokenDelta) × Int)) :=
 if (decide (v7 < ((a1.map z6).length : Int))) = true then
  if (0 : Int) ≤ v7 ∧ v7 < ((a1.map z6).length : Int) then
  if (0 : Int) ≤ v6 ∧ v6 ≤ (a1.getD v7.toNat default).f_Start ∧ ((a1.getD v7.toNat default).f_Start) ≤ (a0.length : Int) then
  (u6 m ((a0.take ((a1.getD v7.toNat default).f_Start).toNat).drop v6.toNat) ([10] : List UInt8)).bind fun v11 =>
  if (decide (v11 > 0)) = true then
   (xn m ((a0.take ((a1.getD v7.toNat default).f_Start).toNat).drop v6.toNat) ([10] : List UInt8)).bind fun v12 =>
   xa m a0 a1 v5 v7 v11 (W ((W ((((a0.take ((a1.getD v7.toNat default).f_Start).toNat).drop v6.toNat).length : Int) - 1)) - v12))
  else
   xa m a0 a1 v5 v7 v11 (((a0.take ((a1.getD v7.toNat default).f_Start).toNat).drop v6.toNat).length : Int)
  else none
  else none
 else
  Option.map Sum.inr (
   ji m v5)
noncomputable def xu (m : Option Nat) (a0 : List UInt8) (a1 : List G_SemanticToken) (v5 : List G_TokenDelta) (v6 : Int) (v7 : Int) : Option ((List G_TokenDelta) × Int) := vr m (fun (s : ((List G_TokenDelta) × Int × Int)) => qi m a0 a1 s.1 s.2.1 s.2.2) (v5, v6, v7)
theorem zet {a0 : List UInt8} {a1 : List G_SemanticToken} {v5 : List G_TokenDelta} {m : Option Nat} {o : ((List G_TokenDelta) × Int)} (h : ji m v5 = some o) :
 LWp Tryz.prog Xn 0 zfn (znj a0 a1 o) [(6, .osl (0, 0) 4 (v5.map z7))] [((0, 0), .tok)] 1 := by
 unfold ji at h
 refine zp (ye ?_)
 refine Zk ?_
 cases h
 exact AI TT (AI TT (AI rfl (Vw.tupL (AI (Vw.oslI _ _ _) (AI (VS rfl) TT)))))
theorem zc8 {a0 : List UInt8} {a1 : List G_SemanticToken} {v5 : List G_TokenDelta} {v6 : Int} {v7 : Int} {m : Option Nat} {o : ((List G_TokenDelta) × Int × Int) ⊕ ((List G_TokenDelta) × Int)} (h : qi m a0 a1 v5 v6 v7 = some o) :
 LWp Tryz.prog Xn 0 zhh (wr 0 1 (Vd a0 a1) (z11 a0 a1) (z3o a0 a1) o) [(0, .str a0), (6, .osl (0, 0) 4 (v5.map z7)), (7, i6 v6), (21, .isl 3 (a1.map z6) false), (22, i6 ((a1.map z6).length : Int)), (23, i6 v7)] [((0, 0), .tok)] 1 := by
 unfold qi at h
 refine zp (ye ?_)
 refine zp ?_
 refine j0 (v := (decide (v7 < ((a1.map z6).length : Int)))) rfl TT (fun h18 => ?_) (fun h18 => ?_)
 ·have h := yy h18 h
  refine jc ?_
  refine zp ?_
  refine xx ?_
  refine zp (ye ?_)
  obtain ⟨h19, h⟩ := zo h
  refine AI h19 ?_
  refine EX (z6 (a1.getD v7.toNat default)) (AI (qd z6 _ _ (xh z6 h19)) (AI (AI (jk h19) (NB rfl)) ?_))
  refine zp (ye ?_)
  obtain ⟨h20, h⟩ := zo h
  refine AI h20 ?_
  refine LWp.sim (e := [(0, .str a0), (6, .osl (0, 0) 4 (v5.map z7)), (9, .ptr (1, 0) 0 0), (10, .str ((a0.take ((a1.getD v7.toNat default).f_Start).toNat).drop v6.toNat)), (21, .isl 3 (a1.map z6) false), (22, i6 ((a1.map z6).length : Int)), (23, i6 v7)]) (L := [((0, 0), .tok), ((1, 0), .one [i6 ((a1.getD v7.toNat default).f_Start), i6 ((a1.getD v7.toNat default).f_Length), i6 ((a1.getD v7.toNat default).f_Kind)])]) (n := 2) ?_ ?_
  ·exact xg (M := [((0, 0), (0, 0)), ((1, 0), (1, 0))]) rfl (AI (VS rfl) (AI (Vw.osl _ _ _ _ rfl) (SP rfl (S4 rfl rfl rfl rfl TT)))) (AI (AI rfl BVw.tok) (AI (AI rfl (OL rfl)) TT))
  refine zp ?_
  refine zg0 ?_
  obtain ⟨v11, h21, h⟩ := bind_some h
  refine PFn.call (znc h21) (S2 rfl rfl TT) ?_
  refine AI rfl ?_
  refine AI rfl ?_
  refine AI rfl ?_
  refine AI rfl ?_
  refine LWp.sim (e := [(0, .str a0), (6, .osl (0, 0) 4 (v5.map z7)), (9, .ptr (1, 0) 0 0), (10, .str ((a0.take ((a1.getD v7.toNat default).f_Start).toNat).drop v6.toNat)), (11, .ptr (2, 0) 0 0), (21, .isl 3 (a1.map z6) false), (22, i6 ((a1.map z6).length : Int)), (23, i6 v7)]) (L := [((0, 0), .tok), ((1, 0), .one [i6 ((a1.getD v7.toNat default).f_Start), i6 ((a1.getD v7.toNat default).f_Length), i6 ((a1.getD v7.toNat default).f_Kind)]), ((2, 0), .one [i6 v11, i6 (((a0.take ((a1.getD v7.toNat default).f_Start).toNat).drop v6.toNat).length : Int), i6 ((a1.getD v7.toNat default).f_Length), i6 ((a1.getD v7.toNat default).f_Kind)])]) (n := 3) ?_ ?_
  ·exact xg (M := [((0, 0), (0, 0)), ((1, 0), (1, 0)), ((2, 0), (2, 0))]) rfl (AI (VS rfl) (AI (Vw.osl _ _ _ _ rfl) (SP rfl (AI (VS rfl) (SP rfl (S2 rfl rfl (AI (VS rfl) TT))))))) (AI (AI rfl BVw.tok) (AI (AI rfl (OL rfl)) (AI (AI rfl (OL rfl)) TT)))
  refine zp ?_
  refine zp (ye ?_)
  refine j0 (v := (decide (v11 > 0))) rfl TT (fun h22 => ?_) (fun h22 => ?_)
  ·have h := yy h22 h
   refine ye ?_
   obtain ⟨v12, h23, h⟩ := bind_some h
   refine PFn.call (zki h23) (S2 rfl rfl TT) ?_
   refine LWp.sim ?_ (z5l h)
   exact xg (M := [((0, 0), (0, 0)), ((1, 0), (1, 0)), ((2, 0), (2, 0))]) rfl (AI (VS rfl) (AI (Vw.osl _ _ _ _ rfl) (SP rfl (SP rfl (S2 rfl rfl (AI (VS rfl) TT)))))) (AI (AI rfl BVw.tok) (AI (AI rfl (OL rfl)) (AI (AI rfl (OL rfl)) TT)))
  ·have h := q9 h22 h
   refine jc ?_
   refine LWp.sim ?_ (z5l h)
   exact xg (M := [((0, 0), (0, 0)), ((1, 0), (1, 0)), ((2, 0), (2, 0))]) rfl (AI (VS rfl) (AI (Vw.osl _ _ _ _ rfl) (SP rfl (SP rfl (S2 rfl rfl (AI (VS rfl) TT)))))) (AI (AI rfl BVw.tok) (AI (AI rfl (OL rfl)) (AI (AI rfl (OL rfl)) TT)))
 ·have h := q9 h18 h
  refine Zo ?_
  obtain ⟨o, hq, rfl⟩ := Option.map_eq_some_iff.1 h
  replace h := hq; clear hq
  refine AI nofun ?_
  refine LWp.sim ?_ (zet h)
  exact xg (M := [((0, 0), (0, 0))]) rfl (AI (Vw.osl _ _ _ _ rfl) TT) (AI (AI rfl BVw.tok) TT)
theorem zf6 {a0 : List UInt8} {a1 : List G_SemanticToken} {v5 : List G_TokenDelta} {v6 : Int} {v7 : Int} {m : Option Nat} {o : ((List G_TokenDelta) × Int)} (h : xu m a0 a1 v5 v6 v7 = some o) :
 LWp Tryz.prog Xn 0 (.loop zhh) (x6 1 (ui Tryz.prog Xn 0 zfn (znj a0 a1 o))) [(0, .str a0), (6, .osl (0, 0) 4 (v5.map z7)), (7, i6 v6), (21, .isl 3 (a1.map z6) false), (22, i6 ((a1.map z6).length : Int)), (23, i6 v7)] [((0, 0), .tok)] 1 :=
 j5 (m := m) (s := ((v5, v6, v7) : ((List G_TokenDelta) × Int × Int))) (r := o) (fun (s : ((List G_TokenDelta) × Int × Int)) => qi m a0 a1 s.1 s.2.1 s.2.2) (Vd a0 a1) (z11 a0 a1) (z3o a0 a1) (fun s o h => zc8 h) h
noncomputable def xe (m : Option Nat) (a0 : List UInt8) (a1 : List G_SemanticToken) : Option ((List G_TokenDelta) × Int) :=
 if (decide ((a0.length : Int) > 2000)) = true then
  some ([], 2)
 else
  (yw m a0 a1).bind fun v1 =>
  if (!v1) = true then
   some ([], 3)
  else
   xu m a0 a1 [] 0 0
theorem zff {a0 : List UInt8} {a1 : List G_SemanticToken} {m : Option Nat} {o : (List G_TokenDelta) × Int} (h : xe m a0 a1 = some o) : LWp Tryz.prog Xn 0 zle (znj a0 a1 o) (je 0 [.str a0, .isl 3 (a1.map z6) false]) [] 0 := by
 unfold xe at h
 refine zp (ye ?_)
 refine zp ?_
 refine xx ?_
 refine zp (ye ?_)
 refine j0 (v := (decide ((a0.length : Int) > 2000))) rfl TT (fun h1 => ?_) (fun h1 => ?_)
 ·have h := yy h1 h
  refine zp (ye ?_)
  refine LWp.sim (e := [(4, .val (.slice none 0 0)), (5, i6 2)]) (L := []) (n := 0) ?_ ?_
  ·exact xg (M := []) rfl (S2 rfl rfl TT) TT
  refine Zk ?_
  cases h
  exact AI TT (AI TT (AI rfl (Vw.tupL (AI (Vw.nilI _ _) (AI (VS rfl) TT)))))
 ·have h := q9 h1 h
  refine zp (ye ?_)
  obtain ⟨v1, h2, h⟩ := bind_some h
  refine PFn.call (zgu h2) (S2 rfl rfl TT) ?_
  refine LWp.sim (e := [(0, .str a0), (1, .isl 3 (a1.map z6) false), (16, .bool (!v1))]) (L := []) (n := 0) ?_ ?_
  ·exact xg (M := []) rfl (S2 rfl rfl (AI (VS rfl) TT)) TT
  refine j0 (v := (!v1)) rfl TT (fun h3 => ?_) (fun h3 => ?_)
  ·have h := yy h3 h
   refine zp (ye ?_)
   refine Zk ?_
   cases h
   exact AI TT (AI TT (AI rfl (Vw.tupL (AI (Vw.nilI _ _) (AI (VS rfl) TT)))))
  ·have h := q9 h3 h
   refine jc ?_
   refine zp (ye ?_)
   refine zp (ye ?_)
   refine zp ?_
   refine zp (ye ?_)
   refine xx ?_
   refine LWp.sim ?_ (zf6 h)
   exact xg (M := []) rfl (AI (VS rfl) (AI (Vw.nilO _ _ (by decide)) (S4 rfl rfl rfl rfl TT))) (AI (AI rfl (AI (by decide) (by decide))) TT)
theorem zo3 {a0 : List UInt8} {a1 : List G_SemanticToken} {m : Option Nat} {o : (List G_TokenDelta) × Int} (h : xe m a0 a1 = some o) : PFn Tryz.prog 6 [.str a0, .isl 3 (a1.map z6) false] (.tup [.isl 4 (o.1.map z7) false, i6 o.2]) := PFn.ofFnW (L := zpn) zn4 zl8 (NB rfl) rfl (zff h)
def zgm : LCode := (.region [Qo 20 (.bin .add (.t 8) (.c (i6 1))),
 Qm 8 20])
def zaz : LCode := (.seq (.region [Qo 9 (.bin .lss (.t 8) (.t 7))])
 (.seq (.cond (.t 9)
  .skip
  (.exit 0))
 (.seq (.block 1
  (.seq (.region [Qm 10 8,
   Qm 4 10])
  (.seq (.region [Qm 11 0,
   Qm 12 4,
   Qo 13 (.idxS (.t 11) (.t 12)),
   Qo 14 (.bin .eql (.t 13) (.c (.int .u8 10)))])
  (.cond (.t 14)
   (.region [Qm 15 3,
    Qm 16 4,
    Qo 17 (.bin .add (.t 16) (.c (i6 1))),
    Qo 18 (.mkSl true 1 [(i6 0)] 1 [(0, (.t 17))]),
    Qo 19 (.app true 1 8 (.t 15) (.t 18)),
    Qm 3 19])
   .skip))))
 zgm)))
def z5w : LCode := (.seq (.region [Qm 21 3,
 Qm 2 21])
 .ret)
def zgo : LCode := (.seq (.region [Qo 2 (.mv (.c (.val (.slice none 0 0))))])
 (.seq (.region [Qo 5 (.mkSl true 1 [(i6 0)] 1 [(0, (.c (i6 0)))]),
  Qm 3 5])
 (.seq (.seq (.region [Qm 6 0,
  Qo 7 (.len true (.t 6)),
  Qi 8 0])
 (.block 0
  (.loop
   zaz)))
 z5w)))
def Y7 : Lay := ⟨22, [], false⟩
def zai : List LRes := [.t 2]
def zkv : LFn := ⟨1, Y7, zgo, zai⟩
theorem zjw : vu Tryz.prog [] 18 = some zkv := by kernel_rfl
theorem zi6 : Qh Tryz.prog 18 := ⟨_, Tryz.func18, rfl, rfl⟩
def zeo (a0 : List UInt8) (o : (List Int)) : Exit → Env → AHeap → Nat → Prop := z19 zai (w8 (.isl 1 (o.map jw) false))
def J7 (a0 : List UInt8) (s : ((List Int) × Int)) : Env := [(0, .str a0), (3, .osl (0, 0) 1 (s.1.map jw)), (7, i6 (a0.length : Int)), (8, i6 s.2)]
def Ww (a0 : List UInt8) (s : ((List Int) × Int)) : AHeap := [((0, 0), .tok)]
def z00 (a0 : List UInt8) (o : (List Int)) : Exit → Env → AHeap → Nat → Prop := (x6 0 (ui Tryz.prog Y7 0 z5w (zeo a0 o)))
noncomputable def x3 (m : Option Nat) (a0 : List UInt8) (v3 : Int) (v5 : List Int) : Option (((List Int) × Int) ⊕ (List Int)) :=
 some (.inl (v5, (W (v3 + 1))))
theorem z1u {a0 : List UInt8} {v3 : Int} {v5 : List Int} {m : Option Nat} {o : (((List Int) × Int) ⊕ (List Int))} (h : x3 m a0 v3 v5 = some o) :
 LWp Tryz.prog Y7 0 zgm (wr 0 1 (J7 a0) (Ww a0) (z00 a0) o) [(0, .str a0), (3, .osl (0, 0) 1 (v5.map jw)), (7, i6 (a0.length : Int)), (8, i6 v3)] [((0, 0), .tok)] 1 := by
 unfold x3 at h
 refine ye ?_
 cases h
 exact AI rfl (xg (M := [((0, 0), (0, 0))]) rfl (AI (VS rfl) (AI (Vw.osl _ _ _ _ rfl) (S2 rfl rfl TT))) (AI (AI rfl BVw.tok) TT))
noncomputable def xr (m : Option Nat) (v2 : List Int) : Option (List Int) :=
 some v2
noncomputable def yi (m : Option Nat) (a0 : List UInt8) (v2 : List Int) (v3 : Int) : Option (((List Int) × Int) ⊕ (List Int)) :=
 if (decide (v3 < (a0.length : Int))) = true then
  if (0 : Int) ≤ v3 ∧ v3 < (a0.length : Int) then
  if ((((a0.getD v3.toNat 0).toNat : Nat) : Int) == 10) = true then
   if ((v2 ++ ([(W (v3 + 1))] : List Int)).map jw).length * 8 ≤ 140737488355328 then
   x3 m a0 v3 (v2 ++ ([(W (v3 + 1))] : List Int))
   else none
  else
   x3 m a0 v3 v2
  else none
 else
  Option.map Sum.inr (
   xr m v2)
noncomputable def x4 (m : Option Nat) (a0 : List UInt8) (v2 : List Int) (v3 : Int) : Option (List Int) := vr m (fun (s : ((List Int) × Int)) => yi m a0 s.1 s.2) (v2, v3)
theorem zbx {a0 : List UInt8} {v2 : List Int} {m : Option Nat} {o : (List Int)} (h : xr m v2 = some o) :
 LWp Tryz.prog Y7 0 z5w (zeo a0 o) [(3, .osl (0, 0) 1 (v2.map jw))] [((0, 0), .tok)] 1 := by
 unfold xr at h
 refine zp (ye ?_)
 refine Zk ?_
 cases h
 exact AI TT (AI rfl (Vw.oslI _ _ _))
theorem z7o {a0 : List UInt8} {v2 : List Int} {v3 : Int} {m : Option Nat} {o : ((List Int) × Int) ⊕ (List Int)} (h : yi m a0 v2 v3 = some o) :
 LWp Tryz.prog Y7 0 zaz (wr 0 1 (J7 a0) (Ww a0) (z00 a0) o) [(0, .str a0), (3, .osl (0, 0) 1 (v2.map jw)), (7, i6 (a0.length : Int)), (8, i6 v3)] [((0, 0), .tok)] 1 := by
 unfold yi at h
 refine zp (ye ?_)
 refine zp ?_
 refine j0 (v := (decide (v3 < (a0.length : Int)))) rfl TT (fun h9 => ?_) (fun h9 => ?_)
 ·have h := yy h9 h
  refine jc ?_
  refine zp ?_
  refine xx ?_
  refine zp (ye ?_)
  refine zp (ye ?_)
  obtain ⟨h10, h⟩ := zo h
  refine AI h10 ?_
  refine j0 (v := ((((a0.getD v3.toNat 0).toNat : Nat) : Int) == 10)) rfl TT (fun h11 => ?_) (fun h11 => ?_)
  ·have h := yy h11 h
   refine ye ?_
   obtain ⟨h12, h⟩ := zo h
   refine EX ((v2 ++ ([(W (v3 + 1))] : List Int)).map jw) (AI (Qv jw v2 ([(W (v3 + 1))] : List Int)) (AI h12 ?_))
   refine LWp.sim ?_ (z1u h)
   exact xg (M := [((0, 0), (1, 0))]) rfl (AI (VS rfl) (AI (Vw.osl _ _ _ _ rfl) (S2 rfl rfl TT))) (AI (AI rfl BVw.tok) TT)
  ·have h := q9 h11 h
   refine jc ?_
   refine LWp.sim ?_ (z1u h)
   exact xg (M := [((0, 0), (0, 0))]) rfl (AI (VS rfl) (AI (Vw.osl _ _ _ _ rfl) (S2 rfl rfl TT))) (AI (AI rfl BVw.tok) TT)
 ·have h := q9 h9 h
  refine Zo ?_
  obtain ⟨o, hq, rfl⟩ := Option.map_eq_some_iff.1 h
  replace h := hq; clear hq
  refine AI nofun ?_
  refine LWp.sim ?_ (zbx h)
  exact xg (M := [((0, 0), (0, 0))]) rfl (AI (Vw.osl _ _ _ _ rfl) TT) (AI (AI rfl BVw.tok) TT)
theorem zd1 {a0 : List UInt8} {v2 : List Int} {v3 : Int} {m : Option Nat} {o : (List Int)} (h : x4 m a0 v2 v3 = some o) :
 LWp Tryz.prog Y7 0 (.loop zaz) (x6 0 (ui Tryz.prog Y7 0 z5w (zeo a0 o))) [(0, .str a0), (3, .osl (0, 0) 1 (v2.map jw)), (7, i6 (a0.length : Int)), (8, i6 v3)] [((0, 0), .tok)] 1 :=
 j5 (m := m) (s := ((v2, v3) : ((List Int) × Int))) (r := o) (fun (s : ((List Int) × Int)) => yi m a0 s.1 s.2) (J7 a0) (Ww a0) (z00 a0) (fun s o h => z7o h) h
noncomputable def xj (m : Option Nat) (a0 : List UInt8) : Option (List Int) :=
 x4 m a0 ([0] : List Int) 0
theorem z9f {a0 : List UInt8} {m : Option Nat} {o : (List Int)} (h : xj m a0 = some o) : LWp Tryz.prog Y7 0 zgo (zeo a0 o) (je 0 [.str a0]) [] 0 := by
 unfold xj at h
 refine zp (ye ?_)
 refine zp (ye ?_)
 refine zp ?_
 refine zp (ye ?_)
 refine xx ?_
 refine LWp.sim ?_ (zd1 h)
 exact xg (M := []) rfl (AI (VS rfl) (AI (Vw.islO _ _ _ (by decide)) (S2 rfl rfl TT))) (AI (AI rfl (AI (by decide) (by decide))) TT)
theorem zmr {a0 : List UInt8} {m : Option Nat} {o : (List Int)} (h : xj m a0 = some o) : PFn Tryz.prog 18 [.str a0] (.isl 1 (o.map jw) false) := PFn.ofFnW (L := zkv) zjw zi6 (NB rfl) rfl (z9f h)
def zn0 : LCode := (.seq (.region [Qm 58 9,
 Qf 59 1 11,
 Ql 60 1 59,
 Qo 61 (.bin .add (.t 58) (.t 60)),
 Qm 9 61])
 (.seq (.seq (.region [Qm 62 8,
  Qo 63 (.bin .add (.t 62) (.c (i6 1))),
  Qm 64 6,
  Qo 65 (.len false (.t 64)),
  Qo 66 (.bin .lss (.t 63) (.t 65)),
  Qm 67 66,
  Qn 68 9 (67, true),
  Qn 69 6 (67, true),
  Qn 70 8 (67, true),
  Qg 71 (.bin .add (.t 70) (.c (i6 1))) (67, true),
  Qg 72 (.iaddr 1 (.t 69) (.t 71)) (67, true),
  Qk 73 1 72 (67, true),
  Qg 74 (.bin .geq (.t 68) (.t 73)) (67, true),
  Qp 75 67 74])
 (.cond (.t 75)
  (.seq (.region [Qo 4 (.mv (.c (.val (.slice none 0 0)))),
   Qi 5 3])
  .ret)
  .skip))
 (.region [Qm 76 7,
  Qm 77 9,
  Qf 78 2 11,
  Ql 79 1 78,
  Qf 80 3 11,
  Ql 81 1 80,
  Qo 82 (.build [(i6 0), (i6 0), (i6 0)] [(0, 1, (.t 77)), (1, 1, (.t 79)), (2, 1, (.t 81))]),
  Qo 83 (.mkSl true 3 [(i6 0), (i6 0), (i6 0)] 1 [(0, (.t 82))]),
  Qo 84 (.app true 3 24 (.t 76) (.t 83)),
  Qm 7 84])))
def zlt : LCode := (.region [Qo 85 (.bin .add (.t 19) (.c (i6 1))),
 Qm 19 85])
def zhi : LCode := (.seq (.region [Qo 20 (.bin .lss (.t 19) (.t 18))])
 (.seq (.cond (.t 20)
  .skip
  (.exit 0))
 (.seq (.block 1
  (.seq (.region [Qo 21 (.iaddr 4 (.t 17) (.t 19)),
   Qt 22 4 21,
   Qo 11 (.alloc [(i6 0), (i6 0), (i6 0), (i6 0)]),
   ⟨none, .store 4 (.t 11) (.t 22), none⟩])
  (.seq (.seq (.region [Qf 23 0 11,
   Ql 24 1 23,
   Qo 25 (.bin .lss (.t 24) (.c (i6 0))),
   Qm 26 25,
   Qe 27 0 11 (26, false),
   Qk 28 1 27 (26, false),
   Qn 29 6 (26, false),
   Qg 30 (.len false (.t 29)) (26, false),
   Qn 31 8 (26, false),
   Qg 32 (.bin .sub (.t 30) (.t 31)) (26, false),
   Qg 33 (.bin .geq (.t 28) (.t 32)) (26, false),
   Qo 34 (.pick (.t 26) (.c (.bool true)) (.t 33)),
   Qm 35 34,
   Qe 36 1 11 (35, false),
   Qk 37 1 36 (35, false),
   Qg 38 (.bin .lss (.t 37) (.c (i6 0))) (35, false),
   Qo 39 (.pick (.t 35) (.c (.bool true)) (.t 38)),
   Qm 40 39,
   Qe 41 1 11 (40, false),
   Qk 42 1 41 (40, false),
   Qn 43 0 (40, false),
   Qg 44 (.len true (.t 43)) (40, false),
   Qg 45 (.bin .gtr (.t 42) (.t 44)) (40, false),
   Qo 46 (.pick (.t 40) (.c (.bool true)) (.t 45))])
  (.cond (.t 46)
   (.seq (.region [Qo 4 (.mv (.c (.val (.slice none 0 0)))),
    Qi 5 3])
   .ret)
   .skip))
  (.seq (.seq (.region [Qf 47 0 11,
   Ql 48 1 47,
   Qo 49 (.bin .gtr (.t 48) (.c (i6 0)))])
  (.cond (.t 49)
   (.seq (.region [Qm 50 8,
    Qf 51 0 11,
    Ql 52 1 51,
    Qo 53 (.bin .add (.t 50) (.t 52)),
    Qm 8 53])
   (.region [Qm 54 6,
    Qm 55 8,
    Qo 56 (.iaddr 1 (.t 54) (.t 55)),
    Ql 57 1 56,
    Qm 9 57]))
   .skip))
  zn0))))
 zlt)))
def zen : LCode := (.seq (.seq (.region [Qm 86 0,
 Qm 87 7,
 Qo 88 (.call 15 [(.t 86), (.t 87)]),
 Qo 89 (.un .not (.t 88))])
 (.cond (.t 89)
  (.seq (.region [Qo 4 (.mv (.c (.val (.slice none 0 0)))),
   Qi 5 3])
  .ret)
  .skip))
 (.seq (.region [Qm 90 7,
  Qm 4 90,
  Qi 5 0])
 .ret))
def zmu : LCode := (.seq (.region [Qo 4 (.mv (.c (.val (.slice none 0 0)))),
 Qi 5 0])
 (.seq (.seq (.region [Qm 12 0,
  Qo 13 (.len true (.t 12)),
  Qo 14 (.bin .gtr (.t 13) (.c (i6 2000)))])
 (.cond (.t 14)
  (.seq (.region [Qo 4 (.mv (.c (.val (.slice none 0 0)))),
   Qi 5 2])
  .ret)
  .skip))
 (.seq (.region [Qm 15 0,
  Qc 16 18 15,
  Qm 6 16])
 (.seq (.region [Qo 7 (.mv (.c (.val (.slice none 0 0))))])
 (.seq (.region [Qi 8 0,
  Qi 9 0])
 (.seq (.seq (.region [Qm 17 1,
  Qo 18 (.len false (.t 17)),
  Qi 19 0])
 (.block 0
  (.loop
   zhi)))
 zen))))))
def Xi : Lay := ⟨91, [], false⟩
def zh8 : List LRes := [.t 4, .t 5]
def zpo : LFn := ⟨2, Xi, zmu, zh8⟩
theorem zlh : vu Tryz.prog [] 7 = some zpo := by kernel_rfl
theorem zm4 : Qh Tryz.prog 7 := ⟨_, Tryz.func7, rfl, rfl⟩
def zni (a0 : List UInt8) (a1 : List G_TokenDelta) (o : (List G_SemanticToken) × Int) : Exit → Env → AHeap → Nat → Prop := z19 zh8 (w8 (.tup [.isl 3 (o.1.map z6) false, i6 o.2]))
def Vp (a0 : List UInt8) (a1 : List G_TokenDelta) (v1 : (List Int)) (s : ((List G_SemanticToken) × Int × Int × Int)) : Env := [(0, .str a0), (6, .isl 1 (v1.map jw) false), (7, .osl (0, 0) 3 (s.1.map z6)), (8, i6 s.2.1), (9, i6 s.2.2.1), (17, .isl 4 (a1.map z7) false), (18, i6 ((a1.map z7).length : Int)), (19, i6 s.2.2.2)]
def z18 (a0 : List UInt8) (a1 : List G_TokenDelta) (v1 : (List Int)) (s : ((List G_SemanticToken) × Int × Int × Int)) : AHeap := [((0, 0), .tok)]
def z4h (a0 : List UInt8) (a1 : List G_TokenDelta) (o : ((List G_SemanticToken) × Int)) : Exit → Env → AHeap → Nat → Prop := (x6 0 (ui Tryz.prog Xi 0 zen (zni a0 a1 o)))
noncomputable def x9 (m : Option Nat) (a0 : List UInt8) (a1 : List G_TokenDelta) (v1 : (List Int)) (v4 : List G_SemanticToken) (v7 : Int) (v10 : Int) (v11 : Int) : Option (((List G_SemanticToken) × Int × Int × Int) ⊕ ((List G_SemanticToken) × Int)) :=
 if (((decide ((W (v10 + 1)) < ((v1.map jw).length : Int))) == true) = true → (0 : Int) ≤ (W (v10 + 1)) ∧ (W (v10 + 1)) < ((v1.map jw).length : Int)) then
 if ((decide ((W (v10 + 1)) < ((v1.map jw).length : Int))) && (decide ((W (v11 + (a1.getD v7.toNat default).f_DeltaStart)) ≥ (v1.getD ((W (v10 + 1)).toNat) default)))) = true then
  Option.map Sum.inr (
   some ([], 3))
 else
  if ((v4 ++ ([(G_SemanticToken.mk (W (v11 + (a1.getD v7.toNat default).f_DeltaStart)) ((a1.getD v7.toNat default).f_Length) ((a1.getD v7.toNat default).f_Kind))] : List G_SemanticToken)).map z6).length * 24 ≤ 140737488355328 then
  some (.inl ((v4 ++ ([(G_SemanticToken.mk (W (v11 + (a1.getD v7.toNat default).f_DeltaStart)) ((a1.getD v7.toNat default).f_Length) ((a1.getD v7.toNat default).f_Kind))] : List G_SemanticToken)), v10, (W (v11 + (a1.getD v7.toNat default).f_DeltaStart)), (W (v7 + 1))))
  else none
 else none
theorem z5c {a0 : List UInt8} {a1 : List G_TokenDelta} {v1 : (List Int)} {v4 : List G_SemanticToken} {v7 : Int} {v10 : Int} {v11 : Int} {m : Option Nat} {o : (((List G_SemanticToken) × Int × Int × Int) ⊕ ((List G_SemanticToken) × Int))} (h : x9 m a0 a1 v1 v4 v7 v10 v11 = some o) :
 LWp Tryz.prog Xi 0 zn0 (x6 1 (ui Tryz.prog Xi 0 zlt (wr 0 1 (Vp a0 a1 v1) (z18 a0 a1 v1) (z4h a0 a1) o))) [(0, .str a0), (6, .isl 1 (v1.map jw) false), (7, .osl (0, 0) 3 (v4.map z6)), (8, i6 v10), (9, i6 v11), (11, .ptr (1, 0) 0 0), (17, .isl 4 (a1.map z7) false), (18, i6 ((a1.map z7).length : Int)), (19, i6 v7)] [((0, 0), .tok), ((1, 0), .one [i6 ((a1.getD v7.toNat default).f_DeltaLine), i6 ((a1.getD v7.toNat default).f_DeltaStart), i6 ((a1.getD v7.toNat default).f_Length), i6 ((a1.getD v7.toNat default).f_Kind)])] 2 := by
 unfold x9 at h
 refine zp (ye ?_)
 refine zp ?_
 refine zp (ye ?_)
 refine AI (fun hp => hp) ?_
 obtain ⟨h24, h⟩ := zo h
 refine AI (fun hp => (AI (AI hp hp) (h24 hp))) ?_
 refine EX (jw (v1.getD ((W (v10 + 1)).toNat) default)) (AI (fun hp => AI (qd jw _ _ (xh jw (h24 hp))) (AI hp (AI (jk (h24 hp)) (NB rfl)))) ?_)
 refine AI (fun hp => (AI hp hp)) ?_
 refine AI (fun hc => (bqt hc)) ?_
 refine LWp.sim (e := [(0, .str a0), (6, .isl 1 (v1.map jw) false), (7, .osl (0, 0) 3 (v4.map z6)), (8, i6 v10), (9, i6 (W (v11 + (a1.getD v7.toNat default).f_DeltaStart))), (11, .ptr (1, 0) 0 0), (17, .isl 4 (a1.map z7) false), (18, i6 ((a1.map z7).length : Int)), (19, i6 v7), (75, .bool ((decide ((W (v10 + 1)) < ((v1.map jw).length : Int))) && (decide ((W (v11 + (a1.getD v7.toNat default).f_DeltaStart)) ≥ (v1.getD ((W (v10 + 1)).toNat) default)))))]) (L := [((0, 0), .tok), ((1, 0), .one [i6 ((a1.getD v7.toNat default).f_DeltaLine), i6 ((a1.getD v7.toNat default).f_DeltaStart), i6 ((a1.getD v7.toNat default).f_Length), i6 ((a1.getD v7.toNat default).f_Kind)])]) (n := 2) ?_ ?_
 ·exact xg (M := [((0, 0), (0, 0)), ((1, 0), (1, 0))]) rfl (S2 rfl rfl (AI (Vw.osl _ _ _ _ rfl) (S2 rfl rfl (SP rfl (S4 rfl rfl rfl rfl TT))))) (AI (AI rfl BVw.tok) (AI (AI rfl (OL rfl)) TT))
 refine j0 (v := ((decide ((W (v10 + 1)) < ((v1.map jw).length : Int))) && (decide ((W (v11 + (a1.getD v7.toNat default).f_DeltaStart)) ≥ (v1.getD ((W (v10 + 1)).toNat) default))))) rfl TT (fun h25 => ?_) (fun h25 => ?_)
 ·have h := yy h25 h
  refine zp (ye ?_)
  refine Zk ?_
  obtain ⟨o, hq, rfl⟩ := Option.map_eq_some_iff.1 h
  replace h := hq; clear hq
  refine AI nofun ?_
  cases h
  exact AI TT (AI TT (AI rfl (Vw.tupL (AI (Vw.nilI _ _) (AI (VS rfl) TT)))))
 ·have h := q9 h25 h
  refine jc ?_
  refine ye ?_
  obtain ⟨h26, h⟩ := zo h
  refine EX ((v4 ++ ([(G_SemanticToken.mk (W (v11 + (a1.getD v7.toNat default).f_DeltaStart)) ((a1.getD v7.toNat default).f_Length) ((a1.getD v7.toNat default).f_Kind))] : List G_SemanticToken)).map z6) (AI (Qv z6 v4 ([(G_SemanticToken.mk (W (v11 + (a1.getD v7.toNat default).f_DeltaStart)) ((a1.getD v7.toNat default).f_Length) ((a1.getD v7.toNat default).f_Kind))] : List G_SemanticToken)) (AI h26 ?_))
  refine LWp.sim (e := [(0, .str a0), (6, .isl 1 (v1.map jw) false), (7, .osl (0, 0) 3 ((v4 ++ ([(G_SemanticToken.mk (W (v11 + (a1.getD v7.toNat default).f_DeltaStart)) ((a1.getD v7.toNat default).f_Length) ((a1.getD v7.toNat default).f_Kind))] : List G_SemanticToken)).map z6)), (8, i6 v10), (9, i6 (W (v11 + (a1.getD v7.toNat default).f_DeltaStart))), (17, .isl 4 (a1.map z7) false), (18, i6 ((a1.map z7).length : Int)), (19, i6 v7)]) (L := [((0, 0), .tok)]) (n := 1) ?_ ?_
  ·exact xg (M := [((0, 0), (2, 0))]) rfl (S2 rfl rfl (AI (Vw.osl _ _ _ _ rfl) (S4 rfl rfl rfl rfl (AI (VS rfl) TT)))) (AI (AI rfl BVw.tok) TT)
  refine ye ?_
  cases h
  exact AI rfl (xg (M := [((0, 0), (0, 0))]) rfl (S2 rfl rfl (AI (Vw.osl _ _ _ _ rfl) (S4 rfl rfl rfl rfl (AI (VS rfl) TT)))) (AI (AI rfl BVw.tok) TT))
noncomputable def jh (m : Option Nat) (a0 : List UInt8) (v4 : List G_SemanticToken) : Option ((List G_SemanticToken) × Int) :=
 (yw m a0 v4).bind fun v12 =>
 if (!v12) = true then
  some ([], 3)
 else
  some (v4, 0)
noncomputable def y1 (m : Option Nat) (a0 : List UInt8) (a1 : List G_TokenDelta) (v1 : (List Int)) (v4 : List G_SemanticToken) (v5 : Int) (v6 : Int) (v7 : Int) : Option (((List G_SemanticToken) × Int × Int × Int) ⊕ ((List G_SemanticToken) × Int)) :=
 if (decide (v7 < ((a1.map z7).length : Int))) = true then
  if (0 : Int) ≤ v7 ∧ v7 < ((a1.map z7).length : Int) then
  if ((((decide ((a1.getD v7.toNat default).f_DeltaLine < 0)) || (decide ((a1.getD v7.toNat default).f_DeltaLine ≥ (W (((v1.map jw).length : Int) - v5))))) || (decide ((a1.getD v7.toNat default).f_DeltaStart < 0))) || (decide ((a1.getD v7.toNat default).f_DeltaStart > (a0.length : Int)))) = true then
   Option.map Sum.inr (
    some ([], 3))
  else
   if (decide ((a1.getD v7.toNat default).f_DeltaLine > 0)) = true then
    if (0 : Int) ≤ (W (v5 + (a1.getD v7.toNat default).f_DeltaLine)) ∧ (W (v5 + (a1.getD v7.toNat default).f_DeltaLine)) < ((v1.map jw).length : Int) then
    x9 m a0 a1 v1 v4 v7 (W (v5 + (a1.getD v7.toNat default).f_DeltaLine)) (v1.getD ((W (v5 + (a1.getD v7.toNat default).f_DeltaLine)).toNat) default)
    else none
   else
    x9 m a0 a1 v1 v4 v7 v5 v6
  else none
 else
  Option.map Sum.inr (
   jh m a0 v4)
noncomputable def xw (m : Option Nat) (a0 : List UInt8) (a1 : List G_TokenDelta) (v1 : (List Int)) (v4 : List G_SemanticToken) (v5 : Int) (v6 : Int) (v7 : Int) : Option ((List G_SemanticToken) × Int) := vr m (fun (s : ((List G_SemanticToken) × Int × Int × Int)) => y1 m a0 a1 v1 s.1 s.2.1 s.2.2.1 s.2.2.2) (v4, v5, v6, v7)
theorem ze6 {a1 : List G_TokenDelta} {a0 : List UInt8} {v4 : List G_SemanticToken} {m : Option Nat} {o : ((List G_SemanticToken) × Int)} (h : jh m a0 v4 = some o) :
 LWp Tryz.prog Xi 0 zen (zni a0 a1 o) [(0, .str a0), (7, .osl (0, 0) 3 (v4.map z6))] [((0, 0), .tok)] 1 := by
 unfold jh at h
 refine zp ?_
 refine zp (ye ?_)
 obtain ⟨v12, h27, h⟩ := bind_some h
 refine PFn.call (zgu h27) (AI (VS rfl) (AI (Vw.oslI _ _ _) TT)) ?_
 refine j0 (v := (!v12)) rfl TT (fun h28 => ?_) (fun h28 => ?_)
 ·have h := yy h28 h
  refine zp (ye ?_)
  refine Zk ?_
  cases h
  exact AI TT (AI TT (AI rfl (Vw.tupL (AI (Vw.nilI _ _) (AI (VS rfl) TT)))))
 ·have h := q9 h28 h
  refine jc ?_
  refine zp (ye ?_)
  refine Zk ?_
  cases h
  exact AI TT (AI TT (AI rfl (Vw.tupL (AI (Vw.oslI _ _ _) (AI (VS rfl) TT)))))
theorem z9m {a0 : List UInt8} {a1 : List G_TokenDelta} {v1 : (List Int)} {v4 : List G_SemanticToken} {v5 : Int} {v6 : Int} {v7 : Int} {m : Option Nat} {o : ((List G_SemanticToken) × Int × Int × Int) ⊕ ((List G_SemanticToken) × Int)} (h : y1 m a0 a1 v1 v4 v5 v6 v7 = some o) :
 LWp Tryz.prog Xi 0 zhi (wr 0 1 (Vp a0 a1 v1) (z18 a0 a1 v1) (z4h a0 a1) o) [(0, .str a0), (6, .isl 1 (v1.map jw) false), (7, .osl (0, 0) 3 (v4.map z6)), (8, i6 v5), (9, i6 v6), (17, .isl 4 (a1.map z7) false), (18, i6 ((a1.map z7).length : Int)), (19, i6 v7)] [((0, 0), .tok)] 1 := by
 unfold y1 at h
 refine zp (ye ?_)
 refine zp ?_
 refine j0 (v := (decide (v7 < ((a1.map z7).length : Int)))) rfl TT (fun h19 => ?_) (fun h19 => ?_)
 ·have h := yy h19 h
  refine jc ?_
  refine zp ?_
  refine xx ?_
  refine zp (ye ?_)
  obtain ⟨h20, h⟩ := zo h
  refine AI h20 ?_
  refine EX (z7 (a1.getD v7.toNat default)) (AI (qd z7 _ _ (xh z7 h20)) (AI (AI (jk h20) (NB rfl)) ?_))
  refine zp ?_
  refine zp (ye ?_)
  refine AI (fun hp => hp) ?_
  refine AI (fun hp => hp) ?_
  refine AI (fun hp => (AI hp hp)) ?_
  refine AI (fun hp => (AI hp hp)) ?_
  refine AI (fun hc => (bqf hc)) ?_
  refine AI (fun hp => hp) ?_
  refine AI (fun hp => hp) ?_
  refine AI (fun hc => (bqf hc)) ?_
  refine AI (fun hp => hp) ?_
  refine AI (fun hp => hp) ?_
  refine AI (fun hp => (AI hp hp)) ?_
  refine AI (fun hc => (bqf hc)) ?_
  refine LWp.sim (e := [(0, .str a0), (6, .isl 1 (v1.map jw) false), (7, .osl (0, 0) 3 (v4.map z6)), (8, i6 v5), (9, i6 v6), (11, .ptr (1, 0) 0 0), (17, .isl 4 (a1.map z7) false), (18, i6 ((a1.map z7).length : Int)), (19, i6 v7), (46, .bool ((((decide ((a1.getD v7.toNat default).f_DeltaLine < 0)) || (decide ((a1.getD v7.toNat default).f_DeltaLine ≥ (W (((v1.map jw).length : Int) - v5))))) || (decide ((a1.getD v7.toNat default).f_DeltaStart < 0))) || (decide ((a1.getD v7.toNat default).f_DeltaStart > (a0.length : Int)))))]) (L := [((0, 0), .tok), ((1, 0), .one [i6 ((a1.getD v7.toNat default).f_DeltaLine), i6 ((a1.getD v7.toNat default).f_DeltaStart), i6 ((a1.getD v7.toNat default).f_Length), i6 ((a1.getD v7.toNat default).f_Kind)])]) (n := 2) ?_ ?_
  ·exact xg (M := [((0, 0), (0, 0)), ((1, 0), (1, 0))]) rfl (S2 rfl rfl (AI (Vw.osl _ _ _ _ rfl) (S2 rfl rfl (SP rfl (S4 rfl rfl rfl rfl TT))))) (AI (AI rfl BVw.tok) (AI (AI rfl (OL rfl)) TT))
  refine j0 (v := ((((decide ((a1.getD v7.toNat default).f_DeltaLine < 0)) || (decide ((a1.getD v7.toNat default).f_DeltaLine ≥ (W (((v1.map jw).length : Int) - v5))))) || (decide ((a1.getD v7.toNat default).f_DeltaStart < 0))) || (decide ((a1.getD v7.toNat default).f_DeltaStart > (a0.length : Int))))) rfl TT (fun h21 => ?_) (fun h21 => ?_)
  ·have h := yy h21 h
   refine zp (ye ?_)
   refine Zk ?_
   obtain ⟨o, hq, rfl⟩ := Option.map_eq_some_iff.1 h
   replace h := hq; clear hq
   refine AI nofun ?_
   cases h
   exact AI TT (AI TT (AI rfl (Vw.tupL (AI (Vw.nilI _ _) (AI (VS rfl) TT)))))
  ·have h := q9 h21 h
   refine jc ?_
   refine zp ?_
   refine zp (ye ?_)
   refine j0 (v := (decide ((a1.getD v7.toNat default).f_DeltaLine > 0))) rfl TT (fun h22 => ?_) (fun h22 => ?_)
   ·have h := yy h22 h
    refine zp (ye ?_)
    refine LWp.sim (e := [(0, .str a0), (6, .isl 1 (v1.map jw) false), (7, .osl (0, 0) 3 (v4.map z6)), (8, i6 (W (v5 + (a1.getD v7.toNat default).f_DeltaLine))), (11, .ptr (1, 0) 0 0), (17, .isl 4 (a1.map z7) false), (18, i6 ((a1.map z7).length : Int)), (19, i6 v7)]) (L := [((0, 0), .tok), ((1, 0), .one [i6 ((a1.getD v7.toNat default).f_DeltaLine), i6 ((a1.getD v7.toNat default).f_DeltaStart), i6 ((a1.getD v7.toNat default).f_Length), i6 ((a1.getD v7.toNat default).f_Kind)])]) (n := 2) ?_ ?_
    ·exact xg (M := [((0, 0), (0, 0)), ((1, 0), (1, 0))]) rfl (S2 rfl rfl (AI (Vw.osl _ _ _ _ rfl) (AI (VS rfl) (SP rfl (S2 rfl rfl (AI (VS rfl) TT)))))) (AI (AI rfl BVw.tok) (AI (AI rfl (OL rfl)) TT))
    refine ye ?_
    obtain ⟨h23, h⟩ := zo h
    refine AI h23 ?_
    refine EX (jw (v1.getD ((W (v5 + (a1.getD v7.toNat default).f_DeltaLine)).toNat) default)) (AI (qd jw _ _ (xh jw h23)) (AI (AI (jk h23) (NB rfl)) ?_))
    refine LWp.sim ?_ (z5c h)
    exact xg (M := [((0, 0), (0, 0)), ((1, 0), (1, 0))]) rfl (S2 rfl rfl (AI (Vw.osl _ _ _ _ rfl) (S2 rfl rfl (SP rfl (S2 rfl rfl (AI (VS rfl) TT)))))) (AI (AI rfl BVw.tok) (AI (AI rfl (OL rfl)) TT))
   ·have h := q9 h22 h
    refine jc ?_
    refine LWp.sim ?_ (z5c h)
    exact xg (M := [((0, 0), (0, 0)), ((1, 0), (1, 0))]) rfl (S2 rfl rfl (AI (Vw.osl _ _ _ _ rfl) (S2 rfl rfl (SP rfl (S2 rfl rfl (AI (VS rfl) TT)))))) (AI (AI rfl BVw.tok) (AI (AI rfl (OL rfl)) TT))
 ·have h := q9 h19 h
  refine Zo ?_
  obtain ⟨o, hq, rfl⟩ := Option.map_eq_some_iff.1 h
  replace h := hq; clear hq
  refine AI nofun ?_
  refine LWp.sim ?_ (ze6 h)
  exact xg (M := [((0, 0), (0, 0))]) rfl (AI (VS rfl) (AI (Vw.osl _ _ _ _ rfl) TT)) (AI (AI rfl BVw.tok) TT)
theorem ze9 {a0 : List UInt8} {a1 : List G_TokenDelta} {v1 : (List Int)} {v4 : List G_SemanticToken} {v5 : Int} {v6 : Int} {v7 : Int} {m : Option Nat} {o : ((List G_SemanticToken) × Int)} (h : xw m a0 a1 v1 v4 v5 v6 v7 = some o) :
 LWp Tryz.prog Xi 0 (.loop zhi) (x6 0 (ui Tryz.prog Xi 0 zen (zni a0 a1 o))) [(0, .str a0), (6, .isl 1 (v1.map jw) false), (7, .osl (0, 0) 3 (v4.map z6)), (8, i6 v5), (9, i6 v6), (17, .isl 4 (a1.map z7) false), (18, i6 ((a1.map z7).length : Int)), (19, i6 v7)] [((0, 0), .tok)] 1 :=
 j5 (m := m) (s := ((v4, v5, v6, v7) : ((List G_SemanticToken) × Int × Int × Int))) (r := o) (fun (s : ((List G_SemanticToken) × Int × Int × Int)) => y1 m a0 a1 v1 s.1 s.2.1 s.2.2.1 s.2.2.2) (Vp a0 a1 v1) (z18 a0 a1 v1) (z4h a0 a1) (fun s o h => z9m h) h
noncomputable def qz (m : Option Nat) (a0 : List UInt8) (a1 : List G_TokenDelta) : Option ((List G_SemanticToken) × Int) :=
 if (decide ((a0.length : Int) > 2000)) = true then
  some ([], 2)
 else
  (xj m a0).bind fun v1 =>
  xw m a0 a1 v1 [] 0 0 0
theorem zf4 {a0 : List UInt8} {a1 : List G_TokenDelta} {m : Option Nat} {o : (List G_SemanticToken) × Int} (h : qz m a0 a1 = some o) : LWp Tryz.prog Xi 0 zmu (zni a0 a1 o) (je 0 [.str a0, .isl 4 (a1.map z7) false]) [] 0 := by
 unfold qz at h
 refine zp (ye ?_)
 refine zp ?_
 refine zp (ye ?_)
 refine j0 (v := (decide ((a0.length : Int) > 2000))) rfl TT (fun h1 => ?_) (fun h1 => ?_)
 ·have h := yy h1 h
  refine zp (ye ?_)
  refine Zk ?_
  cases h
  exact AI TT (AI TT (AI rfl (Vw.tupL (AI (Vw.nilI _ _) (AI (VS rfl) TT)))))
 ·have h := q9 h1 h
  refine jc ?_
  refine zp (ye ?_)
  obtain ⟨v1, h2, h⟩ := bind_some h
  refine PFn.call (zmr h2) (AI (VS rfl) TT) ?_
  refine LWp.sim (e := [(0, .str a0), (1, .isl 4 (a1.map z7) false), (6, .isl 1 (v1.map jw) false)]) (L := []) (n := 0) ?_ ?_
  ·exact xg (M := []) rfl (S2 rfl rfl (AI (VS rfl) TT)) TT
  refine zp (ye ?_)
  refine zp (ye ?_)
  refine zp ?_
  refine zp (ye ?_)
  refine xx ?_
  refine LWp.sim ?_ (ze9 h)
  exact xg (M := []) rfl (S2 rfl rfl (AI (Vw.nilO _ _ (by decide)) (S4 rfl rfl rfl rfl (AI (VS rfl) TT)))) (AI (AI rfl (AI (by decide) (by decide))) TT)
theorem zom {a0 : List UInt8} {a1 : List G_TokenDelta} {m : Option Nat} {o : (List G_SemanticToken) × Int} (h : qz m a0 a1 = some o) : PFn Tryz.prog 7 [.str a0, .isl 4 (a1.map z7) false] (.tup [.isl 3 (o.1.map z6) false, i6 o.2]) := PFn.ofFnW (L := zpo) zlh zm4 (NB rfl) rfl (zf4 h)
def zil : LCode := (.seq (.seq (.region [Qm 7 5,
 Qm 8 1,
 Qo 9 (.len false (.t 8)),
 Qo 10 (.bin .lss (.t 7) (.t 9))])
 (.cond (.t 10)
  .skip
  (.exit 0)))
 (.seq (.block 1
  (.seq (.region [Qm 13 1,
   Qm 14 5,
   Qo 15 (.iaddr 3 (.t 13) (.t 14)),
   Qt 16 3 15,
   Qo 6 (.alloc [(i6 0), (i6 0), (i6 0)]),
   ⟨none, .store 3 (.t 6) (.t 16), none⟩])
  (.seq (.quiet [Qf 17 0 6,
   Ql 18 1 17,
   Qo 19 (.bin .lss (.t 18) (.c (i6 0))),
   Qm 20 19,
   Qe 21 1 6 (20, false),
   Qk 22 1 21 (20, false),
   Qg 23 (.bin .lss (.t 22) (.c (i6 1))) (20, false),
   Qo 24 (.pick (.t 20) (.c (.bool true)) (.t 23)),
   Qm 25 24,
   Qe 26 0 6 (25, false),
   Qk 27 1 26 (25, false),
   Qn 28 0 (25, false),
   Qg 29 (.len true (.t 28)) (25, false),
   Qg 30 (.bin .gtr (.t 27) (.t 29)) (25, false),
   Qo 31 (.pick (.t 25) (.c (.bool true)) (.t 30)),
   Qm 32 31,
   Qe 33 1 6 (32, false),
   Qk 34 1 33 (32, false),
   Qn 35 0 (32, false),
   Qg 36 (.len true (.t 35)) (32, false),
   Qe 37 0 6 (32, false),
   Qk 38 1 37 (32, false),
   Qg 39 (.bin .sub (.t 36) (.t 38)) (32, false),
   Qg 40 (.bin .gtr (.t 34) (.t 39)) (32, false),
   Qo 41 (.pick (.t 32) (.c (.bool true)) (.t 40)),
   Qm 42 41,
   Qn 43 5 (42, false),
   Qg 44 (.bin .gtr (.t 43) (.c (i6 0))) (42, false),
   Qn 45 44 (42, false),
   Qe 46 0 6 (45, true),
   Qk 47 1 46 (45, true),
   Qn 48 1 (45, true),
   Qn 49 5 (45, true),
   Qg 50 (.bin .sub (.t 49) (.c (i6 1))) (45, true),
   Qg 51 (.iaddr 3 (.t 48) (.t 50)) (45, true),
   Qe 52 0 51 (45, true),
   Qk 53 1 52 (45, true),
   Qn 54 1 (45, true),
   Qn 55 5 (45, true),
   Qg 56 (.bin .sub (.t 55) (.c (i6 1))) (45, true),
   Qg 57 (.iaddr 3 (.t 54) (.t 56)) (45, true),
   Qe 58 1 57 (45, true),
   Qk 59 1 58 (45, true),
   Qg 60 (.bin .add (.t 53) (.t 59)) (45, true),
   Qg 61 (.bin .lss (.t 47) (.t 60)) (45, true),
   Qg 62 (.pick (.t 45) (.t 61) (.c (.bool false))) (42, false),
   Qo 63 (.pick (.t 42) (.c (.bool true)) (.t 62))])
  (.cond (.t 63)
   (.seq (.region [Qb 4])
   .ret)
   .skip))))
 (.region [Qm 11 5,
  Qo 12 (.bin .add (.t 11) (.c (i6 1))),
  Qm 5 12])))
def zgc : LCode := (.seq (.region [Qo 4 (.mv (.c (.bool true)))])
 .ret)
def zm3 : LCode := (.seq (.region [Qb 4])
 (.seq (.seq (.region [Qi 5 0])
 (.block 0
  (.loop
   zil)))
 zgc))
def V9 : Lay := ⟨64, [], false⟩
def zgj : List LRes := [.t 4]
def zox : LFn := ⟨2, V9, zm3, zgj⟩
theorem zn1 : vu Tryz.prog [] 8 = some zox := by kernel_rfl
theorem zld : Qh Tryz.prog 8 := ⟨_, Tryz.func8, rfl, rfl⟩
def zng (a0 : List UInt8) (a1 : List G_SemanticToken) (o : Bool) : Exit → Env → AHeap → Nat → Prop := z19 zgj (w8 (.bool o))
def z2p (a0 : List UInt8) (a1 : List G_SemanticToken) (s : Int) : Env := [(0, .str a0), (1, .isl 3 (a1.map z6) false), (5, i6 s)]
def z6f (a0 : List UInt8) (a1 : List G_SemanticToken) (s : Int) : AHeap := []
def z9t (a0 : List UInt8) (a1 : List G_SemanticToken) (o : Bool) : Exit → Env → AHeap → Nat → Prop := (x6 0 (ui Tryz.prog V9 0 zgc (zng a0 a1 o)))
noncomputable def qu (m : Option Nat) : Option Bool :=
 some true
noncomputable def zz (m : Option Nat) (a0 : List UInt8) (a1 : List G_SemanticToken) (v1 : Int) : Option (Int ⊕ Bool) :=
 if (decide (v1 < ((a1.map z6).length : Int))) = true then
  if (0 : Int) ≤ v1 ∧ v1 < ((a1.map z6).length : Int) then
  if (((((((decide ((a1.getD v1.toNat default).f_Start < 0)) || (decide ((a1.getD v1.toNat default).f_Length < 1))) || (decide ((a1.getD v1.toNat default).f_Start > (a0.length : Int)))) || (decide ((a1.getD v1.toNat default).f_Length > (W ((a0.length : Int) - (a1.getD v1.toNat default).f_Start))))) == false) && ((decide (v1 > 0)) == true)) = true → (0 : Int) ≤ (W (v1 - 1)) ∧ (W (v1 - 1)) < ((a1.map z6).length : Int)) then
  if (((((((decide ((a1.getD v1.toNat default).f_Start < 0)) || (decide ((a1.getD v1.toNat default).f_Length < 1))) || (decide ((a1.getD v1.toNat default).f_Start > (a0.length : Int)))) || (decide ((a1.getD v1.toNat default).f_Length > (W ((a0.length : Int) - (a1.getD v1.toNat default).f_Start))))) == false) && ((decide (v1 > 0)) == true)) = true → (0 : Int) ≤ (W (v1 - 1)) ∧ (W (v1 - 1)) < ((a1.map z6).length : Int)) then
  if (((((decide ((a1.getD v1.toNat default).f_Start < 0)) || (decide ((a1.getD v1.toNat default).f_Length < 1))) || (decide ((a1.getD v1.toNat default).f_Start > (a0.length : Int)))) || (decide ((a1.getD v1.toNat default).f_Length > (W ((a0.length : Int) - (a1.getD v1.toNat default).f_Start))))) || ((decide (v1 > 0)) && (decide ((a1.getD v1.toNat default).f_Start < (W ((a1.getD ((W (v1 - 1)).toNat) default).f_Start + (a1.getD ((W (v1 - 1)).toNat) default).f_Length)))))) = true then
   Option.map Sum.inr (
    some false)
  else
   some (.inl (W (v1 + 1)))
  else none
  else none
  else none
 else
  Option.map Sum.inr (
   qu m)
noncomputable def yt (m : Option Nat) (a0 : List UInt8) (a1 : List G_SemanticToken) (v1 : Int) : Option Bool := vr m (fun (s : Int) => zz m a0 a1 s) v1
theorem zfq {a0 : List UInt8} {a1 : List G_SemanticToken} {m : Option Nat} {o : Bool} (h : qu m = some o) :
 LWp Tryz.prog V9 0 zgc (zng a0 a1 o) [] [] 0 := by
 unfold qu at h
 refine zp (ye ?_)
 refine Zk ?_
 cases h
 exact AI TT (AI rfl (VS rfl))
theorem zc2 {a0 : List UInt8} {a1 : List G_SemanticToken} {v1 : Int} {m : Option Nat} {o : Int ⊕ Bool} (h : zz m a0 a1 v1 = some o) :
 LWp Tryz.prog V9 0 zil (wr 0 0 (z2p a0 a1) (z6f a0 a1) (z9t a0 a1) o) [(0, .str a0), (1, .isl 3 (a1.map z6) false), (5, i6 v1)] [] 0 := by
 unfold zz at h
 refine zp ?_
 refine zp (ye ?_)
 refine j0 (v := (decide (v1 < ((a1.map z6).length : Int)))) rfl TT (fun h11 => ?_) (fun h11 => ?_)
 ·have h := yy h11 h
  refine jc ?_
  refine zp ?_
  refine xx ?_
  refine zp (ye ?_)
  obtain ⟨h12, h⟩ := zo h
  refine AI h12 ?_
  refine EX (z6 (a1.getD v1.toNat default)) (AI (qd z6 _ _ (xh z6 h12)) (AI (AI (jk h12) (NB rfl)) ?_))
  refine LWp.sim (e := [(0, .str a0), (1, .isl 3 (a1.map z6) false), (5, i6 v1), (6, .ptr (0, 0) 0 0)]) (L := [((0, 0), .one [i6 ((a1.getD v1.toNat default).f_Start), i6 ((a1.getD v1.toNat default).f_Length), i6 ((a1.getD v1.toNat default).f_Kind)])]) (n := 1) ?_ ?_
  ·exact xg (M := [((0, 0), (0, 0))]) rfl (S2 rfl rfl (AI (VS rfl) (SP rfl TT))) (AI (AI rfl (OL rfl)) TT)
  refine zp ?_
  refine z2a ?_
  refine AI (fun hp => hp) ?_
  refine AI (fun hp => hp) ?_
  refine AI (fun hc => (bqf hc)) ?_
  refine AI (fun hp => hp) ?_
  refine AI (fun hp => hp) ?_
  refine AI (fun hp => (AI hp hp)) ?_
  refine AI (fun hc => (bqf hc)) ?_
  refine AI (fun hp => hp) ?_
  refine AI (fun hp => hp) ?_
  refine AI (fun hp => hp) ?_
  refine AI (fun hp => (AI hp hp)) ?_
  refine AI (fun hp => (AI hp hp)) ?_
  refine AI (fun hc => (bqf hc)) ?_
  refine AI (fun hp => hp) ?_
  refine AI (fun hp => hp) ?_
  refine AI (fun hp => hp) ?_
  refine AI (fun hp => hp) ?_
  obtain ⟨h13, h⟩ := zo h
  refine AI (fun hp => (AI (AI hp hp) (h13 hp))) ?_
  refine AI (fun hp => hp) ?_
  refine EX (z6 (a1.getD ((W (v1 - 1)).toNat) default)) (AI (fun hp => AI (qd z6 _ _ (xh z6 (h13 hp))) (AI hp (AI (jk (h13 hp)) (NB rfl)))) ?_)
  refine AI (fun hp => hp) ?_
  obtain ⟨h14, h⟩ := zo h
  refine AI (fun hp => (AI (AI hp hp) (h14 hp))) ?_
  refine AI (fun hp => hp) ?_
  refine EX (z6 (a1.getD ((W (v1 - 1)).toNat) default)) (AI (fun hp => AI (qd z6 _ _ (xh z6 (h14 hp))) (AI hp (AI (jk (h14 hp)) (NB rfl)))) ?_)
  refine AI (fun hp => (AI hp hp)) ?_
  refine AI (fun hp => (AI hp hp)) ?_
  refine AI (fun hp => (AI hp (fun hc => (zl1 hp (bqt hc))))) ?_
  refine AI (fun hc => (bqf hc)) ?_
  refine LWp.sim (e := [(0, .str a0), (1, .isl 3 (a1.map z6) false), (5, i6 v1), (63, .bool (((((decide ((a1.getD v1.toNat default).f_Start < 0)) || (decide ((a1.getD v1.toNat default).f_Length < 1))) || (decide ((a1.getD v1.toNat default).f_Start > (a0.length : Int)))) || (decide ((a1.getD v1.toNat default).f_Length > (W ((a0.length : Int) - (a1.getD v1.toNat default).f_Start))))) || ((decide (v1 > 0)) && (decide ((a1.getD v1.toNat default).f_Start < (W ((a1.getD ((W (v1 - 1)).toNat) default).f_Start + (a1.getD ((W (v1 - 1)).toNat) default).f_Length)))))))]) (L := []) (n := 0) ?_ ?_
  ·exact xg (M := []) rfl (S4 rfl rfl rfl rfl TT) TT
  refine j0 (v := (((((decide ((a1.getD v1.toNat default).f_Start < 0)) || (decide ((a1.getD v1.toNat default).f_Length < 1))) || (decide ((a1.getD v1.toNat default).f_Start > (a0.length : Int)))) || (decide ((a1.getD v1.toNat default).f_Length > (W ((a0.length : Int) - (a1.getD v1.toNat default).f_Start))))) || ((decide (v1 > 0)) && (decide ((a1.getD v1.toNat default).f_Start < (W ((a1.getD ((W (v1 - 1)).toNat) default).f_Start + (a1.getD ((W (v1 - 1)).toNat) default).f_Length))))))) rfl TT (fun h15 => ?_) (fun h15 => ?_)
  ·have h := yy h15 h
   refine zp (ye ?_)
   refine Zk ?_
   obtain ⟨o, hq, rfl⟩ := Option.map_eq_some_iff.1 h
   replace h := hq; clear hq
   refine AI nofun ?_
   cases h
   exact AI TT (AI rfl (VS rfl))
  ·have h := q9 h15 h
   refine jc ?_
   refine ye ?_
   cases h
   exact AI rfl (xg (M := []) rfl (S2 rfl rfl (AI (VS rfl) TT)) TT)
 ·have h := q9 h11 h
  refine Zo ?_
  obtain ⟨o, hq, rfl⟩ := Option.map_eq_some_iff.1 h
  replace h := hq; clear hq
  refine AI nofun ?_
  refine LWp.sim ?_ (zfq h)
  exact xg (M := []) rfl TT TT
theorem zg8 {a0 : List UInt8} {a1 : List G_SemanticToken} {v1 : Int} {m : Option Nat} {o : Bool} (h : yt m a0 a1 v1 = some o) :
 LWp Tryz.prog V9 0 (.loop zil) (x6 0 (ui Tryz.prog V9 0 zgc (zng a0 a1 o))) [(0, .str a0), (1, .isl 3 (a1.map z6) false), (5, i6 v1)] [] 0 :=
 j5 (m := m) (s := (v1 : Int)) (r := o) (fun (s : Int) => zz m a0 a1 s) (z2p a0 a1) (z6f a0 a1) (z9t a0 a1) (fun s o h => zc2 h) h
noncomputable def y9 (m : Option Nat) (a0 : List UInt8) (a1 : List G_SemanticToken) : Option Bool :=
 yt m a0 a1 0
theorem ze7 {a0 : List UInt8} {a1 : List G_SemanticToken} {m : Option Nat} {o : Bool} (h : y9 m a0 a1 = some o) : LWp Tryz.prog V9 0 zm3 (zng a0 a1 o) (je 0 [.str a0, .isl 3 (a1.map z6) false]) [] 0 := by
 unfold y9 at h
 refine zp (ye ?_)
 refine zp ?_
 refine zp (ye ?_)
 refine xx ?_
 refine LWp.sim ?_ (zg8 h)
 exact xg (M := []) rfl (S2 rfl rfl (AI (VS rfl) TT)) TT
theorem zkb {a0 : List UInt8} {a1 : List G_SemanticToken} {m : Option Nat} {o : Bool} (h : y9 m a0 a1 = some o) : PFn Tryz.prog 8 [.str a0, .isl 3 (a1.map z6) false] (.bool o) := PFn.ofFnW (L := zox) zn1 zld (NB rfl) rfl (ze7 h)
end Go.Proofs.YtkpgfihopaokgaaGreatDoor
