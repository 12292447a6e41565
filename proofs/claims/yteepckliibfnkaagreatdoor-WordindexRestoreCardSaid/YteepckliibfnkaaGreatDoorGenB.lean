/-
  Own text GenB of this claim: what functions of the given program compute, in plain Lean, and the proof; no condition.
-/
import Derived.Test.YteepckliibfnkaaGreatDoorGenA
namespace Go.Proofs.YteepckliibfnkaaGreatDoor
open Go.Fx
set_option linter.unusedVariables false
def zwo : LCode := (.seq (.region [⟨some 44, .bin .lss (.t 43) (.t 42), none⟩])
 (.seq (.cond (.t 44)
  .skip
  (.exit 2))
 (.seq (.block 3
  (.seq (.region [⟨some 45, .iaddr 3 (.t 41) (.t 43), none⟩,
   ⟨some 46, .load true 3 (.t 45), none⟩,
   ⟨some 9, .alloc [(.str []), (.int .i64 0), (.str [])], none⟩,
   ⟨none, .store 3 (.t 9) (.t 46), none⟩])
  (.region [⟨some 47, .mv (.t 5), none⟩,
   ⟨some 48, .mv (.t 47), none⟩,
   ⟨some 49, .faddr 0 (.t 9), some (48, false)⟩,
   ⟨some 50, .load false 1 (.t 49), some (48, false)⟩,
   ⟨some 51, .faddr 0 (.t 7), some (48, false)⟩,
   ⟨some 52, .load false 1 (.t 51), some (48, false)⟩,
   ⟨some 53, .bin .eql (.t 50) (.t 52), some (48, false)⟩,
   ⟨some 54, .pick (.t 48) (.c (.bool true)) (.t 53), none⟩,
   ⟨some 5, .mv (.t 54), none⟩])))
 (.region [⟨some 55, .bin .add (.t 43) (.c (.int .i64 1)), none⟩,
  ⟨some 43, .mv (.t 55), none⟩]))))
def zpj : LCode := (.region [⟨some 56, .bin .add (.t 15) (.c (.int .i64 1)), none⟩,
 ⟨some 15, .mv (.t 56), none⟩])
def zuq : LCode := (.seq (.region [⟨some 16, .bin .lss (.t 15) (.t 14), none⟩])
 (.seq (.cond (.t 16)
  .skip
  (.exit 0))
 (.seq (.block 1
  (.seq (.region [⟨some 17, .mv (.t 15), none⟩,
   ⟨some 18, .iaddr 3 (.t 13) (.t 15), none⟩,
   ⟨some 19, .load true 3 (.t 18), none⟩,
   ⟨some 7, .alloc [(.str []), (.int .i64 0), (.str [])], none⟩,
   ⟨some 6, .mv (.t 17), none⟩,
   ⟨none, .store 3 (.t 7) (.t 19), none⟩])
  (.seq (.region [⟨some 20, .mv (.t 3), none⟩,
   ⟨some 21, .mv (.t 20), none⟩,
   ⟨some 22, .faddr 0 (.t 7), some (21, false)⟩,
   ⟨some 23, .load false 1 (.t 22), some (21, false)⟩,
   ⟨some 24, .len true (.t 23), some (21, false)⟩,
   ⟨some 25, .bin .gtr (.t 24) (.c (.int .i64 60)), some (21, false)⟩,
   ⟨some 26, .pick (.t 21) (.c (.bool true)) (.t 25), none⟩,
   ⟨some 27, .mv (.t 26), none⟩,
   ⟨some 28, .faddr 2 (.t 7), some (27, false)⟩,
   ⟨some 29, .load false 1 (.t 28), some (27, false)⟩,
   ⟨some 30, .len true (.t 29), some (27, false)⟩,
   ⟨some 31, .bin .gtr (.t 30) (.c (.int .i64 2000)), some (27, false)⟩,
   ⟨some 32, .pick (.t 27) (.c (.bool true)) (.t 31), none⟩,
   ⟨some 3, .mv (.t 32), none⟩])
  (.seq (.region [⟨some 33, .mv (.t 4), none⟩,
   ⟨some 34, .mv (.t 33), none⟩,
   ⟨some 35, .faddr 0 (.t 7), some (34, false)⟩,
   ⟨some 36, .load false 1 (.t 35), some (34, false)⟩,
   ⟨some 37, .bin .eql (.t 36) (.c (.str [])), some (34, false)⟩,
   ⟨some 38, .pick (.t 34) (.c (.bool true)) (.t 37), none⟩,
   ⟨some 4, .mv (.t 38), none⟩])
  (.seq (.region [⟨some 39, .mv (.t 0), none⟩,
   ⟨some 40, .mv (.t 6), none⟩,
   ⟨some 41, .slSl 3 (.t 39) none (some (.t 40)) none, none⟩,
   ⟨some 42, .len false (.t 41), none⟩,
   ⟨some 43, .mv (.c (.int .i64 0)), none⟩])
  (.block 2
   (.loop
    zwo)))))))
 zpj)))
def zqj : LCode := (.seq (.block 4
 (.seq (.region [⟨some 58, .mv (.t 3), none⟩,
  ⟨some 57, .mv (.t 58), none⟩])
 (.cond (.t 57)
  (.seq (.region [⟨some 2, .mv (.c (.int .i64 2)), none⟩])
  .ret)
  (.seq (.region [⟨some 60, .mv (.t 4), none⟩,
   ⟨some 59, .mv (.t 60), none⟩])
  (.cond (.t 59)
   (.seq (.region [⟨some 2, .mv (.c (.int .i64 3)), none⟩])
   .ret)
   (.seq (.region [⟨some 62, .mv (.t 5), none⟩,
    ⟨some 61, .mv (.t 62), none⟩])
   (.cond (.t 61)
    (.seq (.region [⟨some 2, .mv (.c (.int .i64 6)), none⟩])
    .ret)
    .skip)))))))
 (.seq (.region [⟨some 2, .mv (.c (.int .i64 0)), none⟩])
 .ret))
def zzh : LCode := (.seq (.region [⟨some 2, .mv (.c (.int .i64 0)), none⟩])
 (.seq (.region [⟨some 10, .mv (.t 0), none⟩,
  ⟨some 11, .len false (.t 10), none⟩,
  ⟨some 12, .bin .gtr (.t 11) (.c (.int .i64 20)), none⟩,
  ⟨some 3, .mv (.t 12), none⟩,
  ⟨some 4, .mv (.c (.bool false)), none⟩,
  ⟨some 5, .mv (.c (.bool false)), none⟩])
 (.seq (.seq (.region [⟨some 13, .mv (.t 0), none⟩,
  ⟨some 14, .len false (.t 13), none⟩,
  ⟨some 15, .mv (.c (.int .i64 0)), none⟩])
 (.block 0
  (.loop
   zuq)))
 zqj)))
def Xm : Lay := ⟨63, [], false⟩
def zrg : List LRes := [.t 2]
def y2z : LFn := ⟨1, Xm, zzh, zrg⟩
theorem zxv : ww Tryz.prog [] 6 = some y2z := by kernel_rfl
theorem y05 : Z9 Tryz.prog 6 := ⟨_, Tryz.func6, rfl, rfl⟩
def y1f (a0 : List G_QDocument) (o : Int) : Exit → Env → AHeap → Nat → Prop := Zy zrg (q6 (.int .i64 o))
def Xq (a0 : List G_QDocument) (s : (Bool × Bool × Bool × Int)) : Env := [(0, .isl 3 (a0.map z8) false), (3, .bool s.1), (4, .bool s.2.1), (5, .bool s.2.2.1), (13, .isl 3 (a0.map z8) false), (14, .int .i64 ((a0.map z8).length : Int)), (15, .int .i64 s.2.2.2)]
def V7 (a0 : List G_QDocument) (s : (Bool × Bool × Bool × Int)) : AHeap := []
def z0a (a0 : List G_QDocument) (o : Int) : Exit → Env → AHeap → Nat → Prop := (zm 0 (ug Tryz.prog Xm 0 zqj (y1f a0 o)))
def z79 (a0 : List G_QDocument) (v3 : Bool) (v4 : Bool) (v6 : Int) (s : (Bool × Int)) : Env := [(0, .isl 3 (a0.map z8) false), (3, .bool ((v3 || (decide ((((a0.getD v6.toNat default).f_Name).length : Int) > 60))) || (decide ((((a0.getD v6.toNat default).f_Text).length : Int) > 2000)))), (4, .bool (v4 || ((a0.getD v6.toNat default).f_Name == ([] : List UInt8)))), (5, .bool s.1), (7, .ptr (0, 0) 0 0), (13, .isl 3 (a0.map z8) false), (14, .int .i64 ((a0.map z8).length : Int)), (15, .int .i64 v6), (41, .isl 3 ((a0.take v6.toNat).map z8) false), (42, .int .i64 (((a0.take v6.toNat).map z8).length : Int)), (43, .int .i64 s.2)]
def zc5 (a0 : List G_QDocument) (v3 : Bool) (v4 : Bool) (v6 : Int) (s : (Bool × Int)) : AHeap := [((0, 0), .one [.str ((a0.getD v6.toNat default).f_Name), .int .i64 ((a0.getD v6.toNat default).f_Version), .str ((a0.getD v6.toNat default).f_Text)])]
def zn5 (a0 : List G_QDocument) (o : ((Bool × Bool × Bool × Int) ⊕ Int)) : Exit → Env → AHeap → Nat → Prop := (zm 2 (zm 1 (ug Tryz.prog Xm 0 zpj (xt 0 0 (Xq a0) (V7 a0) (z0a a0) o))))
noncomputable def qq (m : Option Nat) (a0 : List G_QDocument) (v3 : Bool) (v4 : Bool) (v6 : Int) (v9 : Bool) : Option ((Bool × Bool × Bool × Int) ⊕ Int) :=
 some (.inl (((v3 || (decide ((((a0.getD v6.toNat default).f_Name).length : Int) > 60))) || (decide ((((a0.getD v6.toNat default).f_Text).length : Int) > 2000))), (v4 || ((a0.getD v6.toNat default).f_Name == ([] : List UInt8))), v9, (W (v6 + 1))))
noncomputable def yn (m : Option Nat) (a0 : List G_QDocument) (v3 : Bool) (v4 : Bool) (v6 : Int) (v9 : Bool) (v10 : Int) : Option ((Bool × Int) ⊕ ((Bool × Bool × Bool × Int) ⊕ Int)) :=
 if (decide (v10 < (((a0.take v6.toNat).map z8).length : Int))) = true then
  if (0 : Int) ≤ v10 ∧ v10 < (((a0.take v6.toNat).map z8).length : Int) then
  some (.inl ((v9 || (((a0.take v6.toNat).getD v10.toNat default).f_Name == (a0.getD v6.toNat default).f_Name)), (W (v10 + 1))))
  else none
 else
  Option.map Sum.inr (
   qq m a0 v3 v4 v6 v9)
noncomputable def qr (m : Option Nat) (a0 : List G_QDocument) (v3 : Bool) (v4 : Bool) (v6 : Int) (v9 : Bool) (v10 : Int) : Option ((Bool × Bool × Bool × Int) ⊕ Int) := u4 m (fun (s : (Bool × Int)) => yn m a0 v3 v4 v6 s.1 s.2) (v9, v10)
theorem zp7 {a0 : List G_QDocument} {v3 : Bool} {v4 : Bool} {v6 : Int} {v9 : Bool} {m : Option Nat} {o : ((Bool × Bool × Bool × Int) ⊕ Int)} (h : qq m a0 v3 v4 v6 v9 = some o) :
 LWp Tryz.prog Xm 0 zpj (xt 0 0 (Xq a0) (V7 a0) (z0a a0) o) [(0, .isl 3 (a0.map z8) false), (3, .bool ((v3 || (decide ((((a0.getD v6.toNat default).f_Name).length : Int) > 60))) || (decide ((((a0.getD v6.toNat default).f_Text).length : Int) > 2000)))), (4, .bool (v4 || ((a0.getD v6.toNat default).f_Name == ([] : List UInt8)))), (5, .bool v9), (13, .isl 3 (a0.map z8) false), (14, .int .i64 ((a0.map z8).length : Int)), (15, .int .i64 v6)] [] 0 := by
 unfold qq at h
 refine ze ?_
 cases h
 exact AI rfl (y6 (M := []) rfl (S4 rfl rfl rfl rfl (S2 rfl rfl (AI (VS rfl) TT))) TT)
theorem zg7 {a0 : List G_QDocument} {v3 : Bool} {v4 : Bool} {v6 : Int} {v9 : Bool} {v10 : Int} {m : Option Nat} {o : (Bool × Int) ⊕ ((Bool × Bool × Bool × Int) ⊕ Int)} (h : yn m a0 v3 v4 v6 v9 v10 = some o) :
 LWp Tryz.prog Xm 0 zwo (xt 0 1 (z79 a0 v3 v4 v6) (zc5 a0 v3 v4 v6) (zn5 a0) o) [(0, .isl 3 (a0.map z8) false), (3, .bool ((v3 || (decide ((((a0.getD v6.toNat default).f_Name).length : Int) > 60))) || (decide ((((a0.getD v6.toNat default).f_Text).length : Int) > 2000)))), (4, .bool (v4 || ((a0.getD v6.toNat default).f_Name == ([] : List UInt8)))), (5, .bool v9), (7, .ptr (0, 0) 0 0), (13, .isl 3 (a0.map z8) false), (14, .int .i64 ((a0.map z8).length : Int)), (15, .int .i64 v6), (41, .isl 3 ((a0.take v6.toNat).map z8) false), (42, .int .i64 (((a0.take v6.toNat).map z8).length : Int)), (43, .int .i64 v10)] [((0, 0), .one [.str ((a0.getD v6.toNat default).f_Name), .int .i64 ((a0.getD v6.toNat default).f_Version), .str ((a0.getD v6.toNat default).f_Text)])] 1 := by
 unfold yn at h
 refine zd ?_
 refine ze ?_
 refine zd ?_
 refine qj (v := (decide (v10 < (((a0.take v6.toNat).map z8).length : Int)))) rfl TT (fun h26 => ?_) (fun h26 => ?_)
 ·have h := zk h26 h
  refine qv ?_
  refine zd ?_
  refine yf ?_
  refine zd ?_
  refine ze ?_
  obtain ⟨h27, h⟩ := zc h
  refine AI h27 ?_
  refine EX (z8 ((a0.take v6.toNat).getD v10.toNat default)) (AI (qo z8 _ _ (ji z8 h27)) (AI (AI (k7 h27) (NB rfl)) ?_))
  refine ze ?_
  refine AI (fun hp => hp) ?_
  refine AI (fun hp => hp) ?_
  refine AI (fun hp => (AI hp hp)) ?_
  refine AI (fun hc => (bqf hc)) ?_
  refine LWp.sim (e := [(0, .isl 3 (a0.map z8) false), (3, .bool ((v3 || (decide ((((a0.getD v6.toNat default).f_Name).length : Int) > 60))) || (decide ((((a0.getD v6.toNat default).f_Text).length : Int) > 2000)))), (4, .bool (v4 || ((a0.getD v6.toNat default).f_Name == ([] : List UInt8)))), (5, .bool (v9 || (((a0.take v6.toNat).getD v10.toNat default).f_Name == (a0.getD v6.toNat default).f_Name))), (7, .ptr (0, 0) 0 0), (13, .isl 3 (a0.map z8) false), (14, .int .i64 ((a0.map z8).length : Int)), (15, .int .i64 v6), (41, .isl 3 ((a0.take v6.toNat).map z8) false), (42, .int .i64 (((a0.take v6.toNat).map z8).length : Int)), (43, .int .i64 v10)]) (L := [((0, 0), .one [.str ((a0.getD v6.toNat default).f_Name), .int .i64 ((a0.getD v6.toNat default).f_Version), .str ((a0.getD v6.toNat default).f_Text)])]) (n := 1) ?_ ?_
  ·exact y6 (M := [((0, 0), (0, 0))]) rfl (S4 rfl rfl rfl rfl (AI (Vw.ptr _ _ _ _ rfl) (S4 rfl rfl rfl rfl (S2 rfl rfl TT)))) (AI (AI rfl (BVw.oneL (S2 rfl rfl (AI (VS rfl) TT)))) TT)
  refine ze ?_
  cases h
  exact AI rfl (y6 (M := [((0, 0), (0, 0))]) rfl (S4 rfl rfl rfl rfl (AI (Vw.ptr _ _ _ _ rfl) (S4 rfl rfl rfl rfl (S2 rfl rfl TT)))) (AI (AI rfl (BVw.oneL (S2 rfl rfl (AI (VS rfl) TT)))) TT))
 ·have h := zw h26 h
  refine Z2 ?_
  obtain ⟨o, hq, rfl⟩ := Option.map_eq_some_iff.1 h
  replace h := hq; clear hq
  refine AI nofun ?_
  refine LWp.sim ?_ (zp7 h)
  exact y6 (M := []) rfl (S4 rfl rfl rfl rfl (S2 rfl rfl (AI (VS rfl) TT))) TT
theorem zod {a0 : List G_QDocument} {v3 : Bool} {v4 : Bool} {v6 : Int} {v9 : Bool} {v10 : Int} {m : Option Nat} {o : ((Bool × Bool × Bool × Int) ⊕ Int)} (h : qr m a0 v3 v4 v6 v9 v10 = some o) :
 LWp Tryz.prog Xm 0 (.loop zwo) (zm 2 (zm 1 (ug Tryz.prog Xm 0 zpj (xt 0 0 (Xq a0) (V7 a0) (z0a a0) o)))) [(0, .isl 3 (a0.map z8) false), (3, .bool ((v3 || (decide ((((a0.getD v6.toNat default).f_Name).length : Int) > 60))) || (decide ((((a0.getD v6.toNat default).f_Text).length : Int) > 2000)))), (4, .bool (v4 || ((a0.getD v6.toNat default).f_Name == ([] : List UInt8)))), (5, .bool v9), (7, .ptr (0, 0) 0 0), (13, .isl 3 (a0.map z8) false), (14, .int .i64 ((a0.map z8).length : Int)), (15, .int .i64 v6), (41, .isl 3 ((a0.take v6.toNat).map z8) false), (42, .int .i64 (((a0.take v6.toNat).map z8).length : Int)), (43, .int .i64 v10)] [((0, 0), .one [.str ((a0.getD v6.toNat default).f_Name), .int .i64 ((a0.getD v6.toNat default).f_Version), .str ((a0.getD v6.toNat default).f_Text)])] 1 :=
 yi (m := m) (s := ((v9, v10) : (Bool × Int))) (r := o) (fun (s : (Bool × Int)) => yn m a0 v3 v4 v6 s.1 s.2) (z79 a0 v3 v4 v6) (zc5 a0 v3 v4 v6) (zn5 a0) (fun s o h => zg7 h) h
noncomputable def qt (m : Option Nat) (v3 : Bool) (v4 : Bool) (v5 : Bool) : Option Int :=
 if v3 = true then
  some 2
 else
  if v4 = true then
   some 3
  else
   if v5 = true then
    some 6
   else
    some 0
noncomputable def ym (m : Option Nat) (a0 : List G_QDocument) (v3 : Bool) (v4 : Bool) (v5 : Bool) (v6 : Int) : Option ((Bool × Bool × Bool × Int) ⊕ Int) :=
 if (decide (v6 < ((a0.map z8).length : Int))) = true then
  if (0 : Int) ≤ v6 ∧ v6 < ((a0.map z8).length : Int) then
  if (0 : Int) ≤ v6 ∧ v6 ≤ ((a0.map z8).length : Int) then
  qr m a0 v3 v4 v6 v5 0
  else none
  else none
 else
  Option.map Sum.inr (
   qt m v3 v4 v5)
noncomputable def qu (m : Option Nat) (a0 : List G_QDocument) (v3 : Bool) (v4 : Bool) (v5 : Bool) (v6 : Int) : Option Int := u4 m (fun (s : (Bool × Bool × Bool × Int)) => ym m a0 s.1 s.2.1 s.2.2.1 s.2.2.2) (v3, v4, v5, v6)
theorem znv {a0 : List G_QDocument} {v3 : Bool} {v4 : Bool} {v5 : Bool} {m : Option Nat} {o : Int} (h : qt m v3 v4 v5 = some o) :
 LWp Tryz.prog Xm 0 zqj (y1f a0 o) [(3, .bool v3), (4, .bool v4), (5, .bool v5)] [] 0 := by
 unfold qt at h
 refine zd ?_
 refine yf ?_
 refine zd ?_
 refine ze ?_
 refine qj (v := v3) rfl TT (fun h28 => ?_) (fun h28 => ?_)
 ·have h := zk h28 h
  refine zd ?_
  refine ze ?_
  refine u5 ?_
  cases h
  exact AI TT (AI rfl (VS rfl))
 ·have h := zw h28 h
  refine zd ?_
  refine ze ?_
  refine qj (v := v4) rfl TT (fun h29 => ?_) (fun h29 => ?_)
  ·have h := zk h29 h
   refine zd ?_
   refine ze ?_
   refine u5 ?_
   cases h
   exact AI TT (AI rfl (VS rfl))
  ·have h := zw h29 h
   refine zd ?_
   refine ze ?_
   refine qj (v := v5) rfl TT (fun h30 => ?_) (fun h30 => ?_)
   ·have h := zk h30 h
    refine zd ?_
    refine ze ?_
    refine u5 ?_
    cases h
    exact AI TT (AI rfl (VS rfl))
   ·have h := zw h30 h
    refine qv ?_
    refine zd ?_
    refine ze ?_
    refine u5 ?_
    cases h
    exact AI TT (AI rfl (VS rfl))
theorem zn6 {a0 : List G_QDocument} {v3 : Bool} {v4 : Bool} {v5 : Bool} {v6 : Int} {m : Option Nat} {o : (Bool × Bool × Bool × Int) ⊕ Int} (h : ym m a0 v3 v4 v5 v6 = some o) :
 LWp Tryz.prog Xm 0 zuq (xt 0 0 (Xq a0) (V7 a0) (z0a a0) o) [(0, .isl 3 (a0.map z8) false), (3, .bool v3), (4, .bool v4), (5, .bool v5), (13, .isl 3 (a0.map z8) false), (14, .int .i64 ((a0.map z8).length : Int)), (15, .int .i64 v6)] [] 0 := by
 unfold ym at h
 refine zd ?_
 refine ze ?_
 refine zd ?_
 refine qj (v := (decide (v6 < ((a0.map z8).length : Int)))) rfl TT (fun h19 => ?_) (fun h19 => ?_)
 ·have h := zk h19 h
  refine qv ?_
  refine zd ?_
  refine yf ?_
  refine zd ?_
  refine ze ?_
  obtain ⟨h20, h⟩ := zc h
  refine AI h20 ?_
  refine EX (z8 (a0.getD v6.toNat default)) (AI (qo z8 _ _ (ji z8 h20)) (AI (AI (k7 h20) (NB rfl)) ?_))
  refine zd ?_
  refine ze ?_
  refine AI (fun hp => hp) ?_
  refine AI (fun hp => hp) ?_
  refine AI (fun hp => hp) ?_
  refine AI (fun hc => (bqf hc)) ?_
  refine AI (fun hp => hp) ?_
  refine AI (fun hp => hp) ?_
  refine AI (fun hp => hp) ?_
  refine AI (fun hc => (bqf hc)) ?_
  refine LWp.sim (e := [(0, .isl 3 (a0.map z8) false), (3, .bool ((v3 || (decide ((((a0.getD v6.toNat default).f_Name).length : Int) > 60))) || (decide ((((a0.getD v6.toNat default).f_Text).length : Int) > 2000)))), (4, .bool v4), (5, .bool v5), (6, .int .i64 v6), (7, .ptr (0, 0) 0 0), (13, .isl 3 (a0.map z8) false), (14, .int .i64 ((a0.map z8).length : Int)), (15, .int .i64 v6)]) (L := [((0, 0), .one [.str ((a0.getD v6.toNat default).f_Name), .int .i64 ((a0.getD v6.toNat default).f_Version), .str ((a0.getD v6.toNat default).f_Text)])]) (n := 1) ?_ ?_
  ·exact y6 (M := [((0, 0), (0, 0))]) rfl (S4 rfl rfl rfl rfl (AI (VS rfl) (AI (Vw.ptr _ _ _ _ rfl) (S2 rfl rfl (AI (VS rfl) TT))))) (AI (AI rfl (BVw.oneL (S2 rfl rfl (AI (VS rfl) TT)))) TT)
  refine zd ?_
  refine ze ?_
  refine AI (fun hp => hp) ?_
  refine AI (fun hp => hp) ?_
  refine AI (fun hc => (bqf hc)) ?_
  refine zd ?_
  refine ze ?_
  obtain ⟨h21, h⟩ := zc h
  refine EX (.isl 3 ((a0.take v6.toNat).map z8) false) (AI (zox z8 (slB z8 a0 _) rfl) (AI (AI rfl (AI (Int.le_refl _) h21)) ?_))
  refine LWp.sim (e := [(0, .isl 3 (a0.map z8) false), (3, .bool ((v3 || (decide ((((a0.getD v6.toNat default).f_Name).length : Int) > 60))) || (decide ((((a0.getD v6.toNat default).f_Text).length : Int) > 2000)))), (4, .bool (v4 || ((a0.getD v6.toNat default).f_Name == ([] : List UInt8)))), (5, .bool v5), (7, .ptr (0, 0) 0 0), (13, .isl 3 (a0.map z8) false), (14, .int .i64 ((a0.map z8).length : Int)), (15, .int .i64 v6), (41, .isl 3 ((a0.take v6.toNat).map z8) false), (42, .int .i64 (((a0.take v6.toNat).map z8).length : Int)), (43, .int .i64 0)]) (L := [((0, 0), .one [.str ((a0.getD v6.toNat default).f_Name), .int .i64 ((a0.getD v6.toNat default).f_Version), .str ((a0.getD v6.toNat default).f_Text)])]) (n := 1) ?_ ?_
  ·exact y6 (M := [((0, 0), (0, 0))]) rfl (S4 rfl rfl rfl rfl (AI (Vw.ptr _ _ _ _ rfl) (S4 rfl rfl rfl rfl (S2 rfl rfl TT)))) (AI (AI rfl (BVw.oneL (S2 rfl rfl (AI (VS rfl) TT)))) TT)
  refine yf ?_
  refine LWp.sim ?_ (zod h)
  exact y6 (M := [((0, 0), (0, 0))]) rfl (S4 rfl rfl rfl rfl (AI (Vw.ptr _ _ _ _ rfl) (S4 rfl rfl rfl rfl (S2 rfl rfl TT)))) (AI (AI rfl (BVw.oneL (S2 rfl rfl (AI (VS rfl) TT)))) TT)
 ·have h := zw h19 h
  refine Z2 ?_
  obtain ⟨o, hq, rfl⟩ := Option.map_eq_some_iff.1 h
  replace h := hq; clear hq
  refine AI nofun ?_
  refine LWp.sim ?_ (znv h)
  exact y6 (M := []) rfl (S2 rfl rfl (AI (VS rfl) TT)) TT
theorem zql {a0 : List G_QDocument} {v3 : Bool} {v4 : Bool} {v5 : Bool} {v6 : Int} {m : Option Nat} {o : Int} (h : qu m a0 v3 v4 v5 v6 = some o) :
 LWp Tryz.prog Xm 0 (.loop zuq) (zm 0 (ug Tryz.prog Xm 0 zqj (y1f a0 o))) [(0, .isl 3 (a0.map z8) false), (3, .bool v3), (4, .bool v4), (5, .bool v5), (13, .isl 3 (a0.map z8) false), (14, .int .i64 ((a0.map z8).length : Int)), (15, .int .i64 v6)] [] 0 :=
 yi (m := m) (s := ((v3, v4, v5, v6) : (Bool × Bool × Bool × Int))) (r := o) (fun (s : (Bool × Bool × Bool × Int)) => ym m a0 s.1 s.2.1 s.2.2.1 s.2.2.2) (Xq a0) (V7 a0) (z0a a0) (fun s o h => zn6 h) h
noncomputable def qd (m : Option Nat) (a0 : List G_QDocument) : Option Int :=
 qu m a0 (decide (((a0.map z8).length : Int) > 20)) false false 0
theorem zor {a0 : List G_QDocument} {m : Option Nat} {o : Int} (h : qd m a0 = some o) : LWp Tryz.prog Xm 0 zzh (y1f a0 o) (zz 0 [.isl 3 (a0.map z8) false]) [] 0 := by
 unfold qd at h
 refine zd ?_
 refine ze ?_
 refine zd ?_
 refine ze ?_
 refine zd ?_
 refine zd ?_
 refine ze ?_
 refine LWp.sim (e := [(0, .isl 3 (a0.map z8) false), (3, .bool (decide (((a0.map z8).length : Int) > 20))), (4, .bool false), (5, .bool false), (13, .isl 3 (a0.map z8) false), (14, .int .i64 ((a0.map z8).length : Int)), (15, .int .i64 0)]) (L := []) (n := 0) ?_ ?_
 ·exact y6 (M := []) rfl (S4 rfl rfl rfl rfl (S2 rfl rfl (AI (VS rfl) TT))) TT
 refine yf ?_
 refine LWp.sim ?_ (zql h)
 exact y6 (M := []) rfl (S4 rfl rfl rfl rfl (S2 rfl rfl (AI (VS rfl) TT))) TT
theorem y2l {a0 : List G_QDocument} {m : Option Nat} {o : Int} (h : qd m a0 = some o) : PFn Tryz.prog 6 [.isl 3 (a0.map z8) false] (.int .i64 o) := PFn.ofFnW (L := y2z) zxv y05 (NB rfl) rfl (zor h)
def zi8 : LCode := (.seq (.region [⟨some 8, .bin .lss (.t 7) (.t 6), none⟩])
 (.seq (.cond (.t 8)
  .skip
  (.exit 0))
 (.seq (.block 1
  (.seq (.region [⟨some 9, .mv (.t 7), none⟩,
   ⟨some 4, .mv (.t 9), none⟩])
  (.region [⟨some 10, .mv (.t 3), none⟩,
   ⟨some 11, .mv (.t 0), none⟩,
   ⟨some 12, .mv (.t 4), none⟩,
   ⟨some 13, .idxS (.t 11) (.t 12), none⟩,
   ⟨some 14, .conv (.int .u64) (.t 13), none⟩,
   ⟨some 15, .bin .xor (.t 10) (.t 14), none⟩,
   ⟨some 16, .bin .mul (.t 15) (.c (.int .u64 16777619)), none⟩,
   ⟨some 17, .bin .rem (.t 16) (.c (.int .u64 4294967296)), none⟩,
   ⟨some 3, .mv (.t 17), none⟩])))
 (.region [⟨some 18, .bin .add (.t 7) (.c (.int .i64 1)), none⟩,
  ⟨some 7, .mv (.t 18), none⟩]))))
def zai : LCode := (.seq (.region [⟨some 19, .mv (.t 3), none⟩,
 ⟨some 20, .conv (.int .u32) (.t 19), none⟩,
 ⟨some 2, .mv (.t 20), none⟩])
 .ret)
def zsq : LCode := (.seq (.region [⟨some 2, .mv (.c (.int .u32 0)), none⟩])
 (.seq (.region [⟨some 3, .mv (.c (.int .u64 2166136261)), none⟩])
 (.seq (.seq (.region [⟨some 5, .mv (.t 0), none⟩,
  ⟨some 6, .len true (.t 5), none⟩,
  ⟨some 7, .mv (.c (.int .i64 0)), none⟩])
 (.block 0
  (.loop
   zi8)))
 zai)))
def Wf : Lay := ⟨21, [], false⟩
def zh4 : List LRes := [.t 2]
def zyb : LFn := ⟨1, Wf, zsq, zh4⟩
theorem ztx : ww Tryz.prog [] 28 = some zyb := by kernel_rfl
theorem zwm : Z9 Tryz.prog 28 := ⟨_, Tryz.func28, rfl, rfl⟩
def znl (a0 : List UInt8) (o : Int) : Exit → Env → AHeap → Nat → Prop := Zy zh4 (q6 (.int .u32 o))
def z2g (a0 : List UInt8) (s : (Int × Int)) : Env := [(0, .str a0), (3, .int .u64 s.1), (6, .int .i64 (a0.length : Int)), (7, .int .i64 s.2)]
def z5o (a0 : List UInt8) (s : (Int × Int)) : AHeap := []
def zch (a0 : List UInt8) (o : Int) : Exit → Env → AHeap → Nat → Prop := (zm 0 (ug Tryz.prog Wf 0 zai (znl a0 o)))
noncomputable def wo (m : Option Nat) (v1 : Int) : Option Int :=
 some (IntKind.wrap .u32 v1)
noncomputable def yz (m : Option Nat) (a0 : List UInt8) (v1 : Int) (v2 : Int) : Option ((Int × Int) ⊕ Int) :=
 if (decide (v2 < (a0.length : Int))) = true then
  if (0 : Int) ≤ v2 ∧ v2 < (a0.length : Int) then
  some (.inl (((IntKind.wrap .u64 ((Zb .xor .u64 v1 (IntKind.wrap .u64 (((a0.getD v2.toNat 0).toNat : Nat) : Int))) * 16777619)).tmod 4294967296), (W (v2 + 1))))
  else none
 else
  Option.map Sum.inr (
   wo m v1)
noncomputable def u0 (m : Option Nat) (a0 : List UInt8) (v1 : Int) (v2 : Int) : Option Int := u4 m (fun (s : (Int × Int)) => yz m a0 s.1 s.2) (v1, v2)
theorem zhm {a0 : List UInt8} {v1 : Int} {m : Option Nat} {o : Int} (h : wo m v1 = some o) :
 LWp Tryz.prog Wf 0 zai (znl a0 o) [(3, .int .u64 v1)] [] 0 := by
 unfold wo at h
 refine zd ?_
 refine ze ?_
 refine u5 ?_
 cases h
 exact AI TT (AI rfl (VS rfl))
theorem ze7 {a0 : List UInt8} {v1 : Int} {v2 : Int} {m : Option Nat} {o : (Int × Int) ⊕ Int} (h : yz m a0 v1 v2 = some o) :
 LWp Tryz.prog Wf 0 zi8 (xt 0 0 (z2g a0) (z5o a0) (zch a0) o) [(0, .str a0), (3, .int .u64 v1), (6, .int .i64 (a0.length : Int)), (7, .int .i64 v2)] [] 0 := by
 unfold yz at h
 refine zd ?_
 refine ze ?_
 refine zd ?_
 refine qj (v := (decide (v2 < (a0.length : Int)))) rfl TT (fun h5 => ?_) (fun h5 => ?_)
 ·have h := zk h5 h
  refine qv ?_
  refine zd ?_
  refine yf ?_
  refine zd ?_
  refine ze ?_
  refine ze ?_
  obtain ⟨h6, h⟩ := zc h
  refine AI h6 ?_
  refine AI (by decide) ?_
  refine LWp.sim (e := [(0, .str a0), (3, .int .u64 ((IntKind.wrap .u64 ((Zb .xor .u64 v1 (IntKind.wrap .u64 (((a0.getD v2.toNat 0).toNat : Nat) : Int))) * 16777619)).tmod 4294967296)), (6, .int .i64 (a0.length : Int)), (7, .int .i64 v2)]) (L := []) (n := 0) ?_ ?_
  ·exact y6 (M := []) rfl (S4 rfl rfl rfl rfl TT) TT
  refine ze ?_
  cases h
  exact AI rfl (y6 (M := []) rfl (S4 rfl rfl rfl rfl TT) TT)
 ·have h := zw h5 h
  refine Z2 ?_
  obtain ⟨o, hq, rfl⟩ := Option.map_eq_some_iff.1 h
  replace h := hq; clear hq
  refine AI nofun ?_
  refine LWp.sim ?_ (zhm h)
  exact y6 (M := []) rfl (AI (VS rfl) TT) TT
theorem zkj {a0 : List UInt8} {v1 : Int} {v2 : Int} {m : Option Nat} {o : Int} (h : u0 m a0 v1 v2 = some o) :
 LWp Tryz.prog Wf 0 (.loop zi8) (zm 0 (ug Tryz.prog Wf 0 zai (znl a0 o))) [(0, .str a0), (3, .int .u64 v1), (6, .int .i64 (a0.length : Int)), (7, .int .i64 v2)] [] 0 :=
 yi (m := m) (s := ((v1, v2) : (Int × Int))) (r := o) (fun (s : (Int × Int)) => yz m a0 s.1 s.2) (z2g a0) (z5o a0) (zch a0) (fun s o h => ze7 h) h
noncomputable def qb (m : Option Nat) (a0 : List UInt8) : Option Int :=
 u0 m a0 2166136261 0
theorem zj1 {a0 : List UInt8} {m : Option Nat} {o : Int} (h : qb m a0 = some o) : LWp Tryz.prog Wf 0 zsq (znl a0 o) (zz 0 [.str a0]) [] 0 := by
 unfold qb at h
 refine zd ?_
 refine ze ?_
 refine zd ?_
 refine ze ?_
 refine zd ?_
 refine zd ?_
 refine ze ?_
 refine yf ?_
 refine LWp.sim ?_ (zkj h)
 exact y6 (M := []) rfl (S4 rfl rfl rfl rfl TT) TT
theorem zfu {a0 : List UInt8} {m : Option Nat} {o : Int} (h : qb m a0 = some o) : PFn Tryz.prog 28 [.str a0] (.int .u32 o) := PFn.ofFnW (L := zyb) ztx zwm (NB rfl) rfl (zj1 h)
def zqw : LCode := (.seq (.region [⟨some 2, .mv (.c (.str [])), none⟩])
 (.seq (.region [⟨some 3, .mv (.t 0), none⟩,
  ⟨some 4, .bin .shr (.t 3) (.c (.int .u64 24)), none⟩,
  ⟨some 5, .conv (.int .u8) (.t 4), none⟩,
  ⟨some 6, .mv (.t 0), none⟩,
  ⟨some 7, .bin .shr (.t 6) (.c (.int .u64 16)), none⟩,
  ⟨some 8, .conv (.int .u8) (.t 7), none⟩,
  ⟨some 9, .mv (.t 0), none⟩,
  ⟨some 10, .bin .shr (.t 9) (.c (.int .u64 8)), none⟩,
  ⟨some 11, .conv (.int .u8) (.t 10), none⟩,
  ⟨some 12, .mv (.t 0), none⟩,
  ⟨some 13, .conv (.int .u8) (.t 12), none⟩,
  ⟨some 14, .mkSl true 1 [(.int .u8 0)] 4 [(0, (.t 5)), (1, (.t 8)), (2, (.t 11)), (3, (.t 13))], none⟩,
  ⟨some 15, .conv .b2s (.t 14), none⟩,
  ⟨some 2, .mv (.t 15), none⟩])
 .ret))
def zk5 : Lay := ⟨16, [], false⟩
def zjk : List LRes := [.t 2]
def zyt : LFn := ⟨1, zk5, zqw, zjk⟩
theorem ztp : ww Tryz.prog [] 27 = some zyt := by kernel_rfl
theorem zvz : Z9 Tryz.prog 27 := ⟨_, Tryz.func27, rfl, rfl⟩
noncomputable def w8 (m : Option Nat) (a0 : Int) : Option (List UInt8) :=
 some (([(IntKind.wrap .u8 (a0.fdiv (2 ^ (min (24 : Int).toNat (IntKind.bits .u32))))), (IntKind.wrap .u8 (a0.fdiv (2 ^ (min (16 : Int).toNat (IntKind.bits .u32))))), (IntKind.wrap .u8 (a0.fdiv (2 ^ (min (8 : Int).toNat (IntKind.bits .u32))))), (IntKind.wrap .u8 a0)] : List Int).map Wa)
def y1y (a0 : Int) (o : (List UInt8)) : Exit → Env → AHeap → Nat → Prop := Zy zjk (q6 (.str o))
theorem zk0 {a0 : Int} {m : Option Nat} {o : (List UInt8)} (h : w8 m a0 = some o) : LWp Tryz.prog zk5 0 zqw (y1y a0 o) (zz 0 [.int .u32 a0]) [] 0 := by
 unfold w8 at h
 refine zd ?_
 refine ze ?_
 refine zd ?_
 refine ze ?_
 refine AI (by decide) ?_
 refine AI (by decide) ?_
 refine AI (by decide) ?_
 refine EX (([(IntKind.wrap .u8 (a0.fdiv (2 ^ (min (24 : Int).toNat (IntKind.bits .u32))))), (IntKind.wrap .u8 (a0.fdiv (2 ^ (min (16 : Int).toNat (IntKind.bits .u32))))), (IntKind.wrap .u8 (a0.fdiv (2 ^ (min (8 : Int).toNat (IntKind.bits .u32))))), (IntKind.wrap .u8 a0)] : List Int).map Wa) (AI (z8b ([(IntKind.wrap .u8 (a0.fdiv (2 ^ (min (24 : Int).toNat (IntKind.bits .u32))))), (IntKind.wrap .u8 (a0.fdiv (2 ^ (min (16 : Int).toNat (IntKind.bits .u32))))), (IntKind.wrap .u8 (a0.fdiv (2 ^ (min (8 : Int).toNat (IntKind.bits .u32))))), (IntKind.wrap .u8 a0)] : List Int)) (AI (z3l ([(IntKind.wrap .u8 (a0.fdiv (2 ^ (min (24 : Int).toNat (IntKind.bits .u32))))), (IntKind.wrap .u8 (a0.fdiv (2 ^ (min (16 : Int).toNat (IntKind.bits .u32))))), (IntKind.wrap .u8 (a0.fdiv (2 ^ (min (8 : Int).toNat (IntKind.bits .u32))))), (IntKind.wrap .u8 a0)] : List Int)) ?_))
 refine LWp.sim (e := [(2, .str (([(IntKind.wrap .u8 (a0.fdiv (2 ^ (min (24 : Int).toNat (IntKind.bits .u32))))), (IntKind.wrap .u8 (a0.fdiv (2 ^ (min (16 : Int).toNat (IntKind.bits .u32))))), (IntKind.wrap .u8 (a0.fdiv (2 ^ (min (8 : Int).toNat (IntKind.bits .u32))))), (IntKind.wrap .u8 a0)] : List Int).map Wa))]) (L := []) (n := 0) ?_ ?_
 ·exact y6 (M := []) rfl (AI (VS rfl) TT) TT
 refine u5 ?_
 cases h
 exact AI TT (AI rfl (VS rfl))
theorem zy4 {a0 : Int} {m : Option Nat} {o : (List UInt8)} (h : w8 m a0 = some o) : PFn Tryz.prog 27 [.int .u32 a0] (.str o) := PFn.ofFnW (L := zyt) ztp zvz (NB rfl) rfl (zk0 h)
def zqx : LCode := (.seq (.region [⟨some 1, .box (.t 0), none⟩,
 ⟨some 2, .mv (.c (.int .i64 0)), none⟩])
 (.seq (.seq (.region [⟨some 3, .faddr 0 (.t 1), none⟩,
  ⟨some 4, .load false 1 (.t 3), none⟩,
  ⟨some 5, .bin .eql (.t 4) (.c (.str [])), none⟩,
  ⟨some 6, .mv (.t 5), none⟩,
  ⟨some 7, .faddr 2 (.t 1), some (6, false)⟩,
  ⟨some 8, .load false 1 (.t 7), some (6, false)⟩,
  ⟨some 9, .mv (.t 8), some (6, false)⟩,
  ⟨some 10, .faddr 1 (.t 1), some (9, true)⟩,
  ⟨some 11, .load false 1 (.t 10), some (9, true)⟩,
  ⟨some 12, .bin .neq (.t 11) (.c (.str [])), some (9, true)⟩,
  ⟨some 13, .pick (.t 9) (.t 12) (.c (.bool false)), some (6, false)⟩,
  ⟨some 14, .pick (.t 6) (.c (.bool true)) (.t 13), none⟩])
 (.cond (.t 14)
  (.seq (.region [⟨some 2, .mv (.c (.int .i64 3)), none⟩])
  .ret)
  .skip))
 (.seq (.seq (.region [⟨some 15, .faddr 0 (.t 1), none⟩,
  ⟨some 16, .load false 1 (.t 15), none⟩,
  ⟨some 17, .len true (.t 16), none⟩,
  ⟨some 18, .bin .gtr (.t 17) (.c (.int .i64 60)), none⟩,
  ⟨some 19, .mv (.t 18), none⟩,
  ⟨some 20, .faddr 1 (.t 1), some (19, false)⟩,
  ⟨some 21, .load false 1 (.t 20), some (19, false)⟩,
  ⟨some 22, .len true (.t 21), some (19, false)⟩,
  ⟨some 23, .bin .gtr (.t 22) (.c (.int .i64 3000)), some (19, false)⟩,
  ⟨some 24, .pick (.t 19) (.c (.bool true)) (.t 23), none⟩])
 (.cond (.t 24)
  (.seq (.region [⟨some 2, .mv (.c (.int .i64 2)), none⟩])
  .ret)
  .skip))
 (.seq (.region [⟨some 2, .mv (.c (.int .i64 0)), none⟩])
 .ret))))
def zn7 : Lay := ⟨25, [], false⟩
def zmg : List LRes := [.t 2]
def zy7 : LFn := ⟨1, zn7, zqx, zmg⟩
theorem zud : ww Tryz.prog [] 29 = some zy7 := by kernel_rfl
theorem zwb : Z9 Tryz.prog 29 := ⟨_, Tryz.func29, rfl, rfl⟩
noncomputable def jc (m : Option Nat) (a0 : G_QRecord) : Option Int :=
 if ((a0.f_Key == ([] : List UInt8)) || (a0.f_Deleted && (!(a0.f_Value == ([] : List UInt8))))) = true then
  some 3
 else
  if ((decide ((a0.f_Key.length : Int) > 60)) || (decide ((a0.f_Value.length : Int) > 3000))) = true then
   some 2
  else
   some 0
def y26 (a0 : G_QRecord) (o : Int) : Exit → Env → AHeap → Nat → Prop := Zy zmg (q6 (.int .i64 o))
theorem zf1 {a0 : G_QRecord} {m : Option Nat} {o : Int} (h : jc m a0 = some o) : LWp Tryz.prog zn7 0 zqx (y26 a0 o) (zz 0 [.agg [.str a0.f_Key, .str a0.f_Value, .bool a0.f_Deleted]]) [] 0 := by
 unfold jc at h
 refine zd ?_
 refine ze ?_
 refine zd ?_
 refine zd ?_
 refine ze ?_
 refine AI (fun hp => hp) ?_
 refine AI (fun hp => hp) ?_
 refine AI (fun hp => hp) ?_
 refine AI (fun hp => hp) ?_
 refine AI (fun hp => (AI hp (fun hc => (z9w hp (bqt hc))))) ?_
 refine AI (fun hc => (bqf hc)) ?_
 refine LWp.sim (e := [(1, .ptr (0, 0) 0 0), (14, .bool ((a0.f_Key == ([] : List UInt8)) || (a0.f_Deleted && (!(a0.f_Value == ([] : List UInt8))))))]) (L := [((0, 0), .one [.str a0.f_Key, .str a0.f_Value, .bool a0.f_Deleted])]) (n := 1) ?_ ?_
 ·exact y6 (M := [((0, 0), (0, 0))]) rfl (AI (Vw.ptr _ _ _ _ rfl) (AI (VS rfl) TT)) (AI (AI rfl (BVw.oneL (S2 rfl rfl (AI (VS rfl) TT)))) TT)
 refine qj (v := ((a0.f_Key == ([] : List UInt8)) || (a0.f_Deleted && (!(a0.f_Value == ([] : List UInt8)))))) rfl TT (fun h1 => ?_) (fun h1 => ?_)
 ·have h := zk h1 h
  refine zd ?_
  refine ze ?_
  refine u5 ?_
  cases h
  exact AI TT (AI rfl (VS rfl))
 ·have h := zw h1 h
  refine qv ?_
  refine zd ?_
  refine zd ?_
  refine ze ?_
  refine AI (fun hp => hp) ?_
  refine AI (fun hp => hp) ?_
  refine AI (fun hp => hp) ?_
  refine AI (fun hc => (bqf hc)) ?_
  refine LWp.sim (e := [(24, .bool ((decide ((a0.f_Key.length : Int) > 60)) || (decide ((a0.f_Value.length : Int) > 3000))))]) (L := []) (n := 0) ?_ ?_
  ·exact y6 (M := []) rfl (AI (VS rfl) TT) TT
  refine qj (v := ((decide ((a0.f_Key.length : Int) > 60)) || (decide ((a0.f_Value.length : Int) > 3000)))) rfl TT (fun h2 => ?_) (fun h2 => ?_)
  ·have h := zk h2 h
   refine zd ?_
   refine ze ?_
   refine u5 ?_
   cases h
   exact AI TT (AI rfl (VS rfl))
  ·have h := zw h2 h
   refine qv ?_
   refine zd ?_
   refine ze ?_
   refine u5 ?_
   cases h
   exact AI TT (AI rfl (VS rfl))
theorem y0l {a0 : G_QRecord} {m : Option Nat} {o : Int} (h : jc m a0 = some o) : PFn Tryz.prog 29 [.agg [.str a0.f_Key, .str a0.f_Value, .bool a0.f_Deleted]] (.int .i64 o) := PFn.ofFnW (L := zy7) zud zwb (NB rfl) rfl (zf1 h)
def zur : LCode := (.block 1
 (.seq (.region [⟨some 12, .mv (.t 0), none⟩,
  ⟨some 13, .mv (.t 6), none⟩,
  ⟨some 14, .slStr (.t 12) (some (.t 13)) none, none⟩,
  ⟨some 7, .mv (.t 14), none⟩])
 (.seq (.seq (.region [⟨some 15, .mv (.t 7), none⟩,
  ⟨some 16, .len true (.t 15), none⟩,
  ⟨some 17, .bin .lss (.t 16) (.c (.int .i64 6)), none⟩])
 (.cond (.t 17)
  (.seq (.region [⟨some 18, .mv (.t 5), none⟩,
   ⟨some 19, .mv (.t 6), none⟩,
   ⟨some 2, .mv (.t 18), none⟩,
   ⟨some 3, .mv (.t 19), none⟩,
   ⟨some 4, .mv (.c (.int .i64 0)), none⟩])
  .ret)
  .skip))
 (.seq (.quiet [⟨some 20, .mv (.t 7), none⟩,
  ⟨some 21, .idxS (.t 20) (.c (.int .i64 0)), none⟩,
  ⟨some 22, .conv (.int .i64) (.t 21), none⟩,
  ⟨some 23, .bin .mul (.t 22) (.c (.int .i64 256)), none⟩,
  ⟨some 24, .mv (.t 7), none⟩,
  ⟨some 25, .idxS (.t 24) (.c (.int .i64 1)), none⟩,
  ⟨some 26, .conv (.int .i64) (.t 25), none⟩,
  ⟨some 27, .bin .add (.t 23) (.t 26), none⟩,
  ⟨some 8, .mv (.t 27), none⟩])
 (.seq (.seq (.region [⟨some 28, .mv (.t 7), none⟩,
  ⟨some 29, .len true (.t 28), none⟩,
  ⟨some 30, .mv (.t 8), none⟩,
  ⟨some 31, .bin .add (.c (.int .i64 6)) (.t 30), none⟩,
  ⟨some 32, .bin .lss (.t 29) (.t 31), none⟩])
 (.cond (.t 32)
  (.seq (.region [⟨some 33, .mv (.t 5), none⟩,
   ⟨some 34, .mv (.t 6), none⟩,
   ⟨some 2, .mv (.t 33), none⟩,
   ⟨some 3, .mv (.t 34), none⟩,
   ⟨some 4, .mv (.c (.int .i64 0)), none⟩])
  .ret)
  .skip))
 (.seq (.region [⟨some 35, .mv (.t 7), none⟩,
  ⟨some 36, .mv (.t 8), none⟩,
  ⟨some 37, .bin .add (.c (.int .i64 6)) (.t 36), none⟩,
  ⟨some 38, .slStr (.t 35) (some (.c (.int .i64 6))) (some (.t 37)), none⟩,
  ⟨some 9, .mv (.t 38), none⟩])
 (.seq (.seq (.draw [⟨⟨some 39, .mv (.t 7), none⟩, []⟩,
  ⟨⟨some 40, .slStr (.t 39) none (some (.c (.int .i64 2))), none⟩, []⟩,
  ⟨⟨some 41, .mv (.t 9), none⟩, []⟩,
  ⟨⟨some 42, .bin .add (.t 40) (.t 41), none⟩, []⟩,
  ⟨⟨some 45, .mv (.t 7), none⟩, []⟩,
  ⟨⟨some 46, .slStr (.t 45) (some (.c (.int .i64 2))) (some (.c (.int .i64 6))), none⟩, []⟩,
  ⟨⟨some 43, .call 28 [(.t 42)], none⟩, []⟩,
  ⟨⟨some 44, .call 27 [(.t 43)], none⟩, []⟩,
  ⟨⟨some 47, .bin .neq (.t 44) (.t 46), none⟩, []⟩])
 (.cond (.t 47)
  (.seq (.region [⟨some 48, .mv (.t 5), none⟩,
   ⟨some 49, .mv (.t 6), none⟩,
   ⟨some 2, .mv (.t 48), none⟩,
   ⟨some 3, .mv (.t 49), none⟩,
   ⟨some 4, .mv (.c (.int .i64 13)), none⟩])
  .ret)
  .skip))
 (.seq (.seq (.region [⟨some 50, .mv (.t 8), none⟩,
  ⟨some 51, .bin .lss (.t 50) (.c (.int .i64 2)), none⟩,
  ⟨some 52, .mv (.t 51), none⟩,
  ⟨some 53, .mv (.t 8), some (52, false)⟩,
  ⟨some 54, .mv (.t 9), some (52, false)⟩,
  ⟨some 55, .idxS (.t 54) (.c (.int .i64 1)), some (52, false)⟩,
  ⟨some 56, .conv (.int .i64) (.t 55), some (52, false)⟩,
  ⟨some 57, .bin .add (.c (.int .i64 2)) (.t 56), some (52, false)⟩,
  ⟨some 58, .bin .lss (.t 53) (.t 57), some (52, false)⟩,
  ⟨some 59, .pick (.t 52) (.c (.bool true)) (.t 58), none⟩,
  ⟨some 60, .mv (.t 59), none⟩,
  ⟨some 61, .mv (.t 9), some (60, false)⟩,
  ⟨some 62, .idxS (.t 61) (.c (.int .i64 0)), some (60, false)⟩,
  ⟨some 63, .bin .gtr (.t 62) (.c (.int .u8 1)), some (60, false)⟩,
  ⟨some 64, .pick (.t 60) (.c (.bool true)) (.t 63), none⟩])
 (.cond (.t 64)
  (.seq (.region [⟨some 65, .mv (.t 5), none⟩,
   ⟨some 66, .mv (.t 6), none⟩,
   ⟨some 2, .mv (.t 65), none⟩,
   ⟨some 3, .mv (.t 66), none⟩,
   ⟨some 4, .mv (.c (.int .i64 3)), none⟩])
  .ret)
  .skip))
 (.seq (.region [⟨some 67, .mv (.t 9), none⟩,
  ⟨some 68, .idxS (.t 67) (.c (.int .i64 1)), none⟩,
  ⟨some 69, .conv (.int .i64) (.t 68), none⟩,
  ⟨some 70, .bin .add (.c (.int .i64 2)) (.t 69), none⟩,
  ⟨some 10, .mv (.t 70), none⟩])
 (.seq (.draw [⟨⟨some 71, .mv (.t 9), none⟩, []⟩,
  ⟨⟨some 72, .mv (.t 10), none⟩, []⟩,
  ⟨⟨some 73, .slStr (.t 71) (some (.c (.int .i64 2))) (some (.t 72)), none⟩, []⟩,
  ⟨⟨some 74, .mv (.t 9), none⟩, []⟩,
  ⟨⟨some 75, .mv (.t 10), none⟩, []⟩,
  ⟨⟨some 76, .slStr (.t 74) (some (.t 75)) none, none⟩, []⟩,
  ⟨⟨some 77, .mv (.t 9), none⟩, []⟩,
  ⟨⟨some 78, .idxS (.t 77) (.c (.int .i64 0)), none⟩, []⟩,
  ⟨⟨some 79, .bin .eql (.t 78) (.c (.int .u8 1)), none⟩, []⟩,
  ⟨⟨some 80, .build [(.str []), (.str []), (.bool false)] [(0, 1, (.t 73)), (1, 1, (.t 76)), (2, 1, (.t 79))], none⟩, []⟩,
  ⟨⟨some 11, .alloc [(.str []), (.str []), (.bool false)], none⟩, []⟩,
  ⟨⟨none, .store 3 (.t 11) (.t 80), none⟩, []⟩])
 (.seq (.seq (.region [⟨some 81, .load true 3 (.t 11), none⟩,
  ⟨some 82, .call 29 [(.t 81)], none⟩,
  ⟨some 83, .bin .neq (.t 82) (.c (.int .i64 0)), none⟩])
 (.cond (.t 83)
  (.seq (.region [⟨some 84, .mv (.t 5), none⟩,
   ⟨some 85, .mv (.t 6), none⟩,
   ⟨some 2, .mv (.t 84), none⟩,
   ⟨some 3, .mv (.t 85), none⟩,
   ⟨some 4, .mv (.c (.int .i64 3)), none⟩])
  .ret)
  .skip))
 (.seq (.region [⟨some 86, .mv (.t 5), none⟩,
  ⟨some 87, .load true 3 (.t 11), none⟩,
  ⟨some 88, .mkSl true 3 [(.str []), (.str []), (.bool false)] 1 [(0, (.t 87))], none⟩,
  ⟨some 89, .app true 3 40 (.t 86) (.t 88), none⟩,
  ⟨some 5, .mv (.t 89), none⟩])
 (.region [⟨some 90, .mv (.t 6), none⟩,
  ⟨some 91, .mv (.t 8), none⟩,
  ⟨some 92, .bin .add (.c (.int .i64 6)) (.t 91), none⟩,
  ⟨some 93, .bin .add (.t 90) (.t 92), none⟩,
  ⟨some 6, .mv (.t 93), none⟩])))))))))))))
def y16 : LCode := (.seq (.region [⟨some 2, .mv (.c (.val (.slice none 0 0))), none⟩,
 ⟨some 3, .mv (.c (.int .i64 0)), none⟩,
 ⟨some 4, .mv (.c (.int .i64 0)), none⟩])
 (.seq (.region [⟨some 5, .mv (.c (.val (.slice none 0 0))), none⟩])
 (.seq (.region [⟨some 6, .mv (.c (.int .i64 0)), none⟩])
 (.block 0
  (.loop
   zur)))))
def zc3 : Lay := ⟨94, [], false⟩
def zs6 : List LRes := [.t 2, .t 3, .t 4]
def y2w : LFn := ⟨1, zc3, y16, zs6⟩
theorem y0q : ww Tryz.prog [] 7 = some y2w := by kernel_rfl
theorem zzx : Z9 Tryz.prog 7 := ⟨_, Tryz.func7, rfl, rfl⟩
def y1o (a0 : List UInt8) (o : (List G_QRecord) × Int × Int) : Exit → Env → AHeap → Nat → Prop := Zy zs6 (q6 (.tup [.isl 3 (o.1.map za) false, .int .i64 o.2.1, .int .i64 o.2.2]))
def z67 (a0 : List UInt8) (s : ((List G_QRecord) × Int)) : Env := [(0, .str a0), (5, .osl (0, 0) 3 (s.1.map za)), (6, .int .i64 s.2)]
def zbw (a0 : List UInt8) (s : ((List G_QRecord) × Int)) : AHeap := [((0, 0), .tok)]
def zmb (a0 : List UInt8) (o : ((List G_QRecord) × Int × Int)) : Exit → Env → AHeap → Nat → Prop := (zm 0 (y1o a0 o))
noncomputable def qi (m : Option Nat) (a0 : List UInt8) (v4 : List G_QRecord) (v5 : Int) : Option (((List G_QRecord) × Int) ⊕ ((List G_QRecord) × Int × Int)) :=
 if (0 : Int) ≤ v5 ∧ v5 ≤ (a0.length : Int) then
 if (decide ((((a0.take a0.length).drop v5.toNat).length : Int) < 6)) = true then
  Option.map Sum.inr (
   some (v4, v5, 0))
 else
  if (0 : Int) ≤ 0 ∧ 0 < (((a0.take a0.length).drop v5.toNat).length : Int) then
  if (0 : Int) ≤ 1 ∧ 1 < (((a0.take a0.length).drop v5.toNat).length : Int) then
  if (decide ((((a0.take a0.length).drop v5.toNat).length : Int) < (W ((6 : Int) + (W ((W ((W (((((a0.take a0.length).drop v5.toNat).getD (0 : Int).toNat 0).toNat : Nat) : Int)) * 256)) + (W (((((a0.take a0.length).drop v5.toNat).getD (1 : Int).toNat 0).toNat : Nat) : Int)))))))) = true then
   Option.map Sum.inr (
    some (v4, v5, 0))
  else
   if (0 : Int) ≤ 6 ∧ (6 : Int) ≤ (W ((6 : Int) + (W ((W ((W (((((a0.take a0.length).drop v5.toNat).getD (0 : Int).toNat 0).toNat : Nat) : Int)) * 256)) + (W (((((a0.take a0.length).drop v5.toNat).getD (1 : Int).toNat 0).toNat : Nat) : Int)))))) ∧ (W ((6 : Int) + (W ((W ((W (((((a0.take a0.length).drop v5.toNat).getD (0 : Int).toNat 0).toNat : Nat) : Int)) * 256)) + (W (((((a0.take a0.length).drop v5.toNat).getD (1 : Int).toNat 0).toNat : Nat) : Int)))))) ≤ (((a0.take a0.length).drop v5.toNat).length : Int) then
   if (0 : Int) ≤ 2 ∧ 2 ≤ (((a0.take a0.length).drop v5.toNat).length : Int) then
   if (((((((a0.take a0.length).drop v5.toNat).take (2 : Int).toNat).drop 0).length + ((((a0.take a0.length).drop v5.toNat).take (W ((6 : Int) + (W ((W ((W (((((a0.take a0.length).drop v5.toNat).getD (0 : Int).toNat 0).toNat : Nat) : Int)) * 256)) + (W (((((a0.take a0.length).drop v5.toNat).getD (1 : Int).toNat 0).toNat : Nat) : Int)))))).toNat).drop (6 : Int).toNat).length : Nat) : Int) ≤ 9223372036854775807) then
   if (0 : Int) ≤ 2 ∧ (2 : Int) ≤ 6 ∧ (6 : Int) ≤ (((a0.take a0.length).drop v5.toNat).length : Int) then
   (qb m (((((a0.take a0.length).drop v5.toNat).take (2 : Int).toNat).drop 0) ++ ((((a0.take a0.length).drop v5.toNat).take (W ((6 : Int) + (W ((W ((W (((((a0.take a0.length).drop v5.toNat).getD (0 : Int).toNat 0).toNat : Nat) : Int)) * 256)) + (W (((((a0.take a0.length).drop v5.toNat).getD (1 : Int).toNat 0).toNat : Nat) : Int)))))).toNat).drop (6 : Int).toNat))).bind fun v9 =>
   (w8 m v9).bind fun v10 =>
   if (!(v10 == ((((a0.take a0.length).drop v5.toNat).take (6 : Int).toNat).drop (2 : Int).toNat))) = true then
    Option.map Sum.inr (
     some (v4, v5, 13))
   else
    if (((decide ((W ((W ((W (((((a0.take a0.length).drop v5.toNat).getD (0 : Int).toNat 0).toNat : Nat) : Int)) * 256)) + (W (((((a0.take a0.length).drop v5.toNat).getD (1 : Int).toNat 0).toNat : Nat) : Int)))) < 2)) == false) = true → (0 : Int) ≤ 1 ∧ 1 < (((((a0.take a0.length).drop v5.toNat).take (W ((6 : Int) + (W ((W ((W (((((a0.take a0.length).drop v5.toNat).getD (0 : Int).toNat 0).toNat : Nat) : Int)) * 256)) + (W (((((a0.take a0.length).drop v5.toNat).getD (1 : Int).toNat 0).toNat : Nat) : Int)))))).toNat).drop (6 : Int).toNat).length : Int)) then
    if ((((decide ((W ((W ((W (((((a0.take a0.length).drop v5.toNat).getD (0 : Int).toNat 0).toNat : Nat) : Int)) * 256)) + (W (((((a0.take a0.length).drop v5.toNat).getD (1 : Int).toNat 0).toNat : Nat) : Int)))) < 2)) || (decide ((W ((W ((W (((((a0.take a0.length).drop v5.toNat).getD (0 : Int).toNat 0).toNat : Nat) : Int)) * 256)) + (W (((((a0.take a0.length).drop v5.toNat).getD (1 : Int).toNat 0).toNat : Nat) : Int)))) < (W ((2 : Int) + (W (((((((a0.take a0.length).drop v5.toNat).take (W ((6 : Int) + (W ((W ((W (((((a0.take a0.length).drop v5.toNat).getD (0 : Int).toNat 0).toNat : Nat) : Int)) * 256)) + (W (((((a0.take a0.length).drop v5.toNat).getD (1 : Int).toNat 0).toNat : Nat) : Int)))))).toNat).drop (6 : Int).toNat).getD (1 : Int).toNat 0).toNat : Nat) : Int))))))) == false) = true → (0 : Int) ≤ 0 ∧ 0 < (((((a0.take a0.length).drop v5.toNat).take (W ((6 : Int) + (W ((W ((W (((((a0.take a0.length).drop v5.toNat).getD (0 : Int).toNat 0).toNat : Nat) : Int)) * 256)) + (W (((((a0.take a0.length).drop v5.toNat).getD (1 : Int).toNat 0).toNat : Nat) : Int)))))).toNat).drop (6 : Int).toNat).length : Int)) then
    if (((decide ((W ((W ((W (((((a0.take a0.length).drop v5.toNat).getD (0 : Int).toNat 0).toNat : Nat) : Int)) * 256)) + (W (((((a0.take a0.length).drop v5.toNat).getD (1 : Int).toNat 0).toNat : Nat) : Int)))) < 2)) || (decide ((W ((W ((W (((((a0.take a0.length).drop v5.toNat).getD (0 : Int).toNat 0).toNat : Nat) : Int)) * 256)) + (W (((((a0.take a0.length).drop v5.toNat).getD (1 : Int).toNat 0).toNat : Nat) : Int)))) < (W ((2 : Int) + (W (((((((a0.take a0.length).drop v5.toNat).take (W ((6 : Int) + (W ((W ((W (((((a0.take a0.length).drop v5.toNat).getD (0 : Int).toNat 0).toNat : Nat) : Int)) * 256)) + (W (((((a0.take a0.length).drop v5.toNat).getD (1 : Int).toNat 0).toNat : Nat) : Int)))))).toNat).drop (6 : Int).toNat).getD (1 : Int).toNat 0).toNat : Nat) : Int))))))) || (decide ((((((((a0.take a0.length).drop v5.toNat).take (W ((6 : Int) + (W ((W ((W (((((a0.take a0.length).drop v5.toNat).getD (0 : Int).toNat 0).toNat : Nat) : Int)) * 256)) + (W (((((a0.take a0.length).drop v5.toNat).getD (1 : Int).toNat 0).toNat : Nat) : Int)))))).toNat).drop (6 : Int).toNat).getD (0 : Int).toNat 0).toNat : Nat) : Int) > 1))) = true then
     Option.map Sum.inr (
      some (v4, v5, 3))
    else
     if (0 : Int) ≤ 1 ∧ 1 < (((((a0.take a0.length).drop v5.toNat).take (W ((6 : Int) + (W ((W ((W (((((a0.take a0.length).drop v5.toNat).getD (0 : Int).toNat 0).toNat : Nat) : Int)) * 256)) + (W (((((a0.take a0.length).drop v5.toNat).getD (1 : Int).toNat 0).toNat : Nat) : Int)))))).toNat).drop (6 : Int).toNat).length : Int) then
     if (0 : Int) ≤ 2 ∧ (2 : Int) ≤ (W ((2 : Int) + (W (((((((a0.take a0.length).drop v5.toNat).take (W ((6 : Int) + (W ((W ((W (((((a0.take a0.length).drop v5.toNat).getD (0 : Int).toNat 0).toNat : Nat) : Int)) * 256)) + (W (((((a0.take a0.length).drop v5.toNat).getD (1 : Int).toNat 0).toNat : Nat) : Int)))))).toNat).drop (6 : Int).toNat).getD (1 : Int).toNat 0).toNat : Nat) : Int)))) ∧ (W ((2 : Int) + (W (((((((a0.take a0.length).drop v5.toNat).take (W ((6 : Int) + (W ((W ((W (((((a0.take a0.length).drop v5.toNat).getD (0 : Int).toNat 0).toNat : Nat) : Int)) * 256)) + (W (((((a0.take a0.length).drop v5.toNat).getD (1 : Int).toNat 0).toNat : Nat) : Int)))))).toNat).drop (6 : Int).toNat).getD (1 : Int).toNat 0).toNat : Nat) : Int)))) ≤ (((((a0.take a0.length).drop v5.toNat).take (W ((6 : Int) + (W ((W ((W (((((a0.take a0.length).drop v5.toNat).getD (0 : Int).toNat 0).toNat : Nat) : Int)) * 256)) + (W (((((a0.take a0.length).drop v5.toNat).getD (1 : Int).toNat 0).toNat : Nat) : Int)))))).toNat).drop (6 : Int).toNat).length : Int) then
     if (0 : Int) ≤ (W ((2 : Int) + (W (((((((a0.take a0.length).drop v5.toNat).take (W ((6 : Int) + (W ((W ((W (((((a0.take a0.length).drop v5.toNat).getD (0 : Int).toNat 0).toNat : Nat) : Int)) * 256)) + (W (((((a0.take a0.length).drop v5.toNat).getD (1 : Int).toNat 0).toNat : Nat) : Int)))))).toNat).drop (6 : Int).toNat).getD (1 : Int).toNat 0).toNat : Nat) : Int)))) ∧ (W ((2 : Int) + (W (((((((a0.take a0.length).drop v5.toNat).take (W ((6 : Int) + (W ((W ((W (((((a0.take a0.length).drop v5.toNat).getD (0 : Int).toNat 0).toNat : Nat) : Int)) * 256)) + (W (((((a0.take a0.length).drop v5.toNat).getD (1 : Int).toNat 0).toNat : Nat) : Int)))))).toNat).drop (6 : Int).toNat).getD (1 : Int).toNat 0).toNat : Nat) : Int)))) ≤ (((((a0.take a0.length).drop v5.toNat).take (W ((6 : Int) + (W ((W ((W (((((a0.take a0.length).drop v5.toNat).getD (0 : Int).toNat 0).toNat : Nat) : Int)) * 256)) + (W (((((a0.take a0.length).drop v5.toNat).getD (1 : Int).toNat 0).toNat : Nat) : Int)))))).toNat).drop (6 : Int).toNat).length : Int) then
     if (0 : Int) ≤ 0 ∧ 0 < (((((a0.take a0.length).drop v5.toNat).take (W ((6 : Int) + (W ((W ((W (((((a0.take a0.length).drop v5.toNat).getD (0 : Int).toNat 0).toNat : Nat) : Int)) * 256)) + (W (((((a0.take a0.length).drop v5.toNat).getD (1 : Int).toNat 0).toNat : Nat) : Int)))))).toNat).drop (6 : Int).toNat).length : Int) then
     (jc m (G_QRecord.mk ((((((a0.take a0.length).drop v5.toNat).take (W ((6 : Int) + (W ((W ((W (((((a0.take a0.length).drop v5.toNat).getD (0 : Int).toNat 0).toNat : Nat) : Int)) * 256)) + (W (((((a0.take a0.length).drop v5.toNat).getD (1 : Int).toNat 0).toNat : Nat) : Int)))))).toNat).drop (6 : Int).toNat).take (W ((2 : Int) + (W (((((((a0.take a0.length).drop v5.toNat).take (W ((6 : Int) + (W ((W ((W (((((a0.take a0.length).drop v5.toNat).getD (0 : Int).toNat 0).toNat : Nat) : Int)) * 256)) + (W (((((a0.take a0.length).drop v5.toNat).getD (1 : Int).toNat 0).toNat : Nat) : Int)))))).toNat).drop (6 : Int).toNat).getD (1 : Int).toNat 0).toNat : Nat) : Int)))).toNat).drop (2 : Int).toNat) ((((((a0.take a0.length).drop v5.toNat).take (W ((6 : Int) + (W ((W ((W (((((a0.take a0.length).drop v5.toNat).getD (0 : Int).toNat 0).toNat : Nat) : Int)) * 256)) + (W (((((a0.take a0.length).drop v5.toNat).getD (1 : Int).toNat 0).toNat : Nat) : Int)))))).toNat).drop (6 : Int).toNat).take ((((a0.take a0.length).drop v5.toNat).take (W ((6 : Int) + (W ((W ((W (((((a0.take a0.length).drop v5.toNat).getD (0 : Int).toNat 0).toNat : Nat) : Int)) * 256)) + (W (((((a0.take a0.length).drop v5.toNat).getD (1 : Int).toNat 0).toNat : Nat) : Int)))))).toNat).drop (6 : Int).toNat).length).drop (W ((2 : Int) + (W (((((((a0.take a0.length).drop v5.toNat).take (W ((6 : Int) + (W ((W ((W (((((a0.take a0.length).drop v5.toNat).getD (0 : Int).toNat 0).toNat : Nat) : Int)) * 256)) + (W (((((a0.take a0.length).drop v5.toNat).getD (1 : Int).toNat 0).toNat : Nat) : Int)))))).toNat).drop (6 : Int).toNat).getD (1 : Int).toNat 0).toNat : Nat) : Int)))).toNat) ((((((((a0.take a0.length).drop v5.toNat).take (W ((6 : Int) + (W ((W ((W (((((a0.take a0.length).drop v5.toNat).getD (0 : Int).toNat 0).toNat : Nat) : Int)) * 256)) + (W (((((a0.take a0.length).drop v5.toNat).getD (1 : Int).toNat 0).toNat : Nat) : Int)))))).toNat).drop (6 : Int).toNat).getD (0 : Int).toNat 0).toNat : Nat) : Int) == 1))).bind fun v11 =>
     if (v11 != 0) = true then
      Option.map Sum.inr (
       some (v4, v5, 3))
     else
      if ((v4 ++ ([(G_QRecord.mk ((((((a0.take a0.length).drop v5.toNat).take (W ((6 : Int) + (W ((W ((W (((((a0.take a0.length).drop v5.toNat).getD (0 : Int).toNat 0).toNat : Nat) : Int)) * 256)) + (W (((((a0.take a0.length).drop v5.toNat).getD (1 : Int).toNat 0).toNat : Nat) : Int)))))).toNat).drop (6 : Int).toNat).take (W ((2 : Int) + (W (((((((a0.take a0.length).drop v5.toNat).take (W ((6 : Int) + (W ((W ((W (((((a0.take a0.length).drop v5.toNat).getD (0 : Int).toNat 0).toNat : Nat) : Int)) * 256)) + (W (((((a0.take a0.length).drop v5.toNat).getD (1 : Int).toNat 0).toNat : Nat) : Int)))))).toNat).drop (6 : Int).toNat).getD (1 : Int).toNat 0).toNat : Nat) : Int)))).toNat).drop (2 : Int).toNat) ((((((a0.take a0.length).drop v5.toNat).take (W ((6 : Int) + (W ((W ((W (((((a0.take a0.length).drop v5.toNat).getD (0 : Int).toNat 0).toNat : Nat) : Int)) * 256)) + (W (((((a0.take a0.length).drop v5.toNat).getD (1 : Int).toNat 0).toNat : Nat) : Int)))))).toNat).drop (6 : Int).toNat).take ((((a0.take a0.length).drop v5.toNat).take (W ((6 : Int) + (W ((W ((W (((((a0.take a0.length).drop v5.toNat).getD (0 : Int).toNat 0).toNat : Nat) : Int)) * 256)) + (W (((((a0.take a0.length).drop v5.toNat).getD (1 : Int).toNat 0).toNat : Nat) : Int)))))).toNat).drop (6 : Int).toNat).length).drop (W ((2 : Int) + (W (((((((a0.take a0.length).drop v5.toNat).take (W ((6 : Int) + (W ((W ((W (((((a0.take a0.length).drop v5.toNat).getD (0 : Int).toNat 0).toNat : Nat) : Int)) * 256)) + (W (((((a0.take a0.length).drop v5.toNat).getD (1 : Int).toNat 0).toNat : Nat) : Int)))))).toNat).drop (6 : Int).toNat).getD (1 : Int).toNat 0).toNat : Nat) : Int)))).toNat) ((((((((a0.take a0.length).drop v5.toNat).take (W ((6 : Int) + (W ((W ((W (((((a0.take a0.length).drop v5.toNat).getD (0 : Int).toNat 0).toNat : Nat) : Int)) * 256)) + (W (((((a0.take a0.length).drop v5.toNat).getD (1 : Int).toNat 0).toNat : Nat) : Int)))))).toNat).drop (6 : Int).toNat).getD (0 : Int).toNat 0).toNat : Nat) : Int) == 1))] : List G_QRecord)).map za).length * 40 ≤ 140737488355328 then
      some (.inl ((v4 ++ ([(G_QRecord.mk ((((((a0.take a0.length).drop v5.toNat).take (W ((6 : Int) + (W ((W ((W (((((a0.take a0.length).drop v5.toNat).getD (0 : Int).toNat 0).toNat : Nat) : Int)) * 256)) + (W (((((a0.take a0.length).drop v5.toNat).getD (1 : Int).toNat 0).toNat : Nat) : Int)))))).toNat).drop (6 : Int).toNat).take (W ((2 : Int) + (W (((((((a0.take a0.length).drop v5.toNat).take (W ((6 : Int) + (W ((W ((W (((((a0.take a0.length).drop v5.toNat).getD (0 : Int).toNat 0).toNat : Nat) : Int)) * 256)) + (W (((((a0.take a0.length).drop v5.toNat).getD (1 : Int).toNat 0).toNat : Nat) : Int)))))).toNat).drop (6 : Int).toNat).getD (1 : Int).toNat 0).toNat : Nat) : Int)))).toNat).drop (2 : Int).toNat) ((((((a0.take a0.length).drop v5.toNat).take (W ((6 : Int) + (W ((W ((W (((((a0.take a0.length).drop v5.toNat).getD (0 : Int).toNat 0).toNat : Nat) : Int)) * 256)) + (W (((((a0.take a0.length).drop v5.toNat).getD (1 : Int).toNat 0).toNat : Nat) : Int)))))).toNat).drop (6 : Int).toNat).take ((((a0.take a0.length).drop v5.toNat).take (W ((6 : Int) + (W ((W ((W (((((a0.take a0.length).drop v5.toNat).getD (0 : Int).toNat 0).toNat : Nat) : Int)) * 256)) + (W (((((a0.take a0.length).drop v5.toNat).getD (1 : Int).toNat 0).toNat : Nat) : Int)))))).toNat).drop (6 : Int).toNat).length).drop (W ((2 : Int) + (W (((((((a0.take a0.length).drop v5.toNat).take (W ((6 : Int) + (W ((W ((W (((((a0.take a0.length).drop v5.toNat).getD (0 : Int).toNat 0).toNat : Nat) : Int)) * 256)) + (W (((((a0.take a0.length).drop v5.toNat).getD (1 : Int).toNat 0).toNat : Nat) : Int)))))).toNat).drop (6 : Int).toNat).getD (1 : Int).toNat 0).toNat : Nat) : Int)))).toNat) ((((((((a0.take a0.length).drop v5.toNat).take (W ((6 : Int) + (W ((W ((W (((((a0.take a0.length).drop v5.toNat).getD (0 : Int).toNat 0).toNat : Nat) : Int)) * 256)) + (W (((((a0.take a0.length).drop v5.toNat).getD (1 : Int).toNat 0).toNat : Nat) : Int)))))).toNat).drop (6 : Int).toNat).getD (0 : Int).toNat 0).toNat : Nat) : Int) == 1))] : List G_QRecord)), (W (v5 + (W ((6 : Int) + (W ((W ((W (((((a0.take a0.length).drop v5.toNat).getD (0 : Int).toNat 0).toNat : Nat) : Int)) * 256)) + (W (((((a0.take a0.length).drop v5.toNat).getD (1 : Int).toNat 0).toNat : Nat) : Int))))))))))
      else none
     else none
     else none
     else none
     else none
    else none
    else none
   else none
   else none
   else none
   else none
  else none
  else none
 else none
noncomputable def xi (m : Option Nat) (a0 : List UInt8) (v4 : List G_QRecord) (v5 : Int) : Option ((List G_QRecord) × Int × Int) := u4 m (fun (s : ((List G_QRecord) × Int)) => qi m a0 s.1 s.2) (v4, v5)
set_option maxHeartbeats 4000000 in
theorem zkw {a0 : List UInt8} {v4 : List G_QRecord} {v5 : Int} {m : Option Nat} {o : ((List G_QRecord) × Int) ⊕ ((List G_QRecord) × Int × Int)} (h : qi m a0 v4 v5 = some o) :
 LWp Tryz.prog zc3 0 zur (xt 0 1 (z67 a0) (zbw a0) (zmb a0) o) [(0, .str a0), (5, .osl (0, 0) 3 (v4.map za)), (6, .int .i64 v5)] [((0, 0), .tok)] 1 := by
 unfold qi at h
 refine yf ?_
 refine zd ?_
 refine ze ?_
 obtain ⟨h44, h⟩ := zc h
 refine AI (AI (And.left h44) (AI (And.right h44) (Int.le_refl _))) ?_
 refine zd ?_
 refine zd ?_
 refine ze ?_
 refine qj (v := (decide ((((a0.take a0.length).drop v5.toNat).length : Int) < 6))) rfl TT (fun h45 => ?_) (fun h45 => ?_)
 ·have h := zk h45 h
  refine zd ?_
  refine ze ?_
  refine LWp.sim (e := [(2, .osl (0, 0) 3 (v4.map za)), (3, .int .i64 v5), (4, .int .i64 0)]) (L := [((0, 0), .tok)]) (n := 1) ?_ ?_
  ·exact y6 (M := [((0, 0), (0, 0))]) rfl (AI (Vw.osl _ _ _ _ rfl) (S2 rfl rfl TT)) (AI (AI rfl BVw.tok) TT)
  refine u5 ?_
  obtain ⟨o, hq, rfl⟩ := Option.map_eq_some_iff.1 h
  replace h := hq; clear hq
  refine AI nofun ?_
  cases h
  exact AI TT (AI TT (AI TT (AI rfl (Vw.tupL (AI (Vw.oslI _ _ _) (S2 rfl rfl TT))))))
 ·have h := zw h45 h
  refine qv ?_
  refine zd ?_
  refine zry ?_
  obtain ⟨h46, h⟩ := zc h
  refine AI h46 ?_
  obtain ⟨h47, h⟩ := zc h
  refine AI h47 ?_
  refine LWp.sim (e := [(0, .str a0), (5, .osl (0, 0) 3 (v4.map za)), (6, .int .i64 v5), (7, .str ((a0.take a0.length).drop v5.toNat)), (8, .int .i64 (W ((W ((W (((((a0.take a0.length).drop v5.toNat).getD (0 : Int).toNat 0).toNat : Nat) : Int)) * 256)) + (W (((((a0.take a0.length).drop v5.toNat).getD (1 : Int).toNat 0).toNat : Nat) : Int)))))]) (L := [((0, 0), .tok)]) (n := 1) ?_ ?_
  ·exact y6 (M := [((0, 0), (0, 0))]) rfl (AI (VS rfl) (AI (Vw.osl _ _ _ _ rfl) (S2 rfl rfl (AI (VS rfl) TT)))) (AI (AI rfl BVw.tok) TT)
  refine zd ?_
  refine zd ?_
  refine ze ?_
  refine qj (v := (decide ((((a0.take a0.length).drop v5.toNat).length : Int) < (W ((6 : Int) + (W ((W ((W (((((a0.take a0.length).drop v5.toNat).getD (0 : Int).toNat 0).toNat : Nat) : Int)) * 256)) + (W (((((a0.take a0.length).drop v5.toNat).getD (1 : Int).toNat 0).toNat : Nat) : Int))))))))) rfl TT (fun h48 => ?_) (fun h48 => ?_)
  ·have h := zk h48 h
   refine zd ?_
   refine ze ?_
   refine LWp.sim (e := [(2, .osl (0, 0) 3 (v4.map za)), (3, .int .i64 v5), (4, .int .i64 0)]) (L := [((0, 0), .tok)]) (n := 1) ?_ ?_
   ·exact y6 (M := [((0, 0), (0, 0))]) rfl (AI (Vw.osl _ _ _ _ rfl) (S2 rfl rfl TT)) (AI (AI rfl BVw.tok) TT)
   refine u5 ?_
   obtain ⟨o, hq, rfl⟩ := Option.map_eq_some_iff.1 h
   replace h := hq; clear hq
   refine AI nofun ?_
   cases h
   exact AI TT (AI TT (AI TT (AI rfl (Vw.tupL (AI (Vw.oslI _ _ _) (S2 rfl rfl TT))))))
  ·have h := zw h48 h
   refine qv ?_
   refine zd ?_
   refine ze ?_
   obtain ⟨h49, h⟩ := zc h
   refine AI h49 ?_
   refine LWp.sim (e := [(0, .str a0), (5, .osl (0, 0) 3 (v4.map za)), (6, .int .i64 v5), (7, .str ((a0.take a0.length).drop v5.toNat)), (8, .int .i64 (W ((W ((W (((((a0.take a0.length).drop v5.toNat).getD (0 : Int).toNat 0).toNat : Nat) : Int)) * 256)) + (W (((((a0.take a0.length).drop v5.toNat).getD (1 : Int).toNat 0).toNat : Nat) : Int))))), (9, .str ((((a0.take a0.length).drop v5.toNat).take (W ((6 : Int) + (W ((W ((W (((((a0.take a0.length).drop v5.toNat).getD (0 : Int).toNat 0).toNat : Nat) : Int)) * 256)) + (W (((((a0.take a0.length).drop v5.toNat).getD (1 : Int).toNat 0).toNat : Nat) : Int)))))).toNat).drop (6 : Int).toNat))]) (L := [((0, 0), .tok)]) (n := 1) ?_ ?_
   ·exact y6 (M := [((0, 0), (0, 0))]) rfl (AI (VS rfl) (AI (Vw.osl _ _ _ _ rfl) (S4 rfl rfl rfl rfl TT))) (AI (AI rfl BVw.tok) TT)
   refine zd ?_
   refine zd ?_
   refine z4i rfl ?_
   obtain ⟨h50, h⟩ := zc h
   refine AI (AI (Int.le_refl _) h50) ?_
   obtain ⟨h51, h⟩ := zc h
   refine AI h51 ?_
   obtain ⟨h52, h⟩ := zc h
   refine AI h52 ?_
   obtain ⟨v9, h53, h⟩ := bind_some h
   refine PFn.call (zfu h53) (AI (VS rfl) TT) ?_
   obtain ⟨v10, h54, h⟩ := bind_some h
   refine PFn.call (zy4 h54) (AI (VS rfl) TT) ?_
   refine LWp.sim (e := [(0, .str a0), (5, .osl (0, 0) 3 (v4.map za)), (6, .int .i64 v5), (8, .int .i64 (W ((W ((W (((((a0.take a0.length).drop v5.toNat).getD (0 : Int).toNat 0).toNat : Nat) : Int)) * 256)) + (W (((((a0.take a0.length).drop v5.toNat).getD (1 : Int).toNat 0).toNat : Nat) : Int))))), (9, .str ((((a0.take a0.length).drop v5.toNat).take (W ((6 : Int) + (W ((W ((W (((((a0.take a0.length).drop v5.toNat).getD (0 : Int).toNat 0).toNat : Nat) : Int)) * 256)) + (W (((((a0.take a0.length).drop v5.toNat).getD (1 : Int).toNat 0).toNat : Nat) : Int)))))).toNat).drop (6 : Int).toNat)), (47, .bool (!(v10 == ((((a0.take a0.length).drop v5.toNat).take (6 : Int).toNat).drop (2 : Int).toNat))))]) (L := [((0, 0), .tok)]) (n := 1) ?_ ?_
   ·exact y6 (M := [((0, 0), (0, 0))]) rfl (AI (VS rfl) (AI (Vw.osl _ _ _ _ rfl) (S4 rfl rfl rfl rfl TT))) (AI (AI rfl BVw.tok) TT)
   refine qj (v := (!(v10 == ((((a0.take a0.length).drop v5.toNat).take (6 : Int).toNat).drop (2 : Int).toNat)))) rfl TT (fun h55 => ?_) (fun h55 => ?_)
   ·have h := zk h55 h
    refine zd ?_
    refine ze ?_
    refine u5 ?_
    obtain ⟨o, hq, rfl⟩ := Option.map_eq_some_iff.1 h
    replace h := hq; clear hq
    refine AI nofun ?_
    cases h
    exact AI TT (AI TT (AI TT (AI rfl (Vw.tupL (AI (Vw.oslI _ _ _) (S2 rfl rfl TT))))))
   ·have h := zw h55 h
    refine qv ?_
    refine zd ?_
    refine zd ?_
    refine ze ?_
    obtain ⟨h56, h⟩ := zc h
    refine AI (fun hp => (AI hp (h56 hp))) ?_
    refine AI (fun hp => hp) ?_
    refine AI (fun hp => hp) ?_
    refine AI (fun hp => (AI hp hp)) ?_
    refine AI (fun hc => (bqf hc)) ?_
    obtain ⟨h57, h⟩ := zc h
    refine AI (fun hp => (AI hp (h57 hp))) ?_
    refine AI (fun hp => hp) ?_
    refine AI (fun hc => (bqf hc)) ?_
    refine LWp.sim (e := [(0, .str a0), (5, .osl (0, 0) 3 (v4.map za)), (6, .int .i64 v5), (8, .int .i64 (W ((W ((W (((((a0.take a0.length).drop v5.toNat).getD (0 : Int).toNat 0).toNat : Nat) : Int)) * 256)) + (W (((((a0.take a0.length).drop v5.toNat).getD (1 : Int).toNat 0).toNat : Nat) : Int))))), (9, .str ((((a0.take a0.length).drop v5.toNat).take (W ((6 : Int) + (W ((W ((W (((((a0.take a0.length).drop v5.toNat).getD (0 : Int).toNat 0).toNat : Nat) : Int)) * 256)) + (W (((((a0.take a0.length).drop v5.toNat).getD (1 : Int).toNat 0).toNat : Nat) : Int)))))).toNat).drop (6 : Int).toNat)), (64, .bool (((decide ((W ((W ((W (((((a0.take a0.length).drop v5.toNat).getD (0 : Int).toNat 0).toNat : Nat) : Int)) * 256)) + (W (((((a0.take a0.length).drop v5.toNat).getD (1 : Int).toNat 0).toNat : Nat) : Int)))) < 2)) || (decide ((W ((W ((W (((((a0.take a0.length).drop v5.toNat).getD (0 : Int).toNat 0).toNat : Nat) : Int)) * 256)) + (W (((((a0.take a0.length).drop v5.toNat).getD (1 : Int).toNat 0).toNat : Nat) : Int)))) < (W ((2 : Int) + (W (((((((a0.take a0.length).drop v5.toNat).take (W ((6 : Int) + (W ((W ((W (((((a0.take a0.length).drop v5.toNat).getD (0 : Int).toNat 0).toNat : Nat) : Int)) * 256)) + (W (((((a0.take a0.length).drop v5.toNat).getD (1 : Int).toNat 0).toNat : Nat) : Int)))))).toNat).drop (6 : Int).toNat).getD (1 : Int).toNat 0).toNat : Nat) : Int))))))) || (decide ((((((((a0.take a0.length).drop v5.toNat).take (W ((6 : Int) + (W ((W ((W (((((a0.take a0.length).drop v5.toNat).getD (0 : Int).toNat 0).toNat : Nat) : Int)) * 256)) + (W (((((a0.take a0.length).drop v5.toNat).getD (1 : Int).toNat 0).toNat : Nat) : Int)))))).toNat).drop (6 : Int).toNat).getD (0 : Int).toNat 0).toNat : Nat) : Int) > 1))))]) (L := [((0, 0), .tok)]) (n := 1) ?_ ?_
    ·exact y6 (M := [((0, 0), (0, 0))]) rfl (AI (VS rfl) (AI (Vw.osl _ _ _ _ rfl) (S4 rfl rfl rfl rfl TT))) (AI (AI rfl BVw.tok) TT)
    refine qj (v := (((decide ((W ((W ((W (((((a0.take a0.length).drop v5.toNat).getD (0 : Int).toNat 0).toNat : Nat) : Int)) * 256)) + (W (((((a0.take a0.length).drop v5.toNat).getD (1 : Int).toNat 0).toNat : Nat) : Int)))) < 2)) || (decide ((W ((W ((W (((((a0.take a0.length).drop v5.toNat).getD (0 : Int).toNat 0).toNat : Nat) : Int)) * 256)) + (W (((((a0.take a0.length).drop v5.toNat).getD (1 : Int).toNat 0).toNat : Nat) : Int)))) < (W ((2 : Int) + (W (((((((a0.take a0.length).drop v5.toNat).take (W ((6 : Int) + (W ((W ((W (((((a0.take a0.length).drop v5.toNat).getD (0 : Int).toNat 0).toNat : Nat) : Int)) * 256)) + (W (((((a0.take a0.length).drop v5.toNat).getD (1 : Int).toNat 0).toNat : Nat) : Int)))))).toNat).drop (6 : Int).toNat).getD (1 : Int).toNat 0).toNat : Nat) : Int))))))) || (decide ((((((((a0.take a0.length).drop v5.toNat).take (W ((6 : Int) + (W ((W ((W (((((a0.take a0.length).drop v5.toNat).getD (0 : Int).toNat 0).toNat : Nat) : Int)) * 256)) + (W (((((a0.take a0.length).drop v5.toNat).getD (1 : Int).toNat 0).toNat : Nat) : Int)))))).toNat).drop (6 : Int).toNat).getD (0 : Int).toNat 0).toNat : Nat) : Int) > 1)))) rfl TT (fun h58 => ?_) (fun h58 => ?_)
    ·have h := zk h58 h
     refine zd ?_
     refine ze ?_
     refine u5 ?_
     obtain ⟨o, hq, rfl⟩ := Option.map_eq_some_iff.1 h
     replace h := hq; clear hq
     refine AI nofun ?_
     cases h
     exact AI TT (AI TT (AI TT (AI rfl (Vw.tupL (AI (Vw.oslI _ _ _) (S2 rfl rfl TT))))))
    ·have h := zw h58 h
     refine qv ?_
     refine zd ?_
     refine ze ?_
     obtain ⟨h59, h⟩ := zc h
     refine AI h59 ?_
     refine zd ?_
     refine z4i rfl ?_
     obtain ⟨h60, h⟩ := zc h
     refine AI h60 ?_
     obtain ⟨h61, h⟩ := zc h
     refine AI (AI (And.left h61) (AI (And.right h61) (Int.le_refl _))) ?_
     obtain ⟨h62, h⟩ := zc h
     refine AI h62 ?_
     refine LWp.sim (e := [(0, .str a0), (5, .osl (0, 0) 3 (v4.map za)), (6, .int .i64 v5), (8, .int .i64 (W ((W ((W (((((a0.take a0.length).drop v5.toNat).getD (0 : Int).toNat 0).toNat : Nat) : Int)) * 256)) + (W (((((a0.take a0.length).drop v5.toNat).getD (1 : Int).toNat 0).toNat : Nat) : Int))))), (11, .ptr (1, 0) 0 0)]) (L := [((0, 0), .tok), ((1, 0), .one [.str ((((((a0.take a0.length).drop v5.toNat).take (W ((6 : Int) + (W ((W ((W (((((a0.take a0.length).drop v5.toNat).getD (0 : Int).toNat 0).toNat : Nat) : Int)) * 256)) + (W (((((a0.take a0.length).drop v5.toNat).getD (1 : Int).toNat 0).toNat : Nat) : Int)))))).toNat).drop (6 : Int).toNat).take (W ((2 : Int) + (W (((((((a0.take a0.length).drop v5.toNat).take (W ((6 : Int) + (W ((W ((W (((((a0.take a0.length).drop v5.toNat).getD (0 : Int).toNat 0).toNat : Nat) : Int)) * 256)) + (W (((((a0.take a0.length).drop v5.toNat).getD (1 : Int).toNat 0).toNat : Nat) : Int)))))).toNat).drop (6 : Int).toNat).getD (1 : Int).toNat 0).toNat : Nat) : Int)))).toNat).drop (2 : Int).toNat), .str ((((((a0.take a0.length).drop v5.toNat).take (W ((6 : Int) + (W ((W ((W (((((a0.take a0.length).drop v5.toNat).getD (0 : Int).toNat 0).toNat : Nat) : Int)) * 256)) + (W (((((a0.take a0.length).drop v5.toNat).getD (1 : Int).toNat 0).toNat : Nat) : Int)))))).toNat).drop (6 : Int).toNat).take ((((a0.take a0.length).drop v5.toNat).take (W ((6 : Int) + (W ((W ((W (((((a0.take a0.length).drop v5.toNat).getD (0 : Int).toNat 0).toNat : Nat) : Int)) * 256)) + (W (((((a0.take a0.length).drop v5.toNat).getD (1 : Int).toNat 0).toNat : Nat) : Int)))))).toNat).drop (6 : Int).toNat).length).drop (W ((2 : Int) + (W (((((((a0.take a0.length).drop v5.toNat).take (W ((6 : Int) + (W ((W ((W (((((a0.take a0.length).drop v5.toNat).getD (0 : Int).toNat 0).toNat : Nat) : Int)) * 256)) + (W (((((a0.take a0.length).drop v5.toNat).getD (1 : Int).toNat 0).toNat : Nat) : Int)))))).toNat).drop (6 : Int).toNat).getD (1 : Int).toNat 0).toNat : Nat) : Int)))).toNat), .bool ((((((((a0.take a0.length).drop v5.toNat).take (W ((6 : Int) + (W ((W ((W (((((a0.take a0.length).drop v5.toNat).getD (0 : Int).toNat 0).toNat : Nat) : Int)) * 256)) + (W (((((a0.take a0.length).drop v5.toNat).getD (1 : Int).toNat 0).toNat : Nat) : Int)))))).toNat).drop (6 : Int).toNat).getD (0 : Int).toNat 0).toNat : Nat) : Int) == 1)])]) (n := 2) ?_ ?_
     ·exact y6 (M := [((0, 0), (0, 0)), ((1, 0), (1, 0))]) rfl (AI (VS rfl) (AI (Vw.osl _ _ _ _ rfl) (S2 rfl rfl (AI (Vw.ptr _ _ _ _ rfl) TT)))) (AI (AI rfl BVw.tok) (AI (AI rfl (BVw.oneL (S2 rfl rfl (AI (VS rfl) TT)))) TT))
     refine zd ?_
     refine zd ?_
     refine ze ?_
     obtain ⟨v11, h63, h⟩ := bind_some h
     refine PFn.call (y0l h63) (AI (VS rfl) TT) ?_
     refine qj (v := (v11 != 0)) rfl TT (fun h64 => ?_) (fun h64 => ?_)
     ·have h := zk h64 h
      refine zd ?_
      refine ze ?_
      refine LWp.sim (e := [(2, .osl (0, 0) 3 (v4.map za)), (3, .int .i64 v5), (4, .int .i64 3)]) (L := [((0, 0), .tok)]) (n := 1) ?_ ?_
      ·exact y6 (M := [((0, 0), (0, 0))]) rfl (AI (Vw.osl _ _ _ _ rfl) (S2 rfl rfl TT)) (AI (AI rfl BVw.tok) TT)
      refine u5 ?_
      obtain ⟨o, hq, rfl⟩ := Option.map_eq_some_iff.1 h
      replace h := hq; clear hq
      refine AI nofun ?_
      cases h
      exact AI TT (AI TT (AI TT (AI rfl (Vw.tupL (AI (Vw.oslI _ _ _) (S2 rfl rfl TT))))))
     ·have h := zw h64 h
      refine qv ?_
      refine zd ?_
      refine ze ?_
      obtain ⟨h65, h⟩ := zc h
      refine EX ((v4 ++ ([(G_QRecord.mk ((((((a0.take a0.length).drop v5.toNat).take (W ((6 : Int) + (W ((W ((W (((((a0.take a0.length).drop v5.toNat).getD (0 : Int).toNat 0).toNat : Nat) : Int)) * 256)) + (W (((((a0.take a0.length).drop v5.toNat).getD (1 : Int).toNat 0).toNat : Nat) : Int)))))).toNat).drop (6 : Int).toNat).take (W ((2 : Int) + (W (((((((a0.take a0.length).drop v5.toNat).take (W ((6 : Int) + (W ((W ((W (((((a0.take a0.length).drop v5.toNat).getD (0 : Int).toNat 0).toNat : Nat) : Int)) * 256)) + (W (((((a0.take a0.length).drop v5.toNat).getD (1 : Int).toNat 0).toNat : Nat) : Int)))))).toNat).drop (6 : Int).toNat).getD (1 : Int).toNat 0).toNat : Nat) : Int)))).toNat).drop (2 : Int).toNat) ((((((a0.take a0.length).drop v5.toNat).take (W ((6 : Int) + (W ((W ((W (((((a0.take a0.length).drop v5.toNat).getD (0 : Int).toNat 0).toNat : Nat) : Int)) * 256)) + (W (((((a0.take a0.length).drop v5.toNat).getD (1 : Int).toNat 0).toNat : Nat) : Int)))))).toNat).drop (6 : Int).toNat).take ((((a0.take a0.length).drop v5.toNat).take (W ((6 : Int) + (W ((W ((W (((((a0.take a0.length).drop v5.toNat).getD (0 : Int).toNat 0).toNat : Nat) : Int)) * 256)) + (W (((((a0.take a0.length).drop v5.toNat).getD (1 : Int).toNat 0).toNat : Nat) : Int)))))).toNat).drop (6 : Int).toNat).length).drop (W ((2 : Int) + (W (((((((a0.take a0.length).drop v5.toNat).take (W ((6 : Int) + (W ((W ((W (((((a0.take a0.length).drop v5.toNat).getD (0 : Int).toNat 0).toNat : Nat) : Int)) * 256)) + (W (((((a0.take a0.length).drop v5.toNat).getD (1 : Int).toNat 0).toNat : Nat) : Int)))))).toNat).drop (6 : Int).toNat).getD (1 : Int).toNat 0).toNat : Nat) : Int)))).toNat) ((((((((a0.take a0.length).drop v5.toNat).take (W ((6 : Int) + (W ((W ((W (((((a0.take a0.length).drop v5.toNat).getD (0 : Int).toNat 0).toNat : Nat) : Int)) * 256)) + (W (((((a0.take a0.length).drop v5.toNat).getD (1 : Int).toNat 0).toNat : Nat) : Int)))))).toNat).drop (6 : Int).toNat).getD (0 : Int).toNat 0).toNat : Nat) : Int) == 1))] : List G_QRecord)).map za) (AI (Y3 za v4 ([(G_QRecord.mk ((((((a0.take a0.length).drop v5.toNat).take (W ((6 : Int) + (W ((W ((W (((((a0.take a0.length).drop v5.toNat).getD (0 : Int).toNat 0).toNat : Nat) : Int)) * 256)) + (W (((((a0.take a0.length).drop v5.toNat).getD (1 : Int).toNat 0).toNat : Nat) : Int)))))).toNat).drop (6 : Int).toNat).take (W ((2 : Int) + (W (((((((a0.take a0.length).drop v5.toNat).take (W ((6 : Int) + (W ((W ((W (((((a0.take a0.length).drop v5.toNat).getD (0 : Int).toNat 0).toNat : Nat) : Int)) * 256)) + (W (((((a0.take a0.length).drop v5.toNat).getD (1 : Int).toNat 0).toNat : Nat) : Int)))))).toNat).drop (6 : Int).toNat).getD (1 : Int).toNat 0).toNat : Nat) : Int)))).toNat).drop (2 : Int).toNat) ((((((a0.take a0.length).drop v5.toNat).take (W ((6 : Int) + (W ((W ((W (((((a0.take a0.length).drop v5.toNat).getD (0 : Int).toNat 0).toNat : Nat) : Int)) * 256)) + (W (((((a0.take a0.length).drop v5.toNat).getD (1 : Int).toNat 0).toNat : Nat) : Int)))))).toNat).drop (6 : Int).toNat).take ((((a0.take a0.length).drop v5.toNat).take (W ((6 : Int) + (W ((W ((W (((((a0.take a0.length).drop v5.toNat).getD (0 : Int).toNat 0).toNat : Nat) : Int)) * 256)) + (W (((((a0.take a0.length).drop v5.toNat).getD (1 : Int).toNat 0).toNat : Nat) : Int)))))).toNat).drop (6 : Int).toNat).length).drop (W ((2 : Int) + (W (((((((a0.take a0.length).drop v5.toNat).take (W ((6 : Int) + (W ((W ((W (((((a0.take a0.length).drop v5.toNat).getD (0 : Int).toNat 0).toNat : Nat) : Int)) * 256)) + (W (((((a0.take a0.length).drop v5.toNat).getD (1 : Int).toNat 0).toNat : Nat) : Int)))))).toNat).drop (6 : Int).toNat).getD (1 : Int).toNat 0).toNat : Nat) : Int)))).toNat) ((((((((a0.take a0.length).drop v5.toNat).take (W ((6 : Int) + (W ((W ((W (((((a0.take a0.length).drop v5.toNat).getD (0 : Int).toNat 0).toNat : Nat) : Int)) * 256)) + (W (((((a0.take a0.length).drop v5.toNat).getD (1 : Int).toNat 0).toNat : Nat) : Int)))))).toNat).drop (6 : Int).toNat).getD (0 : Int).toNat 0).toNat : Nat) : Int) == 1))] : List G_QRecord)) (AI h65 ?_))
      refine LWp.sim (e := [(0, .str a0), (5, .osl (0, 0) 3 ((v4 ++ ([(G_QRecord.mk ((((((a0.take a0.length).drop v5.toNat).take (W ((6 : Int) + (W ((W ((W (((((a0.take a0.length).drop v5.toNat).getD (0 : Int).toNat 0).toNat : Nat) : Int)) * 256)) + (W (((((a0.take a0.length).drop v5.toNat).getD (1 : Int).toNat 0).toNat : Nat) : Int)))))).toNat).drop (6 : Int).toNat).take (W ((2 : Int) + (W (((((((a0.take a0.length).drop v5.toNat).take (W ((6 : Int) + (W ((W ((W (((((a0.take a0.length).drop v5.toNat).getD (0 : Int).toNat 0).toNat : Nat) : Int)) * 256)) + (W (((((a0.take a0.length).drop v5.toNat).getD (1 : Int).toNat 0).toNat : Nat) : Int)))))).toNat).drop (6 : Int).toNat).getD (1 : Int).toNat 0).toNat : Nat) : Int)))).toNat).drop (2 : Int).toNat) ((((((a0.take a0.length).drop v5.toNat).take (W ((6 : Int) + (W ((W ((W (((((a0.take a0.length).drop v5.toNat).getD (0 : Int).toNat 0).toNat : Nat) : Int)) * 256)) + (W (((((a0.take a0.length).drop v5.toNat).getD (1 : Int).toNat 0).toNat : Nat) : Int)))))).toNat).drop (6 : Int).toNat).take ((((a0.take a0.length).drop v5.toNat).take (W ((6 : Int) + (W ((W ((W (((((a0.take a0.length).drop v5.toNat).getD (0 : Int).toNat 0).toNat : Nat) : Int)) * 256)) + (W (((((a0.take a0.length).drop v5.toNat).getD (1 : Int).toNat 0).toNat : Nat) : Int)))))).toNat).drop (6 : Int).toNat).length).drop (W ((2 : Int) + (W (((((((a0.take a0.length).drop v5.toNat).take (W ((6 : Int) + (W ((W ((W (((((a0.take a0.length).drop v5.toNat).getD (0 : Int).toNat 0).toNat : Nat) : Int)) * 256)) + (W (((((a0.take a0.length).drop v5.toNat).getD (1 : Int).toNat 0).toNat : Nat) : Int)))))).toNat).drop (6 : Int).toNat).getD (1 : Int).toNat 0).toNat : Nat) : Int)))).toNat) ((((((((a0.take a0.length).drop v5.toNat).take (W ((6 : Int) + (W ((W ((W (((((a0.take a0.length).drop v5.toNat).getD (0 : Int).toNat 0).toNat : Nat) : Int)) * 256)) + (W (((((a0.take a0.length).drop v5.toNat).getD (1 : Int).toNat 0).toNat : Nat) : Int)))))).toNat).drop (6 : Int).toNat).getD (0 : Int).toNat 0).toNat : Nat) : Int) == 1))] : List G_QRecord)).map za)), (6, .int .i64 v5), (8, .int .i64 (W ((W ((W (((((a0.take a0.length).drop v5.toNat).getD (0 : Int).toNat 0).toNat : Nat) : Int)) * 256)) + (W (((((a0.take a0.length).drop v5.toNat).getD (1 : Int).toNat 0).toNat : Nat) : Int)))))]) (L := [((0, 0), .tok)]) (n := 1) ?_ ?_
      ·exact y6 (M := [((0, 0), (2, 0))]) rfl (AI (VS rfl) (AI (Vw.osl _ _ _ _ rfl) (S2 rfl rfl TT))) (AI (AI rfl BVw.tok) TT)
      refine ze ?_
      cases h
      exact AI rfl (y6 (M := [((0, 0), (0, 0))]) rfl (AI (VS rfl) (AI (Vw.osl _ _ _ _ rfl) (AI (VS rfl) TT))) (AI (AI rfl BVw.tok) TT))
theorem zqs {a0 : List UInt8} {v4 : List G_QRecord} {v5 : Int} {m : Option Nat} {o : ((List G_QRecord) × Int × Int)} (h : xi m a0 v4 v5 = some o) :
 LWp Tryz.prog zc3 0 (.loop zur) (zm 0 (y1o a0 o)) [(0, .str a0), (5, .osl (0, 0) 3 (v4.map za)), (6, .int .i64 v5)] [((0, 0), .tok)] 1 :=
 yi (m := m) (s := ((v4, v5) : ((List G_QRecord) × Int))) (r := o) (fun (s : ((List G_QRecord) × Int)) => qi m a0 s.1 s.2) (z67 a0) (zbw a0) (zmb a0) (fun s o h => zkw h) h
noncomputable def jb (m : Option Nat) (a0 : List UInt8) : Option ((List G_QRecord) × Int × Int) :=
 xi m a0 [] 0
theorem znk {a0 : List UInt8} {m : Option Nat} {o : (List G_QRecord) × Int × Int} (h : jb m a0 = some o) : LWp Tryz.prog zc3 0 y16 (y1o a0 o) (zz 0 [.str a0]) [] 0 := by
 unfold jb at h
 refine zd ?_
 refine ze ?_
 refine zd ?_
 refine ze ?_
 refine zd ?_
 refine ze ?_
 refine yf ?_
 refine LWp.sim ?_ (zqs h)
 exact y6 (M := []) rfl (AI (VS rfl) (AI (Vw.nilO _ _ (by decide)) (AI (VS rfl) TT))) (AI (AI rfl (AI (by decide) (by decide))) TT)
theorem y1p {a0 : List UInt8} {m : Option Nat} {o : (List G_QRecord) × Int × Int} (h : jb m a0 = some o) : PFn Tryz.prog 7 [.str a0] (.tup [.isl 3 (o.1.map za) false, .int .i64 o.2.1, .int .i64 o.2.2]) := PFn.ofFnW (L := y2w) y0q zzx (NB rfl) rfl (znk h)
def zjt : LCode := (.seq (.seq (.region [⟨some 13, .mv (.t 6), none⟩,
 ⟨some 14, .mv (.t 3), none⟩,
 ⟨some 15, .len false (.t 14), none⟩,
 ⟨some 16, .bin .lss (.t 13) (.t 15), none⟩,
 ⟨some 17, .mv (.t 16), none⟩,
 ⟨some 18, .mv (.t 3), some (17, true)⟩,
 ⟨some 19, .mv (.t 6), some (17, true)⟩,
 ⟨some 20, .iaddr 1 (.t 18) (.t 19), some (17, true)⟩,
 ⟨some 21, .load false 1 (.t 20), some (17, true)⟩,
 ⟨some 22, .mv (.t 5), some (17, true)⟩,
 ⟨some 23, .bin .lss (.t 21) (.t 22), some (17, true)⟩,
 ⟨some 24, .pick (.t 17) (.t 23) (.c (.bool false)), none⟩])
 (.cond (.t 24)
  .skip
  (.exit 2)))
 (.block 3
  (.region [⟨some 25, .mv (.t 6), none⟩,
   ⟨some 26, .bin .add (.t 25) (.c (.int .i64 1)), none⟩,
   ⟨some 6, .mv (.t 26), none⟩])))
def zas : LCode := (.seq (.region [⟨some 27, .mv (.t 6), none⟩,
 ⟨some 28, .mv (.t 3), none⟩,
 ⟨some 29, .len false (.t 28), none⟩,
 ⟨some 30, .bin .eql (.t 27) (.t 29), none⟩,
 ⟨some 31, .mv (.t 30), none⟩,
 ⟨some 32, .mv (.t 3), some (31, false)⟩,
 ⟨some 33, .mv (.t 6), some (31, false)⟩,
 ⟨some 34, .iaddr 1 (.t 32) (.t 33), some (31, false)⟩,
 ⟨some 35, .load false 1 (.t 34), some (31, false)⟩,
 ⟨some 36, .mv (.t 5), some (31, false)⟩,
 ⟨some 37, .bin .neq (.t 35) (.t 36), some (31, false)⟩,
 ⟨some 38, .pick (.t 31) (.c (.bool true)) (.t 37), none⟩])
 (.cond (.t 38)
  (.draw [⟨⟨some 39, .mv (.t 3), none⟩, []⟩,
   ⟨⟨some 40, .mv (.t 6), none⟩, []⟩,
   ⟨⟨some 41, .mv (.t 6), none⟩, []⟩,
   ⟨⟨some 42, .slSl 1 (.t 39) none (some (.t 40)) (some (.t 41)), none⟩, []⟩,
   ⟨⟨some 43, .mv (.t 5), none⟩, []⟩,
   ⟨⟨some 45, .mv (.t 3), none⟩, []⟩,
   ⟨⟨some 46, .mv (.t 6), none⟩, []⟩,
   ⟨⟨some 47, .slSl 1 (.t 45) (some (.t 46)) none none, none⟩, []⟩,
   ⟨⟨some 44, .mkSl true 1 [(.str [])] 1 [(0, (.t 43))], none⟩, []⟩,
   ⟨⟨some 48, .app true 1 16 (.t 44) (.t 47), none⟩, []⟩,
   ⟨⟨some 49, .app true 1 16 (.t 42) (.t 48), none⟩, []⟩,
   ⟨⟨some 3, .mv (.t 49), none⟩, []⟩])
  .skip))
def z7d : LCode := (.region [⟨some 50, .bin .add (.t 9) (.c (.int .i64 1)), none⟩,
 ⟨some 9, .mv (.t 50), none⟩])
def ziq : LCode := (.seq (.region [⟨some 10, .bin .lss (.t 9) (.t 8), none⟩])
 (.seq (.cond (.t 10)
  .skip
  (.exit 0))
 (.seq (.block 1
  (.seq (.region [⟨some 11, .iaddr 1 (.t 7) (.t 9), none⟩,
   ⟨some 12, .load false 1 (.t 11), none⟩,
   ⟨some 5, .mv (.t 12), none⟩])
  (.seq (.region [⟨some 6, .mv (.c (.int .i64 0)), none⟩])
  (.seq (.block 2
   (.loop
    zjt))
  zas))))
 z7d)))
def zax : LCode := (.seq (.region [⟨some 51, .mv (.t 3), none⟩,
 ⟨some 2, .mv (.t 51), none⟩])
 .ret)
def zsl : LCode := (.seq (.region [⟨some 2, .mv (.c (.val (.slice none 0 0))), none⟩])
 (.seq (.region [⟨some 3, .mv (.c (.val (.slice none 0 0))), none⟩])
 (.seq (.seq (.region [⟨some 7, .mv (.t 0), none⟩,
  ⟨some 8, .len false (.t 7), none⟩,
  ⟨some 9, .mv (.c (.int .i64 0)), none⟩])
 (.block 0
  (.loop
   ziq)))
 zax)))
def Ze : Lay := ⟨52, [], false⟩
def zh5 : List LRes := [.t 2]
def y0r : LFn := ⟨1, Ze, zsl, zh5⟩
theorem zt7 : ww Tryz.prog [] 14 = some y0r := by kernel_rfl
theorem zwv : Z9 Tryz.prog 14 := ⟨_, Tryz.func14, rfl, rfl⟩
def znw (a0 : List (List UInt8)) (o : (List (List UInt8))) : Exit → Env → AHeap → Nat → Prop := Zy zh5 (q6 (.isl 1 (o.map zb) false))
def Ys (a0 : List (List UInt8)) (s : ((List (List UInt8)) × Int)) : Env := [(3, .osl (0, 0) 1 (s.1.map zb)), (7, .isl 1 (a0.map zb) false), (8, .int .i64 ((a0.map zb).length : Int)), (9, .int .i64 s.2)]
def Qt (a0 : List (List UInt8)) (s : ((List (List UInt8)) × Int)) : AHeap := [((0, 0), .tok)]
def Jt (a0 : List (List UInt8)) (o : (List (List UInt8))) : Exit → Env → AHeap → Nat → Prop := (zm 0 (ug Tryz.prog Ze 0 zax (znw a0 o)))
def z28 (a0 : List (List UInt8)) (v3 : List (List UInt8)) (v4 : Int) (s : Int) : Env := [(3, .osl (0, 0) 1 (v3.map zb)), (5, .str (a0.getD v4.toNat default)), (6, .int .i64 s), (7, .isl 1 (a0.map zb) false), (8, .int .i64 ((a0.map zb).length : Int)), (9, .int .i64 v4)]
def z4z (a0 : List (List UInt8)) (v3 : List (List UInt8)) (v4 : Int) (s : Int) : AHeap := [((0, 0), .tok)]
def zap (a0 : List (List UInt8)) (o : (((List (List UInt8)) × Int) ⊕ (List (List UInt8)))) : Exit → Env → AHeap → Nat → Prop := (zm 2 (ug Tryz.prog Ze 0 zas (zm 1 (ug Tryz.prog Ze 0 z7d (xt 0 1 (Ys a0) (Qt a0) (Jt a0) o)))))
noncomputable def xl (m : Option Nat) (a0 : List (List UInt8)) (v4 : Int) (v8 : List (List UInt8)) : Option (((List (List UInt8)) × Int) ⊕ (List (List UInt8))) :=
 some (.inl (v8, (W (v4 + 1))))
noncomputable def xj (m : Option Nat) (a0 : List (List UInt8)) (v3 : List (List UInt8)) (v4 : Int) (v7 : Int) : Option (((List (List UInt8)) × Int) ⊕ (List (List UInt8))) :=
 if (((v7 == ((v3.map zb).length : Int)) == false) = true → (0 : Int) ≤ v7 ∧ v7 < ((v3.map zb).length : Int)) then
 if ((v7 == ((v3.map zb).length : Int)) || (!((v3.getD v7.toNat default) == (a0.getD v4.toNat default)))) = true then
  if (0 : Int) ≤ 0 ∧ 0 ≤ v7 ∧ v7 ≤ v7 ∧ v7 ≤ ((v3.map zb).length : Int) then
  if (0 : Int) ≤ v7 ∧ v7 ≤ ((v3.map zb).length : Int) then
  if ((([(a0.getD v4.toNat default)] : List (List UInt8)) ++ (v3.drop v7.toNat)).map zb).length * 16 ≤ 140737488355328 then
  if (decide (v7 = v7)) = true then
  if (((v3.take v7.toNat) ++ (([(a0.getD v4.toNat default)] : List (List UInt8)) ++ (v3.drop v7.toNat))).map zb).length * 16 ≤ 140737488355328 then
  xl m a0 v4 ((v3.take v7.toNat) ++ (([(a0.getD v4.toNat default)] : List (List UInt8)) ++ (v3.drop v7.toNat)))
  else none
  else none
  else none
  else none
  else none
 else
  xl m a0 v4 v3
 else none
noncomputable def qc (m : Option Nat) (a0 : List (List UInt8)) (v3 : List (List UInt8)) (v4 : Int) (v7 : Int) : Option (Int ⊕ (((List (List UInt8)) × Int) ⊕ (List (List UInt8)))) :=
 if (((decide (v7 < ((v3.map zb).length : Int))) == true) = true → (0 : Int) ≤ v7 ∧ v7 < ((v3.map zb).length : Int)) then
 if ((decide (v7 < ((v3.map zb).length : Int))) && (Op.bytesLess (v3.getD v7.toNat default) (a0.getD v4.toNat default))) = true then
  some (.inl (W (v7 + 1)))
 else
  Option.map Sum.inr (
   xj m a0 v3 v4 v7)
 else none
noncomputable def xb (m : Option Nat) (a0 : List (List UInt8)) (v3 : List (List UInt8)) (v4 : Int) (v7 : Int) : Option (((List (List UInt8)) × Int) ⊕ (List (List UInt8))) := u4 m (fun (s : Int) => qc m a0 v3 v4 s) v7
theorem z68 {a0 : List (List UInt8)} {v4 : Int} {v8 : List (List UInt8)} {m : Option Nat} {o : (((List (List UInt8)) × Int) ⊕ (List (List UInt8)))} (h : xl m a0 v4 v8 = some o) :
 LWp Tryz.prog Ze 0 z7d (xt 0 1 (Ys a0) (Qt a0) (Jt a0) o) [(3, .osl (0, 0) 1 (v8.map zb)), (7, .isl 1 (a0.map zb) false), (8, .int .i64 ((a0.map zb).length : Int)), (9, .int .i64 v4)] [((0, 0), .tok)] 1 := by
 unfold xl at h
 refine ze ?_
 cases h
 exact AI rfl (y6 (M := [((0, 0), (0, 0))]) rfl (AI (Vw.osl _ _ _ _ rfl) (S2 rfl rfl (AI (VS rfl) TT))) (AI (AI rfl BVw.tok) TT))
theorem zin {a0 : List (List UInt8)} {v3 : List (List UInt8)} {v4 : Int} {v7 : Int} {m : Option Nat} {o : (((List (List UInt8)) × Int) ⊕ (List (List UInt8)))} (h : xj m a0 v3 v4 v7 = some o) :
 LWp Tryz.prog Ze 0 zas (zm 1 (ug Tryz.prog Ze 0 z7d (xt 0 1 (Ys a0) (Qt a0) (Jt a0) o))) [(3, .osl (0, 0) 1 (v3.map zb)), (5, .str (a0.getD v4.toNat default)), (6, .int .i64 v7), (7, .isl 1 (a0.map zb) false), (8, .int .i64 ((a0.map zb).length : Int)), (9, .int .i64 v4)] [((0, 0), .tok)] 1 := by
 unfold xj at h
 refine zd ?_
 refine ze ?_
 obtain ⟨h38, h⟩ := zc h
 refine AI (fun hp => (AI (AI hp hp) (h38 hp))) ?_
 refine EX (zb (v3.getD v7.toNat default)) (AI (fun hp => AI (qo zb _ _ (ji zb (h38 hp))) (AI hp (AI (k7 (h38 hp)) (NB rfl)))) ?_)
 refine AI (fun hp => (AI hp hp)) ?_
 refine AI (fun hc => (bqf hc)) ?_
 refine LWp.sim (e := [(3, .osl (0, 0) 1 (v3.map zb)), (5, .str (a0.getD v4.toNat default)), (6, .int .i64 v7), (7, .isl 1 (a0.map zb) false), (8, .int .i64 ((a0.map zb).length : Int)), (9, .int .i64 v4), (38, .bool ((v7 == ((v3.map zb).length : Int)) || (!((v3.getD v7.toNat default) == (a0.getD v4.toNat default)))))]) (L := [((0, 0), .tok)]) (n := 1) ?_ ?_
 ·exact y6 (M := [((0, 0), (0, 0))]) rfl (AI (Vw.osl _ _ _ _ rfl) (S4 rfl rfl rfl rfl (S2 rfl rfl TT))) (AI (AI rfl BVw.tok) TT)
 refine qj (v := ((v7 == ((v3.map zb).length : Int)) || (!((v3.getD v7.toNat default) == (a0.getD v4.toNat default))))) rfl TT (fun h39 => ?_) (fun h39 => ?_)
 ·have h := zk h39 h
  refine z4i rfl ?_
  obtain ⟨h40, h⟩ := zc h
  refine EX (.isl 1 ((v3.take v7.toNat).map zb) (decide (v7 = v7))) (AI (zox zb (slB zb v3 _) rfl) (AI (AI rfl h40) ?_))
  obtain ⟨h41, h⟩ := zc h
  refine EX (.osl (0, 0) 1 ((v3.drop v7.toNat).map zb)) (AI (ztd zb _ _ _ _) (AI (AI rfl h41) ?_))
  obtain ⟨h42, h⟩ := zc h
  refine EX ((([(a0.getD v4.toNat default)] : List (List UInt8)) ++ (v3.drop v7.toNat)).map zb) (AI (Y3 zb ([(a0.getD v4.toNat default)] : List (List UInt8)) (v3.drop v7.toNat)) (AI (AI rfl h42) ?_))
  obtain ⟨h43, h⟩ := zc h
  obtain ⟨h44, h⟩ := zc h
  refine EX (((v3.take v7.toNat) ++ (([(a0.getD v4.toNat default)] : List (List UInt8)) ++ (v3.drop v7.toNat))).map zb) (AI (Y3 zb (v3.take v7.toNat) (([(a0.getD v4.toNat default)] : List (List UInt8)) ++ (v3.drop v7.toNat))) (AI (AI h43 h44) ?_))
  refine LWp.sim ?_ (z68 h)
  exact y6 (M := [((0, 0), (2, 0))]) rfl (AI (Vw.osl _ _ _ _ rfl) (S2 rfl rfl (AI (VS rfl) TT))) (AI (AI rfl BVw.tok) TT)
 ·have h := zw h39 h
  refine qv ?_
  refine LWp.sim ?_ (z68 h)
  exact y6 (M := [((0, 0), (0, 0))]) rfl (AI (Vw.osl _ _ _ _ rfl) (S2 rfl rfl (AI (VS rfl) TT))) (AI (AI rfl BVw.tok) TT)
theorem zdb {a0 : List (List UInt8)} {v3 : List (List UInt8)} {v4 : Int} {v7 : Int} {m : Option Nat} {o : Int ⊕ (((List (List UInt8)) × Int) ⊕ (List (List UInt8)))} (h : qc m a0 v3 v4 v7 = some o) :
 LWp Tryz.prog Ze 0 zjt (xt 0 1 (z28 a0 v3 v4) (z4z a0 v3 v4) (zap a0) o) [(3, .osl (0, 0) 1 (v3.map zb)), (5, .str (a0.getD v4.toNat default)), (6, .int .i64 v7), (7, .isl 1 (a0.map zb) false), (8, .int .i64 ((a0.map zb).length : Int)), (9, .int .i64 v4)] [((0, 0), .tok)] 1 := by
 unfold qc at h
 refine zd ?_
 refine zd ?_
 refine ze ?_
 obtain ⟨h36, h⟩ := zc h
 refine AI (fun hp => (AI (AI hp hp) (h36 hp))) ?_
 refine EX (zb (v3.getD v7.toNat default)) (AI (fun hp => AI (qo zb _ _ (ji zb (h36 hp))) (AI hp (AI (k7 (h36 hp)) (NB rfl)))) ?_)
 refine AI (fun hp => (AI hp hp)) ?_
 refine AI (fun hc => (bqt hc)) ?_
 refine LWp.sim (e := [(3, .osl (0, 0) 1 (v3.map zb)), (5, .str (a0.getD v4.toNat default)), (6, .int .i64 v7), (7, .isl 1 (a0.map zb) false), (8, .int .i64 ((a0.map zb).length : Int)), (9, .int .i64 v4), (24, .bool ((decide (v7 < ((v3.map zb).length : Int))) && (Op.bytesLess (v3.getD v7.toNat default) (a0.getD v4.toNat default))))]) (L := [((0, 0), .tok)]) (n := 1) ?_ ?_
 ·exact y6 (M := [((0, 0), (0, 0))]) rfl (AI (Vw.osl _ _ _ _ rfl) (S4 rfl rfl rfl rfl (S2 rfl rfl TT))) (AI (AI rfl BVw.tok) TT)
 refine qj (v := ((decide (v7 < ((v3.map zb).length : Int))) && (Op.bytesLess (v3.getD v7.toNat default) (a0.getD v4.toNat default)))) rfl TT (fun h37 => ?_) (fun h37 => ?_)
 ·have h := zk h37 h
  refine qv ?_
  refine yf ?_
  refine ze ?_
  cases h
  exact AI rfl (y6 (M := [((0, 0), (0, 0))]) rfl (AI (Vw.osl _ _ _ _ rfl) (S4 rfl rfl rfl rfl (AI (VS rfl) TT))) (AI (AI rfl BVw.tok) TT))
 ·have h := zw h37 h
  refine Z2 ?_
  obtain ⟨o, hq, rfl⟩ := Option.map_eq_some_iff.1 h
  replace h := hq; clear hq
  refine AI nofun ?_
  refine LWp.sim ?_ (zin h)
  exact y6 (M := [((0, 0), (0, 0))]) rfl (AI (Vw.osl _ _ _ _ rfl) (S4 rfl rfl rfl rfl (AI (VS rfl) TT))) (AI (AI rfl BVw.tok) TT)
theorem zme {a0 : List (List UInt8)} {v3 : List (List UInt8)} {v4 : Int} {v7 : Int} {m : Option Nat} {o : (((List (List UInt8)) × Int) ⊕ (List (List UInt8)))} (h : xb m a0 v3 v4 v7 = some o) :
 LWp Tryz.prog Ze 0 (.loop zjt) (zm 2 (ug Tryz.prog Ze 0 zas (zm 1 (ug Tryz.prog Ze 0 z7d (xt 0 1 (Ys a0) (Qt a0) (Jt a0) o))))) [(3, .osl (0, 0) 1 (v3.map zb)), (5, .str (a0.getD v4.toNat default)), (6, .int .i64 v7), (7, .isl 1 (a0.map zb) false), (8, .int .i64 ((a0.map zb).length : Int)), (9, .int .i64 v4)] [((0, 0), .tok)] 1 :=
 yi (m := m) (s := (v7 : Int)) (r := o) (fun (s : Int) => qc m a0 v3 v4 s) (z28 a0 v3 v4) (z4z a0 v3 v4) (zap a0) (fun s o h => zdb h) h
noncomputable def vn (m : Option Nat) (v3 : List (List UInt8)) : Option (List (List UInt8)) :=
 some v3
noncomputable def qe (m : Option Nat) (a0 : List (List UInt8)) (v3 : List (List UInt8)) (v4 : Int) : Option (((List (List UInt8)) × Int) ⊕ (List (List UInt8))) :=
 if (decide (v4 < ((a0.map zb).length : Int))) = true then
  if (0 : Int) ≤ v4 ∧ v4 < ((a0.map zb).length : Int) then
  xb m a0 v3 v4 0
  else none
 else
  Option.map Sum.inr (
   vn m v3)
noncomputable def xk (m : Option Nat) (a0 : List (List UInt8)) (v3 : List (List UInt8)) (v4 : Int) : Option (List (List UInt8)) := u4 m (fun (s : ((List (List UInt8)) × Int)) => qe m a0 s.1 s.2) (v3, v4)
theorem zfb {a0 : List (List UInt8)} {v3 : List (List UInt8)} {m : Option Nat} {o : (List (List UInt8))} (h : vn m v3 = some o) :
 LWp Tryz.prog Ze 0 zax (znw a0 o) [(3, .osl (0, 0) 1 (v3.map zb))] [((0, 0), .tok)] 1 := by
 unfold vn at h
 refine zd ?_
 refine ze ?_
 refine u5 ?_
 cases h
 exact AI TT (AI rfl (Vw.oslI _ _ _))
theorem zcz {a0 : List (List UInt8)} {v3 : List (List UInt8)} {v4 : Int} {m : Option Nat} {o : ((List (List UInt8)) × Int) ⊕ (List (List UInt8))} (h : qe m a0 v3 v4 = some o) :
 LWp Tryz.prog Ze 0 ziq (xt 0 1 (Ys a0) (Qt a0) (Jt a0) o) [(3, .osl (0, 0) 1 (v3.map zb)), (7, .isl 1 (a0.map zb) false), (8, .int .i64 ((a0.map zb).length : Int)), (9, .int .i64 v4)] [((0, 0), .tok)] 1 := by
 unfold qe at h
 refine zd ?_
 refine ze ?_
 refine zd ?_
 refine qj (v := (decide (v4 < ((a0.map zb).length : Int)))) rfl TT (fun h30 => ?_) (fun h30 => ?_)
 ·have h := zk h30 h
  refine qv ?_
  refine zd ?_
  refine yf ?_
  refine zd ?_
  refine ze ?_
  obtain ⟨h31, h⟩ := zc h
  refine AI h31 ?_
  refine EX (zb (a0.getD v4.toNat default)) (AI (qo zb _ _ (ji zb h31)) (AI (AI (k7 h31) (NB rfl)) ?_))
  refine zd ?_
  refine ze ?_
  refine zd ?_
  refine yf ?_
  refine LWp.sim ?_ (zme h)
  exact y6 (M := [((0, 0), (0, 0))]) rfl (AI (Vw.osl _ _ _ _ rfl) (S4 rfl rfl rfl rfl (AI (VS rfl) TT))) (AI (AI rfl BVw.tok) TT)
 ·have h := zw h30 h
  refine Z2 ?_
  obtain ⟨o, hq, rfl⟩ := Option.map_eq_some_iff.1 h
  replace h := hq; clear hq
  refine AI nofun ?_
  refine LWp.sim ?_ (zfb h)
  exact y6 (M := [((0, 0), (0, 0))]) rfl (AI (Vw.osl _ _ _ _ rfl) TT) (AI (AI rfl BVw.tok) TT)
theorem zll {a0 : List (List UInt8)} {v3 : List (List UInt8)} {v4 : Int} {m : Option Nat} {o : (List (List UInt8))} (h : xk m a0 v3 v4 = some o) :
 LWp Tryz.prog Ze 0 (.loop ziq) (zm 0 (ug Tryz.prog Ze 0 zax (znw a0 o))) [(3, .osl (0, 0) 1 (v3.map zb)), (7, .isl 1 (a0.map zb) false), (8, .int .i64 ((a0.map zb).length : Int)), (9, .int .i64 v4)] [((0, 0), .tok)] 1 :=
 yi (m := m) (s := ((v3, v4) : ((List (List UInt8)) × Int))) (r := o) (fun (s : ((List (List UInt8)) × Int)) => qe m a0 s.1 s.2) (Ys a0) (Qt a0) (Jt a0) (fun s o h => zcz h) h
noncomputable def yk (m : Option Nat) (a0 : List (List UInt8)) : Option (List (List UInt8)) :=
 xk m a0 [] 0
theorem zff {a0 : List (List UInt8)} {m : Option Nat} {o : (List (List UInt8))} (h : yk m a0 = some o) : LWp Tryz.prog Ze 0 zsl (znw a0 o) (zz 0 [.isl 1 (a0.map zb) false]) [] 0 := by
 unfold yk at h
 refine zd ?_
 refine ze ?_
 refine zd ?_
 refine ze ?_
 refine zd ?_
 refine zd ?_
 refine ze ?_
 refine yf ?_
 refine LWp.sim ?_ (zll h)
 exact y6 (M := []) rfl (AI (Vw.nilO _ _ (by decide)) (S2 rfl rfl (AI (VS rfl) TT))) (AI (AI rfl (AI (by decide) (by decide))) TT)
theorem zcr {a0 : List (List UInt8)} {m : Option Nat} {o : (List (List UInt8))} (h : yk m a0 = some o) : PFn Tryz.prog 14 [.isl 1 (a0.map zb) false] (.isl 1 (o.map zb) false) := PFn.ofFnW (L := y0r) zt7 zwv (NB rfl) rfl (zff h)
def zws : LCode := (.seq (.region [⟨some 15, .bin .lss (.t 14) (.t 13), none⟩])
 (.seq (.cond (.t 15)
  .skip
  (.exit 0))
 (.seq (.block 1
  (.seq (.region [⟨some 16, .iaddr 3 (.t 12) (.t 14), none⟩,
   ⟨some 17, .load true 3 (.t 16), none⟩,
   ⟨some 5, .alloc [(.str []), (.str []), (.bool false)], none⟩,
   ⟨none, .store 3 (.t 5) (.t 17), none⟩])
  (.region [⟨some 18, .mv (.t 3), none⟩,
   ⟨some 19, .faddr 0 (.t 5), none⟩,
   ⟨some 20, .load false 1 (.t 19), none⟩,
   ⟨some 21, .mkSl true 1 [(.str [])] 1 [(0, (.t 20))], none⟩,
   ⟨some 22, .app true 1 16 (.t 18) (.t 21), none⟩,
   ⟨some 3, .mv (.t 22), none⟩])))
 (.region [⟨some 23, .bin .add (.t 14) (.c (.int .i64 1)), none⟩,
  ⟨some 14, .mv (.t 23), none⟩]))))
def y0y : LCode := (.region [⟨some 42, .bin .add (.t 33) (.c (.int .i64 1)), none⟩,
 ⟨some 33, .mv (.t 42), none⟩])
def zx3 : LCode := (.seq (.region [⟨some 34, .bin .lss (.t 33) (.t 32), none⟩])
 (.seq (.cond (.t 34)
  .skip
  (.exit 4))
 (.seq (.block 5
  (.seq (.region [⟨some 35, .iaddr 3 (.t 31) (.t 33), none⟩,
   ⟨some 36, .load true 3 (.t 35), none⟩,
   ⟨some 11, .alloc [(.str []), (.str []), (.bool false)], none⟩,
   ⟨none, .store 3 (.t 11) (.t 36), none⟩])
  (.seq (.region [⟨some 37, .faddr 0 (.t 11), none⟩,
   ⟨some 38, .load false 1 (.t 37), none⟩,
   ⟨some 39, .mv (.t 8), none⟩,
   ⟨some 40, .bin .eql (.t 38) (.t 39), none⟩])
  (.cond (.t 40)
   (.region [⟨some 41, .load true 3 (.t 11), none⟩,
    ⟨none, .store 3 (.t 9) (.t 41), none⟩])
   .skip))))
 y0y)))
def zq2 : LCode := (.seq (.region [⟨some 43, .faddr 2 (.t 9), none⟩,
 ⟨some 44, .load false 1 (.t 43), none⟩,
 ⟨some 45, .un .not (.t 44), none⟩])
 (.cond (.t 45)
  (.region [⟨some 46, .mv (.t 6), none⟩,
   ⟨some 47, .load true 3 (.t 9), none⟩,
   ⟨some 48, .mkSl true 3 [(.str []), (.str []), (.bool false)] 1 [(0, (.t 47))], none⟩,
   ⟨some 49, .app true 3 40 (.t 46) (.t 48), none⟩,
   ⟨some 6, .mv (.t 49), none⟩])
  .skip))
def zj5 : LCode := (.region [⟨some 50, .bin .add (.t 27) (.c (.int .i64 1)), none⟩,
 ⟨some 27, .mv (.t 50), none⟩])
def ztk : LCode := (.seq (.region [⟨some 28, .bin .lss (.t 27) (.t 26), none⟩])
 (.seq (.cond (.t 28)
  .skip
  (.exit 2))
 (.seq (.block 3
  (.seq (.region [⟨some 29, .iaddr 1 (.t 25) (.t 27), none⟩,
   ⟨some 30, .load false 1 (.t 29), none⟩,
   ⟨some 8, .mv (.t 30), none⟩])
  (.seq (.region [⟨some 9, .alloc [(.str []), (.str []), (.bool false)], none⟩])
  (.seq (.seq (.region [⟨some 31, .mv (.t 0), none⟩,
   ⟨some 32, .len false (.t 31), none⟩,
   ⟨some 33, .mv (.c (.int .i64 0)), none⟩])
  (.block 4
   (.loop
    zx3)))
  zq2))))
 zj5)))
def zo3 : LCode := (.seq (.region [⟨some 51, .mv (.t 6), none⟩,
 ⟨some 2, .mv (.t 51), none⟩])
 .ret)
def zns : LCode := (.seq (.region [⟨some 6, .mv (.c (.val (.slice none 0 0))), none⟩])
 (.seq (.seq (.region [⟨some 24, .mv (.t 3), none⟩,
  ⟨some 25, .call 14 [(.t 24)], none⟩,
  ⟨some 26, .len false (.t 25), none⟩,
  ⟨some 27, .mv (.c (.int .i64 0)), none⟩])
 (.block 2
  (.loop
   ztk)))
 zo3))
def zye : LCode := (.seq (.region [⟨some 2, .mv (.c (.val (.slice none 0 0))), none⟩])
 (.seq (.region [⟨some 3, .mv (.c (.val (.slice none 0 0))), none⟩])
 (.seq (.seq (.region [⟨some 12, .mv (.t 0), none⟩,
  ⟨some 13, .len false (.t 12), none⟩,
  ⟨some 14, .mv (.c (.int .i64 0)), none⟩])
 (.block 0
  (.loop
   zws)))
 zns)))
def Zc : Lay := ⟨52, [], false⟩
def zsn : List LRes := [.t 2]
def y2x : LFn := ⟨1, Zc, zye, zsn⟩
theorem y0o : ww Tryz.prog [] 8 = some y2x := by kernel_rfl
theorem zzi : Z9 Tryz.prog 8 := ⟨_, Tryz.func8, rfl, rfl⟩
def zvw (a0 : List G_QRecord) (o : (List G_QRecord)) : Exit → Env → AHeap → Nat → Prop := Zy zsn (q6 (.isl 3 (o.map za) false))
def z52 (a0 : List G_QRecord) (s : ((List (List UInt8)) × Int)) : Env := [(0, .isl 3 (a0.map za) false), (3, .osl (0, 0) 1 (s.1.map zb)), (12, .isl 3 (a0.map za) false), (13, .int .i64 ((a0.map za).length : Int)), (14, .int .i64 s.2)]
def zc1 (a0 : List G_QRecord) (s : ((List (List UInt8)) × Int)) : AHeap := [((0, 0), .tok)]
def zm3 (a0 : List G_QRecord) (o : (List G_QRecord)) : Exit → Env → AHeap → Nat → Prop := (zm 0 (ug Tryz.prog Zc 0 zns (zvw a0 o)))
noncomputable def jz (m : Option Nat) (a0 : List G_QRecord) (v3 : (List (List UInt8))) (v18 : List G_QRecord) (v19 : Int) (v37 : Int) (v44 : List UInt8) (v45 : List UInt8) (v46 : Bool) : Option ((Int × (List UInt8) × (List UInt8) × Bool) ⊕ (((List G_QRecord) × Int) ⊕ (List G_QRecord))) :=
 some (.inl ((W (v37 + 1)), v44, v45, v46))
noncomputable def jv (m : Option Nat) (a0 : List G_QRecord) (v3 : (List (List UInt8))) (v19 : Int) (v47 : List G_QRecord) : Option (((List G_QRecord) × Int) ⊕ (List G_QRecord)) :=
 some (.inl (v47, (W (v19 + 1))))
noncomputable def xy (m : Option Nat) (a0 : List G_QRecord) (v3 : (List (List UInt8))) (v18 : List G_QRecord) (v19 : Int) (v38 : List UInt8) (v39 : List UInt8) (v40 : Bool) : Option (((List G_QRecord) × Int) ⊕ (List G_QRecord)) :=
 if (!v40) = true then
  if ((v18 ++ ([(G_QRecord.mk v38 v39 v40)] : List G_QRecord)).map za).length * 40 ≤ 140737488355328 then
  jv m a0 v3 v19 (v18 ++ ([(G_QRecord.mk v38 v39 v40)] : List G_QRecord))
  else none
 else
  jv m a0 v3 v19 v18
noncomputable def j8 (m : Option Nat) (a0 : List G_QRecord) (v3 : (List (List UInt8))) (v18 : List G_QRecord) (v19 : Int) (v37 : Int) (v38 : List UInt8) (v39 : List UInt8) (v40 : Bool) : Option ((Int × (List UInt8) × (List UInt8) × Bool) ⊕ (((List G_QRecord) × Int) ⊕ (List G_QRecord))) :=
 if (decide (v37 < ((a0.map za).length : Int))) = true then
  if (0 : Int) ≤ v37 ∧ v37 < ((a0.map za).length : Int) then
  if ((a0.getD v37.toNat default).f_Key == (v3.getD v19.toNat default)) = true then
   jz m a0 v3 v18 v19 v37 ((a0.getD v37.toNat default).f_Key) ((a0.getD v37.toNat default).f_Value) ((a0.getD v37.toNat default).f_Deleted)
  else
   jz m a0 v3 v18 v19 v37 v38 v39 v40
  else none
 else
  Option.map Sum.inr (
   xy m a0 v3 v18 v19 v38 v39 v40)
noncomputable def wl (m : Option Nat) (a0 : List G_QRecord) (v3 : (List (List UInt8))) (v18 : List G_QRecord) (v19 : Int) (v37 : Int) (v38 : List UInt8) (v39 : List UInt8) (v40 : Bool) : Option (((List G_QRecord) × Int) ⊕ (List G_QRecord)) := u4 m (fun (s : (Int × (List UInt8) × (List UInt8) × Bool)) => j8 m a0 v3 v18 v19 s.1 s.2.1 s.2.2.1 s.2.2.2) (v37, v38, v39, v40)
noncomputable def uf (m : Option Nat) (v18 : List G_QRecord) : Option (List G_QRecord) :=
 some v18
noncomputable def j7 (m : Option Nat) (a0 : List G_QRecord) (v3 : (List (List UInt8))) (v18 : List G_QRecord) (v19 : Int) : Option (((List G_QRecord) × Int) ⊕ (List G_QRecord)) :=
 if (decide (v19 < ((v3.map zb).length : Int))) = true then
  if (0 : Int) ≤ v19 ∧ v19 < ((v3.map zb).length : Int) then
  wl m a0 v3 v18 v19 0 ([] : List UInt8) ([] : List UInt8) false
  else none
 else
  Option.map Sum.inr (
   uf m v18)
noncomputable def wi (m : Option Nat) (a0 : List G_QRecord) (v3 : (List (List UInt8))) (v18 : List G_QRecord) (v19 : Int) : Option (List G_QRecord) := u4 m (fun (s : ((List G_QRecord) × Int)) => j7 m a0 v3 s.1 s.2) (v18, v19)
noncomputable def wc (m : Option Nat) (a0 : List G_QRecord) (v1 : List (List UInt8)) : Option (List G_QRecord) :=
 (yk m v1).bind fun v3 =>
 wi m a0 v3 [] 0
noncomputable def ja (m : Option Nat) (a0 : List G_QRecord) (v1 : List (List UInt8)) (v2 : Int) : Option (((List (List UInt8)) × Int) ⊕ (List G_QRecord)) :=
 if (decide (v2 < ((a0.map za).length : Int))) = true then
  if (0 : Int) ≤ v2 ∧ v2 < ((a0.map za).length : Int) then
  if ((v1 ++ ([(a0.getD v2.toNat default).f_Key] : List (List UInt8))).map zb).length * 16 ≤ 140737488355328 then
  some (.inl ((v1 ++ ([(a0.getD v2.toNat default).f_Key] : List (List UInt8))), (W (v2 + 1))))
  else none
  else none
 else
  Option.map Sum.inr (
   wc m a0 v1)
noncomputable def wh (m : Option Nat) (a0 : List G_QRecord) (v1 : List (List UInt8)) (v2 : Int) : Option (List G_QRecord) := u4 m (fun (s : ((List (List UInt8)) × Int)) => ja m a0 s.1 s.2) (v1, v2)
def Qz (a0 : List G_QRecord) (v3 : (List (List UInt8))) (s : ((List G_QRecord) × Int)) : Env := [(0, .isl 3 (a0.map za) false), (6, .osl (0, 0) 3 (s.1.map za)), (25, .isl 1 (v3.map zb) false), (26, .int .i64 ((v3.map zb).length : Int)), (27, .int .i64 s.2)]
def Jd (a0 : List G_QRecord) (v3 : (List (List UInt8))) (s : ((List G_QRecord) × Int)) : AHeap := [((0, 0), .tok)]
def K8 (a0 : List G_QRecord) (o : (List G_QRecord)) : Exit → Env → AHeap → Nat → Prop := (zm 2 (ug Tryz.prog Zc 0 zo3 (zvw a0 o)))
def z02 (a0 : List G_QRecord) (v3 : (List (List UInt8))) (v18 : List G_QRecord) (v19 : Int) (s : (Int × (List UInt8) × (List UInt8) × Bool)) : Env := [(0, .isl 3 (a0.map za) false), (6, .osl (0, 0) 3 (v18.map za)), (8, .str (v3.getD v19.toNat default)), (9, .ptr (1, 0) 0 0), (25, .isl 1 (v3.map zb) false), (26, .int .i64 ((v3.map zb).length : Int)), (27, .int .i64 v19), (31, .isl 3 (a0.map za) false), (32, .int .i64 ((a0.map za).length : Int)), (33, .int .i64 s.1)]
def z3t (a0 : List G_QRecord) (v3 : (List (List UInt8))) (v18 : List G_QRecord) (v19 : Int) (s : (Int × (List UInt8) × (List UInt8) × Bool)) : AHeap := [((0, 0), .tok), ((1, 0), .one [.str s.2.1, .str s.2.2.1, .bool s.2.2.2])]
def z98 (a0 : List G_QRecord) (v3 : (List (List UInt8))) (o : (((List G_QRecord) × Int) ⊕ (List G_QRecord))) : Exit → Env → AHeap → Nat → Prop := (zm 4 (ug Tryz.prog Zc 0 zq2 (zm 3 (ug Tryz.prog Zc 0 zj5 (xt 0 1 (Qz a0 v3) (Jd a0 v3) (K8 a0) o)))))
theorem z7k {a0 : List G_QRecord} {v3 : (List (List UInt8))} {v18 : List G_QRecord} {v19 : Int} {v37 : Int} {v44 : List UInt8} {v45 : List UInt8} {v46 : Bool} {m : Option Nat} {o : ((Int × (List UInt8) × (List UInt8) × Bool) ⊕ (((List G_QRecord) × Int) ⊕ (List G_QRecord)))} (h : jz m a0 v3 v18 v19 v37 v44 v45 v46 = some o) :
 LWp Tryz.prog Zc 0 y0y (xt 0 2 (z02 a0 v3 v18 v19) (z3t a0 v3 v18 v19) (z98 a0 v3) o) [(0, .isl 3 (a0.map za) false), (6, .osl (0, 0) 3 (v18.map za)), (8, .str (v3.getD v19.toNat default)), (9, .ptr (1, 0) 0 0), (25, .isl 1 (v3.map zb) false), (26, .int .i64 ((v3.map zb).length : Int)), (27, .int .i64 v19), (31, .isl 3 (a0.map za) false), (32, .int .i64 ((a0.map za).length : Int)), (33, .int .i64 v37)] [((0, 0), .tok), ((1, 0), .one [.str v44, .str v45, .bool v46])] 2 := by
 unfold jz at h
 refine ze ?_
 cases h
 exact AI rfl (y6 (M := [((0, 0), (0, 0)), ((1, 0), (1, 0))]) rfl (AI (VS rfl) (AI (Vw.osl _ _ _ _ rfl) (AI (VS rfl) (AI (Vw.ptr _ _ _ _ rfl) (S4 rfl rfl rfl rfl (S2 rfl rfl TT)))))) (AI (AI rfl BVw.tok) (AI (AI rfl (BVw.oneL (S2 rfl rfl (AI (VS rfl) TT)))) TT)))
theorem z4p {a0 : List G_QRecord} {v3 : (List (List UInt8))} {v19 : Int} {v47 : List G_QRecord} {m : Option Nat} {o : (((List G_QRecord) × Int) ⊕ (List G_QRecord))} (h : jv m a0 v3 v19 v47 = some o) :
 LWp Tryz.prog Zc 0 zj5 (xt 0 1 (Qz a0 v3) (Jd a0 v3) (K8 a0) o) [(0, .isl 3 (a0.map za) false), (6, .osl (0, 0) 3 (v47.map za)), (25, .isl 1 (v3.map zb) false), (26, .int .i64 ((v3.map zb).length : Int)), (27, .int .i64 v19)] [((0, 0), .tok)] 1 := by
 unfold jv at h
 refine ze ?_
 cases h
 exact AI rfl (y6 (M := [((0, 0), (0, 0))]) rfl (AI (VS rfl) (AI (Vw.osl _ _ _ _ rfl) (S2 rfl rfl (AI (VS rfl) TT)))) (AI (AI rfl BVw.tok) TT))
theorem zkq {a0 : List G_QRecord} {v3 : (List (List UInt8))} {v18 : List G_QRecord} {v19 : Int} {v38 : List UInt8} {v39 : List UInt8} {v40 : Bool} {m : Option Nat} {o : (((List G_QRecord) × Int) ⊕ (List G_QRecord))} (h : xy m a0 v3 v18 v19 v38 v39 v40 = some o) :
 LWp Tryz.prog Zc 0 zq2 (zm 3 (ug Tryz.prog Zc 0 zj5 (xt 0 1 (Qz a0 v3) (Jd a0 v3) (K8 a0) o))) [(0, .isl 3 (a0.map za) false), (6, .osl (0, 0) 3 (v18.map za)), (9, .ptr (1, 0) 0 0), (25, .isl 1 (v3.map zb) false), (26, .int .i64 ((v3.map zb).length : Int)), (27, .int .i64 v19)] [((0, 0), .tok), ((1, 0), .one [.str v38, .str v39, .bool v40])] 2 := by
 unfold xy at h
 refine zd ?_
 refine ze ?_
 refine qj (v := (!v40)) rfl TT (fun h48 => ?_) (fun h48 => ?_)
 ·have h := zk h48 h
  refine ze ?_
  obtain ⟨h49, h⟩ := zc h
  refine EX ((v18 ++ ([(G_QRecord.mk v38 v39 v40)] : List G_QRecord)).map za) (AI (Y3 za v18 ([(G_QRecord.mk v38 v39 v40)] : List G_QRecord)) (AI h49 ?_))
  refine LWp.sim ?_ (z4p h)
  exact y6 (M := [((0, 0), (2, 0))]) rfl (AI (VS rfl) (AI (Vw.osl _ _ _ _ rfl) (S2 rfl rfl (AI (VS rfl) TT)))) (AI (AI rfl BVw.tok) TT)
 ·have h := zw h48 h
  refine qv ?_
  refine LWp.sim ?_ (z4p h)
  exact y6 (M := [((0, 0), (0, 0))]) rfl (AI (VS rfl) (AI (Vw.osl _ _ _ _ rfl) (S2 rfl rfl (AI (VS rfl) TT)))) (AI (AI rfl BVw.tok) TT)
theorem zkk {a0 : List G_QRecord} {v3 : (List (List UInt8))} {v18 : List G_QRecord} {v19 : Int} {v37 : Int} {v38 : List UInt8} {v39 : List UInt8} {v40 : Bool} {m : Option Nat} {o : (Int × (List UInt8) × (List UInt8) × Bool) ⊕ (((List G_QRecord) × Int) ⊕ (List G_QRecord))} (h : j8 m a0 v3 v18 v19 v37 v38 v39 v40 = some o) :
 LWp Tryz.prog Zc 0 zx3 (xt 0 2 (z02 a0 v3 v18 v19) (z3t a0 v3 v18 v19) (z98 a0 v3) o) [(0, .isl 3 (a0.map za) false), (6, .osl (0, 0) 3 (v18.map za)), (8, .str (v3.getD v19.toNat default)), (9, .ptr (1, 0) 0 0), (25, .isl 1 (v3.map zb) false), (26, .int .i64 ((v3.map zb).length : Int)), (27, .int .i64 v19), (31, .isl 3 (a0.map za) false), (32, .int .i64 ((a0.map za).length : Int)), (33, .int .i64 v37)] [((0, 0), .tok), ((1, 0), .one [.str v38, .str v39, .bool v40])] 2 := by
 unfold j8 at h
 refine zd ?_
 refine ze ?_
 refine zd ?_
 refine qj (v := (decide (v37 < ((a0.map za).length : Int)))) rfl TT (fun h45 => ?_) (fun h45 => ?_)
 ·have h := zk h45 h
  refine qv ?_
  refine zd ?_
  refine yf ?_
  refine zd ?_
  refine ze ?_
  obtain ⟨h46, h⟩ := zc h
  refine AI h46 ?_
  refine EX (za (a0.getD v37.toNat default)) (AI (qo za _ _ (ji za h46)) (AI (AI (k7 h46) (NB rfl)) ?_))
  refine zd ?_
  refine ze ?_
  refine LWp.sim (e := [(0, .isl 3 (a0.map za) false), (6, .osl (0, 0) 3 (v18.map za)), (8, .str (v3.getD v19.toNat default)), (9, .ptr (1, 0) 0 0), (11, .ptr (2, 0) 0 0), (25, .isl 1 (v3.map zb) false), (26, .int .i64 ((v3.map zb).length : Int)), (27, .int .i64 v19), (31, .isl 3 (a0.map za) false), (32, .int .i64 ((a0.map za).length : Int)), (33, .int .i64 v37), (40, .bool ((a0.getD v37.toNat default).f_Key == (v3.getD v19.toNat default)))]) (L := [((0, 0), .tok), ((1, 0), .one [.str v38, .str v39, .bool v40]), ((2, 0), .one [.str ((a0.getD v37.toNat default).f_Key), .str ((a0.getD v37.toNat default).f_Value), .bool ((a0.getD v37.toNat default).f_Deleted)])]) (n := 3) ?_ ?_
  ·exact y6 (M := [((0, 0), (0, 0)), ((1, 0), (1, 0)), ((2, 0), (2, 0))]) rfl (AI (VS rfl) (AI (Vw.osl _ _ _ _ rfl) (AI (VS rfl) (AI (Vw.ptr _ _ _ _ rfl) (AI (Vw.ptr _ _ _ _ rfl) (S4 rfl rfl rfl rfl (S2 rfl rfl (AI (VS rfl) TT)))))))) (AI (AI rfl BVw.tok) (AI (AI rfl (BVw.oneL (S2 rfl rfl (AI (VS rfl) TT)))) (AI (AI rfl (BVw.oneL (S2 rfl rfl (AI (VS rfl) TT)))) TT)))
  refine qj (v := ((a0.getD v37.toNat default).f_Key == (v3.getD v19.toNat default))) rfl TT (fun h47 => ?_) (fun h47 => ?_)
  ·have h := zk h47 h
   refine ze ?_
   refine LWp.sim ?_ (z7k h)
   exact y6 (M := [((0, 0), (0, 0)), ((1, 0), (1, 0))]) rfl (AI (VS rfl) (AI (Vw.osl _ _ _ _ rfl) (AI (VS rfl) (AI (Vw.ptr _ _ _ _ rfl) (S4 rfl rfl rfl rfl (S2 rfl rfl TT)))))) (AI (AI rfl BVw.tok) (AI (AI rfl (BVw.oneL (S2 rfl rfl (AI (VS rfl) TT)))) TT))
  ·have h := zw h47 h
   refine qv ?_
   refine LWp.sim ?_ (z7k h)
   exact y6 (M := [((0, 0), (0, 0)), ((1, 0), (1, 0))]) rfl (AI (VS rfl) (AI (Vw.osl _ _ _ _ rfl) (AI (VS rfl) (AI (Vw.ptr _ _ _ _ rfl) (S4 rfl rfl rfl rfl (S2 rfl rfl TT)))))) (AI (AI rfl BVw.tok) (AI (AI rfl (BVw.oneL (S2 rfl rfl (AI (VS rfl) TT)))) TT))
 ·have h := zw h45 h
  refine Z2 ?_
  obtain ⟨o, hq, rfl⟩ := Option.map_eq_some_iff.1 h
  replace h := hq; clear hq
  refine AI nofun ?_
  refine LWp.sim ?_ (zkq h)
  exact y6 (M := [((0, 0), (0, 0)), ((1, 0), (1, 0))]) rfl (AI (VS rfl) (AI (Vw.osl _ _ _ _ rfl) (AI (Vw.ptr _ _ _ _ rfl) (S2 rfl rfl (AI (VS rfl) TT))))) (AI (AI rfl BVw.tok) (AI (AI rfl (BVw.oneL (S2 rfl rfl (AI (VS rfl) TT)))) TT))
theorem zof {a0 : List G_QRecord} {v3 : (List (List UInt8))} {v18 : List G_QRecord} {v19 : Int} {v37 : Int} {v38 : List UInt8} {v39 : List UInt8} {v40 : Bool} {m : Option Nat} {o : (((List G_QRecord) × Int) ⊕ (List G_QRecord))} (h : wl m a0 v3 v18 v19 v37 v38 v39 v40 = some o) :
 LWp Tryz.prog Zc 0 (.loop zx3) (zm 4 (ug Tryz.prog Zc 0 zq2 (zm 3 (ug Tryz.prog Zc 0 zj5 (xt 0 1 (Qz a0 v3) (Jd a0 v3) (K8 a0) o))))) [(0, .isl 3 (a0.map za) false), (6, .osl (0, 0) 3 (v18.map za)), (8, .str (v3.getD v19.toNat default)), (9, .ptr (1, 0) 0 0), (25, .isl 1 (v3.map zb) false), (26, .int .i64 ((v3.map zb).length : Int)), (27, .int .i64 v19), (31, .isl 3 (a0.map za) false), (32, .int .i64 ((a0.map za).length : Int)), (33, .int .i64 v37)] [((0, 0), .tok), ((1, 0), .one [.str v38, .str v39, .bool v40])] 2 :=
 yi (m := m) (s := ((v37, v38, v39, v40) : (Int × (List UInt8) × (List UInt8) × Bool))) (r := o) (fun (s : (Int × (List UInt8) × (List UInt8) × Bool)) => j8 m a0 v3 v18 v19 s.1 s.2.1 s.2.2.1 s.2.2.2) (z02 a0 v3 v18 v19) (z3t a0 v3 v18 v19) (z98 a0 v3) (fun s o h => zkk h) h
theorem zjz {a0 : List G_QRecord} {v18 : List G_QRecord} {m : Option Nat} {o : (List G_QRecord)} (h : uf m v18 = some o) :
 LWp Tryz.prog Zc 0 zo3 (zvw a0 o) [(6, .osl (0, 0) 3 (v18.map za))] [((0, 0), .tok)] 1 := by
 unfold uf at h
 refine zd ?_
 refine ze ?_
 refine u5 ?_
 cases h
 exact AI TT (AI rfl (Vw.oslI _ _ _))
theorem zeq {a0 : List G_QRecord} {v3 : (List (List UInt8))} {v18 : List G_QRecord} {v19 : Int} {m : Option Nat} {o : ((List G_QRecord) × Int) ⊕ (List G_QRecord)} (h : j7 m a0 v3 v18 v19 = some o) :
 LWp Tryz.prog Zc 0 ztk (xt 0 1 (Qz a0 v3) (Jd a0 v3) (K8 a0) o) [(0, .isl 3 (a0.map za) false), (6, .osl (0, 0) 3 (v18.map za)), (25, .isl 1 (v3.map zb) false), (26, .int .i64 ((v3.map zb).length : Int)), (27, .int .i64 v19)] [((0, 0), .tok)] 1 := by
 unfold j7 at h
 refine zd ?_
 refine ze ?_
 refine zd ?_
 refine qj (v := (decide (v19 < ((v3.map zb).length : Int)))) rfl TT (fun h37 => ?_) (fun h37 => ?_)
 ·have h := zk h37 h
  refine qv ?_
  refine zd ?_
  refine yf ?_
  refine zd ?_
  refine ze ?_
  obtain ⟨h38, h⟩ := zc h
  refine AI h38 ?_
  refine EX (zb (v3.getD v19.toNat default)) (AI (qo zb _ _ (ji zb h38)) (AI (AI (k7 h38) (NB rfl)) ?_))
  refine zd ?_
  refine ze ?_
  refine zd ?_
  refine zd ?_
  refine ze ?_
  refine LWp.sim (e := [(0, .isl 3 (a0.map za) false), (6, .osl (0, 0) 3 (v18.map za)), (8, .str (v3.getD v19.toNat default)), (9, .ptr (1, 0) 0 0), (25, .isl 1 (v3.map zb) false), (26, .int .i64 ((v3.map zb).length : Int)), (27, .int .i64 v19), (31, .isl 3 (a0.map za) false), (32, .int .i64 ((a0.map za).length : Int)), (33, .int .i64 0)]) (L := [((0, 0), .tok), ((1, 0), .one [.str ([] : List UInt8), .str ([] : List UInt8), .bool false])]) (n := 2) ?_ ?_
  ·exact y6 (M := [((0, 0), (0, 0)), ((1, 0), (1, 0))]) rfl (AI (VS rfl) (AI (Vw.osl _ _ _ _ rfl) (AI (VS rfl) (AI (Vw.ptr _ _ _ _ rfl) (S4 rfl rfl rfl rfl (S2 rfl rfl TT)))))) (AI (AI rfl BVw.tok) (AI (AI rfl (BVw.oneL (S2 rfl rfl (AI (VS rfl) TT)))) TT))
  refine yf ?_
  refine LWp.sim ?_ (zof h)
  exact y6 (M := [((0, 0), (0, 0)), ((1, 0), (1, 0))]) rfl (AI (VS rfl) (AI (Vw.osl _ _ _ _ rfl) (AI (VS rfl) (AI (Vw.ptr _ _ _ _ rfl) (S4 rfl rfl rfl rfl (S2 rfl rfl TT)))))) (AI (AI rfl BVw.tok) (AI (AI rfl (BVw.oneL (S2 rfl rfl (AI (VS rfl) TT)))) TT))
 ·have h := zw h37 h
  refine Z2 ?_
  obtain ⟨o, hq, rfl⟩ := Option.map_eq_some_iff.1 h
  replace h := hq; clear hq
  refine AI nofun ?_
  refine LWp.sim ?_ (zjz h)
  exact y6 (M := [((0, 0), (0, 0))]) rfl (AI (Vw.osl _ _ _ _ rfl) TT) (AI (AI rfl BVw.tok) TT)
theorem zpu {a0 : List G_QRecord} {v3 : (List (List UInt8))} {v18 : List G_QRecord} {v19 : Int} {m : Option Nat} {o : (List G_QRecord)} (h : wi m a0 v3 v18 v19 = some o) :
 LWp Tryz.prog Zc 0 (.loop ztk) (zm 2 (ug Tryz.prog Zc 0 zo3 (zvw a0 o))) [(0, .isl 3 (a0.map za) false), (6, .osl (0, 0) 3 (v18.map za)), (25, .isl 1 (v3.map zb) false), (26, .int .i64 ((v3.map zb).length : Int)), (27, .int .i64 v19)] [((0, 0), .tok)] 1 :=
 yi (m := m) (s := ((v18, v19) : ((List G_QRecord) × Int))) (r := o) (fun (s : ((List G_QRecord) × Int)) => j7 m a0 v3 s.1 s.2) (Qz a0 v3) (Jd a0 v3) (K8 a0) (fun s o h => zeq h) h
theorem zo1 {a0 : List G_QRecord} {v1 : List (List UInt8)} {m : Option Nat} {o : (List G_QRecord)} (h : wc m a0 v1 = some o) :
 LWp Tryz.prog Zc 0 zns (zvw a0 o) [(0, .isl 3 (a0.map za) false), (3, .osl (0, 0) 1 (v1.map zb))] [((0, 0), .tok)] 1 := by
 unfold wc at h
 refine zd ?_
 refine ze ?_
 refine zd ?_
 refine zd ?_
 refine ze ?_
 obtain ⟨v3, h10, h⟩ := bind_some h
 refine PFn.call (zcr h10) (AI (Vw.oslI _ _ _) TT) ?_
 refine yf ?_
 refine LWp.sim ?_ (zpu h)
 exact y6 (M := []) rfl (AI (VS rfl) (AI (Vw.nilO _ _ (by decide)) (S2 rfl rfl (AI (VS rfl) TT)))) (AI (AI rfl (AI (by decide) (by decide))) TT)
theorem zln {a0 : List G_QRecord} {v1 : List (List UInt8)} {v2 : Int} {m : Option Nat} {o : ((List (List UInt8)) × Int) ⊕ (List G_QRecord)} (h : ja m a0 v1 v2 = some o) :
 LWp Tryz.prog Zc 0 zws (xt 0 1 (z52 a0) (zc1 a0) (zm3 a0) o) [(0, .isl 3 (a0.map za) false), (3, .osl (0, 0) 1 (v1.map zb)), (12, .isl 3 (a0.map za) false), (13, .int .i64 ((a0.map za).length : Int)), (14, .int .i64 v2)] [((0, 0), .tok)] 1 := by
 unfold ja at h
 refine zd ?_
 refine ze ?_
 refine zd ?_
 refine qj (v := (decide (v2 < ((a0.map za).length : Int)))) rfl TT (fun h7 => ?_) (fun h7 => ?_)
 ·have h := zk h7 h
  refine qv ?_
  refine zd ?_
  refine yf ?_
  refine zd ?_
  refine ze ?_
  obtain ⟨h8, h⟩ := zc h
  refine AI h8 ?_
  refine EX (za (a0.getD v2.toNat default)) (AI (qo za _ _ (ji za h8)) (AI (AI (k7 h8) (NB rfl)) ?_))
  refine ze ?_
  obtain ⟨h9, h⟩ := zc h
  refine EX ((v1 ++ ([(a0.getD v2.toNat default).f_Key] : List (List UInt8))).map zb) (AI (Y3 zb v1 ([(a0.getD v2.toNat default).f_Key] : List (List UInt8))) (AI h9 ?_))
  refine LWp.sim (e := [(0, .isl 3 (a0.map za) false), (3, .osl (0, 0) 1 ((v1 ++ ([(a0.getD v2.toNat default).f_Key] : List (List UInt8))).map zb)), (12, .isl 3 (a0.map za) false), (13, .int .i64 ((a0.map za).length : Int)), (14, .int .i64 v2)]) (L := [((0, 0), .tok)]) (n := 1) ?_ ?_
  ·exact y6 (M := [((0, 0), (2, 0))]) rfl (AI (VS rfl) (AI (Vw.osl _ _ _ _ rfl) (S2 rfl rfl (AI (VS rfl) TT)))) (AI (AI rfl BVw.tok) TT)
  refine ze ?_
  cases h
  exact AI rfl (y6 (M := [((0, 0), (0, 0))]) rfl (AI (VS rfl) (AI (Vw.osl _ _ _ _ rfl) (S2 rfl rfl (AI (VS rfl) TT)))) (AI (AI rfl BVw.tok) TT))
 ·have h := zw h7 h
  refine Z2 ?_
  obtain ⟨o, hq, rfl⟩ := Option.map_eq_some_iff.1 h
  replace h := hq; clear hq
  refine AI nofun ?_
  refine LWp.sim ?_ (zo1 h)
  exact y6 (M := [((0, 0), (0, 0))]) rfl (AI (VS rfl) (AI (Vw.osl _ _ _ _ rfl) TT)) (AI (AI rfl BVw.tok) TT)
theorem znq {a0 : List G_QRecord} {v1 : List (List UInt8)} {v2 : Int} {m : Option Nat} {o : (List G_QRecord)} (h : wh m a0 v1 v2 = some o) :
 LWp Tryz.prog Zc 0 (.loop zws) (zm 0 (ug Tryz.prog Zc 0 zns (zvw a0 o))) [(0, .isl 3 (a0.map za) false), (3, .osl (0, 0) 1 (v1.map zb)), (12, .isl 3 (a0.map za) false), (13, .int .i64 ((a0.map za).length : Int)), (14, .int .i64 v2)] [((0, 0), .tok)] 1 :=
 yi (m := m) (s := ((v1, v2) : ((List (List UInt8)) × Int))) (r := o) (fun (s : ((List (List UInt8)) × Int)) => ja m a0 s.1 s.2) (z52 a0) (zc1 a0) (zm3 a0) (fun s o h => zln h) h
noncomputable def xh (m : Option Nat) (a0 : List G_QRecord) : Option (List G_QRecord) :=
 wh m a0 [] 0
theorem zpg {a0 : List G_QRecord} {m : Option Nat} {o : (List G_QRecord)} (h : xh m a0 = some o) : LWp Tryz.prog Zc 0 zye (zvw a0 o) (zz 0 [.isl 3 (a0.map za) false]) [] 0 := by
 unfold xh at h
 refine zd ?_
 refine ze ?_
 refine zd ?_
 refine ze ?_
 refine zd ?_
 refine zd ?_
 refine ze ?_
 refine yf ?_
 refine LWp.sim ?_ (znq h)
 exact y6 (M := []) rfl (AI (VS rfl) (AI (Vw.nilO _ _ (by decide)) (S2 rfl rfl (AI (VS rfl) TT)))) (AI (AI rfl (AI (by decide) (by decide))) TT)
theorem y1z {a0 : List G_QRecord} {m : Option Nat} {o : (List G_QRecord)} (h : xh m a0 = some o) : PFn Tryz.prog 8 [.isl 3 (a0.map za) false] (.isl 3 (o.map za) false) := PFn.ofFnW (L := y2x) y0o zzi (NB rfl) rfl (zpg h)
def zsy : LCode := (.seq (.region [⟨some 2, .mv (.c (.str [])), none⟩])
 (.seq (.region [⟨some 3, .mv (.t 0), none⟩,
  ⟨some 4, .bin .rem (.t 3) (.c (.int .u32 16)), none⟩,
  ⟨some 5, .mv (.t 0), none⟩,
  ⟨some 6, .bin .rem (.t 5) (.c (.int .u32 16)), none⟩,
  ⟨some 7, .bin .add (.t 6) (.c (.int .u32 1)), none⟩,
  ⟨some 8, .slStr (.c (.str [48, 49, 50, 51, 52, 53, 54, 55, 56, 57, 97, 98, 99, 100, 101, 102])) (some (.t 4)) (some (.t 7)), none⟩,
  ⟨some 2, .mv (.t 8), none⟩])
 .ret))
def zn0 : Lay := ⟨9, [], false⟩
def zj8 : List LRes := [.t 2]
def zz8 : LFn := ⟨1, zn0, zsy, zj8⟩
theorem zwi : ww Tryz.prog [] 51 = some zz8 := by kernel_rfl
theorem zw4 : Z9 Tryz.prog 51 := ⟨_, Tryz.func51, rfl, rfl⟩
noncomputable def j4 (m : Option Nat) (a0 : Int) : Option (List UInt8) :=
 if (0 : Int) ≤ (a0.tmod 16) ∧ (a0.tmod 16) ≤ (IntKind.wrap .u32 ((a0.tmod 16) + 1)) ∧ (IntKind.wrap .u32 ((a0.tmod 16) + 1)) ≤ (([48, 49, 50, 51, 52, 53, 54, 55, 56, 57, 97, 98, 99, 100, 101, 102] : List UInt8).length : Int) then
 some ((([48, 49, 50, 51, 52, 53, 54, 55, 56, 57, 97, 98, 99, 100, 101, 102] : List UInt8).take (IntKind.wrap .u32 ((a0.tmod 16) + 1)).toNat).drop (a0.tmod 16).toNat)
 else none
def y27 (a0 : Int) (o : (List UInt8)) : Exit → Env → AHeap → Nat → Prop := Zy zj8 (q6 (.str o))
theorem zhx {a0 : Int} {m : Option Nat} {o : (List UInt8)} (h : j4 m a0 = some o) : LWp Tryz.prog zn0 0 zsy (y27 a0 o) (zz 0 [.int .u32 a0]) [] 0 := by
 unfold j4 at h
 refine zd ?_
 refine ze ?_
 refine zd ?_
 refine ze ?_
 refine AI (by decide) ?_
 refine AI (by decide) ?_
 obtain ⟨h1, h⟩ := zc h
 refine AI h1 ?_
 refine LWp.sim (e := [(2, .str ((([48, 49, 50, 51, 52, 53, 54, 55, 56, 57, 97, 98, 99, 100, 101, 102] : List UInt8).take (IntKind.wrap .u32 ((a0.tmod 16) + 1)).toNat).drop (a0.tmod 16).toNat))]) (L := []) (n := 0) ?_ ?_
 ·exact y6 (M := []) rfl (AI (VS rfl) TT) TT
 refine u5 ?_
 cases h
 exact AI TT (AI rfl (VS rfl))
theorem zz4 {a0 : Int} {m : Option Nat} {o : (List UInt8)} (h : j4 m a0 = some o) : PFn Tryz.prog 51 [.int .u32 a0] (.str o) := PFn.ofFnW (L := zz8) zwi zw4 (NB rfl) rfl (zhx h)
def zh1 : LCode := (.seq (.seq (.region [⟨some 10, .mv (.t 5), none⟩,
 ⟨some 11, .bin .lss (.t 10) (.c (.int .i64 8)), none⟩])
 (.cond (.t 11)
  .skip
  (.exit 0)))
 (.seq (.block 1
  (.seq (.region [⟨some 14, .mv (.t 4), none⟩,
   ⟨some 15, .call 51 [(.t 14)], none⟩,
   ⟨some 16, .mv (.t 3), none⟩,
   ⟨some 17, .bin .add (.t 15) (.t 16), none⟩,
   ⟨some 3, .mv (.t 17), none⟩])
  (.region [⟨some 18, .mv (.t 4), none⟩,
   ⟨some 19, .bin .quo (.t 18) (.c (.int .u32 16)), none⟩,
   ⟨some 4, .mv (.t 19), none⟩])))
 (.region [⟨some 12, .mv (.t 5), none⟩,
  ⟨some 13, .bin .add (.t 12) (.c (.int .i64 1)), none⟩,
  ⟨some 5, .mv (.t 13), none⟩])))
def zh6 : LCode := (.seq (.region [⟨some 24, .bin .lss (.t 23) (.t 22), none⟩])
 (.seq (.cond (.t 24)
  .skip
  (.exit 2))
 (.seq (.block 3
  (.seq (.region [⟨some 25, .iaddr 1 (.t 21) (.t 23), none⟩,
   ⟨some 26, .load false 1 (.t 25), none⟩,
   ⟨some 7, .mv (.t 26), none⟩])
  (.region [⟨some 27, .mv (.t 3), none⟩,
   ⟨some 28, .mv (.t 7), none⟩,
   ⟨some 29, .bin .add (.c (.str [32])) (.t 28), none⟩,
   ⟨some 30, .bin .add (.t 27) (.t 29), none⟩,
   ⟨some 3, .mv (.t 30), none⟩])))
 (.region [⟨some 31, .bin .add (.t 23) (.c (.int .i64 1)), none⟩,
  ⟨some 23, .mv (.t 31), none⟩]))))
def zbt : LCode := (.seq (.region [⟨some 32, .mv (.t 3), none⟩,
 ⟨some 2, .mv (.t 32), none⟩])
 .ret)
def zc4 : LCode := (.seq (.seq (.region [⟨some 20, .faddr 2 (.t 1), none⟩,
 ⟨some 21, .load false 1 (.t 20), none⟩,
 ⟨some 22, .len false (.t 21), none⟩,
 ⟨some 23, .mv (.c (.int .i64 0)), none⟩])
 (.block 2
  (.loop
   zh6)))
 zbt)
def zre : LCode := (.seq (.region [⟨some 1, .box (.t 0), none⟩,
 ⟨some 2, .mv (.c (.str [])), none⟩])
 (.seq (.region [⟨some 3, .mv (.c (.str [])), none⟩])
 (.seq (.seq (.region [⟨some 8, .faddr 1 (.t 1), none⟩,
  ⟨some 9, .load false 1 (.t 8), none⟩,
  ⟨some 4, .mv (.t 9), none⟩,
  ⟨some 5, .mv (.c (.int .i64 0)), none⟩])
 (.block 0
  (.loop
   zh1)))
 zc4)))
def Yk : Lay := ⟨33, [], false⟩
def zmp : List LRes := [.t 2]
def zzs : LFn := ⟨1, Yk, zre, zmp⟩
theorem zvj : ww Tryz.prog [] 30 = some zzs := by kernel_rfl
theorem zwz : Z9 Tryz.prog 30 := ⟨_, Tryz.func30, rfl, rfl⟩
def z9t (a0 : G_QIndexEntry) (o : (List UInt8)) : Exit → Env → AHeap → Nat → Prop := Zy zmp (q6 (.str o))
def z1z (a0 : G_QIndexEntry) (s : ((List UInt8) × Int × Int)) : Env := [(1, .ptr (0, 0) 0 0), (3, .str s.1), (4, .int .u32 s.2.1), (5, .int .i64 s.2.2)]
def z4j (a0 : G_QIndexEntry) (s : ((List UInt8) × Int × Int)) : AHeap := [((0, 0), .one [.str a0.f_Name, .int .u32 a0.f_Sum, .isl 1 (a0.f_Words.map zb) false])]
def za4 (a0 : G_QIndexEntry) (o : (List UInt8)) : Exit → Env → AHeap → Nat → Prop := (zm 0 (ug Tryz.prog Yk 0 zc4 (z9t a0 o)))
noncomputable def ke (m : Option Nat) (v7 : List UInt8) : Option (List UInt8) :=
 some v7
noncomputable def xv (m : Option Nat) (a0 : G_QIndexEntry) (v7 : List UInt8) (v8 : Int) : Option (((List UInt8) × Int) ⊕ (List UInt8)) :=
 if (decide (v8 < ((a0.f_Words.map zb).length : Int))) = true then
  if (0 : Int) ≤ v8 ∧ v8 < ((a0.f_Words.map zb).length : Int) then
  if (((([32] : List UInt8).length + (a0.f_Words.getD v8.toNat default).length : Nat) : Int) ≤ 9223372036854775807) then
  if (((v7.length + (([32] : List UInt8) ++ (a0.f_Words.getD v8.toNat default)).length : Nat) : Int) ≤ 9223372036854775807) then
  some (.inl ((v7 ++ (([32] : List UInt8) ++ (a0.f_Words.getD v8.toNat default))), (W (v8 + 1))))
  else none
  else none
  else none
 else
  Option.map Sum.inr (
   ke m v7)
noncomputable def kb (m : Option Nat) (a0 : G_QIndexEntry) (v7 : List UInt8) (v8 : Int) : Option (List UInt8) := u4 m (fun (s : ((List UInt8) × Int)) => xv m a0 s.1 s.2) (v7, v8)
noncomputable def xu (m : Option Nat) (a0 : G_QIndexEntry) (v2 : List UInt8) : Option (List UInt8) :=
 kb m a0 v2 0
noncomputable def ql (m : Option Nat) (a0 : G_QIndexEntry) (v2 : List UInt8) (v3 : Int) (v4 : Int) : Option (((List UInt8) × Int × Int) ⊕ (List UInt8)) :=
 if (decide (v4 < 8)) = true then
  (j4 m v3).bind fun v6 =>
  if (((v6.length + v2.length : Nat) : Int) ≤ 9223372036854775807) then
  some (.inl ((v6 ++ v2), (IntKind.wrap .u32 (v3.tdiv 16)), (W (v4 + 1))))
  else none
 else
  Option.map Sum.inr (
   xu m a0 v2)
noncomputable def xx (m : Option Nat) (a0 : G_QIndexEntry) (v2 : List UInt8) (v3 : Int) (v4 : Int) : Option (List UInt8) := u4 m (fun (s : ((List UInt8) × Int × Int)) => ql m a0 s.1 s.2.1 s.2.2) (v2, v3, v4)
def z1m (a0 : G_QIndexEntry) (s : ((List UInt8) × Int)) : Env := [(3, .str s.1), (21, .isl 1 (a0.f_Words.map zb) false), (22, .int .i64 ((a0.f_Words.map zb).length : Int)), (23, .int .i64 s.2)]
def z4v (a0 : G_QIndexEntry) (s : ((List UInt8) × Int)) : AHeap := []
def zbj (a0 : G_QIndexEntry) (o : (List UInt8)) : Exit → Env → AHeap → Nat → Prop := (zm 2 (ug Tryz.prog Yk 0 zbt (z9t a0 o)))
theorem zk6 {a0 : G_QIndexEntry} {v7 : List UInt8} {m : Option Nat} {o : (List UInt8)} (h : ke m v7 = some o) :
 LWp Tryz.prog Yk 0 zbt (z9t a0 o) [(3, .str v7)] [] 0 := by
 unfold ke at h
 refine zd ?_
 refine ze ?_
 refine u5 ?_
 cases h
 exact AI TT (AI rfl (VS rfl))
theorem zdp {a0 : G_QIndexEntry} {v7 : List UInt8} {v8 : Int} {m : Option Nat} {o : ((List UInt8) × Int) ⊕ (List UInt8)} (h : xv m a0 v7 v8 = some o) :
 LWp Tryz.prog Yk 0 zh6 (xt 0 0 (z1m a0) (z4v a0) (zbj a0) o) [(3, .str v7), (21, .isl 1 (a0.f_Words.map zb) false), (22, .int .i64 ((a0.f_Words.map zb).length : Int)), (23, .int .i64 v8)] [] 0 := by
 unfold xv at h
 refine zd ?_
 refine ze ?_
 refine zd ?_
 refine qj (v := (decide (v8 < ((a0.f_Words.map zb).length : Int)))) rfl TT (fun h18 => ?_) (fun h18 => ?_)
 ·have h := zk h18 h
  refine qv ?_
  refine zd ?_
  refine yf ?_
  refine zd ?_
  refine ze ?_
  obtain ⟨h19, h⟩ := zc h
  refine AI h19 ?_
  refine EX (zb (a0.f_Words.getD v8.toNat default)) (AI (qo zb _ _ (ji zb h19)) (AI (AI (k7 h19) (NB rfl)) ?_))
  refine ze ?_
  obtain ⟨h20, h⟩ := zc h
  refine AI h20 ?_
  obtain ⟨h21, h⟩ := zc h
  refine AI h21 ?_
  refine LWp.sim (e := [(3, .str (v7 ++ (([32] : List UInt8) ++ (a0.f_Words.getD v8.toNat default)))), (21, .isl 1 (a0.f_Words.map zb) false), (22, .int .i64 ((a0.f_Words.map zb).length : Int)), (23, .int .i64 v8)]) (L := []) (n := 0) ?_ ?_
  ·exact y6 (M := []) rfl (S4 rfl rfl rfl rfl TT) TT
  refine ze ?_
  cases h
  exact AI rfl (y6 (M := []) rfl (S4 rfl rfl rfl rfl TT) TT)
 ·have h := zw h18 h
  refine Z2 ?_
  obtain ⟨o, hq, rfl⟩ := Option.map_eq_some_iff.1 h
  replace h := hq; clear hq
  refine AI nofun ?_
  refine LWp.sim ?_ (zk6 h)
  exact y6 (M := []) rfl (AI (VS rfl) TT) TT
theorem zld {a0 : G_QIndexEntry} {v7 : List UInt8} {v8 : Int} {m : Option Nat} {o : (List UInt8)} (h : kb m a0 v7 v8 = some o) :
 LWp Tryz.prog Yk 0 (.loop zh6) (zm 2 (ug Tryz.prog Yk 0 zbt (z9t a0 o))) [(3, .str v7), (21, .isl 1 (a0.f_Words.map zb) false), (22, .int .i64 ((a0.f_Words.map zb).length : Int)), (23, .int .i64 v8)] [] 0 :=
 yi (m := m) (s := ((v7, v8) : ((List UInt8) × Int))) (r := o) (fun (s : ((List UInt8) × Int)) => xv m a0 s.1 s.2) (z1m a0) (z4v a0) (zbj a0) (fun s o h => zdp h) h
theorem zj9 {a0 : G_QIndexEntry} {v2 : List UInt8} {m : Option Nat} {o : (List UInt8)} (h : xu m a0 v2 = some o) :
 LWp Tryz.prog Yk 0 zc4 (z9t a0 o) [(1, .ptr (0, 0) 0 0), (3, .str v2)] [((0, 0), .one [.str a0.f_Name, .int .u32 a0.f_Sum, .isl 1 (a0.f_Words.map zb) false])] 1 := by
 unfold xu at h
 refine zd ?_
 refine zd ?_
 refine ze ?_
 refine yf ?_
 refine LWp.sim ?_ (zld h)
 exact y6 (M := []) rfl (S4 rfl rfl rfl rfl TT) TT
theorem zea {a0 : G_QIndexEntry} {v2 : List UInt8} {v3 : Int} {v4 : Int} {m : Option Nat} {o : ((List UInt8) × Int × Int) ⊕ (List UInt8)} (h : ql m a0 v2 v3 v4 = some o) :
 LWp Tryz.prog Yk 0 zh1 (xt 0 1 (z1z a0) (z4j a0) (za4 a0) o) [(1, .ptr (0, 0) 0 0), (3, .str v2), (4, .int .u32 v3), (5, .int .i64 v4)] [((0, 0), .one [.str a0.f_Name, .int .u32 a0.f_Sum, .isl 1 (a0.f_Words.map zb) false])] 1 := by
 unfold ql at h
 refine zd ?_
 refine zd ?_
 refine ze ?_
 refine qj (v := (decide (v4 < 8))) rfl TT (fun h7 => ?_) (fun h7 => ?_)
 ·have h := zk h7 h
  refine qv ?_
  refine zd ?_
  refine yf ?_
  refine zd ?_
  refine ze ?_
  obtain ⟨v6, h8, h⟩ := bind_some h
  refine PFn.call (zz4 h8) (AI (VS rfl) TT) ?_
  obtain ⟨h9, h⟩ := zc h
  refine AI h9 ?_
  refine ze ?_
  refine AI (by decide) ?_
  refine LWp.sim (e := [(1, .ptr (0, 0) 0 0), (3, .str (v6 ++ v2)), (4, .int .u32 (IntKind.wrap .u32 (v3.tdiv 16))), (5, .int .i64 v4)]) (L := [((0, 0), .one [.str a0.f_Name, .int .u32 a0.f_Sum, .isl 1 (a0.f_Words.map zb) false])]) (n := 1) ?_ ?_
  ·exact y6 (M := [((0, 0), (0, 0))]) rfl (AI (Vw.ptr _ _ _ _ rfl) (S2 rfl rfl (AI (VS rfl) TT))) (AI (AI rfl (BVw.oneL (S2 rfl rfl (AI (VS rfl) TT)))) TT)
  refine ze ?_
  cases h
  exact AI rfl (y6 (M := [((0, 0), (0, 0))]) rfl (AI (Vw.ptr _ _ _ _ rfl) (S2 rfl rfl (AI (VS rfl) TT))) (AI (AI rfl (BVw.oneL (S2 rfl rfl (AI (VS rfl) TT)))) TT))
 ·have h := zw h7 h
  refine Z2 ?_
  obtain ⟨o, hq, rfl⟩ := Option.map_eq_some_iff.1 h
  replace h := hq; clear hq
  refine AI nofun ?_
  refine LWp.sim ?_ (zj9 h)
  exact y6 (M := [((0, 0), (0, 0))]) rfl (AI (Vw.ptr _ _ _ _ rfl) (AI (VS rfl) TT)) (AI (AI rfl (BVw.oneL (S2 rfl rfl (AI (VS rfl) TT)))) TT)
theorem zfv {a0 : G_QIndexEntry} {v2 : List UInt8} {v3 : Int} {v4 : Int} {m : Option Nat} {o : (List UInt8)} (h : xx m a0 v2 v3 v4 = some o) :
 LWp Tryz.prog Yk 0 (.loop zh1) (zm 0 (ug Tryz.prog Yk 0 zc4 (z9t a0 o))) [(1, .ptr (0, 0) 0 0), (3, .str v2), (4, .int .u32 v3), (5, .int .i64 v4)] [((0, 0), .one [.str a0.f_Name, .int .u32 a0.f_Sum, .isl 1 (a0.f_Words.map zb) false])] 1 :=
 yi (m := m) (s := ((v2, v3, v4) : ((List UInt8) × Int × Int))) (r := o) (fun (s : ((List UInt8) × Int × Int)) => ql m a0 s.1 s.2.1 s.2.2) (z1z a0) (z4j a0) (za4 a0) (fun s o h => zea h) h
noncomputable def xm (m : Option Nat) (a0 : G_QIndexEntry) : Option (List UInt8) :=
 xx m a0 ([] : List UInt8) a0.f_Sum 0
theorem zgy {a0 : G_QIndexEntry} {m : Option Nat} {o : (List UInt8)} (h : xm m a0 = some o) : LWp Tryz.prog Yk 0 zre (z9t a0 o) (zz 0 [.agg [.str a0.f_Name, .int .u32 a0.f_Sum, .isl 1 (a0.f_Words.map zb) false]]) [] 0 := by
 unfold xm at h
 refine zd ?_
 refine ze ?_
 refine zd ?_
 refine ze ?_
 refine zd ?_
 refine zd ?_
 refine ze ?_
 refine yf ?_
 refine LWp.sim ?_ (zfv h)
 exact y6 (M := [((0, 0), (0, 0))]) rfl (AI (Vw.ptr _ _ _ _ rfl) (S2 rfl rfl (AI (VS rfl) TT))) (AI (AI rfl (BVw.oneL (S2 rfl rfl (AI (VS rfl) TT)))) TT)
theorem zxr {a0 : G_QIndexEntry} {m : Option Nat} {o : (List UInt8)} (h : xm m a0 = some o) : PFn Tryz.prog 30 [.agg [.str a0.f_Name, .int .u32 a0.f_Sum, .isl 1 (a0.f_Words.map zb) false]] (.str o) := PFn.ofFnW (L := zzs) zvj zwz (NB rfl) rfl (zgy h)
def zr9 : LCode := (.seq (.region [⟨some 2, .mv (.c (.bool false)), none⟩])
 (.seq (.region [⟨some 3, .mv (.t 0), none⟩,
  ⟨some 4, .bin .geq (.t 3) (.c (.int .u8 97)), none⟩,
  ⟨some 5, .mv (.t 4), none⟩,
  ⟨some 6, .mv (.t 0), some (5, true)⟩,
  ⟨some 7, .bin .leq (.t 6) (.c (.int .u8 122)), some (5, true)⟩,
  ⟨some 8, .pick (.t 5) (.t 7) (.c (.bool false)), none⟩,
  ⟨some 9, .mv (.t 8), none⟩,
  ⟨some 10, .mv (.t 0), some (9, false)⟩,
  ⟨some 11, .bin .geq (.t 10) (.c (.int .u8 65)), some (9, false)⟩,
  ⟨some 12, .mv (.t 11), some (9, false)⟩,
  ⟨some 13, .mv (.t 0), some (12, true)⟩,
  ⟨some 14, .bin .leq (.t 13) (.c (.int .u8 90)), some (12, true)⟩,
  ⟨some 15, .pick (.t 12) (.t 14) (.c (.bool false)), some (9, false)⟩,
  ⟨some 16, .pick (.t 9) (.c (.bool true)) (.t 15), none⟩,
  ⟨some 17, .mv (.t 16), none⟩,
  ⟨some 18, .mv (.t 0), some (17, false)⟩,
  ⟨some 19, .bin .geq (.t 18) (.c (.int .u8 48)), some (17, false)⟩,
  ⟨some 20, .mv (.t 19), some (17, false)⟩,
  ⟨some 21, .mv (.t 0), some (20, true)⟩,
  ⟨some 22, .bin .leq (.t 21) (.c (.int .u8 57)), some (20, true)⟩,
  ⟨some 23, .pick (.t 20) (.t 22) (.c (.bool false)), some (17, false)⟩,
  ⟨some 24, .pick (.t 17) (.c (.bool true)) (.t 23), none⟩,
  ⟨some 25, .mv (.t 24), none⟩,
  ⟨some 26, .mv (.t 0), some (25, false)⟩,
  ⟨some 27, .bin .eql (.t 26) (.c (.int .u8 95)), some (25, false)⟩,
  ⟨some 28, .pick (.t 25) (.c (.bool true)) (.t 27), none⟩,
  ⟨some 2, .mv (.t 28), none⟩])
 .ret))
def zh2 : Lay := ⟨29, [], false⟩
def zgl : List LRes := [.t 2]
def zyy : LFn := ⟨1, zh2, zr9, zgl⟩
theorem zvn : ww Tryz.prog [] 52 = some zyy := by kernel_rfl
theorem ztm : Z9 Tryz.prog 52 := ⟨_, Tryz.func52, rfl, rfl⟩
noncomputable def j2 (m : Option Nat) (a0 : Int) : Option Bool :=
 some (((((decide (a0 ≥ 97)) && (decide (a0 ≤ 122))) || ((decide (a0 ≥ 65)) && (decide (a0 ≤ 90)))) || ((decide (a0 ≥ 48)) && (decide (a0 ≤ 57)))) || (a0 == 95))
def y1u (a0 : Int) (o : Bool) : Exit → Env → AHeap → Nat → Prop := Zy zgl (q6 (.bool o))
theorem zmh {a0 : Int} {m : Option Nat} {o : Bool} (h : j2 m a0 = some o) : LWp Tryz.prog zh2 0 zr9 (y1u a0 o) (zz 0 [.int .u8 a0]) [] 0 := by
 unfold j2 at h
 refine zd ?_
 refine ze ?_
 refine zd ?_
 refine ze ?_
 refine AI (fun hp => hp) ?_
 refine AI (fun hc => (bqt hc)) ?_
 refine AI (fun hp => hp) ?_
 refine AI (fun hp => hp) ?_
 refine AI (fun hp => hp) ?_
 refine AI (fun hp => (AI hp (fun hc => (z9w hp (bqt hc))))) ?_
 refine AI (fun hc => (bqf hc)) ?_
 refine AI (fun hp => hp) ?_
 refine AI (fun hp => hp) ?_
 refine AI (fun hp => hp) ?_
 refine AI (fun hp => (AI hp (fun hc => (z9w hp (bqt hc))))) ?_
 refine AI (fun hc => (bqf hc)) ?_
 refine AI (fun hp => hp) ?_
 refine AI (fun hc => (bqf hc)) ?_
 refine LWp.sim (e := [(2, .bool (((((decide (a0 ≥ 97)) && (decide (a0 ≤ 122))) || ((decide (a0 ≥ 65)) && (decide (a0 ≤ 90)))) || ((decide (a0 ≥ 48)) && (decide (a0 ≤ 57)))) || (a0 == 95)))]) (L := []) (n := 0) ?_ ?_
 ·exact y6 (M := []) rfl (AI (VS rfl) TT) TT
 refine u5 ?_
 cases h
 exact AI TT (AI rfl (VS rfl))
theorem zr0 {a0 : Int} {m : Option Nat} {o : Bool} (h : j2 m a0 = some o) : PFn Tryz.prog 52 [.int .u8 a0] (.bool o) := PFn.ofFnW (L := zyy) zvn ztm (NB rfl) rfl (zmh h)
def zju : LCode := (.seq (.region [⟨some 36, .bin .lss (.t 35) (.t 34), none⟩])
 (.seq (.cond (.t 36)
  .skip
  (.exit 2))
 (.seq (.block 3
  (.seq (.region [⟨some 37, .mv (.t 35), none⟩,
   ⟨some 7, .mv (.t 37), none⟩])
  (.region [⟨some 38, .mv (.t 4), none⟩,
   ⟨some 39, .mv (.t 38), none⟩,
   ⟨some 40, .mv (.t 6), some (39, true)⟩,
   ⟨some 41, .mv (.t 7), some (39, true)⟩,
   ⟨some 42, .idxS (.t 40) (.t 41), some (39, true)⟩,
   ⟨some 43, .call 52 [(.t 42)], some (39, true)⟩,
   ⟨some 44, .pick (.t 39) (.t 43) (.c (.bool false)), none⟩,
   ⟨some 4, .mv (.t 44), none⟩])))
 (.region [⟨some 45, .bin .add (.t 35) (.c (.int .i64 1)), none⟩,
  ⟨some 35, .mv (.t 45), none⟩]))))
def zb7 : LCode := (.region [⟨some 46, .bin .add (.t 19) (.c (.int .i64 1)), none⟩,
 ⟨some 19, .mv (.t 46), none⟩])
def zjh : LCode := (.seq (.region [⟨some 20, .bin .lss (.t 19) (.t 18), none⟩])
 (.seq (.cond (.t 20)
  .skip
  (.exit 0))
 (.seq (.block 1
  (.seq (.region [⟨some 21, .iaddr 1 (.t 17) (.t 19), none⟩,
   ⟨some 22, .load false 1 (.t 21), none⟩,
   ⟨some 6, .mv (.t 22), none⟩])
  (.seq (.region [⟨some 23, .mv (.t 3), none⟩,
   ⟨some 24, .mv (.t 6), none⟩,
   ⟨some 25, .len true (.t 24), none⟩,
   ⟨some 26, .bin .add (.t 25) (.c (.int .i64 1)), none⟩,
   ⟨some 27, .bin .add (.t 23) (.t 26), none⟩,
   ⟨some 3, .mv (.t 27), none⟩])
  (.seq (.region [⟨some 28, .mv (.t 4), none⟩,
   ⟨some 29, .mv (.t 28), none⟩,
   ⟨some 30, .mv (.t 6), some (29, true)⟩,
   ⟨some 31, .bin .neq (.t 30) (.c (.str [])), some (29, true)⟩,
   ⟨some 32, .pick (.t 29) (.t 31) (.c (.bool false)), none⟩,
   ⟨some 4, .mv (.t 32), none⟩])
  (.seq (.region [⟨some 33, .mv (.t 6), none⟩,
   ⟨some 34, .len true (.t 33), none⟩,
   ⟨some 35, .mv (.c (.int .i64 0)), none⟩])
  (.block 2
   (.loop
    zju)))))))
 zb7)))
def zc2 : LCode := (.seq (.region [⟨some 47, .mv (.t 4), none⟩,
 ⟨some 48, .mv (.t 47), none⟩,
 ⟨some 49, .mv (.t 3), some (48, true)⟩,
 ⟨some 50, .bin .leq (.t 49) (.c (.int .i64 2001)), some (48, true)⟩,
 ⟨some 51, .pick (.t 48) (.t 50) (.c (.bool false)), none⟩,
 ⟨some 2, .mv (.t 51), none⟩])
 .ret)
def zr3 : LCode := (.seq (.region [⟨some 2, .mv (.c (.bool false)), none⟩])
 (.seq (.region [⟨some 3, .mv (.c (.int .i64 0)), none⟩])
 (.seq (.region [⟨some 8, .mv (.t 0), none⟩,
  ⟨some 9, .len false (.t 8), none⟩,
  ⟨some 10, .bin .leq (.t 9) (.c (.int .i64 400)), none⟩,
  ⟨some 11, .mv (.t 10), none⟩,
  ⟨some 12, .mv (.t 0), some (11, true)⟩,
  ⟨some 13, .mv (.t 0), some (11, true)⟩,
  ⟨some 14, .call 14 [(.t 13)], some (11, true)⟩,
  ⟨some 15, .call 13 [(.t 12), (.t 14)], some (11, true)⟩,
  ⟨some 16, .pick (.t 11) (.t 15) (.c (.bool false)), none⟩,
  ⟨some 4, .mv (.t 16), none⟩])
 (.seq (.seq (.region [⟨some 17, .mv (.t 0), none⟩,
  ⟨some 18, .len false (.t 17), none⟩,
  ⟨some 19, .mv (.c (.int .i64 0)), none⟩])
 (.block 0
  (.loop
   zjh)))
 zc2))))
def Yi : Lay := ⟨52, [], false⟩
def zg4 : List LRes := [.t 2]
def zyl : LFn := ⟨1, Yi, zr3, zg4⟩
theorem zwd : ww Tryz.prog [] 31 = some zyl := by kernel_rfl
theorem zua : Z9 Tryz.prog 31 := ⟨_, Tryz.func31, rfl, rfl⟩
def zoi (a0 : List (List UInt8)) (o : Bool) : Exit → Env → AHeap → Nat → Prop := Zy zg4 (q6 (.bool o))
def X4 (a0 : List (List UInt8)) (s : (Int × Bool × Int)) : Env := [(3, .int .i64 s.1), (4, .bool s.2.1), (17, .isl 1 (a0.map zb) false), (18, .int .i64 ((a0.map zb).length : Int)), (19, .int .i64 s.2.2)]
def J6 (a0 : List (List UInt8)) (s : (Int × Bool × Int)) : AHeap := []
def Vb (a0 : List (List UInt8)) (o : Bool) : Exit → Env → AHeap → Nat → Prop := (zm 0 (ug Tryz.prog Yi 0 zc2 (zoi a0 o)))
def z2v (a0 : List (List UInt8)) (v8 : Int) (v10 : Int) (s : (Bool × Int)) : Env := [(3, .int .i64 (W (v8 + (W (((a0.getD v10.toNat default).length : Int) + 1))))), (4, .bool s.1), (6, .str (a0.getD v10.toNat default)), (17, .isl 1 (a0.map zb) false), (18, .int .i64 ((a0.map zb).length : Int)), (19, .int .i64 v10), (34, .int .i64 ((a0.getD v10.toNat default).length : Int)), (35, .int .i64 s.2)]
def z54 (a0 : List (List UInt8)) (v8 : Int) (v10 : Int) (s : (Bool × Int)) : AHeap := []
def zcq (a0 : List (List UInt8)) (o : ((Int × Bool × Int) ⊕ Bool)) : Exit → Env → AHeap → Nat → Prop := (zm 2 (zm 1 (ug Tryz.prog Yi 0 zb7 (xt 0 0 (X4 a0) (J6 a0) (Vb a0) o))))
noncomputable def xq (m : Option Nat) (a0 : List (List UInt8)) (v8 : Int) (v10 : Int) (v17 : Bool) : Option ((Int × Bool × Int) ⊕ Bool) :=
 some (.inl ((W (v8 + (W (((a0.getD v10.toNat default).length : Int) + 1)))), v17, (W (v10 + 1))))
noncomputable def qm (m : Option Nat) (a0 : List (List UInt8)) (v8 : Int) (v10 : Int) (v17 : Bool) (v18 : Int) : Option ((Bool × Int) ⊕ ((Int × Bool × Int) ⊕ Bool)) :=
 if (decide (v18 < ((a0.getD v10.toNat default).length : Int))) = true then
  if ((v17 == true) = true → (0 : Int) ≤ v18 ∧ v18 < ((a0.getD v10.toNat default).length : Int)) then
  (if (v17 == true) = true then j2 m ((((a0.getD v10.toNat default).getD v18.toNat 0).toNat : Nat) : Int) else some default).bind fun v20 =>
  some (.inl ((v17 && v20), (W (v18 + 1))))
  else none
 else
  Option.map Sum.inr (
   xq m a0 v8 v10 v17)
noncomputable def xw (m : Option Nat) (a0 : List (List UInt8)) (v8 : Int) (v10 : Int) (v17 : Bool) (v18 : Int) : Option ((Int × Bool × Int) ⊕ Bool) := u4 m (fun (s : (Bool × Int)) => qm m a0 v8 v10 s.1 s.2) (v17, v18)
theorem zi1 {a0 : List (List UInt8)} {v8 : Int} {v10 : Int} {v17 : Bool} {m : Option Nat} {o : ((Int × Bool × Int) ⊕ Bool)} (h : xq m a0 v8 v10 v17 = some o) :
 LWp Tryz.prog Yi 0 zb7 (xt 0 0 (X4 a0) (J6 a0) (Vb a0) o) [(3, .int .i64 (W (v8 + (W (((a0.getD v10.toNat default).length : Int) + 1))))), (4, .bool v17), (17, .isl 1 (a0.map zb) false), (18, .int .i64 ((a0.map zb).length : Int)), (19, .int .i64 v10)] [] 0 := by
 unfold xq at h
 refine ze ?_
 cases h
 exact AI rfl (y6 (M := []) rfl (S4 rfl rfl rfl rfl (AI (VS rfl) TT)) TT)
theorem zdm {a0 : List (List UInt8)} {v8 : Int} {v10 : Int} {v17 : Bool} {v18 : Int} {m : Option Nat} {o : (Bool × Int) ⊕ ((Int × Bool × Int) ⊕ Bool)} (h : qm m a0 v8 v10 v17 v18 = some o) :
 LWp Tryz.prog Yi 0 zju (xt 0 0 (z2v a0 v8 v10) (z54 a0 v8 v10) (zcq a0) o) [(3, .int .i64 (W (v8 + (W (((a0.getD v10.toNat default).length : Int) + 1))))), (4, .bool v17), (6, .str (a0.getD v10.toNat default)), (17, .isl 1 (a0.map zb) false), (18, .int .i64 ((a0.map zb).length : Int)), (19, .int .i64 v10), (34, .int .i64 ((a0.getD v10.toNat default).length : Int)), (35, .int .i64 v18)] [] 0 := by
 unfold qm at h
 refine zd ?_
 refine ze ?_
 refine zd ?_
 refine qj (v := (decide (v18 < ((a0.getD v10.toNat default).length : Int)))) rfl TT (fun h33 => ?_) (fun h33 => ?_)
 ·have h := zk h33 h
  refine qv ?_
  refine zd ?_
  refine yf ?_
  refine zd ?_
  refine ze ?_
  refine ze ?_
  obtain ⟨h34, h⟩ := zc h
  refine AI (fun hp => (AI (AI hp hp) (h34 hp))) ?_
  obtain ⟨v20, h35, h⟩ := bind_some h
  refine Or.inl (EX (.bool v20) (AI (fun hp => AI hp (PFn.call (zr0 (zk hp h35)) (AI (VS rfl) TT) (AI rfl (AI rfl rfl)))) ?_))
  refine AI (fun hc => (bqt hc)) ?_
  refine LWp.sim (e := [(3, .int .i64 (W (v8 + (W (((a0.getD v10.toNat default).length : Int) + 1))))), (4, .bool (v17 && v20)), (6, .str (a0.getD v10.toNat default)), (17, .isl 1 (a0.map zb) false), (18, .int .i64 ((a0.map zb).length : Int)), (19, .int .i64 v10), (34, .int .i64 ((a0.getD v10.toNat default).length : Int)), (35, .int .i64 v18)]) (L := []) (n := 0) ?_ ?_
  ·exact y6 (M := []) rfl (S4 rfl rfl rfl rfl (S4 rfl rfl rfl rfl TT)) TT
  refine ze ?_
  cases h
  exact AI rfl (y6 (M := []) rfl (S4 rfl rfl rfl rfl (S4 rfl rfl rfl rfl TT)) TT)
 ·have h := zw h33 h
  refine Z2 ?_
  obtain ⟨o, hq, rfl⟩ := Option.map_eq_some_iff.1 h
  replace h := hq; clear hq
  refine AI nofun ?_
  refine LWp.sim ?_ (zi1 h)
  exact y6 (M := []) rfl (S4 rfl rfl rfl rfl (AI (VS rfl) TT)) TT
theorem zfa {a0 : List (List UInt8)} {v8 : Int} {v10 : Int} {v17 : Bool} {v18 : Int} {m : Option Nat} {o : ((Int × Bool × Int) ⊕ Bool)} (h : xw m a0 v8 v10 v17 v18 = some o) :
 LWp Tryz.prog Yi 0 (.loop zju) (zm 2 (zm 1 (ug Tryz.prog Yi 0 zb7 (xt 0 0 (X4 a0) (J6 a0) (Vb a0) o)))) [(3, .int .i64 (W (v8 + (W (((a0.getD v10.toNat default).length : Int) + 1))))), (4, .bool v17), (6, .str (a0.getD v10.toNat default)), (17, .isl 1 (a0.map zb) false), (18, .int .i64 ((a0.map zb).length : Int)), (19, .int .i64 v10), (34, .int .i64 ((a0.getD v10.toNat default).length : Int)), (35, .int .i64 v18)] [] 0 :=
 yi (m := m) (s := ((v17, v18) : (Bool × Int))) (r := o) (fun (s : (Bool × Int)) => qm m a0 v8 v10 s.1 s.2) (z2v a0 v8 v10) (z54 a0 v8 v10) (zcq a0) (fun s o h => zdm h) h
noncomputable def kc (m : Option Nat) (v8 : Int) (v9 : Bool) : Option Bool :=
 some (v9 && (decide (v8 ≤ 2001)))
noncomputable def qk (m : Option Nat) (a0 : List (List UInt8)) (v8 : Int) (v9 : Bool) (v10 : Int) : Option ((Int × Bool × Int) ⊕ Bool) :=
 if (decide (v10 < ((a0.map zb).length : Int))) = true then
  if (0 : Int) ≤ v10 ∧ v10 < ((a0.map zb).length : Int) then
  xw m a0 v8 v10 (v9 && (!((a0.getD v10.toNat default) == ([] : List UInt8)))) 0
  else none
 else
  Option.map Sum.inr (
   kc m v8 v9)
noncomputable def xr (m : Option Nat) (a0 : List (List UInt8)) (v8 : Int) (v9 : Bool) (v10 : Int) : Option Bool := u4 m (fun (s : (Int × Bool × Int)) => qk m a0 s.1 s.2.1 s.2.2) (v8, v9, v10)
theorem zjm {a0 : List (List UInt8)} {v8 : Int} {v9 : Bool} {m : Option Nat} {o : Bool} (h : kc m v8 v9 = some o) :
 LWp Tryz.prog Yi 0 zc2 (zoi a0 o) [(3, .int .i64 v8), (4, .bool v9)] [] 0 := by
 unfold kc at h
 refine zd ?_
 refine ze ?_
 refine AI (fun hp => hp) ?_
 refine AI (fun hc => (bqt hc)) ?_
 refine u5 ?_
 cases h
 exact AI TT (AI rfl (VS rfl))
theorem ze8 {a0 : List (List UInt8)} {v8 : Int} {v9 : Bool} {v10 : Int} {m : Option Nat} {o : (Int × Bool × Int) ⊕ Bool} (h : qk m a0 v8 v9 v10 = some o) :
 LWp Tryz.prog Yi 0 zjh (xt 0 0 (X4 a0) (J6 a0) (Vb a0) o) [(3, .int .i64 v8), (4, .bool v9), (17, .isl 1 (a0.map zb) false), (18, .int .i64 ((a0.map zb).length : Int)), (19, .int .i64 v10)] [] 0 := by
 unfold qk at h
 refine zd ?_
 refine ze ?_
 refine zd ?_
 refine qj (v := (decide (v10 < ((a0.map zb).length : Int)))) rfl TT (fun h25 => ?_) (fun h25 => ?_)
 ·have h := zk h25 h
  refine qv ?_
  refine zd ?_
  refine yf ?_
  refine zd ?_
  refine ze ?_
  obtain ⟨h26, h⟩ := zc h
  refine AI h26 ?_
  refine EX (zb (a0.getD v10.toNat default)) (AI (qo zb _ _ (ji zb h26)) (AI (AI (k7 h26) (NB rfl)) ?_))
  refine zd ?_
  refine ze ?_
  refine LWp.sim (e := [(3, .int .i64 (W (v8 + (W (((a0.getD v10.toNat default).length : Int) + 1))))), (4, .bool v9), (6, .str (a0.getD v10.toNat default)), (17, .isl 1 (a0.map zb) false), (18, .int .i64 ((a0.map zb).length : Int)), (19, .int .i64 v10)]) (L := []) (n := 0) ?_ ?_
  ·exact y6 (M := []) rfl (S4 rfl rfl rfl rfl (S2 rfl rfl TT)) TT
  refine zd ?_
  refine ze ?_
  refine AI (fun hp => hp) ?_
  refine AI (fun hc => (bqt hc)) ?_
  refine zd ?_
  refine ze ?_
  refine LWp.sim (e := [(3, .int .i64 (W (v8 + (W (((a0.getD v10.toNat default).length : Int) + 1))))), (4, .bool (v9 && (!((a0.getD v10.toNat default) == ([] : List UInt8))))), (6, .str (a0.getD v10.toNat default)), (17, .isl 1 (a0.map zb) false), (18, .int .i64 ((a0.map zb).length : Int)), (19, .int .i64 v10), (34, .int .i64 ((a0.getD v10.toNat default).length : Int)), (35, .int .i64 0)]) (L := []) (n := 0) ?_ ?_
  ·exact y6 (M := []) rfl (S4 rfl rfl rfl rfl (S4 rfl rfl rfl rfl TT)) TT
  refine yf ?_
  refine LWp.sim ?_ (zfa h)
  exact y6 (M := []) rfl (S4 rfl rfl rfl rfl (S4 rfl rfl rfl rfl TT)) TT
 ·have h := zw h25 h
  refine Z2 ?_
  obtain ⟨o, hq, rfl⟩ := Option.map_eq_some_iff.1 h
  replace h := hq; clear hq
  refine AI nofun ?_
  refine LWp.sim ?_ (zjm h)
  exact y6 (M := []) rfl (S2 rfl rfl TT) TT
theorem zfi {a0 : List (List UInt8)} {v8 : Int} {v9 : Bool} {v10 : Int} {m : Option Nat} {o : Bool} (h : xr m a0 v8 v9 v10 = some o) :
 LWp Tryz.prog Yi 0 (.loop zjh) (zm 0 (ug Tryz.prog Yi 0 zc2 (zoi a0 o))) [(3, .int .i64 v8), (4, .bool v9), (17, .isl 1 (a0.map zb) false), (18, .int .i64 ((a0.map zb).length : Int)), (19, .int .i64 v10)] [] 0 :=
 yi (m := m) (s := ((v8, v9, v10) : (Int × Bool × Int))) (r := o) (fun (s : (Int × Bool × Int)) => qk m a0 s.1 s.2.1 s.2.2) (X4 a0) (J6 a0) (Vb a0) (fun s o h => ze8 h) h
noncomputable def xn (m : Option Nat) (a0 : List (List UInt8)) : Option Bool :=
 (if ((decide (((a0.map zb).length : Int) ≤ 400)) == true) = true then yk m a0 else some default).bind fun v1 =>
 (if ((decide (((a0.map zb).length : Int) ≤ 400)) == true) = true then zj m a0 v1 else some default).bind fun v2 =>
 xr m a0 0 ((decide (((a0.map zb).length : Int) ≤ 400)) && v2) 0
theorem zkt {a0 : List (List UInt8)} {m : Option Nat} {o : Bool} (h : xn m a0 = some o) : LWp Tryz.prog Yi 0 zr3 (zoi a0 o) (zz 0 [.isl 1 (a0.map zb) false]) [] 0 := by
 unfold xn at h
 refine zd ?_
 refine ze ?_
 refine zd ?_
 refine ze ?_
 refine zd ?_
 refine ze ?_
 obtain ⟨v1, h1, h⟩ := bind_some h
 refine Or.inl (EX (.isl 1 (v1.map zb) false) (AI (fun hp => AI hp (PFn.call (zcr (zk hp h1)) (AI (VS rfl) TT) (AI rfl (AI rfl rfl)))) ?_))
 obtain ⟨v2, h2, h⟩ := bind_some h
 refine Or.inl (EX (.bool v2) (AI (fun hp => AI (AI hp hp) (PFn.call (z75 (zk hp h2)) (S2 rfl rfl TT) (AI rfl (AI rfl rfl)))) ?_))
 refine AI (fun hc => (bqt hc)) ?_
 refine LWp.sim (e := [(0, .isl 1 (a0.map zb) false), (3, .int .i64 0), (4, .bool ((decide (((a0.map zb).length : Int) ≤ 400)) && v2))]) (L := []) (n := 0) ?_ ?_
 ·exact y6 (M := []) rfl (S2 rfl rfl (AI (VS rfl) TT)) TT
 refine zd ?_
 refine zd ?_
 refine ze ?_
 refine yf ?_
 refine LWp.sim ?_ (zfi h)
 exact y6 (M := []) rfl (S4 rfl rfl rfl rfl (AI (VS rfl) TT)) TT
theorem zyw {a0 : List (List UInt8)} {m : Option Nat} {o : Bool} (h : xn m a0 = some o) : PFn Tryz.prog 31 [.isl 1 (a0.map zb) false] (.bool o) := PFn.ofFnW (L := zyl) zwd zua (NB rfl) rfl (zkt h)
def zus : LCode := (.seq (.seq (.region [⟨some 36, .mv (.t 8), none⟩,
 ⟨some 37, .mv (.t 7), none⟩,
 ⟨some 38, .len true (.t 37), none⟩,
 ⟨some 39, .bin .lss (.t 36) (.t 38), none⟩,
 ⟨some 40, .mv (.t 39), none⟩,
 ⟨some 41, .mv (.t 7), some (40, true)⟩,
 ⟨some 42, .mv (.t 8), some (40, true)⟩,
 ⟨some 43, .idxS (.t 41) (.t 42), some (40, true)⟩,
 ⟨some 44, .bin .neq (.t 43) (.c (.int .u8 32)), some (40, true)⟩,
 ⟨some 45, .pick (.t 40) (.t 44) (.c (.bool false)), none⟩])
 (.cond (.t 45)
  .skip
  (.exit 2)))
 (.block 3
  (.region [⟨some 46, .mv (.t 8), none⟩,
   ⟨some 47, .bin .add (.t 46) (.c (.int .i64 1)), none⟩,
   ⟨some 8, .mv (.t 47), none⟩])))
def zqm : LCode := (.seq (.draw [⟨⟨some 48, .faddr 2 (.t 6), none⟩, []⟩,
 ⟨⟨some 49, .load false 1 (.t 48), none⟩, []⟩,
 ⟨⟨some 50, .mv (.t 7), none⟩, []⟩,
 ⟨⟨some 51, .mv (.t 8), none⟩, []⟩,
 ⟨⟨some 52, .slStr (.t 50) none (some (.t 51)), none⟩, []⟩,
 ⟨⟨some 53, .mkSl true 1 [(.str [])] 1 [(0, (.t 52))], none⟩, []⟩,
 ⟨⟨some 54, .app true 1 16 (.t 49) (.t 53), none⟩, []⟩,
 ⟨⟨some 55, .faddr 2 (.t 6), none⟩, []⟩,
 ⟨⟨none, .store 1 (.t 55) (.t 54), none⟩, []⟩])
 (.region [⟨some 56, .mv (.t 7), none⟩,
  ⟨some 57, .mv (.t 8), none⟩,
  ⟨some 58, .slStr (.t 56) (some (.t 57)) none, none⟩,
  ⟨some 7, .mv (.t 58), none⟩]))
def zwa : LCode := (.seq (.seq (.region [⟨some 28, .mv (.t 7), none⟩,
 ⟨some 29, .bin .neq (.t 28) (.c (.str [])), none⟩])
 (.cond (.t 29)
  .skip
  (.exit 0)))
 (.block 1
  (.seq (.seq (.region [⟨some 30, .mv (.t 7), none⟩,
   ⟨some 31, .idxS (.t 30) (.c (.int .i64 0)), none⟩,
   ⟨some 32, .bin .neq (.t 31) (.c (.int .u8 32)), none⟩])
  (.cond (.t 32)
   (.seq (.region [⟨some 33, .build [(.str []), (.int .u32 0), (.isl 1 [] true)] [], none⟩,
    ⟨none, .store 3 (.t 4) (.t 33), none⟩,
    ⟨some 5, .mv (.c (.bool false)), none⟩])
   .ret)
   .skip))
  (.seq (.region [⟨some 34, .mv (.t 7), none⟩,
   ⟨some 35, .slStr (.t 34) (some (.c (.int .i64 1))) none, none⟩,
   ⟨some 7, .mv (.t 35), none⟩])
  (.seq (.region [⟨some 8, .mv (.c (.int .i64 0)), none⟩])
  (.seq (.block 2
   (.loop
    zus))
  zqm))))))
def zpq : LCode := (.seq (.draw [⟨⟨some 59, .load true 3 (.t 6), none⟩, []⟩,
 ⟨⟨some 60, .faddr 2 (.t 6), none⟩, []⟩,
 ⟨⟨some 61, .load false 1 (.t 60), none⟩, []⟩,
 ⟨⟨some 62, .call 31 [(.t 61)], none⟩, [0]⟩,
 ⟨⟨none, .store 3 (.t 4) (.t 59), none⟩, []⟩,
 ⟨⟨some 5, .mv (.t 62), none⟩, []⟩])
 .ret)
def zxh : LCode := (.seq (.region [⟨some 2, .box (.t 0), none⟩,
 ⟨some 4, .alloc [(.str []), (.int .u32 0), (.isl 1 [] true)], none⟩,
 ⟨some 5, .mv (.c (.bool false)), none⟩])
 (.seq (.draw [⟨⟨some 9, .faddr 0 (.t 2), none⟩, []⟩,
  ⟨⟨some 10, .load false 1 (.t 9), none⟩, []⟩,
  ⟨⟨some 11, .faddr 2 (.t 2), none⟩, []⟩,
  ⟨⟨some 12, .load false 1 (.t 11), none⟩, []⟩,
  ⟨⟨some 13, .call 28 [(.t 12)], none⟩, [1]⟩,
  ⟨⟨some 14, .build [(.str []), (.int .u32 0), (.isl 1 [] true)] [(0, 1, (.t 10)), (1, 1, (.t 13))], none⟩, []⟩,
  ⟨⟨some 6, .alloc [(.str []), (.int .u32 0), (.isl 1 [] true)], none⟩, [1, 3]⟩,
  ⟨⟨none, .store 3 (.t 6) (.t 14), none⟩, []⟩])
 (.seq (.seq (.draw [⟨⟨some 15, .mv (.t 1), none⟩, []⟩,
  ⟨⟨some 16, .len true (.t 15), none⟩, []⟩,
  ⟨⟨some 17, .bin .lss (.t 16) (.c (.int .i64 8)), none⟩, []⟩,
  ⟨⟨some 18, .mv (.t 17), none⟩, []⟩,
  ⟨⟨some 19, .mv (.t 1), some (18, false)⟩, []⟩,
  ⟨⟨some 20, .slStr (.t 19) none (some (.c (.int .i64 8))), some (18, false)⟩, []⟩,
  ⟨⟨some 21, .load true 3 (.t 6), some (18, false)⟩, []⟩,
  ⟨⟨some 22, .call 30 [(.t 21)], some (18, false)⟩, []⟩,
  ⟨⟨some 23, .bin .neq (.t 20) (.t 22), some (18, false)⟩, []⟩,
  ⟨⟨some 24, .pick (.t 18) (.c (.bool true)) (.t 23), none⟩, []⟩])
 (.cond (.t 24)
  (.seq (.region [⟨some 25, .build [(.str []), (.int .u32 0), (.isl 1 [] true)] [], none⟩,
   ⟨none, .store 3 (.t 4) (.t 25), none⟩,
   ⟨some 5, .mv (.c (.bool false)), none⟩])
  .ret)
  .skip))
 (.seq (.region [⟨some 26, .mv (.t 1), none⟩,
  ⟨some 27, .slStr (.t 26) (some (.c (.int .i64 8))) none, none⟩,
  ⟨some 7, .mv (.t 27), none⟩])
 (.seq (.block 0
  (.loop
   zwa))
 zpq)))))
def Xl : Lay := ⟨63, [], false⟩
def zsg : List LRes := [.cell 4 true 3, .t 5]
def y2v : LFn := ⟨2, Xl, zxh, zsg⟩
theorem y0b : ww Tryz.prog [] 9 = some y2v := by kernel_rfl
theorem y0i : Z9 Tryz.prog 9 := ⟨_, Tryz.func9, rfl, rfl⟩
def y1d (a0 : G_QDocument) (a1 : List UInt8) (o : G_QIndexEntry × Bool) : Exit → Env → AHeap → Nat → Prop := Zy zsg (q6 (.tup [.agg [.str o.1.f_Name, .int .u32 o.1.f_Sum, .isl 1 (o.1.f_Words.map zb) false], .bool o.2]))
def J8 (a0 : G_QDocument) (v1 : Int) (s : ((List UInt8) × (List (List UInt8)))) : Env := [(4, .ptr (0, 0) 0 0), (6, .ptr (1, 0) 0 0), (7, .str s.1)]
def Vo (a0 : G_QDocument) (v1 : Int) (s : ((List UInt8) × (List (List UInt8)))) : AHeap := [((0, 0), .one [.str ([] : List UInt8), .int .u32 0, .isl 1 (([] : List (List UInt8)).map zb) true]), ((1, 0), .one [.str a0.f_Name, .int .u32 v1, .osl (2, 0) 1 (s.2.map zb)]), ((2, 0), .tok)]
def Up (a0 : G_QDocument) (a1 : List UInt8) (o : (G_QIndexEntry × Bool)) : Exit → Env → AHeap → Nat → Prop := (zm 0 (ug Tryz.prog Xl 0 zpq (y1d a0 a1 o)))
def z6l (a0 : G_QDocument) (v1 : Int) (v4 : List UInt8) (v5 : List (List UInt8)) (s : Int) : Env := [(4, .ptr (0, 0) 0 0), (6, .ptr (1, 0) 0 0), (7, .str ((v4.take v4.length).drop (1 : Int).toNat)), (8, .int .i64 s)]
def zb3 (a0 : G_QDocument) (v1 : Int) (v4 : List UInt8) (v5 : List (List UInt8)) (s : Int) : AHeap := [((0, 0), .one [.str ([] : List UInt8), .int .u32 0, .isl 1 (([] : List (List UInt8)).map zb) true]), ((1, 0), .one [.str a0.f_Name, .int .u32 v1, .osl (2, 0) 1 (v5.map zb)]), ((2, 0), .tok)]
def zgf (a0 : G_QDocument) (a1 : List UInt8) (v1 : Int) (o : (((List UInt8) × (List (List UInt8))) ⊕ (G_QIndexEntry × Bool))) : Exit → Env → AHeap → Nat → Prop := (zm 2 (ug Tryz.prog Xl 0 zqm (zm 1 (xt 0 3 (J8 a0 v1) (Vo a0 v1) (Up a0 a1) o))))
noncomputable def jo (m : Option Nat) (a0 : G_QDocument) (v1 : Int) (v4 : List UInt8) (v5 : List (List UInt8)) (v7 : Int) : Option (((List UInt8) × (List (List UInt8))) ⊕ (G_QIndexEntry × Bool)) :=
 if (0 : Int) ≤ v7 ∧ v7 ≤ (((v4.take v4.length).drop (1 : Int).toNat).length : Int) then
 if ((v5 ++ ([((((v4.take v4.length).drop (1 : Int).toNat).take v7.toNat).drop 0)] : List (List UInt8))).map zb).length * 16 ≤ 140737488355328 then
 if (0 : Int) ≤ v7 ∧ v7 ≤ (((v4.take v4.length).drop (1 : Int).toNat).length : Int) then
 some (.inl (((((v4.take v4.length).drop (1 : Int).toNat).take ((v4.take v4.length).drop (1 : Int).toNat).length).drop v7.toNat), (v5 ++ ([((((v4.take v4.length).drop (1 : Int).toNat).take v7.toNat).drop 0)] : List (List UInt8)))))
 else none
 else none
 else none
noncomputable def qg (m : Option Nat) (a0 : G_QDocument) (v1 : Int) (v4 : List UInt8) (v5 : List (List UInt8)) (v7 : Int) : Option (Int ⊕ (((List UInt8) × (List (List UInt8))) ⊕ (G_QIndexEntry × Bool))) :=
 if (((decide (v7 < (((v4.take v4.length).drop (1 : Int).toNat).length : Int))) == true) = true → (0 : Int) ≤ v7 ∧ v7 < (((v4.take v4.length).drop (1 : Int).toNat).length : Int)) then
 if ((decide (v7 < (((v4.take v4.length).drop (1 : Int).toNat).length : Int))) && ((((((v4.take v4.length).drop (1 : Int).toNat).getD v7.toNat 0).toNat : Nat) : Int) != 32)) = true then
  some (.inl (W (v7 + 1)))
 else
  Option.map Sum.inr (
   jo m a0 v1 v4 v5 v7)
 else none
noncomputable def x9 (m : Option Nat) (a0 : G_QDocument) (v1 : Int) (v4 : List UInt8) (v5 : List (List UInt8)) (v7 : Int) : Option (((List UInt8) × (List (List UInt8))) ⊕ (G_QIndexEntry × Bool)) := u4 m (fun (s : Int) => qg m a0 v1 v4 v5 s) v7
theorem zqe {a1 : List UInt8} {a0 : G_QDocument} {v1 : Int} {v4 : List UInt8} {v5 : List (List UInt8)} {v7 : Int} {m : Option Nat} {o : (((List UInt8) × (List (List UInt8))) ⊕ (G_QIndexEntry × Bool))} (h : jo m a0 v1 v4 v5 v7 = some o) :
 LWp Tryz.prog Xl 0 zqm (zm 1 (xt 0 3 (J8 a0 v1) (Vo a0 v1) (Up a0 a1) o)) [(4, .ptr (0, 0) 0 0), (6, .ptr (1, 0) 0 0), (7, .str ((v4.take v4.length).drop (1 : Int).toNat)), (8, .int .i64 v7)] [((0, 0), .one [.str ([] : List UInt8), .int .u32 0, .isl 1 (([] : List (List UInt8)).map zb) true]), ((1, 0), .one [.str a0.f_Name, .int .u32 v1, .osl (2, 0) 1 (v5.map zb)]), ((2, 0), .tok)] 3 := by
 unfold jo at h
 refine zd ?_
 refine z4i rfl ?_
 obtain ⟨h42, h⟩ := zc h
 refine AI (AI (Int.le_refl _) h42) ?_
 obtain ⟨h43, h⟩ := zc h
 refine EX ((v5 ++ ([((((v4.take v4.length).drop (1 : Int).toNat).take v7.toNat).drop 0)] : List (List UInt8))).map zb) (AI (Y3 zb v5 ([((((v4.take v4.length).drop (1 : Int).toNat).take v7.toNat).drop 0)] : List (List UInt8))) (AI h43 ?_))
 refine LWp.sim (e := [(4, .ptr (0, 0) 0 0), (6, .ptr (1, 0) 0 0), (7, .str ((v4.take v4.length).drop (1 : Int).toNat)), (8, .int .i64 v7)]) (L := [((0, 0), .one [.str ([] : List UInt8), .int .u32 0, .isl 1 (([] : List (List UInt8)).map zb) true]), ((1, 0), .one [.str a0.f_Name, .int .u32 v1, .osl (2, 0) 1 ((v5 ++ ([((((v4.take v4.length).drop (1 : Int).toNat).take v7.toNat).drop 0)] : List (List UInt8))).map zb)]), ((2, 0), .tok)]) (n := 3) ?_ ?_
 ·exact y6 (M := [((0, 0), (0, 0)), ((1, 0), (1, 0)), ((2, 0), (3, 0))]) rfl (AI (Vw.ptr _ _ _ _ rfl) (AI (Vw.ptr _ _ _ _ rfl) (S2 rfl rfl TT))) (AI (AI rfl (BVw.oneL (S2 rfl rfl (AI (VS rfl) TT)))) (AI (AI rfl (BVw.oneL (S2 rfl rfl (AI (Vw.osl _ _ _ _ rfl) TT)))) (AI (AI rfl BVw.tok) TT)))
 refine ze ?_
 obtain ⟨h44, h⟩ := zc h
 refine AI (AI (And.left h44) (AI (And.right h44) (Int.le_refl _))) ?_
 cases h
 exact AI rfl (y6 (M := [((0, 0), (0, 0)), ((1, 0), (1, 0)), ((2, 0), (2, 0))]) rfl (AI (Vw.ptr _ _ _ _ rfl) (AI (Vw.ptr _ _ _ _ rfl) (AI (VS rfl) TT))) (AI (AI rfl (BVw.oneL (S2 rfl rfl (AI (VS rfl) TT)))) (AI (AI rfl (BVw.oneL (S2 rfl rfl (AI (Vw.osl _ _ _ _ rfl) TT)))) (AI (AI rfl BVw.tok) TT))))
theorem zml {a1 : List UInt8} {a0 : G_QDocument} {v1 : Int} {v4 : List UInt8} {v5 : List (List UInt8)} {v7 : Int} {m : Option Nat} {o : Int ⊕ (((List UInt8) × (List (List UInt8))) ⊕ (G_QIndexEntry × Bool))} (h : qg m a0 v1 v4 v5 v7 = some o) :
 LWp Tryz.prog Xl 0 zus (xt 0 3 (z6l a0 v1 v4 v5) (zb3 a0 v1 v4 v5) (zgf a0 a1 v1) o) [(4, .ptr (0, 0) 0 0), (6, .ptr (1, 0) 0 0), (7, .str ((v4.take v4.length).drop (1 : Int).toNat)), (8, .int .i64 v7)] [((0, 0), .one [.str ([] : List UInt8), .int .u32 0, .isl 1 (([] : List (List UInt8)).map zb) true]), ((1, 0), .one [.str a0.f_Name, .int .u32 v1, .osl (2, 0) 1 (v5.map zb)]), ((2, 0), .tok)] 3 := by
 unfold qg at h
 refine zd ?_
 refine zd ?_
 refine ze ?_
 obtain ⟨h40, h⟩ := zc h
 refine AI (fun hp => (AI (AI hp hp) (h40 hp))) ?_
 refine AI (fun hp => hp) ?_
 refine AI (fun hc => (bqt hc)) ?_
 refine LWp.sim (e := [(4, .ptr (0, 0) 0 0), (6, .ptr (1, 0) 0 0), (7, .str ((v4.take v4.length).drop (1 : Int).toNat)), (8, .int .i64 v7), (45, .bool ((decide (v7 < (((v4.take v4.length).drop (1 : Int).toNat).length : Int))) && ((((((v4.take v4.length).drop (1 : Int).toNat).getD v7.toNat 0).toNat : Nat) : Int) != 32)))]) (L := [((0, 0), .one [.str ([] : List UInt8), .int .u32 0, .isl 1 (([] : List (List UInt8)).map zb) true]), ((1, 0), .one [.str a0.f_Name, .int .u32 v1, .osl (2, 0) 1 (v5.map zb)]), ((2, 0), .tok)]) (n := 3) ?_ ?_
 ·exact y6 (M := [((0, 0), (0, 0)), ((1, 0), (1, 0)), ((2, 0), (2, 0))]) rfl (AI (Vw.ptr _ _ _ _ rfl) (AI (Vw.ptr _ _ _ _ rfl) (S2 rfl rfl (AI (VS rfl) TT)))) (AI (AI rfl (BVw.oneL (S2 rfl rfl (AI (VS rfl) TT)))) (AI (AI rfl (BVw.oneL (S2 rfl rfl (AI (Vw.osl _ _ _ _ rfl) TT)))) (AI (AI rfl BVw.tok) TT)))
 refine qj (v := ((decide (v7 < (((v4.take v4.length).drop (1 : Int).toNat).length : Int))) && ((((((v4.take v4.length).drop (1 : Int).toNat).getD v7.toNat 0).toNat : Nat) : Int) != 32))) rfl TT (fun h41 => ?_) (fun h41 => ?_)
 ·have h := zk h41 h
  refine qv ?_
  refine yf ?_
  refine ze ?_
  cases h
  exact AI rfl (y6 (M := [((0, 0), (0, 0)), ((1, 0), (1, 0)), ((2, 0), (2, 0))]) rfl (AI (Vw.ptr _ _ _ _ rfl) (AI (Vw.ptr _ _ _ _ rfl) (S2 rfl rfl TT))) (AI (AI rfl (BVw.oneL (S2 rfl rfl (AI (VS rfl) TT)))) (AI (AI rfl (BVw.oneL (S2 rfl rfl (AI (Vw.osl _ _ _ _ rfl) TT)))) (AI (AI rfl BVw.tok) TT))))
 ·have h := zw h41 h
  refine Z2 ?_
  obtain ⟨o, hq, rfl⟩ := Option.map_eq_some_iff.1 h
  replace h := hq; clear hq
  refine AI nofun ?_
  refine LWp.sim ?_ (zqe h)
  exact y6 (M := [((0, 0), (0, 0)), ((1, 0), (1, 0)), ((2, 0), (2, 0))]) rfl (AI (Vw.ptr _ _ _ _ rfl) (AI (Vw.ptr _ _ _ _ rfl) (S2 rfl rfl TT))) (AI (AI rfl (BVw.oneL (S2 rfl rfl (AI (VS rfl) TT)))) (AI (AI rfl (BVw.oneL (S2 rfl rfl (AI (Vw.osl _ _ _ _ rfl) TT)))) (AI (AI rfl BVw.tok) TT)))
theorem zo0 {a1 : List UInt8} {a0 : G_QDocument} {v1 : Int} {v4 : List UInt8} {v5 : List (List UInt8)} {v7 : Int} {m : Option Nat} {o : (((List UInt8) × (List (List UInt8))) ⊕ (G_QIndexEntry × Bool))} (h : x9 m a0 v1 v4 v5 v7 = some o) :
 LWp Tryz.prog Xl 0 (.loop zus) (zm 2 (ug Tryz.prog Xl 0 zqm (zm 1 (xt 0 3 (J8 a0 v1) (Vo a0 v1) (Up a0 a1) o)))) [(4, .ptr (0, 0) 0 0), (6, .ptr (1, 0) 0 0), (7, .str ((v4.take v4.length).drop (1 : Int).toNat)), (8, .int .i64 v7)] [((0, 0), .one [.str ([] : List UInt8), .int .u32 0, .isl 1 (([] : List (List UInt8)).map zb) true]), ((1, 0), .one [.str a0.f_Name, .int .u32 v1, .osl (2, 0) 1 (v5.map zb)]), ((2, 0), .tok)] 3 :=
 yi (m := m) (s := (v7 : Int)) (r := o) (fun (s : Int) => qg m a0 v1 v4 v5 s) (z6l a0 v1 v4 v5) (zb3 a0 v1 v4 v5) (zgf a0 a1 v1) (fun s o h => zml h) h
noncomputable def jl (m : Option Nat) (a0 : G_QDocument) (v1 : Int) (v5 : List (List UInt8)) : Option (G_QIndexEntry × Bool) :=
 (xn m v5).bind fun v8 =>
 some ((G_QIndexEntry.mk a0.f_Name v1 v5), v8)
noncomputable def y7 (m : Option Nat) (a0 : G_QDocument) (v1 : Int) (v4 : List UInt8) (v5 : List (List UInt8)) : Option (((List UInt8) × (List (List UInt8))) ⊕ (G_QIndexEntry × Bool)) :=
 if (!(v4 == ([] : List UInt8))) = true then
  if (0 : Int) ≤ 0 ∧ 0 < (v4.length : Int) then
  if ((((v4.getD (0 : Int).toNat 0).toNat : Nat) : Int) != 32) = true then
   Option.map Sum.inr (
    some ((G_QIndexEntry.mk ([] : List UInt8) 0 ([] : List (List UInt8))), false))
  else
   if (0 : Int) ≤ 1 ∧ 1 ≤ (v4.length : Int) then
   x9 m a0 v1 v4 v5 0
   else none
  else none
 else
  Option.map Sum.inr (
   jl m a0 v1 v5)
noncomputable def zn (m : Option Nat) (a0 : G_QDocument) (v1 : Int) (v4 : List UInt8) (v5 : List (List UInt8)) : Option (G_QIndexEntry × Bool) := u4 m (fun (s : ((List UInt8) × (List (List UInt8)))) => y7 m a0 v1 s.1 s.2) (v4, v5)
theorem znj {a1 : List UInt8} {a0 : G_QDocument} {v1 : Int} {v5 : List (List UInt8)} {m : Option Nat} {o : (G_QIndexEntry × Bool)} (h : jl m a0 v1 v5 = some o) :
 LWp Tryz.prog Xl 0 zpq (y1d a0 a1 o) [(4, .ptr (0, 0) 0 0), (6, .ptr (1, 0) 0 0)] [((0, 0), .one [.str ([] : List UInt8), .int .u32 0, .isl 1 (([] : List (List UInt8)).map zb) true]), ((1, 0), .one [.str a0.f_Name, .int .u32 v1, .osl (2, 0) 1 (v5.map zb)]), ((2, 0), .tok)] 3 := by
 unfold jl at h
 refine zd ?_
 refine z86 ?_
 obtain ⟨v8, h45, h⟩ := bind_some h
 refine PFn.call (zyw h45) (AI (Vw.oslI _ _ _) TT) ?_
 refine AI rfl ?_
 refine u5 ?_
 cases h
 exact AI (AI TT (AI rfl (NB rfl))) (AI TT (AI rfl (Vw.tupL (AI (Vw.aggL (S2 rfl rfl (AI (Vw.oslI _ _ _) TT))) (AI (VS rfl) TT)))))
theorem zms {a1 : List UInt8} {a0 : G_QDocument} {v1 : Int} {v4 : List UInt8} {v5 : List (List UInt8)} {m : Option Nat} {o : ((List UInt8) × (List (List UInt8))) ⊕ (G_QIndexEntry × Bool)} (h : y7 m a0 v1 v4 v5 = some o) :
 LWp Tryz.prog Xl 0 zwa (xt 0 3 (J8 a0 v1) (Vo a0 v1) (Up a0 a1) o) [(4, .ptr (0, 0) 0 0), (6, .ptr (1, 0) 0 0), (7, .str v4)] [((0, 0), .one [.str ([] : List UInt8), .int .u32 0, .isl 1 (([] : List (List UInt8)).map zb) true]), ((1, 0), .one [.str a0.f_Name, .int .u32 v1, .osl (2, 0) 1 (v5.map zb)]), ((2, 0), .tok)] 3 := by
 unfold y7 at h
 refine zd ?_
 refine zd ?_
 refine ze ?_
 refine qj (v := (!(v4 == ([] : List UInt8)))) rfl TT (fun h32 => ?_) (fun h32 => ?_)
 ·have h := zk h32 h
  refine qv ?_
  refine yf ?_
  refine zd ?_
  refine zd ?_
  refine ze ?_
  obtain ⟨h33, h⟩ := zc h
  refine AI h33 ?_
  refine qj (v := ((((v4.getD (0 : Int).toNat 0).toNat : Nat) : Int) != 32)) rfl TT (fun h34 => ?_) (fun h34 => ?_)
  ·have h := zk h34 h
   refine zd ?_
   refine ze ?_
   refine LWp.sim (e := [(4, .ptr (0, 0) 0 0), (5, .bool false)]) (L := [((0, 0), .one [.str ([] : List UInt8), .int .u32 0, .isl 1 (([] : List (List UInt8)).map zb) true])]) (n := 1) ?_ ?_
   ·exact y6 (M := [((0, 0), (0, 0))]) rfl (AI (Vw.ptr _ _ _ _ rfl) (AI (VS rfl) TT)) (AI (AI rfl (BVw.oneL (S2 rfl rfl (AI (VS rfl) TT)))) TT)
   refine u5 ?_
   obtain ⟨o, hq, rfl⟩ := Option.map_eq_some_iff.1 h
   replace h := hq; clear hq
   refine AI nofun ?_
   cases h
   exact AI (AI TT (AI rfl (NB rfl))) (AI TT (AI rfl (Vw.tupL (AI (Vw.aggL (S2 rfl rfl (AI (Vw.islF _ _ _) TT))) (AI (VS rfl) TT)))))
  ·have h := zw h34 h
   refine qv ?_
   refine zd ?_
   refine ze ?_
   obtain ⟨h35, h⟩ := zc h
   refine AI (AI (And.left h35) (AI (And.right h35) (Int.le_refl _))) ?_
   refine LWp.sim (e := [(4, .ptr (0, 0) 0 0), (6, .ptr (1, 0) 0 0), (7, .str ((v4.take v4.length).drop (1 : Int).toNat))]) (L := [((0, 0), .one [.str ([] : List UInt8), .int .u32 0, .isl 1 (([] : List (List UInt8)).map zb) true]), ((1, 0), .one [.str a0.f_Name, .int .u32 v1, .osl (2, 0) 1 (v5.map zb)]), ((2, 0), .tok)]) (n := 3) ?_ ?_
   ·exact y6 (M := [((0, 0), (0, 0)), ((1, 0), (1, 0)), ((2, 0), (2, 0))]) rfl (AI (Vw.ptr _ _ _ _ rfl) (AI (Vw.ptr _ _ _ _ rfl) (AI (VS rfl) TT))) (AI (AI rfl (BVw.oneL (S2 rfl rfl (AI (VS rfl) TT)))) (AI (AI rfl (BVw.oneL (S2 rfl rfl (AI (Vw.osl _ _ _ _ rfl) TT)))) (AI (AI rfl BVw.tok) TT)))
   refine zd ?_
   refine ze ?_
   refine zd ?_
   refine yf ?_
   refine LWp.sim ?_ (zo0 h)
   exact y6 (M := [((0, 0), (0, 0)), ((1, 0), (1, 0)), ((2, 0), (2, 0))]) rfl (AI (Vw.ptr _ _ _ _ rfl) (AI (Vw.ptr _ _ _ _ rfl) (S2 rfl rfl TT))) (AI (AI rfl (BVw.oneL (S2 rfl rfl (AI (VS rfl) TT)))) (AI (AI rfl (BVw.oneL (S2 rfl rfl (AI (Vw.osl _ _ _ _ rfl) TT)))) (AI (AI rfl BVw.tok) TT)))
 ·have h := zw h32 h
  refine Z2 ?_
  obtain ⟨o, hq, rfl⟩ := Option.map_eq_some_iff.1 h
  replace h := hq; clear hq
  refine AI nofun ?_
  refine LWp.sim ?_ (znj h)
  exact y6 (M := [((0, 0), (0, 0)), ((1, 0), (1, 0)), ((2, 0), (2, 0))]) rfl (AI (Vw.ptr _ _ _ _ rfl) (AI (Vw.ptr _ _ _ _ rfl) TT)) (AI (AI rfl (BVw.oneL (S2 rfl rfl (AI (VS rfl) TT)))) (AI (AI rfl (BVw.oneL (S2 rfl rfl (AI (Vw.osl _ _ _ _ rfl) TT)))) (AI (AI rfl BVw.tok) TT)))
theorem zoa {a1 : List UInt8} {a0 : G_QDocument} {v1 : Int} {v4 : List UInt8} {v5 : List (List UInt8)} {m : Option Nat} {o : (G_QIndexEntry × Bool)} (h : zn m a0 v1 v4 v5 = some o) :
 LWp Tryz.prog Xl 0 (.loop zwa) (zm 0 (ug Tryz.prog Xl 0 zpq (y1d a0 a1 o))) [(4, .ptr (0, 0) 0 0), (6, .ptr (1, 0) 0 0), (7, .str v4)] [((0, 0), .one [.str ([] : List UInt8), .int .u32 0, .isl 1 (([] : List (List UInt8)).map zb) true]), ((1, 0), .one [.str a0.f_Name, .int .u32 v1, .osl (2, 0) 1 (v5.map zb)]), ((2, 0), .tok)] 3 :=
 yi (m := m) (s := ((v4, v5) : ((List UInt8) × (List (List UInt8))))) (r := o) (fun (s : ((List UInt8) × (List (List UInt8)))) => y7 m a0 v1 s.1 s.2) (J8 a0 v1) (Vo a0 v1) (Up a0 a1) (fun s o h => zms h) h
noncomputable def q9 (m : Option Nat) (a0 : G_QDocument) (a1 : List UInt8) : Option (G_QIndexEntry × Bool) :=
 (qb m a0.f_Text).bind fun v1 =>
 if (((decide ((a1.length : Int) < 8)) == false) = true → (0 : Int) ≤ 8 ∧ 8 ≤ (a1.length : Int)) then
 (if ((decide ((a1.length : Int) < 8)) == false) = true then xm m (G_QIndexEntry.mk a0.f_Name v1 ([] : List (List UInt8))) else some default).bind fun v2 =>
 if ((decide ((a1.length : Int) < 8)) || (!(((a1.take (8 : Int).toNat).drop 0) == v2))) = true then
  some ((G_QIndexEntry.mk ([] : List UInt8) 0 ([] : List (List UInt8))), false)
 else
  if (0 : Int) ≤ 8 ∧ 8 ≤ (a1.length : Int) then
  zn m a0 v1 ((a1.take a1.length).drop (8 : Int).toNat) ([] : List (List UInt8))
  else none
 else none
theorem znu {a0 : G_QDocument} {a1 : List UInt8} {m : Option Nat} {o : G_QIndexEntry × Bool} (h : q9 m a0 a1 = some o) : LWp Tryz.prog Xl 0 zxh (y1d a0 a1 o) (zz 0 [.agg [.str a0.f_Name, .int .i64 a0.f_Version, .str a0.f_Text], .str a1]) [] 0 := by
 unfold q9 at h
 refine zd ?_
 refine ze ?_
 refine zd ?_
 refine z86 ?_
 obtain ⟨v1, h1, h⟩ := bind_some h
 refine PFn.call (zfu h1) (AI (VS rfl) TT) ?_
 refine AI rfl ?_
 refine AI rfl ?_
 refine AI rfl ?_
 refine LWp.sim (e := [(1, .str a1), (4, .ptr (0, 0) 0 0), (6, .ptr (1, 0) 0 0)]) (L := [((0, 0), .one [.str ([] : List UInt8), .int .u32 0, .isl 1 (([] : List (List UInt8)).map zb) true]), ((1, 0), .one [.str a0.f_Name, .int .u32 v1, .isl 1 (([] : List (List UInt8)).map zb) true])]) (n := 2) ?_ ?_
 ·exact y6 (M := [((0, 0), (1, 0)), ((1, 0), (2, 0))]) rfl (AI (VS rfl) (AI (Vw.ptr _ _ _ _ rfl) (AI (Vw.ptr _ _ _ _ rfl) TT))) (AI (AI rfl (BVw.oneL (S2 rfl rfl (AI (VS rfl) TT)))) (AI (AI rfl (BVw.oneL (S2 rfl rfl (AI (VS rfl) TT)))) TT))
 refine zd ?_
 refine zd ?_
 refine z4i rfl ?_
 obtain ⟨h2, h⟩ := zc h
 refine AI (fun hp => (AI hp (AI (Int.le_refl _) (h2 hp)))) ?_
 obtain ⟨v2, h3, h⟩ := bind_some h
 refine Or.inl (EX (.str v2) (AI (fun hp => AI hp (PFn.call (zxr (zk hp h3)) (AI (Vw.aggL (S2 rfl rfl (AI (Vw.islF _ _ _) TT))) TT) (AI rfl (AI rfl rfl)))) ?_))
 refine AI (fun hp => (AI hp hp)) ?_
 refine AI (fun hc => (bqf hc)) ?_
 refine LWp.sim (e := [(1, .str a1), (4, .ptr (0, 0) 0 0), (6, .ptr (1, 0) 0 0), (24, .bool ((decide ((a1.length : Int) < 8)) || (!(((a1.take (8 : Int).toNat).drop 0) == v2))))]) (L := [((0, 0), .one [.str ([] : List UInt8), .int .u32 0, .isl 1 (([] : List (List UInt8)).map zb) true]), ((1, 0), .one [.str a0.f_Name, .int .u32 v1, .isl 1 (([] : List (List UInt8)).map zb) true])]) (n := 2) ?_ ?_
 ·exact y6 (M := [((0, 0), (0, 0)), ((1, 0), (1, 0))]) rfl (AI (VS rfl) (AI (Vw.ptr _ _ _ _ rfl) (AI (Vw.ptr _ _ _ _ rfl) (AI (VS rfl) TT)))) (AI (AI rfl (BVw.oneL (S2 rfl rfl (AI (VS rfl) TT)))) (AI (AI rfl (BVw.oneL (S2 rfl rfl (AI (VS rfl) TT)))) TT))
 refine qj (v := ((decide ((a1.length : Int) < 8)) || (!(((a1.take (8 : Int).toNat).drop 0) == v2)))) rfl TT (fun h4 => ?_) (fun h4 => ?_)
 ·have h := zk h4 h
  refine zd ?_
  refine ze ?_
  refine u5 ?_
  cases h
  exact AI (AI TT (AI rfl (NB rfl))) (AI TT (AI rfl (Vw.tupL (AI (Vw.aggL (S2 rfl rfl (AI (Vw.islF _ _ _) TT))) (AI (VS rfl) TT)))))
 ·have h := zw h4 h
  refine qv ?_
  refine zd ?_
  refine ze ?_
  obtain ⟨h5, h⟩ := zc h
  refine AI (AI (And.left h5) (AI (And.right h5) (Int.le_refl _))) ?_
  refine zd ?_
  refine yf ?_
  refine LWp.sim ?_ (zoa h)
  exact y6 (M := [((0, 0), (0, 0)), ((1, 0), (1, 0))]) rfl (AI (Vw.ptr _ _ _ _ rfl) (AI (Vw.ptr _ _ _ _ rfl) (AI (VS rfl) TT))) (AI (AI rfl (BVw.oneL (S2 rfl rfl (AI (VS rfl) TT)))) (AI (AI rfl (BVw.oneL (S2 rfl rfl (AI (Vw.islO _ _ _ (by decide)) TT)))) (AI (AI rfl (AI (by decide) (by decide))) TT)))
theorem y2b {a0 : G_QDocument} {a1 : List UInt8} {m : Option Nat} {o : G_QIndexEntry × Bool} (h : q9 m a0 a1 = some o) : PFn Tryz.prog 9 [.agg [.str a0.f_Name, .int .i64 a0.f_Version, .str a0.f_Text], .str a1] (.tup [.agg [.str o.1.f_Name, .int .u32 o.1.f_Sum, .isl 1 (o.1.f_Words.map zb) false], .bool o.2]) := PFn.ofFnW (L := y2v) y0b y0i (NB rfl) rfl (znu h)
def zrw : LCode := (.region [⟨some 4, .mv (.c (.str [])), none⟩])
def zi4 : LCode := (.region [⟨some 35, .bin .add (.t 9) (.c (.int .i64 1)), none⟩,
 ⟨some 9, .mv (.t 35), none⟩])
def zlf : LCode := (.seq (.region [⟨some 10, .bin .lss (.t 9) (.t 8), none⟩])
 (.seq (.cond (.t 10)
  .skip
  (.exit 0))
 (.seq (.block 1
  (.seq (.region [⟨some 11, .mv (.t 9), none⟩,
   ⟨some 5, .mv (.t 11), none⟩])
  (.seq (.seq (.region [⟨some 12, .mv (.t 5), none⟩,
   ⟨some 13, .mv (.t 0), none⟩,
   ⟨some 14, .len true (.t 13), none⟩,
   ⟨some 15, .bin .lss (.t 12) (.t 14), none⟩,
   ⟨some 16, .mv (.t 15), none⟩,
   ⟨some 17, .mv (.t 0), some (16, true)⟩,
   ⟨some 18, .mv (.t 5), some (16, true)⟩,
   ⟨some 19, .idxS (.t 17) (.t 18), some (16, true)⟩,
   ⟨some 20, .call 52 [(.t 19)], some (16, true)⟩,
   ⟨some 21, .pick (.t 16) (.t 20) (.c (.bool false)), none⟩])
  (.cond (.t 21)
   (.seq (.region [⟨some 22, .mv (.t 4), none⟩,
    ⟨some 23, .mv (.t 0), none⟩,
    ⟨some 24, .mv (.t 5), none⟩,
    ⟨some 25, .mv (.t 5), none⟩,
    ⟨some 26, .bin .add (.t 25) (.c (.int .i64 1)), none⟩,
    ⟨some 27, .slStr (.t 23) (some (.t 24)) (some (.t 26)), none⟩,
    ⟨some 28, .bin .add (.t 22) (.t 27), none⟩,
    ⟨some 4, .mv (.t 28), none⟩])
   (.exit 1))
   .skip))
  (.seq (.seq (.region [⟨some 29, .mv (.t 4), none⟩,
   ⟨some 30, .bin .neq (.t 29) (.c (.str [])), none⟩])
  (.cond (.t 30)
   (.region [⟨some 31, .mv (.t 3), none⟩,
    ⟨some 32, .mv (.t 4), none⟩,
    ⟨some 33, .mkSl true 1 [(.str [])] 1 [(0, (.t 32))], none⟩,
    ⟨some 34, .app true 1 16 (.t 31) (.t 33), none⟩,
    ⟨some 3, .mv (.t 34), none⟩])
   .skip))
  zrw))))
 zi4)))
def zal : LCode := (.seq (.region [⟨some 36, .mv (.t 3), none⟩,
 ⟨some 37, .call 14 [(.t 36)], none⟩,
 ⟨some 3, .mv (.t 37), none⟩])
 (.seq (.region [⟨some 38, .mv (.t 3), none⟩,
  ⟨some 39, .mv (.t 3), none⟩,
  ⟨some 40, .len false (.t 39), none⟩,
  ⟨some 41, .mnx false [(.t 40), (.c (.int .i64 400))], none⟩,
  ⟨some 42, .slSl 1 (.t 38) none (some (.t 41)) none, none⟩,
  ⟨some 2, .mv (.t 42), none⟩])
 .ret))
def zrj : LCode := (.seq (.region [⟨some 2, .mv (.c (.val (.slice none 0 0))), none⟩])
 (.seq (.region [⟨some 3, .mv (.c (.val (.slice none 0 0))), none⟩])
 (.seq (.region [⟨some 4, .mv (.c (.str [])), none⟩])
 (.seq (.seq (.region [⟨some 6, .mv (.t 0), none⟩,
  ⟨some 7, .len true (.t 6), none⟩,
  ⟨some 8, .bin .add (.t 7) (.c (.int .i64 1)), none⟩,
  ⟨some 9, .mv (.c (.int .i64 0)), none⟩])
 (.block 0
  (.loop
   zlf)))
 zal))))
def Qo : Lay := ⟨43, [], false⟩
def zkr : List LRes := [.t 2]
def zxa : LFn := ⟨1, Qo, zrj, zkr⟩
theorem zwx : ww Tryz.prog [] 32 = some zxa := by kernel_rfl
theorem ztt : Z9 Tryz.prog 32 := ⟨_, Tryz.func32, rfl, rfl⟩
def zp2 (a0 : List UInt8) (o : (List (List UInt8))) : Exit → Env → AHeap → Nat → Prop := Zy zkr (q6 (.isl 1 (o.map zb) false))
def Jp (a0 : List UInt8) (s : ((List (List UInt8)) × (List UInt8) × Int)) : Env := [(0, .str a0), (3, .osl (0, 0) 1 (s.1.map zb)), (4, .str s.2.1), (8, .int .i64 (W ((a0.length : Int) + 1))), (9, .int .i64 s.2.2)]
def Vk (a0 : List UInt8) (s : ((List (List UInt8)) × (List UInt8) × Int)) : AHeap := [((0, 0), .tok)]
def U2 (a0 : List UInt8) (o : (List (List UInt8))) : Exit → Env → AHeap → Nat → Prop := (zm 0 (ug Tryz.prog Qo 0 zal (zp2 a0 o)))
noncomputable def x5 (m : Option Nat) (a0 : List UInt8) (v7 : Int) (v14 : List (List UInt8)) (v15 : List UInt8) : Option (((List (List UInt8)) × (List UInt8) × Int) ⊕ (List (List UInt8))) :=
 some (.inl (v14, v15, (W (v7 + 1))))
noncomputable def x6 (m : Option Nat) (a0 : List UInt8) (v7 : Int) (v13 : List (List UInt8)) : Option (((List (List UInt8)) × (List UInt8) × Int) ⊕ (List (List UInt8))) :=
 x5 m a0 v7 v13 ([] : List UInt8)
theorem z7g {a0 : List UInt8} {v7 : Int} {v14 : List (List UInt8)} {v15 : List UInt8} {m : Option Nat} {o : (((List (List UInt8)) × (List UInt8) × Int) ⊕ (List (List UInt8)))} (h : x5 m a0 v7 v14 v15 = some o) :
 LWp Tryz.prog Qo 0 zi4 (xt 0 1 (Jp a0) (Vk a0) (U2 a0) o) [(0, .str a0), (3, .osl (0, 0) 1 (v14.map zb)), (4, .str v15), (8, .int .i64 (W ((a0.length : Int) + 1))), (9, .int .i64 v7)] [((0, 0), .tok)] 1 := by
 unfold x5 at h
 refine ze ?_
 cases h
 exact AI rfl (y6 (M := [((0, 0), (0, 0))]) rfl (AI (VS rfl) (AI (Vw.osl _ _ _ _ rfl) (S2 rfl rfl (AI (VS rfl) TT)))) (AI (AI rfl BVw.tok) TT))
theorem z7v {a0 : List UInt8} {v7 : Int} {v13 : List (List UInt8)} {m : Option Nat} {o : (((List (List UInt8)) × (List UInt8) × Int) ⊕ (List (List UInt8)))} (h : x6 m a0 v7 v13 = some o) :
 LWp Tryz.prog Qo 0 zrw (zm 1 (ug Tryz.prog Qo 0 zi4 (xt 0 1 (Jp a0) (Vk a0) (U2 a0) o))) [(0, .str a0), (3, .osl (0, 0) 1 (v13.map zb)), (8, .int .i64 (W ((a0.length : Int) + 1))), (9, .int .i64 v7)] [((0, 0), .tok)] 1 := by
 unfold x6 at h
 refine ze ?_
 refine LWp.sim ?_ (z7g h)
 exact y6 (M := [((0, 0), (0, 0))]) rfl (AI (VS rfl) (AI (Vw.osl _ _ _ _ rfl) (S2 rfl rfl (AI (VS rfl) TT)))) (AI (AI rfl BVw.tok) TT)
noncomputable def w9 (m : Option Nat) (v5 : List (List UInt8)) : Option (List (List UInt8)) :=
 (yk m v5).bind fun v16 =>
 if (0 : Int) ≤ (if 400 < ((v16.map zb).length : Int) then 400 else ((v16.map zb).length : Int)) ∧ (if 400 < ((v16.map zb).length : Int) then 400 else ((v16.map zb).length : Int)) ≤ ((v16.map zb).length : Int) then
 some (v16.take (if 400 < ((v16.map zb).length : Int) then 400 else ((v16.map zb).length : Int)).toNat)
 else none
noncomputable def qf (m : Option Nat) (a0 : List UInt8) (v5 : List (List UInt8)) (v6 : List UInt8) (v7 : Int) : Option (((List (List UInt8)) × (List UInt8) × Int) ⊕ (List (List UInt8))) :=
 if (decide (v7 < (W ((a0.length : Int) + 1)))) = true then
  if (((decide (v7 < (a0.length : Int))) == true) = true → (0 : Int) ≤ v7 ∧ v7 < (a0.length : Int)) then
  (if ((decide (v7 < (a0.length : Int))) == true) = true then j2 m (((a0.getD v7.toNat 0).toNat : Nat) : Int) else some default).bind fun v12 =>
  if ((decide (v7 < (a0.length : Int))) && v12) = true then
   if (0 : Int) ≤ v7 ∧ v7 ≤ (W (v7 + 1)) ∧ (W (v7 + 1)) ≤ (a0.length : Int) then
   if (((v6.length + ((a0.take (W (v7 + 1)).toNat).drop v7.toNat).length : Nat) : Int) ≤ 9223372036854775807) then
   x5 m a0 v7 v5 (v6 ++ ((a0.take (W (v7 + 1)).toNat).drop v7.toNat))
   else none
   else none
  else
   if (!(v6 == ([] : List UInt8))) = true then
    if ((v5 ++ ([v6] : List (List UInt8))).map zb).length * 16 ≤ 140737488355328 then
    x6 m a0 v7 (v5 ++ ([v6] : List (List UInt8)))
    else none
   else
    x6 m a0 v7 v5
  else none
 else
  Option.map Sum.inr (
   w9 m v5)
noncomputable def wj (m : Option Nat) (a0 : List UInt8) (v5 : List (List UInt8)) (v6 : List UInt8) (v7 : Int) : Option (List (List UInt8)) := u4 m (fun (s : ((List (List UInt8)) × (List UInt8) × Int)) => qf m a0 s.1 s.2.1 s.2.2) (v5, v6, v7)
theorem zf3 {a0 : List UInt8} {v5 : List (List UInt8)} {m : Option Nat} {o : (List (List UInt8))} (h : w9 m v5 = some o) :
 LWp Tryz.prog Qo 0 zal (zp2 a0 o) [(3, .osl (0, 0) 1 (v5.map zb))] [((0, 0), .tok)] 1 := by
 unfold w9 at h
 refine zd ?_
 refine ze ?_
 obtain ⟨v16, h25, h⟩ := bind_some h
 refine PFn.call (zcr h25) (AI (Vw.oslI _ _ _) TT) ?_
 refine zd ?_
 refine ze ?_
 obtain ⟨h26, h⟩ := zc h
 refine EX (.isl 1 ((v16.take (if 400 < ((v16.map zb).length : Int) then 400 else ((v16.map zb).length : Int)).toNat).map zb) false) (AI (zox zb (slB zb v16 _) rfl) (AI (AI rfl (AI (Int.le_refl _) h26)) ?_))
 refine LWp.sim (e := [(2, .isl 1 ((v16.take (if 400 < ((v16.map zb).length : Int) then 400 else ((v16.map zb).length : Int)).toNat).map zb) false)]) (L := []) (n := 0) ?_ ?_
 ·exact y6 (M := []) rfl (AI (VS rfl) TT) TT
 refine u5 ?_
 cases h
 exact AI TT (AI rfl (VS rfl))
theorem zej {a0 : List UInt8} {v5 : List (List UInt8)} {v6 : List UInt8} {v7 : Int} {m : Option Nat} {o : ((List (List UInt8)) × (List UInt8) × Int) ⊕ (List (List UInt8))} (h : qf m a0 v5 v6 v7 = some o) :
 LWp Tryz.prog Qo 0 zlf (xt 0 1 (Jp a0) (Vk a0) (U2 a0) o) [(0, .str a0), (3, .osl (0, 0) 1 (v5.map zb)), (4, .str v6), (8, .int .i64 (W ((a0.length : Int) + 1))), (9, .int .i64 v7)] [((0, 0), .tok)] 1 := by
 unfold qf at h
 refine zd ?_
 refine ze ?_
 refine zd ?_
 refine qj (v := (decide (v7 < (W ((a0.length : Int) + 1))))) rfl TT (fun h17 => ?_) (fun h17 => ?_)
 ·have h := zk h17 h
  refine qv ?_
  refine zd ?_
  refine yf ?_
  refine zd ?_
  refine ze ?_
  refine zd ?_
  refine zd ?_
  refine ze ?_
  obtain ⟨h18, h⟩ := zc h
  refine AI (fun hp => (AI (AI hp hp) (h18 hp))) ?_
  obtain ⟨v12, h19, h⟩ := bind_some h
  refine Or.inl (EX (.bool v12) (AI (fun hp => AI hp (PFn.call (zr0 (zk hp h19)) (AI (VS rfl) TT) (AI rfl (AI rfl rfl)))) ?_))
  refine AI (fun hc => (bqt hc)) ?_
  refine LWp.sim (e := [(0, .str a0), (3, .osl (0, 0) 1 (v5.map zb)), (4, .str v6), (5, .int .i64 v7), (8, .int .i64 (W ((a0.length : Int) + 1))), (9, .int .i64 v7), (21, .bool ((decide (v7 < (a0.length : Int))) && v12))]) (L := [((0, 0), .tok)]) (n := 1) ?_ ?_
  ·exact y6 (M := [((0, 0), (0, 0))]) rfl (AI (VS rfl) (AI (Vw.osl _ _ _ _ rfl) (S4 rfl rfl rfl rfl (AI (VS rfl) TT)))) (AI (AI rfl BVw.tok) TT)
  refine qj (v := ((decide (v7 < (a0.length : Int))) && v12)) rfl TT (fun h20 => ?_) (fun h20 => ?_)
  ·have h := zk h20 h
   refine zd ?_
   refine ze ?_
   obtain ⟨h21, h⟩ := zc h
   refine AI h21 ?_
   obtain ⟨h22, h⟩ := zc h
   refine AI h22 ?_
   refine LWp.sim (e := [(0, .str a0), (3, .osl (0, 0) 1 (v5.map zb)), (4, .str (v6 ++ ((a0.take (W (v7 + 1)).toNat).drop v7.toNat))), (8, .int .i64 (W ((a0.length : Int) + 1))), (9, .int .i64 v7)]) (L := [((0, 0), .tok)]) (n := 1) ?_ ?_
   ·exact y6 (M := [((0, 0), (0, 0))]) rfl (AI (VS rfl) (AI (Vw.osl _ _ _ _ rfl) (S2 rfl rfl (AI (VS rfl) TT)))) (AI (AI rfl BVw.tok) TT)
   refine Z2 ?_
   refine LWp.sim ?_ (z7g h)
   exact y6 (M := [((0, 0), (0, 0))]) rfl (AI (VS rfl) (AI (Vw.osl _ _ _ _ rfl) (S2 rfl rfl (AI (VS rfl) TT)))) (AI (AI rfl BVw.tok) TT)
  ·have h := zw h20 h
   refine qv ?_
   refine zd ?_
   refine zd ?_
   refine ze ?_
   refine qj (v := (!(v6 == ([] : List UInt8)))) rfl TT (fun h23 => ?_) (fun h23 => ?_)
   ·have h := zk h23 h
    refine ze ?_
    obtain ⟨h24, h⟩ := zc h
    refine EX ((v5 ++ ([v6] : List (List UInt8))).map zb) (AI (Y3 zb v5 ([v6] : List (List UInt8))) (AI h24 ?_))
    refine LWp.sim ?_ (z7v h)
    exact y6 (M := [((0, 0), (1, 0))]) rfl (AI (VS rfl) (AI (Vw.osl _ _ _ _ rfl) (S2 rfl rfl TT))) (AI (AI rfl BVw.tok) TT)
   ·have h := zw h23 h
    refine qv ?_
    refine LWp.sim ?_ (z7v h)
    exact y6 (M := [((0, 0), (0, 0))]) rfl (AI (VS rfl) (AI (Vw.osl _ _ _ _ rfl) (S2 rfl rfl TT))) (AI (AI rfl BVw.tok) TT)
 ·have h := zw h17 h
  refine Z2 ?_
  obtain ⟨o, hq, rfl⟩ := Option.map_eq_some_iff.1 h
  replace h := hq; clear hq
  refine AI nofun ?_
  refine LWp.sim ?_ (zf3 h)
  exact y6 (M := [((0, 0), (0, 0))]) rfl (AI (Vw.osl _ _ _ _ rfl) TT) (AI (AI rfl BVw.tok) TT)
theorem zhd {a0 : List UInt8} {v5 : List (List UInt8)} {v6 : List UInt8} {v7 : Int} {m : Option Nat} {o : (List (List UInt8))} (h : wj m a0 v5 v6 v7 = some o) :
 LWp Tryz.prog Qo 0 (.loop zlf) (zm 0 (ug Tryz.prog Qo 0 zal (zp2 a0 o))) [(0, .str a0), (3, .osl (0, 0) 1 (v5.map zb)), (4, .str v6), (8, .int .i64 (W ((a0.length : Int) + 1))), (9, .int .i64 v7)] [((0, 0), .tok)] 1 :=
 yi (m := m) (s := ((v5, v6, v7) : ((List (List UInt8)) × (List UInt8) × Int))) (r := o) (fun (s : ((List (List UInt8)) × (List UInt8) × Int)) => qf m a0 s.1 s.2.1 s.2.2) (Jp a0) (Vk a0) (U2 a0) (fun s o h => zej h) h
noncomputable def wa (m : Option Nat) (a0 : List UInt8) : Option (List (List UInt8)) :=
 wj m a0 [] ([] : List UInt8) 0
theorem zjb {a0 : List UInt8} {m : Option Nat} {o : (List (List UInt8))} (h : wa m a0 = some o) : LWp Tryz.prog Qo 0 zrj (zp2 a0 o) (zz 0 [.str a0]) [] 0 := by
 unfold wa at h
 refine zd ?_
 refine ze ?_
 refine zd ?_
 refine ze ?_
 refine zd ?_
 refine ze ?_
 refine zd ?_
 refine zd ?_
 refine ze ?_
 refine yf ?_
 refine LWp.sim ?_ (zhd h)
 exact y6 (M := []) rfl (AI (VS rfl) (AI (Vw.nilO _ _ (by decide)) (S2 rfl rfl (AI (VS rfl) TT)))) (AI (AI rfl (AI (by decide) (by decide))) TT)
theorem zxs {a0 : List UInt8} {m : Option Nat} {o : (List (List UInt8))} (h : wa m a0 = some o) : PFn Tryz.prog 32 [.str a0] (.isl 1 (o.map zb) false) := PFn.ofFnW (L := zxa) zwx ztt (NB rfl) rfl (zjb h)
def zrm : LCode := (.seq (.region [⟨some 1, .box (.t 0), none⟩,
 ⟨some 2, .alloc [(.str []), (.int .u32 0), (.isl 1 [] true)], none⟩])
 (.seq (.draw [⟨⟨some 3, .faddr 0 (.t 1), none⟩, []⟩,
  ⟨⟨some 4, .load false 1 (.t 3), none⟩, []⟩,
  ⟨⟨some 5, .faddr 2 (.t 1), none⟩, []⟩,
  ⟨⟨some 6, .load false 1 (.t 5), none⟩, []⟩,
  ⟨⟨some 8, .faddr 2 (.t 1), none⟩, []⟩,
  ⟨⟨some 9, .load false 1 (.t 8), none⟩, []⟩,
  ⟨⟨some 7, .call 28 [(.t 6)], none⟩, [1, 5]⟩,
  ⟨⟨some 10, .call 32 [(.t 9)], none⟩, [1]⟩,
  ⟨⟨some 11, .build [(.str []), (.int .u32 0), (.isl 1 [] true)] [(0, 1, (.t 4)), (1, 1, (.t 7)), (2, 1, (.t 10))], none⟩, []⟩,
  ⟨⟨none, .store 3 (.t 2) (.t 11), none⟩, []⟩])
 .ret))
def zkv : Lay := ⟨12, [], false⟩
def zmv : List LRes := [.cell 2 true 3]
def y19 : LFn := ⟨1, zkv, zrm, zmv⟩
theorem zu9 : ww Tryz.prog [] 10 = some y19 := by kernel_rfl
theorem zup : Z9 Tryz.prog 10 := ⟨_, Tryz.func10, rfl, rfl⟩
noncomputable def we (m : Option Nat) (a0 : G_QDocument) : Option G_QIndexEntry :=
 (qb m a0.f_Text).bind fun v1 =>
 (wa m a0.f_Text).bind fun v2 =>
 some (G_QIndexEntry.mk a0.f_Name v1 v2)
def y2h (a0 : G_QDocument) (o : G_QIndexEntry) : Exit → Env → AHeap → Nat → Prop := Zy zmv (q6 (.agg [.str o.f_Name, .int .u32 o.f_Sum, .isl 1 (o.f_Words.map zb) false]))
theorem zj3 {a0 : G_QDocument} {m : Option Nat} {o : G_QIndexEntry} (h : we m a0 = some o) : LWp Tryz.prog zkv 0 zrm (y2h a0 o) (zz 0 [.agg [.str a0.f_Name, .int .i64 a0.f_Version, .str a0.f_Text]]) [] 0 := by
 unfold we at h
 refine zd ?_
 refine ze ?_
 refine zd ?_
 refine z86 ?_
 obtain ⟨v1, h1, h⟩ := bind_some h
 refine PFn.call (zfu h1) (AI (VS rfl) TT) ?_
 refine AI rfl ?_
 refine AI rfl ?_
 obtain ⟨v2, h2, h⟩ := bind_some h
 refine PFn.call (zxs h2) (AI (VS rfl) TT) ?_
 refine AI rfl ?_
 refine LWp.sim (e := [(2, .ptr (0, 0) 0 0)]) (L := [((0, 0), .one [.str a0.f_Name, .int .u32 v1, .isl 1 (v2.map zb) false])]) (n := 1) ?_ ?_
 ·exact y6 (M := [((0, 0), (1, 0))]) rfl (AI (Vw.ptr _ _ _ _ rfl) TT) (AI (AI rfl (BVw.oneL (S2 rfl rfl (AI (VS rfl) TT)))) TT)
 refine u5 ?_
 cases h
 exact AI (AI TT (AI rfl (NB rfl))) (AI rfl (VS rfl))
theorem zxo {a0 : G_QDocument} {m : Option Nat} {o : G_QIndexEntry} (h : we m a0 = some o) : PFn Tryz.prog 10 [.agg [.str a0.f_Name, .int .i64 a0.f_Version, .str a0.f_Text]] (.agg [.str o.f_Name, .int .u32 o.f_Sum, .isl 1 (o.f_Words.map zb) false]) := PFn.ofFnW (L := y19) zu9 zup (NB rfl) rfl (zj3 h)
def zs5 : LCode := (.seq (.region [⟨some 28, .faddr 0 (.t 8), none⟩,
 ⟨some 29, .load false 1 (.t 28), none⟩,
 ⟨some 30, .faddr 0 (.t 3), none⟩,
 ⟨some 31, .load false 1 (.t 30), none⟩,
 ⟨some 32, .bin .neq (.t 29) (.t 31), none⟩])
 (.cond (.t 32)
  (.region [⟨some 33, .mv (.t 5), none⟩,
   ⟨some 34, .load true 3 (.t 8), none⟩,
   ⟨some 35, .mkSl true 3 [(.str []), (.int .u32 0), (.isl 1 [] true)] 1 [(0, (.t 34))], none⟩,
   ⟨some 36, .app true 3 48 (.t 33) (.t 35), none⟩,
   ⟨some 5, .mv (.t 36), none⟩])
  .skip))
def znc : LCode := (.region [⟨some 37, .bin .add (.t 11) (.c (.int .i64 1)), none⟩,
 ⟨some 11, .mv (.t 37), none⟩])
def znd : LCode := (.seq (.region [⟨some 12, .bin .lss (.t 11) (.t 10), none⟩])
 (.seq (.cond (.t 12)
  .skip
  (.exit 0))
 (.seq (.block 1
  (.seq (.region [⟨some 13, .iaddr 3 (.t 9) (.t 11), none⟩,
   ⟨some 14, .load true 3 (.t 13), none⟩,
   ⟨some 8, .alloc [(.str []), (.int .u32 0), (.isl 1 [] true)], none⟩,
   ⟨none, .store 3 (.t 8) (.t 14), none⟩])
  (.seq (.seq (.region [⟨some 15, .mv (.t 6), none⟩,
   ⟨some 16, .un .not (.t 15), none⟩,
   ⟨some 17, .mv (.t 16), none⟩,
   ⟨some 18, .faddr 0 (.t 8), some (17, true)⟩,
   ⟨some 19, .load false 1 (.t 18), some (17, true)⟩,
   ⟨some 20, .faddr 0 (.t 3), some (17, true)⟩,
   ⟨some 21, .load false 1 (.t 20), some (17, true)⟩,
   ⟨some 22, .bin .geq (.t 19) (.t 21), some (17, true)⟩,
   ⟨some 23, .pick (.t 17) (.t 22) (.c (.bool false)), none⟩])
  (.cond (.t 23)
   (.seq (.region [⟨some 24, .mv (.t 5), none⟩,
    ⟨some 25, .load true 3 (.t 3), none⟩,
    ⟨some 26, .mkSl true 3 [(.str []), (.int .u32 0), (.isl 1 [] true)] 1 [(0, (.t 25))], none⟩,
    ⟨some 27, .app true 3 48 (.t 24) (.t 26), none⟩,
    ⟨some 5, .mv (.t 27), none⟩])
   (.region [⟨some 6, .mv (.c (.bool true)), none⟩]))
   .skip))
  zs5)))
 znc)))
def zst : LCode := (.seq (.region [⟨some 44, .mv (.t 5), none⟩,
 ⟨some 4, .mv (.t 44), none⟩])
 .ret)
def za1 : LCode := (.seq (.seq (.region [⟨some 38, .mv (.t 6), none⟩,
 ⟨some 39, .un .not (.t 38), none⟩])
 (.cond (.t 39)
  (.region [⟨some 40, .mv (.t 5), none⟩,
   ⟨some 41, .load true 3 (.t 3), none⟩,
   ⟨some 42, .mkSl true 3 [(.str []), (.int .u32 0), (.isl 1 [] true)] 1 [(0, (.t 41))], none⟩,
   ⟨some 43, .app true 3 48 (.t 40) (.t 42), none⟩,
   ⟨some 5, .mv (.t 43), none⟩])
  .skip))
 zst)
def zse : LCode := (.seq (.region [⟨some 3, .box (.t 1), none⟩,
 ⟨some 4, .mv (.c (.val (.slice none 0 0))), none⟩])
 (.seq (.region [⟨some 5, .mv (.c (.val (.slice none 0 0))), none⟩])
 (.seq (.region [⟨some 6, .mv (.c (.bool false)), none⟩])
 (.seq (.seq (.region [⟨some 9, .mv (.t 0), none⟩,
  ⟨some 10, .len false (.t 9), none⟩,
  ⟨some 11, .mv (.c (.int .i64 0)), none⟩])
 (.block 0
  (.loop
   znd)))
 za1))))
def Q1 : Lay := ⟨45, [], false⟩
def zer : List LRes := [.t 4]
def y0m : LFn := ⟨2, Q1, zse, zer⟩
theorem zuu : ww Tryz.prog [] 11 = some y0m := by kernel_rfl
theorem zuz : Z9 Tryz.prog 11 := ⟨_, Tryz.func11, rfl, rfl⟩
def zhr (a0 : List G_QIndexEntry) (a1 : G_QIndexEntry) (o : (List G_QIndexEntry)) : Exit → Env → AHeap → Nat → Prop := Zy zer (q6 (.isl 3 (o.map z7) false))
def Jk (a0 : List G_QIndexEntry) (a1 : G_QIndexEntry) (s : ((List G_QIndexEntry) × Bool × Int)) : Env := [(3, .ptr (0, 0) 0 0), (5, .osl (1, 0) 3 (s.1.map z7)), (6, .bool s.2.1), (9, .isl 3 (a0.map z7) false), (10, .int .i64 ((a0.map z7).length : Int)), (11, .int .i64 s.2.2)]
def Vp (a0 : List G_QIndexEntry) (a1 : G_QIndexEntry) (s : ((List G_QIndexEntry) × Bool × Int)) : AHeap := [((0, 0), .one [.str a1.f_Name, .int .u32 a1.f_Sum, .isl 1 (a1.f_Words.map zb) false]), ((1, 0), .tok)]
def Kx (a0 : List G_QIndexEntry) (a1 : G_QIndexEntry) (o : (List G_QIndexEntry)) : Exit → Env → AHeap → Nat → Prop := (zm 0 (ug Tryz.prog Q1 0 za1 (zhr a0 a1 o)))
noncomputable def xa (m : Option Nat) (a0 : List G_QIndexEntry) (a1 : G_QIndexEntry) (v6 : Int) (v11 : Bool) (v12 : List G_QIndexEntry) : Option (((List G_QIndexEntry) × Bool × Int) ⊕ (List G_QIndexEntry)) :=
 some (.inl (v12, v11, (W (v6 + 1))))
theorem z7e {a0 : List G_QIndexEntry} {a1 : G_QIndexEntry} {v6 : Int} {v11 : Bool} {v12 : List G_QIndexEntry} {m : Option Nat} {o : (((List G_QIndexEntry) × Bool × Int) ⊕ (List G_QIndexEntry))} (h : xa m a0 a1 v6 v11 v12 = some o) :
 LWp Tryz.prog Q1 0 znc (xt 0 2 (Jk a0 a1) (Vp a0 a1) (Kx a0 a1) o) [(3, .ptr (0, 0) 0 0), (5, .osl (1, 0) 3 (v12.map z7)), (6, .bool v11), (9, .isl 3 (a0.map z7) false), (10, .int .i64 ((a0.map z7).length : Int)), (11, .int .i64 v6)] [((0, 0), .one [.str a1.f_Name, .int .u32 a1.f_Sum, .isl 1 (a1.f_Words.map zb) false]), ((1, 0), .tok)] 2 := by
 unfold xa at h
 refine ze ?_
 cases h
 exact AI rfl (y6 (M := [((0, 0), (0, 0)), ((1, 0), (1, 0))]) rfl (AI (Vw.ptr _ _ _ _ rfl) (AI (Vw.osl _ _ _ _ rfl) (S4 rfl rfl rfl rfl TT))) (AI (AI rfl (BVw.oneL (S2 rfl rfl (AI (VS rfl) TT)))) (AI (AI rfl BVw.tok) TT)))
noncomputable def qh (m : Option Nat) (a0 : List G_QIndexEntry) (a1 : G_QIndexEntry) (v6 : Int) (v10 : List G_QIndexEntry) (v11 : Bool) : Option (((List G_QIndexEntry) × Bool × Int) ⊕ (List G_QIndexEntry)) :=
 if (!((a0.getD v6.toNat default).f_Name == a1.f_Name)) = true then
  if ((v10 ++ ([(G_QIndexEntry.mk ((a0.getD v6.toNat default).f_Name) ((a0.getD v6.toNat default).f_Sum) ((a0.getD v6.toNat default).f_Words))] : List G_QIndexEntry)).map z7).length * 48 ≤ 140737488355328 then
  xa m a0 a1 v6 v11 (v10 ++ ([(G_QIndexEntry.mk ((a0.getD v6.toNat default).f_Name) ((a0.getD v6.toNat default).f_Sum) ((a0.getD v6.toNat default).f_Words))] : List G_QIndexEntry))
  else none
 else
  xa m a0 a1 v6 v11 v10
theorem z6q {a0 : List G_QIndexEntry} {a1 : G_QIndexEntry} {v6 : Int} {v10 : List G_QIndexEntry} {v11 : Bool} {m : Option Nat} {o : (((List G_QIndexEntry) × Bool × Int) ⊕ (List G_QIndexEntry))} (h : qh m a0 a1 v6 v10 v11 = some o) :
 LWp Tryz.prog Q1 0 zs5 (zm 1 (ug Tryz.prog Q1 0 znc (xt 0 2 (Jk a0 a1) (Vp a0 a1) (Kx a0 a1) o))) [(3, .ptr (0, 0) 0 0), (5, .osl (1, 0) 3 (v10.map z7)), (6, .bool v11), (8, .ptr (2, 0) 0 0), (9, .isl 3 (a0.map z7) false), (10, .int .i64 ((a0.map z7).length : Int)), (11, .int .i64 v6)] [((0, 0), .one [.str a1.f_Name, .int .u32 a1.f_Sum, .isl 1 (a1.f_Words.map zb) false]), ((1, 0), .tok), ((2, 0), .one [.str ((a0.getD v6.toNat default).f_Name), .int .u32 ((a0.getD v6.toNat default).f_Sum), .isl 1 (((a0.getD v6.toNat default).f_Words).map zb) false])] 3 := by
 unfold qh at h
 refine zd ?_
 refine ze ?_
 refine qj (v := (!((a0.getD v6.toNat default).f_Name == a1.f_Name))) rfl TT (fun h17 => ?_) (fun h17 => ?_)
 ·have h := zk h17 h
  refine ze ?_
  obtain ⟨h18, h⟩ := zc h
  refine EX ((v10 ++ ([(G_QIndexEntry.mk ((a0.getD v6.toNat default).f_Name) ((a0.getD v6.toNat default).f_Sum) ((a0.getD v6.toNat default).f_Words))] : List G_QIndexEntry)).map z7) (AI (Y3 z7 v10 ([(G_QIndexEntry.mk ((a0.getD v6.toNat default).f_Name) ((a0.getD v6.toNat default).f_Sum) ((a0.getD v6.toNat default).f_Words))] : List G_QIndexEntry)) (AI h18 ?_))
  refine LWp.sim ?_ (z7e h)
  exact y6 (M := [((0, 0), (0, 0)), ((1, 0), (3, 0))]) rfl (AI (Vw.ptr _ _ _ _ rfl) (AI (Vw.osl _ _ _ _ rfl) (S4 rfl rfl rfl rfl TT))) (AI (AI rfl (BVw.oneL (S2 rfl rfl (AI (VS rfl) TT)))) (AI (AI rfl BVw.tok) TT))
 ·have h := zw h17 h
  refine qv ?_
  refine LWp.sim ?_ (z7e h)
  exact y6 (M := [((0, 0), (0, 0)), ((1, 0), (1, 0))]) rfl (AI (Vw.ptr _ _ _ _ rfl) (AI (Vw.osl _ _ _ _ rfl) (S4 rfl rfl rfl rfl TT))) (AI (AI rfl (BVw.oneL (S2 rfl rfl (AI (VS rfl) TT)))) (AI (AI rfl BVw.tok) TT))
noncomputable def xg (m : Option Nat) (v13 : List G_QIndexEntry) : Option (List G_QIndexEntry) :=
 some v13
noncomputable def jp (m : Option Nat) (a1 : G_QIndexEntry) (v4 : List G_QIndexEntry) (v5 : Bool) : Option (List G_QIndexEntry) :=
 if (!v5) = true then
  if ((v4 ++ ([a1] : List G_QIndexEntry)).map z7).length * 48 ≤ 140737488355328 then
  xg m (v4 ++ ([a1] : List G_QIndexEntry))
  else none
 else
  xg m v4
noncomputable def yj (m : Option Nat) (a0 : List G_QIndexEntry) (a1 : G_QIndexEntry) (v4 : List G_QIndexEntry) (v5 : Bool) (v6 : Int) : Option (((List G_QIndexEntry) × Bool × Int) ⊕ (List G_QIndexEntry)) :=
 if (decide (v6 < ((a0.map z7).length : Int))) = true then
  if (0 : Int) ≤ v6 ∧ v6 < ((a0.map z7).length : Int) then
  if ((!v5) && (!(Op.bytesLess ((a0.getD v6.toNat default).f_Name) a1.f_Name))) = true then
   if ((v4 ++ ([a1] : List G_QIndexEntry)).map z7).length * 48 ≤ 140737488355328 then
   qh m a0 a1 v6 (v4 ++ ([a1] : List G_QIndexEntry)) true
   else none
  else
   qh m a0 a1 v6 v4 v5
  else none
 else
  Option.map Sum.inr (
   jp m a1 v4 v5)
noncomputable def xc (m : Option Nat) (a0 : List G_QIndexEntry) (a1 : G_QIndexEntry) (v4 : List G_QIndexEntry) (v5 : Bool) (v6 : Int) : Option (List G_QIndexEntry) := u4 m (fun (s : ((List G_QIndexEntry) × Bool × Int)) => yj m a0 a1 s.1 s.2.1 s.2.2) (v4, v5, v6)
theorem z5a {a0 : List G_QIndexEntry} {a1 : G_QIndexEntry} {v13 : List G_QIndexEntry} {m : Option Nat} {o : (List G_QIndexEntry)} (h : xg m v13 = some o) :
 LWp Tryz.prog Q1 0 zst (zhr a0 a1 o) [(5, .osl (0, 0) 3 (v13.map z7))] [((0, 0), .tok)] 1 := by
 unfold xg at h
 refine zd ?_
 refine ze ?_
 refine u5 ?_
 cases h
 exact AI TT (AI rfl (Vw.oslI _ _ _))
theorem zgq {a0 : List G_QIndexEntry} {a1 : G_QIndexEntry} {v4 : List G_QIndexEntry} {v5 : Bool} {m : Option Nat} {o : (List G_QIndexEntry)} (h : jp m a1 v4 v5 = some o) :
 LWp Tryz.prog Q1 0 za1 (zhr a0 a1 o) [(3, .ptr (0, 0) 0 0), (5, .osl (1, 0) 3 (v4.map z7)), (6, .bool v5)] [((0, 0), .one [.str a1.f_Name, .int .u32 a1.f_Sum, .isl 1 (a1.f_Words.map zb) false]), ((1, 0), .tok)] 2 := by
 unfold jp at h
 refine zd ?_
 refine zd ?_
 refine ze ?_
 refine qj (v := (!v5)) rfl TT (fun h19 => ?_) (fun h19 => ?_)
 ·have h := zk h19 h
  refine ze ?_
  obtain ⟨h20, h⟩ := zc h
  refine EX ((v4 ++ ([a1] : List G_QIndexEntry)).map z7) (AI (Y3 z7 v4 ([a1] : List G_QIndexEntry)) (AI h20 ?_))
  refine LWp.sim ?_ (z5a h)
  exact y6 (M := [((0, 0), (2, 0))]) rfl (AI (Vw.osl _ _ _ _ rfl) TT) (AI (AI rfl BVw.tok) TT)
 ·have h := zw h19 h
  refine qv ?_
  refine LWp.sim ?_ (z5a h)
  exact y6 (M := [((0, 0), (1, 0))]) rfl (AI (Vw.osl _ _ _ _ rfl) TT) (AI (AI rfl BVw.tok) TT)
theorem zdu {a0 : List G_QIndexEntry} {a1 : G_QIndexEntry} {v4 : List G_QIndexEntry} {v5 : Bool} {v6 : Int} {m : Option Nat} {o : ((List G_QIndexEntry) × Bool × Int) ⊕ (List G_QIndexEntry)} (h : yj m a0 a1 v4 v5 v6 = some o) :
 LWp Tryz.prog Q1 0 znd (xt 0 2 (Jk a0 a1) (Vp a0 a1) (Kx a0 a1) o) [(3, .ptr (0, 0) 0 0), (5, .osl (1, 0) 3 (v4.map z7)), (6, .bool v5), (9, .isl 3 (a0.map z7) false), (10, .int .i64 ((a0.map z7).length : Int)), (11, .int .i64 v6)] [((0, 0), .one [.str a1.f_Name, .int .u32 a1.f_Sum, .isl 1 (a1.f_Words.map zb) false]), ((1, 0), .tok)] 2 := by
 unfold yj at h
 refine zd ?_
 refine ze ?_
 refine zd ?_
 refine qj (v := (decide (v6 < ((a0.map z7).length : Int)))) rfl TT (fun h13 => ?_) (fun h13 => ?_)
 ·have h := zk h13 h
  refine qv ?_
  refine zd ?_
  refine yf ?_
  refine zd ?_
  refine ze ?_
  obtain ⟨h14, h⟩ := zc h
  refine AI h14 ?_
  refine EX (z7 (a0.getD v6.toNat default)) (AI (qo z7 _ _ (ji z7 h14)) (AI (AI (k7 h14) (NB rfl)) ?_))
  refine zd ?_
  refine zd ?_
  refine ze ?_
  refine AI (fun hp => hp) ?_
  refine AI (fun hp => hp) ?_
  refine AI (fun hp => (AI hp hp)) ?_
  refine AI (fun hc => (bqt hc)) ?_
  refine LWp.sim (e := [(3, .ptr (0, 0) 0 0), (5, .osl (1, 0) 3 (v4.map z7)), (6, .bool v5), (8, .ptr (2, 0) 0 0), (9, .isl 3 (a0.map z7) false), (10, .int .i64 ((a0.map z7).length : Int)), (11, .int .i64 v6), (23, .bool ((!v5) && (!(Op.bytesLess ((a0.getD v6.toNat default).f_Name) a1.f_Name))))]) (L := [((0, 0), .one [.str a1.f_Name, .int .u32 a1.f_Sum, .isl 1 (a1.f_Words.map zb) false]), ((1, 0), .tok), ((2, 0), .one [.str ((a0.getD v6.toNat default).f_Name), .int .u32 ((a0.getD v6.toNat default).f_Sum), .isl 1 (((a0.getD v6.toNat default).f_Words).map zb) false])]) (n := 3) ?_ ?_
  ·exact y6 (M := [((0, 0), (0, 0)), ((1, 0), (1, 0)), ((2, 0), (2, 0))]) rfl (AI (Vw.ptr _ _ _ _ rfl) (AI (Vw.osl _ _ _ _ rfl) (AI (VS rfl) (AI (Vw.ptr _ _ _ _ rfl) (S4 rfl rfl rfl rfl TT))))) (AI (AI rfl (BVw.oneL (S2 rfl rfl (AI (VS rfl) TT)))) (AI (AI rfl BVw.tok) (AI (AI rfl (BVw.oneL (S2 rfl rfl (AI (VS rfl) TT)))) TT)))
  refine qj (v := ((!v5) && (!(Op.bytesLess ((a0.getD v6.toNat default).f_Name) a1.f_Name)))) rfl TT (fun h15 => ?_) (fun h15 => ?_)
  ·have h := zk h15 h
   refine zd ?_
   refine ze ?_
   obtain ⟨h16, h⟩ := zc h
   refine EX ((v4 ++ ([a1] : List G_QIndexEntry)).map z7) (AI (Y3 z7 v4 ([a1] : List G_QIndexEntry)) (AI h16 ?_))
   refine ze ?_
   refine LWp.sim ?_ (z6q h)
   exact y6 (M := [((0, 0), (0, 0)), ((1, 0), (3, 0)), ((2, 0), (2, 0))]) rfl (AI (Vw.ptr _ _ _ _ rfl) (AI (Vw.osl _ _ _ _ rfl) (AI (VS rfl) (AI (Vw.ptr _ _ _ _ rfl) (S2 rfl rfl (AI (VS rfl) TT)))))) (AI (AI rfl (BVw.oneL (S2 rfl rfl (AI (VS rfl) TT)))) (AI (AI rfl BVw.tok) (AI (AI rfl (BVw.oneL (S2 rfl rfl (AI (VS rfl) TT)))) TT)))
  ·have h := zw h15 h
   refine qv ?_
   refine LWp.sim ?_ (z6q h)
   exact y6 (M := [((0, 0), (0, 0)), ((1, 0), (1, 0)), ((2, 0), (2, 0))]) rfl (AI (Vw.ptr _ _ _ _ rfl) (AI (Vw.osl _ _ _ _ rfl) (AI (VS rfl) (AI (Vw.ptr _ _ _ _ rfl) (S2 rfl rfl (AI (VS rfl) TT)))))) (AI (AI rfl (BVw.oneL (S2 rfl rfl (AI (VS rfl) TT)))) (AI (AI rfl BVw.tok) (AI (AI rfl (BVw.oneL (S2 rfl rfl (AI (VS rfl) TT)))) TT)))
 ·have h := zw h13 h
  refine Z2 ?_
  obtain ⟨o, hq, rfl⟩ := Option.map_eq_some_iff.1 h
  replace h := hq; clear hq
  refine AI nofun ?_
  refine LWp.sim ?_ (zgq h)
  exact y6 (M := [((0, 0), (0, 0)), ((1, 0), (1, 0))]) rfl (AI (Vw.ptr _ _ _ _ rfl) (AI (Vw.osl _ _ _ _ rfl) (AI (VS rfl) TT))) (AI (AI rfl (BVw.oneL (S2 rfl rfl (AI (VS rfl) TT)))) (AI (AI rfl BVw.tok) TT))
theorem zg3 {a0 : List G_QIndexEntry} {a1 : G_QIndexEntry} {v4 : List G_QIndexEntry} {v5 : Bool} {v6 : Int} {m : Option Nat} {o : (List G_QIndexEntry)} (h : xc m a0 a1 v4 v5 v6 = some o) :
 LWp Tryz.prog Q1 0 (.loop znd) (zm 0 (ug Tryz.prog Q1 0 za1 (zhr a0 a1 o))) [(3, .ptr (0, 0) 0 0), (5, .osl (1, 0) 3 (v4.map z7)), (6, .bool v5), (9, .isl 3 (a0.map z7) false), (10, .int .i64 ((a0.map z7).length : Int)), (11, .int .i64 v6)] [((0, 0), .one [.str a1.f_Name, .int .u32 a1.f_Sum, .isl 1 (a1.f_Words.map zb) false]), ((1, 0), .tok)] 2 :=
 yi (m := m) (s := ((v4, v5, v6) : ((List G_QIndexEntry) × Bool × Int))) (r := o) (fun (s : ((List G_QIndexEntry) × Bool × Int)) => yj m a0 a1 s.1 s.2.1 s.2.2) (Jk a0 a1) (Vp a0 a1) (Kx a0 a1) (fun s o h => zdu h) h
noncomputable def jd (m : Option Nat) (a0 : List G_QIndexEntry) (a1 : G_QIndexEntry) : Option (List G_QIndexEntry) :=
 xc m a0 a1 [] false 0
theorem zg8 {a0 : List G_QIndexEntry} {a1 : G_QIndexEntry} {m : Option Nat} {o : (List G_QIndexEntry)} (h : jd m a0 a1 = some o) : LWp Tryz.prog Q1 0 zse (zhr a0 a1 o) (zz 0 [.isl 3 (a0.map z7) false, .agg [.str a1.f_Name, .int .u32 a1.f_Sum, .isl 1 (a1.f_Words.map zb) false]]) [] 0 := by
 unfold jd at h
 refine zd ?_
 refine ze ?_
 refine zd ?_
 refine ze ?_
 refine zd ?_
 refine ze ?_
 refine zd ?_
 refine zd ?_
 refine ze ?_
 refine yf ?_
 refine LWp.sim ?_ (zg3 h)
 exact y6 (M := [((0, 0), (0, 0))]) rfl (AI (Vw.ptr _ _ _ _ rfl) (AI (Vw.nilO _ _ (by decide)) (S4 rfl rfl rfl rfl TT))) (AI (AI rfl (BVw.oneL (S2 rfl rfl (AI (VS rfl) TT)))) (AI (AI rfl (AI (by decide) (by decide))) TT))
theorem y02 {a0 : List G_QIndexEntry} {a1 : G_QIndexEntry} {m : Option Nat} {o : (List G_QIndexEntry)} (h : jd m a0 a1 = some o) : PFn Tryz.prog 11 [.isl 3 (a0.map z7) false, .agg [.str a1.f_Name, .int .u32 a1.f_Sum, .isl 1 (a1.f_Words.map zb) false]] (.isl 3 (o.map z7) false) := PFn.ofFnW (L := y0m) zuu zuz (NB rfl) rfl (zg8 h)
def zkf : LCode := (.seq (.region [⟨some 14, .bin .lss (.t 13) (.t 12), none⟩])
 (.seq (.cond (.t 14)
  .skip
  (.exit 0))
 (.seq (.block 1
  (.seq (.region [⟨some 15, .mv (.t 13), none⟩,
   ⟨some 5, .mv (.t 15), none⟩])
  (.seq (.draw [⟨⟨some 16, .mv (.t 0), none⟩, []⟩,
   ⟨⟨some 17, .mv (.t 5), none⟩, []⟩,
   ⟨⟨some 18, .iaddr 3 (.t 16) (.t 17), none⟩, []⟩,
   ⟨⟨some 19, .faddr 0 (.t 18), none⟩, []⟩,
   ⟨⟨some 20, .load false 1 (.t 19), none⟩, []⟩,
   ⟨⟨some 21, .mv (.t 1), none⟩, []⟩,
   ⟨⟨some 22, .mv (.t 5), none⟩, []⟩,
   ⟨⟨some 23, .iaddr 3 (.t 21) (.t 22), none⟩, []⟩,
   ⟨⟨some 24, .faddr 0 (.t 23), none⟩, []⟩,
   ⟨⟨some 25, .load false 1 (.t 24), none⟩, []⟩,
   ⟨⟨some 26, .bin .neq (.t 20) (.t 25), none⟩, []⟩,
   ⟨⟨some 27, .mv (.t 26), none⟩, []⟩,
   ⟨⟨some 28, .mv (.t 0), some (27, false)⟩, []⟩,
   ⟨⟨some 29, .mv (.t 5), some (27, false)⟩, []⟩,
   ⟨⟨some 30, .iaddr 3 (.t 28) (.t 29), some (27, false)⟩, []⟩,
   ⟨⟨some 31, .faddr 1 (.t 30), some (27, false)⟩, []⟩,
   ⟨⟨some 32, .load false 1 (.t 31), some (27, false)⟩, []⟩,
   ⟨⟨some 33, .mv (.t 1), some (27, false)⟩, []⟩,
   ⟨⟨some 34, .mv (.t 5), some (27, false)⟩, []⟩,
   ⟨⟨some 35, .iaddr 3 (.t 33) (.t 34), some (27, false)⟩, []⟩,
   ⟨⟨some 36, .faddr 1 (.t 35), some (27, false)⟩, []⟩,
   ⟨⟨some 37, .load false 1 (.t 36), some (27, false)⟩, []⟩,
   ⟨⟨some 38, .bin .neq (.t 32) (.t 37), some (27, false)⟩, []⟩,
   ⟨⟨some 39, .pick (.t 27) (.c (.bool true)) (.t 38), none⟩, []⟩,
   ⟨⟨some 40, .mv (.t 39), none⟩, []⟩,
   ⟨⟨some 41, .mv (.t 0), some (40, false)⟩, []⟩,
   ⟨⟨some 42, .mv (.t 5), some (40, false)⟩, []⟩,
   ⟨⟨some 43, .iaddr 3 (.t 41) (.t 42), some (40, false)⟩, []⟩,
   ⟨⟨some 44, .faddr 2 (.t 43), some (40, false)⟩, []⟩,
   ⟨⟨some 45, .load false 1 (.t 44), some (40, false)⟩, []⟩,
   ⟨⟨some 46, .mv (.t 1), some (40, false)⟩, []⟩,
   ⟨⟨some 47, .mv (.t 5), some (40, false)⟩, []⟩,
   ⟨⟨some 48, .iaddr 3 (.t 46) (.t 47), some (40, false)⟩, []⟩,
   ⟨⟨some 49, .faddr 2 (.t 48), some (40, false)⟩, []⟩,
   ⟨⟨some 50, .load false 1 (.t 49), some (40, false)⟩, []⟩,
   ⟨⟨some 51, .call 13 [(.t 45), (.t 50)], some (40, false)⟩, []⟩,
   ⟨⟨some 52, .un .not (.t 51), some (40, false)⟩, []⟩,
   ⟨⟨some 53, .pick (.t 40) (.c (.bool true)) (.t 52), none⟩, []⟩])
  (.cond (.t 53)
   (.seq (.region [⟨some 4, .mv (.c (.bool false)), none⟩])
   .ret)
   .skip))))
 (.region [⟨some 54, .bin .add (.t 13) (.c (.int .i64 1)), none⟩,
  ⟨some 13, .mv (.t 54), none⟩]))))
def za0 : LCode := (.seq (.region [⟨some 4, .mv (.c (.bool true)), none⟩])
 .ret)
def zsd : LCode := (.seq (.region [⟨some 4, .mv (.c (.bool false)), none⟩])
 (.seq (.seq (.region [⟨some 6, .mv (.t 0), none⟩,
  ⟨some 7, .len false (.t 6), none⟩,
  ⟨some 8, .mv (.t 1), none⟩,
  ⟨some 9, .len false (.t 8), none⟩,
  ⟨some 10, .bin .neq (.t 7) (.t 9), none⟩])
 (.cond (.t 10)
  (.seq (.region [⟨some 4, .mv (.c (.bool false)), none⟩])
  .ret)
  .skip))
 (.seq (.seq (.region [⟨some 11, .mv (.t 0), none⟩,
  ⟨some 12, .len false (.t 11), none⟩,
  ⟨some 13, .mv (.c (.int .i64 0)), none⟩])
 (.block 0
  (.loop
   zkf)))
 za0)))
def Wg : Lay := ⟨55, [], false⟩
def zfs : List LRes := [.t 4]
def zz1 : LFn := ⟨2, Wg, zsd, zfs⟩
theorem zv1 : ww Tryz.prog [] 12 = some zz1 := by kernel_rfl
theorem zum : Z9 Tryz.prog 12 := ⟨_, Tryz.func12, rfl, rfl⟩
def zoj (a0 : List G_QIndexEntry) (a1 : List G_QIndexEntry) (o : Bool) : Exit → Env → AHeap → Nat → Prop := Zy zfs (q6 (.bool o))
def z1w (a0 : List G_QIndexEntry) (a1 : List G_QIndexEntry) (s : Int) : Env := [(0, .isl 3 (a0.map z7) false), (1, .isl 3 (a1.map z7) false), (12, .int .i64 ((a0.map z7).length : Int)), (13, .int .i64 s)]
def z74 (a0 : List G_QIndexEntry) (a1 : List G_QIndexEntry) (s : Int) : AHeap := []
def zav (a0 : List G_QIndexEntry) (a1 : List G_QIndexEntry) (o : Bool) : Exit → Env → AHeap → Nat → Prop := (zm 0 (ug Tryz.prog Wg 0 za0 (zoj a0 a1 o)))
noncomputable def vg (m : Option Nat) : Option Bool :=
 some true
noncomputable def yy (m : Option Nat) (a0 : List G_QIndexEntry) (a1 : List G_QIndexEntry) (v2 : Int) : Option (Int ⊕ Bool) :=
 if (decide (v2 < ((a0.map z7).length : Int))) = true then
  if (0 : Int) ≤ v2 ∧ v2 < ((a0.map z7).length : Int) then
  if (0 : Int) ≤ v2 ∧ v2 < ((a1.map z7).length : Int) then
  if (((!((a0.getD v2.toNat default).f_Name == (a1.getD v2.toNat default).f_Name)) == false) = true → (0 : Int) ≤ v2 ∧ v2 < ((a0.map z7).length : Int)) then
  if (((!((a0.getD v2.toNat default).f_Name == (a1.getD v2.toNat default).f_Name)) == false) = true → (0 : Int) ≤ v2 ∧ v2 < ((a1.map z7).length : Int)) then
  if ((((!((a0.getD v2.toNat default).f_Name == (a1.getD v2.toNat default).f_Name)) || ((a0.getD v2.toNat default).f_Sum != (a1.getD v2.toNat default).f_Sum)) == false) = true → (0 : Int) ≤ v2 ∧ v2 < ((a0.map z7).length : Int)) then
  if ((((!((a0.getD v2.toNat default).f_Name == (a1.getD v2.toNat default).f_Name)) || ((a0.getD v2.toNat default).f_Sum != (a1.getD v2.toNat default).f_Sum)) == false) = true → (0 : Int) ≤ v2 ∧ v2 < ((a1.map z7).length : Int)) then
  (if (((!((a0.getD v2.toNat default).f_Name == (a1.getD v2.toNat default).f_Name)) || ((a0.getD v2.toNat default).f_Sum != (a1.getD v2.toNat default).f_Sum)) == false) = true then zj m ((a0.getD v2.toNat default).f_Words) ((a1.getD v2.toNat default).f_Words) else some default).bind fun v4 =>
  if (((!((a0.getD v2.toNat default).f_Name == (a1.getD v2.toNat default).f_Name)) || ((a0.getD v2.toNat default).f_Sum != (a1.getD v2.toNat default).f_Sum)) || (!v4)) = true then
   Option.map Sum.inr (
    some false)
  else
   some (.inl (W (v2 + 1)))
  else none
  else none
  else none
  else none
  else none
  else none
 else
  Option.map Sum.inr (
   vg m)
noncomputable def x8 (m : Option Nat) (a0 : List G_QIndexEntry) (a1 : List G_QIndexEntry) (v2 : Int) : Option Bool := u4 m (fun (s : Int) => yy m a0 a1 s) v2
theorem zn2 {a0 : List G_QIndexEntry} {a1 : List G_QIndexEntry} {m : Option Nat} {o : Bool} (h : vg m = some o) :
 LWp Tryz.prog Wg 0 za0 (zoj a0 a1 o) [] [] 0 := by
 unfold vg at h
 refine zd ?_
 refine ze ?_
 refine u5 ?_
 cases h
 exact AI TT (AI rfl (VS rfl))
theorem zdo {a0 : List G_QIndexEntry} {a1 : List G_QIndexEntry} {v2 : Int} {m : Option Nat} {o : Int ⊕ Bool} (h : yy m a0 a1 v2 = some o) :
 LWp Tryz.prog Wg 0 zkf (xt 0 0 (z1w a0 a1) (z74 a0 a1) (zav a0 a1) o) [(0, .isl 3 (a0.map z7) false), (1, .isl 3 (a1.map z7) false), (12, .int .i64 ((a0.map z7).length : Int)), (13, .int .i64 v2)] [] 0 := by
 unfold yy at h
 refine zd ?_
 refine ze ?_
 refine zd ?_
 refine qj (v := (decide (v2 < ((a0.map z7).length : Int)))) rfl TT (fun h20 => ?_) (fun h20 => ?_)
 ·have h := zk h20 h
  refine qv ?_
  refine zd ?_
  refine yf ?_
  refine zd ?_
  refine ze ?_
  refine zd ?_
  refine z4i rfl ?_
  obtain ⟨h21, h⟩ := zc h
  refine AI h21 ?_
  refine EX (z7 (a0.getD v2.toNat default)) (AI (qo z7 _ _ (ji z7 h21)) (AI (AI (k7 h21) (NB rfl)) ?_))
  obtain ⟨h22, h⟩ := zc h
  refine AI h22 ?_
  refine EX (z7 (a1.getD v2.toNat default)) (AI (qo z7 _ _ (ji z7 h22)) (AI (AI (k7 h22) (NB rfl)) ?_))
  obtain ⟨h23, h⟩ := zc h
  refine AI (fun hp => (AI (AI hp hp) (h23 hp))) ?_
  refine AI (fun hp => hp) ?_
  refine EX (z7 (a0.getD v2.toNat default)) (AI (fun hp => AI (qo z7 _ _ (ji z7 (h23 hp))) (AI hp (AI (k7 (h23 hp)) (NB rfl)))) ?_)
  obtain ⟨h24, h⟩ := zc h
  refine AI (fun hp => (AI (AI hp hp) (h24 hp))) ?_
  refine AI (fun hp => hp) ?_
  refine EX (z7 (a1.getD v2.toNat default)) (AI (fun hp => AI (qo z7 _ _ (ji z7 (h24 hp))) (AI hp (AI (k7 (h24 hp)) (NB rfl)))) ?_)
  refine AI (fun hp => (AI hp hp)) ?_
  refine AI (fun hc => (bqf hc)) ?_
  obtain ⟨h25, h⟩ := zc h
  refine AI (fun hp => (AI (AI hp hp) (h25 hp))) ?_
  refine AI (fun hp => hp) ?_
  refine EX (z7 (a0.getD v2.toNat default)) (AI (fun hp => AI (qo z7 _ _ (ji z7 (h25 hp))) (AI hp (AI (k7 (h25 hp)) (NB rfl)))) ?_)
  obtain ⟨h26, h⟩ := zc h
  refine AI (fun hp => (AI (AI hp hp) (h26 hp))) ?_
  refine AI (fun hp => hp) ?_
  refine EX (z7 (a1.getD v2.toNat default)) (AI (fun hp => AI (qo z7 _ _ (ji z7 (h26 hp))) (AI hp (AI (k7 (h26 hp)) (NB rfl)))) ?_)
  obtain ⟨v4, h27, h⟩ := bind_some h
  refine Or.inl (EX (.bool v4) (AI (fun hp => AI (AI hp hp) (PFn.call (z75 (zk hp h27)) (S2 rfl rfl TT) (AI rfl (AI rfl rfl)))) ?_))
  refine AI (fun hp => hp) ?_
  refine AI (fun hc => (bqf hc)) ?_
  refine LWp.sim (e := [(0, .isl 3 (a0.map z7) false), (1, .isl 3 (a1.map z7) false), (12, .int .i64 ((a0.map z7).length : Int)), (13, .int .i64 v2), (53, .bool (((!((a0.getD v2.toNat default).f_Name == (a1.getD v2.toNat default).f_Name)) || ((a0.getD v2.toNat default).f_Sum != (a1.getD v2.toNat default).f_Sum)) || (!v4)))]) (L := []) (n := 0) ?_ ?_
  ·exact y6 (M := []) rfl (S4 rfl rfl rfl rfl (AI (VS rfl) TT)) TT
  refine qj (v := (((!((a0.getD v2.toNat default).f_Name == (a1.getD v2.toNat default).f_Name)) || ((a0.getD v2.toNat default).f_Sum != (a1.getD v2.toNat default).f_Sum)) || (!v4))) rfl TT (fun h28 => ?_) (fun h28 => ?_)
  ·have h := zk h28 h
   refine zd ?_
   refine ze ?_
   refine u5 ?_
   obtain ⟨o, hq, rfl⟩ := Option.map_eq_some_iff.1 h
   replace h := hq; clear hq
   refine AI nofun ?_
   cases h
   exact AI TT (AI rfl (VS rfl))
  ·have h := zw h28 h
   refine qv ?_
   refine ze ?_
   cases h
   exact AI rfl (y6 (M := []) rfl (S4 rfl rfl rfl rfl TT) TT)
 ·have h := zw h20 h
  refine Z2 ?_
  obtain ⟨o, hq, rfl⟩ := Option.map_eq_some_iff.1 h
  replace h := hq; clear hq
  refine AI nofun ?_
  refine LWp.sim ?_ (zn2 h)
  exact y6 (M := []) rfl TT TT
theorem zfg {a0 : List G_QIndexEntry} {a1 : List G_QIndexEntry} {v2 : Int} {m : Option Nat} {o : Bool} (h : x8 m a0 a1 v2 = some o) :
 LWp Tryz.prog Wg 0 (.loop zkf) (zm 0 (ug Tryz.prog Wg 0 za0 (zoj a0 a1 o))) [(0, .isl 3 (a0.map z7) false), (1, .isl 3 (a1.map z7) false), (12, .int .i64 ((a0.map z7).length : Int)), (13, .int .i64 v2)] [] 0 :=
 yi (m := m) (s := (v2 : Int)) (r := o) (fun (s : Int) => yy m a0 a1 s) (z1w a0 a1) (z74 a0 a1) (zav a0 a1) (fun s o h => zdo h) h
noncomputable def qy (m : Option Nat) (a0 : List G_QIndexEntry) (a1 : List G_QIndexEntry) : Option Bool :=
 if (((a0.map z7).length : Int) != ((a1.map z7).length : Int)) = true then
  some false
 else
  x8 m a0 a1 0
theorem zkg {a0 : List G_QIndexEntry} {a1 : List G_QIndexEntry} {m : Option Nat} {o : Bool} (h : qy m a0 a1 = some o) : LWp Tryz.prog Wg 0 zsd (zoj a0 a1 o) (zz 0 [.isl 3 (a0.map z7) false, .isl 3 (a1.map z7) false]) [] 0 := by
 unfold qy at h
 refine zd ?_
 refine ze ?_
 refine zd ?_
 refine zd ?_
 refine ze ?_
 refine qj (v := (((a0.map z7).length : Int) != ((a1.map z7).length : Int))) rfl TT (fun h1 => ?_) (fun h1 => ?_)
 ·have h := zk h1 h
  refine zd ?_
  refine ze ?_
  refine u5 ?_
  cases h
  exact AI TT (AI rfl (VS rfl))
 ·have h := zw h1 h
  refine qv ?_
  refine zd ?_
  refine zd ?_
  refine ze ?_
  refine LWp.sim (e := [(0, .isl 3 (a0.map z7) false), (1, .isl 3 (a1.map z7) false), (12, .int .i64 ((a0.map z7).length : Int)), (13, .int .i64 0)]) (L := []) (n := 0) ?_ ?_
  ·exact y6 (M := []) rfl (S4 rfl rfl rfl rfl TT) TT
  refine yf ?_
  refine LWp.sim ?_ (zfg h)
  exact y6 (M := []) rfl (S4 rfl rfl rfl rfl TT) TT
theorem zzj {a0 : List G_QIndexEntry} {a1 : List G_QIndexEntry} {m : Option Nat} {o : Bool} (h : qy m a0 a1 = some o) : PFn Tryz.prog 12 [.isl 3 (a0.map z7) false, .isl 3 (a1.map z7) false] (.bool o) := PFn.ofFnW (L := zz1) zv1 zum (NB rfl) rfl (zkg h)
def zyn : LCode := (.region [⟨some 86, .bin .add (.t 70) (.c (.int .i64 1)), none⟩,
 ⟨some 70, .mv (.t 86), none⟩])
def zvd : LCode := (.seq (.region [⟨some 71, .bin .lss (.t 70) (.t 69), none⟩])
 (.seq (.cond (.t 71)
  .skip
  (.exit 2))
 (.seq (.block 3
  (.seq (.region [⟨some 72, .iaddr 3 (.t 68) (.t 70), none⟩,
   ⟨some 73, .load true 3 (.t 72), none⟩,
   ⟨some 19, .alloc [(.str []), (.str []), (.bool false)], none⟩,
   ⟨none, .store 3 (.t 19) (.t 73), none⟩])
  (.seq (.region [⟨some 74, .faddr 0 (.t 19), none⟩,
   ⟨some 75, .load false 1 (.t 74), none⟩,
   ⟨some 76, .faddr 0 (.t 15), none⟩,
   ⟨some 77, .load false 1 (.t 76), none⟩,
   ⟨some 78, .bin .eql (.t 75) (.t 77), none⟩])
  (.cond (.t 78)
   (.region [⟨some 80, .load true 3 (.t 15), none⟩,
    ⟨some 81, .faddr 1 (.t 19), none⟩,
    ⟨some 82, .load false 1 (.t 81), none⟩,
    ⟨some 83, .call 9 [(.t 80), (.t 82)], none⟩,
    ⟨some 79, .mv (.t 83), none⟩,
    ⟨some 84, .ext 0 (.t 79), none⟩,
    ⟨some 85, .ext 1 (.t 79), none⟩,
    ⟨none, .store 3 (.t 16) (.t 84), none⟩,
    ⟨some 17, .mv (.t 85), none⟩])
   .skip))))
 zyn)))
def zym : LCode := (.region [⟨some 96, .mv (.t 12), none⟩,
 ⟨some 97, .load true 3 (.t 16), none⟩,
 ⟨some 98, .call 11 [(.t 96), (.t 97)], none⟩,
 ⟨some 12, .mv (.t 98), none⟩])
def zoo : LCode := (.seq (.seq (.region [⟨some 87, .mv (.t 17), none⟩,
 ⟨some 88, .un .not (.t 87), none⟩])
 (.cond (.t 88)
  (.seq (.region [⟨some 89, .load true 3 (.t 15), none⟩,
   ⟨some 90, .call 10 [(.t 89)], none⟩,
   ⟨none, .store 3 (.t 16) (.t 90), none⟩])
  (.region [⟨some 91, .mv (.t 13), none⟩,
   ⟨some 92, .faddr 0 (.t 15), none⟩,
   ⟨some 93, .load false 1 (.t 92), none⟩,
   ⟨some 94, .mkSl true 1 [(.str [])] 1 [(0, (.t 93))], none⟩,
   ⟨some 95, .app true 1 16 (.t 91) (.t 94), none⟩,
   ⟨some 13, .mv (.t 95), none⟩]))
  .skip))
 zym)
def ze2 : LCode := (.region [⟨some 99, .bin .add (.t 62) (.c (.int .i64 1)), none⟩,
 ⟨some 62, .mv (.t 99), none⟩])
def zuf : LCode := (.seq (.region [⟨some 63, .bin .lss (.t 62) (.t 61), none⟩])
 (.seq (.cond (.t 63)
  .skip
  (.exit 0))
 (.seq (.block 1
  (.seq (.region [⟨some 64, .iaddr 3 (.t 60) (.t 62), none⟩,
   ⟨some 65, .load true 3 (.t 64), none⟩,
   ⟨some 15, .alloc [(.str []), (.int .i64 0), (.str [])], none⟩,
   ⟨none, .store 3 (.t 15) (.t 65), none⟩])
  (.seq (.region [⟨some 66, .build [(.str []), (.int .u32 0), (.isl 1 [] true)] [], none⟩,
   ⟨some 16, .alloc [(.str []), (.int .u32 0), (.isl 1 [] true)], none⟩,
   ⟨none, .store 3 (.t 16) (.t 66), none⟩,
   ⟨some 17, .mv (.c (.bool false)), none⟩])
  (.seq (.seq (.region [⟨some 67, .mv (.t 9), none⟩,
   ⟨some 68, .call 8 [(.t 67)], none⟩,
   ⟨some 69, .len false (.t 68), none⟩,
   ⟨some 70, .mv (.c (.int .i64 0)), none⟩])
  (.block 2
   (.loop
    zvd)))
  zoo))))
 ze2)))
def zni : LCode := (.seq (.region [⟨some 100, .call 4 [], none⟩,
 ⟨some 101, .mv (.t 100), none⟩,
 ⟨some 102, .mv (.t 7), some (101, true)⟩,
 ⟨some 103, .bin .eql (.t 102) (.c (.int .i64 0)), some (101, true)⟩,
 ⟨some 104, .pick (.t 101) (.t 103) (.c (.bool false)), none⟩,
 ⟨some 105, .mv (.t 104), none⟩,
 ⟨some 106, .mv (.t 5), some (105, true)⟩,
 ⟨some 107, .mv (.t 12), some (105, true)⟩,
 ⟨some 108, .call 12 [(.t 106), (.t 107)], some (105, true)⟩,
 ⟨some 109, .pick (.t 105) (.t 108) (.c (.bool false)), none⟩,
 ⟨some 110, .mv (.t 109), none⟩,
 ⟨some 111, .mv (.t 6), some (110, true)⟩,
 ⟨some 112, .mv (.t 13), some (110, true)⟩,
 ⟨some 113, .call 14 [(.t 112)], some (110, true)⟩,
 ⟨some 114, .call 13 [(.t 111), (.t 113)], some (110, true)⟩,
 ⟨some 115, .pick (.t 110) (.t 114) (.c (.bool false)), none⟩,
 ⟨some 4, .mv (.t 115), none⟩])
 .ret)
def zzr : LCode := (.seq (.region [⟨some 4, .mv (.c (.bool false)), none⟩])
 (.seq (.seq (.region [⟨some 20, .call 4 [], none⟩,
  ⟨some 21, .un .not (.t 20), none⟩])
 (.cond (.t 21)
  (.seq (.region [⟨some 4, .mv (.c (.bool false)), none⟩])
  .ret)
  .skip))
 (.seq (.region [⟨some 22, .mv (.t 0), none⟩,
  ⟨some 23, .mv (.t 0), none⟩,
  ⟨some 24, .len true (.t 23), none⟩,
  ⟨some 25, .mnx false [(.t 24), (.c (.int .i64 3000))], none⟩,
  ⟨some 26, .slStr (.t 22) none (some (.t 25)), none⟩,
  ⟨some 0, .mv (.t 26), none⟩])
 (.seq (.region [⟨some 28, .mv (.t 0), none⟩,
  ⟨some 29, .mv (.t 1), none⟩,
  ⟨some 30, .call 5 [(.t 28), (.t 29)], none⟩,
  ⟨some 27, .mv (.t 30), none⟩,
  ⟨some 31, .ext 0 (.t 27), none⟩,
  ⟨some 32, .ext 1 (.t 27), none⟩,
  ⟨some 33, .ext 2 (.t 27), none⟩,
  ⟨some 5, .mv (.t 31), none⟩,
  ⟨some 6, .mv (.t 32), none⟩,
  ⟨some 7, .mv (.t 33), none⟩])
 (.seq (.seq (.region [⟨some 34, .mv (.t 1), none⟩,
  ⟨some 35, .call 6 [(.t 34)], none⟩,
  ⟨some 8, .mv (.t 35), none⟩])
 (.seq (.region [⟨some 36, .mv (.t 8), none⟩,
  ⟨some 37, .bin .neq (.t 36) (.c (.int .i64 0)), none⟩])
 (.cond (.t 37)
  (.seq (.region [⟨some 38, .call 4 [], none⟩,
   ⟨some 39, .mv (.t 38), none⟩,
   ⟨some 40, .mv (.t 7), some (39, true)⟩,
   ⟨some 41, .mv (.t 8), some (39, true)⟩,
   ⟨some 42, .bin .eql (.t 40) (.t 41), some (39, true)⟩,
   ⟨some 43, .pick (.t 39) (.t 42) (.c (.bool false)), none⟩,
   ⟨some 44, .mv (.t 43), none⟩,
   ⟨some 45, .mv (.t 5), some (44, true)⟩,
   ⟨some 46, .len false (.t 45), some (44, true)⟩,
   ⟨some 47, .bin .eql (.t 46) (.c (.int .i64 0)), some (44, true)⟩,
   ⟨some 48, .pick (.t 44) (.t 47) (.c (.bool false)), none⟩,
   ⟨some 49, .mv (.t 48), none⟩,
   ⟨some 50, .mv (.t 6), some (49, true)⟩,
   ⟨some 51, .len false (.t 50), some (49, true)⟩,
   ⟨some 52, .bin .eql (.t 51) (.c (.int .i64 0)), some (49, true)⟩,
   ⟨some 53, .pick (.t 49) (.t 52) (.c (.bool false)), none⟩,
   ⟨some 4, .mv (.t 53), none⟩])
  .ret)
  .skip)))
 (.seq (.region [⟨some 55, .mv (.t 0), none⟩,
  ⟨some 56, .call 7 [(.t 55)], none⟩,
  ⟨some 54, .mv (.t 56), none⟩,
  ⟨some 57, .ext 0 (.t 54), none⟩,
  ⟨some 58, .ext 1 (.t 54), none⟩,
  ⟨some 59, .ext 2 (.t 54), none⟩,
  ⟨some 9, .mv (.t 57), none⟩,
  ⟨some 10, .mv (.t 58), none⟩,
  ⟨some 11, .mv (.t 59), none⟩])
 (.seq (.region [⟨some 12, .mv (.c (.val (.slice none 0 0))), none⟩])
 (.seq (.region [⟨some 13, .mv (.c (.val (.slice none 0 0))), none⟩])
 (.seq (.seq (.region [⟨some 60, .mv (.t 1), none⟩,
  ⟨some 61, .len false (.t 60), none⟩,
  ⟨some 62, .mv (.c (.int .i64 0)), none⟩])
 (.block 0
  (.loop
   zuf)))
 zni)))))))))
def Zv : Lay := ⟨116, [], false⟩
def zrk : List LRes := [.t 4]
def y2y : LFn := ⟨2, Zv, zzr, zrk⟩
theorem y0f : ww Tryz.prog [] 3 = some y2y := by kernel_rfl
theorem zy9 : Z9 Tryz.prog 3 := ⟨_, Tryz.func3, rfl, rfl⟩
def y1e (a0 : List UInt8) (a1 : List G_QDocument) (o : Bool) : Exit → Env → AHeap → Nat → Prop := Zy zrk (q6 (.bool o))
def Q8 (a1 : List G_QDocument) (v2 : (List G_QIndexEntry) × (List (List UInt8)) × Int) (v5 : (List G_QRecord) × Int × Int) (s : ((List G_QIndexEntry) × (List (List UInt8)) × Int)) : Env := [(5, .isl 3 (v2.1.map z7) false), (6, .isl 1 (v2.2.1.map zb) false), (7, .int .i64 v2.2.2), (9, .isl 3 (v5.1.map za) false), (12, .isl 3 (s.1.map z7) false), (13, .osl (0, 0) 1 (s.2.1.map zb)), (60, .isl 3 (a1.map z8) false), (61, .int .i64 ((a1.map z8).length : Int)), (62, .int .i64 s.2.2)]
def Xf (a1 : List G_QDocument) (v2 : (List G_QIndexEntry) × (List (List UInt8)) × Int) (v5 : (List G_QRecord) × Int × Int) (s : ((List G_QIndexEntry) × (List (List UInt8)) × Int)) : AHeap := [((0, 0), .tok)]
def Wx (a0 : List UInt8) (a1 : List G_QDocument) (o : Bool) : Exit → Env → AHeap → Nat → Prop := (zm 0 (ug Tryz.prog Zv 0 zni (y1e a0 a1 o)))
def Ug (a1 : List G_QDocument) (v2 : (List G_QIndexEntry) × (List (List UInt8)) × Int) (v5 : (List G_QRecord) × Int × Int) (v33 : List G_QIndexEntry) (v34 : List (List UInt8)) (v35 : Int) (v63 : (List G_QRecord)) (s : (Bool × Int × (List UInt8) × Int × (List (List UInt8)))) : Env := [(5, .isl 3 (v2.1.map z7) false), (6, .isl 1 (v2.2.1.map zb) false), (7, .int .i64 v2.2.2), (9, .isl 3 (v5.1.map za) false), (12, .isl 3 (v33.map z7) false), (13, .osl (0, 0) 1 (v34.map zb)), (15, .ptr (1, 0) 0 0), (16, .ptr (2, 0) 0 0), (17, .bool s.1), (60, .isl 3 (a1.map z8) false), (61, .int .i64 ((a1.map z8).length : Int)), (62, .int .i64 v35), (68, .isl 3 (v63.map za) false), (69, .int .i64 ((v63.map za).length : Int)), (70, .int .i64 s.2.1)]
def z49 (a1 : List G_QDocument) (v2 : (List G_QIndexEntry) × (List (List UInt8)) × Int) (v5 : (List G_QRecord) × Int × Int) (v33 : List G_QIndexEntry) (v34 : List (List UInt8)) (v35 : Int) (v63 : (List G_QRecord)) (s : (Bool × Int × (List UInt8) × Int × (List (List UInt8)))) : AHeap := [((0, 0), .tok), ((1, 0), .one [.str ((a1.getD v35.toNat default).f_Name), .int .i64 ((a1.getD v35.toNat default).f_Version), .str ((a1.getD v35.toNat default).f_Text)]), ((2, 0), .one [.str s.2.2.1, .int .u32 s.2.2.2.1, .isl 1 (s.2.2.2.2.map zb) false])]
def z8l (a0 : List UInt8) (a1 : List G_QDocument) (v2 : (List G_QIndexEntry) × (List (List UInt8)) × Int) (v5 : (List G_QRecord) × Int × Int) (o : (((List G_QIndexEntry) × (List (List UInt8)) × Int) ⊕ Bool)) : Exit → Env → AHeap → Nat → Prop := (zm 2 (ug Tryz.prog Zv 0 zoo (zm 1 (ug Tryz.prog Zv 0 ze2 (xt 0 1 (Q8 a1 v2 v5) (Xf a1 v2 v5) (Wx a0 a1) o)))))
noncomputable def zy (m : Option Nat) (a1 : List G_QDocument) (v2 : (List G_QIndexEntry) × (List (List UInt8)) × Int) (v5 : (List G_QRecord) × Int × Int) (v33 : List G_QIndexEntry) (v34 : List (List UInt8)) (v35 : Int) (v63 : (List G_QRecord)) (v70 : Int) (v80 : Bool) (v81 : List UInt8) (v82 : Int) (v83 : List (List UInt8)) : Option ((Bool × Int × (List UInt8) × Int × (List (List UInt8))) ⊕ (((List G_QIndexEntry) × (List (List UInt8)) × Int) ⊕ Bool)) :=
 some (.inl (v80, (W (v70 + 1)), v81, v82, v83))
theorem z4g {a0 : List UInt8} {a1 : List G_QDocument} {v2 : (List G_QIndexEntry) × (List (List UInt8)) × Int} {v5 : (List G_QRecord) × Int × Int} {v33 : List G_QIndexEntry} {v34 : List (List UInt8)} {v35 : Int} {v63 : (List G_QRecord)} {v70 : Int} {v80 : Bool} {v81 : List UInt8} {v82 : Int} {v83 : List (List UInt8)} {m : Option Nat} {o : ((Bool × Int × (List UInt8) × Int × (List (List UInt8))) ⊕ (((List G_QIndexEntry) × (List (List UInt8)) × Int) ⊕ Bool))} (h : zy m a1 v2 v5 v33 v34 v35 v63 v70 v80 v81 v82 v83 = some o) :
 LWp Tryz.prog Zv 0 zyn (xt 0 3 (Ug a1 v2 v5 v33 v34 v35 v63) (z49 a1 v2 v5 v33 v34 v35 v63) (z8l a0 a1 v2 v5) o) [(5, .isl 3 (v2.1.map z7) false), (6, .isl 1 (v2.2.1.map zb) false), (7, .int .i64 v2.2.2), (9, .isl 3 (v5.1.map za) false), (12, .isl 3 (v33.map z7) false), (13, .osl (0, 0) 1 (v34.map zb)), (15, .ptr (1, 0) 0 0), (16, .ptr (2, 0) 0 0), (17, .bool v80), (60, .isl 3 (a1.map z8) false), (61, .int .i64 ((a1.map z8).length : Int)), (62, .int .i64 v35), (68, .isl 3 (v63.map za) false), (69, .int .i64 ((v63.map za).length : Int)), (70, .int .i64 v70)] [((0, 0), .tok), ((1, 0), .one [.str ((a1.getD v35.toNat default).f_Name), .int .i64 ((a1.getD v35.toNat default).f_Version), .str ((a1.getD v35.toNat default).f_Text)]), ((2, 0), .one [.str v81, .int .u32 v82, .isl 1 (v83.map zb) false])] 3 := by
 unfold zy at h
 refine ze ?_
 cases h
 exact AI rfl (y6 (M := [((0, 0), (0, 0)), ((1, 0), (1, 0)), ((2, 0), (2, 0))]) rfl (S4 rfl rfl rfl rfl (AI (VS rfl) (AI (Vw.osl _ _ _ _ rfl) (AI (Vw.ptr _ _ _ _ rfl) (AI (Vw.ptr _ _ _ _ rfl) (S4 rfl rfl rfl rfl (S2 rfl rfl (AI (VS rfl) TT)))))))) (AI (AI rfl BVw.tok) (AI (AI rfl (BVw.oneL (S2 rfl rfl (AI (VS rfl) TT)))) (AI (AI rfl (BVw.oneL (S2 rfl rfl (AI (VS rfl) TT)))) TT))))
noncomputable def yw (m : Option Nat) (a1 : List G_QDocument) (v2 : (List G_QIndexEntry) × (List (List UInt8)) × Int) (v5 : (List G_QRecord) × Int × Int) (v35 : Int) (v85 : List (List UInt8)) (v89 : (List G_QIndexEntry)) : Option (((List G_QIndexEntry) × (List (List UInt8)) × Int) ⊕ Bool) :=
 some (.inl (v89, v85, (W (v35 + 1))))
noncomputable def yg (m : Option Nat) (a1 : List G_QDocument) (v2 : (List G_QIndexEntry) × (List (List UInt8)) × Int) (v5 : (List G_QRecord) × Int × Int) (v33 : List G_QIndexEntry) (v35 : Int) (v85 : List (List UInt8)) (v86 : List UInt8) (v87 : Int) (v88 : List (List UInt8)) : Option (((List G_QIndexEntry) × (List (List UInt8)) × Int) ⊕ Bool) :=
 (jd m v33 (G_QIndexEntry.mk v86 v87 v88)).bind fun v89 =>
 yw m a1 v2 v5 v35 v85 v89
noncomputable def zo (m : Option Nat) (a1 : List G_QDocument) (v2 : (List G_QIndexEntry) × (List (List UInt8)) × Int) (v5 : (List G_QRecord) × Int × Int) (v33 : List G_QIndexEntry) (v34 : List (List UInt8)) (v35 : Int) (v69 : Bool) (v71 : List UInt8) (v72 : Int) (v73 : List (List UInt8)) : Option (((List G_QIndexEntry) × (List (List UInt8)) × Int) ⊕ Bool) :=
 if (!v69) = true then
  (we m (G_QDocument.mk ((a1.getD v35.toNat default).f_Name) ((a1.getD v35.toNat default).f_Version) ((a1.getD v35.toNat default).f_Text))).bind fun v84 =>
  if ((v34 ++ ([(a1.getD v35.toNat default).f_Name] : List (List UInt8))).map zb).length * 16 ≤ 140737488355328 then
  yg m a1 v2 v5 v33 v35 (v34 ++ ([(a1.getD v35.toNat default).f_Name] : List (List UInt8))) v84.f_Name v84.f_Sum v84.f_Words
  else none
 else
  yg m a1 v2 v5 v33 v35 v34 v71 v72 v73
noncomputable def zq (m : Option Nat) (a1 : List G_QDocument) (v2 : (List G_QIndexEntry) × (List (List UInt8)) × Int) (v5 : (List G_QRecord) × Int × Int) (v33 : List G_QIndexEntry) (v34 : List (List UInt8)) (v35 : Int) (v63 : (List G_QRecord)) (v69 : Bool) (v70 : Int) (v71 : List UInt8) (v72 : Int) (v73 : List (List UInt8)) : Option ((Bool × Int × (List UInt8) × Int × (List (List UInt8))) ⊕ (((List G_QIndexEntry) × (List (List UInt8)) × Int) ⊕ Bool)) :=
 if (decide (v70 < ((v63.map za).length : Int))) = true then
  if (0 : Int) ≤ v70 ∧ v70 < ((v63.map za).length : Int) then
  if ((v63.getD v70.toNat default).f_Key == (a1.getD v35.toNat default).f_Name) = true then
   (q9 m (G_QDocument.mk ((a1.getD v35.toNat default).f_Name) ((a1.getD v35.toNat default).f_Version) ((a1.getD v35.toNat default).f_Text)) ((v63.getD v70.toNat default).f_Value)).bind fun v79 =>
   zy m a1 v2 v5 v33 v34 v35 v63 v70 v79.2 v79.1.f_Name v79.1.f_Sum v79.1.f_Words
  else
   zy m a1 v2 v5 v33 v34 v35 v63 v70 v69 v71 v72 v73
  else none
 else
  Option.map Sum.inr (
   zo m a1 v2 v5 v33 v34 v35 v69 v71 v72 v73)
noncomputable def y4 (m : Option Nat) (a1 : List G_QDocument) (v2 : (List G_QIndexEntry) × (List (List UInt8)) × Int) (v5 : (List G_QRecord) × Int × Int) (v33 : List G_QIndexEntry) (v34 : List (List UInt8)) (v35 : Int) (v63 : (List G_QRecord)) (v69 : Bool) (v70 : Int) (v71 : List UInt8) (v72 : Int) (v73 : List (List UInt8)) : Option (((List G_QIndexEntry) × (List (List UInt8)) × Int) ⊕ Bool) := u4 m (fun (s : (Bool × Int × (List UInt8) × Int × (List (List UInt8)))) => zq m a1 v2 v5 v33 v34 v35 v63 s.1 s.2.1 s.2.2.1 s.2.2.2.1 s.2.2.2.2) (v69, v70, v71, v72, v73)
theorem zke {a0 : List UInt8} {a1 : List G_QDocument} {v2 : (List G_QIndexEntry) × (List (List UInt8)) × Int} {v5 : (List G_QRecord) × Int × Int} {v35 : Int} {v85 : List (List UInt8)} {v89 : (List G_QIndexEntry)} {m : Option Nat} {o : (((List G_QIndexEntry) × (List (List UInt8)) × Int) ⊕ Bool)} (h : yw m a1 v2 v5 v35 v85 v89 = some o) :
 LWp Tryz.prog Zv 0 ze2 (xt 0 1 (Q8 a1 v2 v5) (Xf a1 v2 v5) (Wx a0 a1) o) [(5, .isl 3 (v2.1.map z7) false), (6, .isl 1 (v2.2.1.map zb) false), (7, .int .i64 v2.2.2), (9, .isl 3 (v5.1.map za) false), (12, .isl 3 (v89.map z7) false), (13, .osl (0, 0) 1 (v85.map zb)), (60, .isl 3 (a1.map z8) false), (61, .int .i64 ((a1.map z8).length : Int)), (62, .int .i64 v35)] [((0, 0), .tok)] 1 := by
 unfold yw at h
 refine ze ?_
 cases h
 exact AI rfl (y6 (M := [((0, 0), (0, 0))]) rfl (S4 rfl rfl rfl rfl (AI (VS rfl) (AI (Vw.osl _ _ _ _ rfl) (S2 rfl rfl (AI (VS rfl) TT))))) (AI (AI rfl BVw.tok) TT))
theorem z5w {a0 : List UInt8} {a1 : List G_QDocument} {v2 : (List G_QIndexEntry) × (List (List UInt8)) × Int} {v5 : (List G_QRecord) × Int × Int} {v33 : List G_QIndexEntry} {v35 : Int} {v85 : List (List UInt8)} {v86 : List UInt8} {v87 : Int} {v88 : List (List UInt8)} {m : Option Nat} {o : (((List G_QIndexEntry) × (List (List UInt8)) × Int) ⊕ Bool)} (h : yg m a1 v2 v5 v33 v35 v85 v86 v87 v88 = some o) :
 LWp Tryz.prog Zv 0 zym (zm 1 (ug Tryz.prog Zv 0 ze2 (xt 0 1 (Q8 a1 v2 v5) (Xf a1 v2 v5) (Wx a0 a1) o))) [(5, .isl 3 (v2.1.map z7) false), (6, .isl 1 (v2.2.1.map zb) false), (7, .int .i64 v2.2.2), (9, .isl 3 (v5.1.map za) false), (12, .isl 3 (v33.map z7) false), (13, .osl (0, 0) 1 (v85.map zb)), (16, .ptr (1, 0) 0 0), (60, .isl 3 (a1.map z8) false), (61, .int .i64 ((a1.map z8).length : Int)), (62, .int .i64 v35)] [((0, 0), .tok), ((1, 0), .one [.str v86, .int .u32 v87, .isl 1 (v88.map zb) false])] 2 := by
 unfold yg at h
 refine ze ?_
 obtain ⟨v89, h65, h⟩ := bind_some h
 refine PFn.call (y02 h65) (S2 rfl rfl TT) ?_
 refine LWp.sim ?_ (zke h)
 exact y6 (M := [((0, 0), (0, 0))]) rfl (S4 rfl rfl rfl rfl (AI (VS rfl) (AI (Vw.osl _ _ _ _ rfl) (S2 rfl rfl (AI (VS rfl) TT))))) (AI (AI rfl BVw.tok) TT)
theorem zic {a0 : List UInt8} {a1 : List G_QDocument} {v2 : (List G_QIndexEntry) × (List (List UInt8)) × Int} {v5 : (List G_QRecord) × Int × Int} {v33 : List G_QIndexEntry} {v34 : List (List UInt8)} {v35 : Int} {v69 : Bool} {v71 : List UInt8} {v72 : Int} {v73 : List (List UInt8)} {m : Option Nat} {o : (((List G_QIndexEntry) × (List (List UInt8)) × Int) ⊕ Bool)} (h : zo m a1 v2 v5 v33 v34 v35 v69 v71 v72 v73 = some o) :
 LWp Tryz.prog Zv 0 zoo (zm 1 (ug Tryz.prog Zv 0 ze2 (xt 0 1 (Q8 a1 v2 v5) (Xf a1 v2 v5) (Wx a0 a1) o))) [(5, .isl 3 (v2.1.map z7) false), (6, .isl 1 (v2.2.1.map zb) false), (7, .int .i64 v2.2.2), (9, .isl 3 (v5.1.map za) false), (12, .isl 3 (v33.map z7) false), (13, .osl (0, 0) 1 (v34.map zb)), (15, .ptr (1, 0) 0 0), (16, .ptr (2, 0) 0 0), (17, .bool v69), (60, .isl 3 (a1.map z8) false), (61, .int .i64 ((a1.map z8).length : Int)), (62, .int .i64 v35)] [((0, 0), .tok), ((1, 0), .one [.str ((a1.getD v35.toNat default).f_Name), .int .i64 ((a1.getD v35.toNat default).f_Version), .str ((a1.getD v35.toNat default).f_Text)]), ((2, 0), .one [.str v71, .int .u32 v72, .isl 1 (v73.map zb) false])] 3 := by
 unfold zo at h
 refine zd ?_
 refine zd ?_
 refine ze ?_
 refine qj (v := (!v69)) rfl TT (fun h62 => ?_) (fun h62 => ?_)
 ·have h := zk h62 h
  refine zd ?_
  refine ze ?_
  obtain ⟨v84, h63, h⟩ := bind_some h
  refine PFn.call (zxo h63) (AI (VS rfl) TT) ?_
  refine ze ?_
  obtain ⟨h64, h⟩ := zc h
  refine EX ((v34 ++ ([(a1.getD v35.toNat default).f_Name] : List (List UInt8))).map zb) (AI (Y3 zb v34 ([(a1.getD v35.toNat default).f_Name] : List (List UInt8))) (AI h64 ?_))
  refine LWp.sim ?_ (z5w h)
  exact y6 (M := [((0, 0), (3, 0)), ((1, 0), (2, 0))]) rfl (S4 rfl rfl rfl rfl (AI (VS rfl) (AI (Vw.osl _ _ _ _ rfl) (AI (Vw.ptr _ _ _ _ rfl) (S2 rfl rfl (AI (VS rfl) TT)))))) (AI (AI rfl BVw.tok) (AI (AI rfl (BVw.oneL (S2 rfl rfl (AI (VS rfl) TT)))) TT))
 ·have h := zw h62 h
  refine qv ?_
  refine LWp.sim ?_ (z5w h)
  exact y6 (M := [((0, 0), (0, 0)), ((1, 0), (2, 0))]) rfl (S4 rfl rfl rfl rfl (AI (VS rfl) (AI (Vw.osl _ _ _ _ rfl) (AI (Vw.ptr _ _ _ _ rfl) (S2 rfl rfl (AI (VS rfl) TT)))))) (AI (AI rfl BVw.tok) (AI (AI rfl (BVw.oneL (S2 rfl rfl (AI (VS rfl) TT)))) TT))
theorem zfo {a0 : List UInt8} {a1 : List G_QDocument} {v2 : (List G_QIndexEntry) × (List (List UInt8)) × Int} {v5 : (List G_QRecord) × Int × Int} {v33 : List G_QIndexEntry} {v34 : List (List UInt8)} {v35 : Int} {v63 : (List G_QRecord)} {v69 : Bool} {v70 : Int} {v71 : List UInt8} {v72 : Int} {v73 : List (List UInt8)} {m : Option Nat} {o : (Bool × Int × (List UInt8) × Int × (List (List UInt8))) ⊕ (((List G_QIndexEntry) × (List (List UInt8)) × Int) ⊕ Bool)} (h : zq m a1 v2 v5 v33 v34 v35 v63 v69 v70 v71 v72 v73 = some o) :
 LWp Tryz.prog Zv 0 zvd (xt 0 3 (Ug a1 v2 v5 v33 v34 v35 v63) (z49 a1 v2 v5 v33 v34 v35 v63) (z8l a0 a1 v2 v5) o) [(5, .isl 3 (v2.1.map z7) false), (6, .isl 1 (v2.2.1.map zb) false), (7, .int .i64 v2.2.2), (9, .isl 3 (v5.1.map za) false), (12, .isl 3 (v33.map z7) false), (13, .osl (0, 0) 1 (v34.map zb)), (15, .ptr (1, 0) 0 0), (16, .ptr (2, 0) 0 0), (17, .bool v69), (60, .isl 3 (a1.map z8) false), (61, .int .i64 ((a1.map z8).length : Int)), (62, .int .i64 v35), (68, .isl 3 (v63.map za) false), (69, .int .i64 ((v63.map za).length : Int)), (70, .int .i64 v70)] [((0, 0), .tok), ((1, 0), .one [.str ((a1.getD v35.toNat default).f_Name), .int .i64 ((a1.getD v35.toNat default).f_Version), .str ((a1.getD v35.toNat default).f_Text)]), ((2, 0), .one [.str v71, .int .u32 v72, .isl 1 (v73.map zb) false])] 3 := by
 unfold zq at h
 refine zd ?_
 refine ze ?_
 refine zd ?_
 refine qj (v := (decide (v70 < ((v63.map za).length : Int)))) rfl TT (fun h58 => ?_) (fun h58 => ?_)
 ·have h := zk h58 h
  refine qv ?_
  refine zd ?_
  refine yf ?_
  refine zd ?_
  refine ze ?_
  obtain ⟨h59, h⟩ := zc h
  refine AI h59 ?_
  refine EX (za (v63.getD v70.toNat default)) (AI (qo za _ _ (ji za h59)) (AI (AI (k7 h59) (NB rfl)) ?_))
  refine zd ?_
  refine ze ?_
  refine LWp.sim (e := [(5, .isl 3 (v2.1.map z7) false), (6, .isl 1 (v2.2.1.map zb) false), (7, .int .i64 v2.2.2), (9, .isl 3 (v5.1.map za) false), (12, .isl 3 (v33.map z7) false), (13, .osl (0, 0) 1 (v34.map zb)), (15, .ptr (1, 0) 0 0), (16, .ptr (2, 0) 0 0), (17, .bool v69), (19, .ptr (3, 0) 0 0), (60, .isl 3 (a1.map z8) false), (61, .int .i64 ((a1.map z8).length : Int)), (62, .int .i64 v35), (68, .isl 3 (v63.map za) false), (69, .int .i64 ((v63.map za).length : Int)), (70, .int .i64 v70), (78, .bool ((v63.getD v70.toNat default).f_Key == (a1.getD v35.toNat default).f_Name))]) (L := [((0, 0), .tok), ((1, 0), .one [.str ((a1.getD v35.toNat default).f_Name), .int .i64 ((a1.getD v35.toNat default).f_Version), .str ((a1.getD v35.toNat default).f_Text)]), ((2, 0), .one [.str v71, .int .u32 v72, .isl 1 (v73.map zb) false]), ((3, 0), .one [.str ((v63.getD v70.toNat default).f_Key), .str ((v63.getD v70.toNat default).f_Value), .bool ((v63.getD v70.toNat default).f_Deleted)])]) (n := 4) ?_ ?_
  ·exact y6 (M := [((0, 0), (0, 0)), ((1, 0), (1, 0)), ((2, 0), (2, 0)), ((3, 0), (3, 0))]) rfl (S4 rfl rfl rfl rfl (AI (VS rfl) (AI (Vw.osl _ _ _ _ rfl) (AI (Vw.ptr _ _ _ _ rfl) (AI (Vw.ptr _ _ _ _ rfl) (AI (VS rfl) (AI (Vw.ptr _ _ _ _ rfl) (S4 rfl rfl rfl rfl (S2 rfl rfl (AI (VS rfl) TT)))))))))) (AI (AI rfl BVw.tok) (AI (AI rfl (BVw.oneL (S2 rfl rfl (AI (VS rfl) TT)))) (AI (AI rfl (BVw.oneL (S2 rfl rfl (AI (VS rfl) TT)))) (AI (AI rfl (BVw.oneL (S2 rfl rfl (AI (VS rfl) TT)))) TT))))
  refine qj (v := ((v63.getD v70.toNat default).f_Key == (a1.getD v35.toNat default).f_Name)) rfl TT (fun h60 => ?_) (fun h60 => ?_)
  ·have h := zk h60 h
   refine ze ?_
   obtain ⟨v79, h61, h⟩ := bind_some h
   refine PFn.call (y2b h61) (S2 rfl rfl TT) ?_
   refine LWp.sim ?_ (z4g h)
   exact y6 (M := [((0, 0), (0, 0)), ((1, 0), (1, 0)), ((2, 0), (2, 0))]) rfl (S4 rfl rfl rfl rfl (AI (VS rfl) (AI (Vw.osl _ _ _ _ rfl) (AI (Vw.ptr _ _ _ _ rfl) (AI (Vw.ptr _ _ _ _ rfl) (S4 rfl rfl rfl rfl (S2 rfl rfl (AI (VS rfl) TT)))))))) (AI (AI rfl BVw.tok) (AI (AI rfl (BVw.oneL (S2 rfl rfl (AI (VS rfl) TT)))) (AI (AI rfl (BVw.oneL (S2 rfl rfl (AI (VS rfl) TT)))) TT)))
  ·have h := zw h60 h
   refine qv ?_
   refine LWp.sim ?_ (z4g h)
   exact y6 (M := [((0, 0), (0, 0)), ((1, 0), (1, 0)), ((2, 0), (2, 0))]) rfl (S4 rfl rfl rfl rfl (AI (VS rfl) (AI (Vw.osl _ _ _ _ rfl) (AI (Vw.ptr _ _ _ _ rfl) (AI (Vw.ptr _ _ _ _ rfl) (S4 rfl rfl rfl rfl (S2 rfl rfl (AI (VS rfl) TT)))))))) (AI (AI rfl BVw.tok) (AI (AI rfl (BVw.oneL (S2 rfl rfl (AI (VS rfl) TT)))) (AI (AI rfl (BVw.oneL (S2 rfl rfl (AI (VS rfl) TT)))) TT)))
 ·have h := zw h58 h
  refine Z2 ?_
  obtain ⟨o, hq, rfl⟩ := Option.map_eq_some_iff.1 h
  replace h := hq; clear hq
  refine AI nofun ?_
  refine LWp.sim ?_ (zic h)
  exact y6 (M := [((0, 0), (0, 0)), ((1, 0), (1, 0)), ((2, 0), (2, 0))]) rfl (S4 rfl rfl rfl rfl (AI (VS rfl) (AI (Vw.osl _ _ _ _ rfl) (AI (Vw.ptr _ _ _ _ rfl) (AI (Vw.ptr _ _ _ _ rfl) (S4 rfl rfl rfl rfl TT)))))) (AI (AI rfl BVw.tok) (AI (AI rfl (BVw.oneL (S2 rfl rfl (AI (VS rfl) TT)))) (AI (AI rfl (BVw.oneL (S2 rfl rfl (AI (VS rfl) TT)))) TT)))
theorem zqd {a0 : List UInt8} {a1 : List G_QDocument} {v2 : (List G_QIndexEntry) × (List (List UInt8)) × Int} {v5 : (List G_QRecord) × Int × Int} {v33 : List G_QIndexEntry} {v34 : List (List UInt8)} {v35 : Int} {v63 : (List G_QRecord)} {v69 : Bool} {v70 : Int} {v71 : List UInt8} {v72 : Int} {v73 : List (List UInt8)} {m : Option Nat} {o : (((List G_QIndexEntry) × (List (List UInt8)) × Int) ⊕ Bool)} (h : y4 m a1 v2 v5 v33 v34 v35 v63 v69 v70 v71 v72 v73 = some o) :
 LWp Tryz.prog Zv 0 (.loop zvd) (zm 2 (ug Tryz.prog Zv 0 zoo (zm 1 (ug Tryz.prog Zv 0 ze2 (xt 0 1 (Q8 a1 v2 v5) (Xf a1 v2 v5) (Wx a0 a1) o))))) [(5, .isl 3 (v2.1.map z7) false), (6, .isl 1 (v2.2.1.map zb) false), (7, .int .i64 v2.2.2), (9, .isl 3 (v5.1.map za) false), (12, .isl 3 (v33.map z7) false), (13, .osl (0, 0) 1 (v34.map zb)), (15, .ptr (1, 0) 0 0), (16, .ptr (2, 0) 0 0), (17, .bool v69), (60, .isl 3 (a1.map z8) false), (61, .int .i64 ((a1.map z8).length : Int)), (62, .int .i64 v35), (68, .isl 3 (v63.map za) false), (69, .int .i64 ((v63.map za).length : Int)), (70, .int .i64 v70)] [((0, 0), .tok), ((1, 0), .one [.str ((a1.getD v35.toNat default).f_Name), .int .i64 ((a1.getD v35.toNat default).f_Version), .str ((a1.getD v35.toNat default).f_Text)]), ((2, 0), .one [.str v71, .int .u32 v72, .isl 1 (v73.map zb) false])] 3 :=
 yi (m := m) (s := ((v69, v70, v71, v72, v73) : (Bool × Int × (List UInt8) × Int × (List (List UInt8))))) (r := o) (fun (s : (Bool × Int × (List UInt8) × Int × (List (List UInt8)))) => zq m a1 v2 v5 v33 v34 v35 v63 s.1 s.2.1 s.2.2.1 s.2.2.2.1 s.2.2.2.2) (Ug a1 v2 v5 v33 v34 v35 v63) (z49 a1 v2 v5 v33 v34 v35 v63) (z8l a0 a1 v2 v5) (fun s o h => zfo h) h
noncomputable def yx (m : Option Nat) (v2 : (List G_QIndexEntry) × (List (List UInt8)) × Int) (v33 : List G_QIndexEntry) (v34 : List (List UInt8)) : Option Bool :=
 (yh m).bind fun v90 =>
 (if ((v90 && (v2.2.2 == 0)) == true) = true then qy m v2.1 v33 else some default).bind fun v91 =>
 (if (((v90 && (v2.2.2 == 0)) && v91) == true) = true then yk m v34 else some default).bind fun v92 =>
 (if (((v90 && (v2.2.2 == 0)) && v91) == true) = true then zj m v2.2.1 v92 else some default).bind fun v93 =>
 some (((v90 && (v2.2.2 == 0)) && v91) && v93)
noncomputable def y1 (m : Option Nat) (a1 : List G_QDocument) (v2 : (List G_QIndexEntry) × (List (List UInt8)) × Int) (v5 : (List G_QRecord) × Int × Int) (v33 : List G_QIndexEntry) (v34 : List (List UInt8)) (v35 : Int) : Option (((List G_QIndexEntry) × (List (List UInt8)) × Int) ⊕ Bool) :=
 if (decide (v35 < ((a1.map z8).length : Int))) = true then
  if (0 : Int) ≤ v35 ∧ v35 < ((a1.map z8).length : Int) then
  (xh m v5.1).bind fun v63 =>
  y4 m a1 v2 v5 v33 v34 v35 v63 false 0 ([] : List UInt8) 0 ([] : List (List UInt8))
  else none
 else
  Option.map Sum.inr (
   yx m v2 v33 v34)
noncomputable def q7 (m : Option Nat) (a1 : List G_QDocument) (v2 : (List G_QIndexEntry) × (List (List UInt8)) × Int) (v5 : (List G_QRecord) × Int × Int) (v33 : List G_QIndexEntry) (v34 : List (List UInt8)) (v35 : Int) : Option Bool := u4 m (fun (s : ((List G_QIndexEntry) × (List (List UInt8)) × Int)) => y1 m a1 v2 v5 s.1 s.2.1 s.2.2) (v33, v34, v35)
theorem zhh {a0 : List UInt8} {a1 : List G_QDocument} {v2 : (List G_QIndexEntry) × (List (List UInt8)) × Int} {v33 : List G_QIndexEntry} {v34 : List (List UInt8)} {m : Option Nat} {o : Bool} (h : yx m v2 v33 v34 = some o) :
 LWp Tryz.prog Zv 0 zni (y1e a0 a1 o) [(5, .isl 3 (v2.1.map z7) false), (6, .isl 1 (v2.2.1.map zb) false), (7, .int .i64 v2.2.2), (12, .isl 3 (v33.map z7) false), (13, .osl (0, 0) 1 (v34.map zb))] [((0, 0), .tok)] 1 := by
 unfold yx at h
 refine zd ?_
 refine ze ?_
 obtain ⟨v90, h66, h⟩ := bind_some h
 refine PFn.call (zwq h66) TT ?_
 refine AI (fun hp => hp) ?_
 refine AI (fun hc => (bqt hc)) ?_
 obtain ⟨v91, h67, h⟩ := bind_some h
 refine Or.inl (EX (.bool v91) (AI (fun hp => AI (AI hp hp) (PFn.call (zzj (zk hp h67)) (S2 rfl rfl TT) (AI rfl (AI rfl rfl)))) ?_))
 refine AI (fun hc => (bqt hc)) ?_
 obtain ⟨v92, h68, h⟩ := bind_some h
 refine Or.inl (EX (.isl 1 (v92.map zb) false) (AI (fun hp => AI hp (PFn.call (zcr (zk hp h68)) (AI (Vw.oslI _ _ _) TT) (AI rfl (AI rfl rfl)))) ?_))
 obtain ⟨v93, h69, h⟩ := bind_some h
 refine Or.inl (EX (.bool v93) (AI (fun hp => AI (AI hp hp) (PFn.call (z75 (zk hp h69)) (S2 rfl rfl TT) (AI rfl (AI rfl rfl)))) ?_))
 refine AI (fun hc => (bqt hc)) ?_
 refine LWp.sim (e := [(4, .bool (((v90 && (v2.2.2 == 0)) && v91) && v93))]) (L := []) (n := 0) ?_ ?_
 ·exact y6 (M := []) rfl (AI (VS rfl) TT) TT
 refine u5 ?_
 cases h
 exact AI TT (AI rfl (VS rfl))
theorem ziy {a0 : List UInt8} {a1 : List G_QDocument} {v2 : (List G_QIndexEntry) × (List (List UInt8)) × Int} {v5 : (List G_QRecord) × Int × Int} {v33 : List G_QIndexEntry} {v34 : List (List UInt8)} {v35 : Int} {m : Option Nat} {o : ((List G_QIndexEntry) × (List (List UInt8)) × Int) ⊕ Bool} (h : y1 m a1 v2 v5 v33 v34 v35 = some o) :
 LWp Tryz.prog Zv 0 zuf (xt 0 1 (Q8 a1 v2 v5) (Xf a1 v2 v5) (Wx a0 a1) o) [(5, .isl 3 (v2.1.map z7) false), (6, .isl 1 (v2.2.1.map zb) false), (7, .int .i64 v2.2.2), (9, .isl 3 (v5.1.map za) false), (12, .isl 3 (v33.map z7) false), (13, .osl (0, 0) 1 (v34.map zb)), (60, .isl 3 (a1.map z8) false), (61, .int .i64 ((a1.map z8).length : Int)), (62, .int .i64 v35)] [((0, 0), .tok)] 1 := by
 unfold y1 at h
 refine zd ?_
 refine ze ?_
 refine zd ?_
 refine qj (v := (decide (v35 < ((a1.map z8).length : Int)))) rfl TT (fun h47 => ?_) (fun h47 => ?_)
 ·have h := zk h47 h
  refine qv ?_
  refine zd ?_
  refine yf ?_
  refine zd ?_
  refine ze ?_
  obtain ⟨h48, h⟩ := zc h
  refine AI h48 ?_
  refine EX (z8 (a1.getD v35.toNat default)) (AI (qo z8 _ _ (ji z8 h48)) (AI (AI (k7 h48) (NB rfl)) ?_))
  refine zd ?_
  refine ze ?_
  refine LWp.sim (e := [(5, .isl 3 (v2.1.map z7) false), (6, .isl 1 (v2.2.1.map zb) false), (7, .int .i64 v2.2.2), (9, .isl 3 (v5.1.map za) false), (12, .isl 3 (v33.map z7) false), (13, .osl (0, 0) 1 (v34.map zb)), (15, .ptr (1, 0) 0 0), (16, .ptr (2, 0) 0 0), (17, .bool false), (60, .isl 3 (a1.map z8) false), (61, .int .i64 ((a1.map z8).length : Int)), (62, .int .i64 v35)]) (L := [((0, 0), .tok), ((1, 0), .one [.str ((a1.getD v35.toNat default).f_Name), .int .i64 ((a1.getD v35.toNat default).f_Version), .str ((a1.getD v35.toNat default).f_Text)]), ((2, 0), .one [.str ([] : List UInt8), .int .u32 0, .isl 1 (([] : List (List UInt8)).map zb) true])]) (n := 3) ?_ ?_
  ·exact y6 (M := [((0, 0), (0, 0)), ((1, 0), (1, 0)), ((2, 0), (2, 0))]) rfl (S4 rfl rfl rfl rfl (AI (VS rfl) (AI (Vw.osl _ _ _ _ rfl) (AI (Vw.ptr _ _ _ _ rfl) (AI (Vw.ptr _ _ _ _ rfl) (S4 rfl rfl rfl rfl TT)))))) (AI (AI rfl BVw.tok) (AI (AI rfl (BVw.oneL (S2 rfl rfl (AI (VS rfl) TT)))) (AI (AI rfl (BVw.oneL (S2 rfl rfl (AI (VS rfl) TT)))) TT)))
  refine zd ?_
  refine zd ?_
  refine ze ?_
  obtain ⟨v63, h49, h⟩ := bind_some h
  refine PFn.call (y1z h49) (AI (VS rfl) TT) ?_
  refine yf ?_
  refine LWp.sim ?_ (zqd h)
  exact y6 (M := [((0, 0), (0, 0)), ((1, 0), (1, 0)), ((2, 0), (2, 0))]) rfl (S4 rfl rfl rfl rfl (AI (VS rfl) (AI (Vw.osl _ _ _ _ rfl) (AI (Vw.ptr _ _ _ _ rfl) (AI (Vw.ptr _ _ _ _ rfl) (S4 rfl rfl rfl rfl (S2 rfl rfl (AI (VS rfl) TT)))))))) (AI (AI rfl BVw.tok) (AI (AI rfl (BVw.oneL (S2 rfl rfl (AI (VS rfl) TT)))) (AI (AI rfl (BVw.oneL (S2 rfl rfl (AI (Vw.islF _ _ _) TT)))) TT)))
 ·have h := zw h47 h
  refine Z2 ?_
  obtain ⟨o, hq, rfl⟩ := Option.map_eq_some_iff.1 h
  replace h := hq; clear hq
  refine AI nofun ?_
  refine LWp.sim ?_ (zhh h)
  exact y6 (M := [((0, 0), (0, 0))]) rfl (S4 rfl rfl rfl rfl (AI (Vw.osl _ _ _ _ rfl) TT)) (AI (AI rfl BVw.tok) TT)
theorem zol {a0 : List UInt8} {a1 : List G_QDocument} {v2 : (List G_QIndexEntry) × (List (List UInt8)) × Int} {v5 : (List G_QRecord) × Int × Int} {v33 : List G_QIndexEntry} {v34 : List (List UInt8)} {v35 : Int} {m : Option Nat} {o : Bool} (h : q7 m a1 v2 v5 v33 v34 v35 = some o) :
 LWp Tryz.prog Zv 0 (.loop zuf) (zm 0 (ug Tryz.prog Zv 0 zni (y1e a0 a1 o))) [(5, .isl 3 (v2.1.map z7) false), (6, .isl 1 (v2.2.1.map zb) false), (7, .int .i64 v2.2.2), (9, .isl 3 (v5.1.map za) false), (12, .isl 3 (v33.map z7) false), (13, .osl (0, 0) 1 (v34.map zb)), (60, .isl 3 (a1.map z8) false), (61, .int .i64 ((a1.map z8).length : Int)), (62, .int .i64 v35)] [((0, 0), .tok)] 1 :=
 yi (m := m) (s := ((v33, v34, v35) : ((List G_QIndexEntry) × (List (List UInt8)) × Int))) (r := o) (fun (s : ((List G_QIndexEntry) × (List (List UInt8)) × Int)) => y1 m a1 v2 v5 s.1 s.2.1 s.2.2) (Q8 a1 v2 v5) (Xf a1 v2 v5) (Wx a0 a1) (fun s o h => ziy h) h
noncomputable def yr (m : Option Nat) (a0 : List UInt8) (a1 : List G_QDocument) : Option Bool :=
 (yh m).bind fun v1 =>
 if (!v1) = true then
  some false
 else
  if (0 : Int) ≤ (if 3000 < (a0.length : Int) then 3000 else (a0.length : Int)) ∧ (if 3000 < (a0.length : Int) then 3000 else (a0.length : Int)) ≤ (a0.length : Int) then
  (ve m ((a0.take (if 3000 < (a0.length : Int) then 3000 else (a0.length : Int)).toNat).drop 0) a1).bind fun v2 =>
  (qd m a1).bind fun v3 =>
  if (v3 != 0) = true then
   (yh m).bind fun v4 =>
   some (((v4 && (v2.2.2 == v3)) && (((v2.1.map z7).length : Int) == 0)) && (((v2.2.1.map zb).length : Int) == 0))
  else
   (jb m ((a0.take (if 3000 < (a0.length : Int) then 3000 else (a0.length : Int)).toNat).drop 0)).bind fun v5 =>
   q7 m a1 v2 v5 [] [] 0
  else none
theorem zqi {a0 : List UInt8} {a1 : List G_QDocument} {m : Option Nat} {o : Bool} (h : yr m a0 a1 = some o) : LWp Tryz.prog Zv 0 zzr (y1e a0 a1 o) (zz 0 [.str a0, .isl 3 (a1.map z8) false]) [] 0 := by
 unfold yr at h
 refine zd ?_
 refine ze ?_
 refine zd ?_
 refine zd ?_
 refine ze ?_
 obtain ⟨v1, h1, h⟩ := bind_some h
 refine PFn.call (zwq h1) TT ?_
 refine qj (v := (!v1)) rfl TT (fun h2 => ?_) (fun h2 => ?_)
 ·have h := zk h2 h
  refine zd ?_
  refine ze ?_
  refine u5 ?_
  cases h
  exact AI TT (AI rfl (VS rfl))
 ·have h := zw h2 h
  refine qv ?_
  refine zd ?_
  refine ze ?_
  obtain ⟨h3, h⟩ := zc h
  refine AI (AI (Int.le_refl _) h3) ?_
  refine LWp.sim (e := [(0, .str ((a0.take (if 3000 < (a0.length : Int) then 3000 else (a0.length : Int)).toNat).drop 0)), (1, .isl 3 (a1.map z8) false)]) (L := []) (n := 0) ?_ ?_
  ·exact y6 (M := []) rfl (S2 rfl rfl TT) TT
  refine zd ?_
  refine ze ?_
  obtain ⟨v2, h4, h⟩ := bind_some h
  refine PFn.call (y23 h4) (S2 rfl rfl TT) ?_
  refine LWp.sim (e := [(0, .str ((a0.take (if 3000 < (a0.length : Int) then 3000 else (a0.length : Int)).toNat).drop 0)), (1, .isl 3 (a1.map z8) false), (5, .isl 3 (v2.1.map z7) false), (6, .isl 1 (v2.2.1.map zb) false), (7, .int .i64 v2.2.2)]) (L := []) (n := 0) ?_ ?_
  ·exact y6 (M := []) rfl (S4 rfl rfl rfl rfl (AI (VS rfl) TT)) TT
  refine zd ?_
  refine zd ?_
  refine ze ?_
  obtain ⟨v3, h5, h⟩ := bind_some h
  refine PFn.call (y2l h5) (AI (VS rfl) TT) ?_
  refine zd ?_
  refine ze ?_
  refine qj (v := (v3 != 0)) rfl TT (fun h6 => ?_) (fun h6 => ?_)
  ·have h := zk h6 h
   refine zd ?_
   refine ze ?_
   obtain ⟨v4, h7, h⟩ := bind_some h
   refine PFn.call (zwq h7) TT ?_
   refine AI (fun hp => (AI hp hp)) ?_
   refine AI (fun hc => (bqt hc)) ?_
   refine AI (fun hp => hp) ?_
   refine AI (fun hp => hp) ?_
   refine AI (fun hc => (bqt hc)) ?_
   refine AI (fun hp => hp) ?_
   refine AI (fun hp => hp) ?_
   refine AI (fun hc => (bqt hc)) ?_
   refine LWp.sim (e := [(4, .bool (((v4 && (v2.2.2 == v3)) && (((v2.1.map z7).length : Int) == 0)) && (((v2.2.1.map zb).length : Int) == 0)))]) (L := []) (n := 0) ?_ ?_
   ·exact y6 (M := []) rfl (AI (VS rfl) TT) TT
   refine u5 ?_
   cases h
   exact AI TT (AI rfl (VS rfl))
  ·have h := zw h6 h
   refine qv ?_
   refine zd ?_
   refine ze ?_
   obtain ⟨v5, h8, h⟩ := bind_some h
   refine PFn.call (y1p h8) (AI (VS rfl) TT) ?_
   refine LWp.sim (e := [(1, .isl 3 (a1.map z8) false), (5, .isl 3 (v2.1.map z7) false), (6, .isl 1 (v2.2.1.map zb) false), (7, .int .i64 v2.2.2), (9, .isl 3 (v5.1.map za) false)]) (L := []) (n := 0) ?_ ?_
   ·exact y6 (M := []) rfl (S4 rfl rfl rfl rfl (AI (VS rfl) TT)) TT
   refine zd ?_
   refine ze ?_
   refine zd ?_
   refine ze ?_
   refine zd ?_
   refine zd ?_
   refine ze ?_
   refine yf ?_
   refine LWp.sim ?_ (zol h)
   exact y6 (M := []) rfl (S4 rfl rfl rfl rfl (AI (Vw.nilI _ _) (AI (Vw.nilO _ _ (by decide)) (S2 rfl rfl (AI (VS rfl) TT))))) (AI (AI rfl (AI (by decide) (by decide))) TT)
theorem y2d {a0 : List UInt8} {a1 : List G_QDocument} {m : Option Nat} {o : Bool} (h : yr m a0 a1 = some o) : PFn Tryz.prog 3 [.str a0, .isl 3 (a1.map z8) false] (.bool o) := PFn.ofFnW (L := y2y) y0f zy9 (NB rfl) rfl (zqi h)
end Go.Proofs.YteepckliibfnkaaGreatDoor
