/-
  Own text GenA of this claim: what functions of the given program compute, in plain Lean, and the proof; no condition.
-/
import Derived.Test.YtbinocieebfpiaaDoorChecked
import Derived.Test.YtbinocieebfpiaaDoorFxN
import Derived.Test.YtbinocieebfpiaaDoorFxMd
import Derived.Test.YtbinocieebfpiaaDoorFxLg
import Derived.Test.YtbinocieebfpiaaDoorFxIt
import Derived.Test.YtbinocieebfpiaaDoorFxIx
import Derived.Test.YtbinocieebfpiaaDoorFxLb
import Derived.Test.YtbinocieebfpiaaDoorLib
import Derived.Test.YtbinocieebfpiaaDoorEv
import Derived.Test.YtbinocieebfpiaaDoorFxAb
import Derived.KernelRfl
namespace Go.Proofs.YtbinocieebfpiaaDoor
open Go.Fx
set_option linter.unusedVariables false
set_option maxHeartbeats 4000000
set_option maxHeartbeats 1600000
def z7 (x : List UInt8) : List AVal := [.str x]
theorem zg0 (x : List UInt8) : AVal.nid.nidL (z7 x) = true ∧ ∀ y ∈ z7 x, y.imm = some y := ⟨rfl, by simp [z7, AVal.imm]⟩
def jb (m : Option Nat) (a0 a1 : Int) : Option (List UInt8) := if (-9223372036854775808 ≤ a0 ∧ a0 ≤ 9223372036854775807) ∧ a1 = 10 then some (Go.Lib.itoa a0) else none
theorem zc1 : k6 Tryd.prog 31 := ⟨_, Tryd.func31, rfl, rfl⟩
theorem zeu {m : Option Nat} {a0 a1 : Int} {o : List UInt8} (h : jb m a0 a1 = some o) : PFn Tryd.prog 31 [i6 a0, i6 a1] (.str o) := by
 unfold jb at h
 split at h
 ·rename_i hc
  obtain ⟨hc, rfl⟩ := hc
  cases h
  exact z9i Tryd.l31 rfl zc1 zgr zgi hc
 ·cases h
def zam : LCode := (.seq (.region [Qo 2 (.mv (.c (.str [])))])
 (.seq (.region [Qm 3 0,
  Qo 4 (.call 31 [(.t 3), (.c (i6 10))]),
  Qm 2 4])
 .ret))
def z4w : Lay := ⟨5, [], false⟩
def z6a : List LRes := [.t 2]
def zdq : LFn := ⟨1, z4w, zam, z6a⟩
theorem zbn : wb Tryd.prog [] 20 = some zdq := by kernel_rfl
theorem zc5 : k6 Tryd.prog 20 := ⟨_, Tryd.func20, rfl, rfl⟩
noncomputable def j5 (m : Option Nat) (a0 : Int) : Option (List UInt8) :=
 (jb m a0 10).bind fun v1 =>
 some v1
def zgj (a0 : Int) (o : (List UInt8)) : Exit → Env → AHeap → Nat → Prop := Ys z6a (j0 (.str o))
theorem z7o {a0 : Int} {m : Option Nat} {o : (List UInt8)} (h : j5 m a0 = some o) : LWp Tryd.prog z4w 0 zam (zgj a0 o) (qk 0 [i6 a0]) [] 0 := by
 unfold j5 at h
 refine ze (zw ?_)
 refine ze (zw ?_)
 obtain ⟨v1, h1, h⟩ := bind_some h
 refine PFn.call (zeu h1) (S2 rfl rfl TT) ?_
 refine w7 ?_
 cases h
 exact AI TT (AI rfl (VS rfl))
theorem zf4 {a0 : Int} {m : Option Nat} {o : (List UInt8)} (h : j5 m a0 = some o) : PFn Tryd.prog 20 [i6 a0] (.str o) := PFn.ofFnW (L := zdq) zbn zc5 (NB rfl) rfl (z7o h)
def zab : LCode := (.seq (.region [Qo 2 (.mv (.c (.str [])))])
 (.seq (.region [Qm 3 0,
  Qc 4 20 3,
  Qm 2 4])
 .ret))
def z74 : Lay := ⟨5, [], false⟩
def z5f : List LRes := [.t 2]
def zeg : LFn := ⟨1, z74, zab, z5f⟩
theorem zcr : wb Tryd.prog [] 16 = some zeg := by kernel_rfl
theorem zcn : k6 Tryd.prog 16 := ⟨_, Tryd.func16, rfl, rfl⟩
noncomputable def jx (m : Option Nat) (a0 : Int) : Option (List UInt8) :=
 (j5 m a0).bind fun v1 =>
 some v1
def zgk (a0 : Int) (o : (List UInt8)) : Exit → Env → AHeap → Nat → Prop := Ys z5f (j0 (.str o))
theorem z78 {a0 : Int} {m : Option Nat} {o : (List UInt8)} (h : jx m a0 = some o) : LWp Tryd.prog z74 0 zab (zgk a0 o) (qk 0 [i6 a0]) [] 0 := by
 unfold jx at h
 refine ze (zw ?_)
 refine ze (zw ?_)
 obtain ⟨v1, h1, h⟩ := bind_some h
 refine PFn.call (zf4 h1) (AI (VS rfl) TT) ?_
 refine w7 ?_
 cases h
 exact AI TT (AI rfl (VS rfl))
theorem zeo {a0 : Int} {m : Option Nat} {o : (List UInt8)} (h : jx m a0 = some o) : PFn Tryd.prog 16 [i6 a0] (.str o) := PFn.ofFnW (L := zeg) zcr zcn (NB rfl) rfl (z78 h)
def ze6 : LCode := (.seq (.region [Qo 2 (.mv (.c (.str []))),
 Qi 3 0])
 (.seq (.seq (.region [Qm 4 0,
  Qo 5 (.len true (.t 4)),
  Qo 6 (.bin .gtr (.t 5) (.c (i6 4000)))])
 (.cond (.t 6)
  (.seq (.region [Qo 2 (.mv (.c (.str []))),
   Qi 3 2])
  .ret)
  .skip))
 (.seq (.region [Qm 7 0,
  Qo 8 (.len true (.t 7)),
  Qc 9 16 8,
  Qo 10 (.bin .add (.c (.str [67, 111, 110, 116, 101, 110, 116, 45, 76, 101, 110, 103, 116, 104, 58, 32])) (.t 9)),
  Qo 11 (.bin .add (.t 10) (.c (.str [13, 10]))),
  Qo 12 (.bin .add (.t 11) (.c (.str [13, 10]))),
  Qm 13 0,
  Qo 14 (.bin .add (.t 12) (.t 13)),
  Qm 2 14,
  Qi 3 0])
 .ret)))
def zb2 : Lay := ⟨15, [], false⟩
def zar : List LRes := [.t 2, .t 3]
def zgv : LFn := ⟨1, zb2, ze6, zar⟩
theorem zdz : wb Tryd.prog [] 6 = some zgv := by kernel_rfl
theorem zfr : k6 Tryd.prog 6 := ⟨_, Tryd.func6, rfl, rfl⟩
noncomputable def j7 (m : Option Nat) (a0 : List UInt8) : Option ((List UInt8) × Int) :=
 if (decide ((a0.length : Int) > 4000)) = true then
  some (([] : List UInt8), 2)
 else
  (jx m (a0.length : Int)).bind fun v1 =>
  if (((([67, 111, 110, 116, 101, 110, 116, 45, 76, 101, 110, 103, 116, 104, 58, 32] : List UInt8).length + v1.length : Nat) : Int) ≤ 9223372036854775807) then
  if ((((([67, 111, 110, 116, 101, 110, 116, 45, 76, 101, 110, 103, 116, 104, 58, 32] : List UInt8) ++ v1).length + ([13, 10] : List UInt8).length : Nat) : Int) ≤ 9223372036854775807) then
  if (((((([67, 111, 110, 116, 101, 110, 116, 45, 76, 101, 110, 103, 116, 104, 58, 32] : List UInt8) ++ v1) ++ ([13, 10] : List UInt8)).length + ([13, 10] : List UInt8).length : Nat) : Int) ≤ 9223372036854775807) then
  if ((((((([67, 111, 110, 116, 101, 110, 116, 45, 76, 101, 110, 103, 116, 104, 58, 32] : List UInt8) ++ v1) ++ ([13, 10] : List UInt8)) ++ ([13, 10] : List UInt8)).length + a0.length : Nat) : Int) ≤ 9223372036854775807) then
  some (((((([67, 111, 110, 116, 101, 110, 116, 45, 76, 101, 110, 103, 116, 104, 58, 32] : List UInt8) ++ v1) ++ ([13, 10] : List UInt8)) ++ ([13, 10] : List UInt8)) ++ a0), 0)
  else none
  else none
  else none
  else none
def zhq (a0 : List UInt8) (o : (List UInt8) × Int) : Exit → Env → AHeap → Nat → Prop := Ys zar (j0 (.tup [.str o.1, i6 o.2]))
theorem z9m {a0 : List UInt8} {m : Option Nat} {o : (List UInt8) × Int} (h : j7 m a0 = some o) : LWp Tryd.prog zb2 0 ze6 (zhq a0 o) (qk 0 [.str a0]) [] 0 := by
 unfold j7 at h
 refine ze (zw ?_)
 refine ze ?_
 refine ze (zw ?_)
 refine qz (v := (decide ((a0.length : Int) > 4000))) rfl TT (fun h1 => ?_) (fun h1 => ?_)
 ·have h := y3 h1 h
  refine ze (zw ?_)
  refine w7 ?_
  cases h
  exact AI TT (AI TT (AI rfl (VS rfl)))
 ·have h := yg h1 h
  refine xe ?_
  refine ze (zw ?_)
  obtain ⟨v1, h2, h⟩ := bind_some h
  refine PFn.call (zeo h2) (AI (VS rfl) TT) ?_
  obtain ⟨h3, h⟩ := zh h
  refine AI h3 ?_
  obtain ⟨h4, h⟩ := zh h
  refine AI h4 ?_
  obtain ⟨h5, h⟩ := zh h
  refine AI h5 ?_
  obtain ⟨h6, h⟩ := zh h
  refine AI h6 ?_
  refine LWp.sim (e := [(2, .str ((((([67, 111, 110, 116, 101, 110, 116, 45, 76, 101, 110, 103, 116, 104, 58, 32] : List UInt8) ++ v1) ++ ([13, 10] : List UInt8)) ++ ([13, 10] : List UInt8)) ++ a0)), (3, i6 0)]) (L := []) (n := 0) ?_ ?_
  ·exact x3 (M := []) rfl (S2 rfl rfl TT) TT
  refine w7 ?_
  cases h
  exact AI TT (AI TT (AI rfl (VS rfl)))
theorem zg4 {a0 : List UInt8} {m : Option Nat} {o : (List UInt8) × Int} (h : j7 m a0 = some o) : PFn Tryd.prog 6 [.str a0] (.tup [.str o.1, i6 o.2]) := PFn.ofFnW (L := zgv) zdz zfr (NB rfl) rfl (z9m h)
def jk (m : Option Nat) (a0 : List UInt8) (a1 : List UInt8) : Option Int := if a0.length < 4294967281 then some (Go.Lib.index a0 a1) else none
theorem zck : k6 Tryd.prog 17 := ⟨_, Tryd.func17, rfl, rfl⟩
theorem ze3 {m : Option Nat} {a0 : List UInt8} {a1 : List UInt8} {o : Int} (h : jk m a0 a1 = some o) : PFn Tryd.prog 17 [.str a0, .str a1] (i6 o) := by
 unfold jk at h
 split at h
 ·rename_i hc
  cases h
  exact z2x Tryd.l17 rfl zck zdr hc
 ·cases h
def wh (m : Option Nat) (a0 : List UInt8) (a1 : List UInt8) : Option ((List UInt8) × (List UInt8) × Bool) := if a0.length < 4294967281 then some (Go.Lib.cut a0 a1) else none
theorem zd2 : k6 Tryd.prog 22 := ⟨_, Tryd.func22, rfl, rfl⟩
theorem zej {m : Option Nat} {a0 : List UInt8} {a1 : List UInt8} {o : (List UInt8) × (List UInt8) × Bool} (h : wh m a0 a1 = some o) : PFn Tryd.prog 22 [.str a0, .str a1] (.tup [.str o.1, .str o.2.1, .bool o.2.2]) := by
 unfold wh at h
 split at h
 ·rename_i hc
  cases h
  exact z8p Tryd.l22 rfl zd2 zdr hc
 ·cases h
def z5u : LCode := (.seq (.region [Qo 7 (.bin .lss (.t 6) (.t 5))])
 (.seq (.cond (.t 7)
  .skip
  (.exit 0))
 (.seq (.block 1
  (.seq (.region [Qm 8 6,
   Qm 3 8])
  (.seq (.region [Qm 9 0,
   Qm 10 3,
   Qo 11 (.idxS (.t 9) (.t 10)),
   Qo 12 (.bin .leq (.t 11) (.c (.int .u8 32))),
   Qm 13 12,
   Qn 14 0 (13, false),
   Qn 15 3 (13, false),
   Qg 16 (.idxS (.t 14) (.t 15)) (13, false),
   Qg 17 (.bin .gtr (.t 16) (.c (.int .u8 126))) (13, false),
   Qo 18 (.pick (.t 13) (.c (.bool true)) (.t 17))])
  (.cond (.t 18)
   (.seq (.region [Qb 2])
   .ret)
   .skip))))
 (.region [Qo 19 (.bin .add (.t 6) (.c (i6 1))),
  Qm 6 19]))))
def z1y : LCode := (.seq (.region [Qm 20 0,
 Qo 21 (.bin .neq (.t 20) (.c (.str []))),
 Qm 2 21])
 .ret)
def zad : LCode := (.seq (.region [Qb 2])
 (.seq (.seq (.region [Qm 4 0,
  Qo 5 (.len true (.t 4)),
  Qi 6 0])
 (.block 0
  (.loop
   z5u)))
 z1y))
def uw : Lay := ⟨22, [], false⟩
def z3h : List LRes := [.t 2]
def zdu : LFn := ⟨1, uw, zad, z3h⟩
theorem zct : wb Tryd.prog [] 23 = some zdu := by kernel_rfl
theorem zdc : k6 Tryd.prog 23 := ⟨_, Tryd.func23, rfl, rfl⟩
def z8v (a0 : List UInt8) (o : Bool) : Exit → Env → AHeap → Nat → Prop := Ys z3h (j0 (.bool o))
def Jk (a0 : List UInt8) (s : Int) : Env := [(0, .str a0), (5, i6 (a0.length : Int)), (6, i6 s)]
def Vn (a0 : List UInt8) (s : Int) : AHeap := []
def z1i (a0 : List UInt8) (o : Bool) : Exit → Env → AHeap → Nat → Prop := (qq 0 (Yi Tryd.prog uw 0 z1y (z8v a0 o)))
noncomputable def xg (m : Option Nat) (a0 : List UInt8) : Option Bool :=
 some (!(a0 == ([] : List UInt8)))
noncomputable def yq (m : Option Nat) (a0 : List UInt8) (v1 : Int) : Option (Int ⊕ Bool) :=
 if (decide (v1 < (a0.length : Int))) = true then
  if (0 : Int) ≤ v1 ∧ v1 < (a0.length : Int) then
  if (((decide ((((a0.getD v1.toNat 0).toNat : Nat) : Int) ≤ 32)) == false) = true → (0 : Int) ≤ v1 ∧ v1 < (a0.length : Int)) then
  if ((decide ((((a0.getD v1.toNat 0).toNat : Nat) : Int) ≤ 32)) || (decide ((((a0.getD v1.toNat 0).toNat : Nat) : Int) > 126))) = true then
   Option.map Sum.inr (
    some false)
  else
   some (.inl (W (v1 + 1)))
  else none
  else none
 else
  Option.map Sum.inr (
   xg m a0)
noncomputable def qm (m : Option Nat) (a0 : List UInt8) (v1 : Int) : Option Bool := vi m (fun (s : Int) => yq m a0 s) v1
theorem z7h {a0 : List UInt8} {m : Option Nat} {o : Bool} (h : xg m a0 = some o) :
 LWp Tryd.prog uw 0 z1y (z8v a0 o) [(0, .str a0)] [] 0 := by
 unfold xg at h
 refine ze (zw ?_)
 refine w7 ?_
 cases h
 exact AI TT (AI rfl (VS rfl))
theorem z2v {a0 : List UInt8} {v1 : Int} {m : Option Nat} {o : Int ⊕ Bool} (h : yq m a0 v1 = some o) :
 LWp Tryd.prog uw 0 z5u (vj 0 0 (Jk a0) (Vn a0) (z1i a0) o) [(0, .str a0), (5, i6 (a0.length : Int)), (6, i6 v1)] [] 0 := by
 unfold yq at h
 refine ze (zw ?_)
 refine ze ?_
 refine qz (v := (decide (v1 < (a0.length : Int)))) rfl TT (fun h9 => ?_) (fun h9 => ?_)
 ·have h := y3 h9 h
  refine xe ?_
  refine ze ?_
  refine xk ?_
  refine ze (zw ?_)
  refine ze (zw ?_)
  obtain ⟨h10, h⟩ := zh h
  refine AI h10 ?_
  obtain ⟨h11, h⟩ := zh h
  refine AI (fun hp => (AI (AI hp hp) (h11 hp))) ?_
  refine AI (fun hp => hp) ?_
  refine AI (fun hc => (bqf hc)) ?_
  refine LWp.sim (e := [(0, .str a0), (5, i6 (a0.length : Int)), (6, i6 v1), (18, .bool ((decide ((((a0.getD v1.toNat 0).toNat : Nat) : Int) ≤ 32)) || (decide ((((a0.getD v1.toNat 0).toNat : Nat) : Int) > 126))))]) (L := []) (n := 0) ?_ ?_
  ·exact x3 (M := []) rfl (S4 rfl rfl rfl rfl TT) TT
  refine qz (v := ((decide ((((a0.getD v1.toNat 0).toNat : Nat) : Int) ≤ 32)) || (decide ((((a0.getD v1.toNat 0).toNat : Nat) : Int) > 126)))) rfl TT (fun h12 => ?_) (fun h12 => ?_)
  ·have h := y3 h12 h
   refine ze (zw ?_)
   refine w7 ?_
   obtain ⟨o, hq, rfl⟩ := Option.map_eq_some_iff.1 h
   replace h := hq; clear hq
   refine AI nofun ?_
   cases h
   exact AI TT (AI rfl (VS rfl))
  ·have h := yg h12 h
   refine xe ?_
   refine zw ?_
   cases h
   exact AI rfl (x3 (M := []) rfl (S2 rfl rfl (AI (VS rfl) TT)) TT)
 ·have h := yg h9 h
  refine Yn ?_
  obtain ⟨o, hq, rfl⟩ := Option.map_eq_some_iff.1 h
  replace h := hq; clear hq
  refine AI nofun ?_
  refine LWp.sim ?_ (z7h h)
  exact x3 (M := []) rfl (AI (VS rfl) TT) TT
theorem z3u {a0 : List UInt8} {v1 : Int} {m : Option Nat} {o : Bool} (h : qm m a0 v1 = some o) :
 LWp Tryd.prog uw 0 (.loop z5u) (qq 0 (Yi Tryd.prog uw 0 z1y (z8v a0 o))) [(0, .str a0), (5, i6 (a0.length : Int)), (6, i6 v1)] [] 0 :=
 xi (m := m) (s := (v1 : Int)) (r := o) (fun (s : Int) => yq m a0 s) (Jk a0) (Vn a0) (z1i a0) (fun s o h => z2v h) h
noncomputable def xb (m : Option Nat) (a0 : List UInt8) : Option Bool :=
 qm m a0 0
theorem z6o {a0 : List UInt8} {m : Option Nat} {o : Bool} (h : xb m a0 = some o) : LWp Tryd.prog uw 0 zad (z8v a0 o) (qk 0 [.str a0]) [] 0 := by
 unfold xb at h
 refine ze (zw ?_)
 refine ze ?_
 refine ze (zw ?_)
 refine xk ?_
 refine LWp.sim ?_ (z3u h)
 exact x3 (M := []) rfl (S2 rfl rfl (AI (VS rfl) TT)) TT
theorem zdx {a0 : List UInt8} {m : Option Nat} {o : Bool} (h : xb m a0 = some o) : PFn Tryd.prog 23 [.str a0] (.bool o) := PFn.ofFnW (L := zdu) zct zdc (NB rfl) rfl (z6o h)
def z3n : LCode := (.seq (.region [Qo 8 (.bin .lss (.t 7) (.t 6))])
 (.seq (.cond (.t 8)
  .skip
  (.exit 0))
 (.seq (.block 1
  (.seq (.region [Qm 9 7,
   Qm 3 9])
  (.seq (.region [Qm 10 0,
   Qm 11 3,
   Qo 12 (.idxS (.t 10) (.t 11)),
   Qm 4 12])
  (.seq (.region [Qm 13 4,
   Qo 14 (.bin .neq (.t 13) (.c (.int .u8 9))),
   Qm 15 14,
   Qn 16 4 (15, true),
   Qg 17 (.bin .lss (.t 16) (.c (.int .u8 32))) (15, true),
   Qn 18 17 (15, true),
   Qn 19 4 (18, false),
   Qg 20 (.bin .gtr (.t 19) (.c (.int .u8 126))) (18, false),
   Qg 21 (.pick (.t 18) (.c (.bool true)) (.t 20)) (15, true),
   Qp 22 15 21])
  (.cond (.t 22)
   (.seq (.region [Qb 2])
   .ret)
   .skip)))))
 (.region [Qo 23 (.bin .add (.t 7) (.c (i6 1))),
  Qm 7 23]))))
def z1a : LCode := (.seq (.region [Qo 2 (.mv (.c (.bool true)))])
 .ret)
def zaf : LCode := (.seq (.region [Qb 2])
 (.seq (.seq (.region [Qm 5 0,
  Qo 6 (.len true (.t 5)),
  Qi 7 0])
 (.block 0
  (.loop
   z3n)))
 z1a))
def Z0 : Lay := ⟨24, [], false⟩
def z6b : List LRes := [.t 2]
def zdw : LFn := ⟨1, Z0, zaf, z6b⟩
theorem zde : wb Tryd.prog [] 24 = some zdw := by kernel_rfl
theorem zcf : k6 Tryd.prog 24 := ⟨_, Tryd.func24, rfl, rfl⟩
def z91 (a0 : List UInt8) (o : Bool) : Exit → Env → AHeap → Nat → Prop := Ys z6b (j0 (.bool o))
def Jq (a0 : List UInt8) (s : Int) : Env := [(0, .str a0), (6, i6 (a0.length : Int)), (7, i6 s)]
def K9 (a0 : List UInt8) (s : Int) : AHeap := []
def z0p (a0 : List UInt8) (o : Bool) : Exit → Env → AHeap → Nat → Prop := (qq 0 (Yi Tryd.prog Z0 0 z1a (z91 a0 o)))
noncomputable def x7 (m : Option Nat) : Option Bool :=
 some true
noncomputable def yf (m : Option Nat) (a0 : List UInt8) (v1 : Int) : Option (Int ⊕ Bool) :=
 if (decide (v1 < (a0.length : Int))) = true then
  if (0 : Int) ≤ v1 ∧ v1 < (a0.length : Int) then
  if (((((a0.getD v1.toNat 0).toNat : Nat) : Int) != 9) && ((decide ((((a0.getD v1.toNat 0).toNat : Nat) : Int) < 32)) || (decide ((((a0.getD v1.toNat 0).toNat : Nat) : Int) > 126)))) = true then
   Option.map Sum.inr (
    some false)
  else
   some (.inl (W (v1 + 1)))
  else none
 else
  Option.map Sum.inr (
   x7 m)
noncomputable def qj (m : Option Nat) (a0 : List UInt8) (v1 : Int) : Option Bool := vi m (fun (s : Int) => yf m a0 s) v1
theorem z66 {a0 : List UInt8} {m : Option Nat} {o : Bool} (h : x7 m = some o) :
 LWp Tryd.prog Z0 0 z1a (z91 a0 o) [] [] 0 := by
 unfold x7 at h
 refine ze (zw ?_)
 refine w7 ?_
 cases h
 exact AI TT (AI rfl (VS rfl))
theorem z26 {a0 : List UInt8} {v1 : Int} {m : Option Nat} {o : Int ⊕ Bool} (h : yf m a0 v1 = some o) :
 LWp Tryd.prog Z0 0 z3n (vj 0 0 (Jq a0) (K9 a0) (z0p a0) o) [(0, .str a0), (6, i6 (a0.length : Int)), (7, i6 v1)] [] 0 := by
 unfold yf at h
 refine ze (zw ?_)
 refine ze ?_
 refine qz (v := (decide (v1 < (a0.length : Int)))) rfl TT (fun h7 => ?_) (fun h7 => ?_)
 ·have h := y3 h7 h
  refine xe ?_
  refine ze ?_
  refine xk ?_
  refine ze (zw ?_)
  refine ze (zw ?_)
  obtain ⟨h8, h⟩ := zh h
  refine AI h8 ?_
  refine ze (zw ?_)
  refine AI (fun hp => hp) ?_
  refine AI (fun hp => hp) ?_
  refine AI (fun hp => hp) ?_
  refine AI (fun hp => (AI hp (fun hc => (Kw hp (bqf hc))))) ?_
  refine AI (fun hc => (bqt hc)) ?_
  refine LWp.sim (e := [(0, .str a0), (6, i6 (a0.length : Int)), (7, i6 v1), (22, .bool (((((a0.getD v1.toNat 0).toNat : Nat) : Int) != 9) && ((decide ((((a0.getD v1.toNat 0).toNat : Nat) : Int) < 32)) || (decide ((((a0.getD v1.toNat 0).toNat : Nat) : Int) > 126)))))]) (L := []) (n := 0) ?_ ?_
  ·exact x3 (M := []) rfl (S4 rfl rfl rfl rfl TT) TT
  refine qz (v := (((((a0.getD v1.toNat 0).toNat : Nat) : Int) != 9) && ((decide ((((a0.getD v1.toNat 0).toNat : Nat) : Int) < 32)) || (decide ((((a0.getD v1.toNat 0).toNat : Nat) : Int) > 126))))) rfl TT (fun h9 => ?_) (fun h9 => ?_)
  ·have h := y3 h9 h
   refine ze (zw ?_)
   refine w7 ?_
   obtain ⟨o, hq, rfl⟩ := Option.map_eq_some_iff.1 h
   replace h := hq; clear hq
   refine AI nofun ?_
   cases h
   exact AI TT (AI rfl (VS rfl))
  ·have h := yg h9 h
   refine xe ?_
   refine zw ?_
   cases h
   exact AI rfl (x3 (M := []) rfl (S2 rfl rfl (AI (VS rfl) TT)) TT)
 ·have h := yg h7 h
  refine Yn ?_
  obtain ⟨o, hq, rfl⟩ := Option.map_eq_some_iff.1 h
  replace h := hq; clear hq
  refine AI nofun ?_
  refine LWp.sim ?_ (z66 h)
  exact x3 (M := []) rfl TT TT
theorem z5h {a0 : List UInt8} {v1 : Int} {m : Option Nat} {o : Bool} (h : qj m a0 v1 = some o) :
 LWp Tryd.prog Z0 0 (.loop z3n) (qq 0 (Yi Tryd.prog Z0 0 z1a (z91 a0 o))) [(0, .str a0), (6, i6 (a0.length : Int)), (7, i6 v1)] [] 0 :=
 xi (m := m) (s := (v1 : Int)) (r := o) (fun (s : Int) => yf m a0 s) (Jq a0) (K9 a0) (z0p a0) (fun s o h => z26 h) h
noncomputable def x4 (m : Option Nat) (a0 : List UInt8) : Option Bool :=
 qj m a0 0
theorem z3g {a0 : List UInt8} {m : Option Nat} {o : Bool} (h : x4 m a0 = some o) : LWp Tryd.prog Z0 0 zaf (z91 a0 o) (qk 0 [.str a0]) [] 0 := by
 unfold x4 at h
 refine ze (zw ?_)
 refine ze ?_
 refine ze (zw ?_)
 refine xk ?_
 refine LWp.sim ?_ (z5h h)
 exact x3 (M := []) rfl (S2 rfl rfl (AI (VS rfl) TT)) TT
theorem zep {a0 : List UInt8} {m : Option Nat} {o : Bool} (h : x4 m a0 = some o) : PFn Tryd.prog 24 [.str a0] (.bool o) := PFn.ofFnW (L := zdw) zde zcf (NB rfl) rfl (z3g h)
def xu (m : Option Nat) (a0 : List UInt8) (a1 : List UInt8) : Option Bool := if a0.length < 4294967281 ∧ a0.all (fun b => decide (b.toNat < 128)) = true ∧ a1.all (fun b => decide (b.toNat < 128)) = true then some (Go.Lib.equalFold a0 a1) else none
theorem zbl : k6 Tryd.prog 25 := ⟨_, Tryd.func25, rfl, rfl⟩
theorem zeb {m : Option Nat} {a0 : List UInt8} {a1 : List UInt8} {o : Bool} (h : xu m a0 a1 = some o) : PFn Tryd.prog 25 [.str a0, .str a1] (.bool o) := by
 unfold xu at h
 split at h
 ·rename_i hc
  cases h
  exact z4e Tryd.l25 rfl zbl hc.1 hc.2.1 hc.2.2
 ·cases h
def xx (m : Option Nat) (a0 : List UInt8) (a1 : List UInt8) : Option (List UInt8) := if a0.length ≤ 9223372036854775807 ∧ a1.length < 4294967281 ∧ a1.all (fun b => decide (b.toNat < 128)) = true then some (Go.Lib.trimS a0 a1) else none
theorem zdb : k6 Tryd.prog 27 := ⟨_, Tryd.func27, rfl, rfl⟩
theorem zb3 {m : Option Nat} {a0 : List UInt8} {a1 : List UInt8} {o : List UInt8} (h : xx m a0 a1 = some o) : PFn Tryd.prog 27 [.str a0, .str a1] (.str o) := by
 unfold xx at h
 split at h
 ·rename_i hc
  cases h
  exact z3j rfl Tryd.l27 (by kernel_rfl) rfl zdb hc.1 hc.2.1 hc.2.2
 ·cases h
def jw (m : Option Nat) (a0 : List UInt8) : Option Int := if a0.length ≤ 18 then Go.Lib.atoi a0 else none
theorem zd1 : k6 Tryd.prog 39 := ⟨_, Tryd.func39, rfl, rfl⟩
theorem zey {m : Option Nat} {a0 : List UInt8} {o : Int} (h : jw m a0 = some o) : PFn Tryd.prog 39 [.str a0] (.tup [i6 o, .val .nilIface]) := by
 unfold jw at h
 split at h
 ·rename_i hc
  exact za4 rfl Tryd.l39 rfl zd1 hc h
 ·cases h
def z1g : LCode := (.seq (.region [Qb 4])
 (.seq (.seq (.region [Qm 5 0,
  Qo 6 (.nilck (.t 5)),
  Qf 7 0 6,
  Ql 8 1 7,
  Qo 9 (.bin .geq (.t 8) (.c (i6 0))),
  Qm 10 9,
  Qn 11 1 (10, false),
  Qg 12 (.bin .eql (.t 11) (.c (.str []))) (10, false),
  Qo 13 (.pick (.t 10) (.c (.bool true)) (.t 12)),
  Qm 14 13,
  Qn 15 1 (14, false),
  Qg 16 (.len true (.t 15)) (14, false),
  Qg 17 (.bin .gtr (.t 16) (.c (i6 6))) (14, false),
  Qo 18 (.pick (.t 14) (.c (.bool true)) (.t 17)),
  Qm 19 18,
  Qn 20 1 (19, false),
  Qg 21 (.call 27 [(.t 20), (.c (.str [48, 49, 50, 51, 52, 53, 54, 55, 56, 57]))]) (19, false),
  Qg 22 (.bin .neq (.t 21) (.c (.str []))) (19, false),
  Qo 23 (.pick (.t 19) (.c (.bool true)) (.t 22))])
 (.cond (.t 23)
  (.seq (.region [Qb 4])
  .ret)
  .skip))
 (.seq (.region [Qm 25 0,
  Qm 26 1,
  Qc 27 39 26,
  Qm 24 27,
  Qo 28 (.ext 0 (.t 24)),
  Qo 29 (.ext 1 (.t 24)),
  Qo 30 (.nilck (.t 25)),
  Qf 31 0 30,
  ⟨none, .store 1 (.t 31) (.t 28), none⟩])
 (.seq (.region [Qm 32 0,
  Qo 33 (.nilck (.t 32)),
  Qf 34 0 33,
  Ql 35 1 34,
  Qo 36 (.bin .leq (.t 35) (.c (i6 4000))),
  Qm 4 36])
 .ret))))
def Kf : Lay := ⟨37, [], false⟩
def Vy : List LRes := [.t 4]
def z4t : LFn := ⟨2, Kf, z1g, Vy⟩
theorem z3f : wb Tryd.prog [] 26 = some z4t := by kernel_rfl
theorem z3m : k6 Tryd.prog 26 := ⟨_, Tryd.func26, rfl, rfl⟩
noncomputable def ye (m : Option Nat) (a0 : List UInt8) (a1 : Int) : Option (Bool × Int) :=
 (if ((((decide (a1 ≥ 0)) || (a0 == ([] : List UInt8))) || (decide ((a0.length : Int) > 6))) == false) = true then xx m a0 ([48, 49, 50, 51, 52, 53, 54, 55, 56, 57] : List UInt8) else some default).bind fun v1 =>
 if ((((decide (a1 ≥ 0)) || (a0 == ([] : List UInt8))) || (decide ((a0.length : Int) > 6))) || (!(v1 == ([] : List UInt8)))) = true then
  some (false, a1)
 else
  (jw m a0).bind fun v2 =>
  some ((decide (v2 ≤ 4000)), v2)
def zcc (a0 : List UInt8) (a1 : Int) (o : Bool × Int) : Exit → Env → AHeap → Nat → Prop := Ys Vy (K7 3 3 (.bool o.1) [((0, 0), .one [i6 o.2])])
theorem Uw {a0 : List UInt8} {a1 : Int} {m : Option Nat} {o : Bool × Int} (h : ye m a0 a1 = some o) : LWp Tryd.prog Kf 3 z1g (zcc a0 a1 o) (qk 0 [.ptr (0, 0) 0 0, .str a0]) [((0, 0), .one [i6 a1])] 3 := by
 unfold ye at h
 refine ze (zw ?_)
 refine ze ?_
 refine ze (zw ?_)
 refine AI (fun hp => hp) ?_
 refine AI (fun hc => (bqf hc)) ?_
 refine AI (fun hp => hp) ?_
 refine AI (fun hp => hp) ?_
 refine AI (fun hc => (bqf hc)) ?_
 obtain ⟨v1, h1, h⟩ := bind_some h
 refine Or.inl (EX (.str v1) (AI (fun hp => AI hp (PFn.call (zb3 (y3 hp h1)) (S2 rfl rfl TT) (AI rfl (AI rfl rfl)))) ?_))
 refine AI (fun hp => hp) ?_
 refine AI (fun hc => (bqf hc)) ?_
 refine LWp.sim (e := [(0, .ptr (0, 0) 0 0), (1, .str a0), (23, .bool ((((decide (a1 ≥ 0)) || (a0 == ([] : List UInt8))) || (decide ((a0.length : Int) > 6))) || (!(v1 == ([] : List UInt8)))))]) (L := [((0, 0), .one [i6 a1])]) (n := 3) ?_ ?_
 ·exact x3 (M := []) rfl (SP rfl (S2 rfl rfl TT)) (AI (AI rfl (OL rfl)) TT)
 refine qz (v := ((((decide (a1 ≥ 0)) || (a0 == ([] : List UInt8))) || (decide ((a0.length : Int) > 6))) || (!(v1 == ([] : List UInt8))))) rfl TT (fun h2 => ?_) (fun h2 => ?_)
 ·have h := y3 h2 h
  refine ze (zw ?_)
  refine w7 ?_
  cases h
  exact AI TT (z9e (n' := 3) [] [] rfl rfl (VS rfl) (AI (AI rfl (OL rfl)) TT))
 ·have h := yg h2 h
  refine xe ?_
  refine ze (zw ?_)
  obtain ⟨v2, h3, h⟩ := bind_some h
  refine PFn.call (zey h3) (AI (VS rfl) TT) ?_
  refine LWp.sim (e := [(0, .ptr (0, 0) 0 0)]) (L := [((0, 0), .one [i6 v2])]) (n := 3) ?_ ?_
  ·exact x3 (M := []) rfl (SP rfl TT) (AI (AI rfl (OL rfl)) TT)
  refine ze (zw ?_)
  refine w7 ?_
  cases h
  exact AI TT (z9e (n' := 3) [] [] rfl rfl (VS rfl) (AI (AI rfl (OL rfl)) TT))
theorem z9s {a0 : List UInt8} {a1 : Int} {m : Option Nat} {o : Bool × Int} (h : ye m a0 a1 = some o) : ACalls Tryd.prog 26 [.ptr (0, 0) 0 0, .str a0] [((0, 0), .one [i6 a1])] 3 (Ym 3 (.bool o.1) [((0, 0), .one [i6 o.2])]) := Ks (L := z4t) z3f z3m (NB rfl) (Uw h)
def z0f : LCode := .ret
def z0i : LCode := (.seq (.region [Qb 4])
 (.seq (.region [Qm 9 1,
  Qo 10 (.call 22 [(.t 9), (.c (.str [58]))]),
  Qm 8 10,
  Qo 11 (.ext 0 (.t 8)),
  Qo 12 (.ext 1 (.t 8)),
  Qo 13 (.ext 2 (.t 8)),
  Qm 5 11,
  Qm 6 12,
  Qm 7 13])
 (.seq (.seq (.region [Qm 14 7,
  Qo 15 (.un .not (.t 14)),
  Qm 16 15,
  Qn 17 5 (16, false),
  Qg 18 (.call 23 [(.t 17)]) (16, false),
  Qg 19 (.un .not (.t 18)) (16, false),
  Qo 20 (.pick (.t 16) (.c (.bool true)) (.t 19)),
  Qm 21 20,
  Qn 22 6 (21, false),
  Qg 23 (.call 24 [(.t 22)]) (21, false),
  Qg 24 (.un .not (.t 23)) (21, false),
  Qo 25 (.pick (.t 21) (.c (.bool true)) (.t 24))])
 (.cond (.t 25)
  (.seq (.region [Qb 4])
  .ret)
  .skip))
 (.seq (.region [Qm 26 5,
  Qo 27 (.call 25 [(.t 26), (.c (.str [67, 111, 110, 116, 101, 110, 116, 45, 76, 101, 110, 103, 116, 104]))]),
  Qo 28 (.un .not (.t 27)),
  Qm 29 28,
  Qn 30 0 (29, false),
  Qn 31 6 (29, false),
  Qg 32 (.call 27 [(.t 31), (.c (.str [32, 9]))]) (29, false),
  Qg 33 (.call 26 [(.t 30), (.t 32)]) (29, false),
  Qo 34 (.pick (.t 29) (.c (.bool true)) (.t 33)),
  Qm 4 34])
 z0f))))
def X0 : Lay := ⟨35, [], false⟩
def Vz : List LRes := [.t 4]
def z42 : LFn := ⟨2, X0, z0i, Vz⟩
theorem z5w : wb Tryd.prog [] 18 = some z42 := by kernel_rfl
theorem z5g : k6 Tryd.prog 18 := ⟨_, Tryd.func18, rfl, rfl⟩
noncomputable def qb (m : Option Nat) (v8 : Int) (v9 : Bool) : Option (Bool × Int) :=
 some (v9, v8)
def z6n (a0 : List UInt8) (a1 : Int) (o : Bool × Int) : Exit → Env → AHeap → Nat → Prop := Ys Vz (K7 3 3 (.bool o.1) [((0, 0), .one [i6 o.2])])
theorem Qj {a0 : List UInt8} {a1 : Int} {v8 : Int} {v9 : Bool} {m : Option Nat} {o : (Bool × Int)} (h : qb m v8 v9 = some o) :
 LWp Tryd.prog X0 3 z0f (z6n a0 a1 o) [(4, .bool v9)] [((0, 0), .one [i6 v8])] 3 := by
 unfold qb at h
 refine w7 ?_
 cases h
 exact AI TT (z9e (n' := 3) [] [] rfl rfl (VS rfl) (AI (AI rfl (OL rfl)) TT))
noncomputable def qa (m : Option Nat) (a0 : List UInt8) (a1 : Int) : Option (Bool × Int) :=
 (wh m a0 ([58] : List UInt8)).bind fun v1 =>
 (if ((!v1.2.2) == false) = true then xb m v1.1 else some default).bind fun v2 =>
 (if (((!v1.2.2) || (!v2)) == false) = true then x4 m v1.2.1 else some default).bind fun v3 =>
 if (((!v1.2.2) || (!v2)) || (!v3)) = true then
  some (false, a1)
 else
  (xu m v1.1 ([67, 111, 110, 116, 101, 110, 116, 45, 76, 101, 110, 103, 116, 104] : List UInt8)).bind fun v4 =>
  (if ((!v4) == false) = true then xx m v1.2.1 ([32, 9] : List UInt8) else some default).bind fun v5 =>
  if ((!v4) == false) = true then
   (ye m v5 a1).bind fun v7 =>
   qb m v7.2 ((!v4) || v7.1)
  else
   qb m a1 ((!v4) || false)
theorem Ky {a0 : List UInt8} {a1 : Int} {m : Option Nat} {o : Bool × Int} (h : qa m a0 a1 = some o) : LWp Tryd.prog X0 3 z0i (z6n a0 a1 o) (qk 0 [.ptr (0, 0) 0 0, .str a0]) [((0, 0), .one [i6 a1])] 3 := by
 unfold qa at h
 refine ze (zw ?_)
 refine ze (zw ?_)
 obtain ⟨v1, h1, h⟩ := bind_some h
 refine PFn.call (zej h1) (S2 rfl rfl TT) ?_
 refine LWp.sim (e := [(0, .ptr (0, 0) 0 0), (5, .str v1.1), (6, .str v1.2.1), (7, .bool v1.2.2)]) (L := [((0, 0), .one [i6 a1])]) (n := 3) ?_ ?_
 ·exact x3 (M := []) rfl (SP rfl (S2 rfl rfl (AI (VS rfl) TT))) (AI (AI rfl (OL rfl)) TT)
 refine ze ?_
 refine ze (zw ?_)
 obtain ⟨v2, h2, h⟩ := bind_some h
 refine Or.inl (EX (.bool v2) (AI (fun hp => AI hp (PFn.call (zdx (y3 hp h2)) (AI (VS rfl) TT) (AI rfl (AI rfl rfl)))) ?_))
 refine AI (fun hp => hp) ?_
 refine AI (fun hc => (bqf hc)) ?_
 obtain ⟨v3, h3, h⟩ := bind_some h
 refine Or.inl (EX (.bool v3) (AI (fun hp => AI hp (PFn.call (zep (y3 hp h3)) (AI (VS rfl) TT) (AI rfl (AI rfl rfl)))) ?_))
 refine AI (fun hp => hp) ?_
 refine AI (fun hc => (bqf hc)) ?_
 refine LWp.sim (e := [(0, .ptr (0, 0) 0 0), (5, .str v1.1), (6, .str v1.2.1), (25, .bool (((!v1.2.2) || (!v2)) || (!v3)))]) (L := [((0, 0), .one [i6 a1])]) (n := 3) ?_ ?_
 ·exact x3 (M := []) rfl (SP rfl (S2 rfl rfl (AI (VS rfl) TT))) (AI (AI rfl (OL rfl)) TT)
 refine qz (v := (((!v1.2.2) || (!v2)) || (!v3))) rfl TT (fun h4 => ?_) (fun h4 => ?_)
 ·have h := y3 h4 h
  refine ze (zw ?_)
  refine w7 ?_
  cases h
  exact AI TT (z9e (n' := 3) [] [] rfl rfl (VS rfl) (AI (AI rfl (OL rfl)) TT))
 ·have h := yg h4 h
  refine xe ?_
  refine ze (zw ?_)
  obtain ⟨v4, h5, h⟩ := bind_some h
  refine PFn.call (zeb h5) (S2 rfl rfl TT) ?_
  obtain ⟨v5, h6, h⟩ := bind_some h
  refine Or.inl (EX (.str v5) (AI (fun hp => AI hp (PFn.call (zb3 (y3 hp h6)) (S2 rfl rfl TT) (AI rfl (AI rfl rfl)))) ?_))
  refine Or.inr (AI (fun h8 => ?_) (fun h9 => ?_))
  ·have h := y3 h8 h
   obtain ⟨v7, h10, h⟩ := bind_some h
   refine AI (AI h8 h8) ?_
   refine z5a (k := 3) (m := 0) (L' := [((0, 0), .one [i6 v7.2])]) (rest := []) (R' := .bool v7.1) [((0, 0), (0, 0))] (z9s h10) rfl rfl rfl (SP rfl (AI (VS rfl) TT)) (AI (h0I (0, 0) rfl rfl (OL rfl)) TT) (ut _ rfl) (AI rfl (AI rfl TT)) rfl ?_
   refine LWp.sim ?_ (Qj h)
   exact x3 (M := []) rfl (AI (VS rfl) TT) (AI (AI rfl (OL rfl)) TT)
  ·have h := yg h9 h
   refine EX (.cnd ((!v4) == false) (.bool false)) (AI (Or.inr (EX _ (congrArg (fun q => AVal.cnd q _) h9))) ?_)
   refine AI (fun hc => (bqf hc)) ?_
   refine LWp.sim ?_ (Qj h)
   exact x3 (M := []) rfl (AI (VS rfl) TT) (AI (AI rfl (OL rfl)) TT)
theorem za3 {a0 : List UInt8} {a1 : Int} {m : Option Nat} {o : Bool × Int} (h : qa m a0 a1 = some o) : ACalls Tryd.prog 18 [.ptr (0, 0) 0 0, .str a0] [((0, 0), .one [i6 a1])] 3 (Ym 3 (.bool o.1) [((0, 0), .one [i6 o.2])]) := Ks (L := z42) z5w z5g (NB rfl) (Ky h)
def zei : LCode := (.cond (.t 33)
 (.seq (.region [Qo 2 (.mv (.c (.str []))),
  Qi 3 0,
  Qi 4 4])
 .ret)
 (.seq (.region [Qm 52 8,
  Qo 53 (.bin .eql (.t 52) (.c (.str []))),
  Qm 54 53,
  Qn 55 0 (54, true),
  Qg 56 (.len true (.t 55)) (54, true),
  Qn 57 6 (54, true),
  Qg 58 (.bin .sub (.t 56) (.t 57)) (54, true),
  Qn 59 5 (54, true),
  Qg 60 (.nilck (.t 59)) (54, true),
  Qe 61 0 60 (54, true),
  Qk 62 1 61 (54, true),
  Qg 63 (.bin .lss (.t 58) (.t 62)) (54, true),
  Qp 64 54 63,
  Qm 51 64])
 (.cond (.t 51)
  (.seq (.region [Qo 2 (.mv (.c (.str []))),
   Qi 3 0,
   Qi 4 0])
  .ret)
  (.seq (.region [Qm 66 8,
   Qo 67 (.bin .eql (.t 66) (.c (.str []))),
   Qm 65 67])
  (.cond (.t 65)
   (.seq (.quiet [Qm 68 0,
    Qm 69 6,
    Qm 70 6,
    Qm 71 5,
    Qo 72 (.nilck (.t 71)),
    Qf 73 0 72,
    Ql 74 1 73,
    Qo 75 (.bin .add (.t 70) (.t 74)),
    Qo 76 (.slStr (.t 68) (some (.t 69)) (some (.t 75))),
    Qm 77 6,
    Qm 78 5,
    Qo 79 (.nilck (.t 78)),
    Qf 80 0 79,
    Ql 81 1 80,
    Qo 82 (.bin .add (.t 77) (.t 81)),
    Qm 2 76,
    Qm 3 82,
    Qi 4 0])
   .ret)
   .skip)))))
def zcx : LCode := (.block 1
 (.seq (.region [Qm 11 0,
  Qm 12 6,
  Qo 13 (.slStr (.t 11) (some (.t 12)) none),
  Qo 14 (.call 17 [(.t 13), (.c (.str [13, 10]))]),
  Qm 7 14])
 (.seq (.seq (.region [Qm 15 7,
  Qo 16 (.bin .lss (.t 15) (.c (i6 0)))])
 (.cond (.t 16)
  (.seq (.seq (.region [Qm 17 0,
   Qo 18 (.len true (.t 17)),
   Qo 19 (.bin .geq (.t 18) (.c (i6 500)))])
  (.cond (.t 19)
   (.seq (.region [Qo 2 (.mv (.c (.str []))),
    Qi 3 0,
    Qi 4 4])
   .ret)
   .skip))
  (.seq (.region [Qo 2 (.mv (.c (.str []))),
   Qi 3 0,
   Qi 4 0])
  .ret))
  .skip))
 (.seq (.region [Qm 20 0,
  Qm 21 6,
  Qm 22 6,
  Qm 23 7,
  Qo 24 (.bin .add (.t 22) (.t 23)),
  Qo 25 (.slStr (.t 20) (some (.t 21)) (some (.t 24))),
  Qm 8 25])
 (.seq (.region [Qm 26 6,
  Qm 27 7,
  Qo 28 (.bin .add (.t 27) (.c (i6 2))),
  Qo 29 (.bin .add (.t 26) (.t 28)),
  Qm 6 29])
 (.block 2
  (.seq (.region [Qm 31 6,
   Qo 32 (.bin .gtr (.t 31) (.c (i6 500))),
   Qm 30 32])
  (.cond (.t 30)
   (.seq (.region [Qo 2 (.mv (.c (.str []))),
    Qi 3 0,
    Qi 4 4])
   .ret)
   (.seq (.seq (.region [Qm 34 8,
    Qo 35 (.bin .eql (.t 34) (.c (.str []))),
    Qm 36 35,
    Qn 37 5 (36, true),
    Qg 38 (.nilck (.t 37)) (36, true),
    Qe 39 0 38 (36, true),
    Qk 40 1 39 (36, true),
    Qg 41 (.bin .lss (.t 40) (.c (i6 0))) (36, true),
    Qp 42 36 41,
    Qm 33 42])
   (.cond (.t 33)
    .skip
    (.region [Qm 43 8,
     Qo 44 (.bin .neq (.t 43) (.c (.str []))),
     Qm 45 44,
     Qn 46 5 (45, true),
     Qn 47 8 (45, true),
     Qg 48 (.call 18 [(.t 46), (.t 47)]) (45, true),
     Qg 49 (.un .not (.t 48)) (45, true),
     Qp 50 45 49,
     Qm 33 50])))
   zei)))))))))
def zdl : LCode := (.seq (.region [Qo 2 (.mv (.c (.str []))),
 Qi 3 0,
 Qi 4 0])
 (.seq (.region [Qo 9 (.build [(i6 0)] [(0, 1, (.c (i6 (-1))))]),
  Qo 10 (.box (.t 9)),
  Qm 5 10])
 (.seq (.region [Qi 6 0])
 (.block 0
  (.loop
   zcx)))))
def Vi : Lay := ⟨83, [], false⟩
def zaq : List LRes := [.t 2, .t 3, .t 4]
def zgy : LFn := ⟨1, Vi, zdl, zaq⟩
theorem ze4 : wb Tryd.prog [] 8 = some zgy := by kernel_rfl
theorem zfc : k6 Tryd.prog 8 := ⟨_, Tryd.func8, rfl, rfl⟩
def zgg (a0 : List UInt8) (o : (List UInt8) × Int × Int) : Exit → Env → AHeap → Nat → Prop := Ys zaq (j0 (.tup [.str o.1, i6 o.2.1, i6 o.2.2]))
def Q5 (a0 : List UInt8) (s : (Int × Int)) : Env := [(0, .str a0), (5, .ptr (0, 0) 0 0), (6, i6 s.1)]
def W8 (a0 : List UInt8) (s : (Int × Int)) : AHeap := [((0, 0), .one [i6 s.2])]
def Uq (a0 : List UInt8) (o : ((List UInt8) × Int × Int)) : Exit → Env → AHeap → Nat → Prop := (qq 0 (zgg a0 o))
noncomputable def q5 (m : Option Nat) (a0 : List UInt8) (v6 : Int) (v13 : Int) (v16 : Bool) (v17 : Int) : Option ((Int × Int) ⊕ ((List UInt8) × Int × Int)) :=
 if v16 = true then
  Option.map Sum.inr (
   some (([] : List UInt8), 0, 4))
 else
  if ((((a0.take (W (v6 + v13)).toNat).drop v6.toNat) == ([] : List UInt8)) && (decide ((W ((a0.length : Int) - (W (v6 + (W (v13 + 2)))))) < v17))) = true then
   Option.map Sum.inr (
    some (([] : List UInt8), 0, 0))
  else
   if (((a0.take (W (v6 + v13)).toNat).drop v6.toNat) == ([] : List UInt8)) = true then
    if (0 : Int) ≤ (W (v6 + (W (v13 + 2)))) ∧ (W (v6 + (W (v13 + 2)))) ≤ (W ((W (v6 + (W (v13 + 2)))) + v17)) ∧ (W ((W (v6 + (W (v13 + 2)))) + v17)) ≤ (a0.length : Int) then
    Option.map Sum.inr (
     some (((a0.take (W ((W (v6 + (W (v13 + 2)))) + v17)).toNat).drop (W (v6 + (W (v13 + 2)))).toNat), (W ((W (v6 + (W (v13 + 2)))) + v17)), 0))
    else none
   else
    some (.inl ((W (v6 + (W (v13 + 2)))), v17))
theorem Wp {a0 : List UInt8} {v6 : Int} {v13 : Int} {v16 : Bool} {v17 : Int} {m : Option Nat} {o : ((Int × Int) ⊕ ((List UInt8) × Int × Int))} (h : q5 m a0 v6 v13 v16 v17 = some o) :
 LWp Tryd.prog Vi 0 zei (qq 2 (qq 1 (vj 0 1 (Q5 a0) (W8 a0) (Uq a0) o))) [(0, .str a0), (5, .ptr (0, 0) 0 0), (6, i6 (W (v6 + (W (v13 + 2))))), (8, .str ((a0.take (W (v6 + v13)).toNat).drop v6.toNat)), (33, .bool v16)] [((0, 0), .one [i6 v17])] 1 := by
 unfold q5 at h
 refine qz (v := v16) rfl TT (fun h41 => ?_) (fun h41 => ?_)
 ·have h := y3 h41 h
  refine ze (zw ?_)
  refine w7 ?_
  obtain ⟨o, hq, rfl⟩ := Option.map_eq_some_iff.1 h
  replace h := hq; clear hq
  refine AI nofun ?_
  cases h
  exact AI TT (AI TT (AI TT (AI rfl (VS rfl))))
 ·have h := yg h41 h
  refine ze (zw ?_)
  refine AI (fun hp => hp) ?_
  refine AI (fun hp => (AI hp hp)) ?_
  refine AI (fun hp => hp) ?_
  refine AI (fun hp => hp) ?_
  refine AI (fun hp => hp) ?_
  refine AI (fun hp => (AI hp hp)) ?_
  refine AI (fun hc => (bqt hc)) ?_
  refine LWp.sim (e := [(0, .str a0), (5, .ptr (0, 0) 0 0), (6, i6 (W (v6 + (W (v13 + 2))))), (8, .str ((a0.take (W (v6 + v13)).toNat).drop v6.toNat)), (51, .bool ((((a0.take (W (v6 + v13)).toNat).drop v6.toNat) == ([] : List UInt8)) && (decide ((W ((a0.length : Int) - (W (v6 + (W (v13 + 2)))))) < v17))))]) (L := [((0, 0), .one [i6 v17])]) (n := 1) ?_ ?_
  ·exact x3 (M := [((0, 0), (0, 0))]) rfl (AI (VS rfl) (SP rfl (S2 rfl rfl (AI (VS rfl) TT)))) (AI (AI rfl (OL rfl)) TT)
  refine qz (v := ((((a0.take (W (v6 + v13)).toNat).drop v6.toNat) == ([] : List UInt8)) && (decide ((W ((a0.length : Int) - (W (v6 + (W (v13 + 2)))))) < v17)))) rfl TT (fun h42 => ?_) (fun h42 => ?_)
  ·have h := y3 h42 h
   refine ze (zw ?_)
   refine w7 ?_
   obtain ⟨o, hq, rfl⟩ := Option.map_eq_some_iff.1 h
   replace h := hq; clear hq
   refine AI nofun ?_
   cases h
   exact AI TT (AI TT (AI TT (AI rfl (VS rfl))))
  ·have h := yg h42 h
   refine ze (zw ?_)
   refine qz (v := (((a0.take (W (v6 + v13)).toNat).drop v6.toNat) == ([] : List UInt8))) rfl TT (fun h43 => ?_) (fun h43 => ?_)
   ·have h := y3 h43 h
    refine ze ?_
    refine zfm ?_
    obtain ⟨h44, h⟩ := zh h
    refine AI h44 ?_
    refine LWp.sim (e := [(2, .str ((a0.take (W ((W (v6 + (W (v13 + 2)))) + v17)).toNat).drop (W (v6 + (W (v13 + 2)))).toNat)), (3, i6 (W ((W (v6 + (W (v13 + 2)))) + v17))), (4, i6 0)]) (L := []) (n := 0) ?_ ?_
    ·exact x3 (M := []) rfl (S2 rfl rfl (AI (VS rfl) TT)) TT
    refine w7 ?_
    obtain ⟨o, hq, rfl⟩ := Option.map_eq_some_iff.1 h
    replace h := hq; clear hq
    refine AI nofun ?_
    cases h
    exact AI TT (AI TT (AI TT (AI rfl (VS rfl))))
   ·have h := yg h43 h
    refine xe ?_
    cases h
    exact AI rfl (x3 (M := [((0, 0), (0, 0))]) rfl (AI (VS rfl) (SP rfl (AI (VS rfl) TT))) (AI (AI rfl (OL rfl)) TT))
noncomputable def x8 (m : Option Nat) (a0 : List UInt8) (v6 : Int) (v7 : Int) : Option ((Int × Int) ⊕ ((List UInt8) × Int × Int)) :=
 if (0 : Int) ≤ v6 ∧ v6 ≤ (a0.length : Int) then
 (jk m ((a0.take a0.length).drop v6.toNat) ([13, 10] : List UInt8)).bind fun v13 =>
 if (decide (v13 < 0)) = true then
  if (decide ((a0.length : Int) ≥ 500)) = true then
   Option.map Sum.inr (
    some (([] : List UInt8), 0, 4))
  else
   Option.map Sum.inr (
    some (([] : List UInt8), 0, 0))
 else
  if (0 : Int) ≤ v6 ∧ v6 ≤ (W (v6 + v13)) ∧ (W (v6 + v13)) ≤ (a0.length : Int) then
  if (decide ((W (v6 + (W (v13 + 2)))) > 500)) = true then
   Option.map Sum.inr (
    some (([] : List UInt8), 0, 4))
  else
   if ((((a0.take (W (v6 + v13)).toNat).drop v6.toNat) == ([] : List UInt8)) && (decide (v7 < 0))) = true then
    q5 m a0 v6 v13 ((((a0.take (W (v6 + v13)).toNat).drop v6.toNat) == ([] : List UInt8)) && (decide (v7 < 0))) v7
   else
    if ((!(((a0.take (W (v6 + v13)).toNat).drop v6.toNat) == ([] : List UInt8))) == true) = true then
     (qa m ((a0.take (W (v6 + v13)).toNat).drop v6.toNat) v7).bind fun v15 =>
     q5 m a0 v6 v13 ((!(((a0.take (W (v6 + v13)).toNat).drop v6.toNat) == ([] : List UInt8))) && (!v15.1)) v15.2
    else
     q5 m a0 v6 v13 ((!(((a0.take (W (v6 + v13)).toNat).drop v6.toNat) == ([] : List UInt8))) && (!false)) v7
  else none
 else none
noncomputable def xq (m : Option Nat) (a0 : List UInt8) (v6 : Int) (v7 : Int) : Option ((List UInt8) × Int × Int) := vi m (fun (s : (Int × Int)) => x8 m a0 s.1 s.2) (v6, v7)
theorem z7f {a0 : List UInt8} {v6 : Int} {v7 : Int} {m : Option Nat} {o : (Int × Int) ⊕ ((List UInt8) × Int × Int)} (h : x8 m a0 v6 v7 = some o) :
 LWp Tryd.prog Vi 0 zcx (vj 0 1 (Q5 a0) (W8 a0) (Uq a0) o) [(0, .str a0), (5, .ptr (0, 0) 0 0), (6, i6 v6)] [((0, 0), .one [i6 v7])] 1 := by
 unfold x8 at h
 refine xk ?_
 refine ze (zw ?_)
 obtain ⟨h30, h⟩ := zh h
 refine AI (AI (And.left h30) (AI (And.right h30) (Int.le_refl _))) ?_
 obtain ⟨v13, h31, h⟩ := bind_some h
 refine PFn.call (ze3 h31) (S2 rfl rfl TT) ?_
 refine ze ?_
 refine ze (zw ?_)
 refine qz (v := (decide (v13 < 0))) rfl TT (fun h32 => ?_) (fun h32 => ?_)
 ·have h := y3 h32 h
  refine ze ?_
  refine ze (zw ?_)
  refine LWp.sim (e := [(19, .bool (decide ((a0.length : Int) ≥ 500)))]) (L := []) (n := 0) ?_ ?_
  ·exact x3 (M := []) rfl (AI (VS rfl) TT) TT
  refine qz (v := (decide ((a0.length : Int) ≥ 500))) rfl TT (fun h33 => ?_) (fun h33 => ?_)
  ·have h := y3 h33 h
   refine ze (zw ?_)
   refine w7 ?_
   obtain ⟨o, hq, rfl⟩ := Option.map_eq_some_iff.1 h
   replace h := hq; clear hq
   refine AI nofun ?_
   cases h
   exact AI TT (AI TT (AI TT (AI rfl (VS rfl))))
  ·have h := yg h33 h
   refine xe ?_
   refine ze (zw ?_)
   refine w7 ?_
   obtain ⟨o, hq, rfl⟩ := Option.map_eq_some_iff.1 h
   replace h := hq; clear hq
   refine AI nofun ?_
   cases h
   exact AI TT (AI TT (AI TT (AI rfl (VS rfl))))
 ·have h := yg h32 h
  refine xe ?_
  refine ze (zw ?_)
  obtain ⟨h34, h⟩ := zh h
  refine AI h34 ?_
  refine LWp.sim (e := [(0, .str a0), (5, .ptr (0, 0) 0 0), (6, i6 v6), (7, i6 v13), (8, .str ((a0.take (W (v6 + v13)).toNat).drop v6.toNat))]) (L := [((0, 0), .one [i6 v7])]) (n := 1) ?_ ?_
  ·exact x3 (M := [((0, 0), (0, 0))]) rfl (AI (VS rfl) (SP rfl (S2 rfl rfl (AI (VS rfl) TT)))) (AI (AI rfl (OL rfl)) TT)
  refine ze (zw ?_)
  refine xk ?_
  refine ze (zw ?_)
  refine LWp.sim (e := [(0, .str a0), (5, .ptr (0, 0) 0 0), (6, i6 (W (v6 + (W (v13 + 2))))), (8, .str ((a0.take (W (v6 + v13)).toNat).drop v6.toNat)), (30, .bool (decide ((W (v6 + (W (v13 + 2)))) > 500)))]) (L := [((0, 0), .one [i6 v7])]) (n := 1) ?_ ?_
  ·exact x3 (M := [((0, 0), (0, 0))]) rfl (AI (VS rfl) (SP rfl (S2 rfl rfl (AI (VS rfl) TT)))) (AI (AI rfl (OL rfl)) TT)
  refine qz (v := (decide ((W (v6 + (W (v13 + 2)))) > 500))) rfl TT (fun h35 => ?_) (fun h35 => ?_)
  ·have h := y3 h35 h
   refine ze (zw ?_)
   refine w7 ?_
   obtain ⟨o, hq, rfl⟩ := Option.map_eq_some_iff.1 h
   replace h := hq; clear hq
   refine AI nofun ?_
   cases h
   exact AI TT (AI TT (AI TT (AI rfl (VS rfl))))
  ·have h := yg h35 h
   refine ze ?_
   refine ze (zw ?_)
   refine AI (fun hp => hp) ?_
   refine AI (fun hp => hp) ?_
   refine AI (fun hp => hp) ?_
   refine AI (fun hp => hp) ?_
   refine AI (fun hc => (bqt hc)) ?_
   refine LWp.sim (e := [(0, .str a0), (5, .ptr (0, 0) 0 0), (6, i6 (W (v6 + (W (v13 + 2))))), (8, .str ((a0.take (W (v6 + v13)).toNat).drop v6.toNat)), (33, .bool ((((a0.take (W (v6 + v13)).toNat).drop v6.toNat) == ([] : List UInt8)) && (decide (v7 < 0))))]) (L := [((0, 0), .one [i6 v7])]) (n := 1) ?_ ?_
   ·exact x3 (M := [((0, 0), (0, 0))]) rfl (AI (VS rfl) (SP rfl (S2 rfl rfl (AI (VS rfl) TT)))) (AI (AI rfl (OL rfl)) TT)
   refine qz (v := ((((a0.take (W (v6 + v13)).toNat).drop v6.toNat) == ([] : List UInt8)) && (decide (v7 < 0)))) rfl TT (fun h36 => ?_) (fun h36 => ?_)
   ·have h := y3 h36 h
    refine xe ?_
    refine LWp.sim ?_ (Wp h)
    exact x3 (M := [((0, 0), (0, 0))]) rfl (AI (VS rfl) (SP rfl (S2 rfl rfl (AI (VS rfl) TT)))) (AI (AI rfl (OL rfl)) TT)
   ·have h := yg h36 h
    refine zw ?_
    refine Or.inr (AI (fun h38 => ?_) (fun h39 => ?_))
    ·have h := y3 h38 h
     obtain ⟨v15, h40, h⟩ := bind_some h
     refine AI (AI h38 h38) ?_
     refine z5a (k := 3) (m := 0) (L' := [((0, 0), .one [i6 v15.2])]) (rest := []) (R' := .bool v15.1) [((0, 0), (0, 0))] (za3 h40) rfl rfl rfl (SP rfl (AI (VS rfl) TT)) (AI (h0I (0, 0) rfl rfl (OL rfl)) TT) (ut _ rfl) (AI rfl (AI rfl TT)) rfl ?_
     refine AI (fun hc => h38) ?_
     refine LWp.sim ?_ (Wp h)
     exact x3 (M := [((0, 0), (0, 0))]) rfl (AI (VS rfl) (SP rfl (S2 rfl rfl (AI (VS rfl) TT)))) (AI (AI rfl (OL rfl)) TT)
    ·have h := yg h39 h
     refine EX (.cnd ((!(((a0.take (W (v6 + v13)).toNat).drop v6.toNat) == ([] : List UInt8))) == true) (.bool false)) (AI (Or.inr (EX _ (congrArg (fun q => AVal.cnd q _) h39))) ?_)
     refine AI (fun hp => hp) ?_
     refine AI (fun hc => (bqt hc)) ?_
     refine LWp.sim ?_ (Wp h)
     exact x3 (M := [((0, 0), (0, 0))]) rfl (AI (VS rfl) (SP rfl (S2 rfl rfl (AI (VS rfl) TT)))) (AI (AI rfl (OL rfl)) TT)
theorem z87 {a0 : List UInt8} {v6 : Int} {v7 : Int} {m : Option Nat} {o : ((List UInt8) × Int × Int)} (h : xq m a0 v6 v7 = some o) :
 LWp Tryd.prog Vi 0 (.loop zcx) (qq 0 (zgg a0 o)) [(0, .str a0), (5, .ptr (0, 0) 0 0), (6, i6 v6)] [((0, 0), .one [i6 v7])] 1 :=
 xi (m := m) (s := ((v6, v7) : (Int × Int))) (r := o) (fun (s : (Int × Int)) => x8 m a0 s.1 s.2) (Q5 a0) (W8 a0) (Uq a0) (fun s o h => z7f h) h
noncomputable def xm (m : Option Nat) (a0 : List UInt8) : Option ((List UInt8) × Int × Int) :=
 xq m a0 0 (-1)
theorem z8g {a0 : List UInt8} {m : Option Nat} {o : (List UInt8) × Int × Int} (h : xm m a0 = some o) : LWp Tryd.prog Vi 0 zdl (zgg a0 o) (qk 0 [.str a0]) [] 0 := by
 unfold xm at h
 refine ze (zw ?_)
 refine ze (zw ?_)
 refine ze (zw ?_)
 refine xk ?_
 refine LWp.sim ?_ (z87 h)
 exact x3 (M := [((0, 0), (0, 0))]) rfl (AI (VS rfl) (SP rfl (AI (VS rfl) TT))) (AI (AI rfl (OL rfl)) TT)
theorem zfk {a0 : List UInt8} {m : Option Nat} {o : (List UInt8) × Int × Int} (h : xm m a0 = some o) : PFn Tryd.prog 8 [.str a0] (.tup [.str o.1, i6 o.2.1, i6 o.2.2]) := PFn.ofFnW (L := zgy) ze4 zfc (NB rfl) rfl (z8g h)
def zes : LCode := (.seq (.region [Qb 0])
 (.seq (.region [Qo 7 (.call 6 [(.c (.str [104, 105]))]),
  Qm 6 7,
  Qo 8 (.ext 0 (.t 6)),
  Qo 9 (.ext 1 (.t 6)),
  Qm 1 8,
  Qm 2 9])
 (.seq (.region [Qm 11 1,
  Qo 12 (.bin .add (.t 11) (.c (.str [33]))),
  Qc 13 8 12,
  Qm 10 13,
  Qo 14 (.ext 0 (.t 10)),
  Qo 15 (.ext 1 (.t 10)),
  Qo 16 (.ext 2 (.t 10)),
  Qm 3 14,
  Qm 4 15,
  Qm 5 16])
 (.seq (.region [Qm 17 2,
  Qo 18 (.bin .eql (.t 17) (.c (i6 0))),
  Qm 19 18,
  Qn 20 1 (19, true),
  Qg 21 (.bin .eql (.t 20) (.c (.str [67, 111, 110, 116, 101, 110, 116, 45, 76, 101, 110, 103, 116, 104, 58, 32, 50, 13, 10, 13, 10, 104, 105]))) (19, true),
  Qp 22 19 21,
  Qm 23 22,
  Qn 24 5 (23, true),
  Qg 25 (.bin .eql (.t 24) (.c (i6 0))) (23, true),
  Qp 26 23 25,
  Qm 27 26,
  Qn 28 3 (27, true),
  Qg 29 (.bin .eql (.t 28) (.c (.str [104, 105]))) (27, true),
  Qp 30 27 29,
  Qm 31 30,
  Qn 32 4 (31, true),
  Qn 33 1 (31, true),
  Qg 34 (.len true (.t 33)) (31, true),
  Qg 35 (.bin .eql (.t 32) (.t 34)) (31, true),
  Qp 36 31 35,
  Qm 0 36])
 .ret))))
def zaw : Lay := ⟨37, [], false⟩
def zak : List LRes := [.t 0]
def zh5 : LFn := ⟨0, zaw, zes, zak⟩
theorem zee : wb Tryd.prog [] 5 = some zh5 := by kernel_rfl
theorem zet : k6 Tryd.prog 5 := ⟨_, Tryd.func5, rfl, rfl⟩
noncomputable def y4 (m : Option Nat) : Option Bool :=
 (j7 m ([104, 105] : List UInt8)).bind fun v1 =>
 if (((v1.1.length + ([33] : List UInt8).length : Nat) : Int) ≤ 9223372036854775807) then
 (xm m (v1.1 ++ ([33] : List UInt8))).bind fun v2 =>
 some (((((v1.2 == 0) && (v1.1 == ([67, 111, 110, 116, 101, 110, 116, 45, 76, 101, 110, 103, 116, 104, 58, 32, 50, 13, 10, 13, 10, 104, 105] : List UInt8))) && (v2.2.2 == 0)) && (v2.1 == ([104, 105] : List UInt8))) && (v2.2.1 == (v1.1.length : Int)))
 else none
def zhf (o : Bool) : Exit → Env → AHeap → Nat → Prop := Ys zak (j0 (.bool o))
theorem z8d {m : Option Nat} {o : Bool} (h : y4 m = some o) : LWp Tryd.prog zaw 0 zes (zhf o) (qk 0 []) [] 0 := by
 unfold y4 at h
 refine ze (zw ?_)
 refine ze (zw ?_)
 obtain ⟨v1, h1, h⟩ := bind_some h
 refine PFn.call (zg4 h1) (AI (VS rfl) TT) ?_
 refine ze (zw ?_)
 obtain ⟨h2, h⟩ := zh h
 refine AI h2 ?_
 obtain ⟨v2, h3, h⟩ := bind_some h
 refine PFn.call (zfk h3) (AI (VS rfl) TT) ?_
 refine LWp.sim (e := [(1, .str v1.1), (2, i6 v1.2), (3, .str v2.1), (4, i6 v2.2.1), (5, i6 v2.2.2)]) (L := []) (n := 0) ?_ ?_
 ·exact x3 (M := []) rfl (S4 rfl rfl rfl rfl (AI (VS rfl) TT)) TT
 refine ze (zw ?_)
 refine AI (fun hp => hp) ?_
 refine AI (fun hc => (bqt hc)) ?_
 refine AI (fun hp => hp) ?_
 refine AI (fun hc => (bqt hc)) ?_
 refine AI (fun hp => hp) ?_
 refine AI (fun hc => (bqt hc)) ?_
 refine AI (fun hp => hp) ?_
 refine AI (fun hp => (AI hp hp)) ?_
 refine AI (fun hc => (bqt hc)) ?_
 refine LWp.sim (e := [(0, .bool (((((v1.2 == 0) && (v1.1 == ([67, 111, 110, 116, 101, 110, 116, 45, 76, 101, 110, 103, 116, 104, 58, 32, 50, 13, 10, 13, 10, 104, 105] : List UInt8))) && (v2.2.2 == 0)) && (v2.1 == ([104, 105] : List UInt8))) && (v2.2.1 == (v1.1.length : Int))))]) (L := []) (n := 0) ?_ ?_
 ·exact x3 (M := []) rfl (AI (VS rfl) TT) TT
 refine w7 ?_
 cases h
 exact AI TT (AI rfl (VS rfl))
theorem ze1 {m : Option Nat} {o : Bool} (h : y4 m = some o) : PFn Tryd.prog 5 [] (.bool o) := PFn.ofFnW (L := zh5) zee zet (NB rfl) rfl (z8d h)
def z1h : LCode := (.seq (.region [Qo 0 (.mv (.c (.val (.pointer none))))])
 (.seq (.region [Qo 1 (.build [(.str []), (.bool false)] []),
  Qo 2 (.box (.t 1)),
  Qm 0 2])
 .ret))
def Vb : Lay := ⟨3, [], false⟩
def Vk : List LRes := [.t 0]
def z4u : LFn := ⟨0, Vb, z1h, Vk⟩
theorem z6t : wb Tryd.prog [] 13 = some z4u := by kernel_rfl
theorem z3r : k6 Tryd.prog 13 := ⟨_, Tryd.func13, rfl, rfl⟩
noncomputable def x5 (m : Option Nat) : Option Unit :=
 some ()
def zc0 (o : Unit) : Exit → Env → AHeap → Nat → Prop := Ys Vk (K7 3 4 (.ptr (3, 0) 0 0) [((3, 0), .one [.str [], .bool false])])
theorem Uu {m : Option Nat} {o : Unit} (h : x5 m = some o) : LWp Tryd.prog Vb 3 z1h (zc0 o) (qk 0 []) [] 3 := by
 unfold x5 at h
 refine ze (zw ?_)
 refine ze (zw ?_)
 refine w7 ?_
 cases h
 exact AI TT (z9e (n' := 4) [((3, 0), (3, 0))] [] rfl rfl (Vw.ptr _ _ _ _ rfl) (AI (AI rfl (OL rfl)) TT))
theorem z8q {m : Option Nat} {o : Unit} (h : x5 m = some o) : ACalls Tryd.prog 13 [] [] 3 (Ym 4 (.ptr (3, 0) 0 0) [((3, 0), .one [.str [], .bool false])]) := Ks (L := z4u) z6t z3r (NB rfl) (Uu h)
def z61 : LCode := (.block 1
 (.seq (.region [Qm 11 0,
  Qm 12 6,
  Qo 13 (.slStr (.t 11) (some (.t 12)) none),
  Qc 14 8 13,
  Qm 10 14,
  Qo 15 (.ext 0 (.t 10)),
  Qo 16 (.ext 1 (.t 10)),
  Qo 17 (.ext 2 (.t 10)),
  Qm 7 15,
  Qm 8 16,
  Qm 9 17])
 (.seq (.seq (.region [Qm 18 9,
  Qo 19 (.bin .neq (.t 18) (.c (i6 0)))])
 (.cond (.t 19)
  (.seq (.region [Qm 20 9,
   Qo 2 (.mv (.c (.val (.slice none 0 0)))),
   Qi 3 0,
   Qm 4 20])
  .ret)
  .skip))
 (.seq (.seq (.region [Qm 21 8,
  Qo 22 (.bin .eql (.t 21) (.c (i6 0)))])
 (.cond (.t 22)
  (.seq (.region [Qm 23 5,
   Qm 24 6,
   Qm 2 23,
   Qm 3 24,
   Qi 4 0])
  .ret)
  .skip))
 (.seq (.region [Qm 25 5,
  Qm 26 7,
  Qo 27 (.mkSl true 1 [(.str [])] 1 [(0, (.t 26))]),
  Qo 28 (.app true 1 16 (.t 25) (.t 27)),
  Qm 5 28])
 (.region [Qm 29 6,
  Qm 30 8,
  Qo 31 (.bin .add (.t 29) (.t 30)),
  Qm 6 31]))))))
def zax : LCode := (.seq (.region [Qo 2 (.mv (.c (.val (.slice none 0 0)))),
 Qi 3 0,
 Qi 4 0])
 (.seq (.region [Qo 5 (.mv (.c (.val (.slice none 0 0))))])
 (.seq (.region [Qi 6 0])
 (.block 0
  (.loop
   z61)))))
def Jv : Lay := ⟨32, [], false⟩
def z7r : List LRes := [.t 2, .t 3, .t 4]
def zfh : LFn := ⟨1, Jv, zax, z7r⟩
theorem zd0 : wb Tryd.prog [] 10 = some zfh := by kernel_rfl
theorem zcl : k6 Tryd.prog 10 := ⟨_, Tryd.func10, rfl, rfl⟩
def zc7 (a0 : List UInt8) (o : (List (List UInt8)) × Int × Int) : Exit → Env → AHeap → Nat → Prop := Ys z7r (j0 (.tup [.isl 1 (o.1.map z7) false, i6 o.2.1, i6 o.2.2]))
def Xz (a0 : List UInt8) (s : ((List (List UInt8)) × Int)) : Env := [(0, .str a0), (5, .osl (0, 0) 1 (s.1.map z7)), (6, i6 s.2)]
def Vd (a0 : List UInt8) (s : ((List (List UInt8)) × Int)) : AHeap := [((0, 0), .tok)]
def z0s (a0 : List UInt8) (o : ((List (List UInt8)) × Int × Int)) : Exit → Env → AHeap → Nat → Prop := (qq 0 (zc7 a0 o))
noncomputable def q9 (m : Option Nat) (a0 : List UInt8) (v2 : List (List UInt8)) (v3 : Int) : Option (((List (List UInt8)) × Int) ⊕ ((List (List UInt8)) × Int × Int)) :=
 if (0 : Int) ≤ v3 ∧ v3 ≤ (a0.length : Int) then
 (xm m ((a0.take a0.length).drop v3.toNat)).bind fun v5 =>
 if (v5.2.2 != 0) = true then
  Option.map Sum.inr (
   some ([], 0, v5.2.2))
 else
  if (v5.2.1 == 0) = true then
   Option.map Sum.inr (
    some (v2, v3, 0))
  else
   if ((v2 ++ ([v5.1] : List (List UInt8))).map z7).length * 16 ≤ 140737488355328 then
   some (.inl ((v2 ++ ([v5.1] : List (List UInt8))), (W (v3 + v5.2.1))))
   else none
 else none
noncomputable def xj (m : Option Nat) (a0 : List UInt8) (v2 : List (List UInt8)) (v3 : Int) : Option ((List (List UInt8)) × Int × Int) := vi m (fun (s : ((List (List UInt8)) × Int)) => q9 m a0 s.1 s.2) (v2, v3)
theorem z2q {a0 : List UInt8} {v2 : List (List UInt8)} {v3 : Int} {m : Option Nat} {o : ((List (List UInt8)) × Int) ⊕ ((List (List UInt8)) × Int × Int)} (h : q9 m a0 v2 v3 = some o) :
 LWp Tryd.prog Jv 0 z61 (vj 0 1 (Xz a0) (Vd a0) (z0s a0) o) [(0, .str a0), (5, .osl (0, 0) 1 (v2.map z7)), (6, i6 v3)] [((0, 0), .tok)] 1 := by
 unfold q9 at h
 refine xk ?_
 refine ze (zw ?_)
 obtain ⟨h10, h⟩ := zh h
 refine AI (AI (And.left h10) (AI (And.right h10) (Int.le_refl _))) ?_
 obtain ⟨v5, h11, h⟩ := bind_some h
 refine PFn.call (zfk h11) (AI (VS rfl) TT) ?_
 refine LWp.sim (e := [(0, .str a0), (5, .osl (0, 0) 1 (v2.map z7)), (6, i6 v3), (7, .str v5.1), (8, i6 v5.2.1), (9, i6 v5.2.2)]) (L := [((0, 0), .tok)]) (n := 1) ?_ ?_
 ·exact x3 (M := [((0, 0), (0, 0))]) rfl (AI (VS rfl) (AI (Vw.osl _ _ _ _ rfl) (S4 rfl rfl rfl rfl TT))) (AI (AI rfl BVw.tok) TT)
 refine ze ?_
 refine ze (zw ?_)
 refine qz (v := (v5.2.2 != 0)) rfl TT (fun h12 => ?_) (fun h12 => ?_)
 ·have h := y3 h12 h
  refine ze (zw ?_)
  refine w7 ?_
  obtain ⟨o, hq, rfl⟩ := Option.map_eq_some_iff.1 h
  replace h := hq; clear hq
  refine AI nofun ?_
  cases h
  exact AI TT (AI TT (AI TT (AI rfl (Vw.tupL (AI (Vw.nilI _ _) (S2 rfl rfl TT))))))
 ·have h := yg h12 h
  refine xe ?_
  refine ze ?_
  refine ze (zw ?_)
  refine qz (v := (v5.2.1 == 0)) rfl TT (fun h13 => ?_) (fun h13 => ?_)
  ·have h := y3 h13 h
   refine ze (zw ?_)
   refine LWp.sim (e := [(2, .osl (0, 0) 1 (v2.map z7)), (3, i6 v3), (4, i6 0)]) (L := [((0, 0), .tok)]) (n := 1) ?_ ?_
   ·exact x3 (M := [((0, 0), (0, 0))]) rfl (AI (Vw.osl _ _ _ _ rfl) (S2 rfl rfl TT)) (AI (AI rfl BVw.tok) TT)
   refine w7 ?_
   obtain ⟨o, hq, rfl⟩ := Option.map_eq_some_iff.1 h
   replace h := hq; clear hq
   refine AI nofun ?_
   cases h
   exact AI TT (AI TT (AI TT (AI rfl (Vw.tupL (AI (Vw.oslI _ _ _) (S2 rfl rfl TT))))))
  ·have h := yg h13 h
   refine xe ?_
   refine ze (zw ?_)
   obtain ⟨h14, h⟩ := zh h
   refine EX ((v2 ++ ([v5.1] : List (List UInt8))).map z7) (AI (z5b z7 v2 ([v5.1] : List (List UInt8))) (AI h14 ?_))
   refine LWp.sim (e := [(0, .str a0), (5, .osl (0, 0) 1 ((v2 ++ ([v5.1] : List (List UInt8))).map z7)), (6, i6 v3), (8, i6 v5.2.1)]) (L := [((0, 0), .tok)]) (n := 1) ?_ ?_
   ·exact x3 (M := [((0, 0), (1, 0))]) rfl (AI (VS rfl) (AI (Vw.osl _ _ _ _ rfl) (S2 rfl rfl TT))) (AI (AI rfl BVw.tok) TT)
   refine zw ?_
   cases h
   exact AI rfl (x3 (M := [((0, 0), (0, 0))]) rfl (AI (VS rfl) (AI (Vw.osl _ _ _ _ rfl) (AI (VS rfl) TT))) (AI (AI rfl BVw.tok) TT))
theorem z41 {a0 : List UInt8} {v2 : List (List UInt8)} {v3 : Int} {m : Option Nat} {o : ((List (List UInt8)) × Int × Int)} (h : xj m a0 v2 v3 = some o) :
 LWp Tryd.prog Jv 0 (.loop z61) (qq 0 (zc7 a0 o)) [(0, .str a0), (5, .osl (0, 0) 1 (v2.map z7)), (6, i6 v3)] [((0, 0), .tok)] 1 :=
 xi (m := m) (s := ((v2, v3) : ((List (List UInt8)) × Int))) (r := o) (fun (s : ((List (List UInt8)) × Int)) => q9 m a0 s.1 s.2) (Xz a0) (Vd a0) (z0s a0) (fun s o h => z2q h) h
noncomputable def xc (m : Option Nat) (a0 : List UInt8) : Option ((List (List UInt8)) × Int × Int) :=
 xj m a0 [] 0
theorem z3q {a0 : List UInt8} {m : Option Nat} {o : (List (List UInt8)) × Int × Int} (h : xc m a0 = some o) : LWp Tryd.prog Jv 0 zax (zc7 a0 o) (qk 0 [.str a0]) [] 0 := by
 unfold xc at h
 refine ze (zw ?_)
 refine ze (zw ?_)
 refine ze (zw ?_)
 refine xk ?_
 refine LWp.sim ?_ (z41 h)
 exact x3 (M := []) rfl (AI (VS rfl) (AI (Vw.nilO _ _ (by decide)) (AI (VS rfl) TT))) (AI (AI rfl (AI (by decide) (by decide))) TT)
theorem zfu {a0 : List UInt8} {m : Option Nat} {o : (List (List UInt8)) × Int × Int} (h : xc m a0 = some o) : PFn Tryd.prog 10 [.str a0] (.tup [.isl 1 (o.1.map z7) false, i6 o.2.1, i6 o.2.2]) := PFn.ofFnW (L := zfh) zd0 zcl (NB rfl) rfl (z3q h)
def z0m : LCode := (.seq (.region [Qo 4 (.mv (.c (.val (.slice none 0 0)))),
 Qi 5 0])
 (.seq (.seq (.region [Qm 9 0,
  Qo 10 (.nilck (.t 9)),
  Qf 11 1 10,
  Ql 12 1 11])
 (.cond (.t 12)
  (.seq (.region [Qo 4 (.mv (.c (.val (.slice none 0 0)))),
   Qi 5 4])
  .ret)
  .skip))
 (.seq (.region [Qm 14 0,
  Qo 15 (.nilck (.t 14)),
  Qf 16 0 15,
  Ql 17 1 16,
  Qm 18 1,
  Qo 19 (.bin .add (.t 17) (.t 18)),
  Qc 20 10 19,
  Qm 13 20,
  Qo 21 (.ext 0 (.t 13)),
  Qo 22 (.ext 1 (.t 13)),
  Qo 23 (.ext 2 (.t 13)),
  Qm 6 21,
  Qm 7 22,
  Qm 8 23])
 (.seq (.seq (.region [Qm 24 8,
  Qo 25 (.bin .neq (.t 24) (.c (i6 0)))])
 (.cond (.t 25)
  (.seq (.region [Qm 26 0,
   Qm 27 0,
   Qo 28 (.nilck (.t 26)),
   Qf 29 1 28,
   ⟨none, .store 1 (.t 29) (.c (.bool true)), none⟩,
   Qo 30 (.nilck (.t 27)),
   Qf 31 0 30,
   ⟨none, .store 1 (.t 31) (.c (.str [])), none⟩])
  (.seq (.region [Qm 32 8,
   Qo 4 (.mv (.c (.val (.slice none 0 0)))),
   Qm 5 32])
  .ret))
  .skip))
 (.seq (.region [Qm 33 0,
  Qm 34 0,
  Qo 35 (.nilck (.t 34)),
  Qf 36 0 35,
  Ql 37 1 36,
  Qm 38 1,
  Qo 39 (.bin .add (.t 37) (.t 38)),
  Qm 40 7,
  Qo 41 (.slStr (.t 39) (some (.t 40)) none),
  Qo 42 (.nilck (.t 33)),
  Qf 43 0 42,
  ⟨none, .store 1 (.t 43) (.t 41), none⟩])
 (.seq (.region [Qm 44 6,
  Qm 4 44,
  Qi 5 0])
 .ret))))))
def Vr : Lay := ⟨45, [], false⟩
def Vh : List LRes := [.t 4, .t 5]
def z3p : LFn := ⟨2, Vr, z0m, Vh⟩
theorem z7q : wb Tryd.prog [] 14 = some z3p := by kernel_rfl
theorem z4m : k6 Tryd.prog 14 := ⟨_, Tryd.func14, rfl, rfl⟩
noncomputable def qi (m : Option Nat) (a0 : List UInt8) (a1 : List UInt8) (a2 : Bool) : Option ((List (List UInt8)) × Int × (List UInt8) × Bool) :=
 if a2 = true then
  some ([], 4, a1, a2)
 else
  if (((a1.length + a0.length : Nat) : Int) ≤ 9223372036854775807) then
  (xc m (a1 ++ a0)).bind fun v1 =>
  if (v1.2.2 != 0) = true then
   some ([], v1.2.2, ([] : List UInt8), true)
  else
   if (((a1.length + a0.length : Nat) : Int) ≤ 9223372036854775807) then
   if (0 : Int) ≤ v1.2.1 ∧ v1.2.1 ≤ ((a1 ++ a0).length : Int) then
   some (v1.1, 0, (((a1 ++ a0).take (a1 ++ a0).length).drop v1.2.1.toNat), a2)
   else none
   else none
  else none
def zc8 (a0 : List UInt8) (a1 : List UInt8) (a2 : Bool) (o : (List (List UInt8)) × Int × (List UInt8) × Bool) : Exit → Env → AHeap → Nat → Prop := Ys Vh (K7 3 3 (.tup [.isl 1 (o.1.map z7) false, i6 o.2.1]) [((0, 0), .one [.str o.2.2.1, .bool o.2.2.2])])
theorem U8 {a0 : List UInt8} {a1 : List UInt8} {a2 : Bool} {m : Option Nat} {o : (List (List UInt8)) × Int × (List UInt8) × Bool} (h : qi m a0 a1 a2 = some o) : LWp Tryd.prog Vr 3 z0m (zc8 a0 a1 a2 o) (qk 0 [.ptr (0, 0) 0 0, .str a0]) [((0, 0), .one [.str a1, .bool a2])] 3 := by
 unfold qi at h
 refine ze (zw ?_)
 refine ze ?_
 refine ze (zw ?_)
 refine qz (v := a2) rfl TT (fun h1 => ?_) (fun h1 => ?_)
 ·have h := y3 h1 h
  refine ze (zw ?_)
  refine LWp.sim (e := [(4, .val (.slice none 0 0)), (5, i6 4)]) (L := [((0, 0), .one [.str a1, .bool a2])]) (n := 3) ?_ ?_
  ·exact x3 (M := []) rfl (S2 rfl rfl TT) (AI (AI rfl (OL rfl)) TT)
  refine w7 ?_
  cases h
  exact AI TT (AI TT (z9e (n' := 3) [] [] rfl rfl (Vw.tupL (AI (Vw.nilI _ _) (AI (VS rfl) TT))) (AI (AI rfl (OL rfl)) TT)))
 ·have h := yg h1 h
  refine xe ?_
  refine ze (zw ?_)
  obtain ⟨h2, h⟩ := zh h
  refine AI h2 ?_
  obtain ⟨v1, h3, h⟩ := bind_some h
  refine PFn.call (zfu h3) (AI (VS rfl) TT) ?_
  refine LWp.sim (e := [(0, .ptr (0, 0) 0 0), (1, .str a0), (6, .isl 1 (v1.1.map z7) false), (7, i6 v1.2.1), (8, i6 v1.2.2)]) (L := [((0, 0), .one [.str a1, .bool a2])]) (n := 3) ?_ ?_
  ·exact x3 (M := []) rfl (SP rfl (S4 rfl rfl rfl rfl TT)) (AI (AI rfl (OL rfl)) TT)
  refine ze ?_
  refine ze (zw ?_)
  refine qz (v := (v1.2.2 != 0)) rfl TT (fun h4 => ?_) (fun h4 => ?_)
  ·have h := y3 h4 h
   refine ze (zw ?_)
   refine LWp.sim (e := [(8, i6 v1.2.2)]) (L := [((0, 0), .one [.str [], .bool true])]) (n := 3) ?_ ?_
   ·exact x3 (M := []) rfl (AI (VS rfl) TT) (AI (AI rfl (OL rfl)) TT)
   refine ze (zw ?_)
   refine w7 ?_
   cases h
   exact AI TT (AI TT (z9e (n' := 3) [] [] rfl rfl (Vw.tupL (AI (Vw.nilI _ _) (AI (VS rfl) TT))) (AI (AI rfl (OL rfl)) TT)))
  ·have h := yg h4 h
   refine xe ?_
   refine ze (zw ?_)
   obtain ⟨h5, h⟩ := zh h
   refine AI h5 ?_
   obtain ⟨h6, h⟩ := zh h
   refine AI (AI (And.left h6) (AI (And.right h6) (Int.le_refl _))) ?_
   refine LWp.sim (e := [(6, .isl 1 (v1.1.map z7) false)]) (L := [((0, 0), .one [.str (((a1 ++ a0).take (a1 ++ a0).length).drop v1.2.1.toNat), .bool a2])]) (n := 3) ?_ ?_
   ·exact x3 (M := []) rfl (AI (VS rfl) TT) (AI (AI rfl (OL rfl)) TT)
   refine ze (zw ?_)
   refine w7 ?_
   cases h
   exact AI TT (AI TT (z9e (n' := 3) [] [] rfl rfl (VS rfl) (AI (AI rfl (OL rfl)) TT)))
theorem za0 {a0 : List UInt8} {a1 : List UInt8} {a2 : Bool} {m : Option Nat} {o : (List (List UInt8)) × Int × (List UInt8) × Bool} (h : qi m a0 a1 a2 = some o) : ACalls Tryd.prog 14 [.ptr (0, 0) 0 0, .str a0] [((0, 0), .one [.str a1, .bool a2])] 3 (Ym 3 (.tup [.isl 1 (o.1.map z7) false, i6 o.2.1]) [((0, 0), .one [.str o.2.2.1, .bool o.2.2.2])]) := Ks (L := z3p) z7q z4m (NB rfl) (U8 h)
def z3v : LCode := (.seq (.region [Qo 10 (.bin .lss (.t 9) (.t 8))])
 (.seq (.cond (.t 10)
  .skip
  (.exit 0))
 (.seq (.block 1
  (.seq (.region [Qm 11 9,
   Qo 12 (.iaddr 1 (.t 7) (.t 9)),
   Ql 13 1 12,
   Qm 5 11,
   Qm 6 13])
  (.seq (.region [Qm 14 1,
   Qm 15 6,
   Qo 16 (.bin .eql (.t 14) (.t 15))])
  (.cond (.t 16)
   (.seq (.region [Qm 17 5,
    Qm 4 17])
   .ret)
   .skip))))
 (.region [Qo 18 (.bin .add (.t 9) (.c (i6 1))),
  Qm 9 18]))))
def z1x : LCode := (.seq (.region [Qo 4 (.mv (.c (i6 (-1))))])
 .ret)
def zaj : LCode := (.seq (.region [Qi 4 0])
 (.seq (.seq (.region [Qm 7 0,
  Qo 8 (.len false (.t 7)),
  Qi 9 0])
 (.block 0
  (.loop
   z3v)))
 z1x))
def Z3 : Lay := ⟨19, [], false⟩
def z5x : List LRes := [.t 4]
def zdt : LFn := ⟨2, Z3, zaj, z5x⟩
theorem zd8 : wb Tryd.prog [] 28 = some zdt := by kernel_rfl
theorem zbv : k6 Tryd.prog 28 := ⟨_, Tryd.func28, rfl, rfl⟩
def z8j (a0 : List Int) (a1 : Int) (o : Int) : Exit → Env → AHeap → Nat → Prop := Ys z5x (j0 (i6 o))
def Ji (a0 : List Int) (a1 : Int) (s : Int) : Env := [(1, .int .u8 a1), (7, .isl 1 (a0.map Xw) false), (8, i6 ((a0.map Xw).length : Int)), (9, i6 s)]
def V9 (a0 : List Int) (a1 : Int) (s : Int) : AHeap := []
def z1m (a0 : List Int) (a1 : Int) (o : Int) : Exit → Env → AHeap → Nat → Prop := (qq 0 (Yi Tryd.prog Z3 0 z1x (z8j a0 a1 o)))
noncomputable def qc (m : Option Nat) : Option Int :=
 some (-1)
noncomputable def zq (m : Option Nat) (a0 : List Int) (a1 : Int) (v1 : Int) : Option (Int ⊕ Int) :=
 if (decide (v1 < ((a0.map Xw).length : Int))) = true then
  if (0 : Int) ≤ v1 ∧ v1 < ((a0.map Xw).length : Int) then
  if (a1 == (a0.getD v1.toNat default)) = true then
   Option.map Sum.inr (
    some v1)
  else
   some (.inl (W (v1 + 1)))
  else none
 else
  Option.map Sum.inr (
   qc m)
noncomputable def yi (m : Option Nat) (a0 : List Int) (a1 : Int) (v1 : Int) : Option Int := vi m (fun (s : Int) => zq m a0 a1 s) v1
theorem z45 {a0 : List Int} {a1 : Int} {m : Option Nat} {o : Int} (h : qc m = some o) :
 LWp Tryd.prog Z3 0 z1x (z8j a0 a1 o) [] [] 0 := by
 unfold qc at h
 refine ze (zw ?_)
 refine w7 ?_
 cases h
 exact AI TT (AI rfl (VS rfl))
theorem z2a {a0 : List Int} {a1 : Int} {v1 : Int} {m : Option Nat} {o : Int ⊕ Int} (h : zq m a0 a1 v1 = some o) :
 LWp Tryd.prog Z3 0 z3v (vj 0 0 (Ji a0 a1) (V9 a0 a1) (z1m a0 a1) o) [(1, .int .u8 a1), (7, .isl 1 (a0.map Xw) false), (8, i6 ((a0.map Xw).length : Int)), (9, i6 v1)] [] 0 := by
 unfold zq at h
 refine ze (zw ?_)
 refine ze ?_
 refine qz (v := (decide (v1 < ((a0.map Xw).length : Int)))) rfl TT (fun h7 => ?_) (fun h7 => ?_)
 ·have h := y3 h7 h
  refine xe ?_
  refine ze ?_
  refine xk ?_
  refine ze (zw ?_)
  obtain ⟨h8, h⟩ := zh h
  refine AI h8 ?_
  refine EX (Xw (a0.getD v1.toNat default)) (AI (Yv Xw _ _ (W5 Xw h8)) (AI (AI (z17 h8) (NB rfl)) ?_))
  refine ze (zw ?_)
  refine LWp.sim (e := [(1, .int .u8 a1), (5, i6 v1), (7, .isl 1 (a0.map Xw) false), (8, i6 ((a0.map Xw).length : Int)), (9, i6 v1), (16, .bool (a1 == (a0.getD v1.toNat default)))]) (L := []) (n := 0) ?_ ?_
  ·exact x3 (M := []) rfl (S4 rfl rfl rfl rfl (S2 rfl rfl TT)) TT
  refine qz (v := (a1 == (a0.getD v1.toNat default))) rfl TT (fun h9 => ?_) (fun h9 => ?_)
  ·have h := y3 h9 h
   refine ze (zw ?_)
   refine w7 ?_
   obtain ⟨o, hq, rfl⟩ := Option.map_eq_some_iff.1 h
   replace h := hq; clear hq
   refine AI nofun ?_
   cases h
   exact AI TT (AI rfl (VS rfl))
  ·have h := yg h9 h
   refine xe ?_
   refine zw ?_
   cases h
   exact AI rfl (x3 (M := []) rfl (S4 rfl rfl rfl rfl TT) TT)
 ·have h := yg h7 h
  refine Yn ?_
  obtain ⟨o, hq, rfl⟩ := Option.map_eq_some_iff.1 h
  replace h := hq; clear hq
  refine AI nofun ?_
  refine LWp.sim ?_ (z45 h)
  exact x3 (M := []) rfl TT TT
theorem z62 {a0 : List Int} {a1 : Int} {v1 : Int} {m : Option Nat} {o : Int} (h : yi m a0 a1 v1 = some o) :
 LWp Tryd.prog Z3 0 (.loop z3v) (qq 0 (Yi Tryd.prog Z3 0 z1x (z8j a0 a1 o))) [(1, .int .u8 a1), (7, .isl 1 (a0.map Xw) false), (8, i6 ((a0.map Xw).length : Int)), (9, i6 v1)] [] 0 :=
 xi (m := m) (s := (v1 : Int)) (r := o) (fun (s : Int) => zq m a0 a1 s) (Ji a0 a1) (V9 a0 a1) (z1m a0 a1) (fun s o h => z2a h) h
noncomputable def yb (m : Option Nat) (a0 : List Int) (a1 : Int) : Option Int :=
 yi m a0 a1 0
theorem z7d {a0 : List Int} {a1 : Int} {m : Option Nat} {o : Int} (h : yb m a0 a1 = some o) : LWp Tryd.prog Z3 0 zaj (z8j a0 a1 o) (qk 0 [.isl 1 (a0.map Xw) false, .int .u8 a1]) [] 0 := by
 unfold yb at h
 refine ze (zw ?_)
 refine ze ?_
 refine ze (zw ?_)
 refine xk ?_
 refine LWp.sim ?_ (z62 h)
 exact x3 (M := []) rfl (S4 rfl rfl rfl rfl TT) TT
theorem zef {a0 : List Int} {a1 : Int} {m : Option Nat} {o : Int} (h : yb m a0 a1 = some o) : PFn Tryd.prog 28 [.isl 1 (a0.map Xw) false, .int .u8 a1] (i6 o) := PFn.ofFnW (L := zdt) zd8 zbv (NB rfl) rfl (z7d h)
def zac : LCode := (.region [Qm 22 3,
 Qm 23 5,
 Qo 24 (.mkSl true 1 [(.int .u8 0)] 1 [(0, (.t 23))]),
 Qo 25 (.conv .b2s (.t 24)),
 Qo 26 (.bin .add (.t 22) (.t 25)),
 Qm 3 26])
def zau : LCode := (.region [Qo 27 (.bin .add (.t 8) (.c (i6 1))),
 Qm 8 27])
def z79 : LCode := (.seq (.region [Qo 9 (.bin .lss (.t 8) (.t 7))])
 (.seq (.cond (.t 9)
  .skip
  (.exit 0))
 (.seq (.block 1
  (.seq (.region [Qm 10 8,
   Qm 4 10])
  (.seq (.region [Qm 11 0,
   Qm 12 4,
   Qo 13 (.idxS (.t 11) (.t 12)),
   Qm 5 13])
  (.seq (.seq (.region [Qm 14 5,
   Qo 15 (.bin .geq (.t 14) (.c (.int .u8 65))),
   Qm 16 15,
   Qn 17 5 (16, true),
   Qg 18 (.bin .leq (.t 17) (.c (.int .u8 90))) (16, true),
   Qp 19 16 18])
  (.cond (.t 19)
   (.region [Qm 20 5,
    Qo 21 (.bin .add (.t 20) (.c (.int .u8 32))),
    Qm 5 21])
   .skip))
  zac))))
 zau)))
def z1l : LCode := (.seq (.region [Qm 28 3,
 Qm 2 28])
 .ret)
def zaz : LCode := (.seq (.region [Qo 2 (.mv (.c (.str [])))])
 (.seq (.region [Qo 3 (.mv (.c (.str [])))])
 (.seq (.seq (.region [Qm 6 0,
  Qo 7 (.len true (.t 6)),
  Qi 8 0])
 (.block 0
  (.loop
   z79)))
 z1l)))
def k7 : Lay := ⟨29, [], false⟩
def z6i : List LRes := [.t 2]
def zf9 : LFn := ⟨1, k7, zaz, z6i⟩
theorem zcs : wb Tryd.prog [] 29 = some zf9 := by kernel_rfl
theorem zbe : k6 Tryd.prog 29 := ⟨_, Tryd.func29, rfl, rfl⟩
def z80 (a0 : List UInt8) (o : (List UInt8)) : Exit → Env → AHeap → Nat → Prop := Ys z6i (j0 (.str o))
def Y6 (a0 : List UInt8) (s : ((List UInt8) × Int)) : Env := [(0, .str a0), (3, .str s.1), (7, i6 (a0.length : Int)), (8, i6 s.2)]
def Yz (a0 : List UInt8) (s : ((List UInt8) × Int)) : AHeap := []
def Wh (a0 : List UInt8) (o : (List UInt8)) : Exit → Env → AHeap → Nat → Prop := (qq 0 (Yi Tryd.prog k7 0 z1l (z80 a0 o)))
noncomputable def qg (m : Option Nat) (a0 : List UInt8) (v2 : List UInt8) (v3 : Int) (v5 : Int) : Option (((List UInt8) × Int) ⊕ (List UInt8)) :=
 if (((v2.length + (([v5] : List Int).map zf3).length : Nat) : Int) ≤ 9223372036854775807) then
 some (.inl ((v2 ++ (([v5] : List Int).map zf3)), (W (v3 + 1))))
 else none
theorem K8 {a0 : List UInt8} {v2 : List UInt8} {v3 : Int} {v5 : Int} {m : Option Nat} {o : (((List UInt8) × Int) ⊕ (List UInt8))} (h : qg m a0 v2 v3 v5 = some o) :
 LWp Tryd.prog k7 0 zac (qq 1 (Yi Tryd.prog k7 0 zau (vj 0 0 (Y6 a0) (Yz a0) (Wh a0) o))) [(0, .str a0), (3, .str v2), (5, .int .u8 v5), (7, i6 (a0.length : Int)), (8, i6 v3)] [] 0 := by
 unfold qg at h
 refine zw ?_
 refine EX (([v5] : List Int).map zf3) (AI (zc9 ([v5] : List Int)) (AI (zbz ([v5] : List Int)) ?_))
 obtain ⟨h12, h⟩ := zh h
 refine AI h12 ?_
 refine zw ?_
 cases h
 exact AI rfl (x3 (M := []) rfl (S4 rfl rfl rfl rfl TT) TT)
noncomputable def qy (m : Option Nat) (v2 : List UInt8) : Option (List UInt8) :=
 some v2
noncomputable def y8 (m : Option Nat) (a0 : List UInt8) (v2 : List UInt8) (v3 : Int) : Option (((List UInt8) × Int) ⊕ (List UInt8)) :=
 if (decide (v3 < (a0.length : Int))) = true then
  if (0 : Int) ≤ v3 ∧ v3 < (a0.length : Int) then
  if ((decide ((((a0.getD v3.toNat 0).toNat : Nat) : Int) ≥ 65)) && (decide ((((a0.getD v3.toNat 0).toNat : Nat) : Int) ≤ 90))) = true then
   qg m a0 v2 v3 (IntKind.wrap .u8 ((((a0.getD v3.toNat 0).toNat : Nat) : Int) + 32))
  else
   qg m a0 v2 v3 (((a0.getD v3.toNat 0).toNat : Nat) : Int)
  else none
 else
  Option.map Sum.inr (
   qy m v2)
noncomputable def qd (m : Option Nat) (a0 : List UInt8) (v2 : List UInt8) (v3 : Int) : Option (List UInt8) := vi m (fun (s : ((List UInt8) × Int)) => y8 m a0 s.1 s.2) (v2, v3)
theorem z54 {a0 : List UInt8} {v2 : List UInt8} {m : Option Nat} {o : (List UInt8)} (h : qy m v2 = some o) :
 LWp Tryd.prog k7 0 z1l (z80 a0 o) [(3, .str v2)] [] 0 := by
 unfold qy at h
 refine ze (zw ?_)
 refine w7 ?_
 cases h
 exact AI TT (AI rfl (VS rfl))
theorem z2s {a0 : List UInt8} {v2 : List UInt8} {v3 : Int} {m : Option Nat} {o : ((List UInt8) × Int) ⊕ (List UInt8)} (h : y8 m a0 v2 v3 = some o) :
 LWp Tryd.prog k7 0 z79 (vj 0 0 (Y6 a0) (Yz a0) (Wh a0) o) [(0, .str a0), (3, .str v2), (7, i6 (a0.length : Int)), (8, i6 v3)] [] 0 := by
 unfold y8 at h
 refine ze (zw ?_)
 refine ze ?_
 refine qz (v := (decide (v3 < (a0.length : Int)))) rfl TT (fun h9 => ?_) (fun h9 => ?_)
 ·have h := y3 h9 h
  refine xe ?_
  refine ze ?_
  refine xk ?_
  refine ze (zw ?_)
  refine ze (zw ?_)
  obtain ⟨h10, h⟩ := zh h
  refine AI h10 ?_
  refine ze ?_
  refine ze (zw ?_)
  refine AI (fun hp => hp) ?_
  refine AI (fun hc => (bqt hc)) ?_
  refine LWp.sim (e := [(0, .str a0), (3, .str v2), (5, .int .u8 (((a0.getD v3.toNat 0).toNat : Nat) : Int)), (7, i6 (a0.length : Int)), (8, i6 v3), (19, .bool ((decide ((((a0.getD v3.toNat 0).toNat : Nat) : Int) ≥ 65)) && (decide ((((a0.getD v3.toNat 0).toNat : Nat) : Int) ≤ 90))))]) (L := []) (n := 0) ?_ ?_
  ·exact x3 (M := []) rfl (S4 rfl rfl rfl rfl (S2 rfl rfl TT)) TT
  refine qz (v := ((decide ((((a0.getD v3.toNat 0).toNat : Nat) : Int) ≥ 65)) && (decide ((((a0.getD v3.toNat 0).toNat : Nat) : Int) ≤ 90)))) rfl TT (fun h11 => ?_) (fun h11 => ?_)
  ·have h := y3 h11 h
   refine zw ?_
   refine LWp.sim ?_ (K8 h)
   exact x3 (M := []) rfl (S4 rfl rfl rfl rfl (AI (VS rfl) TT)) TT
  ·have h := yg h11 h
   refine xe ?_
   refine LWp.sim ?_ (K8 h)
   exact x3 (M := []) rfl (S4 rfl rfl rfl rfl (AI (VS rfl) TT)) TT
 ·have h := yg h9 h
  refine Yn ?_
  obtain ⟨o, hq, rfl⟩ := Option.map_eq_some_iff.1 h
  replace h := hq; clear hq
  refine AI nofun ?_
  refine LWp.sim ?_ (z54 h)
  exact x3 (M := []) rfl (AI (VS rfl) TT) TT
theorem z7j {a0 : List UInt8} {v2 : List UInt8} {v3 : Int} {m : Option Nat} {o : (List UInt8)} (h : qd m a0 v2 v3 = some o) :
 LWp Tryd.prog k7 0 (.loop z79) (qq 0 (Yi Tryd.prog k7 0 z1l (z80 a0 o))) [(0, .str a0), (3, .str v2), (7, i6 (a0.length : Int)), (8, i6 v3)] [] 0 :=
 xi (m := m) (s := ((v2, v3) : ((List UInt8) × Int))) (r := o) (fun (s : ((List UInt8) × Int)) => y8 m a0 s.1 s.2) (Y6 a0) (Yz a0) (Wh a0) (fun s o h => z2s h) h
noncomputable def qv (m : Option Nat) (a0 : List UInt8) : Option (List UInt8) :=
 qd m a0 ([] : List UInt8) 0
theorem z5z {a0 : List UInt8} {m : Option Nat} {o : (List UInt8)} (h : qv m a0 = some o) : LWp Tryd.prog k7 0 zaz (z80 a0 o) (qk 0 [.str a0]) [] 0 := by
 unfold qv at h
 refine ze (zw ?_)
 refine ze (zw ?_)
 refine ze ?_
 refine ze (zw ?_)
 refine xk ?_
 refine LWp.sim ?_ (z7j h)
 exact x3 (M := []) rfl (S4 rfl rfl rfl rfl TT) TT
theorem zf7 {a0 : List UInt8} {m : Option Nat} {o : (List UInt8)} (h : qv m a0 = some o) : PFn Tryd.prog 29 [.str a0] (.str o) := PFn.ofFnW (L := zf9) zcs zbe (NB rfl) rfl (z5z h)
def z3e : LCode := (.seq (.seq (.region [Qm 3 0,
 Qo 4 (.bin .neq (.t 3) (.c (.str []))),
 Qm 5 4,
 Qn 6 0 (5, true),
 Qg 7 (.idxS (.t 6) (.c (i6 0))) (5, true),
 Qg 8 (.bin .eql (.t 7) (.c (.int .u8 32))) (5, true),
 Qn 9 8 (5, true),
 Qn 10 0 (9, false),
 Qg 11 (.idxS (.t 10) (.c (i6 0))) (9, false),
 Qg 12 (.bin .eql (.t 11) (.c (.int .u8 9))) (9, false),
 Qg 13 (.pick (.t 9) (.c (.bool true)) (.t 12)) (5, true),
 Qp 14 5 13])
 (.cond (.t 14)
  .skip
  (.exit 0)))
 (.block 1
  (.region [Qm 15 0,
   Qo 16 (.slStr (.t 15) (some (.c (i6 1))) none),
   Qm 0 16])))
def z4g : LCode := (.seq (.seq (.region [Qm 17 0,
 Qo 18 (.bin .neq (.t 17) (.c (.str []))),
 Qm 19 18,
 Qn 20 0 (19, true),
 Qn 21 0 (19, true),
 Qg 22 (.len true (.t 21)) (19, true),
 Qg 23 (.bin .sub (.t 22) (.c (i6 1))) (19, true),
 Qg 24 (.idxS (.t 20) (.t 23)) (19, true),
 Qg 25 (.bin .eql (.t 24) (.c (.int .u8 32))) (19, true),
 Qn 26 25 (19, true),
 Qn 27 0 (26, false),
 Qn 28 0 (26, false),
 Qg 29 (.len true (.t 28)) (26, false),
 Qg 30 (.bin .sub (.t 29) (.c (i6 1))) (26, false),
 Qg 31 (.idxS (.t 27) (.t 30)) (26, false),
 Qg 32 (.bin .eql (.t 31) (.c (.int .u8 9))) (26, false),
 Qg 33 (.pick (.t 26) (.c (.bool true)) (.t 32)) (19, true),
 Qp 34 19 33])
 (.cond (.t 34)
  .skip
  (.exit 2)))
 (.block 3
  (.region [Qm 35 0,
   Qm 36 0,
   Qo 37 (.len true (.t 36)),
   Qo 38 (.bin .sub (.t 37) (.c (i6 1))),
   Qo 39 (.slStr (.t 35) none (some (.t 38))),
   Qm 0 39])))
def z14 : LCode := (.seq (.region [Qm 40 0,
 Qm 2 40])
 .ret)
def z09 : LCode := (.seq (.block 2
 (.loop
  z4g))
 z14)
def zb1 : LCode := (.seq (.region [Qo 2 (.mv (.c (.str [])))])
 (.seq (.block 0
  (.loop
   z3e))
 z09))
def wa : Lay := ⟨41, [], false⟩
def z3s : List LRes := [.t 2]
def zfd : LFn := ⟨1, wa, zb1, z3s⟩
theorem zbq : wb Tryd.prog [] 30 = some zfd := by kernel_rfl
theorem zcq : k6 Tryd.prog 30 := ⟨_, Tryd.func30, rfl, rfl⟩
def Ux (a0 : List UInt8) (o : (List UInt8)) : Exit → Env → AHeap → Nat → Prop := Ys z3s (j0 (.str o))
def Jj (s : (List UInt8)) : Env := [(0, .str s)]
def V8 (s : (List UInt8)) : AHeap := []
def z0a (a0 : List UInt8) (o : (List UInt8)) : Exit → Env → AHeap → Nat → Prop := (qq 0 (Yi Tryd.prog wa 0 z09 (Ux a0 o)))
noncomputable def ym (m : Option Nat) (v2 : List UInt8) : Option (List UInt8) :=
 some v2
noncomputable def zp (m : Option Nat) (v2 : List UInt8) : Option ((List UInt8) ⊕ (List UInt8)) :=
 if (((!(v2 == ([] : List UInt8))) == true) = true → (0 : Int) ≤ (W ((v2.length : Int) - 1)) ∧ (W ((v2.length : Int) - 1)) < (v2.length : Int)) then
 if ((((!(v2 == ([] : List UInt8))) == true) && (((((v2.getD (W ((v2.length : Int) - 1)).toNat 0).toNat : Nat) : Int) == 32) == false)) = true → (0 : Int) ≤ (W ((v2.length : Int) - 1)) ∧ (W ((v2.length : Int) - 1)) < (v2.length : Int)) then
 if ((!(v2 == ([] : List UInt8))) && (((((v2.getD (W ((v2.length : Int) - 1)).toNat 0).toNat : Nat) : Int) == 32) || ((((v2.getD (W ((v2.length : Int) - 1)).toNat 0).toNat : Nat) : Int) == 9))) = true then
  if (0 : Int) ≤ (W ((v2.length : Int) - 1)) ∧ (W ((v2.length : Int) - 1)) ≤ (v2.length : Int) then
  some (.inl ((v2.take (W ((v2.length : Int) - 1)).toNat).drop 0))
  else none
 else
  Option.map Sum.inr (
   ym m v2)
 else none
 else none
noncomputable def yk (m : Option Nat) (v2 : List UInt8) : Option (List UInt8) := vi m (fun (s : (List UInt8)) => zp m s) v2
noncomputable def yn (m : Option Nat) (v1 : List UInt8) : Option (List UInt8) :=
 yk m v1
noncomputable def zo (m : Option Nat) (v1 : List UInt8) : Option ((List UInt8) ⊕ (List UInt8)) :=
 if (((!(v1 == ([] : List UInt8))) == true) = true → (0 : Int) ≤ 0 ∧ 0 < (v1.length : Int)) then
 if ((((!(v1 == ([] : List UInt8))) == true) && (((((v1.getD (0 : Int).toNat 0).toNat : Nat) : Int) == 32) == false)) = true → (0 : Int) ≤ 0 ∧ 0 < (v1.length : Int)) then
 if ((!(v1 == ([] : List UInt8))) && (((((v1.getD (0 : Int).toNat 0).toNat : Nat) : Int) == 32) || ((((v1.getD (0 : Int).toNat 0).toNat : Nat) : Int) == 9))) = true then
  if (0 : Int) ≤ 1 ∧ 1 ≤ (v1.length : Int) then
  some (.inl ((v1.take v1.length).drop (1 : Int).toNat))
  else none
 else
  Option.map Sum.inr (
   yn m v1)
 else none
 else none
noncomputable def yj (m : Option Nat) (v1 : List UInt8) : Option (List UInt8) := vi m (fun (s : (List UInt8)) => zo m s) v1
def J5 (s : (List UInt8)) : Env := [(0, .str s)]
def V3 (s : (List UInt8)) : AHeap := []
def z0y (a0 : List UInt8) (o : (List UInt8)) : Exit → Env → AHeap → Nat → Prop := (qq 2 (Yi Tryd.prog wa 0 z14 (Ux a0 o)))
theorem z73 {a0 : List UInt8} {v2 : List UInt8} {m : Option Nat} {o : (List UInt8)} (h : ym m v2 = some o) :
 LWp Tryd.prog wa 0 z14 (Ux a0 o) [(0, .str v2)] [] 0 := by
 unfold ym at h
 refine ze (zw ?_)
 refine w7 ?_
 cases h
 exact AI TT (AI rfl (VS rfl))
theorem z2m {a0 : List UInt8} {v2 : List UInt8} {m : Option Nat} {o : (List UInt8) ⊕ (List UInt8)} (h : zp m v2 = some o) :
 LWp Tryd.prog wa 0 z4g (vj 0 0 (J5) (V3) (z0y a0) o) [(0, .str v2)] [] 0 := by
 unfold zp at h
 refine ze ?_
 refine ze (zw ?_)
 refine AI (fun hp => hp) ?_
 refine AI (fun hp => hp) ?_
 obtain ⟨h21, h⟩ := zh h
 refine AI (fun hp => (AI (AI hp hp) (h21 hp))) ?_
 refine AI (fun hp => hp) ?_
 refine AI (fun hp => hp) ?_
 refine AI (fun hp => hp) ?_
 refine AI (fun hp => hp) ?_
 obtain ⟨h22, h⟩ := zh h
 refine AI (fun hp => (AI (AI hp hp) (h22 hp))) ?_
 refine AI (fun hp => hp) ?_
 refine AI (fun hp => (AI hp (fun hc => (Kw hp (bqf hc))))) ?_
 refine AI (fun hc => (bqt hc)) ?_
 refine LWp.sim (e := [(0, .str v2), (34, .bool ((!(v2 == ([] : List UInt8))) && (((((v2.getD (W ((v2.length : Int) - 1)).toNat 0).toNat : Nat) : Int) == 32) || ((((v2.getD (W ((v2.length : Int) - 1)).toNat 0).toNat : Nat) : Int) == 9))))]) (L := []) (n := 0) ?_ ?_
 ·exact x3 (M := []) rfl (S2 rfl rfl TT) TT
 refine qz (v := ((!(v2 == ([] : List UInt8))) && (((((v2.getD (W ((v2.length : Int) - 1)).toNat 0).toNat : Nat) : Int) == 32) || ((((v2.getD (W ((v2.length : Int) - 1)).toNat 0).toNat : Nat) : Int) == 9)))) rfl TT (fun h23 => ?_) (fun h23 => ?_)
 ·have h := y3 h23 h
  refine xe ?_
  refine xk ?_
  refine zw ?_
  obtain ⟨h24, h⟩ := zh h
  refine AI (AI (Int.le_refl _) h24) ?_
  cases h
  exact AI rfl (x3 (M := []) rfl (AI (VS rfl) TT) TT)
 ·have h := yg h23 h
  refine Yn ?_
  obtain ⟨o, hq, rfl⟩ := Option.map_eq_some_iff.1 h
  replace h := hq; clear hq
  refine AI nofun ?_
  refine LWp.sim ?_ (z73 h)
  exact x3 (M := []) rfl (AI (VS rfl) TT) TT
theorem z5r {a0 : List UInt8} {v2 : List UInt8} {m : Option Nat} {o : (List UInt8)} (h : yk m v2 = some o) :
 LWp Tryd.prog wa 0 (.loop z4g) (qq 2 (Yi Tryd.prog wa 0 z14 (Ux a0 o))) [(0, .str v2)] [] 0 :=
 xi (m := m) (s := (v2 : (List UInt8))) (r := o) (fun (s : (List UInt8)) => zp m s) (J5) (V3) (z0y a0) (fun s o h => z2m h) h
theorem z44 {a0 : List UInt8} {v1 : List UInt8} {m : Option Nat} {o : (List UInt8)} (h : yn m v1 = some o) :
 LWp Tryd.prog wa 0 z09 (Ux a0 o) [(0, .str v1)] [] 0 := by
 unfold yn at h
 refine ze ?_
 refine xk ?_
 refine LWp.sim ?_ (z5r h)
 exact x3 (M := []) rfl (AI (VS rfl) TT) TT
theorem z2l {a0 : List UInt8} {v1 : List UInt8} {m : Option Nat} {o : (List UInt8) ⊕ (List UInt8)} (h : zo m v1 = some o) :
 LWp Tryd.prog wa 0 z3e (vj 0 0 (Jj) (V8) (z0a a0) o) [(0, .str v1)] [] 0 := by
 unfold zo at h
 refine ze ?_
 refine ze (zw ?_)
 obtain ⟨h9, h⟩ := zh h
 refine AI (fun hp => (AI hp (h9 hp))) ?_
 refine AI (fun hp => hp) ?_
 refine AI (fun hp => hp) ?_
 obtain ⟨h10, h⟩ := zh h
 refine AI (fun hp => (AI hp (h10 hp))) ?_
 refine AI (fun hp => hp) ?_
 refine AI (fun hp => (AI hp (fun hc => (Kw hp (bqf hc))))) ?_
 refine AI (fun hc => (bqt hc)) ?_
 refine LWp.sim (e := [(0, .str v1), (14, .bool ((!(v1 == ([] : List UInt8))) && (((((v1.getD (0 : Int).toNat 0).toNat : Nat) : Int) == 32) || ((((v1.getD (0 : Int).toNat 0).toNat : Nat) : Int) == 9))))]) (L := []) (n := 0) ?_ ?_
 ·exact x3 (M := []) rfl (S2 rfl rfl TT) TT
 refine qz (v := ((!(v1 == ([] : List UInt8))) && (((((v1.getD (0 : Int).toNat 0).toNat : Nat) : Int) == 32) || ((((v1.getD (0 : Int).toNat 0).toNat : Nat) : Int) == 9)))) rfl TT (fun h11 => ?_) (fun h11 => ?_)
 ·have h := y3 h11 h
  refine xe ?_
  refine xk ?_
  refine zw ?_
  obtain ⟨h12, h⟩ := zh h
  refine AI (AI (And.left h12) (AI (And.right h12) (Int.le_refl _))) ?_
  cases h
  exact AI rfl (x3 (M := []) rfl (AI (VS rfl) TT) TT)
 ·have h := yg h11 h
  refine Yn ?_
  obtain ⟨o, hq, rfl⟩ := Option.map_eq_some_iff.1 h
  replace h := hq; clear hq
  refine AI nofun ?_
  refine LWp.sim ?_ (z44 h)
  exact x3 (M := []) rfl (AI (VS rfl) TT) TT
theorem z7e {a0 : List UInt8} {v1 : List UInt8} {m : Option Nat} {o : (List UInt8)} (h : yj m v1 = some o) :
 LWp Tryd.prog wa 0 (.loop z3e) (qq 0 (Yi Tryd.prog wa 0 z09 (Ux a0 o))) [(0, .str v1)] [] 0 :=
 xi (m := m) (s := (v1 : (List UInt8))) (r := o) (fun (s : (List UInt8)) => zo m s) (Jj) (V8) (z0a a0) (fun s o h => z2l h) h
noncomputable def q6 (m : Option Nat) (a0 : List UInt8) : Option (List UInt8) :=
 yj m a0
theorem z5s {a0 : List UInt8} {m : Option Nat} {o : (List UInt8)} (h : q6 m a0 = some o) : LWp Tryd.prog wa 0 zb1 (Ux a0 o) (qk 0 [.str a0]) [] 0 := by
 unfold q6 at h
 refine ze (zw ?_)
 refine ze ?_
 refine xk ?_
 refine LWp.sim ?_ (z7e h)
 exact x3 (M := []) rfl (AI (VS rfl) TT) TT
theorem zez {a0 : List UInt8} {m : Option Nat} {o : (List UInt8)} (h : q6 m a0 = some o) : PFn Tryd.prog 30 [.str a0] (.str o) := PFn.ofFnW (L := zfd) zbq zcq (NB rfl) rfl (z5s h)
def z4h : LCode := (.seq (.region [Qo 18 (.bin .lss (.t 17) (.t 16))])
 (.seq (.cond (.t 18)
  .skip
  (.exit 0))
 (.seq (.block 1
  (.seq (.region [Qm 19 17,
   Qm 5 19])
  (.seq (.region [Qm 20 0,
   Qm 21 5,
   Qo 22 (.idxS (.t 20) (.t 21)),
   Qm 6 22])
  (.seq (.region [Qm 23 5,
   Qm 24 4,
   Qo 25 (.bin .lss (.t 23) (.t 24)),
   Qm 26 25,
   Qn 27 6 (26, true),
   Qg 28 (.bin .lss (.t 27) (.c (.int .u8 33))) (26, true),
   Qn 29 28 (26, true),
   Qn 30 6 (29, false),
   Qg 31 (.bin .gtr (.t 30) (.c (.int .u8 126))) (29, false),
   Qg 32 (.pick (.t 29) (.c (.bool true)) (.t 31)) (26, true),
   Qp 33 26 32,
   Qm 34 33,
   Qn 35 5 (34, false),
   Qn 36 4 (34, false),
   Qg 37 (.bin .gtr (.t 35) (.t 36)) (34, false),
   Qn 38 37 (34, false),
   Qn 39 6 (38, true),
   Qg 40 (.bin .neq (.t 39) (.c (.int .u8 9))) (38, true),
   Qg 41 (.pick (.t 38) (.t 40) (.c (.bool false))) (34, false),
   Qn 42 41 (34, false),
   Qn 43 6 (42, true),
   Qg 44 (.bin .lss (.t 43) (.c (.int .u8 32))) (42, true),
   Qn 45 44 (42, true),
   Qn 46 6 (45, false),
   Qg 47 (.bin .gtr (.t 46) (.c (.int .u8 126))) (45, false),
   Qg 48 (.pick (.t 45) (.c (.bool true)) (.t 47)) (42, true),
   Qg 49 (.pick (.t 42) (.t 48) (.c (.bool false))) (34, false),
   Qo 50 (.pick (.t 34) (.c (.bool true)) (.t 49))])
  (.cond (.t 50)
   (.seq (.region [Qo 2 (.mv (.c (i6 (-1)))),
    Qb 3])
   .ret)
   .skip)))))
 (.region [Qo 51 (.bin .add (.t 17) (.c (i6 1))),
  Qm 17 51]))))
def z6h : LCode := (.seq (.region [Qo 73 (.bin .lss (.t 72) (.t 71))])
 (.seq (.cond (.t 73)
  .skip
  (.exit 2))
 (.seq (.block 3
  (.seq (.region [Qm 74 72,
   Qm 9 74])
  (.seq (.seq (.region [Qm 75 7,
   Qm 76 9,
   Qo 77 (.idxS (.t 75) (.t 76)),
   Qo 78 (.bin .lss (.t 77) (.c (.int .u8 48))),
   Qm 79 78,
   Qn 80 7 (79, false),
   Qn 81 9 (79, false),
   Qg 82 (.idxS (.t 80) (.t 81)) (79, false),
   Qg 83 (.bin .gtr (.t 82) (.c (.int .u8 57))) (79, false),
   Qo 84 (.pick (.t 79) (.c (.bool true)) (.t 83))])
  (.cond (.t 84)
   (.seq (.region [Qo 2 (.mv (.c (i6 (-1)))),
    Qb 3])
   .ret)
   .skip))
  (.region [Qm 85 8,
   Qo 86 (.bin .mul (.c (i6 10)) (.t 85)),
   Qm 87 7,
   Qm 88 9,
   Qo 89 (.idxS (.t 87) (.t 88)),
   Qo 90 (.bin .sub (.t 89) (.c (.int .u8 48))),
   Qo 91 (.conv (.int .i64) (.t 90)),
   Qo 92 (.bin .add (.t 86) (.t 91)),
   Qm 8 92]))))
 (.region [Qo 93 (.bin .add (.t 72) (.c (i6 1))),
  Qm 72 93]))))
def z1w : LCode := (.seq (.region [Qm 94 8,
 Qm 95 8,
 Qo 96 (.bin .leq (.t 95) (.c (i6 4000))),
 Qm 2 94,
 Qm 3 96])
 .ret)
def z1s : LCode := (.seq (.seq (.region [Qm 52 0,
 Qm 53 4,
 Qo 54 (.slStr (.t 52) none (some (.t 53))),
 Qc 55 29 54,
 Qo 56 (.bin .neq (.t 55) (.c (.str [99, 111, 110, 116, 101, 110, 116, 45, 108, 101, 110, 103, 116, 104])))])
 (.cond (.t 56)
  (.seq (.region [Qo 2 (.mv (.c (i6 (-1)))),
   Qo 3 (.mv (.c (.bool true)))])
  .ret)
  .skip))
 (.seq (.region [Qm 57 0,
  Qm 58 4,
  Qo 59 (.bin .add (.t 58) (.c (i6 1))),
  Qo 60 (.slStr (.t 57) (some (.t 59)) none),
  Qc 61 30 60,
  Qm 7 61])
 (.seq (.seq (.region [Qm 62 7,
  Qo 63 (.len true (.t 62)),
  Qo 64 (.bin .lss (.t 63) (.c (i6 1))),
  Qm 65 64,
  Qn 66 7 (65, false),
  Qg 67 (.len true (.t 66)) (65, false),
  Qg 68 (.bin .gtr (.t 67) (.c (i6 6))) (65, false),
  Qo 69 (.pick (.t 65) (.c (.bool true)) (.t 68))])
 (.cond (.t 69)
  (.seq (.region [Qo 2 (.mv (.c (i6 (-1)))),
   Qb 3])
  .ret)
  .skip))
 (.seq (.region [Qi 8 0])
 (.seq (.seq (.region [Qm 70 7,
  Qo 71 (.len true (.t 70)),
  Qi 72 0])
 (.block 2
  (.loop
   z6h)))
 z1w)))))
def za9 : LCode := (.seq (.region [Qi 2 0,
 Qb 3])
 (.seq (.region [Qm 10 0,
  Qo 11 (.conv (.s2b true) (.t 10)),
  Qo 12 (.call 28 [(.t 11), (.c (.int .u8 58))]),
  Qm 4 12])
 (.seq (.seq (.region [Qm 13 4,
  Qo 14 (.bin .lss (.t 13) (.c (i6 1)))])
 (.cond (.t 14)
  (.seq (.region [Qo 2 (.mv (.c (i6 (-1)))),
   Qb 3])
  .ret)
  .skip))
 (.seq (.seq (.region [Qm 15 0,
  Qo 16 (.len true (.t 15)),
  Qi 17 0])
 (.block 0
  (.loop
   z4h)))
 z1s))))
def w8 : Lay := ⟨97, [], false⟩
def z6x : List LRes := [.t 2, .t 3]
def zfa : LFn := ⟨1, w8, za9, z6x⟩
theorem zb9 : wb Tryd.prog [] 19 = some zfa := by kernel_rfl
theorem zcy : k6 Tryd.prog 19 := ⟨_, Tryd.func19, rfl, rfl⟩
def Un (a0 : List UInt8) (o : Int × Bool) : Exit → Env → AHeap → Nat → Prop := Ys z6x (j0 (.tup [i6 o.1, .bool o.2]))
def J9 (a0 : List UInt8) (v1 : Int) (s : Int) : Env := [(0, .str a0), (4, i6 v1), (16, i6 (a0.length : Int)), (17, i6 s)]
def V5 (a0 : List UInt8) (v1 : Int) (s : Int) : AHeap := []
def z12 (a0 : List UInt8) (o : (Int × Bool)) : Exit → Env → AHeap → Nat → Prop := (qq 0 (Yi Tryd.prog w8 0 z1s (Un a0 o)))
noncomputable def qx (m : Option Nat) (v5 : Int) : Option (Int × Bool) :=
 some (v5, (decide (v5 ≤ 4000)))
noncomputable def zm (m : Option Nat) (v4 : (List UInt8)) (v5 : Int) (v6 : Int) : Option ((Int × Int) ⊕ (Int × Bool)) :=
 if (decide (v6 < (v4.length : Int))) = true then
  if (0 : Int) ≤ v6 ∧ v6 < (v4.length : Int) then
  if (((decide ((((v4.getD v6.toNat 0).toNat : Nat) : Int) < 48)) == false) = true → (0 : Int) ≤ v6 ∧ v6 < (v4.length : Int)) then
  if ((decide ((((v4.getD v6.toNat 0).toNat : Nat) : Int) < 48)) || (decide ((((v4.getD v6.toNat 0).toNat : Nat) : Int) > 57))) = true then
   Option.map Sum.inr (
    some ((-1), false))
  else
   if (0 : Int) ≤ v6 ∧ v6 < (v4.length : Int) then
   some (.inl ((W ((W ((10 : Int) * v5)) + (W (IntKind.wrap .u8 ((((v4.getD v6.toNat 0).toNat : Nat) : Int) - 48))))), (W (v6 + 1))))
   else none
  else none
  else none
 else
  Option.map Sum.inr (
   qx m v5)
noncomputable def yu (m : Option Nat) (v4 : (List UInt8)) (v5 : Int) (v6 : Int) : Option (Int × Bool) := vi m (fun (s : (Int × Int)) => zm m v4 s.1 s.2) (v5, v6)
noncomputable def yv (m : Option Nat) (a0 : List UInt8) (v1 : Int) : Option (Int × Bool) :=
 if (0 : Int) ≤ v1 ∧ v1 ≤ (a0.length : Int) then
 (qv m ((a0.take v1.toNat).drop 0)).bind fun v3 =>
 if (!(v3 == ([99, 111, 110, 116, 101, 110, 116, 45, 108, 101, 110, 103, 116, 104] : List UInt8))) = true then
  some ((-1), true)
 else
  if (0 : Int) ≤ (W (v1 + 1)) ∧ (W (v1 + 1)) ≤ (a0.length : Int) then
  (q6 m ((a0.take a0.length).drop (W (v1 + 1)).toNat)).bind fun v4 =>
  if ((decide ((v4.length : Int) < 1)) || (decide ((v4.length : Int) > 6))) = true then
   some ((-1), false)
  else
   yu m v4 0 0
  else none
 else none
noncomputable def y9 (m : Option Nat) (a0 : List UInt8) (v1 : Int) (v2 : Int) : Option (Int ⊕ (Int × Bool)) :=
 if (decide (v2 < (a0.length : Int))) = true then
  if (0 : Int) ≤ v2 ∧ v2 < (a0.length : Int) then
  if (((decide (v2 < v1)) && ((decide ((((a0.getD v2.toNat 0).toNat : Nat) : Int) < 33)) || (decide ((((a0.getD v2.toNat 0).toNat : Nat) : Int) > 126)))) || (((decide (v2 > v1)) && ((((a0.getD v2.toNat 0).toNat : Nat) : Int) != 9)) && ((decide ((((a0.getD v2.toNat 0).toNat : Nat) : Int) < 32)) || (decide ((((a0.getD v2.toNat 0).toNat : Nat) : Int) > 126))))) = true then
   Option.map Sum.inr (
    some ((-1), false))
  else
   some (.inl (W (v2 + 1)))
  else none
 else
  Option.map Sum.inr (
   yv m a0 v1)
noncomputable def qf (m : Option Nat) (a0 : List UInt8) (v1 : Int) (v2 : Int) : Option (Int × Bool) := vi m (fun (s : Int) => y9 m a0 v1 s) v2
def J1 (v4 : (List UInt8)) (s : (Int × Int)) : Env := [(7, .str v4), (8, i6 s.1), (71, i6 (v4.length : Int)), (72, i6 s.2)]
def Vv (v4 : (List UInt8)) (s : (Int × Int)) : AHeap := []
def z1c (a0 : List UInt8) (o : (Int × Bool)) : Exit → Env → AHeap → Nat → Prop := (qq 2 (Yi Tryd.prog w8 0 z1w (Un a0 o)))
theorem z65 {a0 : List UInt8} {v5 : Int} {m : Option Nat} {o : (Int × Bool)} (h : qx m v5 = some o) :
 LWp Tryd.prog w8 0 z1w (Un a0 o) [(8, i6 v5)] [] 0 := by
 unfold qx at h
 refine ze (zw ?_)
 refine w7 ?_
 cases h
 exact AI TT (AI TT (AI rfl (VS rfl)))
theorem z2k {a0 : List UInt8} {v4 : (List UInt8)} {v5 : Int} {v6 : Int} {m : Option Nat} {o : (Int × Int) ⊕ (Int × Bool)} (h : zm m v4 v5 v6 = some o) :
 LWp Tryd.prog w8 0 z6h (vj 0 0 (J1 v4) (Vv v4) (z1c a0) o) [(7, .str v4), (8, i6 v5), (71, i6 (v4.length : Int)), (72, i6 v6)] [] 0 := by
 unfold zm at h
 refine ze (zw ?_)
 refine ze ?_
 refine qz (v := (decide (v6 < (v4.length : Int)))) rfl TT (fun h28 => ?_) (fun h28 => ?_)
 ·have h := y3 h28 h
  refine xe ?_
  refine ze ?_
  refine xk ?_
  refine ze (zw ?_)
  refine ze ?_
  refine ze (zw ?_)
  obtain ⟨h29, h⟩ := zh h
  refine AI h29 ?_
  obtain ⟨h30, h⟩ := zh h
  refine AI (fun hp => (AI (AI hp hp) (h30 hp))) ?_
  refine AI (fun hp => hp) ?_
  refine AI (fun hc => (bqf hc)) ?_
  refine LWp.sim (e := [(7, .str v4), (8, i6 v5), (9, i6 v6), (71, i6 (v4.length : Int)), (72, i6 v6), (84, .bool ((decide ((((v4.getD v6.toNat 0).toNat : Nat) : Int) < 48)) || (decide ((((v4.getD v6.toNat 0).toNat : Nat) : Int) > 57))))]) (L := []) (n := 0) ?_ ?_
  ·exact x3 (M := []) rfl (S4 rfl rfl rfl rfl (S2 rfl rfl TT)) TT
  refine qz (v := ((decide ((((v4.getD v6.toNat 0).toNat : Nat) : Int) < 48)) || (decide ((((v4.getD v6.toNat 0).toNat : Nat) : Int) > 57)))) rfl TT (fun h31 => ?_) (fun h31 => ?_)
  ·have h := y3 h31 h
   refine ze (zw ?_)
   refine w7 ?_
   obtain ⟨o, hq, rfl⟩ := Option.map_eq_some_iff.1 h
   replace h := hq; clear hq
   refine AI nofun ?_
   cases h
   exact AI TT (AI TT (AI rfl (VS rfl)))
  ·have h := yg h31 h
   refine xe ?_
   refine zw ?_
   obtain ⟨h32, h⟩ := zh h
   refine AI h32 ?_
   refine LWp.sim (e := [(7, .str v4), (8, i6 (W ((W ((10 : Int) * v5)) + (W (IntKind.wrap .u8 ((((v4.getD v6.toNat 0).toNat : Nat) : Int) - 48)))))), (71, i6 (v4.length : Int)), (72, i6 v6)]) (L := []) (n := 0) ?_ ?_
   ·exact x3 (M := []) rfl (S4 rfl rfl rfl rfl TT) TT
   refine zw ?_
   cases h
   exact AI rfl (x3 (M := []) rfl (S4 rfl rfl rfl rfl TT) TT)
 ·have h := yg h28 h
  refine Yn ?_
  obtain ⟨o, hq, rfl⟩ := Option.map_eq_some_iff.1 h
  replace h := hq; clear hq
  refine AI nofun ?_
  refine LWp.sim ?_ (z65 h)
  exact x3 (M := []) rfl (AI (VS rfl) TT) TT
theorem z48 {a0 : List UInt8} {v4 : (List UInt8)} {v5 : Int} {v6 : Int} {m : Option Nat} {o : (Int × Bool)} (h : yu m v4 v5 v6 = some o) :
 LWp Tryd.prog w8 0 (.loop z6h) (qq 2 (Yi Tryd.prog w8 0 z1w (Un a0 o))) [(7, .str v4), (8, i6 v5), (71, i6 (v4.length : Int)), (72, i6 v6)] [] 0 :=
 xi (m := m) (s := ((v5, v6) : (Int × Int))) (r := o) (fun (s : (Int × Int)) => zm m v4 s.1 s.2) (J1 v4) (Vv v4) (z1c a0) (fun s o h => z2k h) h
theorem z5t {a0 : List UInt8} {v1 : Int} {m : Option Nat} {o : (Int × Bool)} (h : yv m a0 v1 = some o) :
 LWp Tryd.prog w8 0 z1s (Un a0 o) [(0, .str a0), (4, i6 v1)] [] 0 := by
 unfold yv at h
 refine ze ?_
 refine ze (zw ?_)
 obtain ⟨h12, h⟩ := zh h
 refine AI (AI (Int.le_refl _) h12) ?_
 obtain ⟨v3, h13, h⟩ := bind_some h
 refine PFn.call (zf7 h13) (AI (VS rfl) TT) ?_
 refine qz (v := (!(v3 == ([99, 111, 110, 116, 101, 110, 116, 45, 108, 101, 110, 103, 116, 104] : List UInt8)))) rfl TT (fun h14 => ?_) (fun h14 => ?_)
 ·have h := y3 h14 h
  refine ze (zw ?_)
  refine w7 ?_
  cases h
  exact AI TT (AI TT (AI rfl (VS rfl)))
 ·have h := yg h14 h
  refine xe ?_
  refine ze (zw ?_)
  obtain ⟨h15, h⟩ := zh h
  refine AI (AI (And.left h15) (AI (And.right h15) (Int.le_refl _))) ?_
  obtain ⟨v4, h16, h⟩ := bind_some h
  refine PFn.call (zez h16) (AI (VS rfl) TT) ?_
  refine LWp.sim (e := [(7, .str v4)]) (L := []) (n := 0) ?_ ?_
  ·exact x3 (M := []) rfl (AI (VS rfl) TT) TT
  refine ze ?_
  refine ze (zw ?_)
  refine AI (fun hp => hp) ?_
  refine AI (fun hp => hp) ?_
  refine AI (fun hc => (bqf hc)) ?_
  refine LWp.sim (e := [(7, .str v4), (69, .bool ((decide ((v4.length : Int) < 1)) || (decide ((v4.length : Int) > 6))))]) (L := []) (n := 0) ?_ ?_
  ·exact x3 (M := []) rfl (S2 rfl rfl TT) TT
  refine qz (v := ((decide ((v4.length : Int) < 1)) || (decide ((v4.length : Int) > 6)))) rfl TT (fun h17 => ?_) (fun h17 => ?_)
  ·have h := y3 h17 h
   refine ze (zw ?_)
   refine w7 ?_
   cases h
   exact AI TT (AI TT (AI rfl (VS rfl)))
  ·have h := yg h17 h
   refine xe ?_
   refine ze (zw ?_)
   refine ze ?_
   refine ze (zw ?_)
   refine xk ?_
   refine LWp.sim ?_ (z48 h)
   exact x3 (M := []) rfl (S4 rfl rfl rfl rfl TT) TT
theorem z2i {a0 : List UInt8} {v1 : Int} {v2 : Int} {m : Option Nat} {o : Int ⊕ (Int × Bool)} (h : y9 m a0 v1 v2 = some o) :
 LWp Tryd.prog w8 0 z4h (vj 0 0 (J9 a0 v1) (V5 a0 v1) (z12 a0) o) [(0, .str a0), (4, i6 v1), (16, i6 (a0.length : Int)), (17, i6 v2)] [] 0 := by
 unfold y9 at h
 refine ze (zw ?_)
 refine ze ?_
 refine qz (v := (decide (v2 < (a0.length : Int)))) rfl TT (fun h9 => ?_) (fun h9 => ?_)
 ·have h := y3 h9 h
  refine xe ?_
  refine ze ?_
  refine xk ?_
  refine ze (zw ?_)
  refine ze (zw ?_)
  obtain ⟨h10, h⟩ := zh h
  refine AI h10 ?_
  refine ze (zw ?_)
  refine AI (fun hp => hp) ?_
  refine AI (fun hp => hp) ?_
  refine AI (fun hp => hp) ?_
  refine AI (fun hp => (AI hp (fun hc => (Kw hp (bqf hc))))) ?_
  refine AI (fun hc => (bqt hc)) ?_
  refine AI (fun hp => (AI hp hp)) ?_
  refine AI (fun hp => hp) ?_
  refine AI (fun hp => hp) ?_
  refine AI (fun hp => (AI hp (fun hc => (Kw hp (bqt hc))))) ?_
  refine AI (fun hp => hp) ?_
  refine AI (fun hp => hp) ?_
  refine AI (fun hp => hp) ?_
  refine AI (fun hp => hp) ?_
  refine AI (fun hp => (AI hp (fun hc => (Kw hp (bqf hc))))) ?_
  refine AI (fun hp => (AI hp (fun hc => (Kw hp (bqt hc))))) ?_
  refine AI (fun hc => (bqf hc)) ?_
  refine LWp.sim (e := [(0, .str a0), (4, i6 v1), (16, i6 (a0.length : Int)), (17, i6 v2), (50, .bool (((decide (v2 < v1)) && ((decide ((((a0.getD v2.toNat 0).toNat : Nat) : Int) < 33)) || (decide ((((a0.getD v2.toNat 0).toNat : Nat) : Int) > 126)))) || (((decide (v2 > v1)) && ((((a0.getD v2.toNat 0).toNat : Nat) : Int) != 9)) && ((decide ((((a0.getD v2.toNat 0).toNat : Nat) : Int) < 32)) || (decide ((((a0.getD v2.toNat 0).toNat : Nat) : Int) > 126))))))]) (L := []) (n := 0) ?_ ?_
  ·exact x3 (M := []) rfl (S4 rfl rfl rfl rfl (AI (VS rfl) TT)) TT
  refine qz (v := (((decide (v2 < v1)) && ((decide ((((a0.getD v2.toNat 0).toNat : Nat) : Int) < 33)) || (decide ((((a0.getD v2.toNat 0).toNat : Nat) : Int) > 126)))) || (((decide (v2 > v1)) && ((((a0.getD v2.toNat 0).toNat : Nat) : Int) != 9)) && ((decide ((((a0.getD v2.toNat 0).toNat : Nat) : Int) < 32)) || (decide ((((a0.getD v2.toNat 0).toNat : Nat) : Int) > 126)))))) rfl TT (fun h11 => ?_) (fun h11 => ?_)
  ·have h := y3 h11 h
   refine ze (zw ?_)
   refine w7 ?_
   obtain ⟨o, hq, rfl⟩ := Option.map_eq_some_iff.1 h
   replace h := hq; clear hq
   refine AI nofun ?_
   cases h
   exact AI TT (AI TT (AI rfl (VS rfl)))
  ·have h := yg h11 h
   refine xe ?_
   refine zw ?_
   cases h
   exact AI rfl (x3 (M := []) rfl (S4 rfl rfl rfl rfl TT) TT)
 ·have h := yg h9 h
  refine Yn ?_
  obtain ⟨o, hq, rfl⟩ := Option.map_eq_some_iff.1 h
  replace h := hq; clear hq
  refine AI nofun ?_
  refine LWp.sim ?_ (z5t h)
  exact x3 (M := []) rfl (S2 rfl rfl TT) TT
theorem z6d {a0 : List UInt8} {v1 : Int} {v2 : Int} {m : Option Nat} {o : (Int × Bool)} (h : qf m a0 v1 v2 = some o) :
 LWp Tryd.prog w8 0 (.loop z4h) (qq 0 (Yi Tryd.prog w8 0 z1s (Un a0 o))) [(0, .str a0), (4, i6 v1), (16, i6 (a0.length : Int)), (17, i6 v2)] [] 0 :=
 xi (m := m) (s := (v2 : Int)) (r := o) (fun (s : Int) => y9 m a0 v1 s) (J9 a0 v1) (V5 a0 v1) (z12 a0) (fun s o h => z2i h) h
noncomputable def qe (m : Option Nat) (a0 : List UInt8) : Option (Int × Bool) :=
 (yb m (a0.map zav) 58).bind fun v1 =>
 if (decide (v1 < 1)) = true then
  some ((-1), false)
 else
  qf m a0 v1 0
theorem z3o {a0 : List UInt8} {m : Option Nat} {o : Int × Bool} (h : qe m a0 = some o) : LWp Tryd.prog w8 0 za9 (Un a0 o) (qk 0 [.str a0]) [] 0 := by
 unfold qe at h
 refine ze (zw ?_)
 refine ze (zw ?_)
 refine EX ((a0.map zav).map Xw) (AI (zb8 _) ?_)
 obtain ⟨v1, h1, h⟩ := bind_some h
 refine PFn.call (zef h1) (S2 rfl rfl TT) ?_
 refine ze ?_
 refine ze (zw ?_)
 refine LWp.sim (e := [(0, .str a0), (4, i6 v1), (14, .bool (decide (v1 < 1)))]) (L := []) (n := 0) ?_ ?_
 ·exact x3 (M := []) rfl (S2 rfl rfl (AI (VS rfl) TT)) TT
 refine qz (v := (decide (v1 < 1))) rfl TT (fun h2 => ?_) (fun h2 => ?_)
 ·have h := y3 h2 h
  refine ze (zw ?_)
  refine w7 ?_
  cases h
  exact AI TT (AI TT (AI rfl (VS rfl)))
 ·have h := yg h2 h
  refine xe ?_
  refine ze ?_
  refine ze (zw ?_)
  refine xk ?_
  refine LWp.sim ?_ (z6d h)
  exact x3 (M := []) rfl (S4 rfl rfl rfl rfl TT) TT
theorem zer {a0 : List UInt8} {m : Option Nat} {o : Int × Bool} (h : qe m a0 = some o) : PFn Tryd.prog 19 [.str a0] (.tup [i6 o.1, .bool o.2]) := PFn.ofFnW (L := zfa) zb9 zcy (NB rfl) rfl (z3o h)
def zed : LCode := (.region [Qm 16 7,
 Qo 17 (.bin .add (.t 16) (.c (i6 1))),
 Qm 7 17])
def zcw : LCode := (.seq (.seq (.region [Qm 11 7,
 Qo 12 (.bin .add (.t 11) (.c (i6 1))),
 Qm 13 0,
 Qo 14 (.len true (.t 13)),
 Qo 15 (.bin .lss (.t 12) (.t 14))])
 (.cond (.t 15)
  .skip
  (.exit 0)))
 (.seq (.block 1
  (.seq (.seq (.region [Qm 18 0,
   Qm 19 7,
   Qo 20 (.idxS (.t 18) (.t 19)),
   Qo 21 (.bin .neq (.t 20) (.c (.int .u8 13))),
   Qm 22 21,
   Qn 23 0 (22, false),
   Qn 24 7 (22, false),
   Qg 25 (.bin .add (.t 24) (.c (i6 1))) (22, false),
   Qg 26 (.idxS (.t 23) (.t 25)) (22, false),
   Qg 27 (.bin .neq (.t 26) (.c (.int .u8 10))) (22, false),
   Qo 28 (.pick (.t 22) (.c (.bool true)) (.t 27))])
  (.cond (.t 28)
   (.exit 1)
   .skip))
  (.seq (.region [Qm 29 0,
   Qm 30 6,
   Qm 31 7,
   Qo 32 (.slStr (.t 29) (some (.t 30)) (some (.t 31))),
   Qm 8 32])
  (.seq (.region [Qm 33 7,
   Qo 34 (.bin .add (.t 33) (.c (i6 2))),
   Qm 6 34])
  (.seq (.region [Qm 35 7,
   Qo 36 (.bin .add (.t 35) (.c (i6 1))),
   Qm 7 36])
  (.seq (.seq (.region [Qm 37 6,
   Qo 38 (.bin .gtr (.t 37) (.c (i6 500)))])
  (.cond (.t 38)
   (.seq (.region [Qo 2 (.mv (.c (.str []))),
    Qi 3 0,
    Qi 4 4])
   .ret)
   .skip))
  (.seq (.seq (.region [Qm 39 8,
   Qo 40 (.bin .eql (.t 39) (.c (.str [])))])
  (.cond (.t 40)
   (.seq (.seq (.region [Qm 41 5,
    Qo 42 (.bin .lss (.t 41) (.c (i6 0)))])
   (.cond (.t 42)
    (.seq (.region [Qo 2 (.mv (.c (.str []))),
     Qi 3 0,
     Qi 4 4])
    .ret)
    .skip))
   (.seq (.seq (.region [Qm 43 0,
    Qo 44 (.len true (.t 43)),
    Qm 45 6,
    Qm 46 5,
    Qo 47 (.bin .add (.t 45) (.t 46)),
    Qo 48 (.bin .lss (.t 44) (.t 47))])
   (.cond (.t 48)
    (.seq (.region [Qo 2 (.mv (.c (.str []))),
     Qi 3 0,
     Qi 4 0])
    .ret)
    .skip))
   (.seq (.region [Qm 49 0,
    Qm 50 6,
    Qm 51 6,
    Qm 52 5,
    Qo 53 (.bin .add (.t 51) (.t 52)),
    Qo 54 (.slStr (.t 49) (some (.t 50)) (some (.t 53))),
    Qm 55 6,
    Qm 56 5,
    Qo 57 (.bin .add (.t 55) (.t 56)),
    Qm 2 54,
    Qm 3 57,
    Qi 4 0])
   .ret)))
   .skip))
  (.seq (.region [Qm 59 8,
   Qc 60 19 59,
   Qm 58 60,
   Qo 61 (.ext 0 (.t 58)),
   Qo 62 (.ext 1 (.t 58)),
   Qm 9 61,
   Qm 10 62])
  (.seq (.seq (.region [Qm 63 10,
   Qo 64 (.un .not (.t 63)),
   Qm 65 64,
   Qn 66 9 (65, false),
   Qg 67 (.bin .geq (.t 66) (.c (i6 0))) (65, false),
   Qn 68 67 (65, false),
   Qn 69 5 (68, true),
   Qg 70 (.bin .geq (.t 69) (.c (i6 0))) (68, true),
   Qg 71 (.pick (.t 68) (.t 70) (.c (.bool false))) (65, false),
   Qo 72 (.pick (.t 65) (.c (.bool true)) (.t 71))])
  (.cond (.t 72)
   (.seq (.region [Qo 2 (.mv (.c (.str []))),
    Qi 3 0,
    Qi 4 4])
   .ret)
   .skip))
  (.seq (.region [Qm 73 9,
   Qo 74 (.bin .geq (.t 73) (.c (i6 0)))])
  (.cond (.t 74)
   (.region [Qm 75 9,
    Qm 5 75])
   .skip)))))))))))
 zed))
def z9l : LCode := (.seq (.seq (.region [Qm 76 0,
 Qo 77 (.len true (.t 76)),
 Qo 78 (.bin .geq (.t 77) (.c (i6 500)))])
 (.cond (.t 78)
  (.seq (.region [Qo 2 (.mv (.c (.str []))),
   Qi 3 0,
   Qi 4 4])
  .ret)
  .skip))
 (.seq (.region [Qo 2 (.mv (.c (.str []))),
  Qi 3 0,
  Qi 4 0])
 .ret))
def zf0 : LCode := (.seq (.region [Qo 2 (.mv (.c (.str []))),
 Qi 3 0,
 Qi 4 0])
 (.seq (.region [Qo 5 (.mv (.c (i6 (-1)))),
  Qi 6 0])
 (.seq (.seq (.region [Qi 7 0])
 (.block 0
  (.loop
   zcw)))
 z9l)))
def Yf : Lay := ⟨79, [], false⟩
def zap : List LRes := [.t 2, .t 3, .t 4]
def zh7 : LFn := ⟨1, Yf, zf0, zap⟩
theorem zfn : wb Tryd.prog [] 9 = some zh7 := by kernel_rfl
theorem zel : k6 Tryd.prog 9 := ⟨_, Tryd.func9, rfl, rfl⟩
def zg2 (a0 : List UInt8) (o : (List UInt8) × Int × Int) : Exit → Env → AHeap → Nat → Prop := Ys zap (j0 (.tup [.str o.1, i6 o.2.1, i6 o.2.2]))
def Qz (a0 : List UInt8) (s : (Int × Int × Int)) : Env := [(0, .str a0), (5, i6 s.1), (6, i6 s.2.1), (7, i6 s.2.2)]
def W4 (a0 : List UInt8) (s : (Int × Int × Int)) : AHeap := []
def Uh (a0 : List UInt8) (o : ((List UInt8) × Int × Int)) : Exit → Env → AHeap → Nat → Prop := (qq 0 (Yi Tryd.prog Yf 0 z9l (zg2 a0 o)))
noncomputable def zu (m : Option Nat) (a0 : List UInt8) (v13 : Int) (v14 : Int) (v15 : Int) : Option ((Int × Int × Int) ⊕ ((List UInt8) × Int × Int)) :=
 some (.inl (v13, v14, (W (v15 + 1))))
theorem Jr {a0 : List UInt8} {v13 : Int} {v14 : Int} {v15 : Int} {m : Option Nat} {o : ((Int × Int × Int) ⊕ ((List UInt8) × Int × Int))} (h : zu m a0 v13 v14 v15 = some o) :
 LWp Tryd.prog Yf 0 zed (vj 0 0 (Qz a0) (W4 a0) (Uh a0) o) [(0, .str a0), (5, i6 v13), (6, i6 v14), (7, i6 v15)] [] 0 := by
 unfold zu at h
 refine zw ?_
 cases h
 exact AI rfl (x3 (M := []) rfl (S4 rfl rfl rfl rfl TT) TT)
noncomputable def yr (m : Option Nat) (a0 : List UInt8) : Option ((List UInt8) × Int × Int) :=
 if (decide ((a0.length : Int) ≥ 500)) = true then
  some (([] : List UInt8), 0, 4)
 else
  some (([] : List UInt8), 0, 0)
noncomputable def zb (m : Option Nat) (a0 : List UInt8) (v5 : Int) (v6 : Int) (v7 : Int) : Option ((Int × Int × Int) ⊕ ((List UInt8) × Int × Int)) :=
 if (decide ((W (v7 + 1)) < (a0.length : Int))) = true then
  if (0 : Int) ≤ v7 ∧ v7 < (a0.length : Int) then
  if ((((((a0.getD v7.toNat 0).toNat : Nat) : Int) != 13) == false) = true → (0 : Int) ≤ (W (v7 + 1)) ∧ (W (v7 + 1)) < (a0.length : Int)) then
  if (((((a0.getD v7.toNat 0).toNat : Nat) : Int) != 13) || ((((a0.getD (W (v7 + 1)).toNat 0).toNat : Nat) : Int) != 10)) = true then
   zu m a0 v5 v6 v7
  else
   if (0 : Int) ≤ v6 ∧ v6 ≤ v7 ∧ v7 ≤ (a0.length : Int) then
   if (decide ((W (v7 + 2)) > 500)) = true then
    Option.map Sum.inr (
     some (([] : List UInt8), 0, 4))
   else
    if (((a0.take v7.toNat).drop v6.toNat) == ([] : List UInt8)) = true then
     if (decide (v5 < 0)) = true then
      Option.map Sum.inr (
       some (([] : List UInt8), 0, 4))
     else
      if (decide ((a0.length : Int) < (W ((W (v7 + 2)) + v5)))) = true then
       Option.map Sum.inr (
        some (([] : List UInt8), 0, 0))
      else
       if (0 : Int) ≤ (W (v7 + 2)) ∧ (W (v7 + 2)) ≤ (W ((W (v7 + 2)) + v5)) ∧ (W ((W (v7 + 2)) + v5)) ≤ (a0.length : Int) then
       Option.map Sum.inr (
        some (((a0.take (W ((W (v7 + 2)) + v5)).toNat).drop (W (v7 + 2)).toNat), (W ((W (v7 + 2)) + v5)), 0))
       else none
    else
     (qe m ((a0.take v7.toNat).drop v6.toNat)).bind fun v12 =>
     if ((!v12.2) || ((decide (v12.1 ≥ 0)) && (decide (v5 ≥ 0)))) = true then
      Option.map Sum.inr (
       some (([] : List UInt8), 0, 4))
     else
      if (decide (v12.1 ≥ 0)) = true then
       zu m a0 v12.1 (W (v7 + 2)) (W (v7 + 1))
      else
       zu m a0 v5 (W (v7 + 2)) (W (v7 + 1))
   else none
  else none
  else none
 else
  Option.map Sum.inr (
   yr m a0)
noncomputable def za (m : Option Nat) (a0 : List UInt8) (v5 : Int) (v6 : Int) (v7 : Int) : Option ((List UInt8) × Int × Int) := vi m (fun (s : (Int × Int × Int)) => zb m a0 s.1 s.2.1 s.2.2) (v5, v6, v7)
theorem z83 {a0 : List UInt8} {m : Option Nat} {o : ((List UInt8) × Int × Int)} (h : yr m a0 = some o) :
 LWp Tryd.prog Yf 0 z9l (zg2 a0 o) [(0, .str a0)] [] 0 := by
 unfold yr at h
 refine ze ?_
 refine ze (zw ?_)
 refine qz (v := (decide ((a0.length : Int) ≥ 500))) rfl TT (fun h40 => ?_) (fun h40 => ?_)
 ·have h := y3 h40 h
  refine ze (zw ?_)
  refine w7 ?_
  cases h
  exact AI TT (AI TT (AI TT (AI rfl (VS rfl))))
 ·have h := yg h40 h
  refine xe ?_
  refine ze (zw ?_)
  refine w7 ?_
  cases h
  exact AI TT (AI TT (AI TT (AI rfl (VS rfl))))
theorem z6s {a0 : List UInt8} {v5 : Int} {v6 : Int} {v7 : Int} {m : Option Nat} {o : (Int × Int × Int) ⊕ ((List UInt8) × Int × Int)} (h : zb m a0 v5 v6 v7 = some o) :
 LWp Tryd.prog Yf 0 zcw (vj 0 0 (Qz a0) (W4 a0) (Uh a0) o) [(0, .str a0), (5, i6 v5), (6, i6 v6), (7, i6 v7)] [] 0 := by
 unfold zb at h
 refine ze ?_
 refine ze (zw ?_)
 refine qz (v := (decide ((W (v7 + 1)) < (a0.length : Int)))) rfl TT (fun h27 => ?_) (fun h27 => ?_)
 ·have h := y3 h27 h
  refine xe ?_
  refine ze ?_
  refine xk ?_
  refine ze ?_
  refine ze (zw ?_)
  obtain ⟨h28, h⟩ := zh h
  refine AI h28 ?_
  refine AI (fun hp => hp) ?_
  obtain ⟨h29, h⟩ := zh h
  refine AI (fun hp => (AI (AI hp hp) (h29 hp))) ?_
  refine AI (fun hp => hp) ?_
  refine AI (fun hc => (bqf hc)) ?_
  refine LWp.sim (e := [(0, .str a0), (5, i6 v5), (6, i6 v6), (7, i6 v7), (28, .bool (((((a0.getD v7.toNat 0).toNat : Nat) : Int) != 13) || ((((a0.getD (W (v7 + 1)).toNat 0).toNat : Nat) : Int) != 10)))]) (L := []) (n := 0) ?_ ?_
  ·exact x3 (M := []) rfl (S4 rfl rfl rfl rfl (AI (VS rfl) TT)) TT
  refine qz (v := (((((a0.getD v7.toNat 0).toNat : Nat) : Int) != 13) || ((((a0.getD (W (v7 + 1)).toNat 0).toNat : Nat) : Int) != 10))) rfl TT (fun h30 => ?_) (fun h30 => ?_)
  ·have h := y3 h30 h
   refine Yn ?_
   refine LWp.sim ?_ (Jr h)
   exact x3 (M := []) rfl (S4 rfl rfl rfl rfl TT) TT
  ·have h := yg h30 h
   refine xe ?_
   refine ze (zw ?_)
   obtain ⟨h31, h⟩ := zh h
   refine AI h31 ?_
   refine ze (zw ?_)
   refine LWp.sim (e := [(0, .str a0), (5, i6 v5), (6, i6 (W (v7 + 2))), (7, i6 v7), (8, .str ((a0.take v7.toNat).drop v6.toNat))]) (L := []) (n := 0) ?_ ?_
   ·exact x3 (M := []) rfl (S4 rfl rfl rfl rfl (AI (VS rfl) TT)) TT
   refine ze (zw ?_)
   refine ze ?_
   refine ze (zw ?_)
   refine qz (v := (decide ((W (v7 + 2)) > 500))) rfl TT (fun h32 => ?_) (fun h32 => ?_)
   ·have h := y3 h32 h
    refine ze (zw ?_)
    refine LWp.sim (e := [(2, .str []), (3, i6 0), (4, i6 4)]) (L := []) (n := 0) ?_ ?_
    ·exact x3 (M := []) rfl (S2 rfl rfl (AI (VS rfl) TT)) TT
    refine w7 ?_
    obtain ⟨o, hq, rfl⟩ := Option.map_eq_some_iff.1 h
    replace h := hq; clear hq
    refine AI nofun ?_
    cases h
    exact AI TT (AI TT (AI TT (AI rfl (VS rfl))))
   ·have h := yg h32 h
    refine xe ?_
    refine ze ?_
    refine ze (zw ?_)
    refine qz (v := (((a0.take v7.toNat).drop v6.toNat) == ([] : List UInt8))) rfl TT (fun h33 => ?_) (fun h33 => ?_)
    ·have h := y3 h33 h
     refine ze ?_
     refine ze (zw ?_)
     refine LWp.sim (e := [(0, .str a0), (5, i6 v5), (6, i6 (W (v7 + 2))), (42, .bool (decide (v5 < 0)))]) (L := []) (n := 0) ?_ ?_
     ·exact x3 (M := []) rfl (S4 rfl rfl rfl rfl TT) TT
     refine qz (v := (decide (v5 < 0))) rfl TT (fun h34 => ?_) (fun h34 => ?_)
     ·have h := y3 h34 h
      refine ze (zw ?_)
      refine w7 ?_
      obtain ⟨o, hq, rfl⟩ := Option.map_eq_some_iff.1 h
      replace h := hq; clear hq
      refine AI nofun ?_
      cases h
      exact AI TT (AI TT (AI TT (AI rfl (VS rfl))))
     ·have h := yg h34 h
      refine xe ?_
      refine ze ?_
      refine ze (zw ?_)
      refine qz (v := (decide ((a0.length : Int) < (W ((W (v7 + 2)) + v5))))) rfl TT (fun h35 => ?_) (fun h35 => ?_)
      ·have h := y3 h35 h
       refine ze (zw ?_)
       refine LWp.sim (e := [(2, .str []), (3, i6 0), (4, i6 0)]) (L := []) (n := 0) ?_ ?_
       ·exact x3 (M := []) rfl (S2 rfl rfl (AI (VS rfl) TT)) TT
       refine w7 ?_
       obtain ⟨o, hq, rfl⟩ := Option.map_eq_some_iff.1 h
       replace h := hq; clear hq
       refine AI nofun ?_
       cases h
       exact AI TT (AI TT (AI TT (AI rfl (VS rfl))))
      ·have h := yg h35 h
       refine xe ?_
       refine ze (zw ?_)
       obtain ⟨h36, h⟩ := zh h
       refine AI h36 ?_
       refine LWp.sim (e := [(2, .str ((a0.take (W ((W (v7 + 2)) + v5)).toNat).drop (W (v7 + 2)).toNat)), (3, i6 (W ((W (v7 + 2)) + v5))), (4, i6 0)]) (L := []) (n := 0) ?_ ?_
       ·exact x3 (M := []) rfl (S2 rfl rfl (AI (VS rfl) TT)) TT
       refine w7 ?_
       obtain ⟨o, hq, rfl⟩ := Option.map_eq_some_iff.1 h
       replace h := hq; clear hq
       refine AI nofun ?_
       cases h
       exact AI TT (AI TT (AI TT (AI rfl (VS rfl))))
    ·have h := yg h33 h
     refine xe ?_
     refine ze (zw ?_)
     obtain ⟨v12, h37, h⟩ := bind_some h
     refine PFn.call (zer h37) (AI (VS rfl) TT) ?_
     refine LWp.sim (e := [(0, .str a0), (5, i6 v5), (6, i6 (W (v7 + 2))), (7, i6 (W (v7 + 1))), (9, i6 v12.1), (10, .bool v12.2)]) (L := []) (n := 0) ?_ ?_
     ·exact x3 (M := []) rfl (S4 rfl rfl rfl rfl (S2 rfl rfl TT)) TT
     refine ze ?_
     refine ze (zw ?_)
     refine AI (fun hp => hp) ?_
     refine AI (fun hp => hp) ?_
     refine AI (fun hp => hp) ?_
     refine AI (fun hp => (AI hp (fun hc => (Kw hp (bqt hc))))) ?_
     refine AI (fun hc => (bqf hc)) ?_
     refine LWp.sim (e := [(0, .str a0), (5, i6 v5), (6, i6 (W (v7 + 2))), (7, i6 (W (v7 + 1))), (9, i6 v12.1), (72, .bool ((!v12.2) || ((decide (v12.1 ≥ 0)) && (decide (v5 ≥ 0)))))]) (L := []) (n := 0) ?_ ?_
     ·exact x3 (M := []) rfl (S4 rfl rfl rfl rfl (S2 rfl rfl TT)) TT
     refine qz (v := ((!v12.2) || ((decide (v12.1 ≥ 0)) && (decide (v5 ≥ 0))))) rfl TT (fun h38 => ?_) (fun h38 => ?_)
     ·have h := y3 h38 h
      refine ze (zw ?_)
      refine w7 ?_
      obtain ⟨o, hq, rfl⟩ := Option.map_eq_some_iff.1 h
      replace h := hq; clear hq
      refine AI nofun ?_
      cases h
      exact AI TT (AI TT (AI TT (AI rfl (VS rfl))))
     ·have h := yg h38 h
      refine xe ?_
      refine ze (zw ?_)
      refine qz (v := (decide (v12.1 ≥ 0))) rfl TT (fun h39 => ?_) (fun h39 => ?_)
      ·have h := y3 h39 h
       refine zw ?_
       refine LWp.sim ?_ (Jr h)
       exact x3 (M := []) rfl (S4 rfl rfl rfl rfl TT) TT
      ·have h := yg h39 h
       refine xe ?_
       refine LWp.sim ?_ (Jr h)
       exact x3 (M := []) rfl (S4 rfl rfl rfl rfl TT) TT
 ·have h := yg h27 h
  refine Yn ?_
  obtain ⟨o, hq, rfl⟩ := Option.map_eq_some_iff.1 h
  replace h := hq; clear hq
  refine AI nofun ?_
  refine LWp.sim ?_ (z83 h)
  exact x3 (M := []) rfl (AI (VS rfl) TT) TT
theorem z9a {a0 : List UInt8} {v5 : Int} {v6 : Int} {v7 : Int} {m : Option Nat} {o : ((List UInt8) × Int × Int)} (h : za m a0 v5 v6 v7 = some o) :
 LWp Tryd.prog Yf 0 (.loop zcw) (qq 0 (Yi Tryd.prog Yf 0 z9l (zg2 a0 o))) [(0, .str a0), (5, i6 v5), (6, i6 v6), (7, i6 v7)] [] 0 :=
 xi (m := m) (s := ((v5, v6, v7) : (Int × Int × Int))) (r := o) (fun (s : (Int × Int × Int)) => zb m a0 s.1 s.2.1 s.2.2) (Qz a0) (W4 a0) (Uh a0) (fun s o h => z6s h) h
noncomputable def yp (m : Option Nat) (a0 : List UInt8) : Option ((List UInt8) × Int × Int) :=
 za m a0 (-1) 0 0
theorem z96 {a0 : List UInt8} {m : Option Nat} {o : (List UInt8) × Int × Int} (h : yp m a0 = some o) : LWp Tryd.prog Yf 0 zf0 (zg2 a0 o) (qk 0 [.str a0]) [] 0 := by
 unfold yp at h
 refine ze (zw ?_)
 refine ze (zw ?_)
 refine ze ?_
 refine ze (zw ?_)
 refine xk ?_
 refine LWp.sim ?_ (z9a h)
 exact x3 (M := []) rfl (S4 rfl rfl rfl rfl TT) TT
theorem zgb {a0 : List UInt8} {m : Option Nat} {o : (List UInt8) × Int × Int} (h : yp m a0 = some o) : PFn Tryd.prog 9 [.str a0] (.tup [.str o.1, i6 o.2.1, i6 o.2.2]) := PFn.ofFnW (L := zh7) zfn zel (NB rfl) rfl (z96 h)
def z69 : LCode := (.block 1
 (.seq (.region [Qm 11 0,
  Qm 12 6,
  Qo 13 (.slStr (.t 11) (some (.t 12)) none),
  Qc 14 9 13,
  Qm 10 14,
  Qo 15 (.ext 0 (.t 10)),
  Qo 16 (.ext 1 (.t 10)),
  Qo 17 (.ext 2 (.t 10)),
  Qm 7 15,
  Qm 8 16,
  Qm 9 17])
 (.seq (.seq (.region [Qm 18 9,
  Qo 19 (.bin .neq (.t 18) (.c (i6 0)))])
 (.cond (.t 19)
  (.seq (.region [Qm 20 9,
   Qo 2 (.mv (.c (.val (.slice none 0 0)))),
   Qi 3 0,
   Qm 4 20])
  .ret)
  .skip))
 (.seq (.seq (.region [Qm 21 8,
  Qo 22 (.bin .eql (.t 21) (.c (i6 0)))])
 (.cond (.t 22)
  (.seq (.region [Qm 23 5,
   Qm 24 6,
   Qm 2 23,
   Qm 3 24,
   Qi 4 0])
  .ret)
  .skip))
 (.seq (.region [Qm 25 5,
  Qm 26 7,
  Qo 27 (.mkSl true 1 [(.str [])] 1 [(0, (.t 26))]),
  Qo 28 (.app true 1 16 (.t 25) (.t 27)),
  Qm 5 28])
 (.region [Qm 29 6,
  Qm 30 8,
  Qo 31 (.bin .add (.t 29) (.t 30)),
  Qm 6 31]))))))
def zah : LCode := (.seq (.region [Qo 2 (.mv (.c (.val (.slice none 0 0)))),
 Qi 3 0,
 Qi 4 0])
 (.seq (.region [Qo 5 (.mv (.c (.val (.slice none 0 0))))])
 (.seq (.region [Qi 6 0])
 (.block 0
  (.loop
   z69)))))
def W1 : Lay := ⟨32, [], false⟩
def z4i : List LRes := [.t 2, .t 3, .t 4]
def zft : LFn := ⟨1, W1, zah, z4i⟩
theorem zbr : wb Tryd.prog [] 11 = some zft := by kernel_rfl
theorem zbb : k6 Tryd.prog 11 := ⟨_, Tryd.func11, rfl, rfl⟩
def zbk (a0 : List UInt8) (o : (List (List UInt8)) × Int × Int) : Exit → Env → AHeap → Nat → Prop := Ys z4i (j0 (.tup [.isl 1 (o.1.map z7) false, i6 o.2.1, i6 o.2.2]))
def Ja (a0 : List UInt8) (s : ((List (List UInt8)) × Int)) : Env := [(0, .str a0), (5, .osl (0, 0) 1 (s.1.map z7)), (6, i6 s.2)]
def Kt (a0 : List UInt8) (s : ((List (List UInt8)) × Int)) : AHeap := [((0, 0), .tok)]
def z0x (a0 : List UInt8) (o : ((List (List UInt8)) × Int × Int)) : Exit → Env → AHeap → Nat → Prop := (qq 0 (zbk a0 o))
noncomputable def zz (m : Option Nat) (a0 : List UInt8) (v2 : List (List UInt8)) (v3 : Int) : Option (((List (List UInt8)) × Int) ⊕ ((List (List UInt8)) × Int × Int)) :=
 if (0 : Int) ≤ v3 ∧ v3 ≤ (a0.length : Int) then
 (yp m ((a0.take a0.length).drop v3.toNat)).bind fun v5 =>
 if (v5.2.2 != 0) = true then
  Option.map Sum.inr (
   some ([], 0, v5.2.2))
 else
  if (v5.2.1 == 0) = true then
   Option.map Sum.inr (
    some (v2, v3, 0))
  else
   if ((v2 ++ ([v5.1] : List (List UInt8))).map z7).length * 16 ≤ 140737488355328 then
   some (.inl ((v2 ++ ([v5.1] : List (List UInt8))), (W (v3 + v5.2.1))))
   else none
 else none
noncomputable def qu (m : Option Nat) (a0 : List UInt8) (v2 : List (List UInt8)) (v3 : Int) : Option ((List (List UInt8)) × Int × Int) := vi m (fun (s : ((List (List UInt8)) × Int)) => zz m a0 s.1 s.2) (v2, v3)
theorem z2u {a0 : List UInt8} {v2 : List (List UInt8)} {v3 : Int} {m : Option Nat} {o : ((List (List UInt8)) × Int) ⊕ ((List (List UInt8)) × Int × Int)} (h : zz m a0 v2 v3 = some o) :
 LWp Tryd.prog W1 0 z69 (vj 0 1 (Ja a0) (Kt a0) (z0x a0) o) [(0, .str a0), (5, .osl (0, 0) 1 (v2.map z7)), (6, i6 v3)] [((0, 0), .tok)] 1 := by
 unfold zz at h
 refine xk ?_
 refine ze (zw ?_)
 obtain ⟨h10, h⟩ := zh h
 refine AI (AI (And.left h10) (AI (And.right h10) (Int.le_refl _))) ?_
 obtain ⟨v5, h11, h⟩ := bind_some h
 refine PFn.call (zgb h11) (AI (VS rfl) TT) ?_
 refine LWp.sim (e := [(0, .str a0), (5, .osl (0, 0) 1 (v2.map z7)), (6, i6 v3), (7, .str v5.1), (8, i6 v5.2.1), (9, i6 v5.2.2)]) (L := [((0, 0), .tok)]) (n := 1) ?_ ?_
 ·exact x3 (M := [((0, 0), (0, 0))]) rfl (AI (VS rfl) (AI (Vw.osl _ _ _ _ rfl) (S4 rfl rfl rfl rfl TT))) (AI (AI rfl BVw.tok) TT)
 refine ze ?_
 refine ze (zw ?_)
 refine qz (v := (v5.2.2 != 0)) rfl TT (fun h12 => ?_) (fun h12 => ?_)
 ·have h := y3 h12 h
  refine ze (zw ?_)
  refine w7 ?_
  obtain ⟨o, hq, rfl⟩ := Option.map_eq_some_iff.1 h
  replace h := hq; clear hq
  refine AI nofun ?_
  cases h
  exact AI TT (AI TT (AI TT (AI rfl (Vw.tupL (AI (Vw.nilI _ _) (S2 rfl rfl TT))))))
 ·have h := yg h12 h
  refine xe ?_
  refine ze ?_
  refine ze (zw ?_)
  refine qz (v := (v5.2.1 == 0)) rfl TT (fun h13 => ?_) (fun h13 => ?_)
  ·have h := y3 h13 h
   refine ze (zw ?_)
   refine LWp.sim (e := [(2, .osl (0, 0) 1 (v2.map z7)), (3, i6 v3), (4, i6 0)]) (L := [((0, 0), .tok)]) (n := 1) ?_ ?_
   ·exact x3 (M := [((0, 0), (0, 0))]) rfl (AI (Vw.osl _ _ _ _ rfl) (S2 rfl rfl TT)) (AI (AI rfl BVw.tok) TT)
   refine w7 ?_
   obtain ⟨o, hq, rfl⟩ := Option.map_eq_some_iff.1 h
   replace h := hq; clear hq
   refine AI nofun ?_
   cases h
   exact AI TT (AI TT (AI TT (AI rfl (Vw.tupL (AI (Vw.oslI _ _ _) (S2 rfl rfl TT))))))
  ·have h := yg h13 h
   refine xe ?_
   refine ze (zw ?_)
   obtain ⟨h14, h⟩ := zh h
   refine EX ((v2 ++ ([v5.1] : List (List UInt8))).map z7) (AI (z5b z7 v2 ([v5.1] : List (List UInt8))) (AI h14 ?_))
   refine LWp.sim (e := [(0, .str a0), (5, .osl (0, 0) 1 ((v2 ++ ([v5.1] : List (List UInt8))).map z7)), (6, i6 v3), (8, i6 v5.2.1)]) (L := [((0, 0), .tok)]) (n := 1) ?_ ?_
   ·exact x3 (M := [((0, 0), (1, 0))]) rfl (AI (VS rfl) (AI (Vw.osl _ _ _ _ rfl) (S2 rfl rfl TT))) (AI (AI rfl BVw.tok) TT)
   refine zw ?_
   cases h
   exact AI rfl (x3 (M := [((0, 0), (0, 0))]) rfl (AI (VS rfl) (AI (Vw.osl _ _ _ _ rfl) (AI (VS rfl) TT))) (AI (AI rfl BVw.tok) TT))
theorem z5m {a0 : List UInt8} {v2 : List (List UInt8)} {v3 : Int} {m : Option Nat} {o : ((List (List UInt8)) × Int × Int)} (h : qu m a0 v2 v3 = some o) :
 LWp Tryd.prog W1 0 (.loop z69) (qq 0 (zbk a0 o)) [(0, .str a0), (5, .osl (0, 0) 1 (v2.map z7)), (6, i6 v3)] [((0, 0), .tok)] 1 :=
 xi (m := m) (s := ((v2, v3) : ((List (List UInt8)) × Int))) (r := o) (fun (s : ((List (List UInt8)) × Int)) => zz m a0 s.1 s.2) (Ja a0) (Kt a0) (z0x a0) (fun s o h => z2u h) h
noncomputable def y7 (m : Option Nat) (a0 : List UInt8) : Option ((List (List UInt8)) × Int × Int) :=
 qu m a0 [] 0
theorem z4d {a0 : List UInt8} {m : Option Nat} {o : (List (List UInt8)) × Int × Int} (h : y7 m a0 = some o) : LWp Tryd.prog W1 0 zah (zbk a0 o) (qk 0 [.str a0]) [] 0 := by
 unfold y7 at h
 refine ze (zw ?_)
 refine ze (zw ?_)
 refine ze (zw ?_)
 refine xk ?_
 refine LWp.sim ?_ (z5m h)
 exact x3 (M := []) rfl (AI (VS rfl) (AI (Vw.nilO _ _ (by decide)) (AI (VS rfl) TT))) (AI (AI rfl (AI (by decide) (by decide))) TT)
theorem zfv {a0 : List UInt8} {m : Option Nat} {o : (List (List UInt8)) × Int × Int} (h : y7 m a0 = some o) : PFn Tryd.prog 11 [.str a0] (.tup [.isl 1 (o.1.map z7) false, i6 o.2.1, i6 o.2.2]) := PFn.ofFnW (L := zft) zbr zbb (NB rfl) rfl (z4d h)
def z4y : LCode := (.seq (.region [Qo 15 (.bin .lss (.t 14) (.t 13))])
 (.seq (.cond (.t 15)
  .skip
  (.exit 0))
 (.seq (.block 1
  (.seq (.region [Qm 16 14,
   Qo 17 (.iaddr 1 (.t 12) (.t 14)),
   Ql 18 1 17,
   Qm 5 16,
   Qm 6 18])
  (.seq (.region [Qm 19 6,
   Qm 20 1,
   Qm 21 5,
   Qo 22 (.iaddr 1 (.t 20) (.t 21)),
   Ql 23 1 22,
   Qo 24 (.bin .neq (.t 19) (.t 23))])
  (.cond (.t 24)
   (.seq (.region [Qb 4])
   .ret)
   .skip))))
 (.region [Qo 25 (.bin .add (.t 14) (.c (i6 1))),
  Qm 14 25]))))
def z1z : LCode := (.seq (.region [Qo 4 (.mv (.c (.bool true)))])
 .ret)
def zay : LCode := (.seq (.region [Qb 4])
 (.seq (.seq (.region [Qm 7 0,
  Qo 8 (.len false (.t 7)),
  Qm 9 1,
  Qo 10 (.len false (.t 9)),
  Qo 11 (.bin .neq (.t 8) (.t 10))])
 (.cond (.t 11)
  (.seq (.region [Qb 4])
  .ret)
  .skip))
 (.seq (.seq (.region [Qm 12 0,
  Qo 13 (.len false (.t 12)),
  Qi 14 0])
 (.block 0
  (.loop
   z4y)))
 z1z)))
def Z1 : Lay := ⟨26, [], false⟩
def z5k : List LRes := [.t 4]
def zfj : LFn := ⟨2, Z1, zay, z5k⟩
theorem zcz : wb Tryd.prog [] 12 = some zfj := by kernel_rfl
theorem zcv : k6 Tryd.prog 12 := ⟨_, Tryd.func12, rfl, rfl⟩
def za7 (a0 : List (List UInt8)) (a1 : List (List UInt8)) (o : Bool) : Exit → Env → AHeap → Nat → Prop := Ys z5k (j0 (.bool o))
def Xx (a0 : List (List UInt8)) (a1 : List (List UInt8)) (s : Int) : Env := [(1, .isl 1 (a1.map z7) false), (12, .isl 1 (a0.map z7) false), (13, i6 ((a0.map z7).length : Int)), (14, i6 s)]
def Vj (a0 : List (List UInt8)) (a1 : List (List UInt8)) (s : Int) : AHeap := []
def z0k (a0 : List (List UInt8)) (a1 : List (List UInt8)) (o : Bool) : Exit → Env → AHeap → Nat → Prop := (qq 0 (Yi Tryd.prog Z1 0 z1z (za7 a0 a1 o)))
noncomputable def qo (m : Option Nat) : Option Bool :=
 some true
noncomputable def zj (m : Option Nat) (a0 : List (List UInt8)) (a1 : List (List UInt8)) (v1 : Int) : Option (Int ⊕ Bool) :=
 if (decide (v1 < ((a0.map z7).length : Int))) = true then
  if (0 : Int) ≤ v1 ∧ v1 < ((a0.map z7).length : Int) then
  if (0 : Int) ≤ v1 ∧ v1 < ((a1.map z7).length : Int) then
  if (!((a0.getD v1.toNat default) == (a1.getD v1.toNat default))) = true then
   Option.map Sum.inr (
    some false)
  else
   some (.inl (W (v1 + 1)))
  else none
  else none
 else
  Option.map Sum.inr (
   qo m)
noncomputable def y6 (m : Option Nat) (a0 : List (List UInt8)) (a1 : List (List UInt8)) (v1 : Int) : Option Bool := vi m (fun (s : Int) => zj m a0 a1 s) v1
theorem z4z {a0 : List (List UInt8)} {a1 : List (List UInt8)} {m : Option Nat} {o : Bool} (h : qo m = some o) :
 LWp Tryd.prog Z1 0 z1z (za7 a0 a1 o) [] [] 0 := by
 unfold qo at h
 refine ze (zw ?_)
 refine w7 ?_
 cases h
 exact AI TT (AI rfl (VS rfl))
theorem z25 {a0 : List (List UInt8)} {a1 : List (List UInt8)} {v1 : Int} {m : Option Nat} {o : Int ⊕ Bool} (h : zj m a0 a1 v1 = some o) :
 LWp Tryd.prog Z1 0 z4y (vj 0 0 (Xx a0 a1) (Vj a0 a1) (z0k a0 a1) o) [(1, .isl 1 (a1.map z7) false), (12, .isl 1 (a0.map z7) false), (13, i6 ((a0.map z7).length : Int)), (14, i6 v1)] [] 0 := by
 unfold zj at h
 refine ze (zw ?_)
 refine ze ?_
 refine qz (v := (decide (v1 < ((a0.map z7).length : Int)))) rfl TT (fun h10 => ?_) (fun h10 => ?_)
 ·have h := y3 h10 h
  refine xe ?_
  refine ze ?_
  refine xk ?_
  refine ze (zw ?_)
  obtain ⟨h11, h⟩ := zh h
  refine AI h11 ?_
  refine EX (z7 (a0.getD v1.toNat default)) (AI (Yv z7 _ _ (W5 z7 h11)) (AI (AI (z17 h11) (NB rfl)) ?_))
  refine ze (zw ?_)
  obtain ⟨h12, h⟩ := zh h
  refine AI h12 ?_
  refine EX (z7 (a1.getD v1.toNat default)) (AI (Yv z7 _ _ (W5 z7 h12)) (AI (AI (z17 h12) (NB rfl)) ?_))
  refine LWp.sim (e := [(1, .isl 1 (a1.map z7) false), (12, .isl 1 (a0.map z7) false), (13, i6 ((a0.map z7).length : Int)), (14, i6 v1), (24, .bool (!((a0.getD v1.toNat default) == (a1.getD v1.toNat default))))]) (L := []) (n := 0) ?_ ?_
  ·exact x3 (M := []) rfl (S4 rfl rfl rfl rfl (AI (VS rfl) TT)) TT
  refine qz (v := (!((a0.getD v1.toNat default) == (a1.getD v1.toNat default)))) rfl TT (fun h13 => ?_) (fun h13 => ?_)
  ·have h := y3 h13 h
   refine ze (zw ?_)
   refine w7 ?_
   obtain ⟨o, hq, rfl⟩ := Option.map_eq_some_iff.1 h
   replace h := hq; clear hq
   refine AI nofun ?_
   cases h
   exact AI TT (AI rfl (VS rfl))
  ·have h := yg h13 h
   refine xe ?_
   refine zw ?_
   cases h
   exact AI rfl (x3 (M := []) rfl (S4 rfl rfl rfl rfl TT) TT)
 ·have h := yg h10 h
  refine Yn ?_
  obtain ⟨o, hq, rfl⟩ := Option.map_eq_some_iff.1 h
  replace h := hq; clear hq
  refine AI nofun ?_
  refine LWp.sim ?_ (z4z h)
  exact x3 (M := []) rfl TT TT
theorem z6f {a0 : List (List UInt8)} {a1 : List (List UInt8)} {v1 : Int} {m : Option Nat} {o : Bool} (h : y6 m a0 a1 v1 = some o) :
 LWp Tryd.prog Z1 0 (.loop z4y) (qq 0 (Yi Tryd.prog Z1 0 z1z (za7 a0 a1 o))) [(1, .isl 1 (a1.map z7) false), (12, .isl 1 (a0.map z7) false), (13, i6 ((a0.map z7).length : Int)), (14, i6 v1)] [] 0 :=
 xi (m := m) (s := (v1 : Int)) (r := o) (fun (s : Int) => zj m a0 a1 s) (Xx a0 a1) (Vj a0 a1) (z0k a0 a1) (fun s o h => z25 h) h
noncomputable def y5 (m : Option Nat) (a0 : List (List UInt8)) (a1 : List (List UInt8)) : Option Bool :=
 if (((a0.map z7).length : Int) != ((a1.map z7).length : Int)) = true then
  some false
 else
  y6 m a0 a1 0
theorem z4j {a0 : List (List UInt8)} {a1 : List (List UInt8)} {m : Option Nat} {o : Bool} (h : y5 m a0 a1 = some o) : LWp Tryd.prog Z1 0 zay (za7 a0 a1 o) (qk 0 [.isl 1 (a0.map z7) false, .isl 1 (a1.map z7) false]) [] 0 := by
 unfold y5 at h
 refine ze (zw ?_)
 refine ze ?_
 refine ze (zw ?_)
 refine qz (v := (((a0.map z7).length : Int) != ((a1.map z7).length : Int))) rfl TT (fun h1 => ?_) (fun h1 => ?_)
 ·have h := y3 h1 h
  refine ze (zw ?_)
  refine w7 ?_
  cases h
  exact AI TT (AI rfl (VS rfl))
 ·have h := yg h1 h
  refine xe ?_
  refine ze ?_
  refine ze (zw ?_)
  refine LWp.sim (e := [(1, .isl 1 (a1.map z7) false), (12, .isl 1 (a0.map z7) false), (13, i6 ((a0.map z7).length : Int)), (14, i6 0)]) (L := []) (n := 0) ?_ ?_
  ·exact x3 (M := []) rfl (S4 rfl rfl rfl rfl TT) TT
  refine xk ?_
  refine LWp.sim ?_ (z6f h)
  exact x3 (M := []) rfl (S4 rfl rfl rfl rfl TT) TT
theorem zfi {a0 : List (List UInt8)} {a1 : List (List UInt8)} {m : Option Nat} {o : Bool} (h : y5 m a0 a1 = some o) : PFn Tryd.prog 12 [.isl 1 (a0.map z7) false, .isl 1 (a1.map z7) false] (.bool o) := PFn.ofFnW (L := zfj) zcz zcv (NB rfl) rfl (z4j h)
def z1u : LCode := (.seq (.region [Qo 2 (.mv (.c (.str [])))])
 (.seq (.region [Qm 3 0,
  Qo 4 (.nilck (.t 3)),
  Qf 5 0 4,
  Ql 6 1 5,
  Qm 2 6])
 .ret))
def K4 : Lay := ⟨7, [], false⟩
def V0 : List LRes := [.t 2]
def z3y : LFn := ⟨1, K4, z1u, V0⟩
theorem z7m : wb Tryd.prog [] 15 = some z3y := by kernel_rfl
theorem z6y : k6 Tryd.prog 15 := ⟨_, Tryd.func15, rfl, rfl⟩
noncomputable def q8 (m : Option Nat) (a0 : List UInt8) (a1 : Bool) : Option (List UInt8) :=
 some a0
def zda (a0 : List UInt8) (a1 : Bool) (o : (List UInt8)) : Exit → Env → AHeap → Nat → Prop := Ys V0 (K7 3 3 (.str o) [((0, 0), .one [.str a0, .bool a1])])
theorem z07 {a0 : List UInt8} {a1 : Bool} {m : Option Nat} {o : (List UInt8)} (h : q8 m a0 a1 = some o) : LWp Tryd.prog K4 3 z1u (zda a0 a1 o) (qk 0 [.ptr (0, 0) 0 0]) [((0, 0), .one [.str a0, .bool a1])] 3 := by
 unfold q8 at h
 refine ze (zw ?_)
 refine ze (zw ?_)
 refine w7 ?_
 cases h
 exact AI TT (z9e (n' := 3) [] [] rfl rfl (VS rfl) (AI (AI rfl (OL rfl)) TT))
theorem z9u {a0 : List UInt8} {a1 : Bool} {m : Option Nat} {o : (List UInt8)} (h : q8 m a0 a1 = some o) : ACalls Tryd.prog 15 [.ptr (0, 0) 0 0] [((0, 0), .one [.str a0, .bool a1])] 3 (Ym 3 (.str o) [((0, 0), .one [.str a0, .bool a1])]) := Ks (L := z3y) z7m z6y (NB rfl) (z07 h)
def zfb : LCode := (.seq (.region [Qm 52 9,
 Qm 53 12,
 Qo 54 (.bin .neq (.t 52) (.t 53)),
 Qm 55 54,
 Qn 56 8 (55, false),
 Qn 57 10 (55, false),
 Qg 58 (.call 12 [(.t 56), (.t 57)]) (55, false),
 Qg 59 (.un .not (.t 58)) (55, false),
 Qo 60 (.pick (.t 55) (.c (.bool true)) (.t 59)),
 Qm 61 60,
 Qn 62 3 (61, false),
 Qg 63 (.call 15 [(.t 62)]) (61, false),
 Qn 64 4 (61, false),
 Qg 65 (.bin .neq (.t 63) (.t 64)) (61, false),
 Qo 66 (.pick (.t 61) (.c (.bool true)) (.t 65))])
 (.cond (.t 66)
  (.seq (.region [Qb 2])
  .ret)
  .skip))
def ze0 : LCode := (.seq (.region [Qm 44 12,
 Qo 45 (.bin .neq (.t 44) (.c (i6 0))),
 Qm 5 45])
 (.seq (.seq (.region [Qm 46 5])
 (.cond (.t 46)
  (.region [Qo 4 (.mv (.c (.str [])))])
  (.region [Qm 47 4,
   Qm 48 7,
   Qo 49 (.bin .add (.t 47) (.t 48)),
   Qm 50 11,
   Qo 51 (.slStr (.t 49) (some (.t 50)) none),
   Qm 4 51])))
 zfb))
def zch : LCode := (.region [Qo 67 (.bin .add (.t 24) (.c (i6 1))),
 Qm 24 67])
def zcm : LCode := (.seq (.region [Qo 25 (.bin .lss (.t 24) (.t 23))])
 (.seq (.cond (.t 25)
  .skip
  (.exit 0))
 (.seq (.block 1
  (.seq (.region [Qo 26 (.iaddr 1 (.t 22) (.t 24)),
   Ql 27 1 26,
   Qm 7 27])
  (.seq (.region [Qm 29 3,
   Qm 30 7,
   Qo 31 (.call 14 [(.t 29), (.t 30)]),
   Qm 28 31,
   Qo 32 (.ext 0 (.t 28)),
   Qo 33 (.ext 1 (.t 28)),
   Qm 8 32,
   Qm 9 33])
  (.seq (.region [Qo 10 (.mv (.c (.val (.slice none 0 0))))])
  (.seq (.region [Qi 11 0,
   Qi 12 4])
  (.seq (.seq (.region [Qm 34 5,
   Qo 35 (.un .not (.t 34))])
  (.cond (.t 35)
   (.region [Qm 37 4,
    Qm 38 7,
    Qo 39 (.bin .add (.t 37) (.t 38)),
    Qc 40 11 39,
    Qm 36 40,
    Qo 41 (.ext 0 (.t 36)),
    Qo 42 (.ext 1 (.t 36)),
    Qo 43 (.ext 2 (.t 36)),
    Qm 10 41,
    Qm 11 42,
    Qm 12 43])
   .skip))
  ze0))))))
 zch)))
def z8s : LCode := (.seq (.region [Qo 68 (.call 5 []),
 Qm 2 68])
 .ret)
def ze5 : LCode := (.seq (.region [Qb 2])
 (.seq (.seq (.region [Qo 13 (.call 5 []),
  Qo 14 (.un .not (.t 13))])
 (.cond (.t 14)
  (.seq (.region [Qb 2])
  .ret)
  .skip))
 (.seq (.region [Qo 15 (.call 13 []),
  Qm 3 15])
 (.seq (.seq (.region [Qm 16 3,
  Qo 17 (.eq false .ptr (.t 16) (.c (.val (.pointer none))))])
 (.cond (.t 17)
  (.seq (.region [Qb 2])
  .ret)
  .skip))
 (.seq (.region [Qo 4 (.mv (.c (.str []))),
  Qb 5])
 (.seq (.seq (.region [Qm 18 0,
  Qm 19 0,
  Qo 20 (.len false (.t 19)),
  Qo 21 (.mnx false [(.t 20), (.c (i6 15))]),
  Qo 22 (.slSl 1 (.t 18) none (some (.t 21)) none),
  Qo 23 (.len false (.t 22)),
  Qi 24 0])
 (.block 0
  (.loop
   zcm)))
 z8s))))))
def kx : Lay := ⟨69, [], false⟩
def zat : List LRes := [.t 2]
def zh2 : LFn := ⟨1, kx, ze5, zat⟩
theorem zfp : wb Tryd.prog [] 4 = some zh2 := by kernel_rfl
theorem ze8 : k6 Tryd.prog 4 := ⟨_, Tryd.func4, rfl, rfl⟩
def zg3 (a0 : List (List UInt8)) (o : Bool) : Exit → Env → AHeap → Nat → Prop := Ys zat (j0 (.bool o))
def Zc (a0 : List (List UInt8)) (s : ((List UInt8) × Bool × Int × (List UInt8) × Bool)) : Env := [(3, .ptr (0, 0) 0 0), (4, .str s.1), (5, .bool s.2.1), (22, .isl 1 ((a0.take (if 15 < ((a0.map z7).length : Int) then 15 else ((a0.map z7).length : Int)).toNat).map z7) false), (23, i6 (((a0.take (if 15 < ((a0.map z7).length : Int) then 15 else ((a0.map z7).length : Int)).toNat).map z7).length : Int)), (24, i6 s.2.2.1)]
def Yw (a0 : List (List UInt8)) (s : ((List UInt8) × Bool × Int × (List UInt8) × Bool)) : AHeap := [((0, 0), .one [.str s.2.2.2.1, .bool s.2.2.2.2])]
def Wv (a0 : List (List UInt8)) (o : Bool) : Exit → Env → AHeap → Nat → Prop := (qq 0 (Yi Tryd.prog kx 0 z8s (zg3 a0 o)))
noncomputable def zn (m : Option Nat) (a0 : List (List UInt8)) (v13 : Int) (v24 : (List (List UInt8)) × Int × (List UInt8) × Bool) (v26 : List (List UInt8)) (v28 : Int) (v29 : List UInt8) : Option (((List UInt8) × Bool × Int × (List UInt8) × Bool) ⊕ Bool) :=
 (if ((v24.2.1 != v28) == false) = true then y5 m v24.1 v26 else some default).bind fun v30 =>
 (if (((v24.2.1 != v28) || (!v30)) == false) = true then q8 m v24.2.2.1 v24.2.2.2 else some default).bind fun v31 =>
 if (((v24.2.1 != v28) || (!v30)) || (!(v31 == v29))) = true then
  Option.map Sum.inr (
   some false)
 else
  some (.inl (v29, (v28 != 0), (W (v13 + 1)), v24.2.2.1, v24.2.2.2))
theorem z0e {a0 : List (List UInt8)} {v13 : Int} {v24 : (List (List UInt8)) × Int × (List UInt8) × Bool} {v26 : List (List UInt8)} {v28 : Int} {v29 : List UInt8} {m : Option Nat} {o : (((List UInt8) × Bool × Int × (List UInt8) × Bool) ⊕ Bool)} (h : zn m a0 v13 v24 v26 v28 v29 = some o) :
 LWp Tryd.prog kx 0 zfb (qq 1 (Yi Tryd.prog kx 0 zch (vj 0 1 (Zc a0) (Yw a0) (Wv a0) o))) [(3, .ptr (0, 0) 0 0), (4, .str v29), (5, .bool (v28 != 0)), (8, .isl 1 (v24.1.map z7) false), (9, i6 v24.2.1), (10, .isl 1 (v26.map z7) false), (12, i6 v28), (22, .isl 1 ((a0.take (if 15 < ((a0.map z7).length : Int) then 15 else ((a0.map z7).length : Int)).toNat).map z7) false), (23, i6 (((a0.take (if 15 < ((a0.map z7).length : Int) then 15 else ((a0.map z7).length : Int)).toNat).map z7).length : Int)), (24, i6 v13)] [((0, 0), .one [.str v24.2.2.1, .bool v24.2.2.2])] 1 := by
 unfold zn at h
 refine ze (zw ?_)
 obtain ⟨v30, h38, h⟩ := bind_some h
 refine Or.inl (EX (.bool v30) (AI (fun hp => AI (AI hp hp) (PFn.call (zfi (y3 hp h38)) (S2 rfl rfl TT) (AI rfl (AI rfl rfl)))) ?_))
 refine AI (fun hp => hp) ?_
 refine AI (fun hc => (bqf hc)) ?_
 obtain ⟨v31, h39, h⟩ := bind_some h
 refine Or.inl (EX (.str v31) (AI (fun hp => AI hp (ACalls.same rfl (z5a (k := 3) (m := 0) (L' := [((0, 0), .one [.str v24.2.2.1, .bool v24.2.2.2])]) (rest := []) (R' := .str v31) [((0, 0), (0, 0))] (z9u (y3 hp h39)) rfl rfl rfl (SP rfl TT) (AI (h0I (0, 0) rfl rfl (OL rfl)) TT) (ut _ rfl) (AI rfl (AI rfl TT)) rfl (AI rfl (HeapTo.get (AI (AI rfl (OL rfl)) TT)))))) ?_))
 refine AI (fun hp => (AI hp hp)) ?_
 refine AI (fun hc => (bqf hc)) ?_
 refine LWp.sim (e := [(3, .ptr (0, 0) 0 0), (4, .str v29), (5, .bool (v28 != 0)), (22, .isl 1 ((a0.take (if 15 < ((a0.map z7).length : Int) then 15 else ((a0.map z7).length : Int)).toNat).map z7) false), (23, i6 (((a0.take (if 15 < ((a0.map z7).length : Int) then 15 else ((a0.map z7).length : Int)).toNat).map z7).length : Int)), (24, i6 v13), (66, .bool (((v24.2.1 != v28) || (!v30)) || (!(v31 == v29))))]) (L := [((0, 0), .one [.str v24.2.2.1, .bool v24.2.2.2])]) (n := 1) ?_ ?_
 ·exact x3 (M := [((0, 0), (0, 0))]) rfl (SP rfl (S4 rfl rfl rfl rfl (S2 rfl rfl TT))) (AI (AI rfl (OL rfl)) TT)
 refine qz (v := (((v24.2.1 != v28) || (!v30)) || (!(v31 == v29)))) rfl TT (fun h40 => ?_) (fun h40 => ?_)
 ·have h := y3 h40 h
  refine ze (zw ?_)
  refine w7 ?_
  obtain ⟨o, hq, rfl⟩ := Option.map_eq_some_iff.1 h
  replace h := hq; clear hq
  refine AI nofun ?_
  cases h
  exact AI TT (AI rfl (VS rfl))
 ·have h := yg h40 h
  refine xe ?_
  refine zw ?_
  cases h
  exact AI rfl (x3 (M := [((0, 0), (0, 0))]) rfl (SP rfl (S4 rfl rfl rfl rfl (AI (VS rfl) TT))) (AI (AI rfl (OL rfl)) TT))
noncomputable def zd (m : Option Nat) (a0 : List (List UInt8)) (v11 : List UInt8) (v13 : Int) (v24 : (List (List UInt8)) × Int × (List UInt8) × Bool) (v26 : List (List UInt8)) (v27 : Int) (v28 : Int) : Option (((List UInt8) × Bool × Int × (List UInt8) × Bool) ⊕ Bool) :=
 if (v28 != 0) = true then
  zn m a0 v13 v24 v26 v28 ([] : List UInt8)
 else
  if (((v11.length + ((a0.take (if 15 < ((a0.map z7).length : Int) then 15 else ((a0.map z7).length : Int)).toNat).getD v13.toNat default).length : Nat) : Int) ≤ 9223372036854775807) then
  if (0 : Int) ≤ v27 ∧ v27 ≤ ((v11 ++ ((a0.take (if 15 < ((a0.map z7).length : Int) then 15 else ((a0.map z7).length : Int)).toNat).getD v13.toNat default)).length : Int) then
  zn m a0 v13 v24 v26 v28 (((v11 ++ ((a0.take (if 15 < ((a0.map z7).length : Int) then 15 else ((a0.map z7).length : Int)).toNat).getD v13.toNat default)).take (v11 ++ ((a0.take (if 15 < ((a0.map z7).length : Int) then 15 else ((a0.map z7).length : Int)).toNat).getD v13.toNat default)).length).drop v27.toNat)
  else none
  else none
theorem z1d {a0 : List (List UInt8)} {v11 : List UInt8} {v13 : Int} {v24 : (List (List UInt8)) × Int × (List UInt8) × Bool} {v26 : List (List UInt8)} {v27 : Int} {v28 : Int} {m : Option Nat} {o : (((List UInt8) × Bool × Int × (List UInt8) × Bool) ⊕ Bool)} (h : zd m a0 v11 v13 v24 v26 v27 v28 = some o) :
 LWp Tryd.prog kx 0 ze0 (qq 1 (Yi Tryd.prog kx 0 zch (vj 0 1 (Zc a0) (Yw a0) (Wv a0) o))) [(3, .ptr (0, 0) 0 0), (4, .str v11), (7, .str ((a0.take (if 15 < ((a0.map z7).length : Int) then 15 else ((a0.map z7).length : Int)).toNat).getD v13.toNat default)), (8, .isl 1 (v24.1.map z7) false), (9, i6 v24.2.1), (10, .isl 1 (v26.map z7) false), (11, i6 v27), (12, i6 v28), (22, .isl 1 ((a0.take (if 15 < ((a0.map z7).length : Int) then 15 else ((a0.map z7).length : Int)).toNat).map z7) false), (23, i6 (((a0.take (if 15 < ((a0.map z7).length : Int) then 15 else ((a0.map z7).length : Int)).toNat).map z7).length : Int)), (24, i6 v13)] [((0, 0), .one [.str v24.2.2.1, .bool v24.2.2.2])] 1 := by
 unfold zd at h
 refine ze (zw ?_)
 refine ze ?_
 refine ze (zw ?_)
 refine qz (v := (v28 != 0)) rfl TT (fun h35 => ?_) (fun h35 => ?_)
 ·have h := y3 h35 h
  refine zw ?_
  refine LWp.sim ?_ (z0e h)
  exact x3 (M := [((0, 0), (0, 0))]) rfl (SP rfl (S4 rfl rfl rfl rfl (S4 rfl rfl rfl rfl (AI (VS rfl) TT)))) (AI (AI rfl (OL rfl)) TT)
 ·have h := yg h35 h
  refine zw ?_
  obtain ⟨h36, h⟩ := zh h
  refine AI h36 ?_
  obtain ⟨h37, h⟩ := zh h
  refine AI (AI (And.left h37) (AI (And.right h37) (Int.le_refl _))) ?_
  refine LWp.sim ?_ (z0e h)
  exact x3 (M := [((0, 0), (0, 0))]) rfl (SP rfl (S4 rfl rfl rfl rfl (S4 rfl rfl rfl rfl (AI (VS rfl) TT)))) (AI (AI rfl (OL rfl)) TT)
noncomputable def yt (m : Option Nat) : Option Bool :=
 (y4 (some 4096)).bind fun v32 =>
 some v32
noncomputable def zc (m : Option Nat) (a0 : List (List UInt8)) (v11 : List UInt8) (v12 : Bool) (v13 : Int) (v14 : List UInt8) (v15 : Bool) : Option (((List UInt8) × Bool × Int × (List UInt8) × Bool) ⊕ Bool) :=
 if (decide (v13 < (((a0.take (if 15 < ((a0.map z7).length : Int) then 15 else ((a0.map z7).length : Int)).toNat).map z7).length : Int))) = true then
  if (0 : Int) ≤ v13 ∧ v13 < (((a0.take (if 15 < ((a0.map z7).length : Int) then 15 else ((a0.map z7).length : Int)).toNat).map z7).length : Int) then
  (qi m ((a0.take (if 15 < ((a0.map z7).length : Int) then 15 else ((a0.map z7).length : Int)).toNat).getD v13.toNat default) v14 v15).bind fun v24 =>
  if (!v12) = true then
   if (((v11.length + ((a0.take (if 15 < ((a0.map z7).length : Int) then 15 else ((a0.map z7).length : Int)).toNat).getD v13.toNat default).length : Nat) : Int) ≤ 9223372036854775807) then
   (y7 m (v11 ++ ((a0.take (if 15 < ((a0.map z7).length : Int) then 15 else ((a0.map z7).length : Int)).toNat).getD v13.toNat default))).bind fun v25 =>
   zd m a0 v11 v13 v24 v25.1 v25.2.1 v25.2.2
   else none
  else
   zd m a0 v11 v13 v24 [] 0 4
  else none
 else
  Option.map Sum.inr (
   yt m)
noncomputable def y1 (m : Option Nat) (a0 : List (List UInt8)) (v11 : List UInt8) (v12 : Bool) (v13 : Int) (v14 : List UInt8) (v15 : Bool) : Option Bool := vi m (fun (s : ((List UInt8) × Bool × Int × (List UInt8) × Bool)) => zc m a0 s.1 s.2.1 s.2.2.1 s.2.2.2.1 s.2.2.2.2) (v11, v12, v13, v14, v15)
theorem z89 {a0 : List (List UInt8)} {m : Option Nat} {o : Bool} (h : yt m = some o) :
 LWp Tryd.prog kx 0 z8s (zg3 a0 o) [] [] 0 := by
 unfold yt at h
 refine ze (zw ?_)
 obtain ⟨v32, h41, h⟩ := bind_some h
 refine PFn.call (ze1 h41) TT ?_
 refine w7 ?_
 cases h
 exact AI TT (AI rfl (VS rfl))
theorem z5d {a0 : List (List UInt8)} {v11 : List UInt8} {v12 : Bool} {v13 : Int} {v14 : List UInt8} {v15 : Bool} {m : Option Nat} {o : ((List UInt8) × Bool × Int × (List UInt8) × Bool) ⊕ Bool} (h : zc m a0 v11 v12 v13 v14 v15 = some o) :
 LWp Tryd.prog kx 0 zcm (vj 0 1 (Zc a0) (Yw a0) (Wv a0) o) [(3, .ptr (0, 0) 0 0), (4, .str v11), (5, .bool v12), (22, .isl 1 ((a0.take (if 15 < ((a0.map z7).length : Int) then 15 else ((a0.map z7).length : Int)).toNat).map z7) false), (23, i6 (((a0.take (if 15 < ((a0.map z7).length : Int) then 15 else ((a0.map z7).length : Int)).toNat).map z7).length : Int)), (24, i6 v13)] [((0, 0), .one [.str v14, .bool v15])] 1 := by
 unfold zc at h
 refine ze (zw ?_)
 refine ze ?_
 refine qz (v := (decide (v13 < (((a0.take (if 15 < ((a0.map z7).length : Int) then 15 else ((a0.map z7).length : Int)).toNat).map z7).length : Int)))) rfl TT (fun h29 => ?_) (fun h29 => ?_)
 ·have h := y3 h29 h
  refine xe ?_
  refine ze ?_
  refine xk ?_
  refine ze (zw ?_)
  obtain ⟨h30, h⟩ := zh h
  refine AI h30 ?_
  refine EX (z7 ((a0.take (if 15 < ((a0.map z7).length : Int) then 15 else ((a0.map z7).length : Int)).toNat).getD v13.toNat default)) (AI (Yv z7 _ _ (W5 z7 h30)) (AI (AI (z17 h30) (NB rfl)) ?_))
  refine ze (zw ?_)
  obtain ⟨v24, h31, h⟩ := bind_some h
  refine z5a (k := 3) (m := 0) (L' := [((0, 0), .one [.str v24.2.2.1, .bool v24.2.2.2])]) (rest := []) (R' := .tup [.isl 1 (v24.1.map z7) false, i6 v24.2.1]) [((0, 0), (0, 0))] (za0 h31) rfl rfl rfl (SP rfl (AI (VS rfl) TT)) (AI (h0I (0, 0) rfl rfl (OL rfl)) TT) (ut _ rfl) (AI rfl (AI rfl TT)) rfl ?_
  refine LWp.sim (e := [(3, .ptr (0, 0) 0 0), (4, .str v11), (5, .bool v12), (7, .str ((a0.take (if 15 < ((a0.map z7).length : Int) then 15 else ((a0.map z7).length : Int)).toNat).getD v13.toNat default)), (8, .isl 1 (v24.1.map z7) false), (9, i6 v24.2.1), (22, .isl 1 ((a0.take (if 15 < ((a0.map z7).length : Int) then 15 else ((a0.map z7).length : Int)).toNat).map z7) false), (23, i6 (((a0.take (if 15 < ((a0.map z7).length : Int) then 15 else ((a0.map z7).length : Int)).toNat).map z7).length : Int)), (24, i6 v13)]) (L := [((0, 0), .one [.str v24.2.2.1, .bool v24.2.2.2])]) (n := 1) ?_ ?_
  ·exact x3 (M := [((0, 0), (0, 0))]) rfl (SP rfl (S4 rfl rfl rfl rfl (S4 rfl rfl rfl rfl TT))) (AI (AI rfl (OL rfl)) TT)
  refine ze (zw ?_)
  refine ze (zw ?_)
  refine ze ?_
  refine ze (zw ?_)
  refine qz (v := (!v12)) rfl TT (fun h32 => ?_) (fun h32 => ?_)
  ·have h := y3 h32 h
   refine zw ?_
   obtain ⟨h33, h⟩ := zh h
   refine AI h33 ?_
   obtain ⟨v25, h34, h⟩ := bind_some h
   refine PFn.call (zfv h34) (AI (VS rfl) TT) ?_
   refine LWp.sim ?_ (z1d h)
   exact x3 (M := [((0, 0), (0, 0))]) rfl (SP rfl (S4 rfl rfl rfl rfl (S4 rfl rfl rfl rfl (S2 rfl rfl TT)))) (AI (AI rfl (OL rfl)) TT)
  ·have h := yg h32 h
   refine xe ?_
   refine LWp.sim ?_ (z1d h)
   exact x3 (M := [((0, 0), (0, 0))]) rfl (SP rfl (S4 rfl rfl rfl rfl (AI (Vw.nilI _ _) (S4 rfl rfl rfl rfl (AI (VS rfl) TT))))) (AI (AI rfl (OL rfl)) TT)
 ·have h := yg h29 h
  refine Yn ?_
  obtain ⟨o, hq, rfl⟩ := Option.map_eq_some_iff.1 h
  replace h := hq; clear hq
  refine AI nofun ?_
  refine LWp.sim ?_ (z89 h)
  exact x3 (M := []) rfl TT TT
theorem z90 {a0 : List (List UInt8)} {v11 : List UInt8} {v12 : Bool} {v13 : Int} {v14 : List UInt8} {v15 : Bool} {m : Option Nat} {o : Bool} (h : y1 m a0 v11 v12 v13 v14 v15 = some o) :
 LWp Tryd.prog kx 0 (.loop zcm) (qq 0 (Yi Tryd.prog kx 0 z8s (zg3 a0 o))) [(3, .ptr (0, 0) 0 0), (4, .str v11), (5, .bool v12), (22, .isl 1 ((a0.take (if 15 < ((a0.map z7).length : Int) then 15 else ((a0.map z7).length : Int)).toNat).map z7) false), (23, i6 (((a0.take (if 15 < ((a0.map z7).length : Int) then 15 else ((a0.map z7).length : Int)).toNat).map z7).length : Int)), (24, i6 v13)] [((0, 0), .one [.str v14, .bool v15])] 1 :=
 xi (m := m) (s := ((v11, v12, v13, v14, v15) : ((List UInt8) × Bool × Int × (List UInt8) × Bool))) (r := o) (fun (s : ((List UInt8) × Bool × Int × (List UInt8) × Bool)) => zc m a0 s.1 s.2.1 s.2.2.1 s.2.2.2.1 s.2.2.2.2) (Zc a0) (Yw a0) (Wv a0) (fun s o h => z5d h) h
noncomputable def ya (m : Option Nat) (a0 : List (List UInt8)) : Option Bool :=
 (y4 (some 4096)).bind fun v1 =>
 if (!v1) = true then
  some false
 else
  (x5 m).bind fun v2 =>
  if (0 : Int) ≤ (if 15 < ((a0.map z7).length : Int) then 15 else ((a0.map z7).length : Int)) ∧ (if 15 < ((a0.map z7).length : Int) then 15 else ((a0.map z7).length : Int)) ≤ ((a0.map z7).length : Int) then
  y1 m a0 ([] : List UInt8) false 0 ([] : List UInt8) false
  else none
theorem z9r {a0 : List (List UInt8)} {m : Option Nat} {o : Bool} (h : ya m a0 = some o) : LWp Tryd.prog kx 0 ze5 (zg3 a0 o) (qk 0 [.isl 1 (a0.map z7) false]) [] 0 := by
 unfold ya at h
 refine ze (zw ?_)
 refine ze ?_
 refine ze (zw ?_)
 obtain ⟨v1, h1, h⟩ := bind_some h
 refine PFn.call (ze1 h1) TT ?_
 refine qz (v := (!v1)) rfl TT (fun h2 => ?_) (fun h2 => ?_)
 ·have h := y3 h2 h
  refine ze (zw ?_)
  refine w7 ?_
  cases h
  exact AI TT (AI rfl (VS rfl))
 ·have h := yg h2 h
  refine xe ?_
  refine ze (zw ?_)
  obtain ⟨v2, h3, h⟩ := bind_some h
  refine z5a (k := 3) (m := 1) (L' := [((0, 0), .one [.str [], .bool false])]) (rest := []) (R' := .ptr (0, 0) 0 0) [] (z8q h3) rfl rfl rfl TT TT rfl (AI rfl (AI rfl TT)) rfl ?_
  refine ze ?_
  refine ze (zw ?_)
  refine qz (v := false) rfl TT (fun hc => Bool.noConfusion hc) (fun hc => ?_)
  refine xe ?_
  refine ze (zw ?_)
  refine LWp.sim (e := [(0, .isl 1 (a0.map z7) false), (3, .ptr (0, 0) 0 0), (4, .str []), (5, .bool false)]) (L := [((0, 0), .one [.str [], .bool false])]) (n := 1) ?_ ?_
  ·exact x3 (M := [((0, 0), (0, 0))]) rfl (AI (VS rfl) (SP rfl (S2 rfl rfl TT))) (AI (AI rfl (OL rfl)) TT)
  refine ze ?_
  refine ze (zw ?_)
  obtain ⟨h4, h⟩ := zh h
  refine EX (.isl 1 ((a0.take (if 15 < ((a0.map z7).length : Int) then 15 else ((a0.map z7).length : Int)).toNat).map z7) false) (AI (zcj z7 (slB z7 a0 _) rfl) (AI (AI rfl (AI (Int.le_refl _) h4)) ?_))
  refine xk ?_
  refine LWp.sim ?_ (z90 h)
  exact x3 (M := [((0, 0), (0, 0))]) rfl (SP rfl (S4 rfl rfl rfl rfl (AI (VS rfl) TT))) (AI (AI rfl (OL rfl)) TT)
theorem zgh {a0 : List (List UInt8)} {m : Option Nat} {o : Bool} (h : ya m a0 = some o) : PFn Tryd.prog 4 [.isl 1 (a0.map z7) false] (.bool o) := PFn.ofFnW (L := zh2) zfp ze8 (NB rfl) rfl (z9r h)
end Go.Proofs.YtbinocieebfpiaaDoor
