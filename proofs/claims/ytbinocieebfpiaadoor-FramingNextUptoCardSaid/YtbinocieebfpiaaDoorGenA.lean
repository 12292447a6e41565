/-
  Own text GenA of this claim: what functions of the given program compute, in plain Lean, and the proof; no condition.
-/
import Derived.Test.YtbinocieebfpiaaDoorChecked
import Derived.Test.YtbinocieebfpiaaDoorFxN
import Derived.Test.YtbinocieebfpiaaDoorFxMd
import Derived.Test.YtbinocieebfpiaaDoorFxLg
import Derived.Test.YtbinocieebfpiaaDoorFxIt
import Derived.Test.YtbinocieebfpiaaDoorFxIx
import Derived.Test.YtbinocieebfpiaaDoorFxLb
import Derived.Test.YtbinocieebfpiaaDoorLib
import Derived.Test.YtbinocieebfpiaaDoorEv
import Derived.Test.YtbinocieebfpiaaDoorFxAb
import Derived.KernelRfl
namespace Go.Proofs.YtbinocieebfpiaaDoor
open Go.Fx
set_option linter.unusedVariables false
set_option maxHeartbeats 4000000
set_option maxHeartbeats 1600000
def qd (x : List UInt8) : List AVal := [.str x]
theorem zf8 (x : List UInt8) : AVal.nid.nidL (qd x) = true ∧ ∀ y ∈ qd x, y.imm = some y := ⟨rfl, by simp [qd, AVal.imm]⟩
def xu (m : Option Nat) (a0 a1 : Int) : Option (List UInt8) := if (-9223372036854775808 ≤ a0 ∧ a0 ≤ 9223372036854775807) ∧ a1 = 10 then some (Go.Lib.itoa a0) else none
theorem zb0 : ki Tryd.prog 31 := ⟨_, Tryd.func31, rfl, rfl⟩
theorem ze9 {m : Option Nat} {a0 a1 : Int} {o : List UInt8} (h : xu m a0 a1 = some o) : PFn Tryd.prog 31 [i6 a0, i6 a1] (.str o) := by
 unfold xu at h
 split at h
 ·rename_i hc
  obtain ⟨hc, rfl⟩ := hc
  cases h
  exact z7z Tryd.l31 rfl zb0 zfd zfu hc
 ·cases h
def z9v : LCode := (.seq (.region [Qo 2 (.mv (.c (.str [])))])
 (.seq (.region [Qm 3 0,
  Qo 4 (.call 31 [(.t 3), (.c (i6 10))]),
  Qm 2 4])
 .ret))
def z5s : Lay := ⟨5, [], false⟩
def z32 : List LRes := [.t 2]
def zdx : LFn := ⟨1, z5s, z9v, z32⟩
theorem zcg : wm Tryd.prog [] 20 = some zdx := by kernel_rfl
theorem zbg : ki Tryd.prog 20 := ⟨_, Tryd.func20, rfl, rfl⟩
noncomputable def xm (m : Option Nat) (a0 : Int) : Option (List UInt8) :=
 (xu m a0 10).bind fun v1 =>
 some v1
def zfx (a0 : Int) (o : (List UInt8)) : Exit → Env → AHeap → Nat → Prop := Xa z32 (j3 (.str o))
theorem z6f {a0 : Int} {m : Option Nat} {o : (List UInt8)} (h : xm m a0 = some o) : LWp Tryd.prog z5s 0 z9v (zfx a0 o) (qp 0 [i6 a0]) [] 0 := by
 unfold xm at h
 refine zc (zz ?_)
 refine zc (zz ?_)
 obtain ⟨v1, h1, h⟩ := bind_some h
 refine PFn.call (ze9 h1) (S2 rfl rfl TT) ?_
 refine w3 ?_
 cases h
 exact AI TT (AI rfl (VS rfl))
theorem zet {a0 : Int} {m : Option Nat} {o : (List UInt8)} (h : xm m a0 = some o) : PFn Tryd.prog 20 [i6 a0] (.str o) := PFn.ofFnW (L := zdx) zcg zbg (NB rfl) rfl (z6f h)
def z9g : LCode := (.seq (.region [Qo 2 (.mv (.c (.str [])))])
 (.seq (.region [Qm 3 0,
  Qc 4 20 3,
  Qm 2 4])
 .ret))
def z3b : Lay := ⟨5, [], false⟩
def z3h : List LRes := [.t 2]
def zeb : LFn := ⟨1, z3b, z9g, z3h⟩
theorem zcb : wm Tryd.prog [] 16 = some zeb := by kernel_rfl
theorem zba : ki Tryd.prog 16 := ⟨_, Tryd.func16, rfl, rfl⟩
noncomputable def xz (m : Option Nat) (a0 : Int) : Option (List UInt8) :=
 (xm m a0).bind fun v1 =>
 some v1
def zfc (a0 : Int) (o : (List UInt8)) : Exit → Env → AHeap → Nat → Prop := Xa z3h (j3 (.str o))
theorem z2t {a0 : Int} {m : Option Nat} {o : (List UInt8)} (h : xz m a0 = some o) : LWp Tryd.prog z3b 0 z9g (zfc a0 o) (qp 0 [i6 a0]) [] 0 := by
 unfold xz at h
 refine zc (zz ?_)
 refine zc (zz ?_)
 obtain ⟨v1, h1, h⟩ := bind_some h
 refine PFn.call (zet h1) (AI (VS rfl) TT) ?_
 refine w3 ?_
 cases h
 exact AI TT (AI rfl (VS rfl))
theorem zdg {a0 : Int} {m : Option Nat} {o : (List UInt8)} (h : xz m a0 = some o) : PFn Tryd.prog 16 [i6 a0] (.str o) := PFn.ofFnW (L := zeb) zcb zba (NB rfl) rfl (z2t h)
def zdd : LCode := (.seq (.region [Qo 2 (.mv (.c (.str []))),
 Qi 3 0])
 (.seq (.seq (.region [Qm 4 0,
  Qo 5 (.len true (.t 4)),
  Qo 6 (.bin .gtr (.t 5) (.c (i6 4000)))])
 (.cond (.t 6)
  (.seq (.region [Qo 2 (.mv (.c (.str []))),
   Qi 3 2])
  .ret)
  .skip))
 (.seq (.region [Qm 7 0,
  Qo 8 (.len true (.t 7)),
  Qc 9 16 8,
  Qo 10 (.bin .add (.c (.str [67, 111, 110, 116, 101, 110, 116, 45, 76, 101, 110, 103, 116, 104, 58, 32])) (.t 9)),
  Qo 11 (.bin .add (.t 10) (.c (.str [13, 10]))),
  Qo 12 (.bin .add (.t 11) (.c (.str [13, 10]))),
  Qm 13 0,
  Qo 14 (.bin .add (.t 12) (.t 13)),
  Qm 2 14,
  Qi 3 0])
 .ret)))
def z9w : Lay := ⟨15, [], false⟩
def z9k : List LRes := [.t 2, .t 3]
def zg7 : LFn := ⟨1, z9w, zdd, z9k⟩
theorem zen : wm Tryd.prog [] 6 = some zg7 := by kernel_rfl
theorem zdw : ki Tryd.prog 6 := ⟨_, Tryd.func6, rfl, rfl⟩
noncomputable def xb (m : Option Nat) (a0 : List UInt8) : Option ((List UInt8) × Int) :=
 if (decide ((a0.length : Int) > 4000)) = true then
  some (([] : List UInt8), 2)
 else
  (xz m (a0.length : Int)).bind fun v1 =>
  if (((([67, 111, 110, 116, 101, 110, 116, 45, 76, 101, 110, 103, 116, 104, 58, 32] : List UInt8).length + v1.length : Nat) : Int) ≤ 9223372036854775807) then
  if ((((([67, 111, 110, 116, 101, 110, 116, 45, 76, 101, 110, 103, 116, 104, 58, 32] : List UInt8) ++ v1).length + ([13, 10] : List UInt8).length : Nat) : Int) ≤ 9223372036854775807) then
  if (((((([67, 111, 110, 116, 101, 110, 116, 45, 76, 101, 110, 103, 116, 104, 58, 32] : List UInt8) ++ v1) ++ ([13, 10] : List UInt8)).length + ([13, 10] : List UInt8).length : Nat) : Int) ≤ 9223372036854775807) then
  if ((((((([67, 111, 110, 116, 101, 110, 116, 45, 76, 101, 110, 103, 116, 104, 58, 32] : List UInt8) ++ v1) ++ ([13, 10] : List UInt8)) ++ ([13, 10] : List UInt8)).length + a0.length : Nat) : Int) ≤ 9223372036854775807) then
  some (((((([67, 111, 110, 116, 101, 110, 116, 45, 76, 101, 110, 103, 116, 104, 58, 32] : List UInt8) ++ v1) ++ ([13, 10] : List UInt8)) ++ ([13, 10] : List UInt8)) ++ a0), 0)
  else none
  else none
  else none
  else none
def zgt (a0 : List UInt8) (o : (List UInt8) × Int) : Exit → Env → AHeap → Nat → Prop := Xa z9k (j3 (.tup [.str o.1, i6 o.2]))
theorem z7t {a0 : List UInt8} {m : Option Nat} {o : (List UInt8) × Int} (h : xb m a0 = some o) : LWp Tryd.prog z9w 0 zdd (zgt a0 o) (qp 0 [.str a0]) [] 0 := by
 unfold xb at h
 refine zc (zz ?_)
 refine zc ?_
 refine zc (zz ?_)
 refine qz (v := (decide ((a0.length : Int) > 4000))) rfl TT (fun h1 => ?_) (fun h1 => ?_)
 ·have h := y4 h1 h
  refine zc (zz ?_)
  refine w3 ?_
  cases h
  exact AI TT (AI TT (AI rfl (VS rfl)))
 ·have h := yj h1 h
  refine xa ?_
  refine zc (zz ?_)
  obtain ⟨v1, h2, h⟩ := bind_some h
  refine PFn.call (zdg h2) (AI (VS rfl) TT) ?_
  obtain ⟨h3, h⟩ := zj h
  refine AI h3 ?_
  obtain ⟨h4, h⟩ := zj h
  refine AI h4 ?_
  obtain ⟨h5, h⟩ := zj h
  refine AI h5 ?_
  obtain ⟨h6, h⟩ := zj h
  refine AI h6 ?_
  refine LWp.sim (e := [(2, .str ((((([67, 111, 110, 116, 101, 110, 116, 45, 76, 101, 110, 103, 116, 104, 58, 32] : List UInt8) ++ v1) ++ ([13, 10] : List UInt8)) ++ ([13, 10] : List UInt8)) ++ a0)), (3, i6 0)]) (L := []) (n := 0) ?_ ?_
  ·exact x3 (M := []) rfl (S2 rfl rfl TT) TT
  refine w3 ?_
  cases h
  exact AI TT (AI TT (AI rfl (VS rfl)))
theorem zdf {a0 : List UInt8} {m : Option Nat} {o : (List UInt8) × Int} (h : xb m a0 = some o) : PFn Tryd.prog 6 [.str a0] (.tup [.str o.1, i6 o.2]) := PFn.ofFnW (L := zg7) zen zdw (NB rfl) rfl (z7t h)
def jf (m : Option Nat) (a0 : List UInt8) (a1 : List UInt8) : Option Int := if a0.length < 4294967281 then some (Go.Lib.index a0 a1) else none
theorem zca : ki Tryd.prog 17 := ⟨_, Tryd.func17, rfl, rfl⟩
theorem zd8 {m : Option Nat} {a0 : List UInt8} {a1 : List UInt8} {o : Int} (h : jf m a0 a1 = some o) : PFn Tryd.prog 17 [.str a0, .str a1] (i6 o) := by
 unfold jf at h
 split at h
 ·rename_i hc
  cases h
  exact z2p Tryd.l17 rfl zca zdi hc
 ·cases h
def wb (m : Option Nat) (a0 : List UInt8) (a1 : List UInt8) : Option ((List UInt8) × (List UInt8) × Bool) := if a0.length < 4294967281 then some (Go.Lib.cut a0 a1) else none
theorem zcj : ki Tryd.prog 22 := ⟨_, Tryd.func22, rfl, rfl⟩
theorem zdp {m : Option Nat} {a0 : List UInt8} {a1 : List UInt8} {o : (List UInt8) × (List UInt8) × Bool} (h : wb m a0 a1 = some o) : PFn Tryd.prog 22 [.str a0, .str a1] (.tup [.str o.1, .str o.2.1, .bool o.2.2]) := by
 unfold wb at h
 split at h
 ·rename_i hc
  cases h
  exact z8u Tryd.l22 rfl zcj zdi hc
 ·cases h
def z4u : LCode := (.seq (.region [Qo 7 (.bin .lss (.t 6) (.t 5))])
 (.seq (.cond (.t 7)
  .skip
  (.exit 0))
 (.seq (.block 1
  (.seq (.region [Qm 8 6,
   Qm 3 8])
  (.seq (.region [Qm 9 0,
   Qm 10 3,
   Qo 11 (.idxS (.t 9) (.t 10)),
   Qo 12 (.bin .leq (.t 11) (.c (.int .u8 32))),
   Qm 13 12,
   Qn 14 0 (13, false),
   Qn 15 3 (13, false),
   Qg 16 (.idxS (.t 14) (.t 15)) (13, false),
   Qg 17 (.bin .gtr (.t 16) (.c (.int .u8 126))) (13, false),
   Qo 18 (.pick (.t 13) (.c (.bool true)) (.t 17))])
  (.cond (.t 18)
   (.seq (.region [Qb 2])
   .ret)
   .skip))))
 (.region [Qo 19 (.bin .add (.t 6) (.c (i6 1))),
  Qm 6 19]))))
def z0m : LCode := (.seq (.region [Qm 20 0,
 Qo 21 (.bin .neq (.t 20) (.c (.str []))),
 Qm 2 21])
 .ret)
def z9z : LCode := (.seq (.region [Qb 2])
 (.seq (.seq (.region [Qm 4 0,
  Qo 5 (.len true (.t 4)),
  Qi 6 0])
 (.block 0
  (.loop
   z4u)))
 z0m))
def uy : Lay := ⟨22, [], false⟩
def z60 : List LRes := [.t 2]
def zd2 : LFn := ⟨1, uy, z9z, z60⟩
theorem zan : wm Tryd.prog [] 23 = some zd2 := by kernel_rfl
theorem zbj : ki Tryd.prog 23 := ⟨_, Tryd.func23, rfl, rfl⟩
def z93 (a0 : List UInt8) (o : Bool) : Exit → Env → AHeap → Nat → Prop := Xa z60 (j3 (.bool o))
def Ja (a0 : List UInt8) (s : Int) : Env := [(0, .str a0), (5, i6 (a0.length : Int)), (6, i6 s)]
def Kd (a0 : List UInt8) (s : Int) : AHeap := []
def z1f (a0 : List UInt8) (o : Bool) : Exit → Env → AHeap → Nat → Prop := (x7 0 (X9 Tryd.prog uy 0 z0m (z93 a0 o)))
noncomputable def x9 (m : Option Nat) (a0 : List UInt8) : Option Bool :=
 some (!(a0 == ([] : List UInt8)))
noncomputable def yl (m : Option Nat) (a0 : List UInt8) (v1 : Int) : Option (Int ⊕ Bool) :=
 if (decide (v1 < (a0.length : Int))) = true then
  if (0 : Int) ≤ v1 ∧ v1 < (a0.length : Int) then
  if (((decide ((((a0.getD v1.toNat 0).toNat : Nat) : Int) ≤ 32)) == false) = true → (0 : Int) ≤ v1 ∧ v1 < (a0.length : Int)) then
  if ((decide ((((a0.getD v1.toNat 0).toNat : Nat) : Int) ≤ 32)) || (decide ((((a0.getD v1.toNat 0).toNat : Nat) : Int) > 126))) = true then
   Option.map Sum.inr (
    some false)
  else
   some (.inl (W (v1 + 1)))
  else none
  else none
 else
  Option.map Sum.inr (
   x9 m a0)
noncomputable def qg (m : Option Nat) (a0 : List UInt8) (v1 : Int) : Option Bool := vb m (fun (s : Int) => yl m a0 s) v1
theorem z47 {a0 : List UInt8} {m : Option Nat} {o : Bool} (h : x9 m a0 = some o) :
 LWp Tryd.prog uy 0 z0m (z93 a0 o) [(0, .str a0)] [] 0 := by
 unfold x9 at h
 refine zc (zz ?_)
 refine w3 ?_
 cases h
 exact AI TT (AI rfl (VS rfl))
theorem z25 {a0 : List UInt8} {v1 : Int} {m : Option Nat} {o : Int ⊕ Bool} (h : yl m a0 v1 = some o) :
 LWp Tryd.prog uy 0 z4u (kh 0 0 (Ja a0) (Kd a0) (z1f a0) o) [(0, .str a0), (5, i6 (a0.length : Int)), (6, i6 v1)] [] 0 := by
 unfold yl at h
 refine zc (zz ?_)
 refine zc ?_
 refine qz (v := (decide (v1 < (a0.length : Int)))) rfl TT (fun h9 => ?_) (fun h9 => ?_)
 ·have h := y4 h9 h
  refine xa ?_
  refine zc ?_
  refine xn ?_
  refine zc (zz ?_)
  refine zc (zz ?_)
  obtain ⟨h10, h⟩ := zj h
  refine AI h10 ?_
  obtain ⟨h11, h⟩ := zj h
  refine AI (fun hp => (AI (AI hp hp) (h11 hp))) ?_
  refine AI (fun hp => hp) ?_
  refine AI (fun hc => (bqf hc)) ?_
  refine LWp.sim (e := [(0, .str a0), (5, i6 (a0.length : Int)), (6, i6 v1), (18, .bool ((decide ((((a0.getD v1.toNat 0).toNat : Nat) : Int) ≤ 32)) || (decide ((((a0.getD v1.toNat 0).toNat : Nat) : Int) > 126))))]) (L := []) (n := 0) ?_ ?_
  ·exact x3 (M := []) rfl (S4 rfl rfl rfl rfl TT) TT
  refine qz (v := ((decide ((((a0.getD v1.toNat 0).toNat : Nat) : Int) ≤ 32)) || (decide ((((a0.getD v1.toNat 0).toNat : Nat) : Int) > 126)))) rfl TT (fun h12 => ?_) (fun h12 => ?_)
  ·have h := y4 h12 h
   refine zc (zz ?_)
   refine w3 ?_
   obtain ⟨o, hq, rfl⟩ := Option.map_eq_some_iff.1 h
   replace h := hq; clear hq
   refine AI nofun ?_
   cases h
   exact AI TT (AI rfl (VS rfl))
  ·have h := yj h12 h
   refine xa ?_
   refine zz ?_
   cases h
   exact AI rfl (x3 (M := []) rfl (S2 rfl rfl (AI (VS rfl) TT)) TT)
 ·have h := yj h9 h
  refine Yz ?_
  obtain ⟨o, hq, rfl⟩ := Option.map_eq_some_iff.1 h
  replace h := hq; clear hq
  refine AI nofun ?_
  refine LWp.sim ?_ (z47 h)
  exact x3 (M := []) rfl (AI (VS rfl) TT) TT
theorem z5c {a0 : List UInt8} {v1 : Int} {m : Option Nat} {o : Bool} (h : qg m a0 v1 = some o) :
 LWp Tryd.prog uy 0 (.loop z4u) (x7 0 (X9 Tryd.prog uy 0 z0m (z93 a0 o))) [(0, .str a0), (5, i6 (a0.length : Int)), (6, i6 v1)] [] 0 :=
 xk (m := m) (s := (v1 : Int)) (r := o) (fun (s : Int) => yl m a0 s) (Ja a0) (Kd a0) (z1f a0) (fun s o h => z25 h) h
noncomputable def x5 (m : Option Nat) (a0 : List UInt8) : Option Bool :=
 qg m a0 0
theorem z6m {a0 : List UInt8} {m : Option Nat} {o : Bool} (h : x5 m a0 = some o) : LWp Tryd.prog uy 0 z9z (z93 a0 o) (qp 0 [.str a0]) [] 0 := by
 unfold x5 at h
 refine zc (zz ?_)
 refine zc ?_
 refine zc (zz ?_)
 refine xn ?_
 refine LWp.sim ?_ (z5c h)
 exact x3 (M := []) rfl (S2 rfl rfl (AI (VS rfl) TT)) TT
theorem zdh {a0 : List UInt8} {m : Option Nat} {o : Bool} (h : x5 m a0 = some o) : PFn Tryd.prog 23 [.str a0] (.bool o) := PFn.ofFnW (L := zd2) zan zbj (NB rfl) rfl (z6m h)
def z4s : LCode := (.seq (.region [Qo 8 (.bin .lss (.t 7) (.t 6))])
 (.seq (.cond (.t 8)
  .skip
  (.exit 0))
 (.seq (.block 1
  (.seq (.region [Qm 9 7,
   Qm 3 9])
  (.seq (.region [Qm 10 0,
   Qm 11 3,
   Qo 12 (.idxS (.t 10) (.t 11)),
   Qm 4 12])
  (.seq (.region [Qm 13 4,
   Qo 14 (.bin .neq (.t 13) (.c (.int .u8 9))),
   Qm 15 14,
   Qn 16 4 (15, true),
   Qg 17 (.bin .lss (.t 16) (.c (.int .u8 32))) (15, true),
   Qn 18 17 (15, true),
   Qn 19 4 (18, false),
   Qg 20 (.bin .gtr (.t 19) (.c (.int .u8 126))) (18, false),
   Qg 21 (.pick (.t 18) (.c (.bool true)) (.t 20)) (15, true),
   Qp 22 15 21])
  (.cond (.t 22)
   (.seq (.region [Qb 2])
   .ret)
   .skip)))))
 (.region [Qo 23 (.bin .add (.t 7) (.c (i6 1))),
  Qm 7 23]))))
def z03 : LCode := (.seq (.region [Qo 2 (.mv (.c (.bool true)))])
 .ret)
def z9n : LCode := (.seq (.region [Qb 2])
 (.seq (.seq (.region [Qm 5 0,
  Qo 6 (.len true (.t 5)),
  Qi 7 0])
 (.block 0
  (.loop
   z4s)))
 z03))
def uz : Lay := ⟨24, [], false⟩
def z6p : List LRes := [.t 2]
def zef : LFn := ⟨1, uz, z9n, z6p⟩
theorem zbc : wm Tryd.prog [] 24 = some zef := by kernel_rfl
theorem zal : ki Tryd.prog 24 := ⟨_, Tryd.func24, rfl, rfl⟩
def z79 (a0 : List UInt8) (o : Bool) : Exit → Env → AHeap → Nat → Prop := Xa z6p (j3 (.bool o))
def Xs (a0 : List UInt8) (s : Int) : Env := [(0, .str a0), (6, i6 (a0.length : Int)), (7, i6 s)]
def Vh (a0 : List UInt8) (s : Int) : AHeap := []
def z0o (a0 : List UInt8) (o : Bool) : Exit → Env → AHeap → Nat → Prop := (x7 0 (X9 Tryd.prog uz 0 z03 (z79 a0 o)))
noncomputable def qx (m : Option Nat) : Option Bool :=
 some true
noncomputable def ya (m : Option Nat) (a0 : List UInt8) (v1 : Int) : Option (Int ⊕ Bool) :=
 if (decide (v1 < (a0.length : Int))) = true then
  if (0 : Int) ≤ v1 ∧ v1 < (a0.length : Int) then
  if (((((a0.getD v1.toNat 0).toNat : Nat) : Int) != 9) && ((decide ((((a0.getD v1.toNat 0).toNat : Nat) : Int) < 32)) || (decide ((((a0.getD v1.toNat 0).toNat : Nat) : Int) > 126)))) = true then
   Option.map Sum.inr (
    some false)
  else
   some (.inl (W (v1 + 1)))
  else none
 else
  Option.map Sum.inr (
   qx m)
noncomputable def qe (m : Option Nat) (a0 : List UInt8) (v1 : Int) : Option Bool := vb m (fun (s : Int) => ya m a0 s) v1
theorem z31 {a0 : List UInt8} {m : Option Nat} {o : Bool} (h : qx m = some o) :
 LWp Tryd.prog uz 0 z03 (z79 a0 o) [] [] 0 := by
 unfold qx at h
 refine zc (zz ?_)
 refine w3 ?_
 cases h
 exact AI TT (AI rfl (VS rfl))
theorem z1l {a0 : List UInt8} {v1 : Int} {m : Option Nat} {o : Int ⊕ Bool} (h : ya m a0 v1 = some o) :
 LWp Tryd.prog uz 0 z4s (kh 0 0 (Xs a0) (Vh a0) (z0o a0) o) [(0, .str a0), (6, i6 (a0.length : Int)), (7, i6 v1)] [] 0 := by
 unfold ya at h
 refine zc (zz ?_)
 refine zc ?_
 refine qz (v := (decide (v1 < (a0.length : Int)))) rfl TT (fun h7 => ?_) (fun h7 => ?_)
 ·have h := y4 h7 h
  refine xa ?_
  refine zc ?_
  refine xn ?_
  refine zc (zz ?_)
  refine zc (zz ?_)
  obtain ⟨h8, h⟩ := zj h
  refine AI h8 ?_
  refine zc (zz ?_)
  refine AI (fun hp => hp) ?_
  refine AI (fun hp => hp) ?_
  refine AI (fun hp => hp) ?_
  refine AI (fun hp => (AI hp (fun hc => (Yn hp (bqf hc))))) ?_
  refine AI (fun hc => (bqt hc)) ?_
  refine LWp.sim (e := [(0, .str a0), (6, i6 (a0.length : Int)), (7, i6 v1), (22, .bool (((((a0.getD v1.toNat 0).toNat : Nat) : Int) != 9) && ((decide ((((a0.getD v1.toNat 0).toNat : Nat) : Int) < 32)) || (decide ((((a0.getD v1.toNat 0).toNat : Nat) : Int) > 126)))))]) (L := []) (n := 0) ?_ ?_
  ·exact x3 (M := []) rfl (S4 rfl rfl rfl rfl TT) TT
  refine qz (v := (((((a0.getD v1.toNat 0).toNat : Nat) : Int) != 9) && ((decide ((((a0.getD v1.toNat 0).toNat : Nat) : Int) < 32)) || (decide ((((a0.getD v1.toNat 0).toNat : Nat) : Int) > 126))))) rfl TT (fun h9 => ?_) (fun h9 => ?_)
  ·have h := y4 h9 h
   refine zc (zz ?_)
   refine w3 ?_
   obtain ⟨o, hq, rfl⟩ := Option.map_eq_some_iff.1 h
   replace h := hq; clear hq
   refine AI nofun ?_
   cases h
   exact AI TT (AI rfl (VS rfl))
  ·have h := yj h9 h
   refine xa ?_
   refine zz ?_
   cases h
   exact AI rfl (x3 (M := []) rfl (S2 rfl rfl (AI (VS rfl) TT)) TT)
 ·have h := yj h7 h
  refine Yz ?_
  obtain ⟨o, hq, rfl⟩ := Option.map_eq_some_iff.1 h
  replace h := hq; clear hq
  refine AI nofun ?_
  refine LWp.sim ?_ (z31 h)
  exact x3 (M := []) rfl TT TT
theorem z4o {a0 : List UInt8} {v1 : Int} {m : Option Nat} {o : Bool} (h : qe m a0 v1 = some o) :
 LWp Tryd.prog uz 0 (.loop z4s) (x7 0 (X9 Tryd.prog uz 0 z03 (z79 a0 o))) [(0, .str a0), (6, i6 (a0.length : Int)), (7, i6 v1)] [] 0 :=
 xk (m := m) (s := (v1 : Int)) (r := o) (fun (s : Int) => ya m a0 s) (Xs a0) (Vh a0) (z0o a0) (fun s o h => z1l h) h
noncomputable def qw (m : Option Nat) (a0 : List UInt8) : Option Bool :=
 qe m a0 0
theorem z67 {a0 : List UInt8} {m : Option Nat} {o : Bool} (h : qw m a0 = some o) : LWp Tryd.prog uz 0 z9n (z79 a0 o) (qp 0 [.str a0]) [] 0 := by
 unfold qw at h
 refine zc (zz ?_)
 refine zc ?_
 refine zc (zz ?_)
 refine xn ?_
 refine LWp.sim ?_ (z4o h)
 exact x3 (M := []) rfl (S2 rfl rfl (AI (VS rfl) TT)) TT
theorem zcq {a0 : List UInt8} {m : Option Nat} {o : Bool} (h : qw m a0 = some o) : PFn Tryd.prog 24 [.str a0] (.bool o) := PFn.ofFnW (L := zef) zbc zal (NB rfl) rfl (z67 h)
def xr (m : Option Nat) (a0 : List UInt8) (a1 : List UInt8) : Option Bool := if a0.length < 4294967281 ∧ a0.all (fun b => decide (b.toNat < 128)) = true ∧ a1.all (fun b => decide (b.toNat < 128)) = true then some (Go.Lib.equalFold a0 a1) else none
theorem zap : ki Tryd.prog 25 := ⟨_, Tryd.func25, rfl, rfl⟩
theorem zdz {m : Option Nat} {a0 : List UInt8} {a1 : List UInt8} {o : Bool} (h : xr m a0 a1 = some o) : PFn Tryd.prog 25 [.str a0, .str a1] (.bool o) := by
 unfold xr at h
 split at h
 ·rename_i hc
  cases h
  exact z36 Tryd.l25 rfl zap hc.1 hc.2.1 hc.2.2
 ·cases h
def xx (m : Option Nat) (a0 : List UInt8) (a1 : List UInt8) : Option (List UInt8) := if a0.length ≤ 9223372036854775807 ∧ a1.length < 4294967281 ∧ a1.all (fun b => decide (b.toNat < 128)) = true then some (Go.Lib.trimS a0 a1) else none
theorem zbh : ki Tryd.prog 27 := ⟨_, Tryd.func27, rfl, rfl⟩
theorem z9y {m : Option Nat} {a0 : List UInt8} {a1 : List UInt8} {o : List UInt8} (h : xx m a0 a1 = some o) : PFn Tryd.prog 27 [.str a0, .str a1] (.str o) := by
 unfold xx at h
 split at h
 ·rename_i hc
  cases h
  exact z3d rfl Tryd.l27 (by kernel_rfl) rfl zbh hc.1 hc.2.1 hc.2.2
 ·cases h
def ju (m : Option Nat) (a0 : List UInt8) : Option Int := if a0.length ≤ 18 then Go.Lib.atoi a0 else none
theorem zbp : ki Tryd.prog 39 := ⟨_, Tryd.func39, rfl, rfl⟩
theorem zei {m : Option Nat} {a0 : List UInt8} {o : Int} (h : ju m a0 = some o) : PFn Tryd.prog 39 [.str a0] (.tup [i6 o, .val .nilIface]) := by
 unfold ju at h
 split at h
 ·rename_i hc
  exact z78 rfl Tryd.l39 rfl zbp hc h
 ·cases h
def z01 : LCode := (.seq (.region [Qb 4])
 (.seq (.seq (.region [Qm 5 0,
  Qo 6 (.nilck (.t 5)),
  Qf 7 0 6,
  Ql 8 1 7,
  Qo 9 (.bin .geq (.t 8) (.c (i6 0))),
  Qm 10 9,
  Qn 11 1 (10, false),
  Qg 12 (.bin .eql (.t 11) (.c (.str []))) (10, false),
  Qo 13 (.pick (.t 10) (.c (.bool true)) (.t 12)),
  Qm 14 13,
  Qn 15 1 (14, false),
  Qg 16 (.len true (.t 15)) (14, false),
  Qg 17 (.bin .gtr (.t 16) (.c (i6 6))) (14, false),
  Qo 18 (.pick (.t 14) (.c (.bool true)) (.t 17)),
  Qm 19 18,
  Qn 20 1 (19, false),
  Qg 21 (.call 27 [(.t 20), (.c (.str [48, 49, 50, 51, 52, 53, 54, 55, 56, 57]))]) (19, false),
  Qg 22 (.bin .neq (.t 21) (.c (.str []))) (19, false),
  Qo 23 (.pick (.t 19) (.c (.bool true)) (.t 22))])
 (.cond (.t 23)
  (.seq (.region [Qb 4])
  .ret)
  .skip))
 (.seq (.region [Qm 25 0,
  Qm 26 1,
  Qc 27 39 26,
  Qm 24 27,
  Qo 28 (.ext 0 (.t 24)),
  Qo 29 (.ext 1 (.t 24)),
  Qo 30 (.nilck (.t 25)),
  Qf 31 0 30,
  ⟨none, .store 1 (.t 31) (.t 28), none⟩])
 (.seq (.region [Qm 32 0,
  Qo 33 (.nilck (.t 32)),
  Qf 34 0 33,
  Ql 35 1 34,
  Qo 36 (.bin .leq (.t 35) (.c (i6 4000))),
  Qm 4 36])
 .ret))))
def Ws : Lay := ⟨37, [], false⟩
def Vv : List LRes := [.t 4]
def z6c : LFn := ⟨2, Ws, z01, Vv⟩
theorem z4e : wm Tryd.prog [] 26 = some z6c := by kernel_rfl
theorem z3w : ki Tryd.prog 26 := ⟨_, Tryd.func26, rfl, rfl⟩
noncomputable def y8 (m : Option Nat) (a0 : List UInt8) (a1 : Int) : Option (Bool × Int) :=
 (if ((((decide (a1 ≥ 0)) || (a0 == ([] : List UInt8))) || (decide ((a0.length : Int) > 6))) == false) = true then xx m a0 ([48, 49, 50, 51, 52, 53, 54, 55, 56, 57] : List UInt8) else some default).bind fun v1 =>
 if ((((decide (a1 ≥ 0)) || (a0 == ([] : List UInt8))) || (decide ((a0.length : Int) > 6))) || (!(v1 == ([] : List UInt8)))) = true then
  some (false, a1)
 else
  (ju m a0).bind fun v2 =>
  some ((decide (v2 ≤ 4000)), v2)
def zat (a0 : List UInt8) (a1 : Int) (o : Bool × Int) : Exit → Env → AHeap → Nat → Prop := Xa Vv (z1n 3 3 (.bool o.1) [((0, 0), .one [i6 o.2])])
theorem Kw {a0 : List UInt8} {a1 : Int} {m : Option Nat} {o : Bool × Int} (h : y8 m a0 a1 = some o) : LWp Tryd.prog Ws 3 z01 (zat a0 a1 o) (qp 0 [.ptr (0, 0) 0 0, .str a0]) [((0, 0), .one [i6 a1])] 3 := by
 unfold y8 at h
 refine zc (zz ?_)
 refine zc ?_
 refine zc (zz ?_)
 refine AI (fun hp => hp) ?_
 refine AI (fun hc => (bqf hc)) ?_
 refine AI (fun hp => hp) ?_
 refine AI (fun hp => hp) ?_
 refine AI (fun hc => (bqf hc)) ?_
 obtain ⟨v1, h1, h⟩ := bind_some h
 refine Or.inl (EX (.str v1) (AI (fun hp => AI hp (PFn.call (z9y (y4 hp h1)) (S2 rfl rfl TT) (AI rfl (AI rfl rfl)))) ?_))
 refine AI (fun hp => hp) ?_
 refine AI (fun hc => (bqf hc)) ?_
 refine LWp.sim (e := [(0, .ptr (0, 0) 0 0), (1, .str a0), (23, .bool ((((decide (a1 ≥ 0)) || (a0 == ([] : List UInt8))) || (decide ((a0.length : Int) > 6))) || (!(v1 == ([] : List UInt8)))))]) (L := [((0, 0), .one [i6 a1])]) (n := 3) ?_ ?_
 ·exact x3 (M := []) rfl (SP rfl (S2 rfl rfl TT)) (AI (AI rfl (OL rfl)) TT)
 refine qz (v := ((((decide (a1 ≥ 0)) || (a0 == ([] : List UInt8))) || (decide ((a0.length : Int) > 6))) || (!(v1 == ([] : List UInt8))))) rfl TT (fun h2 => ?_) (fun h2 => ?_)
 ·have h := y4 h2 h
  refine zc (zz ?_)
  refine w3 ?_
  cases h
  exact AI TT (z9q (n' := 3) [] [] rfl rfl (VS rfl) (AI (AI rfl (OL rfl)) TT))
 ·have h := yj h2 h
  refine xa ?_
  refine zc (zz ?_)
  obtain ⟨v2, h3, h⟩ := bind_some h
  refine PFn.call (zei h3) (AI (VS rfl) TT) ?_
  refine LWp.sim (e := [(0, .ptr (0, 0) 0 0)]) (L := [((0, 0), .one [i6 v2])]) (n := 3) ?_ ?_
  ·exact x3 (M := []) rfl (SP rfl TT) (AI (AI rfl (OL rfl)) TT)
  refine zc (zz ?_)
  refine w3 ?_
  cases h
  exact AI TT (z9q (n' := 3) [] [] rfl rfl (VS rfl) (AI (AI rfl (OL rfl)) TT))
theorem z8n {a0 : List UInt8} {a1 : Int} {m : Option Nat} {o : Bool × Int} (h : y8 m a0 a1 = some o) : ACalls Tryd.prog 26 [.ptr (0, 0) 0 0, .str a0] [((0, 0), .one [i6 a1])] 3 (Z5 3 (.bool o.1) [((0, 0), .one [i6 o.2])]) := z35 (L := z6c) z4e z3w (NB rfl) (Kw h)
def z10 : LCode := .ret
def Uu : LCode := (.seq (.region [Qb 4])
 (.seq (.region [Qm 9 1,
  Qo 10 (.call 22 [(.t 9), (.c (.str [58]))]),
  Qm 8 10,
  Qo 11 (.ext 0 (.t 8)),
  Qo 12 (.ext 1 (.t 8)),
  Qo 13 (.ext 2 (.t 8)),
  Qm 5 11,
  Qm 6 12,
  Qm 7 13])
 (.seq (.seq (.region [Qm 14 7,
  Qo 15 (.un .not (.t 14)),
  Qm 16 15,
  Qn 17 5 (16, false),
  Qg 18 (.call 23 [(.t 17)]) (16, false),
  Qg 19 (.un .not (.t 18)) (16, false),
  Qo 20 (.pick (.t 16) (.c (.bool true)) (.t 19)),
  Qm 21 20,
  Qn 22 6 (21, false),
  Qg 23 (.call 24 [(.t 22)]) (21, false),
  Qg 24 (.un .not (.t 23)) (21, false),
  Qo 25 (.pick (.t 21) (.c (.bool true)) (.t 24))])
 (.cond (.t 25)
  (.seq (.region [Qb 4])
  .ret)
  .skip))
 (.seq (.region [Qm 26 5,
  Qo 27 (.call 25 [(.t 26), (.c (.str [67, 111, 110, 116, 101, 110, 116, 45, 76, 101, 110, 103, 116, 104]))]),
  Qo 28 (.un .not (.t 27)),
  Qm 29 28,
  Qn 30 0 (29, false),
  Qn 31 6 (29, false),
  Qg 32 (.call 27 [(.t 31), (.c (.str [32, 9]))]) (29, false),
  Qg 33 (.call 26 [(.t 30), (.t 32)]) (29, false),
  Qo 34 (.pick (.t 29) (.c (.bool true)) (.t 33)),
  Qm 4 34])
 z10))))
def Qr : Lay := ⟨35, [], false⟩
def V4 : List LRes := [.t 4]
def z3o : LFn := ⟨2, Qr, Uu, V4⟩
theorem z5g : wm Tryd.prog [] 18 = some z3o := by kernel_rfl
theorem z5f : ki Tryd.prog 18 := ⟨_, Tryd.func18, rfl, rfl⟩
noncomputable def q6 (m : Option Nat) (v8 : Int) (v9 : Bool) : Option (Bool × Int) :=
 some (v9, v8)
def z4w (a0 : List UInt8) (a1 : Int) (o : Bool × Int) : Exit → Env → AHeap → Nat → Prop := Xa V4 (z1n 3 3 (.bool o.1) [((0, 0), .one [i6 o.2])])
theorem Q0 {a0 : List UInt8} {a1 : Int} {v8 : Int} {v9 : Bool} {m : Option Nat} {o : (Bool × Int)} (h : q6 m v8 v9 = some o) :
 LWp Tryd.prog Qr 3 z10 (z4w a0 a1 o) [(4, .bool v9)] [((0, 0), .one [i6 v8])] 3 := by
 unfold q6 at h
 refine w3 ?_
 cases h
 exact AI TT (z9q (n' := 3) [] [] rfl rfl (VS rfl) (AI (AI rfl (OL rfl)) TT))
noncomputable def q5 (m : Option Nat) (a0 : List UInt8) (a1 : Int) : Option (Bool × Int) :=
 (wb m a0 ([58] : List UInt8)).bind fun v1 =>
 (if ((!v1.2.2) == false) = true then x5 m v1.1 else some default).bind fun v2 =>
 (if (((!v1.2.2) || (!v2)) == false) = true then qw m v1.2.1 else some default).bind fun v3 =>
 if (((!v1.2.2) || (!v2)) || (!v3)) = true then
  some (false, a1)
 else
  (xr m v1.1 ([67, 111, 110, 116, 101, 110, 116, 45, 76, 101, 110, 103, 116, 104] : List UInt8)).bind fun v4 =>
  (if ((!v4) == false) = true then xx m v1.2.1 ([32, 9] : List UInt8) else some default).bind fun v5 =>
  if ((!v4) == false) = true then
   (y8 m v5 a1).bind fun v7 =>
   q6 m v7.2 ((!v4) || v7.1)
  else
   q6 m a1 ((!v4) || false)
theorem Ue {a0 : List UInt8} {a1 : Int} {m : Option Nat} {o : Bool × Int} (h : q5 m a0 a1 = some o) : LWp Tryd.prog Qr 3 Uu (z4w a0 a1 o) (qp 0 [.ptr (0, 0) 0 0, .str a0]) [((0, 0), .one [i6 a1])] 3 := by
 unfold q5 at h
 refine zc (zz ?_)
 refine zc (zz ?_)
 obtain ⟨v1, h1, h⟩ := bind_some h
 refine PFn.call (zdp h1) (S2 rfl rfl TT) ?_
 refine LWp.sim (e := [(0, .ptr (0, 0) 0 0), (5, .str v1.1), (6, .str v1.2.1), (7, .bool v1.2.2)]) (L := [((0, 0), .one [i6 a1])]) (n := 3) ?_ ?_
 ·exact x3 (M := []) rfl (SP rfl (S2 rfl rfl (AI (VS rfl) TT))) (AI (AI rfl (OL rfl)) TT)
 refine zc ?_
 refine zc (zz ?_)
 obtain ⟨v2, h2, h⟩ := bind_some h
 refine Or.inl (EX (.bool v2) (AI (fun hp => AI hp (PFn.call (zdh (y4 hp h2)) (AI (VS rfl) TT) (AI rfl (AI rfl rfl)))) ?_))
 refine AI (fun hp => hp) ?_
 refine AI (fun hc => (bqf hc)) ?_
 obtain ⟨v3, h3, h⟩ := bind_some h
 refine Or.inl (EX (.bool v3) (AI (fun hp => AI hp (PFn.call (zcq (y4 hp h3)) (AI (VS rfl) TT) (AI rfl (AI rfl rfl)))) ?_))
 refine AI (fun hp => hp) ?_
 refine AI (fun hc => (bqf hc)) ?_
 refine LWp.sim (e := [(0, .ptr (0, 0) 0 0), (5, .str v1.1), (6, .str v1.2.1), (25, .bool (((!v1.2.2) || (!v2)) || (!v3)))]) (L := [((0, 0), .one [i6 a1])]) (n := 3) ?_ ?_
 ·exact x3 (M := []) rfl (SP rfl (S2 rfl rfl (AI (VS rfl) TT))) (AI (AI rfl (OL rfl)) TT)
 refine qz (v := (((!v1.2.2) || (!v2)) || (!v3))) rfl TT (fun h4 => ?_) (fun h4 => ?_)
 ·have h := y4 h4 h
  refine zc (zz ?_)
  refine w3 ?_
  cases h
  exact AI TT (z9q (n' := 3) [] [] rfl rfl (VS rfl) (AI (AI rfl (OL rfl)) TT))
 ·have h := yj h4 h
  refine xa ?_
  refine zc (zz ?_)
  obtain ⟨v4, h5, h⟩ := bind_some h
  refine PFn.call (zdz h5) (S2 rfl rfl TT) ?_
  obtain ⟨v5, h6, h⟩ := bind_some h
  refine Or.inl (EX (.str v5) (AI (fun hp => AI hp (PFn.call (z9y (y4 hp h6)) (S2 rfl rfl TT) (AI rfl (AI rfl rfl)))) ?_))
  refine Or.inr (AI (fun h8 => ?_) (fun h9 => ?_))
  ·have h := y4 h8 h
   obtain ⟨v7, h10, h⟩ := bind_some h
   refine AI (AI h8 h8) ?_
   refine z27 (k := 3) (m := 0) (L' := [((0, 0), .one [i6 v7.2])]) (rest := []) (R' := .bool v7.1) [((0, 0), (0, 0))] (z8n h10) rfl rfl rfl (SP rfl (AI (VS rfl) TT)) (AI (h0I (0, 0) rfl rfl (OL rfl)) TT) (vt _ rfl) (AI rfl (AI rfl TT)) rfl ?_
   refine LWp.sim ?_ (Q0 h)
   exact x3 (M := []) rfl (AI (VS rfl) TT) (AI (AI rfl (OL rfl)) TT)
  ·have h := yj h9 h
   refine EX (.cnd ((!v4) == false) (.bool false)) (AI (Or.inr (EX _ (congrArg (fun q => AVal.cnd q _) h9))) ?_)
   refine AI (fun hc => (bqf hc)) ?_
   refine LWp.sim ?_ (Q0 h)
   exact x3 (M := []) rfl (AI (VS rfl) TT) (AI (AI rfl (OL rfl)) TT)
theorem z7v {a0 : List UInt8} {a1 : Int} {m : Option Nat} {o : Bool × Int} (h : q5 m a0 a1 = some o) : ACalls Tryd.prog 18 [.ptr (0, 0) 0 0, .str a0] [((0, 0), .one [i6 a1])] 3 (Z5 3 (.bool o.1) [((0, 0), .one [i6 o.2])]) := z35 (L := z3o) z5g z5f (NB rfl) (Ue h)
def zcz : LCode := (.cond (.t 33)
 (.seq (.region [Qo 2 (.mv (.c (.str []))),
  Qi 3 0,
  Qi 4 4])
 .ret)
 (.seq (.region [Qm 52 8,
  Qo 53 (.bin .eql (.t 52) (.c (.str []))),
  Qm 54 53,
  Qn 55 0 (54, true),
  Qg 56 (.len true (.t 55)) (54, true),
  Qn 57 6 (54, true),
  Qg 58 (.bin .sub (.t 56) (.t 57)) (54, true),
  Qn 59 5 (54, true),
  Qg 60 (.nilck (.t 59)) (54, true),
  Qe 61 0 60 (54, true),
  Qk 62 1 61 (54, true),
  Qg 63 (.bin .lss (.t 58) (.t 62)) (54, true),
  Qp 64 54 63,
  Qm 51 64])
 (.cond (.t 51)
  (.seq (.region [Qo 2 (.mv (.c (.str []))),
   Qi 3 0,
   Qi 4 0])
  .ret)
  (.seq (.region [Qm 66 8,
   Qo 67 (.bin .eql (.t 66) (.c (.str []))),
   Qm 65 67])
  (.cond (.t 65)
   (.seq (.quiet [Qm 68 0,
    Qm 69 6,
    Qm 70 6,
    Qm 71 5,
    Qo 72 (.nilck (.t 71)),
    Qf 73 0 72,
    Ql 74 1 73,
    Qo 75 (.bin .add (.t 70) (.t 74)),
    Qo 76 (.slStr (.t 68) (some (.t 69)) (some (.t 75))),
    Qm 77 6,
    Qm 78 5,
    Qo 79 (.nilck (.t 78)),
    Qf 80 0 79,
    Ql 81 1 80,
    Qo 82 (.bin .add (.t 77) (.t 81)),
    Qm 2 76,
    Qm 3 82,
    Qi 4 0])
   .ret)
   .skip)))))
def zai : LCode := (.block 1
 (.seq (.region [Qm 11 0,
  Qm 12 6,
  Qo 13 (.slStr (.t 11) (some (.t 12)) none),
  Qo 14 (.call 17 [(.t 13), (.c (.str [13, 10]))]),
  Qm 7 14])
 (.seq (.seq (.region [Qm 15 7,
  Qo 16 (.bin .lss (.t 15) (.c (i6 0)))])
 (.cond (.t 16)
  (.seq (.seq (.region [Qm 17 0,
   Qo 18 (.len true (.t 17)),
   Qo 19 (.bin .geq (.t 18) (.c (i6 500)))])
  (.cond (.t 19)
   (.seq (.region [Qo 2 (.mv (.c (.str []))),
    Qi 3 0,
    Qi 4 4])
   .ret)
   .skip))
  (.seq (.region [Qo 2 (.mv (.c (.str []))),
   Qi 3 0,
   Qi 4 0])
  .ret))
  .skip))
 (.seq (.region [Qm 20 0,
  Qm 21 6,
  Qm 22 6,
  Qm 23 7,
  Qo 24 (.bin .add (.t 22) (.t 23)),
  Qo 25 (.slStr (.t 20) (some (.t 21)) (some (.t 24))),
  Qm 8 25])
 (.seq (.region [Qm 26 6,
  Qm 27 7,
  Qo 28 (.bin .add (.t 27) (.c (i6 2))),
  Qo 29 (.bin .add (.t 26) (.t 28)),
  Qm 6 29])
 (.block 2
  (.seq (.region [Qm 31 6,
   Qo 32 (.bin .gtr (.t 31) (.c (i6 500))),
   Qm 30 32])
  (.cond (.t 30)
   (.seq (.region [Qo 2 (.mv (.c (.str []))),
    Qi 3 0,
    Qi 4 4])
   .ret)
   (.seq (.seq (.region [Qm 34 8,
    Qo 35 (.bin .eql (.t 34) (.c (.str []))),
    Qm 36 35,
    Qn 37 5 (36, true),
    Qg 38 (.nilck (.t 37)) (36, true),
    Qe 39 0 38 (36, true),
    Qk 40 1 39 (36, true),
    Qg 41 (.bin .lss (.t 40) (.c (i6 0))) (36, true),
    Qp 42 36 41,
    Qm 33 42])
   (.cond (.t 33)
    .skip
    (.region [Qm 43 8,
     Qo 44 (.bin .neq (.t 43) (.c (.str []))),
     Qm 45 44,
     Qn 46 5 (45, true),
     Qn 47 8 (45, true),
     Qg 48 (.call 18 [(.t 46), (.t 47)]) (45, true),
     Qg 49 (.un .not (.t 48)) (45, true),
     Qp 50 45 49,
     Qm 33 50])))
   zcz)))))))))
def zeh : LCode := (.seq (.region [Qo 2 (.mv (.c (.str []))),
 Qi 3 0,
 Qi 4 0])
 (.seq (.region [Qo 9 (.build [(i6 0)] [(0, 1, (.c (i6 (-1))))]),
  Qo 10 (.box (.t 9)),
  Qm 5 10])
 (.seq (.region [Qi 6 0])
 (.block 0
  (.loop
   zai)))))
def Vi : Lay := ⟨83, [], false⟩
def za8 : List LRes := [.t 2, .t 3, .t 4]
def zgb : LFn := ⟨1, Vi, zeh, za8⟩
theorem zda : wm Tryd.prog [] 8 = some zgb := by kernel_rfl
theorem zeq : ki Tryd.prog 8 := ⟨_, Tryd.func8, rfl, rfl⟩
def zfj (a0 : List UInt8) (o : (List UInt8) × Int × Int) : Exit → Env → AHeap → Nat → Prop := Xa za8 (j3 (.tup [.str o.1, i6 o.2.1, i6 o.2.2]))
def Q9 (a0 : List UInt8) (s : (Int × Int)) : Env := [(0, .str a0), (5, .ptr (0, 0) 0 0), (6, i6 s.1)]
def Jp (a0 : List UInt8) (s : (Int × Int)) : AHeap := [((0, 0), .one [i6 s.2])]
def Uk (a0 : List UInt8) (o : ((List UInt8) × Int × Int)) : Exit → Env → AHeap → Nat → Prop := (x7 0 (zfj a0 o))
noncomputable def yw (m : Option Nat) (a0 : List UInt8) (v6 : Int) (v13 : Int) (v16 : Bool) (v17 : Int) : Option ((Int × Int) ⊕ ((List UInt8) × Int × Int)) :=
 if v16 = true then
  Option.map Sum.inr (
   some (([] : List UInt8), 0, 4))
 else
  if ((((a0.take (W (v6 + v13)).toNat).drop v6.toNat) == ([] : List UInt8)) && (decide ((W ((a0.length : Int) - (W (v6 + (W (v13 + 2)))))) < v17))) = true then
   Option.map Sum.inr (
    some (([] : List UInt8), 0, 0))
  else
   if (((a0.take (W (v6 + v13)).toNat).drop v6.toNat) == ([] : List UInt8)) = true then
    if (0 : Int) ≤ (W (v6 + (W (v13 + 2)))) ∧ (W (v6 + (W (v13 + 2)))) ≤ (W ((W (v6 + (W (v13 + 2)))) + v17)) ∧ (W ((W (v6 + (W (v13 + 2)))) + v17)) ≤ (a0.length : Int) then
    Option.map Sum.inr (
     some (((a0.take (W ((W (v6 + (W (v13 + 2)))) + v17)).toNat).drop (W (v6 + (W (v13 + 2)))).toNat), (W ((W (v6 + (W (v13 + 2)))) + v17)), 0))
    else none
   else
    some (.inl ((W (v6 + (W (v13 + 2)))), v17))
theorem Jw {a0 : List UInt8} {v6 : Int} {v13 : Int} {v16 : Bool} {v17 : Int} {m : Option Nat} {o : ((Int × Int) ⊕ ((List UInt8) × Int × Int))} (h : yw m a0 v6 v13 v16 v17 = some o) :
 LWp Tryd.prog Vi 0 zcz (x7 2 (x7 1 (kh 0 1 (Q9 a0) (Jp a0) (Uk a0) o))) [(0, .str a0), (5, .ptr (0, 0) 0 0), (6, i6 (W (v6 + (W (v13 + 2))))), (8, .str ((a0.take (W (v6 + v13)).toNat).drop v6.toNat)), (33, .bool v16)] [((0, 0), .one [i6 v17])] 1 := by
 unfold yw at h
 refine qz (v := v16) rfl TT (fun h41 => ?_) (fun h41 => ?_)
 ·have h := y4 h41 h
  refine zc (zz ?_)
  refine w3 ?_
  obtain ⟨o, hq, rfl⟩ := Option.map_eq_some_iff.1 h
  replace h := hq; clear hq
  refine AI nofun ?_
  cases h
  exact AI TT (AI TT (AI TT (AI rfl (VS rfl))))
 ·have h := yj h41 h
  refine zc (zz ?_)
  refine AI (fun hp => hp) ?_
  refine AI (fun hp => (AI hp hp)) ?_
  refine AI (fun hp => hp) ?_
  refine AI (fun hp => hp) ?_
  refine AI (fun hp => hp) ?_
  refine AI (fun hp => (AI hp hp)) ?_
  refine AI (fun hc => (bqt hc)) ?_
  refine LWp.sim (e := [(0, .str a0), (5, .ptr (0, 0) 0 0), (6, i6 (W (v6 + (W (v13 + 2))))), (8, .str ((a0.take (W (v6 + v13)).toNat).drop v6.toNat)), (51, .bool ((((a0.take (W (v6 + v13)).toNat).drop v6.toNat) == ([] : List UInt8)) && (decide ((W ((a0.length : Int) - (W (v6 + (W (v13 + 2)))))) < v17))))]) (L := [((0, 0), .one [i6 v17])]) (n := 1) ?_ ?_
  ·exact x3 (M := [((0, 0), (0, 0))]) rfl (AI (VS rfl) (SP rfl (S2 rfl rfl (AI (VS rfl) TT)))) (AI (AI rfl (OL rfl)) TT)
  refine qz (v := ((((a0.take (W (v6 + v13)).toNat).drop v6.toNat) == ([] : List UInt8)) && (decide ((W ((a0.length : Int) - (W (v6 + (W (v13 + 2)))))) < v17)))) rfl TT (fun h42 => ?_) (fun h42 => ?_)
  ·have h := y4 h42 h
   refine zc (zz ?_)
   refine w3 ?_
   obtain ⟨o, hq, rfl⟩ := Option.map_eq_some_iff.1 h
   replace h := hq; clear hq
   refine AI nofun ?_
   cases h
   exact AI TT (AI TT (AI TT (AI rfl (VS rfl))))
  ·have h := yj h42 h
   refine zc (zz ?_)
   refine qz (v := (((a0.take (W (v6 + v13)).toNat).drop v6.toNat) == ([] : List UInt8))) rfl TT (fun h43 => ?_) (fun h43 => ?_)
   ·have h := y4 h43 h
    refine zc ?_
    refine zd1 ?_
    obtain ⟨h44, h⟩ := zj h
    refine AI h44 ?_
    refine LWp.sim (e := [(2, .str ((a0.take (W ((W (v6 + (W (v13 + 2)))) + v17)).toNat).drop (W (v6 + (W (v13 + 2)))).toNat)), (3, i6 (W ((W (v6 + (W (v13 + 2)))) + v17))), (4, i6 0)]) (L := []) (n := 0) ?_ ?_
    ·exact x3 (M := []) rfl (S2 rfl rfl (AI (VS rfl) TT)) TT
    refine w3 ?_
    obtain ⟨o, hq, rfl⟩ := Option.map_eq_some_iff.1 h
    replace h := hq; clear hq
    refine AI nofun ?_
    cases h
    exact AI TT (AI TT (AI TT (AI rfl (VS rfl))))
   ·have h := yj h43 h
    refine xa ?_
    cases h
    exact AI rfl (x3 (M := [((0, 0), (0, 0))]) rfl (AI (VS rfl) (SP rfl (AI (VS rfl) TT))) (AI (AI rfl (OL rfl)) TT))
noncomputable def x4 (m : Option Nat) (a0 : List UInt8) (v6 : Int) (v7 : Int) : Option ((Int × Int) ⊕ ((List UInt8) × Int × Int)) :=
 if (0 : Int) ≤ v6 ∧ v6 ≤ (a0.length : Int) then
 (jf m ((a0.take a0.length).drop v6.toNat) ([13, 10] : List UInt8)).bind fun v13 =>
 if (decide (v13 < 0)) = true then
  if (decide ((a0.length : Int) ≥ 500)) = true then
   Option.map Sum.inr (
    some (([] : List UInt8), 0, 4))
  else
   Option.map Sum.inr (
    some (([] : List UInt8), 0, 0))
 else
  if (0 : Int) ≤ v6 ∧ v6 ≤ (W (v6 + v13)) ∧ (W (v6 + v13)) ≤ (a0.length : Int) then
  if (decide ((W (v6 + (W (v13 + 2)))) > 500)) = true then
   Option.map Sum.inr (
    some (([] : List UInt8), 0, 4))
  else
   if ((((a0.take (W (v6 + v13)).toNat).drop v6.toNat) == ([] : List UInt8)) && (decide (v7 < 0))) = true then
    yw m a0 v6 v13 ((((a0.take (W (v6 + v13)).toNat).drop v6.toNat) == ([] : List UInt8)) && (decide (v7 < 0))) v7
   else
    if ((!(((a0.take (W (v6 + v13)).toNat).drop v6.toNat) == ([] : List UInt8))) == true) = true then
     (q5 m ((a0.take (W (v6 + v13)).toNat).drop v6.toNat) v7).bind fun v15 =>
     yw m a0 v6 v13 ((!(((a0.take (W (v6 + v13)).toNat).drop v6.toNat) == ([] : List UInt8))) && (!v15.1)) v15.2
    else
     yw m a0 v6 v13 ((!(((a0.take (W (v6 + v13)).toNat).drop v6.toNat) == ([] : List UInt8))) && (!false)) v7
  else none
 else none
noncomputable def xl (m : Option Nat) (a0 : List UInt8) (v6 : Int) (v7 : Int) : Option ((List UInt8) × Int × Int) := vb m (fun (s : (Int × Int)) => x4 m a0 s.1 s.2) (v6, v7)
theorem z5x {a0 : List UInt8} {v6 : Int} {v7 : Int} {m : Option Nat} {o : (Int × Int) ⊕ ((List UInt8) × Int × Int)} (h : x4 m a0 v6 v7 = some o) :
 LWp Tryd.prog Vi 0 zai (kh 0 1 (Q9 a0) (Jp a0) (Uk a0) o) [(0, .str a0), (5, .ptr (0, 0) 0 0), (6, i6 v6)] [((0, 0), .one [i6 v7])] 1 := by
 unfold x4 at h
 refine xn ?_
 refine zc (zz ?_)
 obtain ⟨h30, h⟩ := zj h
 refine AI (AI (And.left h30) (AI (And.right h30) (Int.le_refl _))) ?_
 obtain ⟨v13, h31, h⟩ := bind_some h
 refine PFn.call (zd8 h31) (S2 rfl rfl TT) ?_
 refine zc ?_
 refine zc (zz ?_)
 refine qz (v := (decide (v13 < 0))) rfl TT (fun h32 => ?_) (fun h32 => ?_)
 ·have h := y4 h32 h
  refine zc ?_
  refine zc (zz ?_)
  refine LWp.sim (e := [(19, .bool (decide ((a0.length : Int) ≥ 500)))]) (L := []) (n := 0) ?_ ?_
  ·exact x3 (M := []) rfl (AI (VS rfl) TT) TT
  refine qz (v := (decide ((a0.length : Int) ≥ 500))) rfl TT (fun h33 => ?_) (fun h33 => ?_)
  ·have h := y4 h33 h
   refine zc (zz ?_)
   refine w3 ?_
   obtain ⟨o, hq, rfl⟩ := Option.map_eq_some_iff.1 h
   replace h := hq; clear hq
   refine AI nofun ?_
   cases h
   exact AI TT (AI TT (AI TT (AI rfl (VS rfl))))
  ·have h := yj h33 h
   refine xa ?_
   refine zc (zz ?_)
   refine w3 ?_
   obtain ⟨o, hq, rfl⟩ := Option.map_eq_some_iff.1 h
   replace h := hq; clear hq
   refine AI nofun ?_
   cases h
   exact AI TT (AI TT (AI TT (AI rfl (VS rfl))))
 ·have h := yj h32 h
  refine xa ?_
  refine zc (zz ?_)
  obtain ⟨h34, h⟩ := zj h
  refine AI h34 ?_
  refine LWp.sim (e := [(0, .str a0), (5, .ptr (0, 0) 0 0), (6, i6 v6), (7, i6 v13), (8, .str ((a0.take (W (v6 + v13)).toNat).drop v6.toNat))]) (L := [((0, 0), .one [i6 v7])]) (n := 1) ?_ ?_
  ·exact x3 (M := [((0, 0), (0, 0))]) rfl (AI (VS rfl) (SP rfl (S2 rfl rfl (AI (VS rfl) TT)))) (AI (AI rfl (OL rfl)) TT)
  refine zc (zz ?_)
  refine xn ?_
  refine zc (zz ?_)
  refine LWp.sim (e := [(0, .str a0), (5, .ptr (0, 0) 0 0), (6, i6 (W (v6 + (W (v13 + 2))))), (8, .str ((a0.take (W (v6 + v13)).toNat).drop v6.toNat)), (30, .bool (decide ((W (v6 + (W (v13 + 2)))) > 500)))]) (L := [((0, 0), .one [i6 v7])]) (n := 1) ?_ ?_
  ·exact x3 (M := [((0, 0), (0, 0))]) rfl (AI (VS rfl) (SP rfl (S2 rfl rfl (AI (VS rfl) TT)))) (AI (AI rfl (OL rfl)) TT)
  refine qz (v := (decide ((W (v6 + (W (v13 + 2)))) > 500))) rfl TT (fun h35 => ?_) (fun h35 => ?_)
  ·have h := y4 h35 h
   refine zc (zz ?_)
   refine w3 ?_
   obtain ⟨o, hq, rfl⟩ := Option.map_eq_some_iff.1 h
   replace h := hq; clear hq
   refine AI nofun ?_
   cases h
   exact AI TT (AI TT (AI TT (AI rfl (VS rfl))))
  ·have h := yj h35 h
   refine zc ?_
   refine zc (zz ?_)
   refine AI (fun hp => hp) ?_
   refine AI (fun hp => hp) ?_
   refine AI (fun hp => hp) ?_
   refine AI (fun hp => hp) ?_
   refine AI (fun hc => (bqt hc)) ?_
   refine LWp.sim (e := [(0, .str a0), (5, .ptr (0, 0) 0 0), (6, i6 (W (v6 + (W (v13 + 2))))), (8, .str ((a0.take (W (v6 + v13)).toNat).drop v6.toNat)), (33, .bool ((((a0.take (W (v6 + v13)).toNat).drop v6.toNat) == ([] : List UInt8)) && (decide (v7 < 0))))]) (L := [((0, 0), .one [i6 v7])]) (n := 1) ?_ ?_
   ·exact x3 (M := [((0, 0), (0, 0))]) rfl (AI (VS rfl) (SP rfl (S2 rfl rfl (AI (VS rfl) TT)))) (AI (AI rfl (OL rfl)) TT)
   refine qz (v := ((((a0.take (W (v6 + v13)).toNat).drop v6.toNat) == ([] : List UInt8)) && (decide (v7 < 0)))) rfl TT (fun h36 => ?_) (fun h36 => ?_)
   ·have h := y4 h36 h
    refine xa ?_
    refine LWp.sim ?_ (Jw h)
    exact x3 (M := [((0, 0), (0, 0))]) rfl (AI (VS rfl) (SP rfl (S2 rfl rfl (AI (VS rfl) TT)))) (AI (AI rfl (OL rfl)) TT)
   ·have h := yj h36 h
    refine zz ?_
    refine Or.inr (AI (fun h38 => ?_) (fun h39 => ?_))
    ·have h := y4 h38 h
     obtain ⟨v15, h40, h⟩ := bind_some h
     refine AI (AI h38 h38) ?_
     refine z27 (k := 3) (m := 0) (L' := [((0, 0), .one [i6 v15.2])]) (rest := []) (R' := .bool v15.1) [((0, 0), (0, 0))] (z7v h40) rfl rfl rfl (SP rfl (AI (VS rfl) TT)) (AI (h0I (0, 0) rfl rfl (OL rfl)) TT) (vt _ rfl) (AI rfl (AI rfl TT)) rfl ?_
     refine AI (fun hc => h38) ?_
     refine LWp.sim ?_ (Jw h)
     exact x3 (M := [((0, 0), (0, 0))]) rfl (AI (VS rfl) (SP rfl (S2 rfl rfl (AI (VS rfl) TT)))) (AI (AI rfl (OL rfl)) TT)
    ·have h := yj h39 h
     refine EX (.cnd ((!(((a0.take (W (v6 + v13)).toNat).drop v6.toNat) == ([] : List UInt8))) == true) (.bool false)) (AI (Or.inr (EX _ (congrArg (fun q => AVal.cnd q _) h39))) ?_)
     refine AI (fun hp => hp) ?_
     refine AI (fun hc => (bqt hc)) ?_
     refine LWp.sim ?_ (Jw h)
     exact x3 (M := [((0, 0), (0, 0))]) rfl (AI (VS rfl) (SP rfl (S2 rfl rfl (AI (VS rfl) TT)))) (AI (AI rfl (OL rfl)) TT)
theorem z8b {a0 : List UInt8} {v6 : Int} {v7 : Int} {m : Option Nat} {o : ((List UInt8) × Int × Int)} (h : xl m a0 v6 v7 = some o) :
 LWp Tryd.prog Vi 0 (.loop zai) (x7 0 (zfj a0 o)) [(0, .str a0), (5, .ptr (0, 0) 0 0), (6, i6 v6)] [((0, 0), .one [i6 v7])] 1 :=
 xk (m := m) (s := ((v6, v7) : (Int × Int))) (r := o) (fun (s : (Int × Int)) => x4 m a0 s.1 s.2) (Q9 a0) (Jp a0) (Uk a0) (fun s o h => z5x h) h
noncomputable def qi (m : Option Nat) (a0 : List UInt8) : Option ((List UInt8) × Int × Int) :=
 xl m a0 0 (-1)
theorem z7k {a0 : List UInt8} {m : Option Nat} {o : (List UInt8) × Int × Int} (h : qi m a0 = some o) : LWp Tryd.prog Vi 0 zeh (zfj a0 o) (qp 0 [.str a0]) [] 0 := by
 unfold qi at h
 refine zc (zz ?_)
 refine zc (zz ?_)
 refine zc (zz ?_)
 refine xn ?_
 refine LWp.sim ?_ (z8b h)
 exact x3 (M := [((0, 0), (0, 0))]) rfl (AI (VS rfl) (SP rfl (AI (VS rfl) TT))) (AI (AI rfl (OL rfl)) TT)
theorem zaq {a0 : List UInt8} {m : Option Nat} {o : (List UInt8) × Int × Int} (h : qi m a0 = some o) : PFn Tryd.prog 8 [.str a0] (.tup [.str o.1, i6 o.2.1, i6 o.2.2]) := PFn.ofFnW (L := zgb) zda zeq (NB rfl) rfl (z7k h)
def zd3 : LCode := (.seq (.region [Qb 0])
 (.seq (.region [Qo 7 (.call 6 [(.c (.str [104, 105]))]),
  Qm 6 7,
  Qo 8 (.ext 0 (.t 6)),
  Qo 9 (.ext 1 (.t 6)),
  Qm 1 8,
  Qm 2 9])
 (.seq (.region [Qm 11 1,
  Qo 12 (.bin .add (.t 11) (.c (.str [33]))),
  Qc 13 8 12,
  Qm 10 13,
  Qo 14 (.ext 0 (.t 10)),
  Qo 15 (.ext 1 (.t 10)),
  Qo 16 (.ext 2 (.t 10)),
  Qm 3 14,
  Qm 4 15,
  Qm 5 16])
 (.seq (.region [Qm 17 2,
  Qo 18 (.bin .eql (.t 17) (.c (i6 0))),
  Qm 19 18,
  Qn 20 1 (19, true),
  Qg 21 (.bin .eql (.t 20) (.c (.str [67, 111, 110, 116, 101, 110, 116, 45, 76, 101, 110, 103, 116, 104, 58, 32, 50, 13, 10, 13, 10, 104, 105]))) (19, true),
  Qp 22 19 21,
  Qm 23 22,
  Qn 24 5 (23, true),
  Qg 25 (.bin .eql (.t 24) (.c (i6 0))) (23, true),
  Qp 26 23 25,
  Qm 27 26,
  Qn 28 3 (27, true),
  Qg 29 (.bin .eql (.t 28) (.c (.str [104, 105]))) (27, true),
  Qp 30 27 29,
  Qm 31 30,
  Qn 32 4 (31, true),
  Qn 33 1 (31, true),
  Qg 34 (.len true (.t 33)) (31, true),
  Qg 35 (.bin .eql (.t 32) (.t 34)) (31, true),
  Qp 36 31 35,
  Qm 0 36])
 .ret))))
def za4 : Lay := ⟨37, [], false⟩
def z9h : List LRes := [.t 0]
def zge : LFn := ⟨0, za4, zd3, z9h⟩
theorem ze6 : wm Tryd.prog [] 5 = some zge := by kernel_rfl
theorem ze2 : ki Tryd.prog 5 := ⟨_, Tryd.func5, rfl, rfl⟩
noncomputable def y3 (m : Option Nat) : Option Bool :=
 (xb m ([104, 105] : List UInt8)).bind fun v1 =>
 if (((v1.1.length + ([33] : List UInt8).length : Nat) : Int) ≤ 9223372036854775807) then
 (qi m (v1.1 ++ ([33] : List UInt8))).bind fun v2 =>
 some (((((v1.2 == 0) && (v1.1 == ([67, 111, 110, 116, 101, 110, 116, 45, 76, 101, 110, 103, 116, 104, 58, 32, 50, 13, 10, 13, 10, 104, 105] : List UInt8))) && (v2.2.2 == 0)) && (v2.1 == ([104, 105] : List UInt8))) && (v2.2.1 == (v1.1.length : Int)))
 else none
def zgr (o : Bool) : Exit → Env → AHeap → Nat → Prop := Xa z9h (j3 (.bool o))
theorem z77 {m : Option Nat} {o : Bool} (h : y3 m = some o) : LWp Tryd.prog za4 0 zd3 (zgr o) (qp 0 []) [] 0 := by
 unfold y3 at h
 refine zc (zz ?_)
 refine zc (zz ?_)
 obtain ⟨v1, h1, h⟩ := bind_some h
 refine PFn.call (zdf h1) (AI (VS rfl) TT) ?_
 refine zc (zz ?_)
 obtain ⟨h2, h⟩ := zj h
 refine AI h2 ?_
 obtain ⟨v2, h3, h⟩ := bind_some h
 refine PFn.call (zaq h3) (AI (VS rfl) TT) ?_
 refine LWp.sim (e := [(1, .str v1.1), (2, i6 v1.2), (3, .str v2.1), (4, i6 v2.2.1), (5, i6 v2.2.2)]) (L := []) (n := 0) ?_ ?_
 ·exact x3 (M := []) rfl (S4 rfl rfl rfl rfl (AI (VS rfl) TT)) TT
 refine zc (zz ?_)
 refine AI (fun hp => hp) ?_
 refine AI (fun hc => (bqt hc)) ?_
 refine AI (fun hp => hp) ?_
 refine AI (fun hc => (bqt hc)) ?_
 refine AI (fun hp => hp) ?_
 refine AI (fun hc => (bqt hc)) ?_
 refine AI (fun hp => hp) ?_
 refine AI (fun hp => (AI hp hp)) ?_
 refine AI (fun hc => (bqt hc)) ?_
 refine LWp.sim (e := [(0, .bool (((((v1.2 == 0) && (v1.1 == ([67, 111, 110, 116, 101, 110, 116, 45, 76, 101, 110, 103, 116, 104, 58, 32, 50, 13, 10, 13, 10, 104, 105] : List UInt8))) && (v2.2.2 == 0)) && (v2.1 == ([104, 105] : List UInt8))) && (v2.2.1 == (v1.1.length : Int))))]) (L := []) (n := 0) ?_ ?_
 ·exact x3 (M := []) rfl (AI (VS rfl) TT) TT
 refine w3 ?_
 cases h
 exact AI TT (AI rfl (VS rfl))
theorem zcr {m : Option Nat} {o : Bool} (h : y3 m = some o) : PFn Tryd.prog 5 [] (.bool o) := PFn.ofFnW (L := zge) ze6 ze2 (NB rfl) rfl (z77 h)
def z66 : LCode := (.seq (.region [Qo 2 (.mv (.c (.str [])))])
 (.seq (.seq (.region [Qm 3 0,
  Qo 4 (.bin .lss (.t 3) (.c (i6 0)))])
 (.cond (.t 4)
  (.seq (.seq (.region [Qm 5 0,
   Qo 6 (.bin .eql (.t 5) (.c (i6 (-9223372036854775808))))])
  (.cond (.t 6)
   (.seq (.region [Qo 2 (.mv (.c (.str [45, 57, 50, 50, 51, 51, 55, 50, 48, 51, 54, 56, 53, 52, 55, 55, 53, 56, 48, 56])))])
   .ret)
   .skip))
  (.seq (.region [Qm 7 0,
   Qo 8 (.un .neg (.t 7)),
   Qc 9 7 8,
   Qo 10 (.bin .add (.c (.str [45])) (.t 9)),
   Qm 2 10])
  .ret))
  .skip))
 (.seq (.seq (.region [Qm 11 0,
  Qo 12 (.bin .geq (.t 11) (.c (i6 10)))])
 (.cond (.t 12)
  (.seq (.region [Qm 13 0,
   Qo 14 (.bin .quo (.t 13) (.c (i6 10))),
   Qc 15 7 14,
   Qm 16 0,
   Qo 17 (.bin .rem (.t 16) (.c (i6 10))),
   Qc 18 7 17,
   Qo 19 (.bin .add (.t 15) (.t 18)),
   Qm 2 19])
  .ret)
  .skip))
 (.seq (.region [Qm 20 0,
  Qm 21 0,
  Qo 22 (.bin .add (.t 21) (.c (i6 1))),
  Qo 23 (.slStr (.c (.str [48, 49, 50, 51, 52, 53, 54, 55, 56, 57])) (some (.t 20)) (some (.t 22))),
  Qm 2 23])
 .ret))))
def z1c : Lay := ⟨24, [], false⟩
def z04 : List LRes := [.t 2]
def za1 : LFn := ⟨1, z1c, z66, z04⟩
theorem z7d : wm Tryd.prog [] 7 = some za1 := by kernel_rfl
theorem z96 : ki Tryd.prog 7 := ⟨_, Tryd.func7, rfl, rfl⟩
noncomputable def zh (rec0 : Int → Option (List UInt8)) (m : Option Nat) (a0 : Int) : Option (List UInt8) :=
 if (decide (a0 < 0)) = true then
  if (a0 == (-9223372036854775808)) = true then
   some ([45, 57, 50, 50, 51, 51, 55, 50, 48, 51, 54, 56, 53, 52, 55, 55, 53, 56, 48, 56] : List UInt8)
  else
   (rec0 (W (0 - a0))).bind fun v1 =>
   if (((([45] : List UInt8).length + v1.length : Nat) : Int) ≤ 9223372036854775807) then
   some (([45] : List UInt8) ++ v1)
   else none
 else
  if (decide (a0 ≥ 10)) = true then
   (rec0 (W (a0.tdiv 10))).bind fun v2 =>
   (rec0 (a0.tmod 10)).bind fun v3 =>
   if (((v2.length + v3.length : Nat) : Int) ≤ 9223372036854775807) then
   some (v2 ++ v3)
   else none
  else
   if (0 : Int) ≤ a0 ∧ a0 ≤ (W (a0 + 1)) ∧ (W (a0 + 1)) ≤ (([48, 49, 50, 51, 52, 53, 54, 55, 56, 57] : List UInt8).length : Int) then
   some ((([48, 49, 50, 51, 52, 53, 54, 55, 56, 57] : List UInt8).take (W (a0 + 1)).toNat).drop a0.toNat)
   else none
def zdr (a0 : Int) (o : (List UInt8)) : Exit → Env → AHeap → Nat → Prop := Xa z04 (z1n 3 3 (.str o) [])
theorem z1v {rec0 : Int → Option (List UInt8)} (hrec0 : ∀ {a0 : Int} {o : (List UInt8)}, rec0 a0 = some o → ACalls Tryd.prog 7 [i6 a0] [] 3 (Z5 3 (.str o) [])) {a0 : Int} {m : Option Nat} {o : (List UInt8)} (h : zh rec0 m a0 = some o) : LWp Tryd.prog z1c 3 z66 (zdr a0 o) (qp 0 [i6 a0]) [] 3 := by
 unfold zh at h
 refine zc (zz ?_)
 refine zc ?_
 refine zc (zz ?_)
 refine qz (v := (decide (a0 < 0))) rfl TT (fun h1 => ?_) (fun h1 => ?_)
 ·have h := y4 h1 h
  refine zc ?_
  refine zc (zz ?_)
  refine qz (v := (a0 == (-9223372036854775808))) rfl TT (fun h2 => ?_) (fun h2 => ?_)
  ·have h := y4 h2 h
   refine zc (zz ?_)
   refine w3 ?_
   cases h
   exact AI TT (z9q (n' := 3) [] [] rfl rfl (VS rfl) TT)
  ·have h := yj h2 h
   refine xa ?_
   refine zc (zz ?_)
   obtain ⟨v1, h3, h⟩ := bind_some h
   refine z27 (k := 3) (m := 0) (L' := []) (rest := []) (R' := .str v1) [] (hrec0 h3) rfl rfl rfl (AI (VS rfl) TT) TT (vt _ rfl) TT rfl ?_
   obtain ⟨h4, h⟩ := zj h
   refine AI h4 ?_
   refine LWp.sim (e := [(2, .str (([45] : List UInt8) ++ v1))]) (L := []) (n := 3) ?_ ?_
   ·exact x3 (M := []) rfl (AI (VS rfl) TT) TT
   refine w3 ?_
   cases h
   exact AI TT (z9q (n' := 3) [] [] rfl rfl (VS rfl) TT)
 ·have h := yj h1 h
  refine xa ?_
  refine zc ?_
  refine zc (zz ?_)
  refine qz (v := (decide (a0 ≥ 10))) rfl TT (fun h5 => ?_) (fun h5 => ?_)
  ·have h := y4 h5 h
   refine zc (zz ?_)
   refine AI (by decide) ?_
   obtain ⟨v2, h6, h⟩ := bind_some h
   refine z27 (k := 3) (m := 0) (L' := []) (rest := []) (R' := .str v2) [] (hrec0 h6) rfl rfl rfl (AI (VS rfl) TT) TT (vt _ rfl) TT rfl ?_
   refine AI (by decide) ?_
   obtain ⟨v3, h7, h⟩ := bind_some h
   refine z27 (k := 3) (m := 0) (L' := []) (rest := []) (R' := .str v3) [] (hrec0 h7) rfl rfl rfl (AI (VS rfl) TT) TT (vt _ rfl) TT rfl ?_
   obtain ⟨h8, h⟩ := zj h
   refine AI h8 ?_
   refine LWp.sim (e := [(2, .str (v2 ++ v3))]) (L := []) (n := 3) ?_ ?_
   ·exact x3 (M := []) rfl (AI (VS rfl) TT) TT
   refine w3 ?_
   cases h
   exact AI TT (z9q (n' := 3) [] [] rfl rfl (VS rfl) TT)
  ·have h := yj h5 h
   refine xa ?_
   refine zc (zz ?_)
   obtain ⟨h9, h⟩ := zj h
   refine AI h9 ?_
   refine LWp.sim (e := [(2, .str ((([48, 49, 50, 51, 52, 53, 54, 55, 56, 57] : List UInt8).take (W (a0 + 1)).toNat).drop a0.toNat))]) (L := []) (n := 3) ?_ ?_
   ·exact x3 (M := []) rfl (AI (VS rfl) TT) TT
   refine w3 ?_
   cases h
   exact AI TT (z9q (n' := 3) [] [] rfl rfl (VS rfl) TT)
theorem z6y {rec0 : Int → Option (List UInt8)} (hrec0 : ∀ {a0 : Int} {o : (List UInt8)}, rec0 a0 = some o → ACalls Tryd.prog 7 [i6 a0] [] 3 (Z5 3 (.str o) [])) {a0 : Int} {m : Option Nat} {o : (List UInt8)} (h : zh rec0 m a0 = some o) : ACalls Tryd.prog 7 [i6 a0] [] 3 (Z5 3 (.str o) []) := z35 (L := za1) z7d z96 (NB rfl) (z1v hrec0 h)
noncomputable def y1 (m : Option Nat) : Nat → Int → Option (List UInt8)
 | 0 => fun _ => none
 | k + 1 => zh (y1 m k) m
noncomputable def qv (m : Option Nat) (a0 : Int) : Option (List UInt8) := zck m (fun k => y1 m k a0)
theorem Uy {m : Option Nat} : ∀ (k : Nat) {a0 : Int} {o : (List UInt8)}, y1 m k a0 = some o → ACalls Tryd.prog 7 [i6 a0] [] 3 (Z5 3 (.str o) [])
 | 0, _, _, h => nomatch h
 | k + 1, _, _, h => z6y (fun h => Uy k h) h
theorem z7r {a0 : Int} {m : Option Nat} {o : (List UInt8)} (h : qv m a0 = some o) : ACalls Tryd.prog 7 [i6 a0] [] 3 (Z5 3 (.str o) []) := (z3g h).elim fun k h => Uy k h
noncomputable def xt (m : Option Nat) (a0 : Int) : Option (List UInt8) := zh (qv m) m a0
theorem zfv {a0 : Int} {m : Option Nat} {o : (List UInt8)} (h : xt m a0 = some o) : PFn Tryd.prog 7 [i6 a0] (.str o) :=
 ⟨rfl, _, z27 (k := 3) (m := 0) (L' := []) (rest := []) (R' := .str o) [] (z6y z7r h) rfl rfl rfl (AI (VS rfl) TT) TT (vt _ rfl) TT rfl ⟨rfl, rfl, rfl⟩⟩
def z4n : LCode := (.seq (.region [Qo 10 (.bin .lss (.t 9) (.t 8))])
 (.seq (.cond (.t 10)
  .skip
  (.exit 0))
 (.seq (.block 1
  (.seq (.region [Qm 11 9,
   Qo 12 (.iaddr 1 (.t 7) (.t 9)),
   Ql 13 1 12,
   Qm 5 11,
   Qm 6 13])
  (.seq (.region [Qm 14 1,
   Qm 15 6,
   Qo 16 (.bin .eql (.t 14) (.t 15))])
  (.cond (.t 16)
   (.seq (.region [Qm 17 5,
    Qm 4 17])
   .ret)
   .skip))))
 (.region [Qo 18 (.bin .add (.t 9) (.c (i6 1))),
  Qm 9 18]))))
def z09 : LCode := (.seq (.region [Qo 4 (.mv (.c (i6 (-1))))])
 .ret)
def z9j : LCode := (.seq (.region [Qi 4 0])
 (.seq (.seq (.region [Qm 7 0,
  Qo 8 (.len false (.t 7)),
  Qi 9 0])
 (.block 0
  (.loop
   z4n)))
 z09))
def uq : Lay := ⟨19, [], false⟩
def z4p : List LRes := [.t 4]
def zdb : LFn := ⟨2, uq, z9j, z4p⟩
theorem zbb : wm Tryd.prog [] 28 = some zdb := by kernel_rfl
theorem zci : ki Tryd.prog 28 := ⟨_, Tryd.func28, rfl, rfl⟩
def z98 (a0 : List Int) (a1 : Int) (o : Int) : Exit → Env → AHeap → Nat → Prop := Xa z4p (j3 (i6 o))
def J1 (a0 : List Int) (a1 : Int) (s : Int) : Env := [(1, .int .u8 a1), (7, .isl 1 (a0.map Xr) false), (8, i6 ((a0.map Xr).length : Int)), (9, i6 s)]
def V1 (a0 : List Int) (a1 : Int) (s : Int) : AHeap := []
def Ux (a0 : List Int) (a1 : Int) (o : Int) : Exit → Env → AHeap → Nat → Prop := (x7 0 (X9 Tryd.prog uq 0 z09 (z98 a0 a1 o)))
noncomputable def q7 (m : Option Nat) : Option Int :=
 some (-1)
noncomputable def zn (m : Option Nat) (a0 : List Int) (a1 : Int) (v1 : Int) : Option (Int ⊕ Int) :=
 if (decide (v1 < ((a0.map Xr).length : Int))) = true then
  if (0 : Int) ≤ v1 ∧ v1 < ((a0.map Xr).length : Int) then
  if (a1 == (a0.getD v1.toNat default)) = true then
   Option.map Sum.inr (
    some v1)
  else
   some (.inl (W (v1 + 1)))
  else none
 else
  Option.map Sum.inr (
   q7 m)
noncomputable def ye (m : Option Nat) (a0 : List Int) (a1 : Int) (v1 : Int) : Option Int := vb m (fun (s : Int) => zn m a0 a1 s) v1
theorem z50 {a0 : List Int} {a1 : Int} {m : Option Nat} {o : Int} (h : q7 m = some o) :
 LWp Tryd.prog uq 0 z09 (z98 a0 a1 o) [] [] 0 := by
 unfold q7 at h
 refine zc (zz ?_)
 refine w3 ?_
 cases h
 exact AI TT (AI rfl (VS rfl))
theorem z2f {a0 : List Int} {a1 : Int} {v1 : Int} {m : Option Nat} {o : Int ⊕ Int} (h : zn m a0 a1 v1 = some o) :
 LWp Tryd.prog uq 0 z4n (kh 0 0 (J1 a0 a1) (V1 a0 a1) (Ux a0 a1) o) [(1, .int .u8 a1), (7, .isl 1 (a0.map Xr) false), (8, i6 ((a0.map Xr).length : Int)), (9, i6 v1)] [] 0 := by
 unfold zn at h
 refine zc (zz ?_)
 refine zc ?_
 refine qz (v := (decide (v1 < ((a0.map Xr).length : Int)))) rfl TT (fun h7 => ?_) (fun h7 => ?_)
 ·have h := y4 h7 h
  refine xa ?_
  refine zc ?_
  refine xn ?_
  refine zc (zz ?_)
  obtain ⟨h8, h⟩ := zj h
  refine AI h8 ?_
  refine EX (Xr (a0.getD v1.toNat default)) (AI (Jq Xr _ _ (U9 Xr h8)) (AI (AI (z33 h8) (NB rfl)) ?_))
  refine zc (zz ?_)
  refine LWp.sim (e := [(1, .int .u8 a1), (5, i6 v1), (7, .isl 1 (a0.map Xr) false), (8, i6 ((a0.map Xr).length : Int)), (9, i6 v1), (16, .bool (a1 == (a0.getD v1.toNat default)))]) (L := []) (n := 0) ?_ ?_
  ·exact x3 (M := []) rfl (S4 rfl rfl rfl rfl (S2 rfl rfl TT)) TT
  refine qz (v := (a1 == (a0.getD v1.toNat default))) rfl TT (fun h9 => ?_) (fun h9 => ?_)
  ·have h := y4 h9 h
   refine zc (zz ?_)
   refine w3 ?_
   obtain ⟨o, hq, rfl⟩ := Option.map_eq_some_iff.1 h
   replace h := hq; clear hq
   refine AI nofun ?_
   cases h
   exact AI TT (AI rfl (VS rfl))
  ·have h := yj h9 h
   refine xa ?_
   refine zz ?_
   cases h
   exact AI rfl (x3 (M := []) rfl (S4 rfl rfl rfl rfl TT) TT)
 ·have h := yj h7 h
  refine Yz ?_
  obtain ⟨o, hq, rfl⟩ := Option.map_eq_some_iff.1 h
  replace h := hq; clear hq
  refine AI nofun ?_
  refine LWp.sim ?_ (z50 h)
  exact x3 (M := []) rfl TT TT
theorem z64 {a0 : List Int} {a1 : Int} {v1 : Int} {m : Option Nat} {o : Int} (h : ye m a0 a1 v1 = some o) :
 LWp Tryd.prog uq 0 (.loop z4n) (x7 0 (X9 Tryd.prog uq 0 z09 (z98 a0 a1 o))) [(1, .int .u8 a1), (7, .isl 1 (a0.map Xr) false), (8, i6 ((a0.map Xr).length : Int)), (9, i6 v1)] [] 0 :=
 xk (m := m) (s := (v1 : Int)) (r := o) (fun (s : Int) => zn m a0 a1 s) (J1 a0 a1) (V1 a0 a1) (Ux a0 a1) (fun s o h => z2f h) h
noncomputable def y9 (m : Option Nat) (a0 : List Int) (a1 : Int) : Option Int :=
 ye m a0 a1 0
theorem z5m {a0 : List Int} {a1 : Int} {m : Option Nat} {o : Int} (h : y9 m a0 a1 = some o) : LWp Tryd.prog uq 0 z9j (z98 a0 a1 o) (qp 0 [.isl 1 (a0.map Xr) false, .int .u8 a1]) [] 0 := by
 unfold y9 at h
 refine zc (zz ?_)
 refine zc ?_
 refine zc (zz ?_)
 refine xn ?_
 refine LWp.sim ?_ (z64 h)
 exact x3 (M := []) rfl (S4 rfl rfl rfl rfl TT) TT
theorem zcy {a0 : List Int} {a1 : Int} {m : Option Nat} {o : Int} (h : y9 m a0 a1 = some o) : PFn Tryd.prog 28 [.isl 1 (a0.map Xr) false, .int .u8 a1] (i6 o) := PFn.ofFnW (L := zdb) zbb zci (NB rfl) rfl (z5m h)
def zaa : LCode := (.region [Qm 22 3,
 Qm 23 5,
 Qo 24 (.mkSl true 1 [(.int .u8 0)] 1 [(0, (.t 23))]),
 Qo 25 (.conv .b2s (.t 24)),
 Qo 26 (.bin .add (.t 22) (.t 25)),
 Qm 3 26])
def za3 : LCode := (.region [Qo 27 (.bin .add (.t 8) (.c (i6 1))),
 Qm 8 27])
def z3c : LCode := (.seq (.region [Qo 9 (.bin .lss (.t 8) (.t 7))])
 (.seq (.cond (.t 9)
  .skip
  (.exit 0))
 (.seq (.block 1
  (.seq (.region [Qm 10 8,
   Qm 4 10])
  (.seq (.region [Qm 11 0,
   Qm 12 4,
   Qo 13 (.idxS (.t 11) (.t 12)),
   Qm 5 13])
  (.seq (.seq (.region [Qm 14 5,
   Qo 15 (.bin .geq (.t 14) (.c (.int .u8 65))),
   Qm 16 15,
   Qn 17 5 (16, true),
   Qg 18 (.bin .leq (.t 17) (.c (.int .u8 90))) (16, true),
   Qp 19 16 18])
  (.cond (.t 19)
   (.region [Qm 20 5,
    Qo 21 (.bin .add (.t 20) (.c (.int .u8 32))),
    Qm 5 21])
   .skip))
  zaa))))
 za3)))
def z1d : LCode := (.seq (.region [Qm 28 3,
 Qm 2 28])
 .ret)
def z9m : LCode := (.seq (.region [Qo 2 (.mv (.c (.str [])))])
 (.seq (.region [Qo 3 (.mv (.c (.str [])))])
 (.seq (.seq (.region [Qm 6 0,
  Qo 7 (.len true (.t 6)),
  Qi 8 0])
 (.block 0
  (.loop
   z3c)))
 z1d)))
def kb : Lay := ⟨29, [], false⟩
def z5n : List LRes := [.t 2]
def ze3 : LFn := ⟨1, kb, z9m, z5n⟩
theorem zae : wm Tryd.prog [] 29 = some ze3 := by kernel_rfl
theorem zbf : ki Tryd.prog 29 := ⟨_, Tryd.func29, rfl, rfl⟩
def z7h (a0 : List UInt8) (o : (List UInt8)) : Exit → Env → AHeap → Nat → Prop := Xa z5n (j3 (.str o))
def Zx (a0 : List UInt8) (s : ((List UInt8) × Int)) : Env := [(0, .str a0), (3, .str s.1), (7, i6 (a0.length : Int)), (8, i6 s.2)]
def X1 (a0 : List UInt8) (s : ((List UInt8) × Int)) : AHeap := []
def Wg (a0 : List UInt8) (o : (List UInt8)) : Exit → Env → AHeap → Nat → Prop := (x7 0 (X9 Tryd.prog kb 0 z1d (z7h a0 o)))
noncomputable def qb (m : Option Nat) (a0 : List UInt8) (v2 : List UInt8) (v3 : Int) (v5 : Int) : Option (((List UInt8) × Int) ⊕ (List UInt8)) :=
 if (((v2.length + (([v5] : List Int).map zep).length : Nat) : Int) ≤ 9223372036854775807) then
 some (.inl ((v2 ++ (([v5] : List Int).map zep)), (W (v3 + 1))))
 else none
theorem Vp {a0 : List UInt8} {v2 : List UInt8} {v3 : Int} {v5 : Int} {m : Option Nat} {o : (((List UInt8) × Int) ⊕ (List UInt8))} (h : qb m a0 v2 v3 v5 = some o) :
 LWp Tryd.prog kb 0 zaa (x7 1 (X9 Tryd.prog kb 0 za3 (kh 0 0 (Zx a0) (X1 a0) (Wg a0) o))) [(0, .str a0), (3, .str v2), (5, .int .u8 v5), (7, i6 (a0.length : Int)), (8, i6 v3)] [] 0 := by
 unfold qb at h
 refine zz ?_
 refine EX (([v5] : List Int).map zep) (AI (zb4 ([v5] : List Int)) (AI (zbv ([v5] : List Int)) ?_))
 obtain ⟨h12, h⟩ := zj h
 refine AI h12 ?_
 refine zz ?_
 cases h
 exact AI rfl (x3 (M := []) rfl (S4 rfl rfl rfl rfl TT) TT)
noncomputable def qt (m : Option Nat) (v2 : List UInt8) : Option (List UInt8) :=
 some v2
noncomputable def y7 (m : Option Nat) (a0 : List UInt8) (v2 : List UInt8) (v3 : Int) : Option (((List UInt8) × Int) ⊕ (List UInt8)) :=
 if (decide (v3 < (a0.length : Int))) = true then
  if (0 : Int) ≤ v3 ∧ v3 < (a0.length : Int) then
  if ((decide ((((a0.getD v3.toNat 0).toNat : Nat) : Int) ≥ 65)) && (decide ((((a0.getD v3.toNat 0).toNat : Nat) : Int) ≤ 90))) = true then
   qb m a0 v2 v3 (IntKind.wrap .u8 ((((a0.getD v3.toNat 0).toNat : Nat) : Int) + 32))
  else
   qb m a0 v2 v3 (((a0.getD v3.toNat 0).toNat : Nat) : Int)
  else none
 else
  Option.map Sum.inr (
   qt m v2)
noncomputable def qa (m : Option Nat) (a0 : List UInt8) (v2 : List UInt8) (v3 : Int) : Option (List UInt8) := vb m (fun (s : ((List UInt8) × Int)) => y7 m a0 s.1 s.2) (v2, v3)
theorem z6u {a0 : List UInt8} {v2 : List UInt8} {m : Option Nat} {o : (List UInt8)} (h : qt m v2 = some o) :
 LWp Tryd.prog kb 0 z1d (z7h a0 o) [(3, .str v2)] [] 0 := by
 unfold qt at h
 refine zc (zz ?_)
 refine w3 ?_
 cases h
 exact AI TT (AI rfl (VS rfl))
theorem z2l {a0 : List UInt8} {v2 : List UInt8} {v3 : Int} {m : Option Nat} {o : ((List UInt8) × Int) ⊕ (List UInt8)} (h : y7 m a0 v2 v3 = some o) :
 LWp Tryd.prog kb 0 z3c (kh 0 0 (Zx a0) (X1 a0) (Wg a0) o) [(0, .str a0), (3, .str v2), (7, i6 (a0.length : Int)), (8, i6 v3)] [] 0 := by
 unfold y7 at h
 refine zc (zz ?_)
 refine zc ?_
 refine qz (v := (decide (v3 < (a0.length : Int)))) rfl TT (fun h9 => ?_) (fun h9 => ?_)
 ·have h := y4 h9 h
  refine xa ?_
  refine zc ?_
  refine xn ?_
  refine zc (zz ?_)
  refine zc (zz ?_)
  obtain ⟨h10, h⟩ := zj h
  refine AI h10 ?_
  refine zc ?_
  refine zc (zz ?_)
  refine AI (fun hp => hp) ?_
  refine AI (fun hc => (bqt hc)) ?_
  refine LWp.sim (e := [(0, .str a0), (3, .str v2), (5, .int .u8 (((a0.getD v3.toNat 0).toNat : Nat) : Int)), (7, i6 (a0.length : Int)), (8, i6 v3), (19, .bool ((decide ((((a0.getD v3.toNat 0).toNat : Nat) : Int) ≥ 65)) && (decide ((((a0.getD v3.toNat 0).toNat : Nat) : Int) ≤ 90))))]) (L := []) (n := 0) ?_ ?_
  ·exact x3 (M := []) rfl (S4 rfl rfl rfl rfl (S2 rfl rfl TT)) TT
  refine qz (v := ((decide ((((a0.getD v3.toNat 0).toNat : Nat) : Int) ≥ 65)) && (decide ((((a0.getD v3.toNat 0).toNat : Nat) : Int) ≤ 90)))) rfl TT (fun h11 => ?_) (fun h11 => ?_)
  ·have h := y4 h11 h
   refine zz ?_
   refine LWp.sim ?_ (Vp h)
   exact x3 (M := []) rfl (S4 rfl rfl rfl rfl (AI (VS rfl) TT)) TT
  ·have h := yj h11 h
   refine xa ?_
   refine LWp.sim ?_ (Vp h)
   exact x3 (M := []) rfl (S4 rfl rfl rfl rfl (AI (VS rfl) TT)) TT
 ·have h := yj h9 h
  refine Yz ?_
  obtain ⟨o, hq, rfl⟩ := Option.map_eq_some_iff.1 h
  replace h := hq; clear hq
  refine AI nofun ?_
  refine LWp.sim ?_ (z6u h)
  exact x3 (M := []) rfl (AI (VS rfl) TT) TT
theorem z3z {a0 : List UInt8} {v2 : List UInt8} {v3 : Int} {m : Option Nat} {o : (List UInt8)} (h : qa m a0 v2 v3 = some o) :
 LWp Tryd.prog kb 0 (.loop z3c) (x7 0 (X9 Tryd.prog kb 0 z1d (z7h a0 o))) [(0, .str a0), (3, .str v2), (7, i6 (a0.length : Int)), (8, i6 v3)] [] 0 :=
 xk (m := m) (s := ((v2, v3) : ((List UInt8) × Int))) (r := o) (fun (s : ((List UInt8) × Int)) => y7 m a0 s.1 s.2) (Zx a0) (X1 a0) (Wg a0) (fun s o h => z2l h) h
noncomputable def qj (m : Option Nat) (a0 : List UInt8) : Option (List UInt8) :=
 qa m a0 ([] : List UInt8) 0
theorem z5w {a0 : List UInt8} {m : Option Nat} {o : (List UInt8)} (h : qj m a0 = some o) : LWp Tryd.prog kb 0 z9m (z7h a0 o) (qp 0 [.str a0]) [] 0 := by
 unfold qj at h
 refine zc (zz ?_)
 refine zc (zz ?_)
 refine zc ?_
 refine zc (zz ?_)
 refine xn ?_
 refine LWp.sim ?_ (z3z h)
 exact x3 (M := []) rfl (S4 rfl rfl rfl rfl TT) TT
theorem zcs {a0 : List UInt8} {m : Option Nat} {o : (List UInt8)} (h : qj m a0 = some o) : PFn Tryd.prog 29 [.str a0] (.str o) := PFn.ofFnW (L := ze3) zae zbf (NB rfl) rfl (z5w h)
def z44 : LCode := (.seq (.seq (.region [Qm 3 0,
 Qo 4 (.bin .neq (.t 3) (.c (.str []))),
 Qm 5 4,
 Qn 6 0 (5, true),
 Qg 7 (.idxS (.t 6) (.c (i6 0))) (5, true),
 Qg 8 (.bin .eql (.t 7) (.c (.int .u8 32))) (5, true),
 Qn 9 8 (5, true),
 Qn 10 0 (9, false),
 Qg 11 (.idxS (.t 10) (.c (i6 0))) (9, false),
 Qg 12 (.bin .eql (.t 11) (.c (.int .u8 9))) (9, false),
 Qg 13 (.pick (.t 9) (.c (.bool true)) (.t 12)) (5, true),
 Qp 14 5 13])
 (.cond (.t 14)
  .skip
  (.exit 0)))
 (.block 1
  (.region [Qm 15 0,
   Qo 16 (.slStr (.t 15) (some (.c (i6 1))) none),
   Qm 0 16])))
def z3m : LCode := (.seq (.seq (.region [Qm 17 0,
 Qo 18 (.bin .neq (.t 17) (.c (.str []))),
 Qm 19 18,
 Qn 20 0 (19, true),
 Qn 21 0 (19, true),
 Qg 22 (.len true (.t 21)) (19, true),
 Qg 23 (.bin .sub (.t 22) (.c (i6 1))) (19, true),
 Qg 24 (.idxS (.t 20) (.t 23)) (19, true),
 Qg 25 (.bin .eql (.t 24) (.c (.int .u8 32))) (19, true),
 Qn 26 25 (19, true),
 Qn 27 0 (26, false),
 Qn 28 0 (26, false),
 Qg 29 (.len true (.t 28)) (26, false),
 Qg 30 (.bin .sub (.t 29) (.c (i6 1))) (26, false),
 Qg 31 (.idxS (.t 27) (.t 30)) (26, false),
 Qg 32 (.bin .eql (.t 31) (.c (.int .u8 9))) (26, false),
 Qg 33 (.pick (.t 26) (.c (.bool true)) (.t 32)) (19, true),
 Qp 34 19 33])
 (.cond (.t 34)
  .skip
  (.exit 2)))
 (.block 3
  (.region [Qm 35 0,
   Qm 36 0,
   Qo 37 (.len true (.t 36)),
   Qo 38 (.bin .sub (.t 37) (.c (i6 1))),
   Qo 39 (.slStr (.t 35) none (some (.t 38))),
   Qm 0 39])))
def z0y : LCode := (.seq (.region [Qm 40 0,
 Qm 2 40])
 .ret)
def z0i : LCode := (.seq (.block 2
 (.loop
  z3m))
 z0y)
def za5 : LCode := (.seq (.region [Qo 2 (.mv (.c (.str [])))])
 (.seq (.block 0
  (.loop
   z44))
 z0i))
def w5 : Lay := ⟨41, [], false⟩
def z2x : List LRes := [.t 2]
def zcx : LFn := ⟨1, w5, za5, z2x⟩
theorem zc1 : wm Tryd.prog [] 30 = some zcx := by kernel_rfl
theorem zb3 : ki Tryd.prog 30 := ⟨_, Tryd.func30, rfl, rfl⟩
def Kt (a0 : List UInt8) (o : (List UInt8)) : Exit → Env → AHeap → Nat → Prop := Xa z2x (j3 (.str o))
def J6 (s : (List UInt8)) : Env := [(0, .str s)]
def Vy (s : (List UInt8)) : AHeap := []
def z19 (a0 : List UInt8) (o : (List UInt8)) : Exit → Env → AHeap → Nat → Prop := (x7 0 (X9 Tryd.prog w5 0 z0i (Kt a0 o)))
noncomputable def yg (m : Option Nat) (v2 : List UInt8) : Option (List UInt8) :=
 some v2
noncomputable def zm (m : Option Nat) (v2 : List UInt8) : Option ((List UInt8) ⊕ (List UInt8)) :=
 if (((!(v2 == ([] : List UInt8))) == true) = true → (0 : Int) ≤ (W ((v2.length : Int) - 1)) ∧ (W ((v2.length : Int) - 1)) < (v2.length : Int)) then
 if ((((!(v2 == ([] : List UInt8))) == true) && (((((v2.getD (W ((v2.length : Int) - 1)).toNat 0).toNat : Nat) : Int) == 32) == false)) = true → (0 : Int) ≤ (W ((v2.length : Int) - 1)) ∧ (W ((v2.length : Int) - 1)) < (v2.length : Int)) then
 if ((!(v2 == ([] : List UInt8))) && (((((v2.getD (W ((v2.length : Int) - 1)).toNat 0).toNat : Nat) : Int) == 32) || ((((v2.getD (W ((v2.length : Int) - 1)).toNat 0).toNat : Nat) : Int) == 9))) = true then
  if (0 : Int) ≤ (W ((v2.length : Int) - 1)) ∧ (W ((v2.length : Int) - 1)) ≤ (v2.length : Int) then
  some (.inl ((v2.take (W ((v2.length : Int) - 1)).toNat).drop 0))
  else none
 else
  Option.map Sum.inr (
   yg m v2)
 else none
 else none
noncomputable def yh (m : Option Nat) (v2 : List UInt8) : Option (List UInt8) := vb m (fun (s : (List UInt8)) => zm m s) v2
noncomputable def yi (m : Option Nat) (v1 : List UInt8) : Option (List UInt8) :=
 yh m v1
noncomputable def zl (m : Option Nat) (v1 : List UInt8) : Option ((List UInt8) ⊕ (List UInt8)) :=
 if (((!(v1 == ([] : List UInt8))) == true) = true → (0 : Int) ≤ 0 ∧ 0 < (v1.length : Int)) then
 if ((((!(v1 == ([] : List UInt8))) == true) && (((((v1.getD (0 : Int).toNat 0).toNat : Nat) : Int) == 32) == false)) = true → (0 : Int) ≤ 0 ∧ 0 < (v1.length : Int)) then
 if ((!(v1 == ([] : List UInt8))) && (((((v1.getD (0 : Int).toNat 0).toNat : Nat) : Int) == 32) || ((((v1.getD (0 : Int).toNat 0).toNat : Nat) : Int) == 9))) = true then
  if (0 : Int) ≤ 1 ∧ 1 ≤ (v1.length : Int) then
  some (.inl ((v1.take v1.length).drop (1 : Int).toNat))
  else none
 else
  Option.map Sum.inr (
   yi m v1)
 else none
 else none
noncomputable def yf (m : Option Nat) (v1 : List UInt8) : Option (List UInt8) := vb m (fun (s : (List UInt8)) => zl m s) v1
def Xt (s : (List UInt8)) : Env := [(0, .str s)]
def Ka (s : (List UInt8)) : AHeap := []
def z1b (a0 : List UInt8) (o : (List UInt8)) : Exit → Env → AHeap → Nat → Prop := (x7 2 (X9 Tryd.prog w5 0 z0y (Kt a0 o)))
theorem z6q {a0 : List UInt8} {v2 : List UInt8} {m : Option Nat} {o : (List UInt8)} (h : yg m v2 = some o) :
 LWp Tryd.prog w5 0 z0y (Kt a0 o) [(0, .str v2)] [] 0 := by
 unfold yg at h
 refine zc (zz ?_)
 refine w3 ?_
 cases h
 exact AI TT (AI rfl (VS rfl))
theorem z1t {a0 : List UInt8} {v2 : List UInt8} {m : Option Nat} {o : (List UInt8) ⊕ (List UInt8)} (h : zm m v2 = some o) :
 LWp Tryd.prog w5 0 z3m (kh 0 0 (Xt) (Ka) (z1b a0) o) [(0, .str v2)] [] 0 := by
 unfold zm at h
 refine zc ?_
 refine zc (zz ?_)
 refine AI (fun hp => hp) ?_
 refine AI (fun hp => hp) ?_
 obtain ⟨h21, h⟩ := zj h
 refine AI (fun hp => (AI (AI hp hp) (h21 hp))) ?_
 refine AI (fun hp => hp) ?_
 refine AI (fun hp => hp) ?_
 refine AI (fun hp => hp) ?_
 refine AI (fun hp => hp) ?_
 obtain ⟨h22, h⟩ := zj h
 refine AI (fun hp => (AI (AI hp hp) (h22 hp))) ?_
 refine AI (fun hp => hp) ?_
 refine AI (fun hp => (AI hp (fun hc => (Yn hp (bqf hc))))) ?_
 refine AI (fun hc => (bqt hc)) ?_
 refine LWp.sim (e := [(0, .str v2), (34, .bool ((!(v2 == ([] : List UInt8))) && (((((v2.getD (W ((v2.length : Int) - 1)).toNat 0).toNat : Nat) : Int) == 32) || ((((v2.getD (W ((v2.length : Int) - 1)).toNat 0).toNat : Nat) : Int) == 9))))]) (L := []) (n := 0) ?_ ?_
 ·exact x3 (M := []) rfl (S2 rfl rfl TT) TT
 refine qz (v := ((!(v2 == ([] : List UInt8))) && (((((v2.getD (W ((v2.length : Int) - 1)).toNat 0).toNat : Nat) : Int) == 32) || ((((v2.getD (W ((v2.length : Int) - 1)).toNat 0).toNat : Nat) : Int) == 9)))) rfl TT (fun h23 => ?_) (fun h23 => ?_)
 ·have h := y4 h23 h
  refine xa ?_
  refine xn ?_
  refine zz ?_
  obtain ⟨h24, h⟩ := zj h
  refine AI (AI (Int.le_refl _) h24) ?_
  cases h
  exact AI rfl (x3 (M := []) rfl (AI (VS rfl) TT) TT)
 ·have h := yj h23 h
  refine Yz ?_
  obtain ⟨o, hq, rfl⟩ := Option.map_eq_some_iff.1 h
  replace h := hq; clear hq
  refine AI nofun ?_
  refine LWp.sim ?_ (z6q h)
  exact x3 (M := []) rfl (AI (VS rfl) TT) TT
theorem z5p {a0 : List UInt8} {v2 : List UInt8} {m : Option Nat} {o : (List UInt8)} (h : yh m v2 = some o) :
 LWp Tryd.prog w5 0 (.loop z3m) (x7 2 (X9 Tryd.prog w5 0 z0y (Kt a0 o))) [(0, .str v2)] [] 0 :=
 xk (m := m) (s := (v2 : (List UInt8))) (r := o) (fun (s : (List UInt8)) => zm m s) (Xt) (Ka) (z1b a0) (fun s o h => z1t h) h
theorem z6g {a0 : List UInt8} {v1 : List UInt8} {m : Option Nat} {o : (List UInt8)} (h : yi m v1 = some o) :
 LWp Tryd.prog w5 0 z0i (Kt a0 o) [(0, .str v1)] [] 0 := by
 unfold yi at h
 refine zc ?_
 refine xn ?_
 refine LWp.sim ?_ (z5p h)
 exact x3 (M := []) rfl (AI (VS rfl) TT) TT
theorem z28 {a0 : List UInt8} {v1 : List UInt8} {m : Option Nat} {o : (List UInt8) ⊕ (List UInt8)} (h : zl m v1 = some o) :
 LWp Tryd.prog w5 0 z44 (kh 0 0 (J6) (Vy) (z19 a0) o) [(0, .str v1)] [] 0 := by
 unfold zl at h
 refine zc ?_
 refine zc (zz ?_)
 obtain ⟨h9, h⟩ := zj h
 refine AI (fun hp => (AI hp (h9 hp))) ?_
 refine AI (fun hp => hp) ?_
 refine AI (fun hp => hp) ?_
 obtain ⟨h10, h⟩ := zj h
 refine AI (fun hp => (AI hp (h10 hp))) ?_
 refine AI (fun hp => hp) ?_
 refine AI (fun hp => (AI hp (fun hc => (Yn hp (bqf hc))))) ?_
 refine AI (fun hc => (bqt hc)) ?_
 refine LWp.sim (e := [(0, .str v1), (14, .bool ((!(v1 == ([] : List UInt8))) && (((((v1.getD (0 : Int).toNat 0).toNat : Nat) : Int) == 32) || ((((v1.getD (0 : Int).toNat 0).toNat : Nat) : Int) == 9))))]) (L := []) (n := 0) ?_ ?_
 ·exact x3 (M := []) rfl (S2 rfl rfl TT) TT
 refine qz (v := ((!(v1 == ([] : List UInt8))) && (((((v1.getD (0 : Int).toNat 0).toNat : Nat) : Int) == 32) || ((((v1.getD (0 : Int).toNat 0).toNat : Nat) : Int) == 9)))) rfl TT (fun h11 => ?_) (fun h11 => ?_)
 ·have h := y4 h11 h
  refine xa ?_
  refine xn ?_
  refine zz ?_
  obtain ⟨h12, h⟩ := zj h
  refine AI (AI (And.left h12) (AI (And.right h12) (Int.le_refl _))) ?_
  cases h
  exact AI rfl (x3 (M := []) rfl (AI (VS rfl) TT) TT)
 ·have h := yj h11 h
  refine Yz ?_
  obtain ⟨o, hq, rfl⟩ := Option.map_eq_some_iff.1 h
  replace h := hq; clear hq
  refine AI nofun ?_
  refine LWp.sim ?_ (z6g h)
  exact x3 (M := []) rfl (AI (VS rfl) TT) TT
theorem z5t {a0 : List UInt8} {v1 : List UInt8} {m : Option Nat} {o : (List UInt8)} (h : yf m v1 = some o) :
 LWp Tryd.prog w5 0 (.loop z44) (x7 0 (X9 Tryd.prog w5 0 z0i (Kt a0 o))) [(0, .str v1)] [] 0 :=
 xk (m := m) (s := (v1 : (List UInt8))) (r := o) (fun (s : (List UInt8)) => zl m s) (J6) (Vy) (z19 a0) (fun s o h => z28 h) h
noncomputable def yx (m : Option Nat) (a0 : List UInt8) : Option (List UInt8) :=
 yf m a0
theorem z3e {a0 : List UInt8} {m : Option Nat} {o : (List UInt8)} (h : yx m a0 = some o) : LWp Tryd.prog w5 0 za5 (Kt a0 o) (qp 0 [.str a0]) [] 0 := by
 unfold yx at h
 refine zc (zz ?_)
 refine zc ?_
 refine xn ?_
 refine LWp.sim ?_ (z5t h)
 exact x3 (M := []) rfl (AI (VS rfl) TT) TT
theorem zdj {a0 : List UInt8} {m : Option Nat} {o : (List UInt8)} (h : yx m a0 = some o) : PFn Tryd.prog 30 [.str a0] (.str o) := PFn.ofFnW (L := zcx) zc1 zb3 (NB rfl) rfl (z3e h)
def z3s : LCode := (.seq (.region [Qo 18 (.bin .lss (.t 17) (.t 16))])
 (.seq (.cond (.t 18)
  .skip
  (.exit 0))
 (.seq (.block 1
  (.seq (.region [Qm 19 17,
   Qm 5 19])
  (.seq (.region [Qm 20 0,
   Qm 21 5,
   Qo 22 (.idxS (.t 20) (.t 21)),
   Qm 6 22])
  (.seq (.region [Qm 23 5,
   Qm 24 4,
   Qo 25 (.bin .lss (.t 23) (.t 24)),
   Qm 26 25,
   Qn 27 6 (26, true),
   Qg 28 (.bin .lss (.t 27) (.c (.int .u8 33))) (26, true),
   Qn 29 28 (26, true),
   Qn 30 6 (29, false),
   Qg 31 (.bin .gtr (.t 30) (.c (.int .u8 126))) (29, false),
   Qg 32 (.pick (.t 29) (.c (.bool true)) (.t 31)) (26, true),
   Qp 33 26 32,
   Qm 34 33,
   Qn 35 5 (34, false),
   Qn 36 4 (34, false),
   Qg 37 (.bin .gtr (.t 35) (.t 36)) (34, false),
   Qn 38 37 (34, false),
   Qn 39 6 (38, true),
   Qg 40 (.bin .neq (.t 39) (.c (.int .u8 9))) (38, true),
   Qg 41 (.pick (.t 38) (.t 40) (.c (.bool false))) (34, false),
   Qn 42 41 (34, false),
   Qn 43 6 (42, true),
   Qg 44 (.bin .lss (.t 43) (.c (.int .u8 32))) (42, true),
   Qn 45 44 (42, true),
   Qn 46 6 (45, false),
   Qg 47 (.bin .gtr (.t 46) (.c (.int .u8 126))) (45, false),
   Qg 48 (.pick (.t 45) (.c (.bool true)) (.t 47)) (42, true),
   Qg 49 (.pick (.t 42) (.t 48) (.c (.bool false))) (34, false),
   Qo 50 (.pick (.t 34) (.c (.bool true)) (.t 49))])
  (.cond (.t 50)
   (.seq (.region [Qo 2 (.mv (.c (i6 (-1)))),
    Qb 3])
   .ret)
   .skip)))))
 (.region [Qo 51 (.bin .add (.t 17) (.c (i6 1))),
  Qm 17 51]))))
def z4l : LCode := (.seq (.region [Qo 73 (.bin .lss (.t 72) (.t 71))])
 (.seq (.cond (.t 73)
  .skip
  (.exit 2))
 (.seq (.block 3
  (.seq (.region [Qm 74 72,
   Qm 9 74])
  (.seq (.seq (.region [Qm 75 7,
   Qm 76 9,
   Qo 77 (.idxS (.t 75) (.t 76)),
   Qo 78 (.bin .lss (.t 77) (.c (.int .u8 48))),
   Qm 79 78,
   Qn 80 7 (79, false),
   Qn 81 9 (79, false),
   Qg 82 (.idxS (.t 80) (.t 81)) (79, false),
   Qg 83 (.bin .gtr (.t 82) (.c (.int .u8 57))) (79, false),
   Qo 84 (.pick (.t 79) (.c (.bool true)) (.t 83))])
  (.cond (.t 84)
   (.seq (.region [Qo 2 (.mv (.c (i6 (-1)))),
    Qb 3])
   .ret)
   .skip))
  (.region [Qm 85 8,
   Qo 86 (.bin .mul (.c (i6 10)) (.t 85)),
   Qm 87 7,
   Qm 88 9,
   Qo 89 (.idxS (.t 87) (.t 88)),
   Qo 90 (.bin .sub (.t 89) (.c (.int .u8 48))),
   Qo 91 (.conv (.int .i64) (.t 90)),
   Qo 92 (.bin .add (.t 86) (.t 91)),
   Qm 8 92]))))
 (.region [Qo 93 (.bin .add (.t 72) (.c (i6 1))),
  Qm 72 93]))))
def Uz : LCode := (.seq (.region [Qm 94 8,
 Qm 95 8,
 Qo 96 (.bin .leq (.t 95) (.c (i6 4000))),
 Qm 2 94,
 Qm 3 96])
 .ret)
def z0f : LCode := (.seq (.seq (.region [Qm 52 0,
 Qm 53 4,
 Qo 54 (.slStr (.t 52) none (some (.t 53))),
 Qc 55 29 54,
 Qo 56 (.bin .neq (.t 55) (.c (.str [99, 111, 110, 116, 101, 110, 116, 45, 108, 101, 110, 103, 116, 104])))])
 (.cond (.t 56)
  (.seq (.region [Qo 2 (.mv (.c (i6 (-1)))),
   Qo 3 (.mv (.c (.bool true)))])
  .ret)
  .skip))
 (.seq (.region [Qm 57 0,
  Qm 58 4,
  Qo 59 (.bin .add (.t 58) (.c (i6 1))),
  Qo 60 (.slStr (.t 57) (some (.t 59)) none),
  Qc 61 30 60,
  Qm 7 61])
 (.seq (.seq (.region [Qm 62 7,
  Qo 63 (.len true (.t 62)),
  Qo 64 (.bin .lss (.t 63) (.c (i6 1))),
  Qm 65 64,
  Qn 66 7 (65, false),
  Qg 67 (.len true (.t 66)) (65, false),
  Qg 68 (.bin .gtr (.t 67) (.c (i6 6))) (65, false),
  Qo 69 (.pick (.t 65) (.c (.bool true)) (.t 68))])
 (.cond (.t 69)
  (.seq (.region [Qo 2 (.mv (.c (i6 (-1)))),
   Qb 3])
  .ret)
  .skip))
 (.seq (.region [Qi 8 0])
 (.seq (.seq (.region [Qm 70 7,
  Qo 71 (.len true (.t 70)),
  Qi 72 0])
 (.block 2
  (.loop
   z4l)))
 Uz)))))
def z9x : LCode := (.seq (.region [Qi 2 0,
 Qb 3])
 (.seq (.region [Qm 10 0,
  Qo 11 (.conv (.s2b true) (.t 10)),
  Qo 12 (.call 28 [(.t 11), (.c (.int .u8 58))]),
  Qm 4 12])
 (.seq (.seq (.region [Qm 13 4,
  Qo 14 (.bin .lss (.t 13) (.c (i6 1)))])
 (.cond (.t 14)
  (.seq (.region [Qo 2 (.mv (.c (i6 (-1)))),
   Qb 3])
  .ret)
  .skip))
 (.seq (.seq (.region [Qm 15 0,
  Qo 16 (.len true (.t 15)),
  Qi 17 0])
 (.block 0
  (.loop
   z3s)))
 z0f))))
def w4 : Lay := ⟨97, [], false⟩
def z3j : List LRes := [.t 2, .t 3]
def zes : LFn := ⟨1, w4, z9x, z3j⟩
theorem zcc : wm Tryd.prog [] 19 = some zes := by kernel_rfl
theorem zah : ki Tryd.prog 19 := ⟨_, Tryd.func19, rfl, rfl⟩
def Ul (a0 : List UInt8) (o : Int × Bool) : Exit → Env → AHeap → Nat → Prop := Xa z3j (j3 (.tup [i6 o.1, .bool o.2]))
def Xp (a0 : List UInt8) (v1 : Int) (s : Int) : Env := [(0, .str a0), (4, i6 v1), (16, i6 (a0.length : Int)), (17, i6 s)]
def Vd (a0 : List UInt8) (v1 : Int) (s : Int) : AHeap := []
def Uw (a0 : List UInt8) (o : (Int × Bool)) : Exit → Env → AHeap → Nat → Prop := (x7 0 (X9 Tryd.prog w4 0 z0f (Ul a0 o)))
noncomputable def qu (m : Option Nat) (v5 : Int) : Option (Int × Bool) :=
 some (v5, (decide (v5 ≤ 4000)))
noncomputable def zk (m : Option Nat) (v4 : (List UInt8)) (v5 : Int) (v6 : Int) : Option ((Int × Int) ⊕ (Int × Bool)) :=
 if (decide (v6 < (v4.length : Int))) = true then
  if (0 : Int) ≤ v6 ∧ v6 < (v4.length : Int) then
  if (((decide ((((v4.getD v6.toNat 0).toNat : Nat) : Int) < 48)) == false) = true → (0 : Int) ≤ v6 ∧ v6 < (v4.length : Int)) then
  if ((decide ((((v4.getD v6.toNat 0).toNat : Nat) : Int) < 48)) || (decide ((((v4.getD v6.toNat 0).toNat : Nat) : Int) > 57))) = true then
   Option.map Sum.inr (
    some ((-1), false))
  else
   if (0 : Int) ≤ v6 ∧ v6 < (v4.length : Int) then
   some (.inl ((W ((W ((10 : Int) * v5)) + (W (IntKind.wrap .u8 ((((v4.getD v6.toNat 0).toNat : Nat) : Int) - 48))))), (W (v6 + 1))))
   else none
  else none
  else none
 else
  Option.map Sum.inr (
   qu m v5)
noncomputable def yn (m : Option Nat) (v4 : (List UInt8)) (v5 : Int) (v6 : Int) : Option (Int × Bool) := vb m (fun (s : (Int × Int)) => zk m v4 s.1 s.2) (v5, v6)
noncomputable def yq (m : Option Nat) (a0 : List UInt8) (v1 : Int) : Option (Int × Bool) :=
 if (0 : Int) ≤ v1 ∧ v1 ≤ (a0.length : Int) then
 (qj m ((a0.take v1.toNat).drop 0)).bind fun v3 =>
 if (!(v3 == ([99, 111, 110, 116, 101, 110, 116, 45, 108, 101, 110, 103, 116, 104] : List UInt8))) = true then
  some ((-1), true)
 else
  if (0 : Int) ≤ (W (v1 + 1)) ∧ (W (v1 + 1)) ≤ (a0.length : Int) then
  (yx m ((a0.take a0.length).drop (W (v1 + 1)).toNat)).bind fun v4 =>
  if ((decide ((v4.length : Int) < 1)) || (decide ((v4.length : Int) > 6))) = true then
   some ((-1), false)
  else
   yn m v4 0 0
  else none
 else none
noncomputable def y6 (m : Option Nat) (a0 : List UInt8) (v1 : Int) (v2 : Int) : Option (Int ⊕ (Int × Bool)) :=
 if (decide (v2 < (a0.length : Int))) = true then
  if (0 : Int) ≤ v2 ∧ v2 < (a0.length : Int) then
  if (((decide (v2 < v1)) && ((decide ((((a0.getD v2.toNat 0).toNat : Nat) : Int) < 33)) || (decide ((((a0.getD v2.toNat 0).toNat : Nat) : Int) > 126)))) || (((decide (v2 > v1)) && ((((a0.getD v2.toNat 0).toNat : Nat) : Int) != 9)) && ((decide ((((a0.getD v2.toNat 0).toNat : Nat) : Int) < 32)) || (decide ((((a0.getD v2.toNat 0).toNat : Nat) : Int) > 126))))) = true then
   Option.map Sum.inr (
    some ((-1), false))
  else
   some (.inl (W (v2 + 1)))
  else none
 else
  Option.map Sum.inr (
   yq m a0 v1)
noncomputable def q9 (m : Option Nat) (a0 : List UInt8) (v1 : Int) (v2 : Int) : Option (Int × Bool) := vb m (fun (s : Int) => y6 m a0 v1 s) v2
def Jg (v4 : (List UInt8)) (s : (Int × Int)) : Env := [(7, .str v4), (8, i6 s.1), (71, i6 (v4.length : Int)), (72, i6 s.2)]
def K3 (v4 : (List UInt8)) (s : (Int × Int)) : AHeap := []
def Uv (a0 : List UInt8) (o : (Int × Bool)) : Exit → Env → AHeap → Nat → Prop := (x7 2 (X9 Tryd.prog w4 0 Uz (Ul a0 o)))
theorem z6b {a0 : List UInt8} {v5 : Int} {m : Option Nat} {o : (Int × Bool)} (h : qu m v5 = some o) :
 LWp Tryd.prog w4 0 Uz (Ul a0 o) [(8, i6 v5)] [] 0 := by
 unfold qu at h
 refine zc (zz ?_)
 refine w3 ?_
 cases h
 exact AI TT (AI TT (AI rfl (VS rfl)))
theorem z2n {a0 : List UInt8} {v4 : (List UInt8)} {v5 : Int} {v6 : Int} {m : Option Nat} {o : (Int × Int) ⊕ (Int × Bool)} (h : zk m v4 v5 v6 = some o) :
 LWp Tryd.prog w4 0 z4l (kh 0 0 (Jg v4) (K3 v4) (Uv a0) o) [(7, .str v4), (8, i6 v5), (71, i6 (v4.length : Int)), (72, i6 v6)] [] 0 := by
 unfold zk at h
 refine zc (zz ?_)
 refine zc ?_
 refine qz (v := (decide (v6 < (v4.length : Int)))) rfl TT (fun h28 => ?_) (fun h28 => ?_)
 ·have h := y4 h28 h
  refine xa ?_
  refine zc ?_
  refine xn ?_
  refine zc (zz ?_)
  refine zc ?_
  refine zc (zz ?_)
  obtain ⟨h29, h⟩ := zj h
  refine AI h29 ?_
  obtain ⟨h30, h⟩ := zj h
  refine AI (fun hp => (AI (AI hp hp) (h30 hp))) ?_
  refine AI (fun hp => hp) ?_
  refine AI (fun hc => (bqf hc)) ?_
  refine LWp.sim (e := [(7, .str v4), (8, i6 v5), (9, i6 v6), (71, i6 (v4.length : Int)), (72, i6 v6), (84, .bool ((decide ((((v4.getD v6.toNat 0).toNat : Nat) : Int) < 48)) || (decide ((((v4.getD v6.toNat 0).toNat : Nat) : Int) > 57))))]) (L := []) (n := 0) ?_ ?_
  ·exact x3 (M := []) rfl (S4 rfl rfl rfl rfl (S2 rfl rfl TT)) TT
  refine qz (v := ((decide ((((v4.getD v6.toNat 0).toNat : Nat) : Int) < 48)) || (decide ((((v4.getD v6.toNat 0).toNat : Nat) : Int) > 57)))) rfl TT (fun h31 => ?_) (fun h31 => ?_)
  ·have h := y4 h31 h
   refine zc (zz ?_)
   refine w3 ?_
   obtain ⟨o, hq, rfl⟩ := Option.map_eq_some_iff.1 h
   replace h := hq; clear hq
   refine AI nofun ?_
   cases h
   exact AI TT (AI TT (AI rfl (VS rfl)))
  ·have h := yj h31 h
   refine xa ?_
   refine zz ?_
   obtain ⟨h32, h⟩ := zj h
   refine AI h32 ?_
   refine LWp.sim (e := [(7, .str v4), (8, i6 (W ((W ((10 : Int) * v5)) + (W (IntKind.wrap .u8 ((((v4.getD v6.toNat 0).toNat : Nat) : Int) - 48)))))), (71, i6 (v4.length : Int)), (72, i6 v6)]) (L := []) (n := 0) ?_ ?_
   ·exact x3 (M := []) rfl (S4 rfl rfl rfl rfl TT) TT
   refine zz ?_
   cases h
   exact AI rfl (x3 (M := []) rfl (S4 rfl rfl rfl rfl TT) TT)
 ·have h := yj h28 h
  refine Yz ?_
  obtain ⟨o, hq, rfl⟩ := Option.map_eq_some_iff.1 h
  replace h := hq; clear hq
  refine AI nofun ?_
  refine LWp.sim ?_ (z6b h)
  exact x3 (M := []) rfl (AI (VS rfl) TT) TT
theorem z4z {a0 : List UInt8} {v4 : (List UInt8)} {v5 : Int} {v6 : Int} {m : Option Nat} {o : (Int × Bool)} (h : yn m v4 v5 v6 = some o) :
 LWp Tryd.prog w4 0 (.loop z4l) (x7 2 (X9 Tryd.prog w4 0 Uz (Ul a0 o))) [(7, .str v4), (8, i6 v5), (71, i6 (v4.length : Int)), (72, i6 v6)] [] 0 :=
 xk (m := m) (s := ((v5, v6) : (Int × Int))) (r := o) (fun (s : (Int × Int)) => zk m v4 s.1 s.2) (Jg v4) (K3 v4) (Uv a0) (fun s o h => z2n h) h
theorem z4f {a0 : List UInt8} {v1 : Int} {m : Option Nat} {o : (Int × Bool)} (h : yq m a0 v1 = some o) :
 LWp Tryd.prog w4 0 z0f (Ul a0 o) [(0, .str a0), (4, i6 v1)] [] 0 := by
 unfold yq at h
 refine zc ?_
 refine zc (zz ?_)
 obtain ⟨h12, h⟩ := zj h
 refine AI (AI (Int.le_refl _) h12) ?_
 obtain ⟨v3, h13, h⟩ := bind_some h
 refine PFn.call (zcs h13) (AI (VS rfl) TT) ?_
 refine qz (v := (!(v3 == ([99, 111, 110, 116, 101, 110, 116, 45, 108, 101, 110, 103, 116, 104] : List UInt8)))) rfl TT (fun h14 => ?_) (fun h14 => ?_)
 ·have h := y4 h14 h
  refine zc (zz ?_)
  refine w3 ?_
  cases h
  exact AI TT (AI TT (AI rfl (VS rfl)))
 ·have h := yj h14 h
  refine xa ?_
  refine zc (zz ?_)
  obtain ⟨h15, h⟩ := zj h
  refine AI (AI (And.left h15) (AI (And.right h15) (Int.le_refl _))) ?_
  obtain ⟨v4, h16, h⟩ := bind_some h
  refine PFn.call (zdj h16) (AI (VS rfl) TT) ?_
  refine LWp.sim (e := [(7, .str v4)]) (L := []) (n := 0) ?_ ?_
  ·exact x3 (M := []) rfl (AI (VS rfl) TT) TT
  refine zc ?_
  refine zc (zz ?_)
  refine AI (fun hp => hp) ?_
  refine AI (fun hp => hp) ?_
  refine AI (fun hc => (bqf hc)) ?_
  refine LWp.sim (e := [(7, .str v4), (69, .bool ((decide ((v4.length : Int) < 1)) || (decide ((v4.length : Int) > 6))))]) (L := []) (n := 0) ?_ ?_
  ·exact x3 (M := []) rfl (S2 rfl rfl TT) TT
  refine qz (v := ((decide ((v4.length : Int) < 1)) || (decide ((v4.length : Int) > 6)))) rfl TT (fun h17 => ?_) (fun h17 => ?_)
  ·have h := y4 h17 h
   refine zc (zz ?_)
   refine w3 ?_
   cases h
   exact AI TT (AI TT (AI rfl (VS rfl)))
  ·have h := yj h17 h
   refine xa ?_
   refine zc (zz ?_)
   refine zc ?_
   refine zc (zz ?_)
   refine xn ?_
   refine LWp.sim ?_ (z4z h)
   exact x3 (M := []) rfl (S4 rfl rfl rfl rfl TT) TT
theorem z2k {a0 : List UInt8} {v1 : Int} {v2 : Int} {m : Option Nat} {o : Int ⊕ (Int × Bool)} (h : y6 m a0 v1 v2 = some o) :
 LWp Tryd.prog w4 0 z3s (kh 0 0 (Xp a0 v1) (Vd a0 v1) (Uw a0) o) [(0, .str a0), (4, i6 v1), (16, i6 (a0.length : Int)), (17, i6 v2)] [] 0 := by
 unfold y6 at h
 refine zc (zz ?_)
 refine zc ?_
 refine qz (v := (decide (v2 < (a0.length : Int)))) rfl TT (fun h9 => ?_) (fun h9 => ?_)
 ·have h := y4 h9 h
  refine xa ?_
  refine zc ?_
  refine xn ?_
  refine zc (zz ?_)
  refine zc (zz ?_)
  obtain ⟨h10, h⟩ := zj h
  refine AI h10 ?_
  refine zc (zz ?_)
  refine AI (fun hp => hp) ?_
  refine AI (fun hp => hp) ?_
  refine AI (fun hp => hp) ?_
  refine AI (fun hp => (AI hp (fun hc => (Yn hp (bqf hc))))) ?_
  refine AI (fun hc => (bqt hc)) ?_
  refine AI (fun hp => (AI hp hp)) ?_
  refine AI (fun hp => hp) ?_
  refine AI (fun hp => hp) ?_
  refine AI (fun hp => (AI hp (fun hc => (Yn hp (bqt hc))))) ?_
  refine AI (fun hp => hp) ?_
  refine AI (fun hp => hp) ?_
  refine AI (fun hp => hp) ?_
  refine AI (fun hp => hp) ?_
  refine AI (fun hp => (AI hp (fun hc => (Yn hp (bqf hc))))) ?_
  refine AI (fun hp => (AI hp (fun hc => (Yn hp (bqt hc))))) ?_
  refine AI (fun hc => (bqf hc)) ?_
  refine LWp.sim (e := [(0, .str a0), (4, i6 v1), (16, i6 (a0.length : Int)), (17, i6 v2), (50, .bool (((decide (v2 < v1)) && ((decide ((((a0.getD v2.toNat 0).toNat : Nat) : Int) < 33)) || (decide ((((a0.getD v2.toNat 0).toNat : Nat) : Int) > 126)))) || (((decide (v2 > v1)) && ((((a0.getD v2.toNat 0).toNat : Nat) : Int) != 9)) && ((decide ((((a0.getD v2.toNat 0).toNat : Nat) : Int) < 32)) || (decide ((((a0.getD v2.toNat 0).toNat : Nat) : Int) > 126))))))]) (L := []) (n := 0) ?_ ?_
  ·exact x3 (M := []) rfl (S4 rfl rfl rfl rfl (AI (VS rfl) TT)) TT
  refine qz (v := (((decide (v2 < v1)) && ((decide ((((a0.getD v2.toNat 0).toNat : Nat) : Int) < 33)) || (decide ((((a0.getD v2.toNat 0).toNat : Nat) : Int) > 126)))) || (((decide (v2 > v1)) && ((((a0.getD v2.toNat 0).toNat : Nat) : Int) != 9)) && ((decide ((((a0.getD v2.toNat 0).toNat : Nat) : Int) < 32)) || (decide ((((a0.getD v2.toNat 0).toNat : Nat) : Int) > 126)))))) rfl TT (fun h11 => ?_) (fun h11 => ?_)
  ·have h := y4 h11 h
   refine zc (zz ?_)
   refine w3 ?_
   obtain ⟨o, hq, rfl⟩ := Option.map_eq_some_iff.1 h
   replace h := hq; clear hq
   refine AI nofun ?_
   cases h
   exact AI TT (AI TT (AI rfl (VS rfl)))
  ·have h := yj h11 h
   refine xa ?_
   refine zz ?_
   cases h
   exact AI rfl (x3 (M := []) rfl (S4 rfl rfl rfl rfl TT) TT)
 ·have h := yj h9 h
  refine Yz ?_
  obtain ⟨o, hq, rfl⟩ := Option.map_eq_some_iff.1 h
  replace h := hq; clear hq
  refine AI nofun ?_
  refine LWp.sim ?_ (z4f h)
  exact x3 (M := []) rfl (S2 rfl rfl TT) TT
theorem z43 {a0 : List UInt8} {v1 : Int} {v2 : Int} {m : Option Nat} {o : (Int × Bool)} (h : q9 m a0 v1 v2 = some o) :
 LWp Tryd.prog w4 0 (.loop z3s) (x7 0 (X9 Tryd.prog w4 0 z0f (Ul a0 o))) [(0, .str a0), (4, i6 v1), (16, i6 (a0.length : Int)), (17, i6 v2)] [] 0 :=
 xk (m := m) (s := (v2 : Int)) (r := o) (fun (s : Int) => y6 m a0 v1 s) (Xp a0 v1) (Vd a0 v1) (Uw a0) (fun s o h => z2k h) h
noncomputable def q8 (m : Option Nat) (a0 : List UInt8) : Option (Int × Bool) :=
 (y9 m (a0.map z9e) 58).bind fun v1 =>
 if (decide (v1 < 1)) = true then
  some ((-1), false)
 else
  q9 m a0 v1 0
theorem z6x {a0 : List UInt8} {m : Option Nat} {o : Int × Bool} (h : q8 m a0 = some o) : LWp Tryd.prog w4 0 z9x (Ul a0 o) (qp 0 [.str a0]) [] 0 := by
 unfold q8 at h
 refine zc (zz ?_)
 refine zc (zz ?_)
 refine EX ((a0.map z9e).map Xr) (AI (zb8 _) ?_)
 obtain ⟨v1, h1, h⟩ := bind_some h
 refine PFn.call (zcy h1) (S2 rfl rfl TT) ?_
 refine zc ?_
 refine zc (zz ?_)
 refine LWp.sim (e := [(0, .str a0), (4, i6 v1), (14, .bool (decide (v1 < 1)))]) (L := []) (n := 0) ?_ ?_
 ·exact x3 (M := []) rfl (S2 rfl rfl (AI (VS rfl) TT)) TT
 refine qz (v := (decide (v1 < 1))) rfl TT (fun h2 => ?_) (fun h2 => ?_)
 ·have h := y4 h2 h
  refine zc (zz ?_)
  refine w3 ?_
  cases h
  exact AI TT (AI TT (AI rfl (VS rfl)))
 ·have h := yj h2 h
  refine xa ?_
  refine zc ?_
  refine zc (zz ?_)
  refine xn ?_
  refine LWp.sim ?_ (z43 h)
  exact x3 (M := []) rfl (S4 rfl rfl rfl rfl TT) TT
theorem zej {a0 : List UInt8} {m : Option Nat} {o : Int × Bool} (h : q8 m a0 = some o) : PFn Tryd.prog 19 [.str a0] (.tup [i6 o.1, .bool o.2]) := PFn.ofFnW (L := zes) zcc zah (NB rfl) rfl (z6x h)
def ze8 : LCode := (.region [Qm 16 7,
 Qo 17 (.bin .add (.t 16) (.c (i6 1))),
 Qm 7 17])
def zax : LCode := (.seq (.seq (.region [Qm 11 7,
 Qo 12 (.bin .add (.t 11) (.c (i6 1))),
 Qm 13 0,
 Qo 14 (.len true (.t 13)),
 Qo 15 (.bin .lss (.t 12) (.t 14))])
 (.cond (.t 15)
  .skip
  (.exit 0)))
 (.seq (.block 1
  (.seq (.seq (.region [Qm 18 0,
   Qm 19 7,
   Qo 20 (.idxS (.t 18) (.t 19)),
   Qo 21 (.bin .neq (.t 20) (.c (.int .u8 13))),
   Qm 22 21,
   Qn 23 0 (22, false),
   Qn 24 7 (22, false),
   Qg 25 (.bin .add (.t 24) (.c (i6 1))) (22, false),
   Qg 26 (.idxS (.t 23) (.t 25)) (22, false),
   Qg 27 (.bin .neq (.t 26) (.c (.int .u8 10))) (22, false),
   Qo 28 (.pick (.t 22) (.c (.bool true)) (.t 27))])
  (.cond (.t 28)
   (.exit 1)
   .skip))
  (.seq (.region [Qm 29 0,
   Qm 30 6,
   Qm 31 7,
   Qo 32 (.slStr (.t 29) (some (.t 30)) (some (.t 31))),
   Qm 8 32])
  (.seq (.region [Qm 33 7,
   Qo 34 (.bin .add (.t 33) (.c (i6 2))),
   Qm 6 34])
  (.seq (.region [Qm 35 7,
   Qo 36 (.bin .add (.t 35) (.c (i6 1))),
   Qm 7 36])
  (.seq (.seq (.region [Qm 37 6,
   Qo 38 (.bin .gtr (.t 37) (.c (i6 500)))])
  (.cond (.t 38)
   (.seq (.region [Qo 2 (.mv (.c (.str []))),
    Qi 3 0,
    Qi 4 4])
   .ret)
   .skip))
  (.seq (.seq (.region [Qm 39 8,
   Qo 40 (.bin .eql (.t 39) (.c (.str [])))])
  (.cond (.t 40)
   (.seq (.seq (.region [Qm 41 5,
    Qo 42 (.bin .lss (.t 41) (.c (i6 0)))])
   (.cond (.t 42)
    (.seq (.region [Qo 2 (.mv (.c (.str []))),
     Qi 3 0,
     Qi 4 4])
    .ret)
    .skip))
   (.seq (.seq (.region [Qm 43 0,
    Qo 44 (.len true (.t 43)),
    Qm 45 6,
    Qm 46 5,
    Qo 47 (.bin .add (.t 45) (.t 46)),
    Qo 48 (.bin .lss (.t 44) (.t 47))])
   (.cond (.t 48)
    (.seq (.region [Qo 2 (.mv (.c (.str []))),
     Qi 3 0,
     Qi 4 0])
    .ret)
    .skip))
   (.seq (.region [Qm 49 0,
    Qm 50 6,
    Qm 51 6,
    Qm 52 5,
    Qo 53 (.bin .add (.t 51) (.t 52)),
    Qo 54 (.slStr (.t 49) (some (.t 50)) (some (.t 53))),
    Qm 55 6,
    Qm 56 5,
    Qo 57 (.bin .add (.t 55) (.t 56)),
    Qm 2 54,
    Qm 3 57,
    Qi 4 0])
   .ret)))
   .skip))
  (.seq (.region [Qm 59 8,
   Qc 60 19 59,
   Qm 58 60,
   Qo 61 (.ext 0 (.t 58)),
   Qo 62 (.ext 1 (.t 58)),
   Qm 9 61,
   Qm 10 62])
  (.seq (.seq (.region [Qm 63 10,
   Qo 64 (.un .not (.t 63)),
   Qm 65 64,
   Qn 66 9 (65, false),
   Qg 67 (.bin .geq (.t 66) (.c (i6 0))) (65, false),
   Qn 68 67 (65, false),
   Qn 69 5 (68, true),
   Qg 70 (.bin .geq (.t 69) (.c (i6 0))) (68, true),
   Qg 71 (.pick (.t 68) (.t 70) (.c (.bool false))) (65, false),
   Qo 72 (.pick (.t 65) (.c (.bool true)) (.t 71))])
  (.cond (.t 72)
   (.seq (.region [Qo 2 (.mv (.c (.str []))),
    Qi 3 0,
    Qi 4 4])
   .ret)
   .skip))
  (.seq (.region [Qm 73 9,
   Qo 74 (.bin .geq (.t 73) (.c (i6 0)))])
  (.cond (.t 74)
   (.region [Qm 75 9,
    Qm 5 75])
   .skip)))))))))))
 ze8))
def z90 : LCode := (.seq (.seq (.region [Qm 76 0,
 Qo 77 (.len true (.t 76)),
 Qo 78 (.bin .geq (.t 77) (.c (i6 500)))])
 (.cond (.t 78)
  (.seq (.region [Qo 2 (.mv (.c (.str []))),
   Qi 3 0,
   Qi 4 4])
  .ret)
  .skip))
 (.seq (.region [Qo 2 (.mv (.c (.str []))),
  Qi 3 0,
  Qi 4 0])
 .ret))
def zee : LCode := (.seq (.region [Qo 2 (.mv (.c (.str []))),
 Qi 3 0,
 Qi 4 0])
 (.seq (.region [Qo 5 (.mv (.c (i6 (-1)))),
  Qi 6 0])
 (.seq (.seq (.region [Qi 7 0])
 (.block 0
  (.loop
   zax)))
 z90)))
def Yb : Lay := ⟨79, [], false⟩
def za6 : List LRes := [.t 2, .t 3, .t 4]
def zgc : LFn := ⟨1, Yb, zee, za6⟩
theorem zdn : wm Tryd.prog [] 9 = some zgc := by kernel_rfl
theorem zdl : ki Tryd.prog 9 := ⟨_, Tryd.func9, rfl, rfl⟩
def zf4 (a0 : List UInt8) (o : (List UInt8) × Int × Int) : Exit → Env → AHeap → Nat → Prop := Xa za6 (j3 (.tup [.str o.1, i6 o.2.1, i6 o.2.2]))
def Qy (a0 : List UInt8) (s : (Int × Int × Int)) : Env := [(0, .str a0), (5, i6 s.1), (6, i6 s.2.1), (7, i6 s.2.2)]
def Jz (a0 : List UInt8) (s : (Int × Int × Int)) : AHeap := []
def Kl (a0 : List UInt8) (o : ((List UInt8) × Int × Int)) : Exit → Env → AHeap → Nat → Prop := (x7 0 (X9 Tryd.prog Yb 0 z90 (zf4 a0 o)))
noncomputable def zp (m : Option Nat) (a0 : List UInt8) (v13 : Int) (v14 : Int) (v15 : Int) : Option ((Int × Int × Int) ⊕ ((List UInt8) × Int × Int)) :=
 some (.inl (v13, v14, (W (v15 + 1))))
theorem Jv {a0 : List UInt8} {v13 : Int} {v14 : Int} {v15 : Int} {m : Option Nat} {o : ((Int × Int × Int) ⊕ ((List UInt8) × Int × Int))} (h : zp m a0 v13 v14 v15 = some o) :
 LWp Tryd.prog Yb 0 ze8 (kh 0 0 (Qy a0) (Jz a0) (Kl a0) o) [(0, .str a0), (5, i6 v13), (6, i6 v14), (7, i6 v15)] [] 0 := by
 unfold zp at h
 refine zz ?_
 cases h
 exact AI rfl (x3 (M := []) rfl (S4 rfl rfl rfl rfl TT) TT)
noncomputable def ym (m : Option Nat) (a0 : List UInt8) : Option ((List UInt8) × Int × Int) :=
 if (decide ((a0.length : Int) ≥ 500)) = true then
  some (([] : List UInt8), 0, 4)
 else
  some (([] : List UInt8), 0, 0)
noncomputable def za (m : Option Nat) (a0 : List UInt8) (v5 : Int) (v6 : Int) (v7 : Int) : Option ((Int × Int × Int) ⊕ ((List UInt8) × Int × Int)) :=
 if (decide ((W (v7 + 1)) < (a0.length : Int))) = true then
  if (0 : Int) ≤ v7 ∧ v7 < (a0.length : Int) then
  if ((((((a0.getD v7.toNat 0).toNat : Nat) : Int) != 13) == false) = true → (0 : Int) ≤ (W (v7 + 1)) ∧ (W (v7 + 1)) < (a0.length : Int)) then
  if (((((a0.getD v7.toNat 0).toNat : Nat) : Int) != 13) || ((((a0.getD (W (v7 + 1)).toNat 0).toNat : Nat) : Int) != 10)) = true then
   zp m a0 v5 v6 v7
  else
   if (0 : Int) ≤ v6 ∧ v6 ≤ v7 ∧ v7 ≤ (a0.length : Int) then
   if (decide ((W (v7 + 2)) > 500)) = true then
    Option.map Sum.inr (
     some (([] : List UInt8), 0, 4))
   else
    if (((a0.take v7.toNat).drop v6.toNat) == ([] : List UInt8)) = true then
     if (decide (v5 < 0)) = true then
      Option.map Sum.inr (
       some (([] : List UInt8), 0, 4))
     else
      if (decide ((a0.length : Int) < (W ((W (v7 + 2)) + v5)))) = true then
       Option.map Sum.inr (
        some (([] : List UInt8), 0, 0))
      else
       if (0 : Int) ≤ (W (v7 + 2)) ∧ (W (v7 + 2)) ≤ (W ((W (v7 + 2)) + v5)) ∧ (W ((W (v7 + 2)) + v5)) ≤ (a0.length : Int) then
       Option.map Sum.inr (
        some (((a0.take (W ((W (v7 + 2)) + v5)).toNat).drop (W (v7 + 2)).toNat), (W ((W (v7 + 2)) + v5)), 0))
       else none
    else
     (q8 m ((a0.take v7.toNat).drop v6.toNat)).bind fun v12 =>
     if ((!v12.2) || ((decide (v12.1 ≥ 0)) && (decide (v5 ≥ 0)))) = true then
      Option.map Sum.inr (
       some (([] : List UInt8), 0, 4))
     else
      if (decide (v12.1 ≥ 0)) = true then
       zp m a0 v12.1 (W (v7 + 2)) (W (v7 + 1))
      else
       zp m a0 v5 (W (v7 + 2)) (W (v7 + 1))
   else none
  else none
  else none
 else
  Option.map Sum.inr (
   ym m a0)
noncomputable def z8 (m : Option Nat) (a0 : List UInt8) (v5 : Int) (v6 : Int) (v7 : Int) : Option ((List UInt8) × Int × Int) := vb m (fun (s : (Int × Int × Int)) => za m a0 s.1 s.2.1 s.2.2) (v5, v6, v7)
theorem z7a {a0 : List UInt8} {m : Option Nat} {o : ((List UInt8) × Int × Int)} (h : ym m a0 = some o) :
 LWp Tryd.prog Yb 0 z90 (zf4 a0 o) [(0, .str a0)] [] 0 := by
 unfold ym at h
 refine zc ?_
 refine zc (zz ?_)
 refine qz (v := (decide ((a0.length : Int) ≥ 500))) rfl TT (fun h40 => ?_) (fun h40 => ?_)
 ·have h := y4 h40 h
  refine zc (zz ?_)
  refine w3 ?_
  cases h
  exact AI TT (AI TT (AI TT (AI rfl (VS rfl))))
 ·have h := yj h40 h
  refine xa ?_
  refine zc (zz ?_)
  refine w3 ?_
  cases h
  exact AI TT (AI TT (AI TT (AI rfl (VS rfl))))
theorem z45 {a0 : List UInt8} {v5 : Int} {v6 : Int} {v7 : Int} {m : Option Nat} {o : (Int × Int × Int) ⊕ ((List UInt8) × Int × Int)} (h : za m a0 v5 v6 v7 = some o) :
 LWp Tryd.prog Yb 0 zax (kh 0 0 (Qy a0) (Jz a0) (Kl a0) o) [(0, .str a0), (5, i6 v5), (6, i6 v6), (7, i6 v7)] [] 0 := by
 unfold za at h
 refine zc ?_
 refine zc (zz ?_)
 refine qz (v := (decide ((W (v7 + 1)) < (a0.length : Int)))) rfl TT (fun h27 => ?_) (fun h27 => ?_)
 ·have h := y4 h27 h
  refine xa ?_
  refine zc ?_
  refine xn ?_
  refine zc ?_
  refine zc (zz ?_)
  obtain ⟨h28, h⟩ := zj h
  refine AI h28 ?_
  refine AI (fun hp => hp) ?_
  obtain ⟨h29, h⟩ := zj h
  refine AI (fun hp => (AI (AI hp hp) (h29 hp))) ?_
  refine AI (fun hp => hp) ?_
  refine AI (fun hc => (bqf hc)) ?_
  refine LWp.sim (e := [(0, .str a0), (5, i6 v5), (6, i6 v6), (7, i6 v7), (28, .bool (((((a0.getD v7.toNat 0).toNat : Nat) : Int) != 13) || ((((a0.getD (W (v7 + 1)).toNat 0).toNat : Nat) : Int) != 10)))]) (L := []) (n := 0) ?_ ?_
  ·exact x3 (M := []) rfl (S4 rfl rfl rfl rfl (AI (VS rfl) TT)) TT
  refine qz (v := (((((a0.getD v7.toNat 0).toNat : Nat) : Int) != 13) || ((((a0.getD (W (v7 + 1)).toNat 0).toNat : Nat) : Int) != 10))) rfl TT (fun h30 => ?_) (fun h30 => ?_)
  ·have h := y4 h30 h
   refine Yz ?_
   refine LWp.sim ?_ (Jv h)
   exact x3 (M := []) rfl (S4 rfl rfl rfl rfl TT) TT
  ·have h := yj h30 h
   refine xa ?_
   refine zc (zz ?_)
   obtain ⟨h31, h⟩ := zj h
   refine AI h31 ?_
   refine zc (zz ?_)
   refine LWp.sim (e := [(0, .str a0), (5, i6 v5), (6, i6 (W (v7 + 2))), (7, i6 v7), (8, .str ((a0.take v7.toNat).drop v6.toNat))]) (L := []) (n := 0) ?_ ?_
   ·exact x3 (M := []) rfl (S4 rfl rfl rfl rfl (AI (VS rfl) TT)) TT
   refine zc (zz ?_)
   refine zc ?_
   refine zc (zz ?_)
   refine qz (v := (decide ((W (v7 + 2)) > 500))) rfl TT (fun h32 => ?_) (fun h32 => ?_)
   ·have h := y4 h32 h
    refine zc (zz ?_)
    refine LWp.sim (e := [(2, .str []), (3, i6 0), (4, i6 4)]) (L := []) (n := 0) ?_ ?_
    ·exact x3 (M := []) rfl (S2 rfl rfl (AI (VS rfl) TT)) TT
    refine w3 ?_
    obtain ⟨o, hq, rfl⟩ := Option.map_eq_some_iff.1 h
    replace h := hq; clear hq
    refine AI nofun ?_
    cases h
    exact AI TT (AI TT (AI TT (AI rfl (VS rfl))))
   ·have h := yj h32 h
    refine xa ?_
    refine zc ?_
    refine zc (zz ?_)
    refine qz (v := (((a0.take v7.toNat).drop v6.toNat) == ([] : List UInt8))) rfl TT (fun h33 => ?_) (fun h33 => ?_)
    ·have h := y4 h33 h
     refine zc ?_
     refine zc (zz ?_)
     refine LWp.sim (e := [(0, .str a0), (5, i6 v5), (6, i6 (W (v7 + 2))), (42, .bool (decide (v5 < 0)))]) (L := []) (n := 0) ?_ ?_
     ·exact x3 (M := []) rfl (S4 rfl rfl rfl rfl TT) TT
     refine qz (v := (decide (v5 < 0))) rfl TT (fun h34 => ?_) (fun h34 => ?_)
     ·have h := y4 h34 h
      refine zc (zz ?_)
      refine w3 ?_
      obtain ⟨o, hq, rfl⟩ := Option.map_eq_some_iff.1 h
      replace h := hq; clear hq
      refine AI nofun ?_
      cases h
      exact AI TT (AI TT (AI TT (AI rfl (VS rfl))))
     ·have h := yj h34 h
      refine xa ?_
      refine zc ?_
      refine zc (zz ?_)
      refine qz (v := (decide ((a0.length : Int) < (W ((W (v7 + 2)) + v5))))) rfl TT (fun h35 => ?_) (fun h35 => ?_)
      ·have h := y4 h35 h
       refine zc (zz ?_)
       refine LWp.sim (e := [(2, .str []), (3, i6 0), (4, i6 0)]) (L := []) (n := 0) ?_ ?_
       ·exact x3 (M := []) rfl (S2 rfl rfl (AI (VS rfl) TT)) TT
       refine w3 ?_
       obtain ⟨o, hq, rfl⟩ := Option.map_eq_some_iff.1 h
       replace h := hq; clear hq
       refine AI nofun ?_
       cases h
       exact AI TT (AI TT (AI TT (AI rfl (VS rfl))))
      ·have h := yj h35 h
       refine xa ?_
       refine zc (zz ?_)
       obtain ⟨h36, h⟩ := zj h
       refine AI h36 ?_
       refine LWp.sim (e := [(2, .str ((a0.take (W ((W (v7 + 2)) + v5)).toNat).drop (W (v7 + 2)).toNat)), (3, i6 (W ((W (v7 + 2)) + v5))), (4, i6 0)]) (L := []) (n := 0) ?_ ?_
       ·exact x3 (M := []) rfl (S2 rfl rfl (AI (VS rfl) TT)) TT
       refine w3 ?_
       obtain ⟨o, hq, rfl⟩ := Option.map_eq_some_iff.1 h
       replace h := hq; clear hq
       refine AI nofun ?_
       cases h
       exact AI TT (AI TT (AI TT (AI rfl (VS rfl))))
    ·have h := yj h33 h
     refine xa ?_
     refine zc (zz ?_)
     obtain ⟨v12, h37, h⟩ := bind_some h
     refine PFn.call (zej h37) (AI (VS rfl) TT) ?_
     refine LWp.sim (e := [(0, .str a0), (5, i6 v5), (6, i6 (W (v7 + 2))), (7, i6 (W (v7 + 1))), (9, i6 v12.1), (10, .bool v12.2)]) (L := []) (n := 0) ?_ ?_
     ·exact x3 (M := []) rfl (S4 rfl rfl rfl rfl (S2 rfl rfl TT)) TT
     refine zc ?_
     refine zc (zz ?_)
     refine AI (fun hp => hp) ?_
     refine AI (fun hp => hp) ?_
     refine AI (fun hp => hp) ?_
     refine AI (fun hp => (AI hp (fun hc => (Yn hp (bqt hc))))) ?_
     refine AI (fun hc => (bqf hc)) ?_
     refine LWp.sim (e := [(0, .str a0), (5, i6 v5), (6, i6 (W (v7 + 2))), (7, i6 (W (v7 + 1))), (9, i6 v12.1), (72, .bool ((!v12.2) || ((decide (v12.1 ≥ 0)) && (decide (v5 ≥ 0)))))]) (L := []) (n := 0) ?_ ?_
     ·exact x3 (M := []) rfl (S4 rfl rfl rfl rfl (S2 rfl rfl TT)) TT
     refine qz (v := ((!v12.2) || ((decide (v12.1 ≥ 0)) && (decide (v5 ≥ 0))))) rfl TT (fun h38 => ?_) (fun h38 => ?_)
     ·have h := y4 h38 h
      refine zc (zz ?_)
      refine w3 ?_
      obtain ⟨o, hq, rfl⟩ := Option.map_eq_some_iff.1 h
      replace h := hq; clear hq
      refine AI nofun ?_
      cases h
      exact AI TT (AI TT (AI TT (AI rfl (VS rfl))))
     ·have h := yj h38 h
      refine xa ?_
      refine zc (zz ?_)
      refine qz (v := (decide (v12.1 ≥ 0))) rfl TT (fun h39 => ?_) (fun h39 => ?_)
      ·have h := y4 h39 h
       refine zz ?_
       refine LWp.sim ?_ (Jv h)
       exact x3 (M := []) rfl (S4 rfl rfl rfl rfl TT) TT
      ·have h := yj h39 h
       refine xa ?_
       refine LWp.sim ?_ (Jv h)
       exact x3 (M := []) rfl (S4 rfl rfl rfl rfl TT) TT
 ·have h := yj h27 h
  refine Yz ?_
  obtain ⟨o, hq, rfl⟩ := Option.map_eq_some_iff.1 h
  replace h := hq; clear hq
  refine AI nofun ?_
  refine LWp.sim ?_ (z7a h)
  exact x3 (M := []) rfl (AI (VS rfl) TT) TT
theorem z8k {a0 : List UInt8} {v5 : Int} {v6 : Int} {v7 : Int} {m : Option Nat} {o : ((List UInt8) × Int × Int)} (h : z8 m a0 v5 v6 v7 = some o) :
 LWp Tryd.prog Yb 0 (.loop zax) (x7 0 (X9 Tryd.prog Yb 0 z90 (zf4 a0 o))) [(0, .str a0), (5, i6 v5), (6, i6 v6), (7, i6 v7)] [] 0 :=
 xk (m := m) (s := ((v5, v6, v7) : (Int × Int × Int))) (r := o) (fun (s : (Int × Int × Int)) => za m a0 s.1 s.2.1 s.2.2) (Qy a0) (Jz a0) (Kl a0) (fun s o h => z45 h) h
noncomputable def zr (m : Option Nat) (a0 : List UInt8) : Option ((List UInt8) × Int × Int) :=
 z8 m a0 (-1) 0 0
theorem z95 {a0 : List UInt8} {m : Option Nat} {o : (List UInt8) × Int × Int} (h : zr m a0 = some o) : LWp Tryd.prog Yb 0 zee (zf4 a0 o) (qp 0 [.str a0]) [] 0 := by
 unfold zr at h
 refine zc (zz ?_)
 refine zc (zz ?_)
 refine zc ?_
 refine zc (zz ?_)
 refine xn ?_
 refine LWp.sim ?_ (z8k h)
 exact x3 (M := []) rfl (S4 rfl rfl rfl rfl TT) TT
theorem ze4 {a0 : List UInt8} {m : Option Nat} {o : (List UInt8) × Int × Int} (h : zr m a0 = some o) : PFn Tryd.prog 9 [.str a0] (.tup [.str o.1, i6 o.2.1, i6 o.2.2]) := PFn.ofFnW (L := zgc) zdn zdl (NB rfl) rfl (z95 h)
def z3v : LCode := (.block 1
 (.seq (.region [Qm 11 0,
  Qm 12 6,
  Qo 13 (.slStr (.t 11) (some (.t 12)) none),
  Qc 14 8 13,
  Qm 10 14,
  Qo 15 (.ext 0 (.t 10)),
  Qo 16 (.ext 1 (.t 10)),
  Qo 17 (.ext 2 (.t 10)),
  Qm 7 15,
  Qm 8 16,
  Qm 9 17])
 (.seq (.seq (.region [Qm 18 9,
  Qo 19 (.bin .neq (.t 18) (.c (i6 0)))])
 (.cond (.t 19)
  (.seq (.region [Qm 20 9,
   Qo 2 (.mv (.c (.val (.slice none 0 0)))),
   Qi 3 0,
   Qm 4 20])
  .ret)
  .skip))
 (.seq (.seq (.region [Qm 21 8,
  Qo 22 (.bin .eql (.t 21) (.c (i6 0)))])
 (.cond (.t 22)
  (.seq (.region [Qm 23 5,
   Qm 24 6,
   Qm 2 23,
   Qm 3 24,
   Qi 4 0])
  .ret)
  .skip))
 (.seq (.region [Qm 25 5,
  Qm 26 7,
  Qo 27 (.mkSl true 1 [(.str [])] 1 [(0, (.t 26))]),
  Qo 28 (.app true 1 16 (.t 25) (.t 27)),
  Qm 5 28])
 (.region [Qm 29 6,
  Qm 30 8,
  Qo 31 (.bin .add (.t 29) (.t 30)),
  Qm 6 31]))))))
def z9f : LCode := (.seq (.region [Qo 2 (.mv (.c (.val (.slice none 0 0)))),
 Qi 3 0,
 Qi 4 0])
 (.seq (.region [Qo 5 (.mv (.c (.val (.slice none 0 0))))])
 (.seq (.region [Qi 6 0])
 (.block 0
  (.loop
   z3v)))))
def Js : Lay := ⟨32, [], false⟩
def z40 : List LRes := [.t 2, .t 3, .t 4]
def zf3 : LFn := ⟨1, Js, z9f, z40⟩
theorem zc8 : wm Tryd.prog [] 10 = some zf3 := by kernel_rfl
theorem zbd : ki Tryd.prog 10 := ⟨_, Tryd.func10, rfl, rfl⟩
def zam (a0 : List UInt8) (o : (List (List UInt8)) × Int × Int) : Exit → Env → AHeap → Nat → Prop := Xa z40 (j3 (.tup [.isl 1 (o.1.map qd) false, i6 o.2.1, i6 o.2.2]))
def J4 (a0 : List UInt8) (s : ((List (List UInt8)) × Int)) : Env := [(0, .str a0), (5, .osl (0, 0) 1 (s.1.map qd)), (6, i6 s.2)]
def Vk (a0 : List UInt8) (s : ((List (List UInt8)) × Int)) : AHeap := [((0, 0), .tok)]
def z0a (a0 : List UInt8) (o : ((List (List UInt8)) × Int × Int)) : Exit → Env → AHeap → Nat → Prop := (x7 0 (zam a0 o))
noncomputable def yz (m : Option Nat) (a0 : List UInt8) (v2 : List (List UInt8)) (v3 : Int) : Option (((List (List UInt8)) × Int) ⊕ ((List (List UInt8)) × Int × Int)) :=
 if (0 : Int) ≤ v3 ∧ v3 ≤ (a0.length : Int) then
 (qi m ((a0.take a0.length).drop v3.toNat)).bind fun v5 =>
 if (v5.2.2 != 0) = true then
  Option.map Sum.inr (
   some ([], 0, v5.2.2))
 else
  if (v5.2.1 == 0) = true then
   Option.map Sum.inr (
    some (v2, v3, 0))
  else
   if ((v2 ++ ([v5.1] : List (List UInt8))).map qd).length * 16 ≤ 140737488355328 then
   some (.inl ((v2 ++ ([v5.1] : List (List UInt8))), (W (v3 + v5.2.1))))
   else none
 else none
noncomputable def xf (m : Option Nat) (a0 : List UInt8) (v2 : List (List UInt8)) (v3 : Int) : Option ((List (List UInt8)) × Int × Int) := vb m (fun (s : ((List (List UInt8)) × Int)) => yz m a0 s.1 s.2) (v2, v3)
theorem z1q {a0 : List UInt8} {v2 : List (List UInt8)} {v3 : Int} {m : Option Nat} {o : ((List (List UInt8)) × Int) ⊕ ((List (List UInt8)) × Int × Int)} (h : yz m a0 v2 v3 = some o) :
 LWp Tryd.prog Js 0 z3v (kh 0 1 (J4 a0) (Vk a0) (z0a a0) o) [(0, .str a0), (5, .osl (0, 0) 1 (v2.map qd)), (6, i6 v3)] [((0, 0), .tok)] 1 := by
 unfold yz at h
 refine xn ?_
 refine zc (zz ?_)
 obtain ⟨h10, h⟩ := zj h
 refine AI (AI (And.left h10) (AI (And.right h10) (Int.le_refl _))) ?_
 obtain ⟨v5, h11, h⟩ := bind_some h
 refine PFn.call (zaq h11) (AI (VS rfl) TT) ?_
 refine LWp.sim (e := [(0, .str a0), (5, .osl (0, 0) 1 (v2.map qd)), (6, i6 v3), (7, .str v5.1), (8, i6 v5.2.1), (9, i6 v5.2.2)]) (L := [((0, 0), .tok)]) (n := 1) ?_ ?_
 ·exact x3 (M := [((0, 0), (0, 0))]) rfl (AI (VS rfl) (AI (Vw.osl _ _ _ _ rfl) (S4 rfl rfl rfl rfl TT))) (AI (AI rfl BVw.tok) TT)
 refine zc ?_
 refine zc (zz ?_)
 refine qz (v := (v5.2.2 != 0)) rfl TT (fun h12 => ?_) (fun h12 => ?_)
 ·have h := y4 h12 h
  refine zc (zz ?_)
  refine w3 ?_
  obtain ⟨o, hq, rfl⟩ := Option.map_eq_some_iff.1 h
  replace h := hq; clear hq
  refine AI nofun ?_
  cases h
  exact AI TT (AI TT (AI TT (AI rfl (Vw.tupL (AI (Vw.nilI _ _) (S2 rfl rfl TT))))))
 ·have h := yj h12 h
  refine xa ?_
  refine zc ?_
  refine zc (zz ?_)
  refine qz (v := (v5.2.1 == 0)) rfl TT (fun h13 => ?_) (fun h13 => ?_)
  ·have h := y4 h13 h
   refine zc (zz ?_)
   refine LWp.sim (e := [(2, .osl (0, 0) 1 (v2.map qd)), (3, i6 v3), (4, i6 0)]) (L := [((0, 0), .tok)]) (n := 1) ?_ ?_
   ·exact x3 (M := [((0, 0), (0, 0))]) rfl (AI (Vw.osl _ _ _ _ rfl) (S2 rfl rfl TT)) (AI (AI rfl BVw.tok) TT)
   refine w3 ?_
   obtain ⟨o, hq, rfl⟩ := Option.map_eq_some_iff.1 h
   replace h := hq; clear hq
   refine AI nofun ?_
   cases h
   exact AI TT (AI TT (AI TT (AI rfl (Vw.tupL (AI (Vw.oslI _ _ _) (S2 rfl rfl TT))))))
  ·have h := yj h13 h
   refine xa ?_
   refine zc (zz ?_)
   obtain ⟨h14, h⟩ := zj h
   refine EX ((v2 ++ ([v5.1] : List (List UInt8))).map qd) (AI (z3f qd v2 ([v5.1] : List (List UInt8))) (AI h14 ?_))
   refine LWp.sim (e := [(0, .str a0), (5, .osl (0, 0) 1 ((v2 ++ ([v5.1] : List (List UInt8))).map qd)), (6, i6 v3), (8, i6 v5.2.1)]) (L := [((0, 0), .tok)]) (n := 1) ?_ ?_
   ·exact x3 (M := [((0, 0), (1, 0))]) rfl (AI (VS rfl) (AI (Vw.osl _ _ _ _ rfl) (S2 rfl rfl TT))) (AI (AI rfl BVw.tok) TT)
   refine zz ?_
   cases h
   exact AI rfl (x3 (M := [((0, 0), (0, 0))]) rfl (AI (VS rfl) (AI (Vw.osl _ _ _ _ rfl) (AI (VS rfl) TT))) (AI (AI rfl BVw.tok) TT))
theorem z4m {a0 : List UInt8} {v2 : List (List UInt8)} {v3 : Int} {m : Option Nat} {o : ((List (List UInt8)) × Int × Int)} (h : xf m a0 v2 v3 = some o) :
 LWp Tryd.prog Js 0 (.loop z3v) (x7 0 (zam a0 o)) [(0, .str a0), (5, .osl (0, 0) 1 (v2.map qd)), (6, i6 v3)] [((0, 0), .tok)] 1 :=
 xk (m := m) (s := ((v2, v3) : ((List (List UInt8)) × Int))) (r := o) (fun (s : ((List (List UInt8)) × Int)) => yz m a0 s.1 s.2) (J4 a0) (Vk a0) (z0a a0) (fun s o h => z1q h) h
noncomputable def qo (m : Option Nat) (a0 : List UInt8) : Option ((List (List UInt8)) × Int × Int) :=
 xf m a0 [] 0
theorem z34 {a0 : List UInt8} {m : Option Nat} {o : (List (List UInt8)) × Int × Int} (h : qo m a0 = some o) : LWp Tryd.prog Js 0 z9f (zam a0 o) (qp 0 [.str a0]) [] 0 := by
 unfold qo at h
 refine zc (zz ?_)
 refine zc (zz ?_)
 refine zc (zz ?_)
 refine xn ?_
 refine LWp.sim ?_ (z4m h)
 exact x3 (M := []) rfl (AI (VS rfl) (AI (Vw.nilO _ _ (by decide)) (AI (VS rfl) TT))) (AI (AI rfl (AI (by decide) (by decide))) TT)
theorem zew {a0 : List UInt8} {m : Option Nat} {o : (List (List UInt8)) × Int × Int} (h : qo m a0 = some o) : PFn Tryd.prog 10 [.str a0] (.tup [.isl 1 (o.1.map qd) false, i6 o.2.1, i6 o.2.2]) := PFn.ofFnW (L := zf3) zc8 zbd (NB rfl) rfl (z34 h)
def z6i : LCode := (.block 1
 (.seq (.region [Qm 11 0,
  Qm 12 6,
  Qo 13 (.slStr (.t 11) (some (.t 12)) none),
  Qc 14 9 13,
  Qm 10 14,
  Qo 15 (.ext 0 (.t 10)),
  Qo 16 (.ext 1 (.t 10)),
  Qo 17 (.ext 2 (.t 10)),
  Qm 7 15,
  Qm 8 16,
  Qm 9 17])
 (.seq (.seq (.region [Qm 18 9,
  Qo 19 (.bin .neq (.t 18) (.c (i6 0)))])
 (.cond (.t 19)
  (.seq (.region [Qm 20 9,
   Qo 2 (.mv (.c (.val (.slice none 0 0)))),
   Qi 3 0,
   Qm 4 20])
  .ret)
  .skip))
 (.seq (.seq (.region [Qm 21 8,
  Qo 22 (.bin .eql (.t 21) (.c (i6 0)))])
 (.cond (.t 22)
  (.seq (.region [Qm 23 5,
   Qm 24 6,
   Qm 2 23,
   Qm 3 24,
   Qi 4 0])
  .ret)
  .skip))
 (.seq (.region [Qm 25 5,
  Qm 26 7,
  Qo 27 (.mkSl true 1 [(.str [])] 1 [(0, (.t 26))]),
  Qo 28 (.app true 1 16 (.t 25) (.t 27)),
  Qm 5 28])
 (.region [Qm 29 6,
  Qm 30 8,
  Qo 31 (.bin .add (.t 29) (.t 30)),
  Qm 6 31]))))))
def za2 : LCode := (.seq (.region [Qo 2 (.mv (.c (.val (.slice none 0 0)))),
 Qi 3 0,
 Qi 4 0])
 (.seq (.region [Qo 5 (.mv (.c (.val (.slice none 0 0))))])
 (.seq (.region [Qi 6 0])
 (.block 0
  (.loop
   z6i)))))
def Jn : Lay := ⟨32, [], false⟩
def z3k : List LRes := [.t 2, .t 3, .t 4]
def zd0 : LFn := ⟨1, Jn, za2, z3k⟩
theorem zaf : wm Tryd.prog [] 11 = some zd0 := by kernel_rfl
theorem zce : ki Tryd.prog 11 := ⟨_, Tryd.func11, rfl, rfl⟩
def zc9 (a0 : List UInt8) (o : (List (List UInt8)) × Int × Int) : Exit → Env → AHeap → Nat → Prop := Xa z3k (j3 (.tup [.isl 1 (o.1.map qd) false, i6 o.2.1, i6 o.2.2]))
def Ji (a0 : List UInt8) (s : ((List (List UInt8)) × Int)) : Env := [(0, .str a0), (5, .osl (0, 0) 1 (s.1.map qd)), (6, i6 s.2)]
def Vx (a0 : List UInt8) (s : ((List (List UInt8)) × Int)) : AHeap := [((0, 0), .tok)]
def z0r (a0 : List UInt8) (o : ((List (List UInt8)) × Int × Int)) : Exit → Env → AHeap → Nat → Prop := (x7 0 (zc9 a0 o))
noncomputable def zy (m : Option Nat) (a0 : List UInt8) (v2 : List (List UInt8)) (v3 : Int) : Option (((List (List UInt8)) × Int) ⊕ ((List (List UInt8)) × Int × Int)) :=
 if (0 : Int) ≤ v3 ∧ v3 ≤ (a0.length : Int) then
 (zr m ((a0.take a0.length).drop v3.toNat)).bind fun v5 =>
 if (v5.2.2 != 0) = true then
  Option.map Sum.inr (
   some ([], 0, v5.2.2))
 else
  if (v5.2.1 == 0) = true then
   Option.map Sum.inr (
    some (v2, v3, 0))
  else
   if ((v2 ++ ([v5.1] : List (List UInt8))).map qd).length * 16 ≤ 140737488355328 then
   some (.inl ((v2 ++ ([v5.1] : List (List UInt8))), (W (v3 + v5.2.1))))
   else none
 else none
noncomputable def qm (m : Option Nat) (a0 : List UInt8) (v2 : List (List UInt8)) (v3 : Int) : Option ((List (List UInt8)) × Int × Int) := vb m (fun (s : ((List (List UInt8)) × Int)) => zy m a0 s.1 s.2) (v2, v3)
theorem z2c {a0 : List UInt8} {v2 : List (List UInt8)} {v3 : Int} {m : Option Nat} {o : ((List (List UInt8)) × Int) ⊕ ((List (List UInt8)) × Int × Int)} (h : zy m a0 v2 v3 = some o) :
 LWp Tryd.prog Jn 0 z6i (kh 0 1 (Ji a0) (Vx a0) (z0r a0) o) [(0, .str a0), (5, .osl (0, 0) 1 (v2.map qd)), (6, i6 v3)] [((0, 0), .tok)] 1 := by
 unfold zy at h
 refine xn ?_
 refine zc (zz ?_)
 obtain ⟨h10, h⟩ := zj h
 refine AI (AI (And.left h10) (AI (And.right h10) (Int.le_refl _))) ?_
 obtain ⟨v5, h11, h⟩ := bind_some h
 refine PFn.call (ze4 h11) (AI (VS rfl) TT) ?_
 refine LWp.sim (e := [(0, .str a0), (5, .osl (0, 0) 1 (v2.map qd)), (6, i6 v3), (7, .str v5.1), (8, i6 v5.2.1), (9, i6 v5.2.2)]) (L := [((0, 0), .tok)]) (n := 1) ?_ ?_
 ·exact x3 (M := [((0, 0), (0, 0))]) rfl (AI (VS rfl) (AI (Vw.osl _ _ _ _ rfl) (S4 rfl rfl rfl rfl TT))) (AI (AI rfl BVw.tok) TT)
 refine zc ?_
 refine zc (zz ?_)
 refine qz (v := (v5.2.2 != 0)) rfl TT (fun h12 => ?_) (fun h12 => ?_)
 ·have h := y4 h12 h
  refine zc (zz ?_)
  refine w3 ?_
  obtain ⟨o, hq, rfl⟩ := Option.map_eq_some_iff.1 h
  replace h := hq; clear hq
  refine AI nofun ?_
  cases h
  exact AI TT (AI TT (AI TT (AI rfl (Vw.tupL (AI (Vw.nilI _ _) (S2 rfl rfl TT))))))
 ·have h := yj h12 h
  refine xa ?_
  refine zc ?_
  refine zc (zz ?_)
  refine qz (v := (v5.2.1 == 0)) rfl TT (fun h13 => ?_) (fun h13 => ?_)
  ·have h := y4 h13 h
   refine zc (zz ?_)
   refine LWp.sim (e := [(2, .osl (0, 0) 1 (v2.map qd)), (3, i6 v3), (4, i6 0)]) (L := [((0, 0), .tok)]) (n := 1) ?_ ?_
   ·exact x3 (M := [((0, 0), (0, 0))]) rfl (AI (Vw.osl _ _ _ _ rfl) (S2 rfl rfl TT)) (AI (AI rfl BVw.tok) TT)
   refine w3 ?_
   obtain ⟨o, hq, rfl⟩ := Option.map_eq_some_iff.1 h
   replace h := hq; clear hq
   refine AI nofun ?_
   cases h
   exact AI TT (AI TT (AI TT (AI rfl (Vw.tupL (AI (Vw.oslI _ _ _) (S2 rfl rfl TT))))))
  ·have h := yj h13 h
   refine xa ?_
   refine zc (zz ?_)
   obtain ⟨h14, h⟩ := zj h
   refine EX ((v2 ++ ([v5.1] : List (List UInt8))).map qd) (AI (z3f qd v2 ([v5.1] : List (List UInt8))) (AI h14 ?_))
   refine LWp.sim (e := [(0, .str a0), (5, .osl (0, 0) 1 ((v2 ++ ([v5.1] : List (List UInt8))).map qd)), (6, i6 v3), (8, i6 v5.2.1)]) (L := [((0, 0), .tok)]) (n := 1) ?_ ?_
   ·exact x3 (M := [((0, 0), (1, 0))]) rfl (AI (VS rfl) (AI (Vw.osl _ _ _ _ rfl) (S2 rfl rfl TT))) (AI (AI rfl BVw.tok) TT)
   refine zz ?_
   cases h
   exact AI rfl (x3 (M := [((0, 0), (0, 0))]) rfl (AI (VS rfl) (AI (Vw.osl _ _ _ _ rfl) (AI (VS rfl) TT))) (AI (AI rfl BVw.tok) TT))
theorem z42 {a0 : List UInt8} {v2 : List (List UInt8)} {v3 : Int} {m : Option Nat} {o : ((List (List UInt8)) × Int × Int)} (h : qm m a0 v2 v3 = some o) :
 LWp Tryd.prog Jn 0 (.loop z6i) (x7 0 (zc9 a0 o)) [(0, .str a0), (5, .osl (0, 0) 1 (v2.map qd)), (6, i6 v3)] [((0, 0), .tok)] 1 :=
 xk (m := m) (s := ((v2, v3) : ((List (List UInt8)) × Int))) (r := o) (fun (s : ((List (List UInt8)) × Int)) => zy m a0 s.1 s.2) (Ji a0) (Vx a0) (z0r a0) (fun s o h => z2c h) h
noncomputable def zu (m : Option Nat) (a0 : List UInt8) : Option ((List (List UInt8)) × Int × Int) :=
 qm m a0 [] 0
theorem z69 {a0 : List UInt8} {m : Option Nat} {o : (List (List UInt8)) × Int × Int} (h : zu m a0 = some o) : LWp Tryd.prog Jn 0 za2 (zc9 a0 o) (qp 0 [.str a0]) [] 0 := by
 unfold zu at h
 refine zc (zz ?_)
 refine zc (zz ?_)
 refine zc (zz ?_)
 refine xn ?_
 refine LWp.sim ?_ (z42 h)
 exact x3 (M := []) rfl (AI (VS rfl) (AI (Vw.nilO _ _ (by decide)) (AI (VS rfl) TT))) (AI (AI rfl (AI (by decide) (by decide))) TT)
theorem zey {a0 : List UInt8} {m : Option Nat} {o : (List (List UInt8)) × Int × Int} (h : zu m a0 = some o) : PFn Tryd.prog 11 [.str a0] (.tup [.isl 1 (o.1.map qd) false, i6 o.2.1, i6 o.2.2]) := PFn.ofFnW (L := zd0) zaf zce (NB rfl) rfl (z69 h)
def z65 : LCode := (.seq (.region [Qo 15 (.bin .lss (.t 14) (.t 13))])
 (.seq (.cond (.t 15)
  .skip
  (.exit 0))
 (.seq (.block 1
  (.seq (.region [Qm 16 14,
   Qo 17 (.iaddr 1 (.t 12) (.t 14)),
   Ql 18 1 17,
   Qm 5 16,
   Qm 6 18])
  (.seq (.region [Qm 19 6,
   Qm 20 1,
   Qm 21 5,
   Qo 22 (.iaddr 1 (.t 20) (.t 21)),
   Ql 23 1 22,
   Qo 24 (.bin .neq (.t 19) (.t 23))])
  (.cond (.t 24)
   (.seq (.region [Qb 4])
   .ret)
   .skip))))
 (.region [Qo 25 (.bin .add (.t 14) (.c (i6 1))),
  Qm 14 25]))))
def z14 : LCode := (.seq (.region [Qo 4 (.mv (.c (.bool true)))])
 .ret)
def za7 : LCode := (.seq (.region [Qb 4])
 (.seq (.seq (.region [Qm 7 0,
  Qo 8 (.len false (.t 7)),
  Qm 9 1,
  Qo 10 (.len false (.t 9)),
  Qo 11 (.bin .neq (.t 8) (.t 10))])
 (.cond (.t 11)
  (.seq (.region [Qb 4])
  .ret)
  .skip))
 (.seq (.seq (.region [Qm 12 0,
  Qo 13 (.len false (.t 12)),
  Qi 14 0])
 (.block 0
  (.loop
   z65)))
 z14)))
def ux : Lay := ⟨26, [], false⟩
def z6j : List LRes := [.t 4]
def zd7 : LFn := ⟨2, ux, za7, z6j⟩
theorem zc6 : wm Tryd.prog [] 12 = some zd7 := by kernel_rfl
theorem zch : ki Tryd.prog 12 := ⟨_, Tryd.func12, rfl, rfl⟩
def z8h (a0 : List (List UInt8)) (a1 : List (List UInt8)) (o : Bool) : Exit → Env → AHeap → Nat → Prop := Xa z6j (j3 (.bool o))
def J5 (a0 : List (List UInt8)) (a1 : List (List UInt8)) (s : Int) : Env := [(1, .isl 1 (a1.map qd) false), (12, .isl 1 (a0.map qd) false), (13, i6 ((a0.map qd).length : Int)), (14, i6 s)]
def Vm (a0 : List (List UInt8)) (a1 : List (List UInt8)) (s : Int) : AHeap := []
def z0q (a0 : List (List UInt8)) (a1 : List (List UInt8)) (o : Bool) : Exit → Env → AHeap → Nat → Prop := (x7 0 (X9 Tryd.prog ux 0 z14 (z8h a0 a1 o)))
noncomputable def qh (m : Option Nat) : Option Bool :=
 some true
noncomputable def zd (m : Option Nat) (a0 : List (List UInt8)) (a1 : List (List UInt8)) (v1 : Int) : Option (Int ⊕ Bool) :=
 if (decide (v1 < ((a0.map qd).length : Int))) = true then
  if (0 : Int) ≤ v1 ∧ v1 < ((a0.map qd).length : Int) then
  if (0 : Int) ≤ v1 ∧ v1 < ((a1.map qd).length : Int) then
  if (!((a0.getD v1.toNat default) == (a1.getD v1.toNat default))) = true then
   Option.map Sum.inr (
    some false)
  else
   some (.inl (W (v1 + 1)))
  else none
  else none
 else
  Option.map Sum.inr (
   qh m)
noncomputable def y5 (m : Option Nat) (a0 : List (List UInt8)) (a1 : List (List UInt8)) (v1 : Int) : Option Bool := vb m (fun (s : Int) => zd m a0 a1 s) v1
theorem z3y {a0 : List (List UInt8)} {a1 : List (List UInt8)} {m : Option Nat} {o : Bool} (h : qh m = some o) :
 LWp Tryd.prog ux 0 z14 (z8h a0 a1 o) [] [] 0 := by
 unfold qh at h
 refine zc (zz ?_)
 refine w3 ?_
 cases h
 exact AI TT (AI rfl (VS rfl))
theorem z1s {a0 : List (List UInt8)} {a1 : List (List UInt8)} {v1 : Int} {m : Option Nat} {o : Int ⊕ Bool} (h : zd m a0 a1 v1 = some o) :
 LWp Tryd.prog ux 0 z65 (kh 0 0 (J5 a0 a1) (Vm a0 a1) (z0q a0 a1) o) [(1, .isl 1 (a1.map qd) false), (12, .isl 1 (a0.map qd) false), (13, i6 ((a0.map qd).length : Int)), (14, i6 v1)] [] 0 := by
 unfold zd at h
 refine zc (zz ?_)
 refine zc ?_
 refine qz (v := (decide (v1 < ((a0.map qd).length : Int)))) rfl TT (fun h10 => ?_) (fun h10 => ?_)
 ·have h := y4 h10 h
  refine xa ?_
  refine zc ?_
  refine xn ?_
  refine zc (zz ?_)
  obtain ⟨h11, h⟩ := zj h
  refine AI h11 ?_
  refine EX (qd (a0.getD v1.toNat default)) (AI (Jq qd _ _ (U9 qd h11)) (AI (AI (z33 h11) (NB rfl)) ?_))
  refine zc (zz ?_)
  obtain ⟨h12, h⟩ := zj h
  refine AI h12 ?_
  refine EX (qd (a1.getD v1.toNat default)) (AI (Jq qd _ _ (U9 qd h12)) (AI (AI (z33 h12) (NB rfl)) ?_))
  refine LWp.sim (e := [(1, .isl 1 (a1.map qd) false), (12, .isl 1 (a0.map qd) false), (13, i6 ((a0.map qd).length : Int)), (14, i6 v1), (24, .bool (!((a0.getD v1.toNat default) == (a1.getD v1.toNat default))))]) (L := []) (n := 0) ?_ ?_
  ·exact x3 (M := []) rfl (S4 rfl rfl rfl rfl (AI (VS rfl) TT)) TT
  refine qz (v := (!((a0.getD v1.toNat default) == (a1.getD v1.toNat default)))) rfl TT (fun h13 => ?_) (fun h13 => ?_)
  ·have h := y4 h13 h
   refine zc (zz ?_)
   refine w3 ?_
   obtain ⟨o, hq, rfl⟩ := Option.map_eq_some_iff.1 h
   replace h := hq; clear hq
   refine AI nofun ?_
   cases h
   exact AI TT (AI rfl (VS rfl))
  ·have h := yj h13 h
   refine xa ?_
   refine zz ?_
   cases h
   exact AI rfl (x3 (M := []) rfl (S4 rfl rfl rfl rfl TT) TT)
 ·have h := yj h10 h
  refine Yz ?_
  obtain ⟨o, hq, rfl⟩ := Option.map_eq_some_iff.1 h
  replace h := hq; clear hq
  refine AI nofun ?_
  refine LWp.sim ?_ (z3y h)
  exact x3 (M := []) rfl TT TT
theorem z5a {a0 : List (List UInt8)} {a1 : List (List UInt8)} {v1 : Int} {m : Option Nat} {o : Bool} (h : y5 m a0 a1 v1 = some o) :
 LWp Tryd.prog ux 0 (.loop z65) (x7 0 (X9 Tryd.prog ux 0 z14 (z8h a0 a1 o))) [(1, .isl 1 (a1.map qd) false), (12, .isl 1 (a0.map qd) false), (13, i6 ((a0.map qd).length : Int)), (14, i6 v1)] [] 0 :=
 xk (m := m) (s := (v1 : Int)) (r := o) (fun (s : Int) => zd m a0 a1 s) (J5 a0 a1) (Vm a0 a1) (z0q a0 a1) (fun s o h => z1s h) h
noncomputable def zq (m : Option Nat) (a0 : List (List UInt8)) (a1 : List (List UInt8)) : Option Bool :=
 if (((a0.map qd).length : Int) != ((a1.map qd).length : Int)) = true then
  some false
 else
  y5 m a0 a1 0
theorem z5y {a0 : List (List UInt8)} {a1 : List (List UInt8)} {m : Option Nat} {o : Bool} (h : zq m a0 a1 = some o) : LWp Tryd.prog ux 0 za7 (z8h a0 a1 o) (qp 0 [.isl 1 (a0.map qd) false, .isl 1 (a1.map qd) false]) [] 0 := by
 unfold zq at h
 refine zc (zz ?_)
 refine zc ?_
 refine zc (zz ?_)
 refine qz (v := (((a0.map qd).length : Int) != ((a1.map qd).length : Int))) rfl TT (fun h1 => ?_) (fun h1 => ?_)
 ·have h := y4 h1 h
  refine zc (zz ?_)
  refine w3 ?_
  cases h
  exact AI TT (AI rfl (VS rfl))
 ·have h := yj h1 h
  refine xa ?_
  refine zc ?_
  refine zc (zz ?_)
  refine LWp.sim (e := [(1, .isl 1 (a1.map qd) false), (12, .isl 1 (a0.map qd) false), (13, i6 ((a0.map qd).length : Int)), (14, i6 0)]) (L := []) (n := 0) ?_ ?_
  ·exact x3 (M := []) rfl (S4 rfl rfl rfl rfl TT) TT
  refine xn ?_
  refine LWp.sim ?_ (z5a h)
  exact x3 (M := []) rfl (S4 rfl rfl rfl rfl TT) TT
theorem ze0 {a0 : List (List UInt8)} {a1 : List (List UInt8)} {m : Option Nat} {o : Bool} (h : zq m a0 a1 = some o) : PFn Tryd.prog 12 [.isl 1 (a0.map qd) false, .isl 1 (a1.map qd) false] (.bool o) := PFn.ofFnW (L := zd7) zc6 zch (NB rfl) rfl (z5y h)
def zd6 : LCode := (.seq (.region [Qb 2])
 (.seq (.seq (.region [Qo 15 (.call 5 []),
  Qo 16 (.un .not (.t 15))])
 (.cond (.t 16)
  (.seq (.region [Qb 2])
  .ret)
  .skip))
 (.seq (.region [Qm 18 0,
  Qc 19 6 18,
  Qm 17 19,
  Qo 20 (.ext 0 (.t 17)),
  Qo 21 (.ext 1 (.t 17)),
  Qm 3 20,
  Qm 4 21])
 (.seq (.seq (.region [Qm 22 0,
  Qo 23 (.len true (.t 22)),
  Qo 24 (.bin .gtr (.t 23) (.c (i6 4000))),
  Qm 25 24,
  Qn 26 4 (25, true),
  Qg 27 (.bin .neq (.t 26) (.c (i6 2))) (25, true),
  Qn 28 27 (25, true),
  Qn 29 3 (28, false),
  Qg 30 (.bin .neq (.t 29) (.c (.str []))) (28, false),
  Qg 31 (.pick (.t 28) (.c (.bool true)) (.t 30)) (25, true),
  Qp 32 25 31,
  Qm 33 32,
  Qn 34 0 (33, false),
  Qg 35 (.len true (.t 34)) (33, false),
  Qg 36 (.bin .leq (.t 35) (.c (i6 4000))) (33, false),
  Qn 37 36 (33, false),
  Qn 38 4 (37, true),
  Qg 39 (.bin .neq (.t 38) (.c (i6 0))) (37, true),
  Qn 40 39 (37, true),
  Qn 41 3 (40, false),
  Qn 42 0 (40, false),
  Qg 43 (.len true (.t 42)) (40, false),
  Qg 44 (.call 7 [(.t 43)]) (40, false),
  Qg 45 (.bin .add (.c (.str [67, 111, 110, 116, 101, 110, 116, 45, 76, 101, 110, 103, 116, 104, 58, 32])) (.t 44)) (40, false),
  Qg 46 (.bin .add (.t 45) (.c (.str [13, 10, 13, 10]))) (40, false),
  Qn 47 0 (40, false),
  Qg 48 (.bin .add (.t 46) (.t 47)) (40, false),
  Qg 49 (.bin .neq (.t 41) (.t 48)) (40, false),
  Qg 50 (.pick (.t 40) (.c (.bool true)) (.t 49)) (37, true),
  Qg 51 (.pick (.t 37) (.t 50) (.c (.bool false))) (33, false),
  Qo 52 (.pick (.t 33) (.c (.bool true)) (.t 51))])
 (.cond (.t 52)
  (.seq (.region [Qb 2])
  .ret)
  .skip))
 (.seq (.region [Qm 54 0,
  Qc 55 8 54,
  Qm 53 55,
  Qo 56 (.ext 0 (.t 53)),
  Qo 57 (.ext 1 (.t 53)),
  Qo 58 (.ext 2 (.t 53)),
  Qm 5 56,
  Qm 6 57,
  Qm 7 58])
 (.seq (.region [Qm 60 0,
  Qc 61 9 60,
  Qm 59 61,
  Qo 62 (.ext 0 (.t 59)),
  Qo 63 (.ext 1 (.t 59)),
  Qo 64 (.ext 2 (.t 59)),
  Qm 8 62,
  Qm 9 63,
  Qm 10 64])
 (.seq (.seq (.region [Qm 65 5,
  Qm 66 8,
  Qo 67 (.bin .neq (.t 65) (.t 66)),
  Qm 68 67,
  Qn 69 6 (68, false),
  Qn 70 9 (68, false),
  Qg 71 (.bin .neq (.t 69) (.t 70)) (68, false),
  Qo 72 (.pick (.t 68) (.c (.bool true)) (.t 71)),
  Qm 73 72,
  Qn 74 7 (73, false),
  Qn 75 10 (73, false),
  Qg 76 (.bin .neq (.t 74) (.t 75)) (73, false),
  Qo 77 (.pick (.t 73) (.c (.bool true)) (.t 76))])
 (.cond (.t 77)
  (.seq (.region [Qb 2])
  .ret)
  .skip))
 (.seq (.region [Qm 79 0,
  Qc 80 10 79,
  Qm 78 80,
  Qo 81 (.ext 0 (.t 78)),
  Qo 82 (.ext 1 (.t 78)),
  Qo 83 (.ext 2 (.t 78)),
  Qm 11 81,
  Qm 12 82,
  Qm 7 83])
 (.seq (.region [Qm 85 0,
  Qc 86 11 85,
  Qm 84 86,
  Qo 87 (.ext 0 (.t 84)),
  Qo 88 (.ext 1 (.t 84)),
  Qo 89 (.ext 2 (.t 84)),
  Qm 13 87,
  Qm 14 88,
  Qm 10 89])
 (.seq (.region [Qo 90 (.call 5 []),
  Qm 91 90,
  Qn 92 7 (91, true),
  Qn 93 10 (91, true),
  Qg 94 (.bin .eql (.t 92) (.t 93)) (91, true),
  Qp 95 91 94,
  Qm 96 95,
  Qn 97 12 (96, true),
  Qn 98 14 (96, true),
  Qg 99 (.bin .eql (.t 97) (.t 98)) (96, true),
  Qp 100 96 99,
  Qm 101 100,
  Qn 102 11 (101, true),
  Qn 103 13 (101, true),
  Qg 104 (.call 12 [(.t 102), (.t 103)]) (101, true),
  Qp 105 101 104,
  Qm 2 105])
 .ret))))))))))
def z9o : Lay := ⟨106, [], false⟩
def za0 : List LRes := [.t 2]
def zg2 : LFn := ⟨1, z9o, zd6, za0⟩
theorem zeg : wm Tryd.prog [] 3 = some zg2 := by kernel_rfl
theorem zct : ki Tryd.prog 3 := ⟨_, Tryd.func3, rfl, rfl⟩
noncomputable def yt (m : Option Nat) (a0 : List UInt8) : Option Bool :=
 (y3 (some 4096)).bind fun v1 =>
 if (!v1) = true then
  some false
 else
  (xb m a0).bind fun v2 =>
  (if (((((decide ((a0.length : Int) > 4000)) && ((v2.2 != 2) || (!(v2.1 == ([] : List UInt8))))) == false) && ((decide ((a0.length : Int) ≤ 4000)) == true)) && ((v2.2 != 0) == false)) = true then xt m (a0.length : Int) else some default).bind fun v3 =>
  if ((((((decide ((a0.length : Int) > 4000)) && ((v2.2 != 2) || (!(v2.1 == ([] : List UInt8))))) == false) && ((decide ((a0.length : Int) ≤ 4000)) == true)) && ((v2.2 != 0) == false)) = true → (((([67, 111, 110, 116, 101, 110, 116, 45, 76, 101, 110, 103, 116, 104, 58, 32] : List UInt8).length + v3.length : Nat) : Int) ≤ 9223372036854775807)) then
  if ((((((decide ((a0.length : Int) > 4000)) && ((v2.2 != 2) || (!(v2.1 == ([] : List UInt8))))) == false) && ((decide ((a0.length : Int) ≤ 4000)) == true)) && ((v2.2 != 0) == false)) = true → ((((([67, 111, 110, 116, 101, 110, 116, 45, 76, 101, 110, 103, 116, 104, 58, 32] : List UInt8) ++ v3).length + ([13, 10, 13, 10] : List UInt8).length : Nat) : Int) ≤ 9223372036854775807)) then
  if ((((((decide ((a0.length : Int) > 4000)) && ((v2.2 != 2) || (!(v2.1 == ([] : List UInt8))))) == false) && ((decide ((a0.length : Int) ≤ 4000)) == true)) && ((v2.2 != 0) == false)) = true → (((((([67, 111, 110, 116, 101, 110, 116, 45, 76, 101, 110, 103, 116, 104, 58, 32] : List UInt8) ++ v3) ++ ([13, 10, 13, 10] : List UInt8)).length + a0.length : Nat) : Int) ≤ 9223372036854775807)) then
  if (((decide ((a0.length : Int) > 4000)) && ((v2.2 != 2) || (!(v2.1 == ([] : List UInt8))))) || ((decide ((a0.length : Int) ≤ 4000)) && ((v2.2 != 0) || (!(v2.1 == (((([67, 111, 110, 116, 101, 110, 116, 45, 76, 101, 110, 103, 116, 104, 58, 32] : List UInt8) ++ v3) ++ ([13, 10, 13, 10] : List UInt8)) ++ a0)))))) = true then
   some false
  else
   (qi m a0).bind fun v4 =>
   (zr m a0).bind fun v5 =>
   if (((!(v4.1 == v5.1)) || (v4.2.1 != v5.2.1)) || (v4.2.2 != v5.2.2)) = true then
    some false
   else
    (qo m a0).bind fun v6 =>
    (zu m a0).bind fun v7 =>
    (y3 (some 4096)).bind fun v8 =>
    (if (((v8 && (v6.2.2 == v7.2.2)) && (v6.2.1 == v7.2.1)) == true) = true then zq m v6.1 v7.1 else some default).bind fun v9 =>
    some (((v8 && (v6.2.2 == v7.2.2)) && (v6.2.1 == v7.2.1)) && v9)
  else none
  else none
  else none
def zgs (a0 : List UInt8) (o : Bool) : Exit → Env → AHeap → Nat → Prop := Xa za0 (j3 (.bool o))
theorem z8d {a0 : List UInt8} {m : Option Nat} {o : Bool} (h : yt m a0 = some o) : LWp Tryd.prog z9o 0 zd6 (zgs a0 o) (qp 0 [.str a0]) [] 0 := by
 unfold yt at h
 refine zc (zz ?_)
 refine zc ?_
 refine zc (zz ?_)
 obtain ⟨v1, h1, h⟩ := bind_some h
 refine PFn.call (zcr h1) TT ?_
 refine qz (v := (!v1)) rfl TT (fun h2 => ?_) (fun h2 => ?_)
 ·have h := y4 h2 h
  refine zc (zz ?_)
  refine w3 ?_
  cases h
  exact AI TT (AI rfl (VS rfl))
 ·have h := yj h2 h
  refine xa ?_
  refine zc (zz ?_)
  obtain ⟨v2, h3, h⟩ := bind_some h
  refine PFn.call (zdf h3) (AI (VS rfl) TT) ?_
  refine LWp.sim (e := [(0, .str a0), (3, .str v2.1), (4, i6 v2.2)]) (L := []) (n := 0) ?_ ?_
  ·exact x3 (M := []) rfl (S2 rfl rfl (AI (VS rfl) TT)) TT
  refine zc ?_
  refine zc (zz ?_)
  refine AI (fun hp => hp) ?_
  refine AI (fun hp => hp) ?_
  refine AI (fun hp => hp) ?_
  refine AI (fun hp => (AI hp (fun hc => (Yn hp (bqf hc))))) ?_
  refine AI (fun hc => (bqt hc)) ?_
  refine AI (fun hp => hp) ?_
  refine AI (fun hp => hp) ?_
  refine AI (fun hp => hp) ?_
  refine AI (fun hp => hp) ?_
  refine AI (fun hp => hp) ?_
  refine AI (fun hp => hp) ?_
  obtain ⟨v3, h4, h⟩ := bind_some h
  refine Or.inl (EX (.str v3) (AI (fun hp => AI hp (PFn.call (zfv (y4 hp h4)) (AI (VS rfl) TT) (AI rfl (AI rfl rfl)))) ?_))
  obtain ⟨h5, h⟩ := zj h
  refine AI (fun hp => (AI hp (h5 hp))) ?_
  obtain ⟨h6, h⟩ := zj h
  refine AI (fun hp => (AI hp (h6 hp))) ?_
  obtain ⟨h7, h⟩ := zj h
  refine AI (fun hp => (AI (AI hp hp) (h7 hp))) ?_
  refine AI (fun hp => (AI hp hp)) ?_
  refine AI (fun hp => (AI hp (fun hc => (Yn hp (bqf hc))))) ?_
  refine AI (fun hp => (AI hp (fun hc => (Yn hp (bqt hc))))) ?_
  refine AI (fun hc => (bqf hc)) ?_
  refine LWp.sim (e := [(0, .str a0), (52, .bool (((decide ((a0.length : Int) > 4000)) && ((v2.2 != 2) || (!(v2.1 == ([] : List UInt8))))) || ((decide ((a0.length : Int) ≤ 4000)) && ((v2.2 != 0) || (!(v2.1 == (((([67, 111, 110, 116, 101, 110, 116, 45, 76, 101, 110, 103, 116, 104, 58, 32] : List UInt8) ++ v3) ++ ([13, 10, 13, 10] : List UInt8)) ++ a0)))))))]) (L := []) (n := 0) ?_ ?_
  ·exact x3 (M := []) rfl (S2 rfl rfl TT) TT
  refine qz (v := (((decide ((a0.length : Int) > 4000)) && ((v2.2 != 2) || (!(v2.1 == ([] : List UInt8))))) || ((decide ((a0.length : Int) ≤ 4000)) && ((v2.2 != 0) || (!(v2.1 == (((([67, 111, 110, 116, 101, 110, 116, 45, 76, 101, 110, 103, 116, 104, 58, 32] : List UInt8) ++ v3) ++ ([13, 10, 13, 10] : List UInt8)) ++ a0))))))) rfl TT (fun h8 => ?_) (fun h8 => ?_)
  ·have h := y4 h8 h
   refine zc (zz ?_)
   refine w3 ?_
   cases h
   exact AI TT (AI rfl (VS rfl))
  ·have h := yj h8 h
   refine xa ?_
   refine zc (zz ?_)
   obtain ⟨v4, h9, h⟩ := bind_some h
   refine PFn.call (zaq h9) (AI (VS rfl) TT) ?_
   refine LWp.sim (e := [(0, .str a0), (5, .str v4.1), (6, i6 v4.2.1), (7, i6 v4.2.2)]) (L := []) (n := 0) ?_ ?_
   ·exact x3 (M := []) rfl (S4 rfl rfl rfl rfl TT) TT
   refine zc (zz ?_)
   obtain ⟨v5, h10, h⟩ := bind_some h
   refine PFn.call (ze4 h10) (AI (VS rfl) TT) ?_
   refine LWp.sim (e := [(0, .str a0), (5, .str v4.1), (6, i6 v4.2.1), (7, i6 v4.2.2), (8, .str v5.1), (9, i6 v5.2.1), (10, i6 v5.2.2)]) (L := []) (n := 0) ?_ ?_
   ·exact x3 (M := []) rfl (S4 rfl rfl rfl rfl (S2 rfl rfl (AI (VS rfl) TT))) TT
   refine zc ?_
   refine zc (zz ?_)
   refine AI (fun hp => (AI hp hp)) ?_
   refine AI (fun hc => (bqf hc)) ?_
   refine AI (fun hp => (AI hp hp)) ?_
   refine AI (fun hc => (bqf hc)) ?_
   refine LWp.sim (e := [(0, .str a0), (77, .bool (((!(v4.1 == v5.1)) || (v4.2.1 != v5.2.1)) || (v4.2.2 != v5.2.2)))]) (L := []) (n := 0) ?_ ?_
   ·exact x3 (M := []) rfl (S2 rfl rfl TT) TT
   refine qz (v := (((!(v4.1 == v5.1)) || (v4.2.1 != v5.2.1)) || (v4.2.2 != v5.2.2))) rfl TT (fun h11 => ?_) (fun h11 => ?_)
   ·have h := y4 h11 h
    refine zc (zz ?_)
    refine w3 ?_
    cases h
    exact AI TT (AI rfl (VS rfl))
   ·have h := yj h11 h
    refine xa ?_
    refine zc (zz ?_)
    obtain ⟨v6, h12, h⟩ := bind_some h
    refine PFn.call (zew h12) (AI (VS rfl) TT) ?_
    refine LWp.sim (e := [(0, .str a0), (7, i6 v6.2.2), (11, .isl 1 (v6.1.map qd) false), (12, i6 v6.2.1)]) (L := []) (n := 0) ?_ ?_
    ·exact x3 (M := []) rfl (S4 rfl rfl rfl rfl TT) TT
    refine zc (zz ?_)
    obtain ⟨v7, h13, h⟩ := bind_some h
    refine PFn.call (zey h13) (AI (VS rfl) TT) ?_
    refine LWp.sim (e := [(7, i6 v6.2.2), (10, i6 v7.2.2), (11, .isl 1 (v6.1.map qd) false), (12, i6 v6.2.1), (13, .isl 1 (v7.1.map qd) false), (14, i6 v7.2.1)]) (L := []) (n := 0) ?_ ?_
    ·exact x3 (M := []) rfl (S4 rfl rfl rfl rfl (S2 rfl rfl TT)) TT
    refine zc (zz ?_)
    obtain ⟨v8, h14, h⟩ := bind_some h
    refine PFn.call (zcr h14) TT ?_
    refine AI (fun hp => (AI hp hp)) ?_
    refine AI (fun hc => (bqt hc)) ?_
    refine AI (fun hp => (AI hp hp)) ?_
    refine AI (fun hc => (bqt hc)) ?_
    obtain ⟨v9, h15, h⟩ := bind_some h
    refine Or.inl (EX (.bool v9) (AI (fun hp => AI (AI hp hp) (PFn.call (ze0 (y4 hp h15)) (S2 rfl rfl TT) (AI rfl (AI rfl rfl)))) ?_))
    refine AI (fun hc => (bqt hc)) ?_
    refine LWp.sim (e := [(2, .bool (((v8 && (v6.2.2 == v7.2.2)) && (v6.2.1 == v7.2.1)) && v9))]) (L := []) (n := 0) ?_ ?_
    ·exact x3 (M := []) rfl (AI (VS rfl) TT) TT
    refine w3 ?_
    cases h
    exact AI TT (AI rfl (VS rfl))
theorem zfs {a0 : List UInt8} {m : Option Nat} {o : Bool} (h : yt m a0 = some o) : PFn Tryd.prog 3 [.str a0] (.bool o) := PFn.ofFnW (L := zg2) zeg zct (NB rfl) rfl (z8d h)
end Go.Proofs.YtbinocieebfpiaaDoor
