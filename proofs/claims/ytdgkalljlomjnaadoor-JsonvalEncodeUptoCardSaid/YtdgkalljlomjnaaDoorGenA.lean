/-
  Own text GenA of this claim: what functions of the given program compute, in plain Lean, and the proof; no condition.
-/
import Derived.Test.YtdgkalljlomjnaaDoorChecked
import Derived.Test.YtdgkalljlomjnaaDoorFxN
import Derived.Test.YtdgkalljlomjnaaDoorFxMd
import Derived.Test.YtdgkalljlomjnaaDoorFxLg
import Derived.Test.YtdgkalljlomjnaaDoorFxIt
import Derived.Test.YtdgkalljlomjnaaDoorFxEu
import Derived.Test.YtdgkalljlomjnaaDoorFxBw
import Derived.Test.YtdgkalljlomjnaaDoorFxLb
import Derived.Test.YtdgkalljlomjnaaDoorLib
import Derived.Test.YtdgkalljlomjnaaDoorEv
import Derived.Test.YtdgkalljlomjnaaDoorFxAb
import Derived.KernelRfl
namespace Go.Proofs.YtdgkalljlomjnaaDoor
open Go.Fx
set_option linter.unusedVariables false
set_option maxHeartbeats 4000000
set_option maxHeartbeats 1600000
structure GJ where
 fK : Int
 fN : Int
 fT : List UInt8
 fA : List (List UInt8)
 fE : List (List AVal)
instance : Inhabited GJ := ⟨(GJ.mk 0 0 [] [] [])⟩
def zz (r : List AVal) : List AVal := r
def zp (x : List UInt8) : List AVal := [.str x]
def zox (x : Int) : List AVal := [.int .i64 x]
def z6 (x : GJ) : List AVal := [.int .i64 x.fK, .int .i64 x.fN, .str x.fT, .isl 1 (x.fA.map zp) false, .isl 5 (x.fE.map zz) false]
theorem zp3 (x : GJ) : AVal.nid.nidL (z6 x) = true ∧ ∀ y ∈ z6 x, y.imm = some y := ⟨rfl, by simp [z6, AVal.imm]⟩
noncomputable def um (r : List AVal) : Option GJ := by classical exact if h : ∃ x, r = z6 x then some (Classical.choose h) else none
theorem zc6 {r : List AVal} {x : GJ} (h : um r = some x) : r = z6 x := by
 unfold um at h
 split at h
 ·rename_i hx
  simp only [Option.some.injEq] at h
  rw [← h]
  exact Classical.choose_spec hx
 ·cases h
theorem vi {l : List (List AVal)} {i : Nat} {x : GJ} (h : i < l.length) (hx : um (l.getD i default) = some x) : (l.map zz).getD i [] = z6 x := (Zl zz _ _ h).trans (zc6 hx)
def Jw (x : List UInt8) : AVal := .str x
theorem zr3 (x : List UInt8) : (Jw x).nid = true := rfl
def Vm (x : Int) : AVal := i6 x
theorem Kt (x : Int) : (Vm x).nid = true := rfl
def Q4 (x y : List UInt8) : Bool := (x == y && true)
theorem z2e (x y : List UInt8) : Qv [.str] (Jw x) (Jw y) = some (Q4 x y) := rfl
theorem zrq (x : List UInt8) : AVal.nid.nidL (zp x) = true ∧ ∀ y ∈ zp x, y.imm = some y := ⟨rfl, by simp [zp, AVal.imm]⟩
theorem zrv (x : Int) : AVal.nid.nidL (zox x) = true ∧ ∀ y ∈ zox x, y.imm = some y := ⟨rfl, by simp [zox, AVal.imm]⟩
def xx (m : Option Nat) : Option (Bool) := some true
theorem zpr {m : Option Nat} {o : Bool} (h : xx m = some o) : PFn Tryd.prog 6 [] (.bool o) := by
 cases h
 exact zo5
def z2w : LCode := (.seq (.region [Qo 26 (.bin .lss (.t 25) (.t 24))])
 (.seq (.cond (.t 26)
  .skip
  (.exit 0))
 (.seq (.block 1
  (.seq (.region [Qo 27 (.iaddr 5 (.t 23) (.t 25)),
   Qt 28 5 27,
   Qo 8 (.alloc [(i6 0), (i6 0), (.str []), (.isl 1 [] true), (.isl 5 [] true)]),
   ⟨none, .store 5 (.t 8) (.t 28), none⟩])
  (.seq (.region [Qt 29 5 8,
   Qm 30 1,
   Qo 31 (.bin .add (.t 30) (.c (i6 1))),
   Qm 32 2,
   Qo 33 (.call 22 [(.t 29), (.t 31), (.t 32)]),
   Qo 34 (.un .not (.t 33))])
  (.cond (.t 34)
   (.seq (.region [Qb 6])
   .ret)
   .skip))))
 (.region [Qo 35 (.bin .add (.t 25) (.c (i6 1))),
  Qm 25 35]))))
def Kg : LCode := (.seq (.region [Qo 6 (.mv (.c (.bool true)))])
 .ret)
def z9x : LCode := (.seq (.region [Qo 3 (.box (.t 0)),
 Qb 6])
 (.seq (.region [Qm 9 2,
  Qo 10 (.nilck (.t 9)),
  Ql 11 1 10,
  Qo 12 (.bin .add (.t 11) (.c (i6 1))),
  Qo 13 (.nilck (.t 9)),
  ⟨none, .store 1 (.t 13) (.t 12), none⟩])
 (.seq (.seq (.region [Qm 14 2,
  Qo 15 (.nilck (.t 14)),
  Ql 16 1 15,
  Qo 17 (.bin .gtr (.t 16) (.c (i6 400))),
  Qm 18 17,
  Qn 19 1 (18, false),
  Qg 20 (.bin .gtr (.t 19) (.c (i6 20))) (18, false),
  Qo 21 (.pick (.t 18) (.c (.bool true)) (.t 20))])
 (.cond (.t 21)
  (.seq (.region [Qb 6])
  .ret)
  .skip))
 (.seq (.seq (.region [Qf 22 4 3,
  Ql 23 1 22,
  Qo 24 (.len false (.t 23)),
  Qi 25 0])
 (.block 0
  (.loop
   z2w)))
 Kg))))
def Z7 : Lay := ⟨36, [], false⟩
def z4s : List LRes := [.t 6]
def zea : LFn := ⟨3, Z7, z9x, z4s⟩
theorem zda : wz Tryd.prog [] 22 = some zea := by kernel_rfl
theorem zh3 : Zk Tryd.prog 22 := ⟨_, Tryd.func22, rfl, rfl⟩
def z23 (a0 : GJ) (a1 : Int) (a2 : Int) (o : Bool × Int) : Exit → Env → AHeap → Nat → Prop := Jj z4s (Xn 3 3 (.bool o.1) [((0, 0), .one [i6 o.2])])
def Vi (a0 : GJ) (a1 : Int) (s : (Int × Int)) : Env := [(1, i6 a1), (2, .ptr (0, 0) 0 0), (23, .isl 5 (a0.fE.map zz) false), (24, i6 ((a0.fE.map zz).length : Int)), (25, i6 s.2)]
def Uf (a0 : GJ) (a1 : Int) (s : (Int × Int)) : AHeap := [((0, 0), .one [i6 s.1])]
def z0m (a0 : GJ) (a1 : Int) (a2 : Int) (o : (Bool × Int)) : Exit → Env → AHeap → Nat → Prop := (xq 0 (Qy Tryd.prog Z7 3 Kg (z23 a0 a1 a2 o)))
noncomputable def jf (rec0 : GJ → Int → Int → Option (Bool × Int)) (m : Option Nat) (v3 : Int) : Option (Bool × Int) :=
 some (true, v3)
noncomputable def y6 (rec0 : GJ → Int → Int → Option (Bool × Int)) (m : Option Nat) (a0 : GJ) (a1 : Int) (v3 : Int) (v4 : Int) : Option ((Int × Int) ⊕ (Bool × Int)) :=
 if (decide (v4 < ((a0.fE.map zz).length : Int))) = true then
  if (0 : Int) ≤ v4 ∧ v4 < ((a0.fE.map zz).length : Int) then
  ((um (a0.fE.getD v4.toNat default))).bind fun v7 =>
  (rec0 v7 (W (a1 + 1)) v3).bind fun v8 =>
  if (!v8.1) = true then
   Option.map Sum.inr (
    some (false, v8.2))
  else
   some (.inl (v8.2, (W (v4 + 1))))
  else none
 else
  Option.map Sum.inr (
   jf rec0 m v3)
noncomputable def yv (rec0 : GJ → Int → Int → Option (Bool × Int)) (m : Option Nat) (a0 : GJ) (a1 : Int) (v3 : Int) (v4 : Int) : Option (Bool × Int) := Zg m (fun (s : (Int × Int)) => y6 rec0 m a0 a1 s.1 s.2) (v3, v4)
abbrev Hr0 (rec0 : GJ → Int → Int → Option (Bool × Int)) : Prop := ∀ {a0 : GJ} {a1 : Int} {a2 : Int} {o : Bool × Int}, rec0 a0 a1 a2 = some o → ACalls Tryd.prog 22 [.agg (z6 a0), i6 a1, .ptr (0, 0) 0 0] [((0, 0), .one [i6 a2])] 3 (wg 3 (.bool o.1) [((0, 0), .one [i6 o.2])])
theorem z8m {rec0 : GJ → Int → Int → Option (Bool × Int)} (hrec0 : Hr0 rec0) {a0 : GJ} {a1 : Int} {a2 : Int} {v3 : Int} {m : Option Nat} {o : (Bool × Int)} (h : jf rec0 m v3 = some o) :
 LWp Tryd.prog Z7 3 Kg (z23 a0 a1 a2 o) [] [((0, 0), .one [i6 v3])] 3 := by
 unfold jf at h
 refine za (zc ?_)
 refine kl ?_
 cases h
 exact AI TT (J6 (n' := 3) [] [] rfl rfl (VS rfl) (AI (AI rfl (OL rfl)) TT))
theorem z65 {rec0 : GJ → Int → Int → Option (Bool × Int)} (hrec0 : Hr0 rec0) {a2 : Int} {a0 : GJ} {a1 : Int} {v3 : Int} {v4 : Int} {m : Option Nat} {o : (Int × Int) ⊕ (Bool × Int)} (h : y6 rec0 m a0 a1 v3 v4 = some o) :
 LWp Tryd.prog Z7 3 z2w (kx 3 3 (Vi a0 a1) (Uf a0 a1) (z0m a0 a1 a2) o) [(1, i6 a1), (2, .ptr (0, 0) 0 0), (23, .isl 5 (a0.fE.map zz) false), (24, i6 ((a0.fE.map zz).length : Int)), (25, i6 v4)] [((0, 0), .one [i6 v3])] 3 := by
 unfold y6 at h
 refine za (zc ?_)
 refine za ?_
 refine qi (v := (decide (v4 < ((a0.fE.map zz).length : Int)))) rfl TT (fun h12 => ?_) (fun h12 => ?_)
 ·have h := zh h12 h
  refine jd ?_
  refine za ?_
  refine j6 ?_
  refine za (zc ?_)
  obtain ⟨h13, h⟩ := z8 h
  refine AI h13 ?_
  obtain ⟨v7, h14, h⟩ := bind_some h
  refine EX (z6 v7) (AI (vi (u6 zz h13) h14) (AI (AI (Y9 h13) (NB rfl)) ?_))
  refine za (zc ?_)
  obtain ⟨v8, h15, h⟩ := bind_some h
  refine Zy (k := 3) (m := 0) (L' := [((0, 0), .one [i6 v8.2])]) (rest := [((3, 0), .one (z6 v7))]) (R' := .bool v8.1) [((0, 0), (0, 0))] (hrec0 h15) rfl rfl rfl (S2 rfl rfl (SP rfl TT)) (AI (h0I (0, 0) rfl rfl (OL rfl)) TT) (jm _ rfl) (AI rfl (AI rfl TT)) rfl ?_
  refine LWp.sim (e := [(1, i6 a1), (2, .ptr (0, 0) 0 0), (23, .isl 5 (a0.fE.map zz) false), (24, i6 ((a0.fE.map zz).length : Int)), (25, i6 v4), (34, .bool (!v8.1))]) (L := [((0, 0), .one [i6 v8.2])]) (n := 3) ?_ ?_
  ·exact xe (M := []) rfl (AI (VS rfl) (SP rfl (S4 rfl rfl rfl rfl TT))) (AI (AI rfl (OL rfl)) TT)
  refine qi (v := (!v8.1)) rfl TT (fun h16 => ?_) (fun h16 => ?_)
  ·have h := zh h16 h
   refine za (zc ?_)
   refine kl ?_
   obtain ⟨o, hq, rfl⟩ := Option.map_eq_some_iff.1 h
   replace h := hq; clear hq
   refine AI nofun ?_
   cases h
   exact AI TT (J6 (n' := 3) [] [] rfl rfl (VS rfl) (AI (AI rfl (OL rfl)) TT))
  ·have h := zl h16 h
   refine jd ?_
   refine zc ?_
   cases h
   exact AI rfl (xe (M := []) rfl (AI (VS rfl) (SP rfl (S2 rfl rfl (AI (VS rfl) TT)))) (AI (AI rfl (OL rfl)) TT))
 ·have h := zl h12 h
  refine Ji ?_
  obtain ⟨o, hq, rfl⟩ := Option.map_eq_some_iff.1 h
  replace h := hq; clear hq
  refine AI nofun ?_
  refine LWp.sim ?_ (z8m hrec0 h)
  exact xe (M := []) rfl TT (AI (AI rfl (OL rfl)) TT)
theorem z8n {rec0 : GJ → Int → Int → Option (Bool × Int)} (hrec0 : Hr0 rec0) {a2 : Int} {a0 : GJ} {a1 : Int} {v3 : Int} {v4 : Int} {m : Option Nat} {o : (Bool × Int)} (h : yv rec0 m a0 a1 v3 v4 = some o) :
 LWp Tryd.prog Z7 3 (.loop z2w) (xq 0 (Qy Tryd.prog Z7 3 Kg (z23 a0 a1 a2 o))) [(1, i6 a1), (2, .ptr (0, 0) 0 0), (23, .isl 5 (a0.fE.map zz) false), (24, i6 ((a0.fE.map zz).length : Int)), (25, i6 v4)] [((0, 0), .one [i6 v3])] 3 :=
 jt (m := m) (s := ((v3, v4) : (Int × Int))) (r := o) (fun (s : (Int × Int)) => y6 rec0 m a0 a1 s.1 s.2) (Vi a0 a1) (Uf a0 a1) (z0m a0 a1 a2) (fun s o h => z65 hrec0 h) h
noncomputable def xb (rec0 : GJ → Int → Int → Option (Bool × Int)) (m : Option Nat) (a0 : GJ) (a1 : Int) (a2 : Int) : Option (Bool × Int) :=
 if ((decide ((W (a2 + 1)) > 400)) || (decide (a1 > 20))) = true then
  some (false, (W (a2 + 1)))
 else
  yv rec0 m a0 a1 (W (a2 + 1)) 0
theorem z80 {rec0 : GJ → Int → Int → Option (Bool × Int)} (hrec0 : Hr0 rec0) {a0 : GJ} {a1 : Int} {a2 : Int} {m : Option Nat} {o : Bool × Int} (h : xb rec0 m a0 a1 a2 = some o) : LWp Tryd.prog Z7 3 z9x (z23 a0 a1 a2 o) (qx 0 [.agg (z6 a0), i6 a1, .ptr (0, 0) 0 0]) [((0, 0), .one [i6 a2])] 3 := by
 unfold xb at h
 refine za (zc ?_)
 refine za (zc ?_)
 refine LWp.sim (e := [(1, i6 a1), (2, .ptr (0, 0) 0 0), (3, .ptr (3, 0) 0 0)]) (L := [((0, 0), .one [i6 (W (a2 + 1))]), ((3, 0), .one (z6 a0))]) (n := 4) ?_ ?_
 ·exact xe (M := [((3, 0), (3, 0))]) rfl (AI (VS rfl) (SP rfl (SP rfl TT))) (AI (AI rfl (OL rfl)) (AI (AI rfl (OL rfl)) TT))
 refine za ?_
 refine za (zc ?_)
 refine AI (fun hp => hp) ?_
 refine AI (fun hc => (bqf hc)) ?_
 refine LWp.sim (e := [(1, i6 a1), (2, .ptr (0, 0) 0 0), (3, .ptr (3, 0) 0 0), (21, .bool ((decide ((W (a2 + 1)) > 400)) || (decide (a1 > 20))))]) (L := [((0, 0), .one [i6 (W (a2 + 1))]), ((3, 0), .one (z6 a0))]) (n := 4) ?_ ?_
 ·exact xe (M := [((3, 0), (3, 0))]) rfl (AI (VS rfl) (SP rfl (SP rfl (AI (VS rfl) TT)))) (AI (AI rfl (OL rfl)) (AI (AI rfl (OL rfl)) TT))
 refine qi (v := ((decide ((W (a2 + 1)) > 400)) || (decide (a1 > 20)))) rfl TT (fun h1 => ?_) (fun h1 => ?_)
 ·have h := zh h1 h
  refine za (zc ?_)
  refine kl ?_
  cases h
  exact AI TT (J6 (n' := 4) [] [] rfl rfl (VS rfl) (AI (AI rfl (OL rfl)) TT))
 ·have h := zl h1 h
  refine jd ?_
  refine za ?_
  refine za (zc ?_)
  refine j6 ?_
  refine LWp.sim ?_ (z8n hrec0 h)
  exact xe (M := []) rfl (AI (VS rfl) (SP rfl (S2 rfl rfl (AI (VS rfl) TT)))) (AI (AI rfl (OL rfl)) TT)
theorem zj6 {rec0 : GJ → Int → Int → Option (Bool × Int)} (hrec0 : Hr0 rec0) {a0 : GJ} {a1 : Int} {a2 : Int} {m : Option Nat} {o : Bool × Int} (h : xb rec0 m a0 a1 a2 = some o) : ACalls Tryd.prog 22 [.agg (z6 a0), i6 a1, .ptr (0, 0) 0 0] [((0, 0), .one [i6 a2])] 3 (wg 3 (.bool o.1) [((0, 0), .one [i6 o.2])]) := Yz (L := zea) zda zh3 (NB rfl) (z80 hrec0 h)
noncomputable def yb (m : Option Nat) : Nat → GJ → Int → Int → Option (Bool × Int)
 | 0 => fun _ _ _ => none
 | k + 1 => xb (yb m k) m
noncomputable def jk (m : Option Nat) (a0 : GJ) (a1 : Int) (a2 : Int) : Option (Bool × Int) := zd1 m (fun k => yb m k a0 a1 a2)
theorem z5z {m : Option Nat} : ∀ (k : Nat) {a0 : GJ} {a1 : Int} {a2 : Int} {o : Bool × Int}, yb m k a0 a1 a2 = some o → ACalls Tryd.prog 22 [.agg (z6 a0), i6 a1, .ptr (0, 0) 0 0] [((0, 0), .one [i6 a2])] 3 (wg 3 (.bool o.1) [((0, 0), .one [i6 o.2])])
 | 0, _, _, _, _, h => nomatch h
 | k + 1, _, _, _, _, h => zj6 (fun h => z5z k h) h
theorem zdz {a0 : GJ} {a1 : Int} {a2 : Int} {m : Option Nat} {o : Bool × Int} (h : jk m a0 a1 a2 = some o) : ACalls Tryd.prog 22 [.agg (z6 a0), i6 a1, .ptr (0, 0) 0 0] [((0, 0), .one [i6 a2])] 3 (wg 3 (.bool o.1) [((0, 0), .one [i6 o.2])]) := (Z3 h).elim fun k h => z5z k h
def zg4 : LCode := (.seq (.region [Qo 10 (.bin .lss (.t 9) (.t 8))])
 (.seq (.cond (.t 10)
  .skip
  (.exit 0))
 (.seq (.block 1
  (.seq (.region [Qo 11 (.iaddr 1 (.t 7) (.t 9)),
   Ql 12 1 11,
   Qm 5 12])
  (.seq (.seq (.region [Qm 13 3,
   Qm 14 5,
   Qo 15 (.mlook [.str] false false false [(i6 0)] (.t 13) (.t 14)),
   Qo 16 (.bin .neq (.t 15) (.c (i6 0)))])
  (.cond (.t 16)
   (.seq (.region [Qo 2 (.mv (.c (.bool true)))])
   .ret)
   .skip))
  (.region [Qm 17 3,
   Qm 18 5,
   ⟨none, .mset [.str] false false [(i6 0)] (.t 17) (.t 18) (.c (i6 1)), none⟩]))))
 (.region [Qo 19 (.bin .add (.t 9) (.c (i6 1))),
  Qm 9 19]))))
def zb7 : LCode := (.seq (.region [Qb 2])
 .ret)
def zls : LCode := (.seq (.region [Qb 2])
 (.seq (.region [Qo 6 (.mkmap none),
  Qm 3 6])
 (.seq (.seq (.region [Qm 7 0,
  Qo 8 (.len false (.t 7)),
  Qi 9 0])
 (.block 0
  (.loop
   zg4)))
 zb7)))
def J8 : Lay := ⟨20, [], false⟩
def zf9 : List LRes := [.t 2]
def zq7 : LFn := ⟨1, J8, zls, zf9⟩
theorem znz : wz Tryd.prog [] 63 = some zq7 := by kernel_rfl
theorem zmu : Zk Tryd.prog 63 := ⟨_, Tryd.func63, rfl, rfl⟩
def zjc (a0 : List (List UInt8)) (o : Bool) : Exit → Env → AHeap → Nat → Prop := Jj zf9 (vl (.bool o))
def z1g (a0 : List (List UInt8)) (s : (Int × (List ((List UInt8) × Int)))) : Env := [(3, .map (0, 0)), (7, .isl 1 (a0.map zp) false), (8, i6 ((a0.map zp).length : Int)), (9, i6 s.1)]
def z68 (a0 : List (List UInt8)) (s : (Int × (List ((List UInt8) × Int)))) : AHeap := [((0, 0), .amap (s.2.map (em Jw Vm)))]
def zay (a0 : List (List UInt8)) (o : Bool) : Exit → Env → AHeap → Nat → Prop := (xq 0 (Qy Tryd.prog J8 0 zb7 (zjc a0 o)))
noncomputable def w3 (m : Option Nat) : Option Bool :=
 some false
noncomputable def yx (m : Option Nat) (a0 : List (List UInt8)) (v1 : Int) (v2 : List ((List UInt8) × Int)) : Option ((Int × (List ((List UInt8) × Int))) ⊕ Bool) :=
 if (decide (v1 < ((a0.map zp).length : Int))) = true then
  if (0 : Int) ≤ v1 ∧ v1 < ((a0.map zp).length : Int) then
  if (((lk Q4 v2 (a0.getD v1.toNat default)).getD 0) != 0) = true then
   Option.map Sum.inr (
    some true)
  else
   some (.inl ((W (v1 + 1)), (mp Q4 v2 (a0.getD v1.toNat default) 1)))
  else none
 else
  Option.map Sum.inr (
   w3 m)
noncomputable def xk (m : Option Nat) (a0 : List (List UInt8)) (v1 : Int) (v2 : List ((List UInt8) × Int)) : Option Bool := Zg m (fun (s : (Int × (List ((List UInt8) × Int)))) => yx m a0 s.1 s.2) (v1, v2)
theorem zdj {a0 : List (List UInt8)} {m : Option Nat} {o : Bool} (h : w3 m = some o) :
 LWp Tryd.prog J8 0 zb7 (zjc a0 o) [] [] 0 := by
 unfold w3 at h
 refine za (zc ?_)
 refine kl ?_
 cases h
 exact AI TT (AI rfl (VS rfl))
theorem zcy {a0 : List (List UInt8)} {v1 : Int} {v2 : List ((List UInt8) × Int)} {m : Option Nat} {o : (Int × (List ((List UInt8) × Int))) ⊕ Bool} (h : yx m a0 v1 v2 = some o) :
 LWp Tryd.prog J8 0 zg4 (kx 0 1 (z1g a0) (z68 a0) (zay a0) o) [(3, .map (0, 0)), (7, .isl 1 (a0.map zp) false), (8, i6 ((a0.map zp).length : Int)), (9, i6 v1)] [((0, 0), .amap (v2.map (em Jw Vm)))] 1 := by
 unfold yx at h
 refine za (zc ?_)
 refine za ?_
 refine qi (v := (decide (v1 < ((a0.map zp).length : Int)))) rfl TT (fun h7 => ?_) (fun h7 => ?_)
 ·have h := zh h7 h
  refine jd ?_
  refine za ?_
  refine j6 ?_
  refine za (zc ?_)
  obtain ⟨h8, h⟩ := z8 h
  refine AI h8 ?_
  refine EX (zp (a0.getD v1.toNat default)) (AI (Zl zp _ _ (u6 zp h8)) (AI (AI (Y9 h8) (NB rfl)) ?_))
  refine za ?_
  refine za (zc ?_)
  refine EX (i6 ((lk Q4 v2 (a0.getD v1.toNat default)).getD 0)) (AI (zrg (ek := Jw) (ev := Vm) (z := 0) z2e rfl (a0.getD v1.toNat default) v2) (AI (zbn (ek := Jw) (ev := Vm) z2e _ _) ?_))
  refine LWp.sim (e := [(3, .map (0, 0)), (5, .str (a0.getD v1.toNat default)), (7, .isl 1 (a0.map zp) false), (8, i6 ((a0.map zp).length : Int)), (9, i6 v1), (16, .bool (((lk Q4 v2 (a0.getD v1.toNat default)).getD 0) != 0))]) (L := [((0, 0), .amap (v2.map (em Jw Vm)))]) (n := 1) ?_ ?_
  ·exact xe (M := [((0, 0), (0, 0))]) rfl (AI (Vw.map _ _ rfl) (S4 rfl rfl rfl rfl (AI (VS rfl) TT))) (AI (AI rfl (BVw.ofMap Jw Vm Kt v2)) TT)
  refine qi (v := (((lk Q4 v2 (a0.getD v1.toNat default)).getD 0) != 0)) rfl TT (fun h9 => ?_) (fun h9 => ?_)
  ·have h := zh h9 h
   refine za (zc ?_)
   refine kl ?_
   obtain ⟨o, hq, rfl⟩ := Option.map_eq_some_iff.1 h
   replace h := hq; clear hq
   refine AI nofun ?_
   cases h
   exact AI TT (AI rfl (VS rfl))
  ·have h := zl h9 h
   refine jd ?_
   refine zc ?_
   refine EX ((mp Q4 v2 (a0.getD v1.toNat default) 1).map (em Jw Vm)) (AI (zaj (ek := Jw) (ev := Vm) z2e (a0.getD v1.toNat default) 1 v2) ?_)
   refine zc ?_
   cases h
   exact AI rfl (xe (M := [((0, 0), (0, 0))]) rfl (AI (Vw.map _ _ rfl) (S2 rfl rfl (AI (VS rfl) TT))) (AI (AI rfl (BVw.ofMap Jw Vm Kt (mp Q4 v2 (a0.getD v1.toNat default) 1))) TT))
 ·have h := zl h7 h
  refine Ji ?_
  obtain ⟨o, hq, rfl⟩ := Option.map_eq_some_iff.1 h
  replace h := hq; clear hq
  refine AI nofun ?_
  refine LWp.sim ?_ (zdj h)
  exact xe (M := []) rfl TT TT
theorem zgz {a0 : List (List UInt8)} {v1 : Int} {v2 : List ((List UInt8) × Int)} {m : Option Nat} {o : Bool} (h : xk m a0 v1 v2 = some o) :
 LWp Tryd.prog J8 0 (.loop zg4) (xq 0 (Qy Tryd.prog J8 0 zb7 (zjc a0 o))) [(3, .map (0, 0)), (7, .isl 1 (a0.map zp) false), (8, i6 ((a0.map zp).length : Int)), (9, i6 v1)] [((0, 0), .amap (v2.map (em Jw Vm)))] 1 :=
 jt (m := m) (s := ((v1, v2) : (Int × (List ((List UInt8) × Int))))) (r := o) (fun (s : (Int × (List ((List UInt8) × Int)))) => yx m a0 s.1 s.2) (z1g a0) (z68 a0) (zay a0) (fun s o h => zcy h) h
noncomputable def j0 (m : Option Nat) (a0 : List (List UInt8)) : Option Bool :=
 xk m a0 0 ([] : List ((List UInt8) × Int))
theorem zhk {a0 : List (List UInt8)} {m : Option Nat} {o : Bool} (h : j0 m a0 = some o) : LWp Tryd.prog J8 0 zls (zjc a0 o) (qx 0 [.isl 1 (a0.map zp) false]) [] 0 := by
 unfold j0 at h
 refine za (zc ?_)
 refine za (zc ?_)
 refine za ?_
 refine za (zc ?_)
 refine j6 ?_
 refine LWp.sim ?_ (zgz h)
 exact xe (M := [((0, 0), (0, 0))]) rfl (AI (Vw.map _ _ rfl) (S2 rfl rfl (AI (VS rfl) TT))) (AI (AI rfl (BVw.ofMap Jw Vm Kt ([] : List ((List UInt8) × Int)))) TT)
theorem zr7 {a0 : List (List UInt8)} {m : Option Nat} {o : Bool} (h : j0 m a0 = some o) : PFn Tryd.prog 63 [.isl 1 (a0.map zp) false] (.bool o) := PFn.ofFnW (L := zq7) znz zmu (NB rfl) rfl (zhk h)
def ji (m : Option Nat) (a0 : List UInt8) : Option Bool := if a0.length ≤ 9223372036854775807 then some (Go.Lib.validD a0) else none
theorem zmx : Zk Tryd.prog 64 := ⟨_, Tryd.func64, rfl, rfl⟩
theorem zmb {m : Option Nat} {a0 : List UInt8} {o : Bool} (h : ji m a0 = some o) : PFn Tryd.prog 64 [.str a0] (.bool o) := by
 unfold ji at h
 split at h
 ·rename_i hc
  cases h
  exact z4y Tryd.l64 rfl rfl zmx (by rw [zp9]; exact .head _) (by rw [zp9]; exact .tail _ (.head _)) hc
 ·cases h
def z9o : LCode := (.seq (.region [Qb 2])
 (.seq (.region [Qm 3 0,
  Qc 4 64 3,
  Qo 5 (.un .not (.t 4)),
  Qm 2 5])
 .ret))
def z6k : Lay := ⟨6, [], false⟩
def z3z : List LRes := [.t 2]
def zec : LFn := ⟨1, z6k, z9o, z3z⟩
theorem zfv : wz Tryd.prog [] 66 = some zec := by kernel_rfl
theorem zdx : Zk Tryd.prog 66 := ⟨_, Tryd.func66, rfl, rfl⟩
noncomputable def yl (m : Option Nat) (a0 : List UInt8) : Option Bool :=
 (ji m a0).bind fun v1 =>
 some (!v1)
def zmo (a0 : List UInt8) (o : Bool) : Exit → Env → AHeap → Nat → Prop := Jj z3z (Xn 3 4 (.bool o) [])
theorem z70 {a0 : List UInt8} {m : Option Nat} {o : Bool} (h : yl m a0 = some o) : LWp Tryd.prog z6k 3 z9o (zmo a0 o) (qx 0 [.str a0]) [] 3 := by
 unfold yl at h
 refine za (zc ?_)
 refine za (zc ?_)
 obtain ⟨v1, h1, h⟩ := bind_some h
 refine PFn.call (zmb h1) (AI (VS rfl) TT) ?_
 refine kl ?_
 cases h
 exact AI TT (J6 (n' := 3) [] [] rfl rfl (VS rfl) TT)
theorem zk1 {a0 : List UInt8} {m : Option Nat} {o : Bool} (h : yl m a0 = some o) : ACalls Tryd.prog 66 [.str a0] [] 3 (wg 4 (.bool o) []) := Yz (L := zec) zfv zdx (NB rfl) (z70 h)
def z3n : LCode := (.seq (.region [Qo 9 (.bin .lss (.t 8) (.t 7))])
 (.seq (.cond (.t 9)
  .skip
  (.exit 0))
 (.seq (.block 1
  (.seq (.region [Qm 10 8,
   Qm 5 10])
  (.seq (.region [Qm 11 1,
   Qm 12 0,
   Qm 13 5,
   Qo 14 (.iaddr 1 (.t 12) (.t 13)),
   Ql 15 1 14,
   Qo 16 (.callv (.t 11) [(.t 15)])])
  (.cond (.t 16)
   (.seq (.region [Qm 17 5,
    Qm 4 17])
   .ret)
   .skip))))
 (.region [Qo 18 (.bin .add (.t 8) (.c (i6 1))),
  Qm 8 18]))))
def K8 : LCode := (.seq (.region [Qo 4 (.mv (.c (i6 (-1))))])
 .ret)
def zaw : LCode := (.seq (.region [Qi 4 0])
 (.seq (.seq (.region [Qm 6 0,
  Qo 7 (.len false (.t 6)),
  Qi 8 0])
 (.block 0
  (.loop
   z3n)))
 K8))
def Za : Lay := ⟨19, [], false⟩
def z6h : List LRes := [.t 4]
def zh6 : LFn := ⟨2, Za, zaw, z6h⟩
theorem zfj : wz Tryd.prog [] 77 = some zh6 := by kernel_rfl
theorem zdm : Zk Tryd.prog 77 := ⟨_, Tryd.func77, rfl, rfl⟩
def z32 {σ : Type} (Hc : σ → AHeap) (fi0 : Fn) (ff0 fc0 : List AVal) (a0 : List (List UInt8)) (z0 : σ) (o : Int × σ) : Exit → Env → AHeap → Nat → Prop := Jj z6h (Xn 3 4 (i6 o.1) ([] ++ up 3 (Hc o.2)))
def V6 {σ : Type} (Hc : σ → AHeap) (fi0 : Fn) (ff0 fc0 : List AVal) (a0 : List (List UInt8)) (s : (Int × σ)) : Env := [(0, .isl 1 (a0.map zp) false), (1, .fn fi0 ff0 fc0), (7, i6 ((a0.map zp).length : Int)), (8, i6 s.1)]
def Kz {σ : Type} (Hc : σ → AHeap) (fi0 : Fn) (ff0 fc0 : List AVal) (a0 : List (List UInt8)) (s : (Int × σ)) : AHeap := ([] ++ up 3 (Hc s.2))
def z1x {σ : Type} (Hc : σ → AHeap) (fi0 : Fn) (ff0 fc0 : List AVal) (a0 : List (List UInt8)) (z0 : σ) (o : (Int × σ)) : Exit → Env → AHeap → Nat → Prop := (xq 0 (Qy Tryd.prog Za 3 K8 (z32 Hc fi0 ff0 fc0 a0 z0 o)))
noncomputable def jo {σ : Type} (g0 : σ → (List UInt8) → Option (Bool × σ)) (m : Option Nat) (v3 : σ) : Option (Int × σ) :=
 some ((-1), v3)
noncomputable def yi {σ : Type} (g0 : σ → (List UInt8) → Option (Bool × σ)) (m : Option Nat) (a0 : List (List UInt8)) (v2 : Int) (v3 : σ) : Option ((Int × σ) ⊕ (Int × σ)) :=
 if (decide (v2 < ((a0.map zp).length : Int))) = true then
  if (0 : Int) ≤ v2 ∧ v2 < ((a0.map zp).length : Int) then
  (g0 v3 (a0.getD v2.toNat default)).bind fun v5 =>
  if v5.1 = true then
   Option.map Sum.inr (
    some (v2, v5.2))
  else
   some (.inl ((W (v2 + 1)), v5.2))
  else none
 else
  Option.map Sum.inr (
   jo g0 m v3)
noncomputable def x5 {σ : Type} (g0 : σ → (List UInt8) → Option (Bool × σ)) (m : Option Nat) (a0 : List (List UInt8)) (v2 : Int) (v3 : σ) : Option (Int × σ) := Zg m (fun (s : (Int × σ)) => yi g0 m a0 s.1 s.2) (v2, v3)
theorem z90 {σ : Type} {Hc : σ → AHeap} {fi0 : Fn} {ff0 fc0 : List AVal} {g0 : σ → (List UInt8) → Option (Bool × σ)} (hg0 : Clo Tryd.prog fi0 ff0 fc0 Hc (fun (x : (List UInt8)) => [.str x]) (fun (b : Bool) => .bool b) g0) {a0 : List (List UInt8)} {z0 : σ} {v3 : σ} {m : Option Nat} {o : (Int × σ)} (h : jo g0 m v3 = some o) :
 LWp Tryd.prog Za 3 K8 (z32 Hc fi0 ff0 fc0 a0 z0 o) [] ([] ++ up 3 (Hc v3)) 4 := by
 unfold jo at h
 refine za (zc ?_)
 refine kl ?_
 cases h
 exact AI TT (zso (n' := 4) (q := 3) (lit' := []) (hg0.tl _) [] [] rfl rfl (VS rfl) TT)
theorem z50 {σ : Type} {Hc : σ → AHeap} {fi0 : Fn} {ff0 fc0 : List AVal} {g0 : σ → (List UInt8) → Option (Bool × σ)} (hg0 : Clo Tryd.prog fi0 ff0 fc0 Hc (fun (x : (List UInt8)) => [.str x]) (fun (b : Bool) => .bool b) g0) {z0 : σ} {a0 : List (List UInt8)} {v2 : Int} {v3 : σ} {m : Option Nat} {o : (Int × σ) ⊕ (Int × σ)} (h : yi g0 m a0 v2 v3 = some o) :
 LWp Tryd.prog Za 3 z3n (kx 3 4 (V6 Hc fi0 ff0 fc0 a0) (Kz Hc fi0 ff0 fc0 a0) (z1x Hc fi0 ff0 fc0 a0 z0) o) [(0, .isl 1 (a0.map zp) false), (1, .fn fi0 ff0 fc0), (7, i6 ((a0.map zp).length : Int)), (8, i6 v2)] ([] ++ up 3 (Hc v3)) 4 := by
 unfold yi at h
 refine za (zc ?_)
 refine za ?_
 refine qi (v := (decide (v2 < ((a0.map zp).length : Int)))) rfl TT (fun h9 => ?_) (fun h9 => ?_)
 ·have h := zh h9 h
  refine jd ?_
  refine za ?_
  refine j6 ?_
  refine za (zc ?_)
  refine za (zc ?_)
  obtain ⟨h10, h⟩ := z8 h
  refine AI h10 ?_
  refine EX (zp (a0.getD v2.toNat default)) (AI (Zl zp _ _ (u6 zp h10)) (AI (AI (Y9 h10) (NB rfl)) ?_))
  obtain ⟨v5, h11, h⟩ := bind_some h
  refine Clo.use (q := 3) (lit := []) hg0 h11 rfl rfl (AI (VS rfl) TT) ?_
  refine LWp.sim (e := [(0, .isl 1 (a0.map zp) false), (1, .fn fi0 ff0 fc0), (5, i6 v2), (7, i6 ((a0.map zp).length : Int)), (8, i6 v2), (16, .bool v5.1)]) (L := ([] ++ up 3 (Hc v5.2))) (n := 4) ?_ ?_
  ·exact zrs (M := []) (lit' := []) (hg0.tl _) rfl (AI (VS rfl) (AI (Vw.clo hg0.hf hg0.hc (by decide) (z4i (J1 (n := 4) (q := 4) (lit' := []) rfl))) (S4 rfl rfl rfl rfl TT))) TT
  refine qi (v := v5.1) rfl TT (fun h12 => ?_) (fun h12 => ?_)
  ·have h := zh h12 h
   refine za (zc ?_)
   refine kl ?_
   obtain ⟨o, hq, rfl⟩ := Option.map_eq_some_iff.1 h
   replace h := hq; clear hq
   refine AI nofun ?_
   cases h
   exact AI TT (zso (n' := 4) (q := 3) (lit' := []) (hg0.tl _) [] [] rfl rfl (VS rfl) TT)
  ·have h := zl h12 h
   refine jd ?_
   refine zc ?_
   cases h
   exact AI rfl (zrs (M := []) (lit' := []) (hg0.tl _) rfl (AI (VS rfl) (AI (Vw.clo hg0.hf hg0.hc (by decide) (z4i (J1 (n := 4) (q := 3) (lit' := []) rfl))) (S2 rfl rfl TT))) TT)
 ·have h := zl h9 h
  refine Ji ?_
  obtain ⟨o, hq, rfl⟩ := Option.map_eq_some_iff.1 h
  replace h := hq; clear hq
  refine AI nofun ?_
  refine LWp.sim ?_ (z90 hg0 h)
  exact zrs (M := []) (lit' := []) (hg0.tl _) rfl TT TT
theorem z86 {σ : Type} {Hc : σ → AHeap} {fi0 : Fn} {ff0 fc0 : List AVal} {g0 : σ → (List UInt8) → Option (Bool × σ)} (hg0 : Clo Tryd.prog fi0 ff0 fc0 Hc (fun (x : (List UInt8)) => [.str x]) (fun (b : Bool) => .bool b) g0) {z0 : σ} {a0 : List (List UInt8)} {v2 : Int} {v3 : σ} {m : Option Nat} {o : (Int × σ)} (h : x5 g0 m a0 v2 v3 = some o) :
 LWp Tryd.prog Za 3 (.loop z3n) (xq 0 (Qy Tryd.prog Za 3 K8 (z32 Hc fi0 ff0 fc0 a0 z0 o))) [(0, .isl 1 (a0.map zp) false), (1, .fn fi0 ff0 fc0), (7, i6 ((a0.map zp).length : Int)), (8, i6 v2)] ([] ++ up 3 (Hc v3)) 4 :=
 jt (m := m) (s := ((v2, v3) : (Int × σ))) (r := o) (fun (s : (Int × σ)) => yi g0 m a0 s.1 s.2) (V6 Hc fi0 ff0 fc0 a0) (Kz Hc fi0 ff0 fc0 a0) (z1x Hc fi0 ff0 fc0 a0 z0) (fun s o h => z50 hg0 h) h
noncomputable def xp {σ : Type} (g0 : σ → (List UInt8) → Option (Bool × σ)) (m : Option Nat) (a0 : List (List UInt8)) (z0 : σ) : Option (Int × σ) :=
 x5 g0 m a0 0 z0
theorem z89 {σ : Type} {Hc : σ → AHeap} {fi0 : Fn} {ff0 fc0 : List AVal} {g0 : σ → (List UInt8) → Option (Bool × σ)} (hg0 : Clo Tryd.prog fi0 ff0 fc0 Hc (fun (x : (List UInt8)) => [.str x]) (fun (b : Bool) => .bool b) g0) {a0 : List (List UInt8)} {z0 : σ} {m : Option Nat} {o : Int × σ} (h : xp g0 m a0 z0 = some o) : LWp Tryd.prog Za 3 zaw (z32 Hc fi0 ff0 fc0 a0 z0 o) (qx 0 [.isl 1 (a0.map zp) false, .fn fi0 ff0 fc0]) ([] ++ Hc z0) 3 := by
 unfold xp at h
 refine LWp.sim (e := [(0, .isl 1 (a0.map zp) false), (1, .fn fi0 ff0 fc0)]) (L := ([] ++ up 3 (Hc z0))) (n := 4) (zl6 (T := Hc z0) (e' := qx 0 [.isl 1 (a0.map zp) false, .fn fi0 ff0 fc0]) (e := [(0, .isl 1 (a0.map zp) false), (1, .fn fi0 ff0 fc0)]) (lit' := []) (lit := []) (hg0.tl z0) rfl rfl (AI (VS rfl) (AI (Vw.clo hg0.hf hg0.hc (by decide) (zl5 _)) TT)) TT) ?_
 refine za (zc ?_)
 refine za ?_
 refine za (zc ?_)
 refine j6 ?_
 refine LWp.sim ?_ (z86 hg0 h)
 exact zrs (M := []) (lit' := []) (hg0.tl _) rfl (AI (VS rfl) (AI (Vw.clo hg0.hf hg0.hc (by decide) (z4i (J1 (n := 4) (q := 3) (lit' := []) rfl))) (S2 rfl rfl TT))) TT
theorem zjq {σ : Type} {Hc : σ → AHeap} {fi0 : Fn} {ff0 fc0 : List AVal} {g0 : σ → (List UInt8) → Option (Bool × σ)} (hg0 : Clo Tryd.prog fi0 ff0 fc0 Hc (fun (x : (List UInt8)) => [.str x]) (fun (b : Bool) => .bool b) g0) {a0 : List (List UInt8)} {z0 : σ} {m : Option Nat} {o : Int × σ} (h : xp g0 m a0 z0 = some o) : ACalls Tryd.prog 77 [.isl 1 (a0.map zp) false, .fn fi0 ff0 fc0] ([] ++ Hc z0) 3 (wg 4 (i6 o.1) ([] ++ up 3 (Hc o.2))) := Yz (L := zh6) zfj zdm (NB rfl) (z89 hg0 h)
def zb0 : LCode := (.seq (.region [Qb 4])
 (.seq (.region [Qm 5 0,
  Qm 6 1,
  Qo 7 (.call 77 [(.t 5), (.t 6)]),
  Qo 8 (.bin .geq (.t 7) (.c (i6 0))),
  Qm 4 8])
 .ret))
def z4c : Lay := ⟨9, [], false⟩
def z5j : List LRes := [.t 4]
def zd3 : LFn := ⟨2, z4c, zb0, z5j⟩
theorem zey : wz Tryd.prog [] 65 = some zd3 := by kernel_rfl
theorem zg7 : Zk Tryd.prog 65 := ⟨_, Tryd.func65, rfl, rfl⟩
noncomputable def qd {σ : Type} (g0 : σ → (List UInt8) → Option (Bool × σ)) (m : Option Nat) (a0 : List (List UInt8)) (z0 : σ) : Option (Bool × σ) :=
 (xp g0 m a0 z0).bind fun v1 =>
 some ((decide (v1.1 ≥ 0)), v1.2)
def znp {σ : Type} (Hc : σ → AHeap) (fi0 : Fn) (ff0 fc0 : List AVal) (a0 : List (List UInt8)) (z0 : σ) (o : Bool × σ) : Exit → Env → AHeap → Nat → Prop := Jj z5j (Xn 3 4 (.bool o.1) ([] ++ up 3 (Hc o.2)))
theorem z91 {σ : Type} {Hc : σ → AHeap} {fi0 : Fn} {ff0 fc0 : List AVal} {g0 : σ → (List UInt8) → Option (Bool × σ)} (hg0 : Clo Tryd.prog fi0 ff0 fc0 Hc (fun (x : (List UInt8)) => [.str x]) (fun (b : Bool) => .bool b) g0) {a0 : List (List UInt8)} {z0 : σ} {m : Option Nat} {o : Bool × σ} (h : qd g0 m a0 z0 = some o) : LWp Tryd.prog z4c 3 zb0 (znp Hc fi0 ff0 fc0 a0 z0 o) (qx 0 [.isl 1 (a0.map zp) false, .fn fi0 ff0 fc0]) ([] ++ Hc z0) 3 := by
 unfold qd at h
 refine LWp.sim (e := [(0, .isl 1 (a0.map zp) false), (1, .fn fi0 ff0 fc0)]) (L := ([] ++ up 3 (Hc z0))) (n := 4) (zl6 (T := Hc z0) (e' := qx 0 [.isl 1 (a0.map zp) false, .fn fi0 ff0 fc0]) (e := [(0, .isl 1 (a0.map zp) false), (1, .fn fi0 ff0 fc0)]) (lit' := []) (lit := []) (hg0.tl z0) rfl rfl (AI (VS rfl) (AI (Vw.clo hg0.hf hg0.hc (by decide) (zl5 _)) TT)) TT) ?_
 refine za (zc ?_)
 refine za (zc ?_)
 obtain ⟨v1, h1, h⟩ := bind_some h
 refine zlq (m := 1) (q := 3) (lit0 := []) (lit := []) (L := []) (L' := []) (rest := []) (R' := i6 v1.1) (hg0.tl _) (hg0.tl _) [] (zjq hg0 h1) rfl rfl rfl rfl rfl rfl (AI (VS rfl) (AI (Vw.clo hg0.hf hg0.hc (by decide) (z7n _ _)) TT)) TT (jm _ rfl) TT rfl ?_
 refine kl ?_
 cases h
 exact AI TT (zso (n' := 6) (q := 4) (lit' := []) (hg0.tl _) [] [] rfl rfl (VS rfl) TT)
theorem zjx {σ : Type} {Hc : σ → AHeap} {fi0 : Fn} {ff0 fc0 : List AVal} {g0 : σ → (List UInt8) → Option (Bool × σ)} (hg0 : Clo Tryd.prog fi0 ff0 fc0 Hc (fun (x : (List UInt8)) => [.str x]) (fun (b : Bool) => .bool b) g0) {a0 : List (List UInt8)} {z0 : σ} {m : Option Nat} {o : Bool × σ} (h : qd g0 m a0 z0 = some o) : ACalls Tryd.prog 65 [.isl 1 (a0.map zp) false, .fn fi0 ff0 fc0] ([] ++ Hc z0) 3 (wg 4 (.bool o.1) ([] ++ up 3 (Hc o.2))) := Yz (L := zd3) zey zg7 (NB rfl) (z91 hg0 h)
def zl9 : LCode := (.seq (.block 1
 (.seq (.region [Qf 12 1 1,
  Ql 13 1 12,
  Qm 14 3,
  Qo 15 (.bin .lss (.t 13) (.t 14)),
  Qm 16 15,
  Qe 17 1 1 (16, false),
  Qk 18 1 17 (16, false),
  Qn 19 4 (16, false),
  Qg 20 (.bin .gtr (.t 18) (.t 19)) (16, false),
  Qo 21 (.pick (.t 16) (.c (.bool true)) (.t 20)),
  Qm 11 21])
 (.cond (.t 11)
  (.seq (.region [Qb 2])
  .ret)
  (.seq (.region [Qf 23 2 1,
   Ql 24 1 23,
   Qo 25 (.bin .neq (.t 24) (.c (.str []))),
   Qm 26 25,
   Qe 27 0 1 (26, true),
   Qk 28 1 27 (26, true),
   Qg 29 (.bin .neq (.t 28) (.c (i6 3))) (26, true),
   Qp 30 26 29,
   Qm 22 30])
  (.cond (.t 22)
   (.seq (.region [Qb 2])
   .ret)
   (.seq (.region [Qf 32 4 1,
    Ql 33 1 32,
    Qo 34 (.len false (.t 33)),
    Qo 35 (.bin .gtr (.t 34) (.c (i6 0))),
    Qm 36 35,
    Qe 37 0 1 (36, true),
    Qk 38 1 37 (36, true),
    Qg 39 (.bin .neq (.t 38) (.c (i6 4))) (36, true),
    Qp 40 36 39,
    Qm 41 40,
    Qe 42 0 1 (41, true),
    Qk 43 1 42 (41, true),
    Qg 44 (.bin .neq (.t 43) (.c (i6 5))) (41, true),
    Qp 45 41 44,
    Qm 31 45])
   (.cond (.t 31)
    (.seq (.region [Qb 2])
    .ret)
    (.seq (.region [Qf 47 0 1,
     Ql 48 1 47,
     Qo 49 (.bin .eql (.t 48) (.c (i6 5))),
     Qm 50 49,
     Qe 51 3 1 (50, true),
     Qk 52 1 51 (50, true),
     Qg 53 (.len false (.t 52)) (50, true),
     Qe 54 4 1 (50, true),
     Qk 55 1 54 (50, true),
     Qg 56 (.len false (.t 55)) (50, true),
     Qg 57 (.bin .neq (.t 53) (.t 56)) (50, true),
     Qn 58 57 (50, true),
     Qe 59 3 1 (58, false),
     Qk 60 1 59 (58, false),
     Qg 61 (.call 63 [(.t 60)]) (58, false),
     Qg 62 (.pick (.t 58) (.c (.bool true)) (.t 61)) (50, true),
     Qp 63 50 62,
     Qm 46 63])
    (.cond (.t 46)
     (.seq (.region [Qb 2])
     .ret)
     (.seq (.region [Qf 65 0 1,
      Ql 66 1 65,
      Qo 67 (.bin .neq (.t 66) (.c (i6 5))),
      Qm 68 67,
      Qe 69 3 1 (68, true),
      Qk 70 1 69 (68, true),
      Qg 71 (.len false (.t 70)) (68, true),
      Qg 72 (.bin .gtr (.t 71) (.c (i6 0))) (68, true),
      Qp 73 68 72,
      Qm 64 73])
     (.cond (.t 64)
      (.seq (.region [Qb 2])
      .ret)
      .skip)))))))))))
 (.seq (.region [Qf 74 2 1,
  Ql 75 1 74,
  Qc 76 64 75,
  Qm 77 76,
  Qe 78 3 1 (77, true),
  Qk 79 1 78 (77, true),
  Qg 80 (.call 65 [(.t 79), (.c (.fn (.func 66) [] []))]) (77, true),
  Qg 81 (.un .not (.t 80)) (77, true),
  Qp 82 77 81,
  Qm 2 82])
 .ret))
def zln : LCode := (.seq (.region [Qo 1 (.box (.t 0)),
 Qb 2])
 (.seq (.region [Qi 3 0,
  Qi 4 0])
 (.seq (.seq (.region [Qf 5 0 1,
  Ql 6 1 5])
 (.block 0
  (.seq (.region [Qo 8 (.bin .eql (.t 6) (.c (i6 1))),
   Qm 7 8])
  (.cond (.t 7)
   (.region [Qi 4 1])
   (.seq (.region [Qo 10 (.bin .eql (.t 6) (.c (i6 2))),
    Qm 9 10])
   (.cond (.t 9)
    (.region [Qo 3 (.mv (.c (i6 (-9007199254740991)))),
     Qi 4 9007199254740991])
    .skip))))))
 zl9)))
def z7p : Lay := ⟨83, [], false⟩
def zeo : List LRes := [.t 2]
def zqv : LFn := ⟨1, z7p, zln, zeo⟩
theorem zns : wz Tryd.prog [] 44 = some zqv := by kernel_rfl
theorem zo0 : Zk Tryd.prog 44 := ⟨_, Tryd.func44, rfl, rfl⟩
noncomputable def qo (m : Option Nat) (a0 : GJ) (v1 : Int) (v2 : Int) : Option Bool :=
 if ((decide (a0.fN < v1)) || (decide (a0.fN > v2))) = true then
  some false
 else
  if ((!(a0.fT == ([] : List UInt8))) && (a0.fK != 3)) = true then
   some false
  else
   if (((decide (((a0.fE.map zz).length : Int) > 0)) && (a0.fK != 4)) && (a0.fK != 5)) = true then
    some false
   else
    (if (((a0.fK == 5) == true) && ((((a0.fA.map zp).length : Int) != ((a0.fE.map zz).length : Int)) == false)) = true then j0 m a0.fA else some default).bind fun v3 =>
    if ((a0.fK == 5) && ((((a0.fA.map zp).length : Int) != ((a0.fE.map zz).length : Int)) || v3)) = true then
     some false
    else
     if ((a0.fK != 5) && (decide (((a0.fA.map zp).length : Int) > 0))) = true then
      some false
     else
      (ji m a0.fT).bind fun v4 =>
      (if (v4 == true) = true then qd (fun (s : Unit) (x : (List UInt8)) => (yl m x).map fun o => (o, ())) m a0.fA () else some default).bind fun v5 =>
      some (v4 && (!v5.1))
def zqs (a0 : GJ) (o : Bool) : Exit → Env → AHeap → Nat → Prop := Jj zeo (vl (.bool o))
theorem Kx {a0 : GJ} {v1 : Int} {v2 : Int} {m : Option Nat} {o : Bool} (h : qo m a0 v1 v2 = some o) :
 LWp Tryd.prog z7p 0 zl9 (zqs a0 o) [(1, .ptr (0, 0) 0 0), (3, i6 v1), (4, i6 v2)] [((0, 0), .one (z6 a0))] 1 := by
 unfold qo at h
 refine za ?_
 refine j6 ?_
 refine za (zc ?_)
 refine AI (fun hp => hp) ?_
 refine AI (fun hp => (AI hp hp)) ?_
 refine AI (fun hc => (bqf hc)) ?_
 refine LWp.sim (e := [(1, .ptr (0, 0) 0 0), (11, .bool ((decide (a0.fN < v1)) || (decide (a0.fN > v2))))]) (L := [((0, 0), .one (z6 a0))]) (n := 1) ?_ ?_
 ·exact xe (M := [((0, 0), (0, 0))]) rfl (SP rfl (AI (VS rfl) TT)) (AI (AI rfl (OL rfl)) TT)
 refine qi (v := ((decide (a0.fN < v1)) || (decide (a0.fN > v2)))) rfl TT (fun h3 => ?_) (fun h3 => ?_)
 ·have h := zh h3 h
  refine za (zc ?_)
  refine kl ?_
  cases h
  exact AI TT (AI rfl (VS rfl))
 ·have h := zl h3 h
  refine za (zc ?_)
  refine AI (fun hp => hp) ?_
  refine AI (fun hp => hp) ?_
  refine AI (fun hc => (bqt hc)) ?_
  refine LWp.sim (e := [(1, .ptr (0, 0) 0 0), (22, .bool ((!(a0.fT == ([] : List UInt8))) && (a0.fK != 3)))]) (L := [((0, 0), .one (z6 a0))]) (n := 1) ?_ ?_
  ·exact xe (M := [((0, 0), (0, 0))]) rfl (SP rfl (AI (VS rfl) TT)) (AI (AI rfl (OL rfl)) TT)
  refine qi (v := ((!(a0.fT == ([] : List UInt8))) && (a0.fK != 3))) rfl TT (fun h4 => ?_) (fun h4 => ?_)
  ·have h := zh h4 h
   refine za (zc ?_)
   refine kl ?_
   cases h
   exact AI TT (AI rfl (VS rfl))
  ·have h := zl h4 h
   refine za (zc ?_)
   refine AI (fun hp => hp) ?_
   refine AI (fun hp => hp) ?_
   refine AI (fun hc => (bqt hc)) ?_
   refine AI (fun hp => hp) ?_
   refine AI (fun hp => hp) ?_
   refine AI (fun hc => (bqt hc)) ?_
   refine LWp.sim (e := [(1, .ptr (0, 0) 0 0), (31, .bool (((decide (((a0.fE.map zz).length : Int) > 0)) && (a0.fK != 4)) && (a0.fK != 5)))]) (L := [((0, 0), .one (z6 a0))]) (n := 1) ?_ ?_
   ·exact xe (M := [((0, 0), (0, 0))]) rfl (SP rfl (AI (VS rfl) TT)) (AI (AI rfl (OL rfl)) TT)
   refine qi (v := (((decide (((a0.fE.map zz).length : Int) > 0)) && (a0.fK != 4)) && (a0.fK != 5))) rfl TT (fun h5 => ?_) (fun h5 => ?_)
   ·have h := zh h5 h
    refine za (zc ?_)
    refine kl ?_
    cases h
    exact AI TT (AI rfl (VS rfl))
   ·have h := zl h5 h
    refine za (zc ?_)
    refine AI (fun hp => hp) ?_
    refine AI (fun hp => hp) ?_
    refine AI (fun hp => hp) ?_
    refine AI (fun hp => hp) ?_
    refine AI (fun hp => (AI hp hp)) ?_
    refine AI (fun hp => hp) ?_
    refine AI (fun hp => hp) ?_
    obtain ⟨v3, h6, h⟩ := bind_some h
    refine Or.inl (EX (.bool v3) (AI (fun hp => AI hp (PFn.call (zr7 (zh hp h6)) (AI (VS rfl) TT) (AI rfl (AI rfl rfl)))) ?_))
    refine AI (fun hp => (AI hp (fun hc => (z81 hp (bqf hc))))) ?_
    refine AI (fun hc => (bqt hc)) ?_
    refine LWp.sim (e := [(1, .ptr (0, 0) 0 0), (46, .bool ((a0.fK == 5) && ((((a0.fA.map zp).length : Int) != ((a0.fE.map zz).length : Int)) || v3)))]) (L := [((0, 0), .one (z6 a0))]) (n := 1) ?_ ?_
    ·exact xe (M := [((0, 0), (0, 0))]) rfl (SP rfl (AI (VS rfl) TT)) (AI (AI rfl (OL rfl)) TT)
    refine qi (v := ((a0.fK == 5) && ((((a0.fA.map zp).length : Int) != ((a0.fE.map zz).length : Int)) || v3))) rfl TT (fun h7 => ?_) (fun h7 => ?_)
    ·have h := zh h7 h
     refine za (zc ?_)
     refine kl ?_
     cases h
     exact AI TT (AI rfl (VS rfl))
    ·have h := zl h7 h
     refine za (zc ?_)
     refine AI (fun hp => hp) ?_
     refine AI (fun hp => hp) ?_
     refine AI (fun hp => hp) ?_
     refine AI (fun hc => (bqt hc)) ?_
     refine LWp.sim (e := [(1, .ptr (0, 0) 0 0), (64, .bool ((a0.fK != 5) && (decide (((a0.fA.map zp).length : Int) > 0))))]) (L := [((0, 0), .one (z6 a0))]) (n := 1) ?_ ?_
     ·exact xe (M := [((0, 0), (0, 0))]) rfl (SP rfl (AI (VS rfl) TT)) (AI (AI rfl (OL rfl)) TT)
     refine qi (v := ((a0.fK != 5) && (decide (((a0.fA.map zp).length : Int) > 0)))) rfl TT (fun h8 => ?_) (fun h8 => ?_)
     ·have h := zh h8 h
      refine za (zc ?_)
      refine kl ?_
      cases h
      exact AI TT (AI rfl (VS rfl))
     ·have h := zl h8 h
      refine jd ?_
      refine za (zc ?_)
      obtain ⟨v4, h9, h⟩ := bind_some h
      refine PFn.call (zmb h9) (AI (VS rfl) TT) ?_
      refine AI (fun hp => hp) ?_
      obtain ⟨v5, h10, h⟩ := bind_some h
      refine Or.inl (EX (.bool v5.1) (AI (fun hp => AI hp (ACalls.same rfl (Zy (k := 3) (m := 1) (L' := []) (rest := [((0, 0), .one (z6 a0))]) (R' := .bool v5.1) [] (zjx (show Clo Tryd.prog (.func 66) [] [] (fun (s : Unit) => []) (fun (x : (List UInt8)) => [.str x]) (fun (b : Bool) => .bool b) (fun (s : Unit) (x : (List UInt8)) => (yl m x).map fun o => (o, ())) from Clo.mk' (fun s => Tl.lit rfl TT rfl) rfl rfl (fun _ => rfl) (fun s x o h => by obtain ⟨o1, h1, rfl⟩ := Option.map_eq_some_iff.1 h; exact EX _ (AI (zk1 h1) TT))) (zh hp h10)) rfl rfl rfl (S2 rfl rfl TT) TT (jm _ rfl) TT rfl (AI rfl (HeapTo.get (AI (AI rfl (OL rfl)) TT)))))) ?_))
      refine AI (fun hp => hp) ?_
      refine AI (fun hc => (bqt hc)) ?_
      refine LWp.sim (e := [(2, .bool (v4 && (!v5.1)))]) (L := []) (n := 0) ?_ ?_
      ·exact xe (M := []) rfl (AI (VS rfl) TT) TT
      refine kl ?_
      cases h
      exact AI TT (AI rfl (VS rfl))
noncomputable def j4 (m : Option Nat) (a0 : GJ) : Option Bool :=
 if (a0.fK == 1) = true then
  qo m a0 0 1
 else
  if (a0.fK == 2) = true then
   qo m a0 (-9007199254740991) 9007199254740991
  else
   qo m a0 0 0
theorem zi3 {a0 : GJ} {m : Option Nat} {o : Bool} (h : j4 m a0 = some o) : LWp Tryd.prog z7p 0 zln (zqs a0 o) (qx 0 [.agg (z6 a0)]) [] 0 := by
 unfold j4 at h
 refine za (zc ?_)
 refine za (zc ?_)
 refine za ?_
 refine za (zc ?_)
 refine j6 ?_
 refine za (zc ?_)
 refine LWp.sim (e := [(1, .ptr (0, 0) 0 0), (3, i6 0), (4, i6 0), (6, i6 a0.fK), (7, .bool (a0.fK == 1))]) (L := [((0, 0), .one (z6 a0))]) (n := 1) ?_ ?_
 ·exact xe (M := [((0, 0), (0, 0))]) rfl (SP rfl (S4 rfl rfl rfl rfl TT)) (AI (AI rfl (OL rfl)) TT)
 refine qi (v := (a0.fK == 1)) rfl TT (fun h1 => ?_) (fun h1 => ?_)
 ·have h := zh h1 h
  refine zc ?_
  refine LWp.sim ?_ (Kx h)
  exact xe (M := [((0, 0), (0, 0))]) rfl (SP rfl (S2 rfl rfl TT)) (AI (AI rfl (OL rfl)) TT)
 ·have h := zl h1 h
  refine za (zc ?_)
  refine qi (v := (a0.fK == 2)) rfl TT (fun h2 => ?_) (fun h2 => ?_)
  ·have h := zh h2 h
   refine zc ?_
   refine LWp.sim ?_ (Kx h)
   exact xe (M := [((0, 0), (0, 0))]) rfl (SP rfl (S2 rfl rfl TT)) (AI (AI rfl (OL rfl)) TT)
  ·have h := zl h2 h
   refine jd ?_
   refine LWp.sim ?_ (Kx h)
   exact xe (M := [((0, 0), (0, 0))]) rfl (SP rfl (S2 rfl rfl TT)) (AI (AI rfl (OL rfl)) TT)
theorem zrm {a0 : GJ} {m : Option Nat} {o : Bool} (h : j4 m a0 = some o) : PFn Tryd.prog 44 [.agg (z6 a0)] (.bool o) := PFn.ofFnW (L := zqv) zns zo0 (NB rfl) rfl (zi3 h)
def z3b : LCode := (.seq (.region [Qo 23 (.bin .lss (.t 22) (.t 21))])
 (.seq (.cond (.t 23)
  .skip
  (.exit 1))
 (.seq (.block 2
  (.seq (.region [Qo 24 (.iaddr 5 (.t 20) (.t 22)),
   Qt 25 5 24,
   Qo 4 (.alloc [(i6 0), (i6 0), (.str []), (.isl 1 [] true), (.isl 5 [] true)]),
   ⟨none, .store 5 (.t 4) (.t 25), none⟩])
  (.seq (.region [Qt 26 5 4,
   Qc 27 23 26,
   Qm 5 27])
  (.seq (.region [Qm 28 5,
   Qo 29 (.bin .neq (.t 28) (.c (i6 0)))])
  (.cond (.t 29)
   (.seq (.region [Qm 30 5,
    Qm 2 30])
   .ret)
   .skip)))))
 (.region [Qo 31 (.bin .add (.t 22) (.c (i6 1))),
  Qm 22 31]))))
def Vy : LCode := (.seq (.region [Qi 2 0])
 .ret)
def zad : LCode := (.seq (.region [Qo 1 (.box (.t 0)),
 Qi 2 0])
 (.seq (.block 0
  (.seq (.region [Qf 7 0 1,
   Ql 8 1 7,
   Qo 9 (.bin .lss (.t 8) (.c (i6 0))),
   Qm 10 9,
   Qe 11 0 1 (10, false),
   Qk 12 1 11 (10, false),
   Qg 13 (.bin .geq (.t 12) (.c (i6 6))) (10, false),
   Qo 14 (.pick (.t 10) (.c (.bool true)) (.t 13)),
   Qm 6 14])
  (.cond (.t 6)
   (.seq (.region [Qi 2 7])
   .ret)
   (.seq (.region [Qt 16 5 1,
    Qc 17 44 16,
    Qo 18 (.un .not (.t 17)),
    Qm 15 18])
   (.cond (.t 15)
    (.seq (.region [Qi 2 3])
    .ret)
    .skip)))))
 (.seq (.seq (.region [Qf 19 4 1,
  Ql 20 1 19,
  Qo 21 (.len false (.t 20)),
  Qi 22 0])
 (.block 1
  (.loop
   z3b)))
 Vy)))
def Zc : Lay := ⟨32, [], false⟩
def z55 : List LRes := [.t 2]
def zen : LFn := ⟨1, Zc, zad, z55⟩
theorem zee : wz Tryd.prog [] 23 = some zen := by kernel_rfl
theorem zf0 : Zk Tryd.prog 23 := ⟨_, Tryd.func23, rfl, rfl⟩
def z2q (a0 : GJ) (o : Int) : Exit → Env → AHeap → Nat → Prop := Jj z55 (Xn 3 3 (i6 o) [])
def Vk (a0 : GJ) (s : Int) : Env := [(20, .isl 5 (a0.fE.map zz) false), (21, i6 ((a0.fE.map zz).length : Int)), (22, i6 s)]
def Kh (a0 : GJ) (s : Int) : AHeap := []
def z11 (a0 : GJ) (o : Int) : Exit → Env → AHeap → Nat → Prop := (xq 1 (Qy Tryd.prog Zc 3 Vy (z2q a0 o)))
noncomputable def jz (rec1 : GJ → Option Int) (m : Option Nat) : Option Int :=
 some 0
noncomputable def yy (rec1 : GJ → Option Int) (m : Option Nat) (a0 : GJ) (v4 : Int) : Option (Int ⊕ Int) :=
 if (decide (v4 < ((a0.fE.map zz).length : Int))) = true then
  if (0 : Int) ≤ v4 ∧ v4 < ((a0.fE.map zz).length : Int) then
  ((um (a0.fE.getD v4.toNat default))).bind fun v7 =>
  (rec1 v7).bind fun v8 =>
  if (v8 != 0) = true then
   Option.map Sum.inr (
    some v8)
  else
   some (.inl (W (v4 + 1)))
  else none
 else
  Option.map Sum.inr (
   jz rec1 m)
noncomputable def qm (rec1 : GJ → Option Int) (m : Option Nat) (a0 : GJ) (v4 : Int) : Option Int := Zg m (fun (s : Int) => yy rec1 m a0 s) v4
abbrev Hr1 (rec1 : GJ → Option Int) : Prop := ∀ {a0 : GJ} {o : Int}, rec1 a0 = some o → ACalls Tryd.prog 23 [.agg (z6 a0)] [] 3 (wg 3 (i6 o) [])
theorem z7m {rec1 : GJ → Option Int} (hrec1 : Hr1 rec1) {a0 : GJ} {m : Option Nat} {o : Int} (h : jz rec1 m = some o) :
 LWp Tryd.prog Zc 3 Vy (z2q a0 o) [] [] 3 := by
 unfold jz at h
 refine za (zc ?_)
 refine kl ?_
 cases h
 exact AI TT (J6 (n' := 3) [] [] rfl rfl (VS rfl) TT)
theorem z6o {rec1 : GJ → Option Int} (hrec1 : Hr1 rec1) {a0 : GJ} {v4 : Int} {m : Option Nat} {o : Int ⊕ Int} (h : yy rec1 m a0 v4 = some o) :
 LWp Tryd.prog Zc 3 z3b (kx 3 3 (Vk a0) (Kh a0) (z11 a0) o) [(20, .isl 5 (a0.fE.map zz) false), (21, i6 ((a0.fE.map zz).length : Int)), (22, i6 v4)] [] 3 := by
 unfold yy at h
 refine za (zc ?_)
 refine za ?_
 refine qi (v := (decide (v4 < ((a0.fE.map zz).length : Int)))) rfl TT (fun h14 => ?_) (fun h14 => ?_)
 ·have h := zh h14 h
  refine jd ?_
  refine za ?_
  refine j6 ?_
  refine za (zc ?_)
  obtain ⟨h15, h⟩ := z8 h
  refine AI h15 ?_
  obtain ⟨v7, h16, h⟩ := bind_some h
  refine EX (z6 v7) (AI (vi (u6 zz h15) h16) (AI (AI (Y9 h15) (NB rfl)) ?_))
  refine za (zc ?_)
  obtain ⟨v8, h17, h⟩ := bind_some h
  refine Zy (k := 3) (m := 0) (L' := []) (rest := [((3, 0), .one (z6 v7))]) (R' := i6 v8) [] (hrec1 h17) rfl rfl rfl (AI (VS rfl) TT) TT (jm _ rfl) TT rfl ?_
  refine LWp.sim (e := [(5, i6 v8), (20, .isl 5 (a0.fE.map zz) false), (21, i6 ((a0.fE.map zz).length : Int)), (22, i6 v4)]) (L := []) (n := 3) ?_ ?_
  ·exact xe (M := []) rfl (S4 rfl rfl rfl rfl TT) TT
  refine za (zc ?_)
  refine qi (v := (v8 != 0)) rfl TT (fun h18 => ?_) (fun h18 => ?_)
  ·have h := zh h18 h
   refine za (zc ?_)
   refine kl ?_
   obtain ⟨o, hq, rfl⟩ := Option.map_eq_some_iff.1 h
   replace h := hq; clear hq
   refine AI nofun ?_
   cases h
   exact AI TT (J6 (n' := 3) [] [] rfl rfl (VS rfl) TT)
  ·have h := zl h18 h
   refine jd ?_
   refine zc ?_
   cases h
   exact AI rfl (xe (M := []) rfl (S2 rfl rfl (AI (VS rfl) TT)) TT)
 ·have h := zl h14 h
  refine Ji ?_
  obtain ⟨o, hq, rfl⟩ := Option.map_eq_some_iff.1 h
  replace h := hq; clear hq
  refine AI nofun ?_
  refine LWp.sim ?_ (z7m hrec1 h)
  exact xe (M := []) rfl TT TT
theorem z8c {rec1 : GJ → Option Int} (hrec1 : Hr1 rec1) {a0 : GJ} {v4 : Int} {m : Option Nat} {o : Int} (h : qm rec1 m a0 v4 = some o) :
 LWp Tryd.prog Zc 3 (.loop z3b) (xq 1 (Qy Tryd.prog Zc 3 Vy (z2q a0 o))) [(20, .isl 5 (a0.fE.map zz) false), (21, i6 ((a0.fE.map zz).length : Int)), (22, i6 v4)] [] 3 :=
 jt (m := m) (s := (v4 : Int)) (r := o) (fun (s : Int) => yy rec1 m a0 s) (Vk a0) (Kh a0) (z11 a0) (fun s o h => z6o hrec1 h) h
noncomputable def q6 (rec1 : GJ → Option Int) (m : Option Nat) (a0 : GJ) : Option Int :=
 if ((decide (a0.fK < 0)) || (decide (a0.fK ≥ 6))) = true then
  some 7
 else
  (j4 m a0).bind fun v1 =>
  if (!v1) = true then
   some 3
  else
   qm rec1 m a0 0
theorem z75 {rec1 : GJ → Option Int} (hrec1 : Hr1 rec1) {a0 : GJ} {m : Option Nat} {o : Int} (h : q6 rec1 m a0 = some o) : LWp Tryd.prog Zc 3 zad (z2q a0 o) (qx 0 [.agg (z6 a0)]) [] 3 := by
 unfold q6 at h
 refine za (zc ?_)
 refine za ?_
 refine j6 ?_
 refine za (zc ?_)
 refine AI (fun hp => hp) ?_
 refine AI (fun hp => hp) ?_
 refine AI (fun hc => (bqf hc)) ?_
 refine LWp.sim (e := [(1, .ptr (3, 0) 0 0), (6, .bool ((decide (a0.fK < 0)) || (decide (a0.fK ≥ 6))))]) (L := [((3, 0), .one (z6 a0))]) (n := 4) ?_ ?_
 ·exact xe (M := [((3, 0), (3, 0))]) rfl (SP rfl (AI (VS rfl) TT)) (AI (AI rfl (OL rfl)) TT)
 refine qi (v := ((decide (a0.fK < 0)) || (decide (a0.fK ≥ 6)))) rfl TT (fun h1 => ?_) (fun h1 => ?_)
 ·have h := zh h1 h
  refine za (zc ?_)
  refine kl ?_
  cases h
  exact AI TT (J6 (n' := 4) [] [] rfl rfl (VS rfl) TT)
 ·have h := zl h1 h
  refine za (zc ?_)
  obtain ⟨v1, h2, h⟩ := bind_some h
  refine PFn.call (zrm h2) (AI (VS rfl) TT) ?_
  refine qi (v := (!v1)) rfl TT (fun h3 => ?_) (fun h3 => ?_)
  ·have h := zh h3 h
   refine za (zc ?_)
   refine kl ?_
   cases h
   exact AI TT (J6 (n' := 4) [] [] rfl rfl (VS rfl) TT)
  ·have h := zl h3 h
   refine jd ?_
   refine za ?_
   refine za (zc ?_)
   refine LWp.sim (e := [(20, .isl 5 (a0.fE.map zz) false), (21, i6 ((a0.fE.map zz).length : Int)), (22, i6 0)]) (L := []) (n := 3) ?_ ?_
   ·exact xe (M := []) rfl (S2 rfl rfl (AI (VS rfl) TT)) TT
   refine j6 ?_
   refine LWp.sim ?_ (z8c hrec1 h)
   exact xe (M := []) rfl (S2 rfl rfl (AI (VS rfl) TT)) TT
theorem za3 {rec1 : GJ → Option Int} (hrec1 : Hr1 rec1) {a0 : GJ} {m : Option Nat} {o : Int} (h : q6 rec1 m a0 = some o) : ACalls Tryd.prog 23 [.agg (z6 a0)] [] 3 (wg 3 (i6 o) []) := Yz (L := zen) zee zf0 (NB rfl) (z75 hrec1 h)
noncomputable def qv (m : Option Nat) : Nat → GJ → Option Int
 | 0 => fun _ => none
 | k + 1 => q6 (qv m k) m
noncomputable def wa (m : Option Nat) (a0 : GJ) : Option Int := zd1 m (fun k => qv m k a0)
theorem z69 {m : Option Nat} : ∀ (k : Nat) {a0 : GJ} {o : Int}, qv m k a0 = some o → ACalls Tryd.prog 23 [.agg (z6 a0)] [] 3 (wg 3 (i6 o) [])
 | 0, _, _, h => nomatch h
 | k + 1, _, _, h => za3 (fun h => z69 k h) h
theorem zg2 {a0 : GJ} {m : Option Nat} {o : Int} (h : wa m a0 = some o) : ACalls Tryd.prog 23 [.agg (z6 a0)] [] 3 (wg 3 (i6 o) []) := (Z3 h).elim fun k h => z69 k h
noncomputable def kr (m : Option Nat) (a0 : GJ) : Option Int := q6 (wa m) m a0
theorem zq4 {a0 : GJ} {m : Option Nat} {o : Int} (h : kr m a0 = some o) : PFn Tryd.prog 23 [.agg (z6 a0)] (i6 o) :=
 ⟨rfl, _, Zy (k := 3) (m := 0) (L' := []) (rest := []) (R' := i6 o) [] (za3 zg2 h) rfl rfl rfl (AI (VS rfl) TT) TT (jm _ rfl) TT rfl ⟨rfl, rfl, rfl⟩⟩
def zqa : LCode := (.seq (.region [Qo 1 (.box (.t 0)),
 Qi 2 0])
 (.seq (.region [Qo 3 (.alloc [(i6 0)]),
  ⟨none, .store 1 (.t 3) (.c (i6 0)), none⟩])
 (.seq (.seq (.region [Qt 4 5 1,
  Qo 5 (.call 22 [(.t 4), (.c (i6 1)), (.t 3)]),
  Qo 6 (.un .not (.t 5))])
 (.cond (.t 6)
  (.seq (.region [Qi 2 2])
  .ret)
  .skip))
 (.seq (.region [Qt 7 5 1,
  Qc 8 23 7,
  Qm 2 8])
 .ret))))
def zm1 : Lay := ⟨9, [], false⟩
def zlw : List LRes := [.t 2]
def zte : LFn := ⟨1, zm1, zqa, zlw⟩
theorem zq1 : wz Tryd.prog [] 9 = some zte := by kernel_rfl
theorem zpm : Zk Tryd.prog 9 := ⟨_, Tryd.func9, rfl, rfl⟩
noncomputable def xw (m : Option Nat) (a0 : GJ) : Option Int :=
 (jk m a0 1 0).bind fun v1 =>
 if (!v1.1) = true then
  some 2
 else
  (kr m a0).bind fun v2 =>
  some v2
def ztp (a0 : GJ) (o : Int) : Exit → Env → AHeap → Nat → Prop := Jj zlw (vl (i6 o))
theorem zje {a0 : GJ} {m : Option Nat} {o : Int} (h : xw m a0 = some o) : LWp Tryd.prog zm1 0 zqa (ztp a0 o) (qx 0 [.agg (z6 a0)]) [] 0 := by
 unfold xw at h
 refine za (zc ?_)
 refine za (zc ?_)
 refine za ?_
 refine za (zc ?_)
 obtain ⟨v1, h1, h⟩ := bind_some h
 refine Zy (k := 3) (m := 0) (L' := [((1, 0), .one [i6 v1.2])]) (rest := [((0, 0), .one (z6 a0))]) (R' := .bool v1.1) [((0, 0), (1, 0))] (zdz h1) rfl rfl rfl (S2 rfl rfl (SP rfl TT)) (AI (h0I (1, 0) rfl rfl (OL rfl)) TT) (jm _ rfl) (AI rfl (AI rfl TT)) rfl ?_
 refine qi (v := (!v1.1)) rfl TT (fun h2 => ?_) (fun h2 => ?_)
 ·have h := zh h2 h
  refine za (zc ?_)
  refine LWp.sim (e := [(2, i6 2)]) (L := []) (n := 0) ?_ ?_
  ·exact xe (M := []) rfl (AI (VS rfl) TT) TT
  refine kl ?_
  cases h
  exact AI TT (AI rfl (VS rfl))
 ·have h := zl h2 h
  refine jd ?_
  refine za (zc ?_)
  obtain ⟨v2, h3, h⟩ := bind_some h
  refine PFn.call (zq4 h3) (AI (VS rfl) TT) ?_
  refine LWp.sim (e := [(2, i6 v2)]) (L := []) (n := 0) ?_ ?_
  ·exact xe (M := []) rfl (AI (VS rfl) TT) TT
  refine kl ?_
  cases h
  exact AI TT (AI rfl (VS rfl))
theorem zqq {a0 : GJ} {m : Option Nat} {o : Int} (h : xw m a0 = some o) : PFn Tryd.prog 9 [.agg (z6 a0)] (i6 o) := PFn.ofFnW (L := zte) zq1 zpm (NB rfl) rfl (zje h)
def zlk : LCode := (.seq (.region [Qo 2 (.mv (.c (.str [])))])
 (.seq (.seq (.region [Qm 3 0])
 (.cond (.t 3)
  (.seq (.region [Qo 2 (.mv (.c (.str [116, 114, 117, 101])))])
  .ret)
  .skip))
 (.seq (.region [Qo 2 (.mv (.c (.str [102, 97, 108, 115, 101])))])
 .ret)))
def zhj : Lay := ⟨4, [], false⟩
def zeq : List LRes := [.t 2]
def zq8 : LFn := ⟨1, zhj, zlk, zeq⟩
theorem zms : wz Tryd.prog [] 59 = some zq8 := by kernel_rfl
theorem zop : Zk Tryd.prog 59 := ⟨_, Tryd.func59, rfl, rfl⟩
noncomputable def xy (m : Option Nat) (a0 : Bool) : Option (List UInt8) :=
 if a0 = true then
  some ([116, 114, 117, 101] : List UInt8)
 else
  some ([102, 97, 108, 115, 101] : List UInt8)
def zt1 (a0 : Bool) (o : (List UInt8)) : Exit → Env → AHeap → Nat → Prop := Jj zeq (vl (.str o))
theorem zid {a0 : Bool} {m : Option Nat} {o : (List UInt8)} (h : xy m a0 = some o) : LWp Tryd.prog zhj 0 zlk (zt1 a0 o) (qx 0 [.bool a0]) [] 0 := by
 unfold xy at h
 refine za (zc ?_)
 refine za ?_
 refine za (zc ?_)
 refine qi (v := a0) rfl TT (fun h1 => ?_) (fun h1 => ?_)
 ·have h := zh h1 h
  refine za (zc ?_)
  refine kl ?_
  cases h
  exact AI TT (AI rfl (VS rfl))
 ·have h := zl h1 h
  refine jd ?_
  refine za (zc ?_)
  refine kl ?_
  cases h
  exact AI TT (AI rfl (VS rfl))
theorem zql {a0 : Bool} {m : Option Nat} {o : (List UInt8)} (h : xy m a0 = some o) : PFn Tryd.prog 59 [.bool a0] (.str o) := PFn.ofFnW (L := zq8) zms zop (NB rfl) rfl (zid h)
def zm5 : LCode := (.seq (.region [Qo 2 (.mv (.c (.str [])))])
 (.seq (.region [Qm 3 0,
  Qc 4 59 3,
  Qm 2 4])
 .ret))
def zhd : Lay := ⟨5, [], false⟩
def zhl : List LRes := [.t 2]
def zq5 : LFn := ⟨1, zhd, zm5, zhl⟩
theorem zmc : wz Tryd.prog [] 38 = some zq5 := by kernel_rfl
theorem zmi : Zk Tryd.prog 38 := ⟨_, Tryd.func38, rfl, rfl⟩
noncomputable def jn (m : Option Nat) (a0 : Bool) : Option (List UInt8) :=
 (xy m a0).bind fun v1 =>
 some v1
def zsu (a0 : Bool) (o : (List UInt8)) : Exit → Env → AHeap → Nat → Prop := Jj zhl (vl (.str o))
theorem zhy {a0 : Bool} {m : Option Nat} {o : (List UInt8)} (h : jn m a0 = some o) : LWp Tryd.prog zhd 0 zm5 (zsu a0 o) (qx 0 [.bool a0]) [] 0 := by
 unfold jn at h
 refine za (zc ?_)
 refine za (zc ?_)
 obtain ⟨v1, h1, h⟩ := bind_some h
 refine PFn.call (zql h1) (AI (VS rfl) TT) ?_
 refine kl ?_
 cases h
 exact AI TT (AI rfl (VS rfl))
theorem zqc {a0 : Bool} {m : Option Nat} {o : (List UInt8)} (h : jn m a0 = some o) : PFn Tryd.prog 38 [.bool a0] (.str o) := PFn.ofFnW (L := zq5) zmc zmi (NB rfl) rfl (zhy h)
def wm (m : Option Nat) (a0 a1 : Int) : Option (List UInt8) := if (-9223372036854775808 ≤ a0 ∧ a0 ≤ 9223372036854775807) ∧ a1 = 10 then some (Go.Lib.itoa a0) else none
theorem zn7 : Zk Tryd.prog 74 := ⟨_, Tryd.func74, rfl, rfl⟩
theorem zpj {m : Option Nat} {a0 a1 : Int} {o : List UInt8} (h : wm m a0 a1 = some o) : PFn Tryd.prog 74 [i6 a0, i6 a1] (.str o) := by
 unfold wm at h
 split at h
 ·rename_i hc
  obtain ⟨hc, rfl⟩ := hc
  cases h
  exact zkr Tryd.l74 rfl zn7 zss zst hc
 ·cases h
def zly : LCode := (.seq (.region [Qo 2 (.mv (.c (.str [])))])
 (.seq (.region [Qm 3 0,
  Qo 4 (.call 74 [(.t 3), (.c (i6 10))]),
  Qm 2 4])
 .ret))
def zi8 : Lay := ⟨5, [], false⟩
def zhu : List LRes := [.t 2]
def zr9 : LFn := ⟨1, zi8, zly, zhu⟩
theorem zmk : wz Tryd.prog [] 60 = some zr9 := by kernel_rfl
theorem zo7 : Zk Tryd.prog 60 := ⟨_, Tryd.func60, rfl, rfl⟩
noncomputable def wh (m : Option Nat) (a0 : Int) : Option (List UInt8) :=
 (wm m a0 10).bind fun v1 =>
 some v1
def zse (a0 : Int) (o : (List UInt8)) : Exit → Env → AHeap → Nat → Prop := Jj zhu (vl (.str o))
theorem zft {a0 : Int} {m : Option Nat} {o : (List UInt8)} (h : wh m a0 = some o) : LWp Tryd.prog zi8 0 zly (zse a0 o) (qx 0 [i6 a0]) [] 0 := by
 unfold wh at h
 refine za (zc ?_)
 refine za (zc ?_)
 obtain ⟨v1, h1, h⟩ := bind_some h
 refine PFn.call (zpj h1) (S2 rfl rfl TT) ?_
 refine kl ?_
 cases h
 exact AI TT (AI rfl (VS rfl))
theorem zr1 {a0 : Int} {m : Option Nat} {o : (List UInt8)} (h : wh m a0 = some o) : PFn Tryd.prog 60 [i6 a0] (.str o) := PFn.ofFnW (L := zr9) zmk zo7 (NB rfl) rfl (zft h)
def zlr : LCode := (.seq (.region [Qo 2 (.mv (.c (.str [])))])
 (.seq (.region [Qm 3 0,
  Qc 4 60 3,
  Qm 2 4])
 .ret))
def zgk : Lay := ⟨5, [], false⟩
def zg3 : List LRes := [.t 2]
def zr2 : LFn := ⟨1, zgk, zlr, zg3⟩
theorem zol : wz Tryd.prog [] 39 = some zr2 := by kernel_rfl
theorem zot : Zk Tryd.prog 39 := ⟨_, Tryd.func39, rfl, rfl⟩
noncomputable def wv (m : Option Nat) (a0 : Int) : Option (List UInt8) :=
 (wh m a0).bind fun v1 =>
 some v1
def zsb (a0 : Int) (o : (List UInt8)) : Exit → Env → AHeap → Nat → Prop := Jj zg3 (vl (.str o))
theorem zim {a0 : Int} {m : Option Nat} {o : (List UInt8)} (h : wv m a0 = some o) : LWp Tryd.prog zgk 0 zlr (zsb a0 o) (qx 0 [i6 a0]) [] 0 := by
 unfold wv at h
 refine za (zc ?_)
 refine za (zc ?_)
 obtain ⟨v1, h1, h⟩ := bind_some h
 refine PFn.call (zr1 h1) (AI (VS rfl) TT) ?_
 refine kl ?_
 cases h
 exact AI TT (AI rfl (VS rfl))
theorem zrl {a0 : Int} {m : Option Nat} {o : (List UInt8)} (h : wv m a0 = some o) : PFn Tryd.prog 39 [i6 a0] (.str o) := PFn.ofFnW (L := zr2) zol zot (NB rfl) rfl (zim h)
def kf (m : Option Nat) (a0 : List UInt8) (a1 : Int) : Option Int := some (Go.Lib.indexByte a0 a1.toNat.toUInt8)
theorem zmd : Zk Tryd.prog 50 := ⟨_, Tryd.func50, rfl, rfl⟩
theorem zrd {m : Option Nat} {a0 : List UInt8} {a1 : Int} {o : Int} (h : kf m a0 a1 = some o) : PFn Tryd.prog 50 [.str a0, .int .u8 a1] (i6 o) := by
 cases h
 exact z4h Tryd.l50 rfl zmd a0 a1
def z9d : LCode := (.region [Qo 58 (.bin .add (.t 11) (.c (i6 1))),
 Qm 11 58])
def z26 : LCode := (.seq (.region [Qo 12 (.bin .lss (.t 11) (.t 10))])
 (.seq (.cond (.t 12)
  .skip
  (.exit 0))
 (.seq (.block 1
  (.seq (.region [Qm 13 11,
   Qm 4 13])
  (.seq (.region [Qm 14 1,
   Qm 15 4,
   Qo 16 (.idxS (.t 14) (.t 15)),
   Qm 5 16])
  (.seq (.region [Qm 17 5,
   Qo 18 (.call 50 [(.c (.str [8, 9, 10, 12, 13])), (.t 17)]),
   Qm 6 18])
  (.block 2
   (.seq (.region [Qm 23 5,
    Qo 24 (.bin .eql (.t 23) (.c (.int .u8 34))),
    Qm 25 24,
    Qn 26 5 (25, false),
    Qg 27 (.bin .eql (.t 26) (.c (.int .u8 92))) (25, false),
    Qo 28 (.pick (.t 25) (.c (.bool true)) (.t 27)),
    Qm 22 28])
   (.cond (.t 22)
    (.seq (.region [Qm 29 0,
     Qo 30 (.call 61 [(.t 29), (.c (.int .u8 92))])])
    (.region [Qm 31 0,
     Qm 32 5,
     Qo 33 (.call 61 [(.t 31), (.t 32)])]))
    (.seq (.region [Qm 35 6,
     Qo 36 (.bin .geq (.t 35) (.c (i6 0))),
     Qm 34 36])
    (.cond (.t 34)
     (.seq (.region [Qm 37 0,
      Qo 38 (.call 61 [(.t 37), (.c (.int .u8 92))])])
     (.region [Qm 39 0,
      Qm 40 6,
      Qo 41 (.idxS (.c (.str [98, 116, 110, 102, 114])) (.t 40)),
      Qo 42 (.call 61 [(.t 39), (.t 41)])]))
     (.seq (.region [Qm 44 5,
      Qo 45 (.bin .lss (.t 44) (.c (.int .u8 32))),
      Qm 43 45])
     (.cond (.t 43)
      (.seq (.region [Qm 46 0,
       Qo 47 (.call 37 [(.t 46), (.c (.str [92, 117, 48, 48]))])])
      (.seq (.region [Qm 48 0,
       Qm 49 5,
       Qo 50 (.bin .shr (.t 49) (.c (.int .u64 4))),
       Qo 51 (.idxS (.c (.str [48, 49, 50, 51, 52, 53, 54, 55, 56, 57, 97, 98, 99, 100, 101, 102])) (.t 50)),
       Qo 52 (.call 61 [(.t 48), (.t 51)])])
      (.region [Qm 53 0,
       Qm 54 5,
       Qo 55 (.bin .and (.t 54) (.c (.int .u8 15))),
       Qo 56 (.idxS (.c (.str [48, 49, 50, 51, 52, 53, 54, 55, 56, 57, 97, 98, 99, 100, 101, 102])) (.t 55)),
       Qo 57 (.call 61 [(.t 53), (.t 56)])])))
      (.region [Qm 19 0,
       Qm 20 5,
       Qo 21 (.call 61 [(.t 19), (.t 20)])]))))))))))))
 z9d)))
def Vz : LCode := (.region [Qm 59 0,
 Qo 60 (.call 61 [(.t 59), (.c (.int .u8 34))])])
def z9u : LCode := (.seq (.region [Qm 7 0,
 Qo 8 (.call 61 [(.t 7), (.c (.int .u8 34))])])
 (.seq (.seq (.region [Qm 9 1,
  Qo 10 (.len true (.t 9)),
  Qi 11 0])
 (.block 0
  (.loop
   z26)))
 Vz))
def ui : Lay := ⟨61, [], false⟩
def z5c : List LRes := []
def zgb : LFn := ⟨2, ui, z9u, z5c⟩
theorem zeb : wz Tryd.prog [] 40 = some zgb := by kernel_rfl
theorem zdo : Zk Tryd.prog 40 := ⟨_, Tryd.func40, rfl, rfl⟩
def z3h (a0 : List UInt8) (a1 : List UInt8) (o : (List UInt8)) : Exit → Env → AHeap → Nat → Prop := Jj z5c (Xn 3 4 (.tup []) [((0, 0), .bld 43 (3, 0)), ((3, 0), .buf 5 o)])
def Qu (a0 : List UInt8) (s : (Int × (List UInt8))) : Env := [(0, .ptr (0, 0) 0 0), (1, .str a0), (10, i6 (a0.length : Int)), (11, i6 s.1)]
def J3 (a0 : List UInt8) (s : (Int × (List UInt8))) : AHeap := [((0, 0), .bld 43 (3, 0)), ((3, 0), .buf 5 s.2)]
def Ww (a0 : List UInt8) (a1 : List UInt8) (o : (List UInt8)) : Exit → Env → AHeap → Nat → Prop := (xq 0 (Qy Tryd.prog ui 3 Vz (z3h a0 a1 o)))
noncomputable def q8 (m : Option Nat) (a0 : List UInt8) (v3 : Int) (v8 : List UInt8) : Option ((Int × (List UInt8)) ⊕ (List UInt8)) :=
 some (.inl ((W (v3 + 1)), v8))
theorem Yk {a1 : List UInt8} {a0 : List UInt8} {v3 : Int} {v8 : List UInt8} {m : Option Nat} {o : ((Int × (List UInt8)) ⊕ (List UInt8))} (h : q8 m a0 v3 v8 = some o) :
 LWp Tryd.prog ui 3 z9d (kx 3 4 (Qu a0) (J3 a0) (Ww a0 a1) o) [(0, .ptr (0, 0) 0 0), (1, .str a0), (10, i6 (a0.length : Int)), (11, i6 v3)] [((0, 0), .bld 43 (3, 0)), ((3, 0), .buf 5 v8)] 4 := by
 unfold q8 at h
 refine zc ?_
 cases h
 exact AI rfl (xe (M := [((3, 0), (3, 0))]) rfl (SP rfl (S2 rfl rfl (AI (VS rfl) TT))) (AI (AI rfl (BVw.bld _ _ _ rfl)) (AI (AI rfl (BVw.buf _ _)) TT)))
noncomputable def je (m : Option Nat) (v4 : List UInt8) : Option (List UInt8) :=
 if (0 ≤ (34 : Int) ∧ (34 : Int) < 256) ∧ v4.length + 1 ≤ 140737488355328 then
 some (v4 ++ [(34 : Int).toNat.toUInt8])
 else none
noncomputable def q9 (m : Option Nat) (a0 : List UInt8) (v3 : Int) (v4 : List UInt8) : Option ((Int × (List UInt8)) ⊕ (List UInt8)) :=
 if (decide (v3 < (a0.length : Int))) = true then
  if (0 : Int) ≤ v3 ∧ v3 < (a0.length : Int) then
  (kf m ([8, 9, 10, 12, 13] : List UInt8) (((a0.getD v3.toNat 0).toNat : Nat) : Int)).bind fun v7 =>
  if (((((a0.getD v3.toNat 0).toNat : Nat) : Int) == 34) || ((((a0.getD v3.toNat 0).toNat : Nat) : Int) == 92)) = true then
   if (0 ≤ (92 : Int) ∧ (92 : Int) < 256) ∧ v4.length + 1 ≤ 140737488355328 then
   if (0 ≤ (((a0.getD v3.toNat 0).toNat : Nat) : Int) ∧ (((a0.getD v3.toNat 0).toNat : Nat) : Int) < 256) ∧ (v4 ++ [(92 : Int).toNat.toUInt8]).length + 1 ≤ 140737488355328 then
   q8 m a0 v3 ((v4 ++ [(92 : Int).toNat.toUInt8]) ++ [(((a0.getD v3.toNat 0).toNat : Nat) : Int).toNat.toUInt8])
   else none
   else none
  else
   if (decide (v7 ≥ 0)) = true then
    if (0 ≤ (92 : Int) ∧ (92 : Int) < 256) ∧ v4.length + 1 ≤ 140737488355328 then
    if (0 : Int) ≤ v7 ∧ v7 < (([98, 116, 110, 102, 114] : List UInt8).length : Int) then
    if (0 ≤ (((([98, 116, 110, 102, 114] : List UInt8).getD v7.toNat 0).toNat : Nat) : Int) ∧ (((([98, 116, 110, 102, 114] : List UInt8).getD v7.toNat 0).toNat : Nat) : Int) < 256) ∧ (v4 ++ [(92 : Int).toNat.toUInt8]).length + 1 ≤ 140737488355328 then
    q8 m a0 v3 ((v4 ++ [(92 : Int).toNat.toUInt8]) ++ [(((([98, 116, 110, 102, 114] : List UInt8).getD v7.toNat 0).toNat : Nat) : Int).toNat.toUInt8])
    else none
    else none
    else none
   else
    if (decide ((((a0.getD v3.toNat 0).toNat : Nat) : Int) < 32)) = true then
     if v4.length + ([92, 117, 48, 48] : List UInt8).length ≤ 140737488355328 then
     if (0 : Int) ≤ ((((a0.getD v3.toNat 0).toNat : Nat) : Int).fdiv (2 ^ (min (4 : Int).toNat (IntKind.bits .u8)))) ∧ ((((a0.getD v3.toNat 0).toNat : Nat) : Int).fdiv (2 ^ (min (4 : Int).toNat (IntKind.bits .u8)))) < (([48, 49, 50, 51, 52, 53, 54, 55, 56, 57, 97, 98, 99, 100, 101, 102] : List UInt8).length : Int) then
     if (0 ≤ (((([48, 49, 50, 51, 52, 53, 54, 55, 56, 57, 97, 98, 99, 100, 101, 102] : List UInt8).getD ((((a0.getD v3.toNat 0).toNat : Nat) : Int).fdiv (2 ^ (min (4 : Int).toNat (IntKind.bits .u8)))).toNat 0).toNat : Nat) : Int) ∧ (((([48, 49, 50, 51, 52, 53, 54, 55, 56, 57, 97, 98, 99, 100, 101, 102] : List UInt8).getD ((((a0.getD v3.toNat 0).toNat : Nat) : Int).fdiv (2 ^ (min (4 : Int).toNat (IntKind.bits .u8)))).toNat 0).toNat : Nat) : Int) < 256) ∧ (v4 ++ ([92, 117, 48, 48] : List UInt8)).length + 1 ≤ 140737488355328 then
     if (0 : Int) ≤ (Zi .and .u8 (((a0.getD v3.toNat 0).toNat : Nat) : Int) 15) ∧ (Zi .and .u8 (((a0.getD v3.toNat 0).toNat : Nat) : Int) 15) < (([48, 49, 50, 51, 52, 53, 54, 55, 56, 57, 97, 98, 99, 100, 101, 102] : List UInt8).length : Int) then
     if (0 ≤ (((([48, 49, 50, 51, 52, 53, 54, 55, 56, 57, 97, 98, 99, 100, 101, 102] : List UInt8).getD (Zi .and .u8 (((a0.getD v3.toNat 0).toNat : Nat) : Int) 15).toNat 0).toNat : Nat) : Int) ∧ (((([48, 49, 50, 51, 52, 53, 54, 55, 56, 57, 97, 98, 99, 100, 101, 102] : List UInt8).getD (Zi .and .u8 (((a0.getD v3.toNat 0).toNat : Nat) : Int) 15).toNat 0).toNat : Nat) : Int) < 256) ∧ ((v4 ++ ([92, 117, 48, 48] : List UInt8)) ++ [(((([48, 49, 50, 51, 52, 53, 54, 55, 56, 57, 97, 98, 99, 100, 101, 102] : List UInt8).getD ((((a0.getD v3.toNat 0).toNat : Nat) : Int).fdiv (2 ^ (min (4 : Int).toNat (IntKind.bits .u8)))).toNat 0).toNat : Nat) : Int).toNat.toUInt8]).length + 1 ≤ 140737488355328 then
     q8 m a0 v3 (((v4 ++ ([92, 117, 48, 48] : List UInt8)) ++ [(((([48, 49, 50, 51, 52, 53, 54, 55, 56, 57, 97, 98, 99, 100, 101, 102] : List UInt8).getD ((((a0.getD v3.toNat 0).toNat : Nat) : Int).fdiv (2 ^ (min (4 : Int).toNat (IntKind.bits .u8)))).toNat 0).toNat : Nat) : Int).toNat.toUInt8]) ++ [(((([48, 49, 50, 51, 52, 53, 54, 55, 56, 57, 97, 98, 99, 100, 101, 102] : List UInt8).getD (Zi .and .u8 (((a0.getD v3.toNat 0).toNat : Nat) : Int) 15).toNat 0).toNat : Nat) : Int).toNat.toUInt8])
     else none
     else none
     else none
     else none
     else none
    else
     if (0 ≤ (((a0.getD v3.toNat 0).toNat : Nat) : Int) ∧ (((a0.getD v3.toNat 0).toNat : Nat) : Int) < 256) ∧ v4.length + 1 ≤ 140737488355328 then
     q8 m a0 v3 (v4 ++ [(((a0.getD v3.toNat 0).toNat : Nat) : Int).toNat.toUInt8])
     else none
  else none
 else
  Option.map Sum.inr (
   je m v4)
noncomputable def xm (m : Option Nat) (a0 : List UInt8) (v3 : Int) (v4 : List UInt8) : Option (List UInt8) := Zg m (fun (s : (Int × (List UInt8))) => q9 m a0 s.1 s.2) (v3, v4)
theorem z95 {a0 : List UInt8} {a1 : List UInt8} {v4 : List UInt8} {m : Option Nat} {o : (List UInt8)} (h : je m v4 = some o) :
 LWp Tryd.prog ui 3 Vz (z3h a0 a1 o) [(0, .ptr (0, 0) 0 0)] [((0, 0), .bld 43 (3, 0)), ((3, 0), .buf 5 v4)] 4 := by
 unfold je at h
 refine zc ?_
 obtain ⟨h53, h⟩ := z8 h
 refine js (b := (0, 0)) (g := (3, 0)) (bs := v4) (c := (34 : Int)) jh rfl rfl h53 ?_
 cases h
 exact J6 (n' := 5) [((3, 0), (4, 0))] [] rfl rfl (VS rfl) (AI (AI rfl (BVw.bld _ _ _ rfl)) (AI (AI rfl (BVw.buf _ _)) TT))
theorem z6s {a1 : List UInt8} {a0 : List UInt8} {v3 : Int} {v4 : List UInt8} {m : Option Nat} {o : (Int × (List UInt8)) ⊕ (List UInt8)} (h : q9 m a0 v3 v4 = some o) :
 LWp Tryd.prog ui 3 z26 (kx 3 4 (Qu a0) (J3 a0) (Ww a0 a1) o) [(0, .ptr (0, 0) 0 0), (1, .str a0), (10, i6 (a0.length : Int)), (11, i6 v3)] [((0, 0), .bld 43 (3, 0)), ((3, 0), .buf 5 v4)] 4 := by
 unfold q9 at h
 refine za (zc ?_)
 refine za ?_
 refine qi (v := (decide (v3 < (a0.length : Int)))) rfl TT (fun h36 => ?_) (fun h36 => ?_)
 ·have h := zh h36 h
  refine jd ?_
  refine za ?_
  refine j6 ?_
  refine za (zc ?_)
  refine za (zc ?_)
  obtain ⟨h37, h⟩ := z8 h
  refine AI h37 ?_
  refine za (zc ?_)
  obtain ⟨v7, h38, h⟩ := bind_some h
  refine PFn.call (zrd h38) (S2 rfl rfl TT) ?_
  refine LWp.sim (e := [(0, .ptr (0, 0) 0 0), (1, .str a0), (5, .int .u8 (((a0.getD v3.toNat 0).toNat : Nat) : Int)), (6, i6 v7), (10, i6 (a0.length : Int)), (11, i6 v3)]) (L := [((0, 0), .bld 43 (3, 0)), ((3, 0), .buf 5 v4)]) (n := 4) ?_ ?_
  ·exact xe (M := [((3, 0), (3, 0))]) rfl (SP rfl (S4 rfl rfl rfl rfl (AI (VS rfl) TT))) (AI (AI rfl (BVw.bld _ _ _ rfl)) (AI (AI rfl (BVw.buf _ _)) TT))
  refine j6 ?_
  refine za (zc ?_)
  refine AI (fun hp => hp) ?_
  refine AI (fun hc => (bqf hc)) ?_
  refine qi (v := (((((a0.getD v3.toNat 0).toNat : Nat) : Int) == 34) || ((((a0.getD v3.toNat 0).toNat : Nat) : Int) == 92))) rfl TT (fun h39 => ?_) (fun h39 => ?_)
  ·have h := zh h39 h
   refine za (zc ?_)
   obtain ⟨h40, h⟩ := z8 h
   refine js (b := (0, 0)) (g := (3, 0)) (bs := v4) (c := (92 : Int)) jh rfl rfl h40 ?_
   refine LWp.sim (e := [(0, .ptr (0, 0) 0 0), (1, .str a0), (5, .int .u8 (((a0.getD v3.toNat 0).toNat : Nat) : Int)), (10, i6 (a0.length : Int)), (11, i6 v3)]) (L := [((0, 0), .bld 43 (3, 0)), ((3, 0), .buf 5 (v4 ++ [(92 : Int).toNat.toUInt8]))]) (n := 4) ?_ ?_
   ·exact xe (M := [((3, 0), (4, 0))]) rfl (SP rfl (S4 rfl rfl rfl rfl TT)) (AI (AI rfl (BVw.bld _ _ _ rfl)) (AI (AI rfl (BVw.buf _ _)) TT))
   refine zc ?_
   obtain ⟨h41, h⟩ := z8 h
   refine js (b := (0, 0)) (g := (3, 0)) (bs := (v4 ++ [(92 : Int).toNat.toUInt8])) (c := (((a0.getD v3.toNat 0).toNat : Nat) : Int)) jh rfl rfl h41 ?_
   refine LWp.sim ?_ (Yk h)
   exact xe (M := [((3, 0), (4, 0))]) rfl (SP rfl (S2 rfl rfl (AI (VS rfl) TT))) (AI (AI rfl (BVw.bld _ _ _ rfl)) (AI (AI rfl (BVw.buf _ _)) TT))
  ·have h := zl h39 h
   refine za (zc ?_)
   refine LWp.sim (e := [(0, .ptr (0, 0) 0 0), (1, .str a0), (5, .int .u8 (((a0.getD v3.toNat 0).toNat : Nat) : Int)), (6, i6 v7), (10, i6 (a0.length : Int)), (11, i6 v3), (34, .bool (decide (v7 ≥ 0)))]) (L := [((0, 0), .bld 43 (3, 0)), ((3, 0), .buf 5 v4)]) (n := 4) ?_ ?_
   ·exact xe (M := [((3, 0), (3, 0))]) rfl (SP rfl (S4 rfl rfl rfl rfl (S2 rfl rfl TT))) (AI (AI rfl (BVw.bld _ _ _ rfl)) (AI (AI rfl (BVw.buf _ _)) TT))
   refine qi (v := (decide (v7 ≥ 0))) rfl TT (fun h42 => ?_) (fun h42 => ?_)
   ·have h := zh h42 h
    refine za (zc ?_)
    obtain ⟨h43, h⟩ := z8 h
    refine js (b := (0, 0)) (g := (3, 0)) (bs := v4) (c := (92 : Int)) jh rfl rfl h43 ?_
    refine zc ?_
    obtain ⟨h44, h⟩ := z8 h
    refine AI h44 ?_
    obtain ⟨h45, h⟩ := z8 h
    refine js (b := (0, 0)) (g := (4, 0)) (bs := (v4 ++ [(92 : Int).toNat.toUInt8])) (c := (((([98, 116, 110, 102, 114] : List UInt8).getD v7.toNat 0).toNat : Nat) : Int)) jh rfl rfl h45 ?_
    refine LWp.sim ?_ (Yk h)
    exact xe (M := [((3, 0), (5, 0))]) rfl (SP rfl (S2 rfl rfl (AI (VS rfl) TT))) (AI (AI rfl (BVw.bld _ _ _ rfl)) (AI (AI rfl (BVw.buf _ _)) TT))
   ·have h := zl h42 h
    refine za (zc ?_)
    refine qi (v := (decide ((((a0.getD v3.toNat 0).toNat : Nat) : Int) < 32))) rfl TT (fun h46 => ?_) (fun h46 => ?_)
    ·have h := zh h46 h
     refine za (zc ?_)
     obtain ⟨h47, h⟩ := z8 h
     refine X4 (b := (0, 0)) (g := (3, 0)) (bs := v4) uf rfl rfl h47 ?_
     refine za (zc ?_)
     refine AI (by decide) ?_
     obtain ⟨h48, h⟩ := z8 h
     refine AI h48 ?_
     obtain ⟨h49, h⟩ := z8 h
     refine js (b := (0, 0)) (g := (4, 0)) (bs := (v4 ++ ([92, 117, 48, 48] : List UInt8))) (c := (((([48, 49, 50, 51, 52, 53, 54, 55, 56, 57, 97, 98, 99, 100, 101, 102] : List UInt8).getD ((((a0.getD v3.toNat 0).toNat : Nat) : Int).fdiv (2 ^ (min (4 : Int).toNat (IntKind.bits .u8)))).toNat 0).toNat : Nat) : Int)) jh rfl rfl h49 ?_
     refine LWp.sim (e := [(0, .ptr (0, 0) 0 0), (1, .str a0), (5, .int .u8 (((a0.getD v3.toNat 0).toNat : Nat) : Int)), (10, i6 (a0.length : Int)), (11, i6 v3)]) (L := [((0, 0), .bld 43 (3, 0)), ((3, 0), .buf 5 ((v4 ++ ([92, 117, 48, 48] : List UInt8)) ++ [(((([48, 49, 50, 51, 52, 53, 54, 55, 56, 57, 97, 98, 99, 100, 101, 102] : List UInt8).getD ((((a0.getD v3.toNat 0).toNat : Nat) : Int).fdiv (2 ^ (min (4 : Int).toNat (IntKind.bits .u8)))).toNat 0).toNat : Nat) : Int).toNat.toUInt8]))]) (n := 4) ?_ ?_
     ·exact xe (M := [((3, 0), (5, 0))]) rfl (SP rfl (S4 rfl rfl rfl rfl TT)) (AI (AI rfl (BVw.bld _ _ _ rfl)) (AI (AI rfl (BVw.buf _ _)) TT))
     refine zc ?_
     obtain ⟨h50, h⟩ := z8 h
     refine AI h50 ?_
     obtain ⟨h51, h⟩ := z8 h
     refine js (b := (0, 0)) (g := (3, 0)) (bs := ((v4 ++ ([92, 117, 48, 48] : List UInt8)) ++ [(((([48, 49, 50, 51, 52, 53, 54, 55, 56, 57, 97, 98, 99, 100, 101, 102] : List UInt8).getD ((((a0.getD v3.toNat 0).toNat : Nat) : Int).fdiv (2 ^ (min (4 : Int).toNat (IntKind.bits .u8)))).toNat 0).toNat : Nat) : Int).toNat.toUInt8])) (c := (((([48, 49, 50, 51, 52, 53, 54, 55, 56, 57, 97, 98, 99, 100, 101, 102] : List UInt8).getD (Zi .and .u8 (((a0.getD v3.toNat 0).toNat : Nat) : Int) 15).toNat 0).toNat : Nat) : Int)) jh rfl rfl h51 ?_
     refine LWp.sim ?_ (Yk h)
     exact xe (M := [((3, 0), (4, 0))]) rfl (SP rfl (S2 rfl rfl (AI (VS rfl) TT))) (AI (AI rfl (BVw.bld _ _ _ rfl)) (AI (AI rfl (BVw.buf _ _)) TT))
    ·have h := zl h46 h
     refine zc ?_
     obtain ⟨h52, h⟩ := z8 h
     refine js (b := (0, 0)) (g := (3, 0)) (bs := v4) (c := (((a0.getD v3.toNat 0).toNat : Nat) : Int)) jh rfl rfl h52 ?_
     refine LWp.sim ?_ (Yk h)
     exact xe (M := [((3, 0), (4, 0))]) rfl (SP rfl (S2 rfl rfl (AI (VS rfl) TT))) (AI (AI rfl (BVw.bld _ _ _ rfl)) (AI (AI rfl (BVw.buf _ _)) TT))
 ·have h := zl h36 h
  refine Ji ?_
  obtain ⟨o, hq, rfl⟩ := Option.map_eq_some_iff.1 h
  replace h := hq; clear hq
  refine AI nofun ?_
  refine LWp.sim ?_ (z95 h)
  exact xe (M := [((3, 0), (3, 0))]) rfl (SP rfl TT) (AI (AI rfl (BVw.bld _ _ _ rfl)) (AI (AI rfl (BVw.buf _ _)) TT))
theorem z7k {a1 : List UInt8} {a0 : List UInt8} {v3 : Int} {v4 : List UInt8} {m : Option Nat} {o : (List UInt8)} (h : xm m a0 v3 v4 = some o) :
 LWp Tryd.prog ui 3 (.loop z26) (xq 0 (Qy Tryd.prog ui 3 Vz (z3h a0 a1 o))) [(0, .ptr (0, 0) 0 0), (1, .str a0), (10, i6 (a0.length : Int)), (11, i6 v3)] [((0, 0), .bld 43 (3, 0)), ((3, 0), .buf 5 v4)] 4 :=
 jt (m := m) (s := ((v3, v4) : (Int × (List UInt8)))) (r := o) (fun (s : (Int × (List UInt8))) => q9 m a0 s.1 s.2) (Qu a0) (J3 a0) (Ww a0 a1) (fun s o h => z6s h) h
noncomputable def qy (m : Option Nat) (a0 : List UInt8) (a1 : List UInt8) : Option (List UInt8) :=
 if (0 ≤ (34 : Int) ∧ (34 : Int) < 256) ∧ a1.length + 1 ≤ 140737488355328 then
 xm m a0 0 (a1 ++ [(34 : Int).toNat.toUInt8])
 else none
theorem z6z {a0 : List UInt8} {a1 : List UInt8} {m : Option Nat} {o : (List UInt8)} (h : qy m a0 a1 = some o) : LWp Tryd.prog ui 3 z9u (z3h a0 a1 o) (qx 0 [.ptr (0, 0) 0 0, .str a0]) [((0, 0), .bld 43 (0, 1)), ((0, 1), .buf 5 a1)] 3 := by
 unfold qy at h
 refine za (zc ?_)
 obtain ⟨h1, h⟩ := z8 h
 refine js (b := (0, 0)) (g := (0, 1)) (bs := a1) (c := (34 : Int)) jh rfl rfl h1 ?_
 refine za ?_
 refine za (zc ?_)
 refine j6 ?_
 refine LWp.sim ?_ (z7k h)
 exact xe (M := [((3, 0), (3, 0))]) rfl (SP rfl (S2 rfl rfl (AI (VS rfl) TT))) (AI (AI rfl (BVw.bld _ _ _ rfl)) (AI (AI rfl (BVw.buf _ _)) TT))
theorem za8 {a0 : List UInt8} {a1 : List UInt8} {m : Option Nat} {o : (List UInt8)} (h : qy m a0 a1 = some o) : ACalls Tryd.prog 40 [.ptr (0, 0) 0 0, .str a0] [((0, 0), .bld 43 (0, 1)), ((0, 1), .buf 5 a1)] 3 (wg 4 (.tup []) [((0, 0), .bld 43 (3, 0)), ((3, 0), .buf 5 o)]) := Yz (L := zgb) zeb zdo (NB rfl) (z6z h)
def zb6 : LCode := (.region [Qm 38 0,
 Qt 39 5 6,
 Qo 40 (.call 17 [(.t 38), (.t 39)])])
def zab : LCode := (.seq (.seq (.region [Qf 26 0 3,
 Ql 27 1 26,
 Qo 28 (.bin .eql (.t 27) (.c (i6 5)))])
 (.cond (.t 28)
  (.seq (.region [Qm 29 0,
   Qf 30 3 3,
   Ql 31 1 30,
   Qm 32 5,
   Qo 33 (.iaddr 1 (.t 31) (.t 32)),
   Ql 34 1 33,
   Qo 35 (.call 40 [(.t 29), (.t 34)])])
  (.region [Qm 36 0,
   Qo 37 (.call 61 [(.t 36), (.c (.int .u8 58))])]))
  .skip))
 zb6)
def z2x : LCode := (.region [Qo 41 (.bin .add (.t 17) (.c (i6 1))),
 Qm 17 41])
def z35 : LCode := (.seq (.region [Qo 18 (.bin .lss (.t 17) (.t 16))])
 (.seq (.cond (.t 18)
  .skip
  (.exit 0))
 (.seq (.block 1
  (.seq (.region [Qm 19 17,
   Qo 20 (.iaddr 5 (.t 15) (.t 17)),
   Qt 21 5 20,
   Qo 6 (.alloc [(i6 0), (i6 0), (.str []), (.isl 1 [] true), (.isl 5 [] true)]),
   Qm 5 19,
   ⟨none, .store 5 (.t 6) (.t 21), none⟩])
  (.seq (.seq (.region [Qm 22 5,
   Qo 23 (.bin .gtr (.t 22) (.c (i6 0)))])
  (.cond (.t 23)
   (.region [Qm 24 0,
    Qo 25 (.call 61 [(.t 24), (.c (.int .u8 44))])])
   .skip))
  zab)))
 z2x)))
def Vt : LCode := (.region [Qm 42 0,
 Qm 43 4,
 Qo 44 (.idxS (.t 43) (.c (i6 1))),
 Qo 45 (.call 61 [(.t 42), (.t 44)])])
def z9i : LCode := (.seq (.region [Qm 10 0,
 Qm 11 4,
 Qo 12 (.idxS (.t 11) (.c (i6 0))),
 Qo 13 (.call 61 [(.t 10), (.t 12)])])
 (.seq (.seq (.region [Qf 14 4 3,
  Ql 15 1 14,
  Qo 16 (.len false (.t 15)),
  Qi 17 0])
 (.block 0
  (.loop
   z35)))
 Vt))
def za2 : LCode := (.seq (.region [Qo 3 (.box (.t 1))])
 (.seq (.region [Qo 4 (.mv (.c (.str [91, 93])))])
 (.seq (.seq (.region [Qf 7 0 3,
  Ql 8 1 7,
  Qo 9 (.bin .eql (.t 8) (.c (i6 5)))])
 (.cond (.t 9)
  (.region [Qo 4 (.mv (.c (.str [123, 125])))])
  .skip))
 z9i)))
def wo : Lay := ⟨46, [], false⟩
def z52 : List LRes := []
def zg8 : LFn := ⟨2, wo, za2, z52⟩
theorem zdc : wz Tryd.prog [] 41 = some zg8 := by kernel_rfl
theorem zde : Zk Tryd.prog 41 := ⟨_, Tryd.func41, rfl, rfl⟩
def Ug (a0 : GJ) (a1 : List UInt8) (o : (List UInt8)) : Exit → Env → AHeap → Nat → Prop := Jj z52 (Xn 3 4 (.tup []) [((0, 0), .bld 43 (3, 0)), ((3, 0), .buf 5 o)])
def Zn (a0 : GJ) (v1 : List UInt8) (s : (Int × (List UInt8))) : Env := [(0, .ptr (0, 0) 0 0), (3, .ptr (4, 0) 0 0), (4, .str v1), (15, .isl 5 (a0.fE.map zz) false), (16, i6 ((a0.fE.map zz).length : Int)), (17, i6 s.1)]
def Yx (a0 : GJ) (v1 : List UInt8) (s : (Int × (List UInt8))) : AHeap := [((0, 0), .bld 43 (3, 0)), ((3, 0), .buf 5 s.2), ((4, 0), .one (z6 a0))]
def Xj (a0 : GJ) (a1 : List UInt8) (o : (List UInt8)) : Exit → Env → AHeap → Nat → Prop := (xq 0 (Qy Tryd.prog wo 3 Vt (Ug a0 a1 o)))
noncomputable def yu (rec2 : GJ → (List UInt8) → Option (List UInt8)) (m : Option Nat) (a0 : GJ) (v1 : List UInt8) (v7 : Int) (v14 : GJ) (v17 : List UInt8) : Option ((Int × (List UInt8)) ⊕ (List UInt8)) :=
 (rec2 v14 v17).bind fun v18 =>
 some (.inl ((W (v7 + 1)), v18))
abbrev Hr2 (rec2 : GJ → (List UInt8) → Option (List UInt8)) : Prop := ∀ {a0 : GJ} {a1 : List UInt8} {o : (List UInt8)}, rec2 a0 a1 = some o → ACalls Tryd.prog 17 [.ptr (0, 0) 0 0, .agg (z6 a0)] [((0, 0), .bld 43 (0, 1)), ((0, 1), .buf 5 a1)] 3 (wg 4 (.tup []) [((0, 0), .bld 43 (3, 0)), ((3, 0), .buf 5 o)])
theorem Ud {rec2 : GJ → (List UInt8) → Option (List UInt8)} (hrec2 : Hr2 rec2) {a1 : List UInt8} {a0 : GJ} {v1 : List UInt8} {v7 : Int} {v14 : GJ} {v17 : List UInt8} {m : Option Nat} {o : ((Int × (List UInt8)) ⊕ (List UInt8))} (h : yu rec2 m a0 v1 v7 v14 v17 = some o) :
 LWp Tryd.prog wo 3 zb6 (xq 1 (Qy Tryd.prog wo 3 z2x (kx 3 5 (Zn a0 v1) (Yx a0 v1) (Xj a0 a1) o))) [(0, .ptr (0, 0) 0 0), (3, .ptr (4, 0) 0 0), (4, .str v1), (6, .ptr (5, 0) 0 0), (15, .isl 5 (a0.fE.map zz) false), (16, i6 ((a0.fE.map zz).length : Int)), (17, i6 v7)] [((0, 0), .bld 43 (3, 0)), ((3, 0), .buf 5 v17), ((4, 0), .one (z6 a0)), ((5, 0), .one (z6 v14))] 6 := by
 unfold yu at h
 refine zc ?_
 obtain ⟨v18, h33, h⟩ := bind_some h
 refine Zy (k := 3) (m := 1) (L' := [((0, 0), .bld 43 (6, 0)), ((6, 0), .buf 5 v18)]) (rest := [((4, 0), .one (z6 a0)), ((5, 0), .one (z6 v14))]) (R' := .tup []) [((0, 0), (0, 0)), ((0, 1), (3, 0))] (hrec2 h33) rfl rfl rfl (SP rfl (AI (VS rfl) TT)) (AI (h0I (0, 0) rfl rfl (BVw.bld _ _ _ rfl)) (AI (h0I (3, 0) rfl rfl (BVw.buf _ _)) TT)) (jm _ rfl) (AI rfl (AI rfl (AI rfl (AI rfl TT)))) rfl ?_
 refine zc ?_
 cases h
 exact AI rfl (xe (M := [((3, 0), (6, 0)), ((4, 0), (4, 0))]) rfl (SP rfl (SP rfl (S4 rfl rfl rfl rfl TT))) (AI (AI rfl (BVw.bld _ _ _ rfl)) (AI (AI rfl (BVw.buf _ _)) (AI (AI rfl (OL rfl)) TT))))
noncomputable def y7 (rec2 : GJ → (List UInt8) → Option (List UInt8)) (m : Option Nat) (a0 : GJ) (v1 : List UInt8) (v7 : Int) (v14 : GJ) (v15 : List UInt8) : Option ((Int × (List UInt8)) ⊕ (List UInt8)) :=
 if (a0.fK == 5) = true then
  if (0 : Int) ≤ v7 ∧ v7 < ((a0.fA.map zp).length : Int) then
  (qy m (a0.fA.getD v7.toNat default) v15).bind fun v16 =>
  if (0 ≤ (58 : Int) ∧ (58 : Int) < 256) ∧ v16.length + 1 ≤ 140737488355328 then
  yu rec2 m a0 v1 v7 v14 (v16 ++ [(58 : Int).toNat.toUInt8])
  else none
  else none
 else
  yu rec2 m a0 v1 v7 v14 v15
theorem z01 {rec2 : GJ → (List UInt8) → Option (List UInt8)} (hrec2 : Hr2 rec2) {a1 : List UInt8} {a0 : GJ} {v1 : List UInt8} {v7 : Int} {v14 : GJ} {v15 : List UInt8} {m : Option Nat} {o : ((Int × (List UInt8)) ⊕ (List UInt8))} (h : y7 rec2 m a0 v1 v7 v14 v15 = some o) :
 LWp Tryd.prog wo 3 zab (xq 1 (Qy Tryd.prog wo 3 z2x (kx 3 5 (Zn a0 v1) (Yx a0 v1) (Xj a0 a1) o))) [(0, .ptr (0, 0) 0 0), (3, .ptr (4, 0) 0 0), (4, .str v1), (5, i6 v7), (6, .ptr (5, 0) 0 0), (15, .isl 5 (a0.fE.map zz) false), (16, i6 ((a0.fE.map zz).length : Int)), (17, i6 v7)] [((0, 0), .bld 43 (3, 0)), ((3, 0), .buf 5 v15), ((4, 0), .one (z6 a0)), ((5, 0), .one (z6 v14))] 6 := by
 unfold y7 at h
 refine za ?_
 refine za (zc ?_)
 refine qi (v := (a0.fK == 5)) rfl TT (fun h29 => ?_) (fun h29 => ?_)
 ·have h := zh h29 h
  refine za (zc ?_)
  obtain ⟨h30, h⟩ := z8 h
  refine AI h30 ?_
  refine EX (zp (a0.fA.getD v7.toNat default)) (AI (Zl zp _ _ (u6 zp h30)) (AI (AI (Y9 h30) (NB rfl)) ?_))
  obtain ⟨v16, h31, h⟩ := bind_some h
  refine Zy (k := 3) (m := 1) (L' := [((0, 0), .bld 43 (6, 0)), ((6, 0), .buf 5 v16)]) (rest := [((4, 0), .one (z6 a0)), ((5, 0), .one (z6 v14))]) (R' := .tup []) [((0, 0), (0, 0)), ((0, 1), (3, 0))] (za8 h31) rfl rfl rfl (SP rfl (AI (VS rfl) TT)) (AI (h0I (0, 0) rfl rfl (BVw.bld _ _ _ rfl)) (AI (h0I (3, 0) rfl rfl (BVw.buf _ _)) TT)) (jm _ rfl) (AI rfl (AI rfl (AI rfl (AI rfl TT)))) rfl ?_
  refine LWp.sim (e := [(0, .ptr (0, 0) 0 0), (3, .ptr (3, 0) 0 0), (4, .str v1), (6, .ptr (4, 0) 0 0), (15, .isl 5 (a0.fE.map zz) false), (16, i6 ((a0.fE.map zz).length : Int)), (17, i6 v7)]) (L := [((0, 0), .bld 43 (5, 0)), ((3, 0), .one (z6 a0)), ((4, 0), .one (z6 v14)), ((5, 0), .buf 5 v16)]) (n := 6) ?_ ?_
  ·exact xe (M := [((3, 0), (4, 0)), ((4, 0), (5, 0)), ((5, 0), (6, 0))]) rfl (SP rfl (SP rfl (AI (VS rfl) (SP rfl (S2 rfl rfl (AI (VS rfl) TT)))))) (AI (AI rfl (BVw.bld _ _ _ rfl)) (AI (AI rfl (OL rfl)) (AI (AI rfl (OL rfl)) (AI (AI rfl (BVw.buf _ _)) TT))))
  refine zc ?_
  obtain ⟨h32, h⟩ := z8 h
  refine js (b := (0, 0)) (g := (5, 0)) (bs := v16) (c := (58 : Int)) jh rfl rfl h32 ?_
  refine LWp.sim ?_ (Ud hrec2 h)
  exact xe (M := [((3, 0), (6, 0)), ((4, 0), (3, 0)), ((5, 0), (4, 0))]) rfl (SP rfl (SP rfl (AI (VS rfl) (SP rfl (S2 rfl rfl (AI (VS rfl) TT)))))) (AI (AI rfl (BVw.bld _ _ _ rfl)) (AI (AI rfl (BVw.buf _ _)) (AI (AI rfl (OL rfl)) (AI (AI rfl (OL rfl)) TT))))
 ·have h := zl h29 h
  refine jd ?_
  refine LWp.sim ?_ (Ud hrec2 h)
  exact xe (M := [((3, 0), (3, 0)), ((4, 0), (4, 0)), ((5, 0), (5, 0))]) rfl (SP rfl (SP rfl (AI (VS rfl) (SP rfl (S2 rfl rfl (AI (VS rfl) TT)))))) (AI (AI rfl (BVw.bld _ _ _ rfl)) (AI (AI rfl (BVw.buf _ _)) (AI (AI rfl (OL rfl)) (AI (AI rfl (OL rfl)) TT))))
noncomputable def xl (rec2 : GJ → (List UInt8) → Option (List UInt8)) (m : Option Nat) (v1 : List UInt8) (v8 : List UInt8) : Option (List UInt8) :=
 if (0 : Int) ≤ 1 ∧ 1 < (v1.length : Int) then
 if (0 ≤ (((v1.getD (1 : Int).toNat 0).toNat : Nat) : Int) ∧ (((v1.getD (1 : Int).toNat 0).toNat : Nat) : Int) < 256) ∧ v8.length + 1 ≤ 140737488355328 then
 some (v8 ++ [(((v1.getD (1 : Int).toNat 0).toNat : Nat) : Int).toNat.toUInt8])
 else none
 else none
noncomputable def zf (rec2 : GJ → (List UInt8) → Option (List UInt8)) (m : Option Nat) (a0 : GJ) (v1 : List UInt8) (v7 : Int) (v8 : List UInt8) : Option ((Int × (List UInt8)) ⊕ (List UInt8)) :=
 if (decide (v7 < ((a0.fE.map zz).length : Int))) = true then
  if (0 : Int) ≤ v7 ∧ v7 < ((a0.fE.map zz).length : Int) then
  ((um (a0.fE.getD v7.toNat default))).bind fun v14 =>
  if (decide (v7 > 0)) = true then
   if (0 ≤ (44 : Int) ∧ (44 : Int) < 256) ∧ v8.length + 1 ≤ 140737488355328 then
   y7 rec2 m a0 v1 v7 v14 (v8 ++ [(44 : Int).toNat.toUInt8])
   else none
  else
   y7 rec2 m a0 v1 v7 v14 v8
  else none
 else
  Option.map Sum.inr (
   xl rec2 m v1 v8)
noncomputable def zr (rec2 : GJ → (List UInt8) → Option (List UInt8)) (m : Option Nat) (a0 : GJ) (v1 : List UInt8) (v7 : Int) (v8 : List UInt8) : Option (List UInt8) := Zg m (fun (s : (Int × (List UInt8))) => zf rec2 m a0 v1 s.1 s.2) (v7, v8)
theorem z8k {rec2 : GJ → (List UInt8) → Option (List UInt8)} (hrec2 : Hr2 rec2) {a0 : GJ} {a1 : List UInt8} {v1 : List UInt8} {v8 : List UInt8} {m : Option Nat} {o : (List UInt8)} (h : xl rec2 m v1 v8 = some o) :
 LWp Tryd.prog wo 3 Vt (Ug a0 a1 o) [(0, .ptr (0, 0) 0 0), (4, .str v1)] [((0, 0), .bld 43 (3, 0)), ((3, 0), .buf 5 v8)] 4 := by
 unfold xl at h
 refine zc ?_
 obtain ⟨h34, h⟩ := z8 h
 refine AI h34 ?_
 obtain ⟨h35, h⟩ := z8 h
 refine js (b := (0, 0)) (g := (3, 0)) (bs := v8) (c := (((v1.getD (1 : Int).toNat 0).toNat : Nat) : Int)) jh rfl rfl h35 ?_
 cases h
 exact J6 (n' := 5) [((3, 0), (4, 0))] [] rfl rfl (VS rfl) (AI (AI rfl (BVw.bld _ _ _ rfl)) (AI (AI rfl (BVw.buf _ _)) TT))
theorem z56 {rec2 : GJ → (List UInt8) → Option (List UInt8)} (hrec2 : Hr2 rec2) {a1 : List UInt8} {a0 : GJ} {v1 : List UInt8} {v7 : Int} {v8 : List UInt8} {m : Option Nat} {o : (Int × (List UInt8)) ⊕ (List UInt8)} (h : zf rec2 m a0 v1 v7 v8 = some o) :
 LWp Tryd.prog wo 3 z35 (kx 3 5 (Zn a0 v1) (Yx a0 v1) (Xj a0 a1) o) [(0, .ptr (0, 0) 0 0), (3, .ptr (4, 0) 0 0), (4, .str v1), (15, .isl 5 (a0.fE.map zz) false), (16, i6 ((a0.fE.map zz).length : Int)), (17, i6 v7)] [((0, 0), .bld 43 (3, 0)), ((3, 0), .buf 5 v8), ((4, 0), .one (z6 a0))] 5 := by
 unfold zf at h
 refine za (zc ?_)
 refine za ?_
 refine qi (v := (decide (v7 < ((a0.fE.map zz).length : Int)))) rfl TT (fun h24 => ?_) (fun h24 => ?_)
 ·have h := zh h24 h
  refine jd ?_
  refine za ?_
  refine j6 ?_
  refine za (zc ?_)
  obtain ⟨h25, h⟩ := z8 h
  refine AI h25 ?_
  obtain ⟨v14, h26, h⟩ := bind_some h
  refine EX (z6 v14) (AI (vi (u6 zz h25) h26) (AI (AI (Y9 h25) (NB rfl)) ?_))
  refine za ?_
  refine za (zc ?_)
  refine LWp.sim (e := [(0, .ptr (0, 0) 0 0), (3, .ptr (3, 0) 0 0), (4, .str v1), (5, i6 v7), (6, .ptr (4, 0) 0 0), (15, .isl 5 (a0.fE.map zz) false), (16, i6 ((a0.fE.map zz).length : Int)), (17, i6 v7), (23, .bool (decide (v7 > 0)))]) (L := [((0, 0), .bld 43 (5, 0)), ((3, 0), .one (z6 a0)), ((4, 0), .one (z6 v14)), ((5, 0), .buf 5 v8)]) (n := 6) ?_ ?_
  ·exact xe (M := [((3, 0), (4, 0)), ((4, 0), (5, 0)), ((5, 0), (3, 0))]) rfl (SP rfl (SP rfl (S2 rfl rfl (SP rfl (S4 rfl rfl rfl rfl TT))))) (AI (AI rfl (BVw.bld _ _ _ rfl)) (AI (AI rfl (OL rfl)) (AI (AI rfl (OL rfl)) (AI (AI rfl (BVw.buf _ _)) TT))))
  refine qi (v := (decide (v7 > 0))) rfl TT (fun h27 => ?_) (fun h27 => ?_)
  ·have h := zh h27 h
   refine zc ?_
   obtain ⟨h28, h⟩ := z8 h
   refine js (b := (0, 0)) (g := (5, 0)) (bs := v8) (c := (44 : Int)) jh rfl rfl h28 ?_
   refine LWp.sim ?_ (z01 hrec2 h)
   exact xe (M := [((3, 0), (6, 0)), ((4, 0), (3, 0)), ((5, 0), (4, 0))]) rfl (SP rfl (SP rfl (S2 rfl rfl (SP rfl (S2 rfl rfl (AI (VS rfl) TT)))))) (AI (AI rfl (BVw.bld _ _ _ rfl)) (AI (AI rfl (BVw.buf _ _)) (AI (AI rfl (OL rfl)) (AI (AI rfl (OL rfl)) TT))))
  ·have h := zl h27 h
   refine jd ?_
   refine LWp.sim ?_ (z01 hrec2 h)
   exact xe (M := [((3, 0), (5, 0)), ((4, 0), (3, 0)), ((5, 0), (4, 0))]) rfl (SP rfl (SP rfl (S2 rfl rfl (SP rfl (S2 rfl rfl (AI (VS rfl) TT)))))) (AI (AI rfl (BVw.bld _ _ _ rfl)) (AI (AI rfl (BVw.buf _ _)) (AI (AI rfl (OL rfl)) (AI (AI rfl (OL rfl)) TT))))
 ·have h := zl h24 h
  refine Ji ?_
  obtain ⟨o, hq, rfl⟩ := Option.map_eq_some_iff.1 h
  replace h := hq; clear hq
  refine AI nofun ?_
  refine LWp.sim ?_ (z8k hrec2 h)
  exact xe (M := [((3, 0), (3, 0))]) rfl (SP rfl (AI (VS rfl) TT)) (AI (AI rfl (BVw.bld _ _ _ rfl)) (AI (AI rfl (BVw.buf _ _)) TT))
theorem z92 {rec2 : GJ → (List UInt8) → Option (List UInt8)} (hrec2 : Hr2 rec2) {a1 : List UInt8} {a0 : GJ} {v1 : List UInt8} {v7 : Int} {v8 : List UInt8} {m : Option Nat} {o : (List UInt8)} (h : zr rec2 m a0 v1 v7 v8 = some o) :
 LWp Tryd.prog wo 3 (.loop z35) (xq 0 (Qy Tryd.prog wo 3 Vt (Ug a0 a1 o))) [(0, .ptr (0, 0) 0 0), (3, .ptr (4, 0) 0 0), (4, .str v1), (15, .isl 5 (a0.fE.map zz) false), (16, i6 ((a0.fE.map zz).length : Int)), (17, i6 v7)] [((0, 0), .bld 43 (3, 0)), ((3, 0), .buf 5 v8), ((4, 0), .one (z6 a0))] 5 :=
 jt (m := m) (s := ((v7, v8) : (Int × (List UInt8)))) (r := o) (fun (s : (Int × (List UInt8))) => zf rec2 m a0 v1 s.1 s.2) (Zn a0 v1) (Yx a0 v1) (Xj a0 a1) (fun s o h => z56 hrec2 h) h
noncomputable def ql (rec2 : GJ → (List UInt8) → Option (List UInt8)) (m : Option Nat) (a0 : GJ) (a1 : List UInt8) (v1 : List UInt8) : Option (List UInt8) :=
 if (0 : Int) ≤ 0 ∧ 0 < (v1.length : Int) then
 if (0 ≤ (((v1.getD (0 : Int).toNat 0).toNat : Nat) : Int) ∧ (((v1.getD (0 : Int).toNat 0).toNat : Nat) : Int) < 256) ∧ a1.length + 1 ≤ 140737488355328 then
 zr rec2 m a0 v1 0 (a1 ++ [(((v1.getD (0 : Int).toNat 0).toNat : Nat) : Int).toNat.toUInt8])
 else none
 else none
theorem Kj {rec2 : GJ → (List UInt8) → Option (List UInt8)} (hrec2 : Hr2 rec2) {a0 : GJ} {a1 : List UInt8} {v1 : List UInt8} {m : Option Nat} {o : (List UInt8)} (h : ql rec2 m a0 a1 v1 = some o) :
 LWp Tryd.prog wo 3 z9i (Ug a0 a1 o) [(0, .ptr (0, 0) 0 0), (3, .ptr (4, 0) 0 0), (4, .str v1)] [((0, 0), .bld 43 (3, 0)), ((3, 0), .buf 5 a1), ((4, 0), .one (z6 a0))] 5 := by
 unfold ql at h
 refine za (zc ?_)
 obtain ⟨h2, h⟩ := z8 h
 refine AI h2 ?_
 obtain ⟨h3, h⟩ := z8 h
 refine js (b := (0, 0)) (g := (3, 0)) (bs := a1) (c := (((v1.getD (0 : Int).toNat 0).toNat : Nat) : Int)) jh rfl rfl h3 ?_
 refine za ?_
 refine za (zc ?_)
 refine LWp.sim (e := [(0, .ptr (0, 0) 0 0), (3, .ptr (3, 0) 0 0), (4, .str v1), (15, .isl 5 (a0.fE.map zz) false), (16, i6 ((a0.fE.map zz).length : Int)), (17, i6 0)]) (L := [((0, 0), .bld 43 (4, 0)), ((3, 0), .one (z6 a0)), ((4, 0), .buf 5 (a1 ++ [(((v1.getD (0 : Int).toNat 0).toNat : Nat) : Int).toNat.toUInt8]))]) (n := 5) ?_ ?_
 ·exact xe (M := [((3, 0), (4, 0)), ((4, 0), (5, 0))]) rfl (SP rfl (SP rfl (S4 rfl rfl rfl rfl TT))) (AI (AI rfl (BVw.bld _ _ _ rfl)) (AI (AI rfl (OL rfl)) (AI (AI rfl (BVw.buf _ _)) TT)))
 refine j6 ?_
 refine LWp.sim ?_ (z92 hrec2 h)
 exact xe (M := [((3, 0), (4, 0)), ((4, 0), (3, 0))]) rfl (SP rfl (SP rfl (S4 rfl rfl rfl rfl TT))) (AI (AI rfl (BVw.bld _ _ _ rfl)) (AI (AI rfl (BVw.buf _ _)) (AI (AI rfl (OL rfl)) TT)))
noncomputable def x8 (rec2 : GJ → (List UInt8) → Option (List UInt8)) (m : Option Nat) (a0 : GJ) (a1 : List UInt8) : Option (List UInt8) :=
 if (a0.fK == 5) = true then
  ql rec2 m a0 a1 ([123, 125] : List UInt8)
 else
  ql rec2 m a0 a1 ([91, 93] : List UInt8)
theorem z8i {rec2 : GJ → (List UInt8) → Option (List UInt8)} (hrec2 : Hr2 rec2) {a0 : GJ} {a1 : List UInt8} {m : Option Nat} {o : (List UInt8)} (h : x8 rec2 m a0 a1 = some o) : LWp Tryd.prog wo 3 za2 (Ug a0 a1 o) (qx 0 [.ptr (0, 0) 0 0, .agg (z6 a0)]) [((0, 0), .bld 43 (0, 1)), ((0, 1), .buf 5 a1)] 3 := by
 unfold x8 at h
 refine za (zc ?_)
 refine za (zc ?_)
 refine za ?_
 refine za (zc ?_)
 refine qi (v := (a0.fK == 5)) rfl TT (fun h1 => ?_) (fun h1 => ?_)
 ·have h := zh h1 h
  refine zc ?_
  refine LWp.sim ?_ (Kj hrec2 h)
  exact xe (M := [((3, 0), (0, 1)), ((4, 0), (3, 0))]) rfl (SP rfl (SP rfl (AI (VS rfl) TT))) (AI (AI rfl (BVw.bld _ _ _ rfl)) (AI (AI rfl (BVw.buf _ _)) (AI (AI rfl (OL rfl)) TT)))
 ·have h := zl h1 h
  refine jd ?_
  refine LWp.sim ?_ (Kj hrec2 h)
  exact xe (M := [((3, 0), (0, 1)), ((4, 0), (3, 0))]) rfl (SP rfl (SP rfl (AI (VS rfl) TT))) (AI (AI rfl (BVw.bld _ _ _ rfl)) (AI (AI rfl (BVw.buf _ _)) (AI (AI rfl (OL rfl)) TT)))
theorem zkg {rec2 : GJ → (List UInt8) → Option (List UInt8)} (hrec2 : Hr2 rec2) {a0 : GJ} {a1 : List UInt8} {m : Option Nat} {o : (List UInt8)} (h : x8 rec2 m a0 a1 = some o) : ACalls Tryd.prog 41 [.ptr (0, 0) 0 0, .agg (z6 a0)] [((0, 0), .bld 43 (0, 1)), ((0, 1), .buf 5 a1)] 3 (wg 4 (.tup []) [((0, 0), .bld 43 (3, 0)), ((3, 0), .buf 5 o)]) := Yz (L := zg8) zdc zde (NB rfl) (z8i hrec2 h)
def zaf : LCode := (.seq (.region [Qo 3 (.box (.t 1))])
 (.seq (.region [Qf 4 0 3,
  Ql 5 1 4])
 (.block 0
  (.seq (.region [Qo 10 (.bin .eql (.t 5) (.c (i6 0))),
   Qm 9 10])
  (.cond (.t 9)
   (.region [Qm 11 0,
    Qo 12 (.call 37 [(.t 11), (.c (.str [110, 117, 108, 108]))])])
   (.seq (.region [Qo 14 (.bin .eql (.t 5) (.c (i6 1))),
    Qm 13 14])
   (.cond (.t 13)
    (.region [Qm 15 0,
     Qf 16 1 3,
     Ql 17 1 16,
     Qo 18 (.bin .eql (.t 17) (.c (i6 1))),
     Qc 19 38 18,
     Qo 20 (.call 37 [(.t 15), (.t 19)])])
    (.seq (.region [Qo 22 (.bin .eql (.t 5) (.c (i6 2))),
     Qm 21 22])
    (.cond (.t 21)
     (.region [Qm 23 0,
      Qf 24 1 3,
      Ql 25 1 24,
      Qc 26 39 25,
      Qo 27 (.call 37 [(.t 23), (.t 26)])])
     (.seq (.region [Qo 29 (.bin .eql (.t 5) (.c (i6 3))),
      Qm 28 29])
     (.cond (.t 28)
      (.region [Qm 30 0,
       Qf 31 2 3,
       Ql 32 1 31,
       Qo 33 (.call 40 [(.t 30), (.t 32)])])
      (.region [Qm 6 0,
       Qt 7 5 3,
       Qo 8 (.call 41 [(.t 6), (.t 7)])]))))))))))))
def z6r : Lay := ⟨34, [], false⟩
def z6g : List LRes := []
def zek : LFn := ⟨2, z6r, zaf, z6g⟩
theorem zhs : wz Tryd.prog [] 17 = some zek := by kernel_rfl
theorem zd2 : Zk Tryd.prog 17 := ⟨_, Tryd.func17, rfl, rfl⟩
noncomputable def xc (rec2 : GJ → (List UInt8) → Option (List UInt8)) (m : Option Nat) (a0 : GJ) (a1 : List UInt8) : Option (List UInt8) :=
 if (a0.fK == 0) = true then
  if a1.length + ([110, 117, 108, 108] : List UInt8).length ≤ 140737488355328 then
  some (a1 ++ ([110, 117, 108, 108] : List UInt8))
  else none
 else
  if (a0.fK == 1) = true then
   (jn m (a0.fN == 1)).bind fun v1 =>
   if a1.length + v1.length ≤ 140737488355328 then
   some (a1 ++ v1)
   else none
  else
   if (a0.fK == 2) = true then
    (wv m a0.fN).bind fun v2 =>
    if a1.length + v2.length ≤ 140737488355328 then
    some (a1 ++ v2)
    else none
   else
    if (a0.fK == 3) = true then
     (qy m a0.fT a1).bind fun v3 =>
     some v3
    else
     (x8 rec2 m a0 a1).bind fun v4 =>
     some v4
def zmy (a0 : GJ) (a1 : List UInt8) (o : (List UInt8)) : Exit → Env → AHeap → Nat → Prop := Jj z6g (Xn 3 4 (.tup []) [((0, 0), .bld 43 (3, 0)), ((3, 0), .buf 5 o)])
theorem z7c {rec2 : GJ → (List UInt8) → Option (List UInt8)} (hrec2 : Hr2 rec2) {a0 : GJ} {a1 : List UInt8} {m : Option Nat} {o : (List UInt8)} (h : xc rec2 m a0 a1 = some o) : LWp Tryd.prog z6r 3 zaf (zmy a0 a1 o) (qx 0 [.ptr (0, 0) 0 0, .agg (z6 a0)]) [((0, 0), .bld 43 (0, 1)), ((0, 1), .buf 5 a1)] 3 := by
 unfold xc at h
 refine za (zc ?_)
 refine za (zc ?_)
 refine j6 ?_
 refine za (zc ?_)
 refine qi (v := (a0.fK == 0)) rfl TT (fun h1 => ?_) (fun h1 => ?_)
 ·have h := zh h1 h
  refine zc ?_
  obtain ⟨h2, h⟩ := z8 h
  refine X4 (b := (0, 0)) (g := (0, 1)) (bs := a1) uf rfl rfl h2 ?_
  cases h
  exact J6 (n' := 5) [((3, 0), (4, 0))] [] rfl rfl (VS rfl) (AI (AI rfl (BVw.bld _ _ _ rfl)) (AI (AI rfl (BVw.buf _ _)) TT))
 ·have h := zl h1 h
  refine za (zc ?_)
  refine qi (v := (a0.fK == 1)) rfl TT (fun h3 => ?_) (fun h3 => ?_)
  ·have h := zh h3 h
   refine zc ?_
   obtain ⟨v1, h4, h⟩ := bind_some h
   refine PFn.call (zqc h4) (AI (VS rfl) TT) ?_
   obtain ⟨h5, h⟩ := z8 h
   refine X4 (b := (0, 0)) (g := (0, 1)) (bs := a1) uf rfl rfl h5 ?_
   cases h
   exact J6 (n' := 5) [((3, 0), (4, 0))] [] rfl rfl (VS rfl) (AI (AI rfl (BVw.bld _ _ _ rfl)) (AI (AI rfl (BVw.buf _ _)) TT))
  ·have h := zl h3 h
   refine za (zc ?_)
   refine LWp.sim (e := [(0, .ptr (0, 0) 0 0), (3, .ptr (3, 0) 0 0), (5, i6 a0.fK), (21, .bool (a0.fK == 2))]) (L := [((0, 0), .bld 43 (0, 1)), ((0, 1), .buf 5 a1), ((3, 0), .one (z6 a0))]) (n := 4) ?_ ?_
   ·exact xe (M := [((3, 0), (3, 0))]) rfl (SP rfl (SP rfl (S2 rfl rfl TT))) (AI (AI rfl (BVw.bld _ _ _ rfl)) (AI (AI rfl (BVw.buf _ _)) (AI (AI rfl (OL rfl)) TT)))
   refine qi (v := (a0.fK == 2)) rfl TT (fun h6 => ?_) (fun h6 => ?_)
   ·have h := zh h6 h
    refine zc ?_
    obtain ⟨v2, h7, h⟩ := bind_some h
    refine PFn.call (zrl h7) (AI (VS rfl) TT) ?_
    obtain ⟨h8, h⟩ := z8 h
    refine X4 (b := (0, 0)) (g := (0, 1)) (bs := a1) uf rfl rfl h8 ?_
    cases h
    exact J6 (n' := 5) [((3, 0), (4, 0))] [] rfl rfl (VS rfl) (AI (AI rfl (BVw.bld _ _ _ rfl)) (AI (AI rfl (BVw.buf _ _)) TT))
   ·have h := zl h6 h
    refine za (zc ?_)
    refine qi (v := (a0.fK == 3)) rfl TT (fun h9 => ?_) (fun h9 => ?_)
    ·have h := zh h9 h
     refine zc ?_
     obtain ⟨v3, h10, h⟩ := bind_some h
     refine Zy (k := 3) (m := 1) (L' := [((0, 0), .bld 43 (4, 0)), ((4, 0), .buf 5 v3)]) (rest := [((3, 0), .one (z6 a0))]) (R' := .tup []) [((0, 0), (0, 0)), ((0, 1), (0, 1))] (za8 h10) rfl rfl rfl (SP rfl (AI (VS rfl) TT)) (AI (h0I (0, 0) rfl rfl (BVw.bld _ _ _ rfl)) (AI (h0I (0, 1) rfl rfl (BVw.buf _ _)) TT)) (jm _ rfl) (AI rfl (AI rfl (AI rfl (AI rfl TT)))) rfl ?_
     cases h
     exact J6 (n' := 6) [((3, 0), (4, 0))] [] rfl rfl (VS rfl) (AI (AI rfl (BVw.bld _ _ _ rfl)) (AI (AI rfl (BVw.buf _ _)) TT))
    ·have h := zl h9 h
     refine zc ?_
     obtain ⟨v4, h11, h⟩ := bind_some h
     refine Zy (k := 3) (m := 1) (L' := [((0, 0), .bld 43 (4, 0)), ((4, 0), .buf 5 v4)]) (rest := [((3, 0), .one (z6 a0))]) (R' := .tup []) [((0, 0), (0, 0)), ((0, 1), (0, 1))] (zkg hrec2 h11) rfl rfl rfl (SP rfl (AI (VS rfl) TT)) (AI (h0I (0, 0) rfl rfl (BVw.bld _ _ _ rfl)) (AI (h0I (0, 1) rfl rfl (BVw.buf _ _)) TT)) (jm _ rfl) (AI rfl (AI rfl (AI rfl (AI rfl TT)))) rfl ?_
     cases h
     exact J6 (n' := 6) [((3, 0), (4, 0))] [] rfl rfl (VS rfl) (AI (AI rfl (BVw.bld _ _ _ rfl)) (AI (AI rfl (BVw.buf _ _)) TT))
theorem zjs {rec2 : GJ → (List UInt8) → Option (List UInt8)} (hrec2 : Hr2 rec2) {a0 : GJ} {a1 : List UInt8} {m : Option Nat} {o : (List UInt8)} (h : xc rec2 m a0 a1 = some o) : ACalls Tryd.prog 17 [.ptr (0, 0) 0 0, .agg (z6 a0)] [((0, 0), .bld 43 (0, 1)), ((0, 1), .buf 5 a1)] 3 (wg 4 (.tup []) [((0, 0), .bld 43 (3, 0)), ((3, 0), .buf 5 o)]) := Yz (L := zek) zhs zd2 (NB rfl) (z7c hrec2 h)
noncomputable def xj (m : Option Nat) : Nat → GJ → (List UInt8) → Option (List UInt8)
 | 0 => fun _ _ => none
 | k + 1 => xc (xj m k) m
noncomputable def wl (m : Option Nat) (a0 : GJ) (a1 : List UInt8) : Option (List UInt8) := zd1 m (fun k => xj m k a0 a1)
theorem z5h {m : Option Nat} : ∀ (k : Nat) {a0 : GJ} {a1 : List UInt8} {o : (List UInt8)}, xj m k a0 a1 = some o → ACalls Tryd.prog 17 [.ptr (0, 0) 0 0, .agg (z6 a0)] [((0, 0), .bld 43 (0, 1)), ((0, 1), .buf 5 a1)] 3 (wg 4 (.tup []) [((0, 0), .bld 43 (3, 0)), ((3, 0), .buf 5 o)])
 | 0, _, _, _, h => nomatch h
 | k + 1, _, _, _, h => zjs (fun h => z5h k h) h
theorem zhb {a0 : GJ} {a1 : List UInt8} {m : Option Nat} {o : (List UInt8)} (h : wl m a0 a1 = some o) : ACalls Tryd.prog 17 [.ptr (0, 0) 0 0, .agg (z6 a0)] [((0, 0), .bld 43 (0, 1)), ((0, 1), .buf 5 a1)] 3 (wg 4 (.tup []) [((0, 0), .bld 43 (3, 0)), ((3, 0), .buf 5 o)]) := (Z3 h).elim fun k h => z5h k h
def zr4 : LCode := (.seq (.region [Qo 1 (.box (.t 0)),
 Qo 2 (.mv (.c (.str []))),
 Qi 3 0])
 (.seq (.seq (.region [Qt 6 5 1,
  Qc 7 9 6,
  Qm 4 7])
 (.seq (.region [Qm 8 4,
  Qo 9 (.bin .neq (.t 8) (.c (i6 0)))])
 (.cond (.t 9)
  (.seq (.region [Qm 10 4,
   Qo 2 (.mv (.c (.str []))),
   Qm 3 10])
  .ret)
  .skip)))
 (.seq (.region [Qo 5 (.allocB 43 5)])
 (.seq (.region [Qt 11 5 1,
  Qo 12 (.call 17 [(.t 5), (.t 11)])])
 (.seq (.seq (.region [Qc 13 18 5,
  Qo 14 (.bin .gtr (.t 13) (.c (i6 4000)))])
 (.cond (.t 14)
  (.seq (.region [Qo 2 (.mv (.c (.str []))),
   Qi 3 2])
  .ret)
  .skip))
 (.seq (.region [Qc 15 19 5,
  Qm 2 15,
  Qi 3 0])
 .ret))))))
def zlt : Lay := ⟨16, [5], false⟩
def zl8 : List LRes := [.t 2, .t 3]
def zt7 : LFn := ⟨1, zlt, zr4, zl8⟩
theorem zqf : wz Tryd.prog [5] 7 = some zt7 := by kernel_rfl
theorem zqe : Zk Tryd.prog 7 := ⟨_, Tryd.func7, rfl, rfl⟩
noncomputable def wr (m : Option Nat) (a0 : GJ) : Option ((List UInt8) × Int) :=
 (xw m a0).bind fun v1 =>
 if (v1 != 0) = true then
  some (([] : List UInt8), v1)
 else
  (wl m a0 ([] : List UInt8)).bind fun v2 =>
  if (decide ((v2.length : Int) > 4000)) = true then
   some (([] : List UInt8), 2)
  else
   if v2.length ≤ 9223372036854775807 then
   some (v2, 0)
   else none
def ztr (a0 : GJ) (o : (List UInt8) × Int) : Exit → Env → AHeap → Nat → Prop := Jj zl8 (vl (.tup [.str o.1, i6 o.2]))
theorem zjd {a0 : GJ} {m : Option Nat} {o : (List UInt8) × Int} (h : wr m a0 = some o) : LWp Tryd.prog zlt 0 zr4 (ztr a0 o) (qx 0 [.agg (z6 a0)]) [] 0 := by
 unfold wr at h
 refine za (zc ?_)
 refine za ?_
 refine za (zc ?_)
 obtain ⟨v1, h1, h⟩ := bind_some h
 refine PFn.call (zqq h1) (AI (VS rfl) TT) ?_
 refine za (zc ?_)
 refine LWp.sim (e := [(1, .ptr (0, 0) 0 0), (4, i6 v1), (9, .bool (v1 != 0))]) (L := [((0, 0), .one (z6 a0))]) (n := 1) ?_ ?_
 ·exact xe (M := [((0, 0), (0, 0))]) rfl (SP rfl (S2 rfl rfl TT)) (AI (AI rfl (OL rfl)) TT)
 refine qi (v := (v1 != 0)) rfl TT (fun h2 => ?_) (fun h2 => ?_)
 ·have h := zh h2 h
  refine za (zc ?_)
  refine kl ?_
  cases h
  exact AI TT (AI TT (AI rfl (VS rfl)))
 ·have h := zl h2 h
  refine jd ?_
  refine za (zc ?_)
  refine za (zc ?_)
  obtain ⟨v2, h3, h⟩ := bind_some h
  refine Zy (k := 3) (m := 1) (L' := [((1, 0), .bld 43 (2, 0)), ((2, 0), .buf 5 v2)]) (rest := [((0, 0), .one (z6 a0))]) (R' := .tup []) [((0, 0), (1, 0)), ((0, 1), (1, 1))] (zhb h3) rfl rfl rfl (SP rfl (AI (VS rfl) TT)) (AI (h0I (1, 0) rfl rfl (BVw.bld _ _ _ rfl)) (AI (h0I (1, 1) rfl rfl (BVw.buf _ _)) TT)) (jm _ rfl) (AI rfl (AI rfl (AI rfl (AI rfl TT)))) rfl ?_
  refine za ?_
  refine za (zc ?_)
  refine zed (b := (1, 0)) (g := (2, 0)) (bs := v2) zt4 rfl rfl ?_
  refine qi (v := (decide ((v2.length : Int) > 4000))) rfl TT (fun h4 => ?_) (fun h4 => ?_)
  ·have h := zh h4 h
   refine za (zc ?_)
   refine kl ?_
   cases h
   exact AI TT (AI TT (AI rfl (VS rfl)))
  ·have h := zl h4 h
   refine jd ?_
   refine za (zc ?_)
   obtain ⟨h5, h⟩ := z8 h
   refine z0r (b := (1, 0)) (g := (2, 0)) (bs := v2) zfk rfl rfl h5 ?_
   refine LWp.sim (e := [(2, .str v2), (3, i6 0)]) (L := []) (n := 0) ?_ ?_
   ·exact xe (M := []) rfl (S2 rfl rfl TT) TT
   refine kl ?_
   cases h
   exact AI TT (AI TT (AI rfl (VS rfl)))
theorem zsa {a0 : GJ} {m : Option Nat} {o : (List UInt8) × Int} (h : wr m a0 = some o) : PFn Tryd.prog 7 [.agg (z6 a0)] (.tup [.str o.1, i6 o.2]) := PFn.ofFnW (L := zt7) zqf zqe (NB rfl) rfl (zjd h)
def z3p : LCode := (.seq (.region [Qo 12 (.bin .lss (.t 11) (.t 10))])
 (.seq (.cond (.t 12)
  .skip
  (.exit 0))
 (.seq (.block 1
  (.seq (.region [Qo 13 (.iaddr 5 (.t 9) (.t 11)),
   Qt 14 5 13,
   Qo 5 (.alloc [(i6 0), (i6 0), (.str []), (.isl 1 [] true), (.isl 5 [] true)]),
   ⟨none, .store 5 (.t 5) (.t 14), none⟩])
  (.seq (.region [Qt 16 5 5,
   Qc 17 20 16,
   Qm 15 17,
   Qo 18 (.ext 0 (.t 15)),
   Qo 19 (.ext 1 (.t 15)),
   Qm 6 18,
   Qm 7 19])
  (.seq (.region [Qm 20 2,
   Qm 21 6,
   Qo 22 (.bin .add (.t 20) (.t 21)),
   Qm 2 22])
  (.region [Qm 23 3,
   Qm 24 7,
   Qo 25 (.mnx true [(.t 23), (.t 24)]),
   Qm 3 25])))))
 (.region [Qo 26 (.bin .add (.t 11) (.c (i6 1))),
  Qm 11 26]))))
def Ke : LCode := (.seq (.region [Qm 27 2,
 Qm 28 3,
 Qo 29 (.bin .add (.t 28) (.c (i6 1))),
 Qm 2 27,
 Qm 3 29])
 .ret)
def z9a : LCode := (.seq (.region [Qo 1 (.box (.t 0)),
 Qi 2 0,
 Qi 3 0])
 (.seq (.region [Qi 2 1,
  Qi 3 0])
 (.seq (.seq (.region [Qf 8 4 1,
  Ql 9 1 8,
  Qo 10 (.len false (.t 9)),
  Qi 11 0])
 (.block 0
  (.loop
   z3p)))
 Ke)))
def Zf : Lay := ⟨30, [], false⟩
def z42 : List LRes := [.t 2, .t 3]
def zhm : LFn := ⟨1, Zf, z9a, z42⟩
theorem zi1 : wz Tryd.prog [] 20 = some zhm := by kernel_rfl
theorem zfn : Zk Tryd.prog 20 := ⟨_, Tryd.func20, rfl, rfl⟩
def z30 (a0 : GJ) (o : Int × Int) : Exit → Env → AHeap → Nat → Prop := Jj z42 (Xn 3 3 (.tup [i6 o.1, i6 o.2]) [])
def Vb (a0 : GJ) (s : (Int × Int × Int)) : Env := [(2, i6 s.1), (3, i6 s.2.1), (9, .isl 5 (a0.fE.map zz) false), (10, i6 ((a0.fE.map zz).length : Int)), (11, i6 s.2.2)]
def Ku (a0 : GJ) (s : (Int × Int × Int)) : AHeap := []
def z0o (a0 : GJ) (o : (Int × Int)) : Exit → Env → AHeap → Nat → Prop := (xq 0 (Qy Tryd.prog Zf 3 Ke (z30 a0 o)))
noncomputable def xf (rec3 : GJ → Option (Int × Int)) (m : Option Nat) (v3 : Int) (v4 : Int) : Option (Int × Int) :=
 some (v3, (W (v4 + 1)))
noncomputable def y3 (rec3 : GJ → Option (Int × Int)) (m : Option Nat) (a0 : GJ) (v3 : Int) (v4 : Int) (v5 : Int) : Option ((Int × Int × Int) ⊕ (Int × Int)) :=
 if (decide (v5 < ((a0.fE.map zz).length : Int))) = true then
  if (0 : Int) ≤ v5 ∧ v5 < ((a0.fE.map zz).length : Int) then
  ((um (a0.fE.getD v5.toNat default))).bind fun v8 =>
  (rec3 v8).bind fun v9 =>
  some (.inl ((W (v3 + v9.1)), (if v9.2 > v4 then v9.2 else v4), (W (v5 + 1))))
  else none
 else
  Option.map Sum.inr (
   xf rec3 m v3 v4)
noncomputable def yr (rec3 : GJ → Option (Int × Int)) (m : Option Nat) (a0 : GJ) (v3 : Int) (v4 : Int) (v5 : Int) : Option (Int × Int) := Zg m (fun (s : (Int × Int × Int)) => y3 rec3 m a0 s.1 s.2.1 s.2.2) (v3, v4, v5)
abbrev Hr3 (rec3 : GJ → Option (Int × Int)) : Prop := ∀ {a0 : GJ} {o : Int × Int}, rec3 a0 = some o → ACalls Tryd.prog 20 [.agg (z6 a0)] [] 3 (wg 3 (.tup [i6 o.1, i6 o.2]) [])
theorem z7r {rec3 : GJ → Option (Int × Int)} (hrec3 : Hr3 rec3) {a0 : GJ} {v3 : Int} {v4 : Int} {m : Option Nat} {o : (Int × Int)} (h : xf rec3 m v3 v4 = some o) :
 LWp Tryd.prog Zf 3 Ke (z30 a0 o) [(2, i6 v3), (3, i6 v4)] [] 3 := by
 unfold xf at h
 refine za (zc ?_)
 refine kl ?_
 cases h
 exact AI TT (AI TT (J6 (n' := 3) [] [] rfl rfl (VS rfl) TT))
theorem z5a {rec3 : GJ → Option (Int × Int)} (hrec3 : Hr3 rec3) {a0 : GJ} {v3 : Int} {v4 : Int} {v5 : Int} {m : Option Nat} {o : (Int × Int × Int) ⊕ (Int × Int)} (h : y3 rec3 m a0 v3 v4 v5 = some o) :
 LWp Tryd.prog Zf 3 z3p (kx 3 3 (Vb a0) (Ku a0) (z0o a0) o) [(2, i6 v3), (3, i6 v4), (9, .isl 5 (a0.fE.map zz) false), (10, i6 ((a0.fE.map zz).length : Int)), (11, i6 v5)] [] 3 := by
 unfold y3 at h
 refine za (zc ?_)
 refine za ?_
 refine qi (v := (decide (v5 < ((a0.fE.map zz).length : Int)))) rfl TT (fun h9 => ?_) (fun h9 => ?_)
 ·have h := zh h9 h
  refine jd ?_
  refine za ?_
  refine j6 ?_
  refine za (zc ?_)
  obtain ⟨h10, h⟩ := z8 h
  refine AI h10 ?_
  obtain ⟨v8, h11, h⟩ := bind_some h
  refine EX (z6 v8) (AI (vi (u6 zz h10) h11) (AI (AI (Y9 h10) (NB rfl)) ?_))
  refine za (zc ?_)
  obtain ⟨v9, h12, h⟩ := bind_some h
  refine Zy (k := 3) (m := 0) (L' := []) (rest := [((3, 0), .one (z6 v8))]) (R' := .tup [i6 v9.1, i6 v9.2]) [] (hrec3 h12) rfl rfl rfl (AI (VS rfl) TT) TT (jm _ rfl) TT rfl ?_
  refine LWp.sim (e := [(2, i6 v3), (3, i6 v4), (6, i6 v9.1), (7, i6 v9.2), (9, .isl 5 (a0.fE.map zz) false), (10, i6 ((a0.fE.map zz).length : Int)), (11, i6 v5)]) (L := []) (n := 3) ?_ ?_
  ·exact xe (M := []) rfl (S4 rfl rfl rfl rfl (S2 rfl rfl (AI (VS rfl) TT))) TT
  refine za (zc ?_)
  refine zc ?_
  refine LWp.sim (e := [(2, i6 (W (v3 + v9.1))), (3, i6 (if v9.2 > v4 then v9.2 else v4)), (9, .isl 5 (a0.fE.map zz) false), (10, i6 ((a0.fE.map zz).length : Int)), (11, i6 v5)]) (L := []) (n := 3) ?_ ?_
  ·exact xe (M := []) rfl (S4 rfl rfl rfl rfl (AI (VS rfl) TT)) TT
  refine zc ?_
  cases h
  exact AI rfl (xe (M := []) rfl (S4 rfl rfl rfl rfl (AI (VS rfl) TT)) TT)
 ·have h := zl h9 h
  refine Ji ?_
  obtain ⟨o, hq, rfl⟩ := Option.map_eq_some_iff.1 h
  replace h := hq; clear hq
  refine AI nofun ?_
  refine LWp.sim ?_ (z7r hrec3 h)
  exact xe (M := []) rfl (S2 rfl rfl TT) TT
theorem z7v {rec3 : GJ → Option (Int × Int)} (hrec3 : Hr3 rec3) {a0 : GJ} {v3 : Int} {v4 : Int} {v5 : Int} {m : Option Nat} {o : (Int × Int)} (h : yr rec3 m a0 v3 v4 v5 = some o) :
 LWp Tryd.prog Zf 3 (.loop z3p) (xq 0 (Qy Tryd.prog Zf 3 Ke (z30 a0 o))) [(2, i6 v3), (3, i6 v4), (9, .isl 5 (a0.fE.map zz) false), (10, i6 ((a0.fE.map zz).length : Int)), (11, i6 v5)] [] 3 :=
 jt (m := m) (s := ((v3, v4, v5) : (Int × Int × Int))) (r := o) (fun (s : (Int × Int × Int)) => y3 rec3 m a0 s.1 s.2.1 s.2.2) (Vb a0) (Ku a0) (z0o a0) (fun s o h => z5a hrec3 h) h
noncomputable def ym (rec3 : GJ → Option (Int × Int)) (m : Option Nat) (a0 : GJ) : Option (Int × Int) :=
 yr rec3 m a0 1 0 0
theorem z8d {rec3 : GJ → Option (Int × Int)} (hrec3 : Hr3 rec3) {a0 : GJ} {m : Option Nat} {o : Int × Int} (h : ym rec3 m a0 = some o) : LWp Tryd.prog Zf 3 z9a (z30 a0 o) (qx 0 [.agg (z6 a0)]) [] 3 := by
 unfold ym at h
 refine za (zc ?_)
 refine za (zc ?_)
 refine za ?_
 refine za (zc ?_)
 refine LWp.sim (e := [(2, i6 1), (3, i6 0), (9, .isl 5 (a0.fE.map zz) false), (10, i6 ((a0.fE.map zz).length : Int)), (11, i6 0)]) (L := []) (n := 3) ?_ ?_
 ·exact xe (M := []) rfl (S4 rfl rfl rfl rfl (AI (VS rfl) TT)) TT
 refine j6 ?_
 refine LWp.sim ?_ (z7v hrec3 h)
 exact xe (M := []) rfl (S4 rfl rfl rfl rfl (AI (VS rfl) TT)) TT
theorem zax {rec3 : GJ → Option (Int × Int)} (hrec3 : Hr3 rec3) {a0 : GJ} {m : Option Nat} {o : Int × Int} (h : ym rec3 m a0 = some o) : ACalls Tryd.prog 20 [.agg (z6 a0)] [] 3 (wg 3 (.tup [i6 o.1, i6 o.2]) []) := Yz (L := zhm) zi1 zfn (NB rfl) (z8d hrec3 h)
noncomputable def yw (m : Option Nat) : Nat → GJ → Option (Int × Int)
 | 0 => fun _ => none
 | k + 1 => ym (yw m k) m
noncomputable def jg (m : Option Nat) (a0 : GJ) : Option (Int × Int) := zd1 m (fun k => yw m k a0)
theorem z5t {m : Option Nat} : ∀ (k : Nat) {a0 : GJ} {o : Int × Int}, yw m k a0 = some o → ACalls Tryd.prog 20 [.agg (z6 a0)] [] 3 (wg 3 (.tup [i6 o.1, i6 o.2]) [])
 | 0, _, _, h => nomatch h
 | k + 1, _, _, h => zax (fun h => z5t k h) h
theorem zi9 {a0 : GJ} {m : Option Nat} {o : Int × Int} (h : jg m a0 = some o) : ACalls Tryd.prog 20 [.agg (z6 a0)] [] 3 (wg 3 (.tup [i6 o.1, i6 o.2]) []) := (Z3 h).elim fun k h => z5t k h
noncomputable def wn (m : Option Nat) (a0 : GJ) : Option (Int × Int) := ym (jg m) m a0
theorem zqh {a0 : GJ} {m : Option Nat} {o : Int × Int} (h : wn m a0 = some o) : PFn Tryd.prog 20 [.agg (z6 a0)] (.tup [i6 o.1, i6 o.2]) :=
 ⟨rfl, _, Zy (k := 3) (m := 0) (L' := []) (rest := []) (R' := .tup [i6 o.1, i6 o.2]) [] (zax zi9 h) rfl rfl rfl (AI (VS rfl) TT) TT (jm _ rfl) TT rfl ⟨rfl, rfl, rfl⟩⟩
def zm7 : LCode := (.seq (.region [Qm 34 4,
 Qo 35 (.bin .eql (.t 34) (.c (.int .u8 237)))])
 (.cond (.t 35)
  (.region [Qo 6 (.mv (.c (.int .u8 159)))])
  .skip))
def zm2 : LCode := (.seq (.region [Qm 45 4,
 Qo 46 (.bin .eql (.t 45) (.c (.int .u8 244)))])
 (.cond (.t 46)
  (.region [Qo 6 (.mv (.c (.int .u8 143)))])
  .skip))
def zhv : LCode := (.seq (.region [Qo 51 (.bin .lss (.t 50) (.t 49))])
 (.seq (.cond (.t 51)
  .skip
  (.exit 3))
 (.seq (.block 4
  (.seq (.seq (.region [Qm 52 3,
   Qm 53 0,
   Qo 54 (.len true (.t 53)),
   Qo 55 (.bin .geq (.t 52) (.t 54)),
   Qm 56 55,
   Qn 57 0 (56, false),
   Qn 58 3 (56, false),
   Qg 59 (.idxS (.t 57) (.t 58)) (56, false),
   Qn 60 5 (56, false),
   Qg 61 (.bin .lss (.t 59) (.t 60)) (56, false),
   Qo 62 (.pick (.t 56) (.c (.bool true)) (.t 61)),
   Qm 63 62,
   Qn 64 0 (63, false),
   Qn 65 3 (63, false),
   Qg 66 (.idxS (.t 64) (.t 65)) (63, false),
   Qn 67 6 (63, false),
   Qg 68 (.bin .gtr (.t 66) (.t 67)) (63, false),
   Qo 69 (.pick (.t 63) (.c (.bool true)) (.t 68))])
  (.cond (.t 69)
   (.seq (.region [Qb 2])
   .ret)
   .skip))
  (.seq (.region [Qo 5 (.mv (.c (.int .u8 128))),
   Qo 6 (.mv (.c (.int .u8 191)))])
  (.region [Qm 70 3,
   Qo 71 (.bin .add (.t 70) (.c (i6 1))),
   Qm 3 71]))))
 (.region [Qo 72 (.bin .add (.t 50) (.c (i6 1))),
  Qm 50 72]))))
def zam : LCode := (.seq (.region [Qm 47 3,
 Qo 48 (.bin .add (.t 47) (.c (i6 1))),
 Qm 3 48])
 (.seq (.region [Qm 49 7,
  Qi 50 0])
 (.block 3
  (.loop
   zhv))))
def zgq : LCode := (.seq (.seq (.region [Qm 8 3,
 Qm 9 0,
 Qo 10 (.len true (.t 9)),
 Qo 11 (.bin .lss (.t 8) (.t 10))])
 (.cond (.t 11)
  .skip
  (.exit 0)))
 (.block 1
  (.seq (.region [Qm 12 0,
   Qm 13 3,
   Qo 14 (.idxS (.t 12) (.t 13)),
   Qm 4 14])
  (.seq (.region [Qo 5 (.mv (.c (.int .u8 128))),
   Qo 6 (.mv (.c (.int .u8 191))),
   Qi 7 0])
  (.seq (.block 2
   (.seq (.region [Qm 16 4,
    Qo 17 (.bin .lss (.t 16) (.c (.int .u8 128))),
    Qm 15 17])
   (.cond (.t 15)
    .skip
    (.seq (.region [Qm 19 4,
     Qo 20 (.bin .geq (.t 19) (.c (.int .u8 194))),
     Qm 21 20,
     Qn 22 4 (21, true),
     Qg 23 (.bin .leq (.t 22) (.c (.int .u8 223))) (21, true),
     Qp 24 21 23,
     Qm 18 24])
    (.cond (.t 18)
     (.region [Qi 7 1])
     (.seq (.region [Qm 26 4,
      Qo 27 (.bin .geq (.t 26) (.c (.int .u8 224))),
      Qm 28 27,
      Qn 29 4 (28, true),
      Qg 30 (.bin .leq (.t 29) (.c (.int .u8 239))) (28, true),
      Qp 31 28 30,
      Qm 25 31])
     (.cond (.t 25)
      (.seq (.region [Qi 7 2])
      (.seq (.seq (.region [Qm 32 4,
       Qo 33 (.bin .eql (.t 32) (.c (.int .u8 224)))])
      (.cond (.t 33)
       (.region [Qo 5 (.mv (.c (.int .u8 160)))])
       .skip))
      zm7))
      (.seq (.region [Qm 37 4,
       Qo 38 (.bin .geq (.t 37) (.c (.int .u8 240))),
       Qm 39 38,
       Qn 40 4 (39, true),
       Qg 41 (.bin .leq (.t 40) (.c (.int .u8 244))) (39, true),
       Qp 42 39 41,
       Qm 36 42])
      (.cond (.t 36)
       (.seq (.region [Qi 7 3])
       (.seq (.seq (.region [Qm 43 4,
        Qo 44 (.bin .eql (.t 43) (.c (.int .u8 240)))])
       (.cond (.t 44)
        (.region [Qo 5 (.mv (.c (.int .u8 144)))])
        .skip))
       zm2))
       (.seq (.region [Qb 2])
       .ret))))))))))
  zam)))))
def z98 : LCode := (.seq (.region [Qo 2 (.mv (.c (.bool true)))])
 .ret)
def zlu : LCode := (.seq (.region [Qb 2])
 (.seq (.seq (.region [Qi 3 0])
 (.block 0
  (.loop
   zgq)))
 z98))
def kv : Lay := ⟨73, [], false⟩
def zf1 : List LRes := [.t 2]
def zqg : LFn := ⟨1, kv, zlu, zf1⟩
theorem zme : wz Tryd.prog [] 42 = some zqg := by kernel_rfl
theorem zn0 : Zk Tryd.prog 42 := ⟨_, Tryd.func42, rfl, rfl⟩
def zkd (a0 : List UInt8) (o : Bool) : Exit → Env → AHeap → Nat → Prop := Jj zf1 (vl (.bool o))
def u5 (a0 : List UInt8) (s : Int) : Env := [(0, .str a0), (3, i6 s)]
def Z8 (a0 : List UInt8) (s : Int) : AHeap := []
def Yu (a0 : List UInt8) (o : Bool) : Exit → Env → AHeap → Nat → Prop := (xq 0 (Qy Tryd.prog kv 0 z98 (zkd a0 o)))
noncomputable def yp (m : Option Nat) (a0 : List UInt8) (v22 : Int) (v25 : Int) (v26 : Int) (v27 : Int) (v28 : Int) : Option ((Int × Int × Int × Int) ⊕ (Int ⊕ Bool)) :=
 if (decide (v28 < v22)) = true then
  if (((decide (v25 ≥ (a0.length : Int))) == false) = true → (0 : Int) ≤ v25 ∧ v25 < (a0.length : Int)) then
  if ((((decide (v25 ≥ (a0.length : Int))) || (decide ((((a0.getD v25.toNat 0).toNat : Nat) : Int) < v26))) == false) = true → (0 : Int) ≤ v25 ∧ v25 < (a0.length : Int)) then
  if (((decide (v25 ≥ (a0.length : Int))) || (decide ((((a0.getD v25.toNat 0).toNat : Nat) : Int) < v26))) || (decide ((((a0.getD v25.toNat 0).toNat : Nat) : Int) > v27))) = true then
   Option.map Sum.inr (
    Option.map Sum.inr (
     some false))
  else
   some (.inl ((W (v25 + 1)), 128, 191, (W (v28 + 1))))
  else none
  else none
 else
  Option.map Sum.inr (
   some (.inl v25))
noncomputable def qa (m : Option Nat) (a0 : List UInt8) (v22 : Int) (v25 : Int) (v26 : Int) (v27 : Int) (v28 : Int) : Option (Int ⊕ Bool) := Zg m (fun (s : (Int × Int × Int × Int)) => yp m a0 v22 s.1 s.2.1 s.2.2.1 s.2.2.2) (v25, v26, v27, v28)
noncomputable def zd (m : Option Nat) (a0 : List UInt8) (v10 : Int) (v22 : Int) (v23 : Int) (v24 : Int) : Option (Int ⊕ Bool) :=
 qa m a0 v22 (W (v10 + 1)) v23 v24 0
noncomputable def qc (m : Option Nat) (a0 : List UInt8) (v10 : Int) (v20 : Int) : Option (Int ⊕ Bool) :=
 if ((((a0.getD v10.toNat 0).toNat : Nat) : Int) == 237) = true then
  zd m a0 v10 2 v20 159
 else
  zd m a0 v10 2 v20 191
def z1c (a0 : List UInt8) (v22 : Int) (s : (Int × Int × Int × Int)) : Env := [(0, .str a0), (3, i6 s.1), (5, .int .u8 s.2.1), (6, .int .u8 s.2.2.1), (49, i6 v22), (50, i6 s.2.2.2)]
def z4a (a0 : List UInt8) (v22 : Int) (s : (Int × Int × Int × Int)) : AHeap := []
def zb4 (a0 : List UInt8) (o : (Int ⊕ Bool)) : Exit → Env → AHeap → Nat → Prop := (xq 3 (xq 1 (kx 0 0 (u5 a0) (Z8 a0) (Yu a0) o)))
theorem zce {a0 : List UInt8} {v22 : Int} {v25 : Int} {v26 : Int} {v27 : Int} {v28 : Int} {m : Option Nat} {o : (Int × Int × Int × Int) ⊕ (Int ⊕ Bool)} (h : yp m a0 v22 v25 v26 v27 v28 = some o) :
 LWp Tryd.prog kv 0 zhv (kx 0 0 (z1c a0 v22) (z4a a0 v22) (zb4 a0) o) [(0, .str a0), (3, i6 v25), (5, .int .u8 v26), (6, .int .u8 v27), (49, i6 v22), (50, i6 v28)] [] 0 := by
 unfold yp at h
 refine za (zc ?_)
 refine za ?_
 refine qi (v := (decide (v28 < v22))) rfl TT (fun h63 => ?_) (fun h63 => ?_)
 ·have h := zh h63 h
  refine jd ?_
  refine za ?_
  refine j6 ?_
  refine za ?_
  refine za (zc ?_)
  obtain ⟨h64, h⟩ := z8 h
  refine AI (fun hp => (AI (AI hp hp) (h64 hp))) ?_
  refine AI (fun hp => (AI hp hp)) ?_
  refine AI (fun hc => (bqf hc)) ?_
  obtain ⟨h65, h⟩ := z8 h
  refine AI (fun hp => (AI (AI hp hp) (h65 hp))) ?_
  refine AI (fun hp => (AI hp hp)) ?_
  refine AI (fun hc => (bqf hc)) ?_
  refine LWp.sim (e := [(0, .str a0), (3, i6 v25), (49, i6 v22), (50, i6 v28), (69, .bool (((decide (v25 ≥ (a0.length : Int))) || (decide ((((a0.getD v25.toNat 0).toNat : Nat) : Int) < v26))) || (decide ((((a0.getD v25.toNat 0).toNat : Nat) : Int) > v27))))]) (L := []) (n := 0) ?_ ?_
  ·exact xe (M := []) rfl (S4 rfl rfl rfl rfl (AI (VS rfl) TT)) TT
  refine qi (v := (((decide (v25 ≥ (a0.length : Int))) || (decide ((((a0.getD v25.toNat 0).toNat : Nat) : Int) < v26))) || (decide ((((a0.getD v25.toNat 0).toNat : Nat) : Int) > v27)))) rfl TT (fun h66 => ?_) (fun h66 => ?_)
  ·have h := zh h66 h
   refine za (zc ?_)
   refine kl ?_
   obtain ⟨o, hq, rfl⟩ := Option.map_eq_some_iff.1 h
   replace h := hq; clear hq
   refine AI nofun ?_
   obtain ⟨o, hq, rfl⟩ := Option.map_eq_some_iff.1 h
   replace h := hq; clear hq
   refine AI nofun ?_
   cases h
   exact AI TT (AI rfl (VS rfl))
  ·have h := zl h66 h
   refine jd ?_
   refine za (zc ?_)
   refine zc ?_
   refine zc ?_
   cases h
   exact AI rfl (xe (M := []) rfl (S4 rfl rfl rfl rfl (S2 rfl rfl TT)) TT)
 ·have h := zl h63 h
  refine Ji ?_
  obtain ⟨o, hq, rfl⟩ := Option.map_eq_some_iff.1 h
  replace h := hq; clear hq
  refine AI nofun ?_
  cases h
  exact AI rfl (xe (M := []) rfl (S2 rfl rfl TT) TT)
theorem zg5 {a0 : List UInt8} {v22 : Int} {v25 : Int} {v26 : Int} {v27 : Int} {v28 : Int} {m : Option Nat} {o : (Int ⊕ Bool)} (h : qa m a0 v22 v25 v26 v27 v28 = some o) :
 LWp Tryd.prog kv 0 (.loop zhv) (xq 3 (xq 1 (kx 0 0 (u5 a0) (Z8 a0) (Yu a0) o))) [(0, .str a0), (3, i6 v25), (5, .int .u8 v26), (6, .int .u8 v27), (49, i6 v22), (50, i6 v28)] [] 0 :=
 jt (m := m) (s := ((v25, v26, v27, v28) : (Int × Int × Int × Int))) (r := o) (fun (s : (Int × Int × Int × Int)) => yp m a0 v22 s.1 s.2.1 s.2.2.1 s.2.2.2) (z1c a0 v22) (z4a a0 v22) (zb4 a0) (fun s o h => zce h) h
theorem Y4 {a0 : List UInt8} {v10 : Int} {v22 : Int} {v23 : Int} {v24 : Int} {m : Option Nat} {o : (Int ⊕ Bool)} (h : zd m a0 v10 v22 v23 v24 = some o) :
 LWp Tryd.prog kv 0 zam (xq 1 (kx 0 0 (u5 a0) (Z8 a0) (Yu a0) o)) [(0, .str a0), (3, i6 v10), (5, .int .u8 v23), (6, .int .u8 v24), (7, i6 v22)] [] 0 := by
 unfold zd at h
 refine za (zc ?_)
 refine za (zc ?_)
 refine j6 ?_
 refine LWp.sim ?_ (zg5 h)
 exact xe (M := []) rfl (S4 rfl rfl rfl rfl (S2 rfl rfl TT)) TT
theorem z4p {a0 : List UInt8} {v10 : Int} {v20 : Int} {m : Option Nat} {o : (Int ⊕ Bool)} (h : qc m a0 v10 v20 = some o) :
 LWp Tryd.prog kv 0 zm7 (xq 2 (Qy Tryd.prog kv 0 zam (xq 1 (kx 0 0 (u5 a0) (Z8 a0) (Yu a0) o)))) [(0, .str a0), (3, i6 v10), (4, .int .u8 (((a0.getD v10.toNat 0).toNat : Nat) : Int)), (5, .int .u8 v20), (6, .int .u8 191), (7, i6 2)] [] 0 := by
 unfold qc at h
 refine za (zc ?_)
 refine qi (v := ((((a0.getD v10.toNat 0).toNat : Nat) : Int) == 237)) rfl TT (fun h51 => ?_) (fun h51 => ?_)
 ·have h := zh h51 h
  refine zc ?_
  refine LWp.sim ?_ (Y4 h)
  exact xe (M := []) rfl (S4 rfl rfl rfl rfl (AI (VS rfl) TT)) TT
 ·have h := zl h51 h
  refine jd ?_
  refine LWp.sim ?_ (Y4 h)
  exact xe (M := []) rfl (S4 rfl rfl rfl rfl (AI (VS rfl) TT)) TT
noncomputable def qf (m : Option Nat) (a0 : List UInt8) (v10 : Int) (v21 : Int) : Option (Int ⊕ Bool) :=
 if ((((a0.getD v10.toNat 0).toNat : Nat) : Int) == 244) = true then
  zd m a0 v10 3 v21 143
 else
  zd m a0 v10 3 v21 191
theorem z4n {a0 : List UInt8} {v10 : Int} {v21 : Int} {m : Option Nat} {o : (Int ⊕ Bool)} (h : qf m a0 v10 v21 = some o) :
 LWp Tryd.prog kv 0 zm2 (xq 2 (Qy Tryd.prog kv 0 zam (xq 1 (kx 0 0 (u5 a0) (Z8 a0) (Yu a0) o)))) [(0, .str a0), (3, i6 v10), (4, .int .u8 (((a0.getD v10.toNat 0).toNat : Nat) : Int)), (5, .int .u8 v21), (6, .int .u8 191), (7, i6 3)] [] 0 := by
 unfold qf at h
 refine za (zc ?_)
 refine qi (v := ((((a0.getD v10.toNat 0).toNat : Nat) : Int) == 244)) rfl TT (fun h54 => ?_) (fun h54 => ?_)
 ·have h := zh h54 h
  refine zc ?_
  refine LWp.sim ?_ (Y4 h)
  exact xe (M := []) rfl (S4 rfl rfl rfl rfl (AI (VS rfl) TT)) TT
 ·have h := zl h54 h
  refine jd ?_
  refine LWp.sim ?_ (Y4 h)
  exact xe (M := []) rfl (S4 rfl rfl rfl rfl (AI (VS rfl) TT)) TT
noncomputable def jl (m : Option Nat) : Option Bool :=
 some true
noncomputable def yj (m : Option Nat) (a0 : List UInt8) (v10 : Int) : Option (Int ⊕ Bool) :=
 if (decide (v10 < (a0.length : Int))) = true then
  if (0 : Int) ≤ v10 ∧ v10 < (a0.length : Int) then
  if (decide ((((a0.getD v10.toNat 0).toNat : Nat) : Int) < 128)) = true then
   zd m a0 v10 0 128 191
  else
   if ((decide ((((a0.getD v10.toNat 0).toNat : Nat) : Int) ≥ 194)) && (decide ((((a0.getD v10.toNat 0).toNat : Nat) : Int) ≤ 223))) = true then
    zd m a0 v10 1 128 191
   else
    if ((decide ((((a0.getD v10.toNat 0).toNat : Nat) : Int) ≥ 224)) && (decide ((((a0.getD v10.toNat 0).toNat : Nat) : Int) ≤ 239))) = true then
     if ((((a0.getD v10.toNat 0).toNat : Nat) : Int) == 224) = true then
      qc m a0 v10 160
     else
      qc m a0 v10 128
    else
     if ((decide ((((a0.getD v10.toNat 0).toNat : Nat) : Int) ≥ 240)) && (decide ((((a0.getD v10.toNat 0).toNat : Nat) : Int) ≤ 244))) = true then
      if ((((a0.getD v10.toNat 0).toNat : Nat) : Int) == 240) = true then
       qf m a0 v10 144
      else
       qf m a0 v10 128
     else
      Option.map Sum.inr (
       some false)
  else none
 else
  Option.map Sum.inr (
   jl m)
noncomputable def x4 (m : Option Nat) (a0 : List UInt8) (v10 : Int) : Option Bool := Zg m (fun (s : Int) => yj m a0 s) v10
theorem zbo {a0 : List UInt8} {m : Option Nat} {o : Bool} (h : jl m = some o) :
 LWp Tryd.prog kv 0 z98 (zkd a0 o) [] [] 0 := by
 unfold jl at h
 refine za (zc ?_)
 refine kl ?_
 cases h
 exact AI TT (AI rfl (VS rfl))
theorem zc2 {a0 : List UInt8} {v10 : Int} {m : Option Nat} {o : Int ⊕ Bool} (h : yj m a0 v10 = some o) :
 LWp Tryd.prog kv 0 zgq (kx 0 0 (u5 a0) (Z8 a0) (Yu a0) o) [(0, .str a0), (3, i6 v10)] [] 0 := by
 unfold yj at h
 refine za ?_
 refine za (zc ?_)
 refine qi (v := (decide (v10 < (a0.length : Int)))) rfl TT (fun h45 => ?_) (fun h45 => ?_)
 ·have h := zh h45 h
  refine jd ?_
  refine j6 ?_
  refine za (zc ?_)
  obtain ⟨h46, h⟩ := z8 h
  refine AI h46 ?_
  refine LWp.sim (e := [(0, .str a0), (3, i6 v10), (4, .int .u8 (((a0.getD v10.toNat 0).toNat : Nat) : Int))]) (L := []) (n := 0) ?_ ?_
  ·exact xe (M := []) rfl (S2 rfl rfl (AI (VS rfl) TT)) TT
  refine za (zc ?_)
  refine za ?_
  refine j6 ?_
  refine za (zc ?_)
  refine qi (v := (decide ((((a0.getD v10.toNat 0).toNat : Nat) : Int) < 128))) rfl TT (fun h47 => ?_) (fun h47 => ?_)
  ·have h := zh h47 h
   refine jd ?_
   refine LWp.sim ?_ (Y4 h)
   exact xe (M := []) rfl (S4 rfl rfl rfl rfl (AI (VS rfl) TT)) TT
  ·have h := zl h47 h
   refine za (zc ?_)
   refine AI (fun hp => hp) ?_
   refine AI (fun hc => (bqt hc)) ?_
   refine LWp.sim (e := [(0, .str a0), (3, i6 v10), (4, .int .u8 (((a0.getD v10.toNat 0).toNat : Nat) : Int)), (5, .int .u8 128), (6, .int .u8 191), (18, .bool ((decide ((((a0.getD v10.toNat 0).toNat : Nat) : Int) ≥ 194)) && (decide ((((a0.getD v10.toNat 0).toNat : Nat) : Int) ≤ 223))))]) (L := []) (n := 0) ?_ ?_
   ·exact xe (M := []) rfl (S4 rfl rfl rfl rfl (S2 rfl rfl TT)) TT
   refine qi (v := ((decide ((((a0.getD v10.toNat 0).toNat : Nat) : Int) ≥ 194)) && (decide ((((a0.getD v10.toNat 0).toNat : Nat) : Int) ≤ 223)))) rfl TT (fun h48 => ?_) (fun h48 => ?_)
   ·have h := zh h48 h
    refine zc ?_
    refine LWp.sim ?_ (Y4 h)
    exact xe (M := []) rfl (S4 rfl rfl rfl rfl (AI (VS rfl) TT)) TT
   ·have h := zl h48 h
    refine za (zc ?_)
    refine AI (fun hp => hp) ?_
    refine AI (fun hc => (bqt hc)) ?_
    refine qi (v := ((decide ((((a0.getD v10.toNat 0).toNat : Nat) : Int) ≥ 224)) && (decide ((((a0.getD v10.toNat 0).toNat : Nat) : Int) ≤ 239)))) rfl TT (fun h49 => ?_) (fun h49 => ?_)
    ·have h := zh h49 h
     refine za (zc ?_)
     refine LWp.sim (e := [(0, .str a0), (3, i6 v10), (4, .int .u8 (((a0.getD v10.toNat 0).toNat : Nat) : Int)), (5, .int .u8 128), (6, .int .u8 191), (7, i6 2)]) (L := []) (n := 0) ?_ ?_
     ·exact xe (M := []) rfl (S4 rfl rfl rfl rfl (S2 rfl rfl TT)) TT
     refine za ?_
     refine za (zc ?_)
     refine qi (v := ((((a0.getD v10.toNat 0).toNat : Nat) : Int) == 224)) rfl TT (fun h50 => ?_) (fun h50 => ?_)
     ·have h := zh h50 h
      refine zc ?_
      refine LWp.sim ?_ (z4p h)
      exact xe (M := []) rfl (S4 rfl rfl rfl rfl (S2 rfl rfl TT)) TT
     ·have h := zl h50 h
      refine jd ?_
      refine LWp.sim ?_ (z4p h)
      exact xe (M := []) rfl (S4 rfl rfl rfl rfl (S2 rfl rfl TT)) TT
    ·have h := zl h49 h
     refine za (zc ?_)
     refine AI (fun hp => hp) ?_
     refine AI (fun hc => (bqt hc)) ?_
     refine LWp.sim (e := [(0, .str a0), (3, i6 v10), (4, .int .u8 (((a0.getD v10.toNat 0).toNat : Nat) : Int)), (5, .int .u8 128), (6, .int .u8 191), (36, .bool ((decide ((((a0.getD v10.toNat 0).toNat : Nat) : Int) ≥ 240)) && (decide ((((a0.getD v10.toNat 0).toNat : Nat) : Int) ≤ 244))))]) (L := []) (n := 0) ?_ ?_
     ·exact xe (M := []) rfl (S4 rfl rfl rfl rfl (S2 rfl rfl TT)) TT
     refine qi (v := ((decide ((((a0.getD v10.toNat 0).toNat : Nat) : Int) ≥ 240)) && (decide ((((a0.getD v10.toNat 0).toNat : Nat) : Int) ≤ 244)))) rfl TT (fun h52 => ?_) (fun h52 => ?_)
     ·have h := zh h52 h
      refine za (zc ?_)
      refine za ?_
      refine za (zc ?_)
      refine qi (v := ((((a0.getD v10.toNat 0).toNat : Nat) : Int) == 240)) rfl TT (fun h53 => ?_) (fun h53 => ?_)
      ·have h := zh h53 h
       refine zc ?_
       refine LWp.sim ?_ (z4n h)
       exact xe (M := []) rfl (S4 rfl rfl rfl rfl (S2 rfl rfl TT)) TT
      ·have h := zl h53 h
       refine jd ?_
       refine LWp.sim ?_ (z4n h)
       exact xe (M := []) rfl (S4 rfl rfl rfl rfl (S2 rfl rfl TT)) TT
     ·have h := zl h52 h
      refine za (zc ?_)
      refine kl ?_
      obtain ⟨o, hq, rfl⟩ := Option.map_eq_some_iff.1 h
      replace h := hq; clear hq
      refine AI nofun ?_
      cases h
      exact AI TT (AI rfl (VS rfl))
 ·have h := zl h45 h
  refine Ji ?_
  obtain ⟨o, hq, rfl⟩ := Option.map_eq_some_iff.1 h
  replace h := hq; clear hq
  refine AI nofun ?_
  refine LWp.sim ?_ (zbo h)
  exact xe (M := []) rfl TT TT
theorem zgv {a0 : List UInt8} {v10 : Int} {m : Option Nat} {o : Bool} (h : x4 m a0 v10 = some o) :
 LWp Tryd.prog kv 0 (.loop zgq) (xq 0 (Qy Tryd.prog kv 0 z98 (zkd a0 o))) [(0, .str a0), (3, i6 v10)] [] 0 :=
 jt (m := m) (s := (v10 : Int)) (r := o) (fun (s : Int) => yj m a0 s) (u5 a0) (Z8 a0) (Yu a0) (fun s o h => zc2 h) h
noncomputable def q7 (m : Option Nat) (a0 : List UInt8) : Option Bool :=
 x4 m a0 0
theorem zhz {a0 : List UInt8} {m : Option Nat} {o : Bool} (h : q7 m a0 = some o) : LWp Tryd.prog kv 0 zlu (zkd a0 o) (qx 0 [.str a0]) [] 0 := by
 unfold q7 at h
 refine za (zc ?_)
 refine za ?_
 refine za (zc ?_)
 refine j6 ?_
 refine LWp.sim ?_ (zgv h)
 exact xe (M := []) rfl (S2 rfl rfl TT) TT
theorem zlz {a0 : List UInt8} {m : Option Nat} {o : Bool} (h : q7 m a0 = some o) : PFn Tryd.prog 42 [.str a0] (.bool o) := PFn.ofFnW (L := zqg) zme zn0 (NB rfl) rfl (zhz h)
def zhw : LCode := (.seq (.region [Qo 10 (.bin .lss (.t 9) (.t 8))])
 (.seq (.cond (.t 10)
  .skip
  (.exit 0))
 (.seq (.block 1
  (.seq (.region [Qm 11 9,
   Qo 12 (.iaddr 1 (.t 7) (.t 9)),
   Ql 13 1 12,
   Qm 5 11,
   Qm 6 13])
  (.seq (.region [Qm 14 1,
   Qm 15 6,
   Qo 16 (.bin .eql (.t 14) (.t 15))])
  (.cond (.t 16)
   (.seq (.region [Qm 17 5,
    Qm 4 17])
   .ret)
   .skip))))
 (.region [Qo 18 (.bin .add (.t 9) (.c (i6 1))),
  Qm 9 18]))))
def z9j : LCode := (.seq (.region [Qo 4 (.mv (.c (i6 (-1))))])
 .ret)
def zm6 : LCode := (.seq (.region [Qi 4 0])
 (.seq (.seq (.region [Qm 7 0,
  Qo 8 (.len false (.t 7)),
  Qi 9 0])
 (.block 0
  (.loop
   zhw)))
 z9j))
def Jc : Lay := ⟨19, [], false⟩
def zfl : List LRes := [.t 4]
def zr0 : LFn := ⟨2, Jc, zm6, zfl⟩
theorem zn1 : wz Tryd.prog [] 75 = some zr0 := by kernel_rfl
theorem zoe : Zk Tryd.prog 75 := ⟨_, Tryd.func75, rfl, rfl⟩
def zj3 (a0 : List (List UInt8)) (a1 : List UInt8) (o : Int) : Exit → Env → AHeap → Nat → Prop := Jj zfl (vl (i6 o))
def z1k (a0 : List (List UInt8)) (a1 : List UInt8) (s : Int) : Env := [(1, .str a1), (7, .isl 1 (a0.map zp) false), (8, i6 ((a0.map zp).length : Int)), (9, i6 s)]
def z3v (a0 : List (List UInt8)) (a1 : List UInt8) (s : Int) : AHeap := []
def z9z (a0 : List (List UInt8)) (a1 : List UInt8) (o : Int) : Exit → Env → AHeap → Nat → Prop := (xq 0 (Qy Tryd.prog Jc 0 z9j (zj3 a0 a1 o)))
noncomputable def jc (m : Option Nat) : Option Int :=
 some (-1)
noncomputable def y1 (m : Option Nat) (a0 : List (List UInt8)) (a1 : List UInt8) (v1 : Int) : Option (Int ⊕ Int) :=
 if (decide (v1 < ((a0.map zp).length : Int))) = true then
  if (0 : Int) ≤ v1 ∧ v1 < ((a0.map zp).length : Int) then
  if (a1 == (a0.getD v1.toNat default)) = true then
   Option.map Sum.inr (
    some v1)
  else
   some (.inl (W (v1 + 1)))
  else none
 else
  Option.map Sum.inr (
   jc m)
noncomputable def qh (m : Option Nat) (a0 : List (List UInt8)) (a1 : List UInt8) (v1 : Int) : Option Int := Zg m (fun (s : Int) => y1 m a0 a1 s) v1
theorem zgr {a0 : List (List UInt8)} {a1 : List UInt8} {m : Option Nat} {o : Int} (h : jc m = some o) :
 LWp Tryd.prog Jc 0 z9j (zj3 a0 a1 o) [] [] 0 := by
 unfold jc at h
 refine za (zc ?_)
 refine kl ?_
 cases h
 exact AI TT (AI rfl (VS rfl))
theorem zbu {a0 : List (List UInt8)} {a1 : List UInt8} {v1 : Int} {m : Option Nat} {o : Int ⊕ Int} (h : y1 m a0 a1 v1 = some o) :
 LWp Tryd.prog Jc 0 zhw (kx 0 0 (z1k a0 a1) (z3v a0 a1) (z9z a0 a1) o) [(1, .str a1), (7, .isl 1 (a0.map zp) false), (8, i6 ((a0.map zp).length : Int)), (9, i6 v1)] [] 0 := by
 unfold y1 at h
 refine za (zc ?_)
 refine za ?_
 refine qi (v := (decide (v1 < ((a0.map zp).length : Int)))) rfl TT (fun h7 => ?_) (fun h7 => ?_)
 ·have h := zh h7 h
  refine jd ?_
  refine za ?_
  refine j6 ?_
  refine za (zc ?_)
  obtain ⟨h8, h⟩ := z8 h
  refine AI h8 ?_
  refine EX (zp (a0.getD v1.toNat default)) (AI (Zl zp _ _ (u6 zp h8)) (AI (AI (Y9 h8) (NB rfl)) ?_))
  refine za (zc ?_)
  refine LWp.sim (e := [(1, .str a1), (5, i6 v1), (7, .isl 1 (a0.map zp) false), (8, i6 ((a0.map zp).length : Int)), (9, i6 v1), (16, .bool (a1 == (a0.getD v1.toNat default)))]) (L := []) (n := 0) ?_ ?_
  ·exact xe (M := []) rfl (S4 rfl rfl rfl rfl (S2 rfl rfl TT)) TT
  refine qi (v := (a1 == (a0.getD v1.toNat default))) rfl TT (fun h9 => ?_) (fun h9 => ?_)
  ·have h := zh h9 h
   refine za (zc ?_)
   refine kl ?_
   obtain ⟨o, hq, rfl⟩ := Option.map_eq_some_iff.1 h
   replace h := hq; clear hq
   refine AI nofun ?_
   cases h
   exact AI TT (AI rfl (VS rfl))
  ·have h := zl h9 h
   refine jd ?_
   refine zc ?_
   cases h
   exact AI rfl (xe (M := []) rfl (S4 rfl rfl rfl rfl TT) TT)
 ·have h := zl h7 h
  refine Ji ?_
  obtain ⟨o, hq, rfl⟩ := Option.map_eq_some_iff.1 h
  replace h := hq; clear hq
  refine AI nofun ?_
  refine LWp.sim ?_ (zgr h)
  exact xe (M := []) rfl TT TT
theorem zik {a0 : List (List UInt8)} {a1 : List UInt8} {v1 : Int} {m : Option Nat} {o : Int} (h : qh m a0 a1 v1 = some o) :
 LWp Tryd.prog Jc 0 (.loop zhw) (xq 0 (Qy Tryd.prog Jc 0 z9j (zj3 a0 a1 o))) [(1, .str a1), (7, .isl 1 (a0.map zp) false), (8, i6 ((a0.map zp).length : Int)), (9, i6 v1)] [] 0 :=
 jt (m := m) (s := (v1 : Int)) (r := o) (fun (s : Int) => y1 m a0 a1 s) (z1k a0 a1) (z3v a0 a1) (z9z a0 a1) (fun s o h => zbu h) h
noncomputable def x3 (m : Option Nat) (a0 : List (List UInt8)) (a1 : List UInt8) : Option Int :=
 qh m a0 a1 0
theorem zfy {a0 : List (List UInt8)} {a1 : List UInt8} {m : Option Nat} {o : Int} (h : x3 m a0 a1 = some o) : LWp Tryd.prog Jc 0 zm6 (zj3 a0 a1 o) (qx 0 [.isl 1 (a0.map zp) false, .str a1]) [] 0 := by
 unfold x3 at h
 refine za (zc ?_)
 refine za ?_
 refine za (zc ?_)
 refine j6 ?_
 refine LWp.sim ?_ (zik h)
 exact xe (M := []) rfl (S4 rfl rfl rfl rfl TT) TT
theorem zrj {a0 : List (List UInt8)} {a1 : List UInt8} {m : Option Nat} {o : Int} (h : x3 m a0 a1 = some o) : PFn Tryd.prog 75 [.isl 1 (a0.map zp) false, .str a1] (i6 o) := PFn.ofFnW (L := zr0) zn1 zoe (NB rfl) rfl (zfy h)
def zlm : LCode := (.seq (.region [Qb 4])
 (.seq (.region [Qm 5 0,
  Qm 6 1,
  Qo 7 (.call 75 [(.t 5), (.t 6)]),
  Qo 8 (.bin .geq (.t 7) (.c (i6 0))),
  Qm 4 8])
 .ret))
def zdw : Lay := ⟨9, [], false⟩
def zfa : List LRes := [.t 4]
def zpf : LFn := ⟨2, zdw, zlm, zfa⟩
theorem znh : wz Tryd.prog [] 62 = some zpf := by kernel_rfl
theorem zmt : Zk Tryd.prog 62 := ⟨_, Tryd.func62, rfl, rfl⟩
noncomputable def yq (m : Option Nat) (a0 : List (List UInt8)) (a1 : List UInt8) : Option Bool :=
 (x3 m a0 a1).bind fun v1 =>
 some (decide (v1 ≥ 0))
def zsc (a0 : List (List UInt8)) (a1 : List UInt8) (o : Bool) : Exit → Env → AHeap → Nat → Prop := Jj zfa (vl (.bool o))
theorem zfq {a0 : List (List UInt8)} {a1 : List UInt8} {m : Option Nat} {o : Bool} (h : yq m a0 a1 = some o) : LWp Tryd.prog zdw 0 zlm (zsc a0 a1 o) (qx 0 [.isl 1 (a0.map zp) false, .str a1]) [] 0 := by
 unfold yq at h
 refine za (zc ?_)
 refine za (zc ?_)
 obtain ⟨v1, h1, h⟩ := bind_some h
 refine PFn.call (zrj h1) (S2 rfl rfl TT) ?_
 refine kl ?_
 cases h
 exact AI TT (AI rfl (VS rfl))
theorem zqp {a0 : List (List UInt8)} {a1 : List UInt8} {m : Option Nat} {o : Bool} (h : yq m a0 a1 = some o) : PFn Tryd.prog 62 [.isl 1 (a0.map zp) false, .str a1] (.bool o) := PFn.ofFnW (L := zpf) znh zmt (NB rfl) rfl (zfq h)
def zh9 : LCode := (.seq (.region [Qo 8 (.bin .lss (.t 7) (.t 6))])
 (.seq (.cond (.t 8)
  .skip
  (.exit 0))
 (.seq (.block 1
  (.seq (.region [Qm 9 7,
   Qo 10 (.iaddr 1 (.t 5) (.t 7)),
   Ql 11 1 10,
   Qm 3 9,
   Qm 4 11])
  (.seq (.region [Qm 12 0,
   Qm 13 3,
   Qo 14 (.slSl 1 (.t 12) none (some (.t 13)) none),
   Qm 15 4,
   Qo 16 (.call 62 [(.t 14), (.t 15)])])
  (.cond (.t 16)
   (.seq (.region [Qo 2 (.mv (.c (.bool true)))])
   .ret)
   .skip))))
 (.region [Qo 17 (.bin .add (.t 7) (.c (i6 1))),
  Qm 7 17]))))
def zb3 : LCode := (.seq (.region [Qb 2])
 .ret)
def zm0 : LCode := (.seq (.region [Qb 2])
 (.seq (.seq (.region [Qm 5 0,
  Qo 6 (.len false (.t 5)),
  Qi 7 0])
 (.block 0
  (.loop
   zh9)))
 zb3))
def Jh : Lay := ⟨18, [], false⟩
def zia : List LRes := [.t 2]
def zq0 : LFn := ⟨1, Jh, zm0, zia⟩
theorem znw : wz Tryd.prog [] 43 = some zq0 := by kernel_rfl
theorem zmz : Zk Tryd.prog 43 := ⟨_, Tryd.func43, rfl, rfl⟩
def zkz (a0 : List (List UInt8)) (o : Bool) : Exit → Env → AHeap → Nat → Prop := Jj zia (vl (.bool o))
def z14 (a0 : List (List UInt8)) (s : Int) : Env := [(0, .isl 1 (a0.map zp) false), (5, .isl 1 (a0.map zp) false), (6, i6 ((a0.map zp).length : Int)), (7, i6 s)]
def z40 (a0 : List (List UInt8)) (s : Int) : AHeap := []
def zaq (a0 : List (List UInt8)) (o : Bool) : Exit → Env → AHeap → Nat → Prop := (xq 0 (Qy Tryd.prog Jh 0 zb3 (zkz a0 o)))
noncomputable def jp (m : Option Nat) : Option Bool :=
 some false
noncomputable def yk (m : Option Nat) (a0 : List (List UInt8)) (v2 : Int) : Option (Int ⊕ Bool) :=
 if (decide (v2 < ((a0.map zp).length : Int))) = true then
  if (0 : Int) ≤ v2 ∧ v2 < ((a0.map zp).length : Int) then
  if (0 : Int) ≤ v2 ∧ v2 ≤ ((a0.map zp).length : Int) then
  (yq m (a0.take v2.toNat) (a0.getD v2.toNat default)).bind fun v4 =>
  if v4 = true then
   Option.map Sum.inr (
    some true)
  else
   some (.inl (W (v2 + 1)))
  else none
  else none
 else
  Option.map Sum.inr (
   jp m)
noncomputable def qz (m : Option Nat) (a0 : List (List UInt8)) (v2 : Int) : Option Bool := Zg m (fun (s : Int) => yk m a0 s) v2
theorem zd9 {a0 : List (List UInt8)} {m : Option Nat} {o : Bool} (h : jp m = some o) :
 LWp Tryd.prog Jh 0 zb3 (zkz a0 o) [] [] 0 := by
 unfold jp at h
 refine za (zc ?_)
 refine kl ?_
 cases h
 exact AI TT (AI rfl (VS rfl))
theorem zby {a0 : List (List UInt8)} {v2 : Int} {m : Option Nat} {o : Int ⊕ Bool} (h : yk m a0 v2 = some o) :
 LWp Tryd.prog Jh 0 zh9 (kx 0 0 (z14 a0) (z40 a0) (zaq a0) o) [(0, .isl 1 (a0.map zp) false), (5, .isl 1 (a0.map zp) false), (6, i6 ((a0.map zp).length : Int)), (7, i6 v2)] [] 0 := by
 unfold yk at h
 refine za (zc ?_)
 refine za ?_
 refine qi (v := (decide (v2 < ((a0.map zp).length : Int)))) rfl TT (fun h11 => ?_) (fun h11 => ?_)
 ·have h := zh h11 h
  refine jd ?_
  refine za ?_
  refine j6 ?_
  refine za (zc ?_)
  obtain ⟨h12, h⟩ := z8 h
  refine AI h12 ?_
  refine EX (zp (a0.getD v2.toNat default)) (AI (Zl zp _ _ (u6 zp h12)) (AI (AI (Y9 h12) (NB rfl)) ?_))
  refine za (zc ?_)
  obtain ⟨h13, h⟩ := z8 h
  refine EX (.isl 1 ((a0.take v2.toNat).map zp) false) (AI (zs0 zp (slB zp a0 _) rfl) (AI (AI rfl (AI (Int.le_refl _) h13)) ?_))
  obtain ⟨v4, h14, h⟩ := bind_some h
  refine PFn.call (zqp h14) (S2 rfl rfl TT) ?_
  refine LWp.sim (e := [(0, .isl 1 (a0.map zp) false), (5, .isl 1 (a0.map zp) false), (6, i6 ((a0.map zp).length : Int)), (7, i6 v2), (16, .bool v4)]) (L := []) (n := 0) ?_ ?_
  ·exact xe (M := []) rfl (S4 rfl rfl rfl rfl (AI (VS rfl) TT)) TT
  refine qi (v := v4) rfl TT (fun h15 => ?_) (fun h15 => ?_)
  ·have h := zh h15 h
   refine za (zc ?_)
   refine kl ?_
   obtain ⟨o, hq, rfl⟩ := Option.map_eq_some_iff.1 h
   replace h := hq; clear hq
   refine AI nofun ?_
   cases h
   exact AI TT (AI rfl (VS rfl))
  ·have h := zl h15 h
   refine jd ?_
   refine zc ?_
   cases h
   exact AI rfl (xe (M := []) rfl (S4 rfl rfl rfl rfl TT) TT)
 ·have h := zl h11 h
  refine Ji ?_
  obtain ⟨o, hq, rfl⟩ := Option.map_eq_some_iff.1 h
  replace h := hq; clear hq
  refine AI nofun ?_
  refine LWp.sim ?_ (zd9 h)
  exact xe (M := []) rfl TT TT
theorem zds {a0 : List (List UInt8)} {v2 : Int} {m : Option Nat} {o : Bool} (h : qz m a0 v2 = some o) :
 LWp Tryd.prog Jh 0 (.loop zh9) (xq 0 (Qy Tryd.prog Jh 0 zb3 (zkz a0 o))) [(0, .isl 1 (a0.map zp) false), (5, .isl 1 (a0.map zp) false), (6, i6 ((a0.map zp).length : Int)), (7, i6 v2)] [] 0 :=
 jt (m := m) (s := (v2 : Int)) (r := o) (fun (s : Int) => yk m a0 s) (z14 a0) (z40 a0) (zaq a0) (fun s o h => zby h) h
noncomputable def xn (m : Option Nat) (a0 : List (List UInt8)) : Option Bool :=
 qz m a0 0
theorem zhe {a0 : List (List UInt8)} {m : Option Nat} {o : Bool} (h : xn m a0 = some o) : LWp Tryd.prog Jh 0 zm0 (zkz a0 o) (qx 0 [.isl 1 (a0.map zp) false]) [] 0 := by
 unfold xn at h
 refine za (zc ?_)
 refine za ?_
 refine za (zc ?_)
 refine j6 ?_
 refine LWp.sim ?_ (zds h)
 exact xe (M := []) rfl (S4 rfl rfl rfl rfl TT) TT
theorem zpx {a0 : List (List UInt8)} {m : Option Nat} {o : Bool} (h : xn m a0 = some o) : PFn Tryd.prog 43 [.isl 1 (a0.map zp) false] (.bool o) := PFn.ofFnW (L := zq0) znw zmz (NB rfl) rfl (zhe h)
def z3c : LCode := (.seq (.region [Qo 107 (.bin .lss (.t 106) (.t 105))])
 (.seq (.cond (.t 107)
  .skip
  (.exit 0))
 (.seq (.block 1
  (.seq (.region [Qo 108 (.iaddr 1 (.t 104) (.t 106)),
   Ql 109 1 108,
   Qm 6 109])
  (.region [Qm 110 4,
   Qm 111 110,
   Qn 112 6 (111, true),
   Qg 113 (.call 42 [(.t 112)]) (111, true),
   Qp 114 111 113,
   Qm 4 114])))
 (.region [Qo 115 (.bin .add (.t 106) (.c (i6 1))),
  Qm 106 115]))))
def z28 : LCode := (.seq (.region [Qo 122 (.bin .lss (.t 121) (.t 120))])
 (.seq (.cond (.t 122)
  .skip
  (.exit 2))
 (.seq (.block 3
  (.seq (.region [Qo 123 (.iaddr 5 (.t 119) (.t 121)),
   Qt 124 5 123,
   Qo 8 (.alloc [(i6 0), (i6 0), (.str []), (.isl 1 [] true), (.isl 5 [] true)]),
   ⟨none, .store 5 (.t 8) (.t 124), none⟩])
  (.seq (.region [Qt 125 5 8,
   Qc 126 21 125,
   Qm 9 126])
  (.seq (.region [Qm 127 9,
   Qo 128 (.bin .neq (.t 127) (.c (i6 0)))])
  (.cond (.t 128)
   (.seq (.region [Qm 129 9,
    Qm 2 129])
   .ret)
   .skip)))))
 (.region [Qo 130 (.bin .add (.t 121) (.c (i6 1))),
  Qm 121 130]))))
def Vs : LCode := (.seq (.region [Qi 2 0])
 .ret)
def Vx : LCode := (.seq (.seq (.region [Qm 116 4,
 Qo 117 (.un .not (.t 116))])
 (.cond (.t 117)
  (.seq (.region [Qi 2 3])
  .ret)
  .skip))
 (.seq (.seq (.region [Qf 118 4 1,
  Ql 119 1 118,
  Qo 120 (.len false (.t 119)),
  Qi 121 0])
 (.block 2
  (.loop
   z28)))
 Vs))
def zav : LCode := (.seq (.seq (.region [Qf 103 3 1,
 Ql 104 1 103,
 Qo 105 (.len false (.t 104)),
 Qi 106 0])
 (.block 0
  (.loop
   z3c)))
 Vx)
def z9v : LCode := (.seq (.region [Qo 1 (.box (.t 0)),
 Qi 2 0])
 (.seq (.seq (.region [Qf 10 0 1,
  Ql 11 1 10,
  Qo 12 (.bin .lss (.t 11) (.c (i6 0))),
  Qm 13 12,
  Qe 14 0 1 (13, false),
  Qk 15 1 14 (13, false),
  Qg 16 (.bin .gtr (.t 15) (.c (i6 5))) (13, false),
  Qo 17 (.pick (.t 13) (.c (.bool true)) (.t 16))])
 (.cond (.t 17)
  (.seq (.region [Qi 2 7])
  .ret)
  .skip))
 (.seq (.region [Qi 3 9007199254740991])
 (.seq (.region [Qf 18 1 1,
  Ql 19 1 18,
  Qo 20 (.bin .eql (.t 19) (.c (i6 0))),
  Qm 21 20,
  Qe 22 0 1 (21, false),
  Qk 23 1 22 (21, false),
  Qg 24 (.bin .eql (.t 23) (.c (i6 1))) (21, false),
  Qn 25 24 (21, false),
  Qe 26 1 1 (25, true),
  Qk 27 1 26 (25, true),
  Qg 28 (.bin .eql (.t 27) (.c (i6 1))) (25, true),
  Qg 29 (.pick (.t 25) (.t 28) (.c (.bool false))) (21, false),
  Qo 30 (.pick (.t 21) (.c (.bool true)) (.t 29)),
  Qm 31 30,
  Qe 32 0 1 (31, false),
  Qk 33 1 32 (31, false),
  Qg 34 (.bin .eql (.t 33) (.c (i6 2))) (31, false),
  Qn 35 34 (31, false),
  Qn 36 3 (35, true),
  Qg 37 (.un .neg (.t 36)) (35, true),
  Qe 38 1 1 (35, true),
  Qk 39 1 38 (35, true),
  Qg 40 (.bin .leq (.t 37) (.t 39)) (35, true),
  Qg 41 (.pick (.t 35) (.t 40) (.c (.bool false))) (31, false),
  Qn 42 41 (31, false),
  Qe 43 1 1 (42, true),
  Qk 44 1 43 (42, true),
  Qn 45 3 (42, true),
  Qg 46 (.bin .leq (.t 44) (.t 45)) (42, true),
  Qg 47 (.pick (.t 42) (.t 46) (.c (.bool false))) (31, false),
  Qo 48 (.pick (.t 31) (.c (.bool true)) (.t 47)),
  Qm 4 48])
 (.seq (.region [Qm 49 4,
  Qm 50 49,
  Qe 51 2 1 (50, true),
  Qk 52 1 51 (50, true),
  Qg 53 (.bin .eql (.t 52) (.c (.str []))) (50, true),
  Qn 54 53 (50, true),
  Qe 55 0 1 (54, false),
  Qk 56 1 55 (54, false),
  Qg 57 (.bin .eql (.t 56) (.c (i6 3))) (54, false),
  Qn 58 57 (54, false),
  Qe 59 2 1 (58, true),
  Qk 60 1 59 (58, true),
  Qg 61 (.call 42 [(.t 60)]) (58, true),
  Qg 62 (.pick (.t 58) (.t 61) (.c (.bool false))) (54, false),
  Qg 63 (.pick (.t 54) (.c (.bool true)) (.t 62)) (50, true),
  Qp 64 50 63,
  Qm 4 64])
 (.seq (.region [Qm 65 4,
  Qm 66 65,
  Qe 67 4 1 (66, true),
  Qk 68 1 67 (66, true),
  Qg 69 (.len false (.t 68)) (66, true),
  Qg 70 (.bin .eql (.t 69) (.c (i6 0))) (66, true),
  Qn 71 70 (66, true),
  Qe 72 0 1 (71, false),
  Qk 73 1 72 (71, false),
  Qg 74 (.bin .geq (.t 73) (.c (i6 4))) (71, false),
  Qg 75 (.pick (.t 71) (.c (.bool true)) (.t 74)) (66, true),
  Qp 76 66 75,
  Qm 4 76])
 (.seq (.seq (.region [Qf 77 0 1,
  Ql 78 1 77,
  Qo 79 (.bin .eql (.t 78) (.c (i6 5)))])
 (.cond (.t 79)
  (.region [Qm 80 4,
   Qm 81 80,
   Qe 82 3 1 (81, true),
   Qk 83 1 82 (81, true),
   Qg 84 (.len false (.t 83)) (81, true),
   Qe 85 4 1 (81, true),
   Qk 86 1 85 (81, true),
   Qg 87 (.len false (.t 86)) (81, true),
   Qg 88 (.bin .eql (.t 84) (.t 87)) (81, true),
   Qp 89 81 88,
   Qm 90 89,
   Qe 91 3 1 (90, true),
   Qk 92 1 91 (90, true),
   Qg 93 (.call 43 [(.t 92)]) (90, true),
   Qg 94 (.un .not (.t 93)) (90, true),
   Qp 95 90 94,
   Qm 4 95])
  (.region [Qm 96 4,
   Qm 97 96,
   Qe 98 3 1 (97, true),
   Qk 99 1 98 (97, true),
   Qg 100 (.len false (.t 99)) (97, true),
   Qg 101 (.bin .eql (.t 100) (.c (i6 0))) (97, true),
   Qp 102 97 101,
   Qm 4 102])))
 zav)))))))
def wi : Lay := ⟨131, [], false⟩
def z67 : List LRes := [.t 2]
def zhx : LFn := ⟨1, wi, z9v, z67⟩
theorem zie : wz Tryd.prog [] 21 = some zhx := by kernel_rfl
theorem zdq : Zk Tryd.prog 21 := ⟨_, Tryd.func21, rfl, rfl⟩
def Qx (a0 : GJ) (o : Int) : Exit → Env → AHeap → Nat → Prop := Jj z67 (Xn 3 3 (i6 o) [])
def Vc (a0 : GJ) (s : (Bool × Int)) : Env := [(1, .ptr (3, 0) 0 0), (4, .bool s.1), (104, .isl 1 (a0.fA.map zp) false), (105, i6 ((a0.fA.map zp).length : Int)), (106, i6 s.2)]
def z0a (a0 : GJ) (s : (Bool × Int)) : AHeap := [((3, 0), .one (z6 a0))]
def z1h (a0 : GJ) (o : Int) : Exit → Env → AHeap → Nat → Prop := (xq 0 (Qy Tryd.prog wi 3 Vx (Qx a0 o)))
noncomputable def j2 (rec4 : GJ → Option Int) (m : Option Nat) : Option Int :=
 some 0
noncomputable def x6 (rec4 : GJ → Option Int) (m : Option Nat) (a0 : GJ) (v11 : Int) : Option (Int ⊕ Int) :=
 if (decide (v11 < ((a0.fE.map zz).length : Int))) = true then
  if (0 : Int) ≤ v11 ∧ v11 < ((a0.fE.map zz).length : Int) then
  ((um (a0.fE.getD v11.toNat default))).bind fun v14 =>
  (rec4 v14).bind fun v15 =>
  if (v15 != 0) = true then
   Option.map Sum.inr (
    some v15)
  else
   some (.inl (W (v11 + 1)))
  else none
 else
  Option.map Sum.inr (
   j2 rec4 m)
noncomputable def w7 (rec4 : GJ → Option Int) (m : Option Nat) (a0 : GJ) (v11 : Int) : Option Int := Zg m (fun (s : Int) => x6 rec4 m a0 s) v11
noncomputable def y9 (rec4 : GJ → Option Int) (m : Option Nat) (a0 : GJ) (v5 : Bool) : Option Int :=
 if (!v5) = true then
  some 3
 else
  w7 rec4 m a0 0
noncomputable def zw (rec4 : GJ → Option Int) (m : Option Nat) (a0 : GJ) (v5 : Bool) (v6 : Int) : Option ((Bool × Int) ⊕ Int) :=
 if (decide (v6 < ((a0.fA.map zp).length : Int))) = true then
  if (0 : Int) ≤ v6 ∧ v6 < ((a0.fA.map zp).length : Int) then
  (if (v5 == true) = true then q7 m (a0.fA.getD v6.toNat default) else some default).bind fun v8 =>
  some (.inl ((v5 && v8), (W (v6 + 1))))
  else none
 else
  Option.map Sum.inr (
   y9 rec4 m a0 v5)
noncomputable def yz (rec4 : GJ → Option Int) (m : Option Nat) (a0 : GJ) (v5 : Bool) (v6 : Int) : Option Int := Zg m (fun (s : (Bool × Int)) => zw rec4 m a0 s.1 s.2) (v5, v6)
def Vl (a0 : GJ) (s : Int) : Env := [(119, .isl 5 (a0.fE.map zz) false), (120, i6 ((a0.fE.map zz).length : Int)), (121, i6 s)]
def Uh (a0 : GJ) (s : Int) : AHeap := []
def z1i (a0 : GJ) (o : Int) : Exit → Env → AHeap → Nat → Prop := (xq 2 (Qy Tryd.prog wi 3 Vs (Qx a0 o)))
abbrev Hr4 (rec4 : GJ → Option Int) : Prop := ∀ {a0 : GJ} {o : Int}, rec4 a0 = some o → ACalls Tryd.prog 21 [.agg (z6 a0)] [] 3 (wg 3 (i6 o) [])
theorem z79 {rec4 : GJ → Option Int} (hrec4 : Hr4 rec4) {a0 : GJ} {m : Option Nat} {o : Int} (h : j2 rec4 m = some o) :
 LWp Tryd.prog wi 3 Vs (Qx a0 o) [] [] 3 := by
 unfold j2 at h
 refine za (zc ?_)
 refine kl ?_
 cases h
 exact AI TT (J6 (n' := 3) [] [] rfl rfl (VS rfl) TT)
theorem z57 {rec4 : GJ → Option Int} (hrec4 : Hr4 rec4) {a0 : GJ} {v11 : Int} {m : Option Nat} {o : Int ⊕ Int} (h : x6 rec4 m a0 v11 = some o) :
 LWp Tryd.prog wi 3 z28 (kx 3 3 (Vl a0) (Uh a0) (z1i a0) o) [(119, .isl 5 (a0.fE.map zz) false), (120, i6 ((a0.fE.map zz).length : Int)), (121, i6 v11)] [] 3 := by
 unfold x6 at h
 refine za (zc ?_)
 refine za ?_
 refine qi (v := (decide (v11 < ((a0.fE.map zz).length : Int)))) rfl TT (fun h25 => ?_) (fun h25 => ?_)
 ·have h := zh h25 h
  refine jd ?_
  refine za ?_
  refine j6 ?_
  refine za (zc ?_)
  obtain ⟨h26, h⟩ := z8 h
  refine AI h26 ?_
  obtain ⟨v14, h27, h⟩ := bind_some h
  refine EX (z6 v14) (AI (vi (u6 zz h26) h27) (AI (AI (Y9 h26) (NB rfl)) ?_))
  refine za (zc ?_)
  obtain ⟨v15, h28, h⟩ := bind_some h
  refine Zy (k := 3) (m := 0) (L' := []) (rest := [((3, 0), .one (z6 v14))]) (R' := i6 v15) [] (hrec4 h28) rfl rfl rfl (AI (VS rfl) TT) TT (jm _ rfl) TT rfl ?_
  refine LWp.sim (e := [(9, i6 v15), (119, .isl 5 (a0.fE.map zz) false), (120, i6 ((a0.fE.map zz).length : Int)), (121, i6 v11)]) (L := []) (n := 3) ?_ ?_
  ·exact xe (M := []) rfl (S4 rfl rfl rfl rfl TT) TT
  refine za (zc ?_)
  refine qi (v := (v15 != 0)) rfl TT (fun h29 => ?_) (fun h29 => ?_)
  ·have h := zh h29 h
   refine za (zc ?_)
   refine kl ?_
   obtain ⟨o, hq, rfl⟩ := Option.map_eq_some_iff.1 h
   replace h := hq; clear hq
   refine AI nofun ?_
   cases h
   exact AI TT (J6 (n' := 3) [] [] rfl rfl (VS rfl) TT)
  ·have h := zl h29 h
   refine jd ?_
   refine zc ?_
   cases h
   exact AI rfl (xe (M := []) rfl (S2 rfl rfl (AI (VS rfl) TT)) TT)
 ·have h := zl h25 h
  refine Ji ?_
  obtain ⟨o, hq, rfl⟩ := Option.map_eq_some_iff.1 h
  replace h := hq; clear hq
  refine AI nofun ?_
  refine LWp.sim ?_ (z79 hrec4 h)
  exact xe (M := []) rfl TT TT
theorem z7t {rec4 : GJ → Option Int} (hrec4 : Hr4 rec4) {a0 : GJ} {v11 : Int} {m : Option Nat} {o : Int} (h : w7 rec4 m a0 v11 = some o) :
 LWp Tryd.prog wi 3 (.loop z28) (xq 2 (Qy Tryd.prog wi 3 Vs (Qx a0 o))) [(119, .isl 5 (a0.fE.map zz) false), (120, i6 ((a0.fE.map zz).length : Int)), (121, i6 v11)] [] 3 :=
 jt (m := m) (s := (v11 : Int)) (r := o) (fun (s : Int) => x6 rec4 m a0 s) (Vl a0) (Uh a0) (z1i a0) (fun s o h => z57 hrec4 h) h
theorem z8u {rec4 : GJ → Option Int} (hrec4 : Hr4 rec4) {a0 : GJ} {v5 : Bool} {m : Option Nat} {o : Int} (h : y9 rec4 m a0 v5 = some o) :
 LWp Tryd.prog wi 3 Vx (Qx a0 o) [(1, .ptr (3, 0) 0 0), (4, .bool v5)] [((3, 0), .one (z6 a0))] 4 := by
 unfold y9 at h
 refine za ?_
 refine za (zc ?_)
 refine qi (v := (!v5)) rfl TT (fun h14 => ?_) (fun h14 => ?_)
 ·have h := zh h14 h
  refine za (zc ?_)
  refine kl ?_
  cases h
  exact AI TT (J6 (n' := 4) [] [] rfl rfl (VS rfl) TT)
 ·have h := zl h14 h
  refine jd ?_
  refine za ?_
  refine za (zc ?_)
  refine j6 ?_
  refine LWp.sim ?_ (z7t hrec4 h)
  exact xe (M := []) rfl (S2 rfl rfl (AI (VS rfl) TT)) TT
theorem z6i {rec4 : GJ → Option Int} (hrec4 : Hr4 rec4) {a0 : GJ} {v5 : Bool} {v6 : Int} {m : Option Nat} {o : (Bool × Int) ⊕ Int} (h : zw rec4 m a0 v5 v6 = some o) :
 LWp Tryd.prog wi 3 z3c (kx 3 4 (Vc a0) (z0a a0) (z1h a0) o) [(1, .ptr (3, 0) 0 0), (4, .bool v5), (104, .isl 1 (a0.fA.map zp) false), (105, i6 ((a0.fA.map zp).length : Int)), (106, i6 v6)] [((3, 0), .one (z6 a0))] 4 := by
 unfold zw at h
 refine za (zc ?_)
 refine za ?_
 refine qi (v := (decide (v6 < ((a0.fA.map zp).length : Int)))) rfl TT (fun h11 => ?_) (fun h11 => ?_)
 ·have h := zh h11 h
  refine jd ?_
  refine za ?_
  refine j6 ?_
  refine za (zc ?_)
  obtain ⟨h12, h⟩ := z8 h
  refine AI h12 ?_
  refine EX (zp (a0.fA.getD v6.toNat default)) (AI (Zl zp _ _ (u6 zp h12)) (AI (AI (Y9 h12) (NB rfl)) ?_))
  refine zc ?_
  obtain ⟨v8, h13, h⟩ := bind_some h
  refine Or.inl (EX (.bool v8) (AI (fun hp => AI hp (PFn.call (zlz (zh hp h13)) (AI (VS rfl) TT) (AI rfl (AI rfl rfl)))) ?_))
  refine AI (fun hc => (bqt hc)) ?_
  refine LWp.sim (e := [(1, .ptr (3, 0) 0 0), (4, .bool (v5 && v8)), (104, .isl 1 (a0.fA.map zp) false), (105, i6 ((a0.fA.map zp).length : Int)), (106, i6 v6)]) (L := [((3, 0), .one (z6 a0))]) (n := 4) ?_ ?_
  ·exact xe (M := [((3, 0), (3, 0))]) rfl (SP rfl (S4 rfl rfl rfl rfl TT)) (AI (AI rfl (OL rfl)) TT)
  refine zc ?_
  cases h
  exact AI rfl (xe (M := [((3, 0), (3, 0))]) rfl (SP rfl (S4 rfl rfl rfl rfl TT)) (AI (AI rfl (OL rfl)) TT))
 ·have h := zl h11 h
  refine Ji ?_
  obtain ⟨o, hq, rfl⟩ := Option.map_eq_some_iff.1 h
  replace h := hq; clear hq
  refine AI nofun ?_
  refine LWp.sim ?_ (z8u hrec4 h)
  exact xe (M := [((3, 0), (3, 0))]) rfl (SP rfl (AI (VS rfl) TT)) (AI (AI rfl (OL rfl)) TT)
theorem z83 {rec4 : GJ → Option Int} (hrec4 : Hr4 rec4) {a0 : GJ} {v5 : Bool} {v6 : Int} {m : Option Nat} {o : Int} (h : yz rec4 m a0 v5 v6 = some o) :
 LWp Tryd.prog wi 3 (.loop z3c) (xq 0 (Qy Tryd.prog wi 3 Vx (Qx a0 o))) [(1, .ptr (3, 0) 0 0), (4, .bool v5), (104, .isl 1 (a0.fA.map zp) false), (105, i6 ((a0.fA.map zp).length : Int)), (106, i6 v6)] [((3, 0), .one (z6 a0))] 4 :=
 jt (m := m) (s := ((v5, v6) : (Bool × Int))) (r := o) (fun (s : (Bool × Int)) => zw rec4 m a0 s.1 s.2) (Vc a0) (z0a a0) (z1h a0) (fun s o h => z6i hrec4 h) h
noncomputable def zu (rec4 : GJ → Option Int) (m : Option Nat) (a0 : GJ) (v3 : Bool) : Option Int :=
 yz rec4 m a0 v3 0
theorem Kw {rec4 : GJ → Option Int} (hrec4 : Hr4 rec4) {a0 : GJ} {v3 : Bool} {m : Option Nat} {o : Int} (h : zu rec4 m a0 v3 = some o) :
 LWp Tryd.prog wi 3 zav (Qx a0 o) [(1, .ptr (3, 0) 0 0), (4, .bool v3)] [((3, 0), .one (z6 a0))] 4 := by
 unfold zu at h
 refine za ?_
 refine za (zc ?_)
 refine j6 ?_
 refine LWp.sim ?_ (z83 hrec4 h)
 exact xe (M := [((3, 0), (3, 0))]) rfl (SP rfl (S4 rfl rfl rfl rfl TT)) (AI (AI rfl (OL rfl)) TT)
noncomputable def zq (rec4 : GJ → Option Int) (m : Option Nat) (a0 : GJ) : Option Int :=
 if ((decide (a0.fK < 0)) || (decide (a0.fK > 5))) = true then
  some 7
 else
  (if ((((((a0.fN == 0) || ((a0.fK == 1) && (a0.fN == 1))) || (((a0.fK == 2) && (decide ((W (0 - 9007199254740991)) ≤ a0.fN))) && (decide (a0.fN ≤ 9007199254740991)))) == true) && ((a0.fT == ([] : List UInt8)) == false)) && ((a0.fK == 3) == true)) = true then q7 m a0.fT else some default).bind fun v1 =>
  if (a0.fK == 5) = true then
   (if (((((((a0.fN == 0) || ((a0.fK == 1) && (a0.fN == 1))) || (((a0.fK == 2) && (decide ((W (0 - 9007199254740991)) ≤ a0.fN))) && (decide (a0.fN ≤ 9007199254740991)))) && ((a0.fT == ([] : List UInt8)) || ((a0.fK == 3) && v1))) && ((((a0.fE.map zz).length : Int) == 0) || (decide (a0.fK ≥ 4)))) && (((a0.fA.map zp).length : Int) == ((a0.fE.map zz).length : Int))) == true) = true then xn m a0.fA else some default).bind fun v2 =>
   zu rec4 m a0 (((((((a0.fN == 0) || ((a0.fK == 1) && (a0.fN == 1))) || (((a0.fK == 2) && (decide ((W (0 - 9007199254740991)) ≤ a0.fN))) && (decide (a0.fN ≤ 9007199254740991)))) && ((a0.fT == ([] : List UInt8)) || ((a0.fK == 3) && v1))) && ((((a0.fE.map zz).length : Int) == 0) || (decide (a0.fK ≥ 4)))) && (((a0.fA.map zp).length : Int) == ((a0.fE.map zz).length : Int))) && (!v2))
  else
   zu rec4 m a0 ((((((a0.fN == 0) || ((a0.fK == 1) && (a0.fN == 1))) || (((a0.fK == 2) && (decide ((W (0 - 9007199254740991)) ≤ a0.fN))) && (decide (a0.fN ≤ 9007199254740991)))) && ((a0.fT == ([] : List UInt8)) || ((a0.fK == 3) && v1))) && ((((a0.fE.map zz).length : Int) == 0) || (decide (a0.fK ≥ 4)))) && (((a0.fA.map zp).length : Int) == 0))
theorem z74 {rec4 : GJ → Option Int} (hrec4 : Hr4 rec4) {a0 : GJ} {m : Option Nat} {o : Int} (h : zq rec4 m a0 = some o) : LWp Tryd.prog wi 3 z9v (Qx a0 o) (qx 0 [.agg (z6 a0)]) [] 3 := by
 unfold zq at h
 refine za (zc ?_)
 refine za ?_
 refine za (zc ?_)
 refine AI (fun hp => hp) ?_
 refine AI (fun hp => hp) ?_
 refine AI (fun hc => (bqf hc)) ?_
 refine LWp.sim (e := [(1, .ptr (3, 0) 0 0), (17, .bool ((decide (a0.fK < 0)) || (decide (a0.fK > 5))))]) (L := [((3, 0), .one (z6 a0))]) (n := 4) ?_ ?_
 ·exact xe (M := [((3, 0), (3, 0))]) rfl (SP rfl (AI (VS rfl) TT)) (AI (AI rfl (OL rfl)) TT)
 refine qi (v := ((decide (a0.fK < 0)) || (decide (a0.fK > 5)))) rfl TT (fun h1 => ?_) (fun h1 => ?_)
 ·have h := zh h1 h
  refine za (zc ?_)
  refine kl ?_
  cases h
  exact AI TT (J6 (n' := 4) [] [] rfl rfl (VS rfl) TT)
 ·have h := zl h1 h
  refine jd ?_
  refine za (zc ?_)
  refine za (zc ?_)
  refine AI (fun hp => hp) ?_
  refine AI (fun hp => hp) ?_
  refine AI (fun hp => hp) ?_
  refine AI (fun hp => hp) ?_
  refine AI (fun hp => hp) ?_
  refine AI (fun hp => (AI hp (fun hc => (z81 hp (bqt hc))))) ?_
  refine AI (fun hc => (bqf hc)) ?_
  refine AI (fun hp => hp) ?_
  refine AI (fun hp => hp) ?_
  refine AI (fun hp => hp) ?_
  refine AI (fun hp => hp) ?_
  refine AI (fun hp => hp) ?_
  refine AI (fun hp => (AI hp hp)) ?_
  refine AI (fun hp => (AI hp (fun hc => (z81 hp (bqt hc))))) ?_
  refine AI (fun hp => hp) ?_
  refine AI (fun hp => hp) ?_
  refine AI (fun hp => (AI hp hp)) ?_
  refine AI (fun hp => (AI hp (fun hc => (z81 hp (bqt hc))))) ?_
  refine AI (fun hc => (bqf hc)) ?_
  refine LWp.sim (e := [(1, .ptr (3, 0) 0 0), (4, .bool (((a0.fN == 0) || ((a0.fK == 1) && (a0.fN == 1))) || (((a0.fK == 2) && (decide ((W (0 - 9007199254740991)) ≤ a0.fN))) && (decide (a0.fN ≤ 9007199254740991)))))]) (L := [((3, 0), .one (z6 a0))]) (n := 4) ?_ ?_
  ·exact xe (M := [((3, 0), (3, 0))]) rfl (SP rfl (AI (VS rfl) TT)) (AI (AI rfl (OL rfl)) TT)
  refine za (zc ?_)
  refine AI (fun hp => hp) ?_
  refine AI (fun hp => hp) ?_
  refine AI (fun hp => hp) ?_
  refine AI (fun hp => hp) ?_
  refine AI (fun hp => hp) ?_
  refine AI (fun hp => hp) ?_
  refine AI (fun hp => hp) ?_
  obtain ⟨v1, h2, h⟩ := bind_some h
  refine Or.inl (EX (.bool v1) (AI (fun hp => AI hp (PFn.call (zlz (zh hp h2)) (AI (VS rfl) TT) (AI rfl (AI rfl rfl)))) ?_))
  refine AI (fun hp => (AI hp (fun hc => (z81 hp (bqt hc))))) ?_
  refine AI (fun hp => (AI hp (fun hc => (z81 hp (bqf hc))))) ?_
  refine AI (fun hc => (bqt hc)) ?_
  refine LWp.sim (e := [(1, .ptr (3, 0) 0 0), (4, .bool ((((a0.fN == 0) || ((a0.fK == 1) && (a0.fN == 1))) || (((a0.fK == 2) && (decide ((W (0 - 9007199254740991)) ≤ a0.fN))) && (decide (a0.fN ≤ 9007199254740991)))) && ((a0.fT == ([] : List UInt8)) || ((a0.fK == 3) && v1))))]) (L := [((3, 0), .one (z6 a0))]) (n := 4) ?_ ?_
  ·exact xe (M := [((3, 0), (3, 0))]) rfl (SP rfl (AI (VS rfl) TT)) (AI (AI rfl (OL rfl)) TT)
  refine za (zc ?_)
  refine AI (fun hp => hp) ?_
  refine AI (fun hp => hp) ?_
  refine AI (fun hp => hp) ?_
  refine AI (fun hp => hp) ?_
  refine AI (fun hp => hp) ?_
  refine AI (fun hp => hp) ?_
  refine AI (fun hp => (AI hp (fun hc => (z81 hp (bqf hc))))) ?_
  refine AI (fun hc => (bqt hc)) ?_
  refine LWp.sim (e := [(1, .ptr (3, 0) 0 0), (4, .bool (((((a0.fN == 0) || ((a0.fK == 1) && (a0.fN == 1))) || (((a0.fK == 2) && (decide ((W (0 - 9007199254740991)) ≤ a0.fN))) && (decide (a0.fN ≤ 9007199254740991)))) && ((a0.fT == ([] : List UInt8)) || ((a0.fK == 3) && v1))) && ((((a0.fE.map zz).length : Int) == 0) || (decide (a0.fK ≥ 4)))))]) (L := [((3, 0), .one (z6 a0))]) (n := 4) ?_ ?_
  ·exact xe (M := [((3, 0), (3, 0))]) rfl (SP rfl (AI (VS rfl) TT)) (AI (AI rfl (OL rfl)) TT)
  refine za ?_
  refine za (zc ?_)
  refine qi (v := (a0.fK == 5)) rfl TT (fun h3 => ?_) (fun h3 => ?_)
  ·have h := zh h3 h
   refine zc ?_
   refine AI (fun hp => hp) ?_
   refine AI (fun hp => hp) ?_
   refine AI (fun hp => hp) ?_
   refine AI (fun hp => hp) ?_
   refine AI (fun hp => (AI hp hp)) ?_
   refine AI (fun hc => (bqt hc)) ?_
   refine AI (fun hp => hp) ?_
   obtain ⟨v2, h4, h⟩ := bind_some h
   refine Or.inl (EX (.bool v2) (AI (fun hp => AI hp (PFn.call (zpx (zh hp h4)) (AI (VS rfl) TT) (AI rfl (AI rfl rfl)))) ?_))
   refine AI (fun hp => hp) ?_
   refine AI (fun hc => (bqt hc)) ?_
   refine LWp.sim ?_ (Kw hrec4 h)
   exact xe (M := [((3, 0), (3, 0))]) rfl (SP rfl (AI (VS rfl) TT)) (AI (AI rfl (OL rfl)) TT)
  ·have h := zl h3 h
   refine zc ?_
   refine AI (fun hp => hp) ?_
   refine AI (fun hp => hp) ?_
   refine AI (fun hp => hp) ?_
   refine AI (fun hc => (bqt hc)) ?_
   refine LWp.sim ?_ (Kw hrec4 h)
   exact xe (M := [((3, 0), (3, 0))]) rfl (SP rfl (AI (VS rfl) TT)) (AI (AI rfl (OL rfl)) TT)
theorem z9p {rec4 : GJ → Option Int} (hrec4 : Hr4 rec4) {a0 : GJ} {m : Option Nat} {o : Int} (h : zq rec4 m a0 = some o) : ACalls Tryd.prog 21 [.agg (z6 a0)] [] 3 (wg 3 (i6 o) []) := Yz (L := zhx) zie zdq (NB rfl) (z74 hrec4 h)
noncomputable def yg (m : Option Nat) : Nat → GJ → Option Int
 | 0 => fun _ => none
 | k + 1 => zq (yg m k) m
noncomputable def jb (m : Option Nat) (a0 : GJ) : Option Int := zd1 m (fun k => yg m k a0)
theorem z4f {m : Option Nat} : ∀ (k : Nat) {a0 : GJ} {o : Int}, yg m k a0 = some o → ACalls Tryd.prog 21 [.agg (z6 a0)] [] 3 (wg 3 (i6 o) [])
 | 0, _, _, h => nomatch h
 | k + 1, _, _, h => z9p (fun h => z4f k h) h
theorem zg9 {a0 : GJ} {m : Option Nat} {o : Int} (h : jb m a0 = some o) : ACalls Tryd.prog 21 [.agg (z6 a0)] [] 3 (wg 3 (i6 o) []) := (Z3 h).elim fun k h => z4f k h
noncomputable def we (m : Option Nat) (a0 : GJ) : Option Int := zq (jb m) m a0
theorem zpb {a0 : GJ} {m : Option Nat} {o : Int} (h : we m a0 = some o) : PFn Tryd.prog 21 [.agg (z6 a0)] (i6 o) :=
 ⟨rfl, _, Zy (k := 3) (m := 0) (L' := []) (rest := []) (R' := i6 o) [] (z9p zg9 h) rfl rfl rfl (AI (VS rfl) TT) TT (jm _ rfl) TT rfl ⟨rfl, rfl, rfl⟩⟩
def zpa : LCode := (.seq (.region [Qo 1 (.box (.t 0)),
 Qi 2 0])
 (.seq (.seq (.region [Qt 6 5 1,
  Qc 7 20 6,
  Qm 5 7,
  Qo 8 (.ext 0 (.t 5)),
  Qo 9 (.ext 1 (.t 5)),
  Qm 3 8,
  Qm 4 9])
 (.seq (.region [Qm 10 3,
  Qo 11 (.bin .gtr (.t 10) (.c (i6 400))),
  Qm 12 11,
  Qn 13 4 (12, false),
  Qg 14 (.bin .gtr (.t 13) (.c (i6 20))) (12, false),
  Qo 15 (.pick (.t 12) (.c (.bool true)) (.t 14))])
 (.cond (.t 15)
  (.seq (.region [Qi 2 2])
  .ret)
  .skip)))
 (.seq (.region [Qt 16 5 1,
  Qc 17 21 16,
  Qm 2 17])
 .ret)))
def zma : Lay := ⟨18, [], false⟩
def zm8 : List LRes := [.t 2]
def zt6 : LFn := ⟨1, zma, zpa, zm8⟩
theorem zpg : wz Tryd.prog [] 8 = some zt6 := by kernel_rfl
theorem zrh : Zk Tryd.prog 8 := ⟨_, Tryd.func8, rfl, rfl⟩
noncomputable def qw (m : Option Nat) (a0 : GJ) : Option Int :=
 (wn m a0).bind fun v1 =>
 if ((decide (v1.1 > 400)) || (decide (v1.2 > 20))) = true then
  some 2
 else
  (we m a0).bind fun v2 =>
  some v2
def zth (a0 : GJ) (o : Int) : Exit → Env → AHeap → Nat → Prop := Jj zm8 (vl (i6 o))
theorem zjn {a0 : GJ} {m : Option Nat} {o : Int} (h : qw m a0 = some o) : LWp Tryd.prog zma 0 zpa (zth a0 o) (qx 0 [.agg (z6 a0)]) [] 0 := by
 unfold qw at h
 refine za (zc ?_)
 refine za ?_
 refine za (zc ?_)
 obtain ⟨v1, h1, h⟩ := bind_some h
 refine PFn.call (zqh h1) (AI (VS rfl) TT) ?_
 refine LWp.sim (e := [(1, .ptr (0, 0) 0 0), (3, i6 v1.1), (4, i6 v1.2)]) (L := [((0, 0), .one (z6 a0))]) (n := 1) ?_ ?_
 ·exact xe (M := [((0, 0), (0, 0))]) rfl (SP rfl (S2 rfl rfl TT)) (AI (AI rfl (OL rfl)) TT)
 refine za (zc ?_)
 refine AI (fun hp => hp) ?_
 refine AI (fun hc => (bqf hc)) ?_
 refine qi (v := ((decide (v1.1 > 400)) || (decide (v1.2 > 20)))) rfl TT (fun h2 => ?_) (fun h2 => ?_)
 ·have h := zh h2 h
  refine za (zc ?_)
  refine kl ?_
  cases h
  exact AI TT (AI rfl (VS rfl))
 ·have h := zl h2 h
  refine jd ?_
  refine za (zc ?_)
  obtain ⟨v2, h3, h⟩ := bind_some h
  refine PFn.call (zpb h3) (AI (VS rfl) TT) ?_
  refine LWp.sim (e := [(2, i6 v2)]) (L := []) (n := 0) ?_ ?_
  ·exact xe (M := []) rfl (AI (VS rfl) TT) TT
  refine kl ?_
  cases h
  exact AI TT (AI rfl (VS rfl))
theorem zsr {a0 : GJ} {m : Option Nat} {o : Int} (h : qw m a0 = some o) : PFn Tryd.prog 8 [.agg (z6 a0)] (i6 o) := PFn.ofFnW (L := zt6) zpg zrh (NB rfl) rfl (zjn h)
def za4 : LCode := (.seq (.region [Qo 2 (.mv (.c (.str [])))])
 (.seq (.seq (.region [Qm 3 0,
  Qo 4 (.bin .lss (.t 3) (.c (i6 0)))])
 (.cond (.t 4)
  (.seq (.seq (.region [Qm 5 0,
   Qo 6 (.bin .eql (.t 5) (.c (i6 (-9223372036854775808))))])
  (.cond (.t 6)
   (.seq (.region [Qo 2 (.mv (.c (.str [45, 57, 50, 50, 51, 51, 55, 50, 48, 51, 54, 56, 53, 52, 55, 55, 53, 56, 48, 56])))])
   .ret)
   .skip))
  (.seq (.region [Qm 7 0,
   Qo 8 (.un .neg (.t 7)),
   Qc 9 24 8,
   Qo 10 (.bin .add (.c (.str [45])) (.t 9)),
   Qm 2 10])
  .ret))
  .skip))
 (.seq (.seq (.region [Qm 11 0,
  Qo 12 (.bin .geq (.t 11) (.c (i6 10)))])
 (.cond (.t 12)
  (.seq (.region [Qm 13 0,
   Qo 14 (.bin .quo (.t 13) (.c (i6 10))),
   Qc 15 24 14,
   Qm 16 0,
   Qo 17 (.bin .rem (.t 16) (.c (i6 10))),
   Qc 18 24 17,
   Qo 19 (.bin .add (.t 15) (.t 18)),
   Qm 2 19])
  .ret)
  .skip))
 (.seq (.region [Qm 20 0,
  Qm 21 0,
  Qo 22 (.bin .add (.t 21) (.c (i6 1))),
  Qo 23 (.slStr (.c (.str [48, 49, 50, 51, 52, 53, 54, 55, 56, 57])) (some (.t 20)) (some (.t 22))),
  Qm 2 23])
 .ret))))
def z5y : Lay := ⟨24, [], false⟩
def z6t : List LRes := [.t 2]
def zh8 : LFn := ⟨1, z5y, za4, z6t⟩
theorem zif : wz Tryd.prog [] 24 = some zh8 := by kernel_rfl
theorem zgj : Zk Tryd.prog 24 := ⟨_, Tryd.func24, rfl, rfl⟩
noncomputable def yn (rec5 : Int → Option (List UInt8)) (m : Option Nat) (a0 : Int) : Option (List UInt8) :=
 if (decide (a0 < 0)) = true then
  if (a0 == (-9223372036854775808)) = true then
   some ([45, 57, 50, 50, 51, 51, 55, 50, 48, 51, 54, 56, 53, 52, 55, 55, 53, 56, 48, 56] : List UInt8)
  else
   (rec5 (W (0 - a0))).bind fun v1 =>
   if (((([45] : List UInt8).length + v1.length : Nat) : Int) ≤ 9223372036854775807) then
   some (([45] : List UInt8) ++ v1)
   else none
 else
  if (decide (a0 ≥ 10)) = true then
   (rec5 (W (a0.tdiv 10))).bind fun v2 =>
   (rec5 (a0.tmod 10)).bind fun v3 =>
   if (((v2.length + v3.length : Nat) : Int) ≤ 9223372036854775807) then
   some (v2 ++ v3)
   else none
  else
   if (0 : Int) ≤ a0 ∧ a0 ≤ (W (a0 + 1)) ∧ (W (a0 + 1)) ≤ (([48, 49, 50, 51, 52, 53, 54, 55, 56, 57] : List UInt8).length : Int) then
   some ((([48, 49, 50, 51, 52, 53, 54, 55, 56, 57] : List UInt8).take (W (a0 + 1)).toNat).drop a0.toNat)
   else none
def zoj (a0 : Int) (o : (List UInt8)) : Exit → Env → AHeap → Nat → Prop := Jj z6t (Xn 3 3 (.str o) [])
theorem z8p {rec5 : Int → Option (List UInt8)} (hrec5 : ∀ {a0 : Int} {o : (List UInt8)}, rec5 a0 = some o → ACalls Tryd.prog 24 [i6 a0] [] 3 (wg 3 (.str o) [])) {a0 : Int} {m : Option Nat} {o : (List UInt8)} (h : yn rec5 m a0 = some o) : LWp Tryd.prog z5y 3 za4 (zoj a0 o) (qx 0 [i6 a0]) [] 3 := by
 unfold yn at h
 refine za (zc ?_)
 refine za ?_
 refine za (zc ?_)
 refine qi (v := (decide (a0 < 0))) rfl TT (fun h1 => ?_) (fun h1 => ?_)
 ·have h := zh h1 h
  refine za ?_
  refine za (zc ?_)
  refine qi (v := (a0 == (-9223372036854775808))) rfl TT (fun h2 => ?_) (fun h2 => ?_)
  ·have h := zh h2 h
   refine za (zc ?_)
   refine kl ?_
   cases h
   exact AI TT (J6 (n' := 3) [] [] rfl rfl (VS rfl) TT)
  ·have h := zl h2 h
   refine jd ?_
   refine za (zc ?_)
   obtain ⟨v1, h3, h⟩ := bind_some h
   refine Zy (k := 3) (m := 0) (L' := []) (rest := []) (R' := .str v1) [] (hrec5 h3) rfl rfl rfl (AI (VS rfl) TT) TT (jm _ rfl) TT rfl ?_
   obtain ⟨h4, h⟩ := z8 h
   refine AI h4 ?_
   refine LWp.sim (e := [(2, .str (([45] : List UInt8) ++ v1))]) (L := []) (n := 3) ?_ ?_
   ·exact xe (M := []) rfl (AI (VS rfl) TT) TT
   refine kl ?_
   cases h
   exact AI TT (J6 (n' := 3) [] [] rfl rfl (VS rfl) TT)
 ·have h := zl h1 h
  refine jd ?_
  refine za ?_
  refine za (zc ?_)
  refine qi (v := (decide (a0 ≥ 10))) rfl TT (fun h5 => ?_) (fun h5 => ?_)
  ·have h := zh h5 h
   refine za (zc ?_)
   refine AI (by decide) ?_
   obtain ⟨v2, h6, h⟩ := bind_some h
   refine Zy (k := 3) (m := 0) (L' := []) (rest := []) (R' := .str v2) [] (hrec5 h6) rfl rfl rfl (AI (VS rfl) TT) TT (jm _ rfl) TT rfl ?_
   refine AI (by decide) ?_
   obtain ⟨v3, h7, h⟩ := bind_some h
   refine Zy (k := 3) (m := 0) (L' := []) (rest := []) (R' := .str v3) [] (hrec5 h7) rfl rfl rfl (AI (VS rfl) TT) TT (jm _ rfl) TT rfl ?_
   obtain ⟨h8, h⟩ := z8 h
   refine AI h8 ?_
   refine LWp.sim (e := [(2, .str (v2 ++ v3))]) (L := []) (n := 3) ?_ ?_
   ·exact xe (M := []) rfl (AI (VS rfl) TT) TT
   refine kl ?_
   cases h
   exact AI TT (J6 (n' := 3) [] [] rfl rfl (VS rfl) TT)
  ·have h := zl h5 h
   refine jd ?_
   refine za (zc ?_)
   obtain ⟨h9, h⟩ := z8 h
   refine AI h9 ?_
   refine LWp.sim (e := [(2, .str ((([48, 49, 50, 51, 52, 53, 54, 55, 56, 57] : List UInt8).take (W (a0 + 1)).toNat).drop a0.toNat))]) (L := []) (n := 3) ?_ ?_
   ·exact xe (M := []) rfl (AI (VS rfl) TT) TT
   refine kl ?_
   cases h
   exact AI TT (J6 (n' := 3) [] [] rfl rfl (VS rfl) TT)
theorem zal {rec5 : Int → Option (List UInt8)} (hrec5 : ∀ {a0 : Int} {o : (List UInt8)}, rec5 a0 = some o → ACalls Tryd.prog 24 [i6 a0] [] 3 (wg 3 (.str o) [])) {a0 : Int} {m : Option Nat} {o : (List UInt8)} (h : yn rec5 m a0 = some o) : ACalls Tryd.prog 24 [i6 a0] [] 3 (wg 3 (.str o) []) := Yz (L := zh8) zif zgj (NB rfl) (z8p hrec5 h)
noncomputable def y8 (m : Option Nat) : Nat → Int → Option (List UInt8)
 | 0 => fun _ => none
 | k + 1 => yn (y8 m k) m
noncomputable def qk (m : Option Nat) (a0 : Int) : Option (List UInt8) := zd1 m (fun k => y8 m k a0)
theorem z5w {m : Option Nat} : ∀ (k : Nat) {a0 : Int} {o : (List UInt8)}, y8 m k a0 = some o → ACalls Tryd.prog 24 [i6 a0] [] 3 (wg 3 (.str o) [])
 | 0, _, _, h => nomatch h
 | k + 1, _, _, h => zal (fun h => z5w k h) h
theorem z5f {a0 : Int} {m : Option Nat} {o : (List UInt8)} (h : qk m a0 = some o) : ACalls Tryd.prog 24 [i6 a0] [] 3 (wg 3 (.str o) []) := (Z3 h).elim fun k h => z5w k h
noncomputable def Yt (m : Option Nat) (a0 : Int) : Option (List UInt8) := yn (qk m) m a0
theorem ztf {a0 : Int} {m : Option Nat} {o : (List UInt8)} (h : Yt m a0 = some o) : PFn Tryd.prog 24 [i6 a0] (.str o) :=
 ⟨rfl, _, Zy (k := 3) (m := 0) (L' := []) (rest := []) (R' := .str o) [] (zal z5f h) rfl rfl rfl (AI (VS rfl) TT) TT (jm _ rfl) TT rfl ⟨rfl, rfl, rfl⟩⟩
def zlv : LCode := (.region [Qo 68 (.bin .add (.t 8) (.c (i6 1))),
 Qm 8 68])
def zht : LCode := (.seq (.region [Qo 9 (.bin .lss (.t 8) (.t 7))])
 (.seq (.cond (.t 9)
  .skip
  (.exit 0))
 (.seq (.block 1
  (.seq (.region [Qm 10 8,
   Qm 4 10])
  (.seq (.region [Qm 11 0,
   Qm 12 4,
   Qo 13 (.idxS (.t 11) (.t 12)),
   Qm 5 13])
  (.seq (.region [Qm 14 5])
  (.block 2
   (.seq (.region [Qo 41 (.bin .eql (.t 14) (.c (.int .u8 34))),
    Qm 40 41])
   (.cond (.t 40)
    (.region [Qm 42 3,
     Qo 43 (.bin .add (.t 42) (.c (.str [92, 34]))),
     Qm 3 43])
    (.seq (.region [Qo 45 (.bin .eql (.t 14) (.c (.int .u8 92))),
     Qm 44 45])
    (.cond (.t 44)
     (.region [Qm 46 3,
      Qo 47 (.bin .add (.t 46) (.c (.str [92, 92]))),
      Qm 3 47])
     (.seq (.region [Qo 49 (.bin .eql (.t 14) (.c (.int .u8 8))),
      Qm 48 49])
     (.cond (.t 48)
      (.region [Qm 50 3,
       Qo 51 (.bin .add (.t 50) (.c (.str [92, 98]))),
       Qm 3 51])
      (.seq (.region [Qo 53 (.bin .eql (.t 14) (.c (.int .u8 9))),
       Qm 52 53])
      (.cond (.t 52)
       (.region [Qm 54 3,
        Qo 55 (.bin .add (.t 54) (.c (.str [92, 116]))),
        Qm 3 55])
       (.seq (.region [Qo 57 (.bin .eql (.t 14) (.c (.int .u8 10))),
        Qm 56 57])
       (.cond (.t 56)
        (.region [Qm 58 3,
         Qo 59 (.bin .add (.t 58) (.c (.str [92, 110]))),
         Qm 3 59])
        (.seq (.region [Qo 61 (.bin .eql (.t 14) (.c (.int .u8 12))),
         Qm 60 61])
        (.cond (.t 60)
         (.region [Qm 62 3,
          Qo 63 (.bin .add (.t 62) (.c (.str [92, 102]))),
          Qm 3 63])
         (.seq (.region [Qo 65 (.bin .eql (.t 14) (.c (.int .u8 13))),
          Qm 64 65])
         (.cond (.t 64)
          (.region [Qm 66 3,
           Qo 67 (.bin .add (.t 66) (.c (.str [92, 114]))),
           Qm 3 67])
          (.seq (.region [Qm 15 5,
           Qo 16 (.bin .lss (.t 15) (.c (.int .u8 32)))])
          (.cond (.t 16)
           (.quiet [Qm 17 3,
            Qm 18 5,
            Qo 19 (.bin .quo (.t 18) (.c (.int .u8 16))),
            Qm 20 5,
            Qo 21 (.bin .quo (.t 20) (.c (.int .u8 16))),
            Qo 22 (.bin .add (.t 21) (.c (.int .u8 1))),
            Qo 23 (.slStr (.c (.str [48, 49])) (some (.t 19)) (some (.t 22))),
            Qo 24 (.bin .add (.c (.str [92, 117, 48, 48])) (.t 23)),
            Qm 25 5,
            Qo 26 (.bin .rem (.t 25) (.c (.int .u8 16))),
            Qm 27 5,
            Qo 28 (.bin .rem (.t 27) (.c (.int .u8 16))),
            Qo 29 (.bin .add (.t 28) (.c (.int .u8 1))),
            Qo 30 (.slStr (.c (.str [48, 49, 50, 51, 52, 53, 54, 55, 56, 57, 97, 98, 99, 100, 101, 102])) (some (.t 26)) (some (.t 29))),
            Qo 31 (.bin .add (.t 24) (.t 30)),
            Qo 32 (.bin .add (.t 17) (.t 31)),
            Qm 3 32])
           (.region [Qm 33 3,
            Qm 34 0,
            Qm 35 4,
            Qm 36 4,
            Qo 37 (.bin .add (.t 36) (.c (i6 1))),
            Qo 38 (.slStr (.t 34) (some (.t 35)) (some (.t 37))),
            Qo 39 (.bin .add (.t 33) (.t 38)),
            Qm 3 39]))))))))))))))))))))))
 zlv)))
def za1 : LCode := (.seq (.region [Qm 69 3,
 Qo 70 (.bin .add (.t 69) (.c (.str [34]))),
 Qm 2 70])
 .ret)
def zlx : LCode := (.seq (.region [Qo 2 (.mv (.c (.str [])))])
 (.seq (.region [Qo 3 (.mv (.c (.str [34])))])
 (.seq (.seq (.region [Qm 6 0,
  Qo 7 (.len true (.t 6)),
  Qi 8 0])
 (.block 0
  (.loop
   zht)))
 za1)))
def X0 : Lay := ⟨71, [], false⟩
def zdh : List LRes := [.t 2]
def zrn : LFn := ⟨1, X0, zlx, zdh⟩
theorem zno : wz Tryd.prog [] 25 = some zrn := by kernel_rfl
theorem zod : Zk Tryd.prog 25 := ⟨_, Tryd.func25, rfl, rfl⟩
def zke (a0 : List UInt8) (o : (List UInt8)) : Exit → Env → AHeap → Nat → Prop := Jj zdh (vl (.str o))
def Wx (a0 : List UInt8) (s : ((List UInt8) × Int)) : Env := [(0, .str a0), (3, .str s.1), (7, i6 (a0.length : Int)), (8, i6 s.2)]
def U0 (a0 : List UInt8) (s : ((List UInt8) × Int)) : AHeap := []
def z3g (a0 : List UInt8) (o : (List UInt8)) : Exit → Env → AHeap → Nat → Prop := (xq 0 (Qy Tryd.prog X0 0 za1 (zke a0 o)))
noncomputable def ze (m : Option Nat) (a0 : List UInt8) (v3 : Int) (v5 : List UInt8) : Option (((List UInt8) × Int) ⊕ (List UInt8)) :=
 some (.inl (v5, (W (v3 + 1))))
theorem ku {a0 : List UInt8} {v3 : Int} {v5 : List UInt8} {m : Option Nat} {o : (((List UInt8) × Int) ⊕ (List UInt8))} (h : ze m a0 v3 v5 = some o) :
 LWp Tryd.prog X0 0 zlv (kx 0 0 (Wx a0) (U0 a0) (z3g a0) o) [(0, .str a0), (3, .str v5), (7, i6 (a0.length : Int)), (8, i6 v3)] [] 0 := by
 unfold ze at h
 refine zc ?_
 cases h
 exact AI rfl (xe (M := []) rfl (S4 rfl rfl rfl rfl TT) TT)
noncomputable def jj (m : Option Nat) (v2 : List UInt8) : Option (List UInt8) :=
 if (((v2.length + ([34] : List UInt8).length : Nat) : Int) ≤ 9223372036854775807) then
 some (v2 ++ ([34] : List UInt8))
 else none
noncomputable def qg (m : Option Nat) (a0 : List UInt8) (v2 : List UInt8) (v3 : Int) : Option (((List UInt8) × Int) ⊕ (List UInt8)) :=
 if (decide (v3 < (a0.length : Int))) = true then
  if (0 : Int) ≤ v3 ∧ v3 < (a0.length : Int) then
  if ((((a0.getD v3.toNat 0).toNat : Nat) : Int) == 34) = true then
   if (((v2.length + ([92, 34] : List UInt8).length : Nat) : Int) ≤ 9223372036854775807) then
   ze m a0 v3 (v2 ++ ([92, 34] : List UInt8))
   else none
  else
   if ((((a0.getD v3.toNat 0).toNat : Nat) : Int) == 92) = true then
    if (((v2.length + ([92, 92] : List UInt8).length : Nat) : Int) ≤ 9223372036854775807) then
    ze m a0 v3 (v2 ++ ([92, 92] : List UInt8))
    else none
   else
    if ((((a0.getD v3.toNat 0).toNat : Nat) : Int) == 8) = true then
     if (((v2.length + ([92, 98] : List UInt8).length : Nat) : Int) ≤ 9223372036854775807) then
     ze m a0 v3 (v2 ++ ([92, 98] : List UInt8))
     else none
    else
     if ((((a0.getD v3.toNat 0).toNat : Nat) : Int) == 9) = true then
      if (((v2.length + ([92, 116] : List UInt8).length : Nat) : Int) ≤ 9223372036854775807) then
      ze m a0 v3 (v2 ++ ([92, 116] : List UInt8))
      else none
     else
      if ((((a0.getD v3.toNat 0).toNat : Nat) : Int) == 10) = true then
       if (((v2.length + ([92, 110] : List UInt8).length : Nat) : Int) ≤ 9223372036854775807) then
       ze m a0 v3 (v2 ++ ([92, 110] : List UInt8))
       else none
      else
       if ((((a0.getD v3.toNat 0).toNat : Nat) : Int) == 12) = true then
        if (((v2.length + ([92, 102] : List UInt8).length : Nat) : Int) ≤ 9223372036854775807) then
        ze m a0 v3 (v2 ++ ([92, 102] : List UInt8))
        else none
       else
        if ((((a0.getD v3.toNat 0).toNat : Nat) : Int) == 13) = true then
         if (((v2.length + ([92, 114] : List UInt8).length : Nat) : Int) ≤ 9223372036854775807) then
         ze m a0 v3 (v2 ++ ([92, 114] : List UInt8))
         else none
        else
         if (decide ((((a0.getD v3.toNat 0).toNat : Nat) : Int) < 32)) = true then
          if (0 : Int) ≤ (IntKind.wrap .u8 ((((a0.getD v3.toNat 0).toNat : Nat) : Int).tdiv 16)) ∧ (IntKind.wrap .u8 ((((a0.getD v3.toNat 0).toNat : Nat) : Int).tdiv 16)) ≤ (IntKind.wrap .u8 ((IntKind.wrap .u8 ((((a0.getD v3.toNat 0).toNat : Nat) : Int).tdiv 16)) + 1)) ∧ (IntKind.wrap .u8 ((IntKind.wrap .u8 ((((a0.getD v3.toNat 0).toNat : Nat) : Int).tdiv 16)) + 1)) ≤ (([48, 49] : List UInt8).length : Int) then
          if (((([92, 117, 48, 48] : List UInt8).length + ((([48, 49] : List UInt8).take (IntKind.wrap .u8 ((IntKind.wrap .u8 ((((a0.getD v3.toNat 0).toNat : Nat) : Int).tdiv 16)) + 1)).toNat).drop (IntKind.wrap .u8 ((((a0.getD v3.toNat 0).toNat : Nat) : Int).tdiv 16)).toNat).length : Nat) : Int) ≤ 9223372036854775807) then
          if (0 : Int) ≤ ((((a0.getD v3.toNat 0).toNat : Nat) : Int).tmod 16) ∧ ((((a0.getD v3.toNat 0).toNat : Nat) : Int).tmod 16) ≤ (IntKind.wrap .u8 (((((a0.getD v3.toNat 0).toNat : Nat) : Int).tmod 16) + 1)) ∧ (IntKind.wrap .u8 (((((a0.getD v3.toNat 0).toNat : Nat) : Int).tmod 16) + 1)) ≤ (([48, 49, 50, 51, 52, 53, 54, 55, 56, 57, 97, 98, 99, 100, 101, 102] : List UInt8).length : Int) then
          if ((((([92, 117, 48, 48] : List UInt8) ++ ((([48, 49] : List UInt8).take (IntKind.wrap .u8 ((IntKind.wrap .u8 ((((a0.getD v3.toNat 0).toNat : Nat) : Int).tdiv 16)) + 1)).toNat).drop (IntKind.wrap .u8 ((((a0.getD v3.toNat 0).toNat : Nat) : Int).tdiv 16)).toNat)).length + ((([48, 49, 50, 51, 52, 53, 54, 55, 56, 57, 97, 98, 99, 100, 101, 102] : List UInt8).take (IntKind.wrap .u8 (((((a0.getD v3.toNat 0).toNat : Nat) : Int).tmod 16) + 1)).toNat).drop ((((a0.getD v3.toNat 0).toNat : Nat) : Int).tmod 16).toNat).length : Nat) : Int) ≤ 9223372036854775807) then
          if (((v2.length + ((([92, 117, 48, 48] : List UInt8) ++ ((([48, 49] : List UInt8).take (IntKind.wrap .u8 ((IntKind.wrap .u8 ((((a0.getD v3.toNat 0).toNat : Nat) : Int).tdiv 16)) + 1)).toNat).drop (IntKind.wrap .u8 ((((a0.getD v3.toNat 0).toNat : Nat) : Int).tdiv 16)).toNat)) ++ ((([48, 49, 50, 51, 52, 53, 54, 55, 56, 57, 97, 98, 99, 100, 101, 102] : List UInt8).take (IntKind.wrap .u8 (((((a0.getD v3.toNat 0).toNat : Nat) : Int).tmod 16) + 1)).toNat).drop ((((a0.getD v3.toNat 0).toNat : Nat) : Int).tmod 16).toNat)).length : Nat) : Int) ≤ 9223372036854775807) then
          ze m a0 v3 (v2 ++ ((([92, 117, 48, 48] : List UInt8) ++ ((([48, 49] : List UInt8).take (IntKind.wrap .u8 ((IntKind.wrap .u8 ((((a0.getD v3.toNat 0).toNat : Nat) : Int).tdiv 16)) + 1)).toNat).drop (IntKind.wrap .u8 ((((a0.getD v3.toNat 0).toNat : Nat) : Int).tdiv 16)).toNat)) ++ ((([48, 49, 50, 51, 52, 53, 54, 55, 56, 57, 97, 98, 99, 100, 101, 102] : List UInt8).take (IntKind.wrap .u8 (((((a0.getD v3.toNat 0).toNat : Nat) : Int).tmod 16) + 1)).toNat).drop ((((a0.getD v3.toNat 0).toNat : Nat) : Int).tmod 16).toNat)))
          else none
          else none
          else none
          else none
          else none
         else
          if (0 : Int) ≤ v3 ∧ v3 ≤ (W (v3 + 1)) ∧ (W (v3 + 1)) ≤ (a0.length : Int) then
          if (((v2.length + ((a0.take (W (v3 + 1)).toNat).drop v3.toNat).length : Nat) : Int) ≤ 9223372036854775807) then
          ze m a0 v3 (v2 ++ ((a0.take (W (v3 + 1)).toNat).drop v3.toNat))
          else none
          else none
  else none
 else
  Option.map Sum.inr (
   jj m v2)
noncomputable def xt (m : Option Nat) (a0 : List UInt8) (v2 : List UInt8) (v3 : Int) : Option (List UInt8) := Zg m (fun (s : ((List UInt8) × Int)) => qg m a0 s.1 s.2) (v2, v3)
theorem zij {a0 : List UInt8} {v2 : List UInt8} {m : Option Nat} {o : (List UInt8)} (h : jj m v2 = some o) :
 LWp Tryd.prog X0 0 za1 (zke a0 o) [(3, .str v2)] [] 0 := by
 unfold jj at h
 refine za (zc ?_)
 obtain ⟨h73, h⟩ := z8 h
 refine AI h73 ?_
 refine kl ?_
 cases h
 exact AI TT (AI rfl (VS rfl))
theorem zca {a0 : List UInt8} {v2 : List UInt8} {v3 : Int} {m : Option Nat} {o : ((List UInt8) × Int) ⊕ (List UInt8)} (h : qg m a0 v2 v3 = some o) :
 LWp Tryd.prog X0 0 zht (kx 0 0 (Wx a0) (U0 a0) (z3g a0) o) [(0, .str a0), (3, .str v2), (7, i6 (a0.length : Int)), (8, i6 v3)] [] 0 := by
 unfold qg at h
 refine za (zc ?_)
 refine za ?_
 refine qi (v := (decide (v3 < (a0.length : Int)))) rfl TT (fun h49 => ?_) (fun h49 => ?_)
 ·have h := zh h49 h
  refine jd ?_
  refine za ?_
  refine j6 ?_
  refine za (zc ?_)
  refine za (zc ?_)
  obtain ⟨h50, h⟩ := z8 h
  refine AI h50 ?_
  refine za (zc ?_)
  refine LWp.sim (e := [(0, .str a0), (3, .str v2), (4, i6 v3), (5, .int .u8 (((a0.getD v3.toNat 0).toNat : Nat) : Int)), (7, i6 (a0.length : Int)), (8, i6 v3), (14, .int .u8 (((a0.getD v3.toNat 0).toNat : Nat) : Int))]) (L := []) (n := 0) ?_ ?_
  ·exact xe (M := []) rfl (S4 rfl rfl rfl rfl (S2 rfl rfl (AI (VS rfl) TT))) TT
  refine j6 ?_
  refine za (zc ?_)
  refine qi (v := ((((a0.getD v3.toNat 0).toNat : Nat) : Int) == 34)) rfl TT (fun h51 => ?_) (fun h51 => ?_)
  ·have h := zh h51 h
   refine zc ?_
   obtain ⟨h52, h⟩ := z8 h
   refine AI h52 ?_
   refine LWp.sim ?_ (ku h)
   exact xe (M := []) rfl (S4 rfl rfl rfl rfl TT) TT
  ·have h := zl h51 h
   refine za (zc ?_)
   refine qi (v := ((((a0.getD v3.toNat 0).toNat : Nat) : Int) == 92)) rfl TT (fun h53 => ?_) (fun h53 => ?_)
   ·have h := zh h53 h
    refine zc ?_
    obtain ⟨h54, h⟩ := z8 h
    refine AI h54 ?_
    refine LWp.sim ?_ (ku h)
    exact xe (M := []) rfl (S4 rfl rfl rfl rfl TT) TT
   ·have h := zl h53 h
    refine za (zc ?_)
    refine qi (v := ((((a0.getD v3.toNat 0).toNat : Nat) : Int) == 8)) rfl TT (fun h55 => ?_) (fun h55 => ?_)
    ·have h := zh h55 h
     refine zc ?_
     obtain ⟨h56, h⟩ := z8 h
     refine AI h56 ?_
     refine LWp.sim ?_ (ku h)
     exact xe (M := []) rfl (S4 rfl rfl rfl rfl TT) TT
    ·have h := zl h55 h
     refine za (zc ?_)
     refine LWp.sim (e := [(0, .str a0), (3, .str v2), (4, i6 v3), (5, .int .u8 (((a0.getD v3.toNat 0).toNat : Nat) : Int)), (7, i6 (a0.length : Int)), (8, i6 v3), (14, .int .u8 (((a0.getD v3.toNat 0).toNat : Nat) : Int)), (52, .bool ((((a0.getD v3.toNat 0).toNat : Nat) : Int) == 9))]) (L := []) (n := 0) ?_ ?_
     ·exact xe (M := []) rfl (S4 rfl rfl rfl rfl (S4 rfl rfl rfl rfl TT)) TT
     refine qi (v := ((((a0.getD v3.toNat 0).toNat : Nat) : Int) == 9)) rfl TT (fun h57 => ?_) (fun h57 => ?_)
     ·have h := zh h57 h
      refine zc ?_
      obtain ⟨h58, h⟩ := z8 h
      refine AI h58 ?_
      refine LWp.sim ?_ (ku h)
      exact xe (M := []) rfl (S4 rfl rfl rfl rfl TT) TT
     ·have h := zl h57 h
      refine za (zc ?_)
      refine qi (v := ((((a0.getD v3.toNat 0).toNat : Nat) : Int) == 10)) rfl TT (fun h59 => ?_) (fun h59 => ?_)
      ·have h := zh h59 h
       refine zc ?_
       obtain ⟨h60, h⟩ := z8 h
       refine AI h60 ?_
       refine LWp.sim ?_ (ku h)
       exact xe (M := []) rfl (S4 rfl rfl rfl rfl TT) TT
      ·have h := zl h59 h
       refine za (zc ?_)
       refine qi (v := ((((a0.getD v3.toNat 0).toNat : Nat) : Int) == 12)) rfl TT (fun h61 => ?_) (fun h61 => ?_)
       ·have h := zh h61 h
        refine zc ?_
        obtain ⟨h62, h⟩ := z8 h
        refine AI h62 ?_
        refine LWp.sim ?_ (ku h)
        exact xe (M := []) rfl (S4 rfl rfl rfl rfl TT) TT
       ·have h := zl h61 h
        refine za (zc ?_)
        refine qi (v := ((((a0.getD v3.toNat 0).toNat : Nat) : Int) == 13)) rfl TT (fun h63 => ?_) (fun h63 => ?_)
        ·have h := zh h63 h
         refine zc ?_
         obtain ⟨h64, h⟩ := z8 h
         refine AI h64 ?_
         refine LWp.sim ?_ (ku h)
         exact xe (M := []) rfl (S4 rfl rfl rfl rfl TT) TT
        ·have h := zl h63 h
         refine za (zc ?_)
         refine LWp.sim (e := [(0, .str a0), (3, .str v2), (4, i6 v3), (5, .int .u8 (((a0.getD v3.toNat 0).toNat : Nat) : Int)), (7, i6 (a0.length : Int)), (8, i6 v3), (16, .bool (decide ((((a0.getD v3.toNat 0).toNat : Nat) : Int) < 32)))]) (L := []) (n := 0) ?_ ?_
         ·exact xe (M := []) rfl (S4 rfl rfl rfl rfl (S2 rfl rfl (AI (VS rfl) TT))) TT
         refine qi (v := (decide ((((a0.getD v3.toNat 0).toNat : Nat) : Int) < 32))) rfl TT (fun h65 => ?_) (fun h65 => ?_)
         ·have h := zh h65 h
          refine zpd ?_
          refine AI (by decide) ?_
          refine AI (by decide) ?_
          obtain ⟨h66, h⟩ := z8 h
          refine AI h66 ?_
          obtain ⟨h67, h⟩ := z8 h
          refine AI h67 ?_
          refine AI (by decide) ?_
          refine AI (by decide) ?_
          obtain ⟨h68, h⟩ := z8 h
          refine AI h68 ?_
          obtain ⟨h69, h⟩ := z8 h
          refine AI h69 ?_
          obtain ⟨h70, h⟩ := z8 h
          refine AI h70 ?_
          refine LWp.sim ?_ (ku h)
          exact xe (M := []) rfl (S4 rfl rfl rfl rfl TT) TT
         ·have h := zl h65 h
          refine zc ?_
          obtain ⟨h71, h⟩ := z8 h
          refine AI h71 ?_
          obtain ⟨h72, h⟩ := z8 h
          refine AI h72 ?_
          refine LWp.sim ?_ (ku h)
          exact xe (M := []) rfl (S4 rfl rfl rfl rfl TT) TT
 ·have h := zl h49 h
  refine Ji ?_
  obtain ⟨o, hq, rfl⟩ := Option.map_eq_some_iff.1 h
  replace h := hq; clear hq
  refine AI nofun ?_
  refine LWp.sim ?_ (zij h)
  exact xe (M := []) rfl (AI (VS rfl) TT) TT
theorem zgc {a0 : List UInt8} {v2 : List UInt8} {v3 : Int} {m : Option Nat} {o : (List UInt8)} (h : xt m a0 v2 v3 = some o) :
 LWp Tryd.prog X0 0 (.loop zht) (xq 0 (Qy Tryd.prog X0 0 za1 (zke a0 o))) [(0, .str a0), (3, .str v2), (7, i6 (a0.length : Int)), (8, i6 v3)] [] 0 :=
 jt (m := m) (s := ((v2, v3) : ((List UInt8) × Int))) (r := o) (fun (s : ((List UInt8) × Int)) => qg m a0 s.1 s.2) (Wx a0) (U0 a0) (z3g a0) (fun s o h => zca h) h
noncomputable def xa (m : Option Nat) (a0 : List UInt8) : Option (List UInt8) :=
 xt m a0 ([34] : List UInt8) 0
theorem zil {a0 : List UInt8} {m : Option Nat} {o : (List UInt8)} (h : xa m a0 = some o) : LWp Tryd.prog X0 0 zlx (zke a0 o) (qx 0 [.str a0]) [] 0 := by
 unfold xa at h
 refine za (zc ?_)
 refine za (zc ?_)
 refine za ?_
 refine za (zc ?_)
 refine j6 ?_
 refine LWp.sim ?_ (zgc h)
 exact xe (M := []) rfl (S4 rfl rfl rfl rfl TT) TT
theorem zld {a0 : List UInt8} {m : Option Nat} {o : (List UInt8)} (h : xa m a0 = some o) : PFn Tryd.prog 25 [.str a0] (.str o) := PFn.ofFnW (L := zrn) zno zod (NB rfl) rfl (zil h)
def zba : LCode := (.region [Qm 49 3,
 Qt 50 5 5,
 Qc 51 10 50,
 Qo 52 (.bin .add (.t 49) (.t 51)),
 Qm 3 52])
def zbk : LCode := (.seq (.seq (.region [Qf 37 0 1,
 Ql 38 1 37,
 Qo 39 (.bin .eql (.t 38) (.c (i6 5)))])
 (.cond (.t 39)
  (.region [Qm 40 3,
   Qf 41 3 1,
   Ql 42 1 41,
   Qm 43 4,
   Qo 44 (.iaddr 1 (.t 42) (.t 43)),
   Ql 45 1 44,
   Qc 46 25 45,
   Qo 47 (.bin .add (.t 46) (.c (.str [58]))),
   Qo 48 (.bin .add (.t 40) (.t 47)),
   Qm 3 48])
  .skip))
 zba)
def z2o : LCode := (.region [Qo 53 (.bin .add (.t 28) (.c (i6 1))),
 Qm 28 53])
def z2f : LCode := (.seq (.region [Qo 29 (.bin .lss (.t 28) (.t 27))])
 (.seq (.cond (.t 29)
  .skip
  (.exit 1))
 (.seq (.block 2
  (.seq (.region [Qm 30 28,
   Qo 31 (.iaddr 5 (.t 26) (.t 28)),
   Qt 32 5 31,
   Qo 5 (.alloc [(i6 0), (i6 0), (.str []), (.isl 1 [] true), (.isl 5 [] true)]),
   Qm 4 30,
   ⟨none, .store 5 (.t 5) (.t 32), none⟩])
  (.seq (.seq (.region [Qm 33 4,
   Qo 34 (.bin .gtr (.t 33) (.c (i6 0)))])
  (.cond (.t 34)
   (.region [Qm 35 3,
    Qo 36 (.bin .add (.t 35) (.c (.str [44]))),
    Qm 3 36])
   .skip))
  zbk)))
 z2o)))
def Kb : LCode := (.seq (.seq (.region [Qf 54 0 1,
 Ql 55 1 54,
 Qo 56 (.bin .eql (.t 55) (.c (i6 5)))])
 (.cond (.t 56)
  (.seq (.region [Qm 57 3,
   Qo 58 (.bin .add (.c (.str [123])) (.t 57)),
   Qo 59 (.bin .add (.t 58) (.c (.str [125]))),
   Qm 2 59])
  .ret)
  .skip))
 (.seq (.region [Qm 60 3,
  Qo 61 (.bin .add (.c (.str [91])) (.t 60)),
  Qo 62 (.bin .add (.t 61) (.c (.str [93]))),
  Qm 2 62])
 .ret))
def zbb : LCode := (.seq (.region [Qo 1 (.box (.t 0)),
 Qo 2 (.mv (.c (.str [])))])
 (.seq (.seq (.region [Qf 6 0 1,
  Ql 7 1 6])
 (.block 0
  (.seq (.region [Qo 9 (.bin .eql (.t 7) (.c (i6 0))),
   Qm 8 9])
  (.cond (.t 8)
   (.seq (.region [Qo 2 (.mv (.c (.str [110, 117, 108, 108])))])
   .ret)
   (.seq (.region [Qo 11 (.bin .eql (.t 7) (.c (i6 1))),
    Qm 10 11])
   (.cond (.t 10)
    (.seq (.seq (.region [Qf 12 1 1,
     Ql 13 1 12,
     Qo 14 (.bin .eql (.t 13) (.c (i6 1)))])
    (.cond (.t 14)
     (.seq (.region [Qo 2 (.mv (.c (.str [116, 114, 117, 101])))])
     .ret)
     .skip))
    (.seq (.region [Qo 2 (.mv (.c (.str [102, 97, 108, 115, 101])))])
    .ret))
    (.seq (.region [Qo 16 (.bin .eql (.t 7) (.c (i6 2))),
     Qm 15 16])
    (.cond (.t 15)
     (.seq (.region [Qf 17 1 1,
      Ql 18 1 17,
      Qc 19 24 18,
      Qm 2 19])
     .ret)
     (.seq (.region [Qo 21 (.bin .eql (.t 7) (.c (i6 3))),
      Qm 20 21])
     (.cond (.t 20)
      (.seq (.region [Qf 22 2 1,
       Ql 23 1 22,
       Qc 24 25 23,
       Qm 2 24])
      .ret)
      .skip))))))))))
 (.seq (.region [Qo 3 (.mv (.c (.str [])))])
 (.seq (.seq (.region [Qf 25 4 1,
  Ql 26 1 25,
  Qo 27 (.len false (.t 26)),
  Qi 28 0])
 (.block 1
  (.loop
   z2f)))
 Kb))))
def vb : Lay := ⟨63, [], false⟩
def z58 : List LRes := [.t 2]
def zhg : LFn := ⟨1, vb, zbb, z58⟩
theorem zg0 : wz Tryd.prog [] 10 = some zhg := by kernel_rfl
theorem ze6 : Zk Tryd.prog 10 := ⟨_, Tryd.func10, rfl, rfl⟩
def z34 (a0 : GJ) (o : (List UInt8)) : Exit → Env → AHeap → Nat → Prop := Jj z58 (Xn 3 3 (.str o) [])
def Zq (a0 : GJ) (s : ((List UInt8) × Int)) : Env := [(1, .ptr (3, 0) 0 0), (3, .str s.1), (26, .isl 5 (a0.fE.map zz) false), (27, i6 ((a0.fE.map zz).length : Int)), (28, i6 s.2)]
def Yj (a0 : GJ) (s : ((List UInt8) × Int)) : AHeap := [((3, 0), .one (z6 a0))]
def Xb (a0 : GJ) (o : (List UInt8)) : Exit → Env → AHeap → Nat → Prop := (xq 1 (Qy Tryd.prog vb 3 Kb (z34 a0 o)))
noncomputable def y4 (rec6 : GJ → Option (List UInt8)) (m : Option Nat) (a0 : GJ) (v9 : Int) (v15 : GJ) (v18 : List UInt8) : Option (((List UInt8) × Int) ⊕ (List UInt8)) :=
 (rec6 v15).bind fun v19 =>
 if (((v18.length + v19.length : Nat) : Int) ≤ 9223372036854775807) then
 some (.inl ((v18 ++ v19), (W (v9 + 1))))
 else none
abbrev Hr6 (rec6 : GJ → Option (List UInt8)) : Prop := ∀ {a0 : GJ} {o : (List UInt8)}, rec6 a0 = some o → ACalls Tryd.prog 10 [.agg (z6 a0)] [] 3 (wg 3 (.str o) [])
theorem Ui {rec6 : GJ → Option (List UInt8)} (hrec6 : Hr6 rec6) {a0 : GJ} {v9 : Int} {v15 : GJ} {v18 : List UInt8} {m : Option Nat} {o : (((List UInt8) × Int) ⊕ (List UInt8))} (h : y4 rec6 m a0 v9 v15 v18 = some o) :
 LWp Tryd.prog vb 3 zba (xq 2 (Qy Tryd.prog vb 3 z2o (kx 3 4 (Zq a0) (Yj a0) (Xb a0) o))) [(1, .ptr (3, 0) 0 0), (3, .str v18), (5, .ptr (4, 0) 0 0), (26, .isl 5 (a0.fE.map zz) false), (27, i6 ((a0.fE.map zz).length : Int)), (28, i6 v9)] [((3, 0), .one (z6 a0)), ((4, 0), .one (z6 v15))] 5 := by
 unfold y4 at h
 refine zc ?_
 obtain ⟨v19, h42, h⟩ := bind_some h
 refine Zy (k := 3) (m := 0) (L' := []) (rest := [((3, 0), .one (z6 a0)), ((4, 0), .one (z6 v15))]) (R' := .str v19) [] (hrec6 h42) rfl rfl rfl (AI (VS rfl) TT) TT (jm _ rfl) TT rfl ?_
 obtain ⟨h43, h⟩ := z8 h
 refine AI h43 ?_
 refine zc ?_
 cases h
 exact AI rfl (xe (M := [((3, 0), (3, 0))]) rfl (SP rfl (S4 rfl rfl rfl rfl TT)) (AI (AI rfl (OL rfl)) TT))
noncomputable def zn (rec6 : GJ → Option (List UInt8)) (m : Option Nat) (a0 : GJ) (v9 : Int) (v15 : GJ) (v16 : List UInt8) : Option (((List UInt8) × Int) ⊕ (List UInt8)) :=
 if (a0.fK == 5) = true then
  if (0 : Int) ≤ v9 ∧ v9 < ((a0.fA.map zp).length : Int) then
  (xa m (a0.fA.getD v9.toNat default)).bind fun v17 =>
  if (((v17.length + ([58] : List UInt8).length : Nat) : Int) ≤ 9223372036854775807) then
  if (((v16.length + (v17 ++ ([58] : List UInt8)).length : Nat) : Int) ≤ 9223372036854775807) then
  y4 rec6 m a0 v9 v15 (v16 ++ (v17 ++ ([58] : List UInt8)))
  else none
  else none
  else none
 else
  y4 rec6 m a0 v9 v15 v16
theorem Kk {rec6 : GJ → Option (List UInt8)} (hrec6 : Hr6 rec6) {a0 : GJ} {v9 : Int} {v15 : GJ} {v16 : List UInt8} {m : Option Nat} {o : (((List UInt8) × Int) ⊕ (List UInt8))} (h : zn rec6 m a0 v9 v15 v16 = some o) :
 LWp Tryd.prog vb 3 zbk (xq 2 (Qy Tryd.prog vb 3 z2o (kx 3 4 (Zq a0) (Yj a0) (Xb a0) o))) [(1, .ptr (3, 0) 0 0), (3, .str v16), (4, i6 v9), (5, .ptr (4, 0) 0 0), (26, .isl 5 (a0.fE.map zz) false), (27, i6 ((a0.fE.map zz).length : Int)), (28, i6 v9)] [((3, 0), .one (z6 a0)), ((4, 0), .one (z6 v15))] 5 := by
 unfold zn at h
 refine za ?_
 refine za (zc ?_)
 refine qi (v := (a0.fK == 5)) rfl TT (fun h37 => ?_) (fun h37 => ?_)
 ·have h := zh h37 h
  refine zc ?_
  obtain ⟨h38, h⟩ := z8 h
  refine AI h38 ?_
  refine EX (zp (a0.fA.getD v9.toNat default)) (AI (Zl zp _ _ (u6 zp h38)) (AI (AI (Y9 h38) (NB rfl)) ?_))
  obtain ⟨v17, h39, h⟩ := bind_some h
  refine PFn.call (zld h39) (AI (VS rfl) TT) ?_
  obtain ⟨h40, h⟩ := z8 h
  refine AI h40 ?_
  obtain ⟨h41, h⟩ := z8 h
  refine AI h41 ?_
  refine LWp.sim ?_ (Ui hrec6 h)
  exact xe (M := [((3, 0), (3, 0)), ((4, 0), (4, 0))]) rfl (SP rfl (AI (VS rfl) (SP rfl (S2 rfl rfl (AI (VS rfl) TT))))) (AI (AI rfl (OL rfl)) (AI (AI rfl (OL rfl)) TT))
 ·have h := zl h37 h
  refine jd ?_
  refine LWp.sim ?_ (Ui hrec6 h)
  exact xe (M := [((3, 0), (3, 0)), ((4, 0), (4, 0))]) rfl (SP rfl (AI (VS rfl) (SP rfl (S2 rfl rfl (AI (VS rfl) TT))))) (AI (AI rfl (OL rfl)) (AI (AI rfl (OL rfl)) TT))
noncomputable def qu (rec6 : GJ → Option (List UInt8)) (m : Option Nat) (a0 : GJ) (v8 : List UInt8) : Option (List UInt8) :=
 if (a0.fK == 5) = true then
  if (((([123] : List UInt8).length + v8.length : Nat) : Int) ≤ 9223372036854775807) then
  if ((((([123] : List UInt8) ++ v8).length + ([125] : List UInt8).length : Nat) : Int) ≤ 9223372036854775807) then
  some ((([123] : List UInt8) ++ v8) ++ ([125] : List UInt8))
  else none
  else none
 else
  if (((([91] : List UInt8).length + v8.length : Nat) : Int) ≤ 9223372036854775807) then
  if ((((([91] : List UInt8) ++ v8).length + ([93] : List UInt8).length : Nat) : Int) ≤ 9223372036854775807) then
  some ((([91] : List UInt8) ++ v8) ++ ([93] : List UInt8))
  else none
  else none
noncomputable def zm (rec6 : GJ → Option (List UInt8)) (m : Option Nat) (a0 : GJ) (v8 : List UInt8) (v9 : Int) : Option (((List UInt8) × Int) ⊕ (List UInt8)) :=
 if (decide (v9 < ((a0.fE.map zz).length : Int))) = true then
  if (0 : Int) ≤ v9 ∧ v9 < ((a0.fE.map zz).length : Int) then
  ((um (a0.fE.getD v9.toNat default))).bind fun v15 =>
  if (decide (v9 > 0)) = true then
   if (((v8.length + ([44] : List UInt8).length : Nat) : Int) ≤ 9223372036854775807) then
   zn rec6 m a0 v9 v15 (v8 ++ ([44] : List UInt8))
   else none
  else
   zn rec6 m a0 v9 v15 v8
  else none
 else
  Option.map Sum.inr (
   qu rec6 m a0 v8)
noncomputable def y5 (rec6 : GJ → Option (List UInt8)) (m : Option Nat) (a0 : GJ) (v8 : List UInt8) (v9 : Int) : Option (List UInt8) := Zg m (fun (s : ((List UInt8) × Int)) => zm rec6 m a0 s.1 s.2) (v8, v9)
theorem z7a {rec6 : GJ → Option (List UInt8)} (hrec6 : Hr6 rec6) {a0 : GJ} {v8 : List UInt8} {m : Option Nat} {o : (List UInt8)} (h : qu rec6 m a0 v8 = some o) :
 LWp Tryd.prog vb 3 Kb (z34 a0 o) [(1, .ptr (3, 0) 0 0), (3, .str v8)] [((3, 0), .one (z6 a0))] 4 := by
 unfold qu at h
 refine za ?_
 refine za (zc ?_)
 refine qi (v := (a0.fK == 5)) rfl TT (fun h44 => ?_) (fun h44 => ?_)
 ·have h := zh h44 h
  refine za (zc ?_)
  obtain ⟨h45, h⟩ := z8 h
  refine AI h45 ?_
  obtain ⟨h46, h⟩ := z8 h
  refine AI h46 ?_
  refine kl ?_
  cases h
  exact AI TT (J6 (n' := 4) [] [] rfl rfl (VS rfl) TT)
 ·have h := zl h44 h
  refine jd ?_
  refine za (zc ?_)
  obtain ⟨h47, h⟩ := z8 h
  refine AI h47 ?_
  obtain ⟨h48, h⟩ := z8 h
  refine AI h48 ?_
  refine kl ?_
  cases h
  exact AI TT (J6 (n' := 4) [] [] rfl rfl (VS rfl) TT)
theorem z4d {rec6 : GJ → Option (List UInt8)} (hrec6 : Hr6 rec6) {a0 : GJ} {v8 : List UInt8} {v9 : Int} {m : Option Nat} {o : ((List UInt8) × Int) ⊕ (List UInt8)} (h : zm rec6 m a0 v8 v9 = some o) :
 LWp Tryd.prog vb 3 z2f (kx 3 4 (Zq a0) (Yj a0) (Xb a0) o) [(1, .ptr (3, 0) 0 0), (3, .str v8), (26, .isl 5 (a0.fE.map zz) false), (27, i6 ((a0.fE.map zz).length : Int)), (28, i6 v9)] [((3, 0), .one (z6 a0))] 4 := by
 unfold zm at h
 refine za (zc ?_)
 refine za ?_
 refine qi (v := (decide (v9 < ((a0.fE.map zz).length : Int)))) rfl TT (fun h32 => ?_) (fun h32 => ?_)
 ·have h := zh h32 h
  refine jd ?_
  refine za ?_
  refine j6 ?_
  refine za (zc ?_)
  obtain ⟨h33, h⟩ := z8 h
  refine AI h33 ?_
  obtain ⟨v15, h34, h⟩ := bind_some h
  refine EX (z6 v15) (AI (vi (u6 zz h33) h34) (AI (AI (Y9 h33) (NB rfl)) ?_))
  refine za ?_
  refine za (zc ?_)
  refine LWp.sim (e := [(1, .ptr (3, 0) 0 0), (3, .str v8), (4, i6 v9), (5, .ptr (4, 0) 0 0), (26, .isl 5 (a0.fE.map zz) false), (27, i6 ((a0.fE.map zz).length : Int)), (28, i6 v9), (34, .bool (decide (v9 > 0)))]) (L := [((3, 0), .one (z6 a0)), ((4, 0), .one (z6 v15))]) (n := 5) ?_ ?_
  ·exact xe (M := [((3, 0), (3, 0)), ((4, 0), (4, 0))]) rfl (SP rfl (S2 rfl rfl (SP rfl (S4 rfl rfl rfl rfl TT)))) (AI (AI rfl (OL rfl)) (AI (AI rfl (OL rfl)) TT))
  refine qi (v := (decide (v9 > 0))) rfl TT (fun h35 => ?_) (fun h35 => ?_)
  ·have h := zh h35 h
   refine zc ?_
   obtain ⟨h36, h⟩ := z8 h
   refine AI h36 ?_
   refine LWp.sim ?_ (Kk hrec6 h)
   exact xe (M := [((3, 0), (3, 0)), ((4, 0), (4, 0))]) rfl (SP rfl (S2 rfl rfl (SP rfl (S2 rfl rfl (AI (VS rfl) TT))))) (AI (AI rfl (OL rfl)) (AI (AI rfl (OL rfl)) TT))
  ·have h := zl h35 h
   refine jd ?_
   refine LWp.sim ?_ (Kk hrec6 h)
   exact xe (M := [((3, 0), (3, 0)), ((4, 0), (4, 0))]) rfl (SP rfl (S2 rfl rfl (SP rfl (S2 rfl rfl (AI (VS rfl) TT))))) (AI (AI rfl (OL rfl)) (AI (AI rfl (OL rfl)) TT))
 ·have h := zl h32 h
  refine Ji ?_
  obtain ⟨o, hq, rfl⟩ := Option.map_eq_some_iff.1 h
  replace h := hq; clear hq
  refine AI nofun ?_
  refine LWp.sim ?_ (z7a hrec6 h)
  exact xe (M := [((3, 0), (3, 0))]) rfl (SP rfl (AI (VS rfl) TT)) (AI (AI rfl (OL rfl)) TT)
theorem z7h {rec6 : GJ → Option (List UInt8)} (hrec6 : Hr6 rec6) {a0 : GJ} {v8 : List UInt8} {v9 : Int} {m : Option Nat} {o : (List UInt8)} (h : y5 rec6 m a0 v8 v9 = some o) :
 LWp Tryd.prog vb 3 (.loop z2f) (xq 1 (Qy Tryd.prog vb 3 Kb (z34 a0 o))) [(1, .ptr (3, 0) 0 0), (3, .str v8), (26, .isl 5 (a0.fE.map zz) false), (27, i6 ((a0.fE.map zz).length : Int)), (28, i6 v9)] [((3, 0), .one (z6 a0))] 4 :=
 jt (m := m) (s := ((v8, v9) : ((List UInt8) × Int))) (r := o) (fun (s : ((List UInt8) × Int)) => zm rec6 m a0 s.1 s.2) (Zq a0) (Yj a0) (Xb a0) (fun s o h => z4d hrec6 h) h
noncomputable def zk (rec6 : GJ → Option (List UInt8)) (m : Option Nat) (a0 : GJ) : Option (List UInt8) :=
 if (a0.fK == 0) = true then
  some ([110, 117, 108, 108] : List UInt8)
 else
  if (a0.fK == 1) = true then
   if (a0.fN == 1) = true then
    some ([116, 114, 117, 101] : List UInt8)
   else
    some ([102, 97, 108, 115, 101] : List UInt8)
  else
   if (a0.fK == 2) = true then
    (qk m a0.fN).bind fun v1 =>
    some v1
   else
    if (a0.fK == 3) = true then
     (xa m a0.fT).bind fun v2 =>
     some v2
    else
     y5 rec6 m a0 ([] : List UInt8) 0
theorem z7z {rec6 : GJ → Option (List UInt8)} (hrec6 : Hr6 rec6) {a0 : GJ} {m : Option Nat} {o : (List UInt8)} (h : zk rec6 m a0 = some o) : LWp Tryd.prog vb 3 zbb (z34 a0 o) (qx 0 [.agg (z6 a0)]) [] 3 := by
 unfold zk at h
 refine za (zc ?_)
 refine za ?_
 refine za (zc ?_)
 refine j6 ?_
 refine za (zc ?_)
 refine qi (v := (a0.fK == 0)) rfl TT (fun h1 => ?_) (fun h1 => ?_)
 ·have h := zh h1 h
  refine za (zc ?_)
  refine kl ?_
  cases h
  exact AI TT (J6 (n' := 4) [] [] rfl rfl (VS rfl) TT)
 ·have h := zl h1 h
  refine za (zc ?_)
  refine LWp.sim (e := [(1, .ptr (3, 0) 0 0), (7, i6 a0.fK), (10, .bool (a0.fK == 1))]) (L := [((3, 0), .one (z6 a0))]) (n := 4) ?_ ?_
  ·exact xe (M := [((3, 0), (3, 0))]) rfl (SP rfl (S2 rfl rfl TT)) (AI (AI rfl (OL rfl)) TT)
  refine qi (v := (a0.fK == 1)) rfl TT (fun h2 => ?_) (fun h2 => ?_)
  ·have h := zh h2 h
   refine za ?_
   refine za (zc ?_)
   refine qi (v := (a0.fN == 1)) rfl TT (fun h3 => ?_) (fun h3 => ?_)
   ·have h := zh h3 h
    refine za (zc ?_)
    refine kl ?_
    cases h
    exact AI TT (J6 (n' := 4) [] [] rfl rfl (VS rfl) TT)
   ·have h := zl h3 h
    refine jd ?_
    refine za (zc ?_)
    refine kl ?_
    cases h
    exact AI TT (J6 (n' := 4) [] [] rfl rfl (VS rfl) TT)
  ·have h := zl h2 h
   refine za (zc ?_)
   refine qi (v := (a0.fK == 2)) rfl TT (fun h4 => ?_) (fun h4 => ?_)
   ·have h := zh h4 h
    refine za (zc ?_)
    obtain ⟨v1, h5, h⟩ := bind_some h
    refine Zy (k := 3) (m := 0) (L' := []) (rest := [((3, 0), .one (z6 a0))]) (R' := .str v1) [] (z5f h5) rfl rfl rfl (AI (VS rfl) TT) TT (jm _ rfl) TT rfl ?_
    refine kl ?_
    cases h
    exact AI TT (J6 (n' := 5) [] [] rfl rfl (VS rfl) TT)
   ·have h := zl h4 h
    refine za (zc ?_)
    refine qi (v := (a0.fK == 3)) rfl TT (fun h6 => ?_) (fun h6 => ?_)
    ·have h := zh h6 h
     refine za (zc ?_)
     obtain ⟨v2, h7, h⟩ := bind_some h
     refine PFn.call (zld h7) (AI (VS rfl) TT) ?_
     refine LWp.sim (e := [(2, .str v2)]) (L := []) (n := 3) ?_ ?_
     ·exact xe (M := []) rfl (AI (VS rfl) TT) TT
     refine kl ?_
     cases h
     exact AI TT (J6 (n' := 3) [] [] rfl rfl (VS rfl) TT)
    ·have h := zl h6 h
     refine jd ?_
     refine za (zc ?_)
     refine za ?_
     refine za (zc ?_)
     refine LWp.sim (e := [(1, .ptr (3, 0) 0 0), (3, .str []), (26, .isl 5 (a0.fE.map zz) false), (27, i6 ((a0.fE.map zz).length : Int)), (28, i6 0)]) (L := [((3, 0), .one (z6 a0))]) (n := 4) ?_ ?_
     ·exact xe (M := [((3, 0), (3, 0))]) rfl (SP rfl (S4 rfl rfl rfl rfl TT)) (AI (AI rfl (OL rfl)) TT)
     refine j6 ?_
     refine LWp.sim ?_ (z7h hrec6 h)
     exact xe (M := [((3, 0), (3, 0))]) rfl (SP rfl (S4 rfl rfl rfl rfl TT)) (AI (AI rfl (OL rfl)) TT)
theorem zbh {rec6 : GJ → Option (List UInt8)} (hrec6 : Hr6 rec6) {a0 : GJ} {m : Option Nat} {o : (List UInt8)} (h : zk rec6 m a0 = some o) : ACalls Tryd.prog 10 [.agg (z6 a0)] [] 3 (wg 3 (.str o) []) := Yz (L := zhg) zg0 ze6 (NB rfl) (z7z hrec6 h)
noncomputable def ya (m : Option Nat) : Nat → GJ → Option (List UInt8)
 | 0 => fun _ => none
 | k + 1 => zk (ya m k) m
noncomputable def j1 (m : Option Nat) (a0 : GJ) : Option (List UInt8) := zd1 m (fun k => ya m k a0)
theorem z61 {m : Option Nat} : ∀ (k : Nat) {a0 : GJ} {o : (List UInt8)}, ya m k a0 = some o → ACalls Tryd.prog 10 [.agg (z6 a0)] [] 3 (wg 3 (.str o) [])
 | 0, _, _, h => nomatch h
 | k + 1, _, _, h => zbh (fun h => z61 k h) h
theorem zel {a0 : GJ} {m : Option Nat} {o : (List UInt8)} (h : j1 m a0 = some o) : ACalls Tryd.prog 10 [.agg (z6 a0)] [] 3 (wg 3 (.str o) []) := (Z3 h).elim fun k h => z61 k h
noncomputable def w4 (m : Option Nat) (a0 : GJ) : Option (List UInt8) := zk (j1 m) m a0
theorem zpi {a0 : GJ} {m : Option Nat} {o : (List UInt8)} (h : w4 m a0 = some o) : PFn Tryd.prog 10 [.agg (z6 a0)] (.str o) :=
 ⟨rfl, _, Zy (k := 3) (m := 0) (L' := []) (rest := []) (R' := .str o) [] (zbh zel h) rfl rfl rfl (AI (VS rfl) TT) TT (jm _ rfl) TT rfl ⟨rfl, rfl, rfl⟩⟩
def zq2 : LCode := (.seq (.region [Qo 27 (.call 6 []),
 Qm 28 27,
 Qn 29 4 (28, true),
 Qn 30 5 (28, true),
 Qg 31 (.bin .eql (.t 29) (.t 30)) (28, true),
 Qp 32 28 31,
 Qm 33 32,
 Qn 34 3 (33, true),
 Qn 35 6 (33, true),
 Qg 36 (.bin .eql (.t 34) (.t 35)) (33, true),
 Qp 37 33 36,
 Qm 2 37])
 .ret)
def zqx : LCode := (.seq (.region [Qo 1 (.box (.t 0)),
 Qb 2])
 (.seq (.seq (.region [Qo 7 (.call 6 []),
  Qo 8 (.un .not (.t 7))])
 (.cond (.t 8)
  (.seq (.region [Qb 2])
  .ret)
  .skip))
 (.seq (.region [Qt 10 5 1,
  Qc 11 7 10,
  Qm 9 11,
  Qo 12 (.ext 0 (.t 9)),
  Qo 13 (.ext 1 (.t 9)),
  Qm 3 12,
  Qm 4 13])
 (.seq (.region [Qt 14 5 1,
  Qc 15 8 14,
  Qm 5 15])
 (.seq (.seq (.region [Qt 16 5 1,
  Qc 17 9 16,
  Qm 18 5,
  Qo 19 (.bin .neq (.t 17) (.t 18))])
 (.cond (.t 19)
  (.seq (.region [Qb 2])
  .ret)
  .skip))
 (.seq (.region [Qo 6 (.mv (.c (.str [])))])
 (.seq (.seq (.region [Qm 20 5,
  Qo 21 (.bin .eql (.t 20) (.c (i6 0)))])
 (.cond (.t 21)
  (.seq (.region [Qt 22 5 1,
   Qc 23 10 22,
   Qm 6 23])
  (.seq (.region [Qm 24 6,
   Qo 25 (.len true (.t 24)),
   Qo 26 (.bin .gtr (.t 25) (.c (i6 4000)))])
  (.cond (.t 26)
   (.region [Qo 6 (.mv (.c (.str []))),
    Qi 5 2])
   .skip)))
  .skip))
 zq2)))))))
def zdv : Lay := ⟨38, [], false⟩
def zm4 : List LRes := [.t 2]
def ztd : LFn := ⟨1, zdv, zqx, zm4⟩
theorem zrc : wz Tryd.prog [] 3 = some ztd := by kernel_rfl
theorem zpp : Zk Tryd.prog 3 := ⟨_, Tryd.func3, rfl, rfl⟩
noncomputable def yf (m : Option Nat) (v2 : (List UInt8) × Int) (v6 : Int) (v7 : List UInt8) : Option Bool :=
 (xx (some 4096)).bind fun v8 =>
 some ((v8 && (v2.2 == v6)) && (v2.1 == v7))
def ztg (a0 : GJ) (o : Bool) : Exit → Env → AHeap → Nat → Prop := Jj zm4 (vl (.bool o))
theorem z2i {a0 : GJ} {v2 : (List UInt8) × Int} {v6 : Int} {v7 : List UInt8} {m : Option Nat} {o : Bool} (h : yf m v2 v6 v7 = some o) :
 LWp Tryd.prog zdv 0 zq2 (ztg a0 o) [(3, .str v2.1), (4, i6 v2.2), (5, i6 v6), (6, .str v7)] [] 0 := by
 unfold yf at h
 refine za (zc ?_)
 obtain ⟨v8, h10, h⟩ := bind_some h
 refine PFn.call (zpr h10) TT ?_
 refine AI (fun hp => (AI hp hp)) ?_
 refine AI (fun hc => (bqt hc)) ?_
 refine AI (fun hp => (AI hp hp)) ?_
 refine AI (fun hc => (bqt hc)) ?_
 refine LWp.sim (e := [(2, .bool ((v8 && (v2.2 == v6)) && (v2.1 == v7)))]) (L := []) (n := 0) ?_ ?_
 ·exact xe (M := []) rfl (AI (VS rfl) TT) TT
 refine kl ?_
 cases h
 exact AI TT (AI rfl (VS rfl))
noncomputable def qr (m : Option Nat) (a0 : GJ) : Option Bool :=
 (xx (some 4096)).bind fun v1 =>
 if (!v1) = true then
  some false
 else
  (wr m a0).bind fun v2 =>
  (qw m a0).bind fun v3 =>
  (xw m a0).bind fun v4 =>
  if (v4 != v3) = true then
   some false
  else
   if (v3 == 0) = true then
    (w4 m a0).bind fun v5 =>
    if (decide ((v5.length : Int) > 4000)) = true then
     yf m v2 2 ([] : List UInt8)
    else
     yf m v2 v3 v5
   else
    yf m v2 v3 ([] : List UInt8)
theorem zj8 {a0 : GJ} {m : Option Nat} {o : Bool} (h : qr m a0 = some o) : LWp Tryd.prog zdv 0 zqx (ztg a0 o) (qx 0 [.agg (z6 a0)]) [] 0 := by
 unfold qr at h
 refine za (zc ?_)
 refine za ?_
 refine za (zc ?_)
 obtain ⟨v1, h1, h⟩ := bind_some h
 refine PFn.call (zpr h1) TT ?_
 refine qi (v := (!v1)) rfl TT (fun h2 => ?_) (fun h2 => ?_)
 ·have h := zh h2 h
  refine za (zc ?_)
  refine kl ?_
  cases h
  exact AI TT (AI rfl (VS rfl))
 ·have h := zl h2 h
  refine jd ?_
  refine za (zc ?_)
  obtain ⟨v2, h3, h⟩ := bind_some h
  refine PFn.call (zsa h3) (AI (VS rfl) TT) ?_
  refine LWp.sim (e := [(1, .ptr (0, 0) 0 0), (3, .str v2.1), (4, i6 v2.2)]) (L := [((0, 0), .one (z6 a0))]) (n := 1) ?_ ?_
  ·exact xe (M := [((0, 0), (0, 0))]) rfl (SP rfl (S2 rfl rfl TT)) (AI (AI rfl (OL rfl)) TT)
  refine za (zc ?_)
  obtain ⟨v3, h4, h⟩ := bind_some h
  refine PFn.call (zsr h4) (AI (VS rfl) TT) ?_
  refine za ?_
  refine za (zc ?_)
  obtain ⟨v4, h5, h⟩ := bind_some h
  refine PFn.call (zqq h5) (AI (VS rfl) TT) ?_
  refine qi (v := (v4 != v3)) rfl TT (fun h6 => ?_) (fun h6 => ?_)
  ·have h := zh h6 h
   refine za (zc ?_)
   refine LWp.sim (e := [(2, .bool false)]) (L := []) (n := 0) ?_ ?_
   ·exact xe (M := []) rfl (AI (VS rfl) TT) TT
   refine kl ?_
   cases h
   exact AI TT (AI rfl (VS rfl))
  ·have h := zl h6 h
   refine jd ?_
   refine za (zc ?_)
   refine LWp.sim (e := [(1, .ptr (0, 0) 0 0), (3, .str v2.1), (4, i6 v2.2), (5, i6 v3), (6, .str [])]) (L := [((0, 0), .one (z6 a0))]) (n := 1) ?_ ?_
   ·exact xe (M := [((0, 0), (0, 0))]) rfl (SP rfl (S4 rfl rfl rfl rfl TT)) (AI (AI rfl (OL rfl)) TT)
   refine za ?_
   refine za (zc ?_)
   refine qi (v := (v3 == 0)) rfl TT (fun h7 => ?_) (fun h7 => ?_)
   ·have h := zh h7 h
    refine za (zc ?_)
    obtain ⟨v5, h8, h⟩ := bind_some h
    refine PFn.call (zpi h8) (AI (VS rfl) TT) ?_
    refine za (zc ?_)
    refine LWp.sim (e := [(3, .str v2.1), (4, i6 v2.2), (5, i6 v3), (6, .str v5), (26, .bool (decide ((v5.length : Int) > 4000)))]) (L := []) (n := 0) ?_ ?_
    ·exact xe (M := []) rfl (S4 rfl rfl rfl rfl (AI (VS rfl) TT)) TT
    refine qi (v := (decide ((v5.length : Int) > 4000))) rfl TT (fun h9 => ?_) (fun h9 => ?_)
    ·have h := zh h9 h
     refine zc ?_
     refine LWp.sim ?_ (z2i h)
     exact xe (M := []) rfl (S4 rfl rfl rfl rfl TT) TT
    ·have h := zl h9 h
     refine jd ?_
     refine LWp.sim ?_ (z2i h)
     exact xe (M := []) rfl (S4 rfl rfl rfl rfl TT) TT
   ·have h := zl h7 h
    refine jd ?_
    refine LWp.sim ?_ (z2i h)
    exact xe (M := []) rfl (S4 rfl rfl rfl rfl TT) TT
theorem zsh {a0 : GJ} {m : Option Nat} {o : Bool} (h : qr m a0 = some o) : PFn Tryd.prog 3 [.agg (z6 a0)] (.bool o) := PFn.ofFnW (L := ztd) zrc zpp (NB rfl) rfl (zj8 h)
end Go.Proofs.YtdgkalljlomjnaaDoor
