/-
  Own text GenA of this claim: what functions of the given program compute, in plain Lean, and the proof; no condition.
-/
import Derived.Test.YtlfdchgaeeadjaaDoorChecked
import Derived.Test.YtlfdchgaeeadjaaDoorFxN
import Derived.Test.YtlfdchgaeeadjaaDoorFxMd
import Derived.Test.YtlfdchgaeeadjaaDoorFxLg
import Derived.Test.YtlfdchgaeeadjaaDoorFxLb
import Derived.Test.YtlfdchgaeeadjaaDoorLib
import Derived.Test.YtlfdchgaeeadjaaDoorEv
import Derived.Test.YtlfdchgaeeadjaaDoorFxAb
import Derived.KernelRfl
namespace Go.Proofs.YtlfdchgaeeadjaaDoor
open Go.Fx
set_option linter.unusedVariables false
set_option maxHeartbeats 4000000
structure GJ where
 fK : Int
 fN : Int
 fT : List UInt8
 fA : List (List UInt8)
 fE : List (List AVal)
instance : Inhabited GJ := ⟨(GJ.mk 0 0 [] [] [])⟩
structure GM where
 fK : Int
 fI : Int
 fC : Int
 fM : List UInt8
 fB : GJ
instance : Inhabited GM := ⟨(GM.mk 0 0 0 [] (GJ.mk 0 0 [] [] []))⟩
def z8 (r : List AVal) : List AVal := r
def z7 (x : List UInt8) : List AVal := [.str x]
def yi (x : GM) : List AVal := [.int .i64 x.fK, .int .i64 x.fI, .int .i64 x.fC, .str x.fM, .int .i64 x.fB.fK, .int .i64 x.fB.fN, .str x.fB.fT, .isl 1 (x.fB.fA.map z7) false, .isl 5 (x.fB.fE.map z8) false]
def zvs (x : Int) : List AVal := [.int .i64 x]
def z6 (x : GJ) : List AVal := [.int .i64 x.fK, .int .i64 x.fN, .str x.fT, .isl 1 (x.fA.map z7) false, .isl 5 (x.fE.map z8) false]
theorem zwh (x : GJ) : AVal.nid.nidL (z6 x) = true ∧ ∀ y ∈ z6 x, y.imm = some y := ⟨rfl, by simp [z6, AVal.imm]⟩
noncomputable def kq (r : List AVal) : Option GJ := by classical exact if h : ∃ x, r = z6 x then some (Classical.choose h) else none
theorem zfj {r : List AVal} {x : GJ} (h : kq r = some x) : r = z6 x := by
 unfold kq at h
 split at h
 ·rename_i hx
  simp only [Option.some.injEq] at h
  rw [← h]
  exact Classical.choose_spec hx
 ·cases h
theorem j1 {l : List (List AVal)} {i : Nat} {x : GJ} (h : i < l.length) (hx : kq (l.getD i default) = some x) : (l.map z8).getD i [] = z6 x := (uj z8 _ _ h).trans (zfj hx)
def Vj (x : List UInt8) : AVal := .str x
theorem zxz (x : List UInt8) : (Vj x).nid = true := rfl
def Uq (x : Int) : AVal := i6 x
theorem z1z (x : Int) : (Uq x).nid = true := rfl
def J7 (x y : List UInt8) : Bool := (x == y && true)
theorem z4d (x y : List UInt8) : Jh [.str] (Vj x) (Vj y) = some (J7 x y) := rfl
theorem zzz (x : List UInt8) : AVal.nid.nidL (z7 x) = true ∧ ∀ y ∈ z7 x, y.imm = some y := ⟨rfl, by simp [z7, AVal.imm]⟩
theorem zou (x : GM) : AVal.nid.nidL (yi x) = true ∧ ∀ y ∈ yi x, y.imm = some y := ⟨rfl, by simp [yi, AVal.imm]⟩
theorem zzy (x : Int) : AVal.nid.nidL (zvs x) = true ∧ ∀ y ∈ zvs x, y.imm = some y := ⟨rfl, by simp [zvs, AVal.imm]⟩
def x4 (m : Option Nat) : Option (Bool) := some true
theorem ztc {m : Option Nat} {o : Bool} (h : x4 m = some o) : PFn Tryd.prog 6 [] (.bool o) := by
 cases h
 exact zwx
def zif : LCode := (.seq (.region [Qo 9 (.bin .lss (.t 8) (.t 7))])
 (.seq (.cond (.t 9)
  .skip
  (.exit 0))
 (.seq (.block 1
  (.seq (.region [Qm 10 8,
   Qm 5 10])
  (.seq (.region [Qm 11 1,
   Qm 12 0,
   Qm 13 5,
   Qo 14 (.iaddr 1 (.t 12) (.t 13)),
   Ql 15 1 14,
   Qo 16 (.bin .eql (.t 11) (.t 15))])
  (.cond (.t 16)
   (.seq (.region [Qm 17 5,
    Qm 4 17])
   .ret)
   .skip))))
 (.region [Qo 18 (.bin .add (.t 8) (.c (i6 1))),
  Qm 8 18]))))
def zds : LCode := (.seq (.region [Qo 4 (.mv (.c (i6 (-1))))])
 .ret)
def zqm : LCode := (.seq (.region [Qi 4 0])
 (.seq (.seq (.region [Qm 6 0,
  Qo 7 (.len false (.t 6)),
  Qi 8 0])
 (.block 0
  (.loop
   zif)))
 zds))
def Wh : Lay := ⟨19, [], false⟩
def zll : List LRes := [.t 4]
def zy0 : LFn := ⟨2, Wh, zqm, zll⟩
theorem zss : w9 Tryd.prog [] 75 = some zy0 := by kernel_rfl
theorem zt8 : uk Tryd.prog 75 := ⟨_, Tryd.func75, rfl, rfl⟩
def zp5 (a0 : List (List UInt8)) (a1 : List UInt8) (o : Int) : Exit → Env → AHeap → Nat → Prop := Zq zll (x8 (i6 o))
def z3n (a0 : List (List UInt8)) (a1 : List UInt8) (s : Int) : Env := [(0, .isl 1 (a0.map z7) false), (1, .str a1), (7, i6 ((a0.map z7).length : Int)), (8, i6 s)]
def z83 (a0 : List (List UInt8)) (a1 : List UInt8) (s : Int) : AHeap := []
def zdx (a0 : List (List UInt8)) (a1 : List UInt8) (o : Int) : Exit → Env → AHeap → Nat → Prop := (xn 0 (X5 Tryd.prog Wh 0 zds (zp5 a0 a1 o)))
noncomputable def kj (m : Option Nat) : Option Int :=
 some (-1)
noncomputable def wm (m : Option Nat) (a0 : List (List UInt8)) (a1 : List UInt8) (v1 : Int) : Option (Int ⊕ Int) :=
 if (decide (v1 < ((a0.map z7).length : Int))) = true then
  if (0 : Int) ≤ v1 ∧ v1 < ((a0.map z7).length : Int) then
  if (a1 == (a0.getD v1.toNat default)) = true then
   Option.map Sum.inr (
    some v1)
  else
   some (.inl (W (v1 + 1)))
  else none
 else
  Option.map Sum.inr (
   kj m)
noncomputable def uy (m : Option Nat) (a0 : List (List UInt8)) (a1 : List UInt8) (v1 : Int) : Option Int := Zu m (fun (s : Int) => wm m a0 a1 s) v1
theorem ziv {a0 : List (List UInt8)} {a1 : List UInt8} {m : Option Nat} {o : Int} (h : kj m = some o) :
 LWp Tryd.prog Wh 0 zds (zp5 a0 a1 o) [] [] 0 := by
 unfold kj at h
 refine za (ze ?_)
 refine wh ?_
 cases h
 exact AI TT (AI rfl (VS rfl))
theorem zep {a0 : List (List UInt8)} {a1 : List UInt8} {v1 : Int} {m : Option Nat} {o : Int ⊕ Int} (h : wm m a0 a1 v1 = some o) :
 LWp Tryd.prog Wh 0 zif (Zf 0 0 (z3n a0 a1) (z83 a0 a1) (zdx a0 a1) o) [(0, .isl 1 (a0.map z7) false), (1, .str a1), (7, i6 ((a0.map z7).length : Int)), (8, i6 v1)] [] 0 := by
 unfold wm at h
 refine za (ze ?_)
 refine za ?_
 refine yt (v := (decide (v1 < ((a0.map z7).length : Int)))) rfl TT (fun h7 => ?_) (fun h7 => ?_)
 ·have h := zf h7 h
  refine xq ?_
  refine za ?_
  refine xw ?_
  refine za (ze ?_)
  refine za (ze ?_)
  obtain ⟨h8, h⟩ := qj h
  refine AI h8 ?_
  refine EX (z7 (a0.getD v1.toNat default)) (AI (uj z7 _ _ (wy z7 h8)) (AI (AI (vw h8) (NB rfl)) ?_))
  refine LWp.sim (e := [(0, .isl 1 (a0.map z7) false), (1, .str a1), (5, i6 v1), (7, i6 ((a0.map z7).length : Int)), (8, i6 v1), (16, .bool (a1 == (a0.getD v1.toNat default)))]) (L := []) (n := 0) ?_ ?_
  ·exact yp (M := []) rfl (S4 rfl rfl rfl rfl (S2 rfl rfl TT)) TT
  refine yt (v := (a1 == (a0.getD v1.toNat default))) rfl TT (fun h9 => ?_) (fun h9 => ?_)
  ·have h := zf h9 h
   refine za (ze ?_)
   refine wh ?_
   obtain ⟨o, hq, rfl⟩ := Option.map_eq_some_iff.1 h
   replace h := hq; clear hq
   refine AI nofun ?_
   cases h
   exact AI TT (AI rfl (VS rfl))
  ·have h := zp h9 h
   refine xq ?_
   refine ze ?_
   cases h
   exact AI rfl (yp (M := []) rfl (S4 rfl rfl rfl rfl TT) TT)
 ·have h := zp h7 h
  refine Xm ?_
  obtain ⟨o, hq, rfl⟩ := Option.map_eq_some_iff.1 h
  replace h := hq; clear hq
  refine AI nofun ?_
  refine LWp.sim ?_ (ziv h)
  exact yp (M := []) rfl TT TT
theorem zmb {a0 : List (List UInt8)} {a1 : List UInt8} {v1 : Int} {m : Option Nat} {o : Int} (h : uy m a0 a1 v1 = some o) :
 LWp Tryd.prog Wh 0 (.loop zif) (xn 0 (X5 Tryd.prog Wh 0 zds (zp5 a0 a1 o))) [(0, .isl 1 (a0.map z7) false), (1, .str a1), (7, i6 ((a0.map z7).length : Int)), (8, i6 v1)] [] 0 :=
 w8 (m := m) (s := (v1 : Int)) (r := o) (fun (s : Int) => wm m a0 a1 s) (z3n a0 a1) (z83 a0 a1) (zdx a0 a1) (fun s o h => zep h) h
noncomputable def jo (m : Option Nat) (a0 : List (List UInt8)) (a1 : List UInt8) : Option Int :=
 uy m a0 a1 0
theorem zik {a0 : List (List UInt8)} {a1 : List UInt8} {m : Option Nat} {o : Int} (h : jo m a0 a1 = some o) : LWp Tryd.prog Wh 0 zqm (zp5 a0 a1 o) (y5 0 [.isl 1 (a0.map z7) false, .str a1]) [] 0 := by
 unfold jo at h
 refine za (ze ?_)
 refine za ?_
 refine za (ze ?_)
 refine xw ?_
 refine LWp.sim ?_ (zmb h)
 exact yp (M := []) rfl (S4 rfl rfl rfl rfl TT) TT
theorem zs6 {a0 : List (List UInt8)} {a1 : List UInt8} {m : Option Nat} {o : Int} (h : jo m a0 a1 = some o) : PFn Tryd.prog 75 [.isl 1 (a0.map z7) false, .str a1] (i6 o) := PFn.ofFnW (L := zy0) zss zt8 (NB rfl) rfl (zik h)
def zr2 : LCode := (.seq (.region [Qo 2 (.mv (.c (.val (.slice none 0 0))))])
 (.seq (.seq (.region [Qm 3 0,
  Qo 4 (.eq false .slice (.t 3) (.c (.val (.slice none 0 0))))])
 (.cond (.t 4)
  (.seq (.region [Qo 2 (.mv (.c (.val (.slice none 0 0))))])
  .ret)
  .skip))
 (.seq (.region [Qo 5 (.mkSl true 1 [(.str [])] 0 []),
  Qm 6 0,
  Qo 7 (.app true 1 16 (.t 5) (.t 6)),
  Qm 2 7])
 .ret)))
def zh8 : Lay := ⟨8, [], false⟩
def zjz : List LRes := [.t 2]
def zxv : LFn := ⟨1, zh8, zr2, zjz⟩
theorem zvk : w9 Tryd.prog [] 67 = some zxv := by kernel_rfl
theorem zga : uk Tryd.prog 67 := ⟨_, Tryd.func67, rfl, rfl⟩
noncomputable def jp (m : Option Nat) (a0 : List (List UInt8)) : Option (List (List UInt8)) :=
 if (a0.map z7) ≠ [] then
 if ((([] : List (List UInt8)) ++ a0).map z7).length * 16 ≤ 140737488355328 then
 some (([] : List (List UInt8)) ++ a0)
 else none
 else none
def y0i (a0 : List (List UInt8)) (o : (List (List UInt8))) : Exit → Env → AHeap → Nat → Prop := Zq zjz (x8 (.isl 1 (o.map z7) false))
theorem zks {a0 : List (List UInt8)} {m : Option Nat} {o : (List (List UInt8))} (h : jp m a0 = some o) : LWp Tryd.prog zh8 0 zr2 (y0i a0 o) (y5 0 [.isl 1 (a0.map z7) false]) [] 0 := by
 unfold jp at h
 refine za (ze ?_)
 refine za ?_
 refine za (ze ?_)
 obtain ⟨h1, h⟩ := qj h
 refine AI h1 ?_
 refine yt (v := false) rfl TT (fun hc => Bool.noConfusion hc) (fun hc => ?_)
 refine xq ?_
 refine za (ze ?_)
 obtain ⟨h2, h⟩ := qj h
 refine EX ((([] : List (List UInt8)) ++ a0).map z7) (AI (z0p z7 ([] : List (List UInt8)) a0) (AI (AI rfl h2) ?_))
 refine wh ?_
 cases h
 exact AI TT (AI rfl (Vw.oslI _ _ _))
theorem zz8 {a0 : List (List UInt8)} {m : Option Nat} {o : (List (List UInt8))} (h : jp m a0 = some o) : PFn Tryd.prog 67 [.isl 1 (a0.map z7) false] (.isl 1 (o.map z7) false) := PFn.ofFnW (L := zxv) zvk zga (NB rfl) rfl (zks h)
noncomputable def vi (m : Option Nat) : List (List UInt8) → Option (List (List UInt8))
 | [] => some []
 | x :: r => jp m (x :: r)
theorem zno {m : Option Nat} {a0 o : List (List UInt8)} (h : vi m a0 = some o) : PFn Tryd.prog 67 [(.isl 1 (a0.map z7) false)] (.isl 1 (o.map z7) false) := by
 cases a0 with
 | nil =>
  cases h
  exact z3v (c := 9) (zs := [(.str [])]) (b := 16) zga Tryd.func67 ⟨_, _, _, _, _, _, _, _, _, _, _, _, _, _, _, _, _, _, _, _, _, _, _, _, _, _, _, _, rfl, rfl, rfl⟩ (by kernel_rfl) (by kernel_rfl) (by kernel_rfl) (by kernel_rfl) (by decide) (by decide) rfl
 | cons x r => exact zz8 (m := m) h
def z5d : LCode := (.seq (.region [Qo 16 (.bin .lss (.t 15) (.t 14))])
 (.seq (.cond (.t 16)
  .skip
  (.exit 0))
 (.seq (.block 1
  (.seq (.region [Qo 17 (.iaddr 5 (.t 13) (.t 15)),
   Qt 18 5 17,
   Qo 5 (.alloc [(i6 0), (i6 0), (.str []), (.isl 1 [] true), (.isl 5 [] true)]),
   ⟨none, .store 5 (.t 5) (.t 18), none⟩])
  (.draw [⟨Qf 19 4 1, []⟩,
   ⟨Ql 20 1 19, []⟩,
   ⟨Qt 21 5 5, []⟩,
   ⟨Qc 22 76 21, [1]⟩,
   ⟨Qo 23 (.mkSl true 5 [(i6 0), (i6 0), (.str []), (.isl 1 [] true), (.isl 5 [] true)] 1 [(0, (.t 22))]), []⟩,
   ⟨Qo 24 (.app true 5 80 (.t 20) (.t 23)), []⟩,
   ⟨Qf 25 4 1, []⟩,
   ⟨⟨none, .store 1 (.t 25) (.t 24), none⟩, []⟩])))
 (.region [Qo 26 (.bin .add (.t 15) (.c (i6 1))),
  Qm 15 26]))))
def z06 : LCode := (.seq (.region [Qt 27 5 1,
 ⟨none, .store 5 (.t 2) (.t 27), none⟩])
 .ret)
def zbo : LCode := (.seq (.region [Qo 1 (.box (.t 0)),
 Qo 2 (.alloc [(i6 0), (i6 0), (.str []), (.isl 1 [] true), (.isl 5 [] true)])])
 (.seq (.region [Qf 6 4 1,
  Ql 7 1 6,
  Qm 3 7])
 (.seq (.region [Qf 8 3 1,
  Ql 9 1 8,
  Qc 10 67 9,
  Qf 11 3 1,
  ⟨none, .store 1 (.t 11) (.t 10), none⟩,
  Qf 12 4 1,
  ⟨none, .store 1 (.t 12) (.c (.val (.slice none 0 0))), none⟩])
 (.seq (.seq (.region [Qm 13 3,
  Qo 14 (.len false (.t 13)),
  Qi 15 0])
 (.block 0
  (.loop
   z5d)))
 z06))))
def Yt : Lay := ⟨28, [], false⟩
def z8y : List LRes := [.cell 2 true 5]
def zmp : LFn := ⟨1, Yt, zbo, z8y⟩
theorem zj7 : w9 Tryd.prog [] 76 = some zmp := by kernel_rfl
theorem zjc : uk Tryd.prog 76 := ⟨_, Tryd.func76, rfl, rfl⟩
def z55 (a0 : GJ) (o : GJ) : Exit → Env → AHeap → Nat → Prop := Zq z8y (Wg 3 3 (.agg (z6 o)) [])
def Ug (a0 : GJ) (v1 : (List (List UInt8))) (s : (Int × (List (List AVal)))) : Env := [(1, .ptr (3, 0) 0 0), (2, .ptr (4, 0) 0 0), (13, .isl 5 (a0.fE.map z8) false), (14, i6 ((a0.fE.map z8).length : Int)), (15, i6 s.1)]
def z0f (a0 : GJ) (v1 : (List (List UInt8))) (s : (Int × (List (List AVal)))) : AHeap := [((3, 0), .one [i6 a0.fK, i6 a0.fN, .str a0.fT, .isl 1 (v1.map z7) false, .osl (5, 0) 5 (s.2.map z8)]), ((4, 0), .one [i6 0, i6 0, .str [], .isl 1 (([] : List (List UInt8)).map z7) true, .isl 5 (([] : List (List AVal)).map z8) true]), ((5, 0), .tok)]
def z3h (a0 : GJ) (o : GJ) : Exit → Env → AHeap → Nat → Prop := (xn 0 (X5 Tryd.prog Yt 3 z06 (z55 a0 o)))
noncomputable def ku (rec0 : GJ → Option GJ) (m : Option Nat) (a0 : GJ) (v1 : (List (List UInt8))) (v5 : List (List AVal)) : Option GJ :=
 some (GJ.mk a0.fK a0.fN a0.fT v1 v5)
noncomputable def ww (rec0 : GJ → Option GJ) (m : Option Nat) (a0 : GJ) (v1 : (List (List UInt8))) (v4 : Int) (v5 : List (List AVal)) : Option ((Int × (List (List AVal))) ⊕ GJ) :=
 if (decide (v4 < ((a0.fE.map z8).length : Int))) = true then
  if (0 : Int) ≤ v4 ∧ v4 < ((a0.fE.map z8).length : Int) then
  ((kq (a0.fE.getD v4.toNat default))).bind fun v8 =>
  (rec0 v8).bind fun v9 =>
  if ((v5 ++ ([z6 v9] : List (List AVal))).map z8).length * 80 ≤ 140737488355328 then
  some (.inl ((W (v4 + 1)), (v5 ++ ([z6 v9] : List (List AVal)))))
  else none
  else none
 else
  Option.map Sum.inr (
   ku rec0 m a0 v1 v5)
noncomputable def Z9 (rec0 : GJ → Option GJ) (m : Option Nat) (a0 : GJ) (v1 : (List (List UInt8))) (v4 : Int) (v5 : List (List AVal)) : Option GJ := Zu m (fun (s : (Int × (List (List AVal)))) => ww rec0 m a0 v1 s.1 s.2) (v4, v5)
abbrev Hr0 (rec0 : GJ → Option GJ) : Prop := ∀ {a0 : GJ} {o : GJ}, rec0 a0 = some o → ACalls Tryd.prog 76 [.agg (z6 a0)] [] 3 (ki 3 (.agg (z6 o)) [])
theorem z9b {rec0 : GJ → Option GJ} (hrec0 : Hr0 rec0) {a0 : GJ} {v1 : (List (List UInt8))} {v5 : List (List AVal)} {m : Option Nat} {o : GJ} (h : ku rec0 m a0 v1 v5 = some o) :
 LWp Tryd.prog Yt 3 z06 (z55 a0 o) [(1, .ptr (3, 0) 0 0), (2, .ptr (4, 0) 0 0)] [((3, 0), .one [i6 a0.fK, i6 a0.fN, .str a0.fT, .isl 1 (v1.map z7) false, .osl (5, 0) 5 (v5.map z8)]), ((4, 0), .one [i6 0, i6 0, .str [], .isl 1 (([] : List (List UInt8)).map z7) true, .isl 5 (([] : List (List AVal)).map z8) true]), ((5, 0), .tok)] 6 := by
 unfold ku at h
 refine za (ze ?_)
 refine wh ?_
 cases h
 exact AI (AI TT (AI rfl (NB rfl))) (z49 (n' := 6) [] [] rfl rfl (Vw.aggL (S4 rfl rfl rfl rfl (AI (Vw.oslI _ _ _) TT))) TT)
theorem z89 {rec0 : GJ → Option GJ} (hrec0 : Hr0 rec0) {a0 : GJ} {v1 : (List (List UInt8))} {v4 : Int} {v5 : List (List AVal)} {m : Option Nat} {o : (Int × (List (List AVal))) ⊕ GJ} (h : ww rec0 m a0 v1 v4 v5 = some o) :
 LWp Tryd.prog Yt 3 z5d (Zf 3 6 (Ug a0 v1) (z0f a0 v1) (z3h a0) o) [(1, .ptr (3, 0) 0 0), (2, .ptr (4, 0) 0 0), (13, .isl 5 (a0.fE.map z8) false), (14, i6 ((a0.fE.map z8).length : Int)), (15, i6 v4)] [((3, 0), .one [i6 a0.fK, i6 a0.fN, .str a0.fT, .isl 1 (v1.map z7) false, .osl (5, 0) 5 (v5.map z8)]), ((4, 0), .one [i6 0, i6 0, .str [], .isl 1 (([] : List (List UInt8)).map z7) true, .isl 5 (([] : List (List AVal)).map z8) true]), ((5, 0), .tok)] 6 := by
 unfold ww at h
 refine za (ze ?_)
 refine za ?_
 refine yt (v := (decide (v4 < ((a0.fE.map z8).length : Int)))) rfl TT (fun h12 => ?_) (fun h12 => ?_)
 ·have h := zf h12 h
  refine xq ?_
  refine za ?_
  refine xw ?_
  refine za (ze ?_)
  obtain ⟨h13, h⟩ := qj h
  refine AI h13 ?_
  obtain ⟨v8, h14, h⟩ := bind_some h
  refine EX (z6 v8) (AI (j1 (wy z8 h13) h14) (AI (AI (vw h13) (NB rfl)) ?_))
  refine Xv ?_
  obtain ⟨v9, h15, h⟩ := bind_some h
  refine Xw (k := 3) (m := 0) (L' := []) (rest := [((6, 0), .one (z6 v8)), ((3, 0), .one [i6 a0.fK, i6 a0.fN, .str a0.fT, .isl 1 (v1.map z7) false, .osl (5, 0) 5 (v5.map z8)]), ((4, 0), .one [i6 0, i6 0, .str [], .isl 1 (([] : List (List UInt8)).map z7) true, .isl 5 (([] : List (List AVal)).map z8) true]), ((5, 0), .tok)]) (R' := .agg (z6 v9)) [] (hrec0 h15) rfl rfl rfl (AI (VS rfl) TT) TT (vj _ rfl) TT rfl ?_
  refine AI rfl ?_
  obtain ⟨h16, h⟩ := qj h
  refine EX ((v5 ++ ([z6 v9] : List (List AVal))).map z8) (AI (z0p z8 v5 ([z6 v9] : List (List AVal))) (AI h16 ?_))
  refine LWp.sim (e := [(1, .ptr (3, 0) 0 0), (2, .ptr (4, 0) 0 0), (13, .isl 5 (a0.fE.map z8) false), (14, i6 ((a0.fE.map z8).length : Int)), (15, i6 v4)]) (L := [((3, 0), .one [i6 a0.fK, i6 a0.fN, .str a0.fT, .isl 1 (v1.map z7) false, .osl (5, 0) 5 ((v5 ++ ([z6 v9] : List (List AVal))).map z8)]), ((4, 0), .one [i6 0, i6 0, .str [], .isl 1 (([] : List (List UInt8)).map z7) true, .isl 5 (([] : List (List AVal)).map z8) true]), ((5, 0), .tok)]) (n := 6) ?_ ?_
  ·exact yp (M := [((3, 0), (3, 0)), ((4, 0), (4, 0)), ((5, 0), (8, 0))]) rfl (SP rfl (SP rfl (S2 rfl rfl (AI (VS rfl) TT)))) (AI (AI rfl (BVw.oneL (S4 rfl rfl rfl rfl (AI (Vw.osl _ _ _ _ rfl) TT)))) (AI (AI rfl (OL rfl)) (AI (AI rfl BVw.tok) TT)))
  refine ze ?_
  cases h
  exact AI rfl (yp (M := [((3, 0), (3, 0)), ((4, 0), (4, 0)), ((5, 0), (5, 0))]) rfl (SP rfl (SP rfl (S2 rfl rfl (AI (VS rfl) TT)))) (AI (AI rfl (BVw.oneL (S4 rfl rfl rfl rfl (AI (Vw.osl _ _ _ _ rfl) TT)))) (AI (AI rfl (OL rfl)) (AI (AI rfl BVw.tok) TT))))
 ·have h := zp h12 h
  refine Xm ?_
  obtain ⟨o, hq, rfl⟩ := Option.map_eq_some_iff.1 h
  replace h := hq; clear hq
  refine AI nofun ?_
  refine LWp.sim ?_ (z9b hrec0 h)
  exact yp (M := [((3, 0), (3, 0)), ((4, 0), (4, 0)), ((5, 0), (5, 0))]) rfl (SP rfl (SP rfl TT)) (AI (AI rfl (BVw.oneL (S4 rfl rfl rfl rfl (AI (Vw.osl _ _ _ _ rfl) TT)))) (AI (AI rfl (OL rfl)) (AI (AI rfl BVw.tok) TT)))
theorem zau {rec0 : GJ → Option GJ} (hrec0 : Hr0 rec0) {a0 : GJ} {v1 : (List (List UInt8))} {v4 : Int} {v5 : List (List AVal)} {m : Option Nat} {o : GJ} (h : Z9 rec0 m a0 v1 v4 v5 = some o) :
 LWp Tryd.prog Yt 3 (.loop z5d) (xn 0 (X5 Tryd.prog Yt 3 z06 (z55 a0 o))) [(1, .ptr (3, 0) 0 0), (2, .ptr (4, 0) 0 0), (13, .isl 5 (a0.fE.map z8) false), (14, i6 ((a0.fE.map z8).length : Int)), (15, i6 v4)] [((3, 0), .one [i6 a0.fK, i6 a0.fN, .str a0.fT, .isl 1 (v1.map z7) false, .osl (5, 0) 5 (v5.map z8)]), ((4, 0), .one [i6 0, i6 0, .str [], .isl 1 (([] : List (List UInt8)).map z7) true, .isl 5 (([] : List (List AVal)).map z8) true]), ((5, 0), .tok)] 6 :=
 w8 (m := m) (s := ((v4, v5) : (Int × (List (List AVal))))) (r := o) (fun (s : (Int × (List (List AVal)))) => ww rec0 m a0 v1 s.1 s.2) (Ug a0 v1) (z0f a0 v1) (z3h a0) (fun s o h => z89 hrec0 h) h
noncomputable def jc (rec0 : GJ → Option GJ) (m : Option Nat) (a0 : GJ) : Option GJ :=
 (vi m a0.fA).bind fun v1 =>
 Z9 rec0 m a0 v1 0 []
theorem z95 {rec0 : GJ → Option GJ} (hrec0 : Hr0 rec0) {a0 : GJ} {m : Option Nat} {o : GJ} (h : jc rec0 m a0 = some o) : LWp Tryd.prog Yt 3 zbo (z55 a0 o) (y5 0 [.agg (z6 a0)]) [] 3 := by
 unfold jc at h
 refine za (ze ?_)
 refine za (ze ?_)
 refine za (ze ?_)
 obtain ⟨v1, h1, h⟩ := bind_some h
 refine PFn.call (zno h1) (AI (VS rfl) TT) ?_
 refine LWp.sim (e := [(1, .ptr (3, 0) 0 0), (2, .ptr (4, 0) 0 0), (3, .isl 5 (a0.fE.map z8) false)]) (L := [((3, 0), .one [i6 a0.fK, i6 a0.fN, .str a0.fT, .isl 1 (v1.map z7) false, .val (.slice none 0 0)]), ((4, 0), .one [i6 0, i6 0, .str [], .isl 1 (([] : List (List UInt8)).map z7) true, .isl 5 (([] : List (List AVal)).map z8) true])]) (n := 5) ?_ ?_
 ·exact yp (M := [((3, 0), (3, 0)), ((4, 0), (4, 0))]) rfl (SP rfl (SP rfl (AI (VS rfl) TT))) (AI (AI rfl (OL rfl)) (AI (AI rfl (OL rfl)) TT))
 refine za ?_
 refine za (ze ?_)
 refine xw ?_
 refine LWp.sim ?_ (zau hrec0 h)
 exact yp (M := [((3, 0), (3, 0)), ((4, 0), (4, 0))]) rfl (SP rfl (SP rfl (S2 rfl rfl (AI (VS rfl) TT)))) (AI (AI rfl (BVw.oneL (S4 rfl rfl rfl rfl (AI (Vw.nilO _ _ (by decide)) TT)))) (AI (AI rfl (OL rfl)) (AI (AI rfl (AI (by decide) (by decide))) TT)))
theorem zcl {rec0 : GJ → Option GJ} (hrec0 : Hr0 rec0) {a0 : GJ} {m : Option Nat} {o : GJ} (h : jc rec0 m a0 = some o) : ACalls Tryd.prog 76 [.agg (z6 a0)] [] 3 (ki 3 (.agg (z6 o)) []) := Xx (L := zmp) zj7 zjc (NB rfl) (z95 hrec0 h)
noncomputable def jf (m : Option Nat) : Nat → GJ → Option GJ
 | 0 => fun _ => none
 | k + 1 => jc (jf m k) m
noncomputable def u4 (m : Option Nat) (a0 : GJ) : Option GJ := zeo m (fun k => jf m k a0)
theorem z8w {m : Option Nat} : ∀ (k : Nat) {a0 : GJ} {o : GJ}, jf m k a0 = some o → ACalls Tryd.prog 76 [.agg (z6 a0)] [] 3 (ki 3 (.agg (z6 o)) [])
 | 0, _, _, h => nomatch h
 | k + 1, _, _, h => zcl (fun h => z8w k h) h
theorem zmj {a0 : GJ} {m : Option Nat} {o : GJ} (h : u4 m a0 = some o) : ACalls Tryd.prog 76 [.agg (z6 a0)] [] 3 (ki 3 (.agg (z6 o)) []) := (Zs h).elim fun k h => z8w k h
noncomputable def Yc (m : Option Nat) (a0 : GJ) : Option GJ := jc (u4 m) m a0
theorem zx9 {a0 : GJ} {m : Option Nat} {o : GJ} (h : Yc m a0 = some o) : PFn Tryd.prog 76 [.agg (z6 a0)] (.agg (z6 o)) :=
 ⟨rfl, _, Xw (k := 3) (m := 0) (L' := []) (rest := []) (R' := .agg (z6 o)) [] (zcl zmj h) rfl rfl rfl (AI (VS rfl) TT) TT (vj _ rfl) TT rfl ⟨rfl, rfl, rfl⟩⟩
def zrh : LCode := (.seq (.region [Qo 2 (.box (.t 0)),
 Qo 4 (.alloc [(i6 0), (i6 0), (.str []), (.isl 1 [] true), (.isl 5 [] true)]),
 Qb 5])
 (.seq (.region [Qf 7 3 2,
  Ql 8 1 7,
  Qm 9 1,
  Qo 10 (.call 75 [(.t 8), (.t 9)]),
  Qm 6 10])
 (.seq (.seq (.region [Qf 11 0 2,
  Ql 12 1 11,
  Qo 13 (.bin .neq (.t 12) (.c (i6 5))),
  Qm 14 13,
  Qn 15 6 (14, false),
  Qg 16 (.bin .lss (.t 15) (.c (i6 0))) (14, false),
  Qo 17 (.pick (.t 14) (.c (.bool true)) (.t 16)),
  Qm 18 17,
  Qn 19 6 (18, false),
  Qe 20 4 2 (18, false),
  Qk 21 1 20 (18, false),
  Qg 22 (.len false (.t 21)) (18, false),
  Qg 23 (.bin .geq (.t 19) (.t 22)) (18, false),
  Qo 24 (.pick (.t 18) (.c (.bool true)) (.t 23))])
 (.cond (.t 24)
  (.seq (.region [Qo 25 (.build [(i6 0), (i6 0), (.str []), (.isl 1 [] true), (.isl 5 [] true)] []),
   ⟨none, .store 5 (.t 4) (.t 25), none⟩,
   Qb 5])
  .ret)
  .skip))
 (.seq (.region [Qf 26 4 2,
  Ql 27 1 26,
  Qm 28 6,
  Qo 29 (.iaddr 5 (.t 27) (.t 28)),
  Qt 30 5 29,
  Qc 31 76 30,
  ⟨none, .store 5 (.t 4) (.t 31), none⟩,
  Qo 5 (.mv (.c (.bool true)))])
 .ret))))
def ziy : Lay := ⟨32, [], false⟩
def zis : List LRes := [.cell 4 true 5, .t 5]
def zwq : LFn := ⟨2, ziy, zrh, zis⟩
theorem zvr : w9 Tryd.prog [] 60 = some zwq := by kernel_rfl
theorem zvi : uk Tryd.prog 60 := ⟨_, Tryd.func60, rfl, rfl⟩
noncomputable def vq (m : Option Nat) (a0 : GJ) (a1 : List UInt8) : Option (GJ × Bool) :=
 (jo m a0.fA a1).bind fun v1 =>
 if (((a0.fK != 5) || (decide (v1 < 0))) || (decide (v1 ≥ ((a0.fE.map z8).length : Int)))) = true then
  some ((GJ.mk 0 0 [] [] []), false)
 else
  if (0 : Int) ≤ v1 ∧ v1 < ((a0.fE.map z8).length : Int) then
  ((kq (a0.fE.getD v1.toNat default))).bind fun v2 =>
  (Yc m v2).bind fun v3 =>
  some (v3, true)
  else none
def y07 (a0 : GJ) (a1 : List UInt8) (o : GJ × Bool) : Exit → Env → AHeap → Nat → Prop := Zq zis (x8 (.tup [.agg (z6 o.1), .bool o.2]))
theorem zh1 {a0 : GJ} {a1 : List UInt8} {m : Option Nat} {o : GJ × Bool} (h : vq m a0 a1 = some o) : LWp Tryd.prog ziy 0 zrh (y07 a0 a1 o) (y5 0 [.agg (z6 a0), .str a1]) [] 0 := by
 unfold vq at h
 refine za (ze ?_)
 refine za (ze ?_)
 obtain ⟨v1, h1, h⟩ := bind_some h
 refine PFn.call (zs6 h1) (S2 rfl rfl TT) ?_
 refine LWp.sim (e := [(2, .ptr (0, 0) 0 0), (4, .ptr (1, 0) 0 0), (6, i6 v1)]) (L := [((0, 0), .one (z6 a0)), ((1, 0), .one [i6 0, i6 0, .str [], .isl 1 (([] : List (List UInt8)).map z7) true, .isl 5 (([] : List (List AVal)).map z8) true])]) (n := 2) ?_ ?_
 ·exact yp (M := [((0, 0), (0, 0)), ((1, 0), (1, 0))]) rfl (SP rfl (SP rfl (AI (VS rfl) TT))) (AI (AI rfl (OL rfl)) (AI (AI rfl (OL rfl)) TT))
 refine za ?_
 refine za (ze ?_)
 refine AI (fun hp => hp) ?_
 refine AI (fun hc => (bqf hc)) ?_
 refine AI (fun hp => hp) ?_
 refine AI (fun hp => hp) ?_
 refine AI (fun hp => (AI hp hp)) ?_
 refine AI (fun hc => (bqf hc)) ?_
 refine LWp.sim (e := [(2, .ptr (0, 0) 0 0), (4, .ptr (1, 0) 0 0), (6, i6 v1), (24, .bool (((a0.fK != 5) || (decide (v1 < 0))) || (decide (v1 ≥ ((a0.fE.map z8).length : Int)))))]) (L := [((0, 0), .one (z6 a0)), ((1, 0), .one [i6 0, i6 0, .str [], .isl 1 (([] : List (List UInt8)).map z7) true, .isl 5 (([] : List (List AVal)).map z8) true])]) (n := 2) ?_ ?_
 ·exact yp (M := [((0, 0), (0, 0)), ((1, 0), (1, 0))]) rfl (SP rfl (SP rfl (S2 rfl rfl TT))) (AI (AI rfl (OL rfl)) (AI (AI rfl (OL rfl)) TT))
 refine yt (v := (((a0.fK != 5) || (decide (v1 < 0))) || (decide (v1 ≥ ((a0.fE.map z8).length : Int))))) rfl TT (fun h2 => ?_) (fun h2 => ?_)
 ·have h := zf h2 h
  refine za (ze ?_)
  refine wh ?_
  cases h
  exact AI (AI TT (AI rfl (NB rfl))) (AI TT (AI rfl (Vw.tupL (AI (Vw.aggL (S2 rfl rfl (AI (VS rfl) (AI (Vw.islF _ _ _) (AI (Vw.islF _ _ _) TT))))) (AI (VS rfl) TT)))))
 ·have h := zp h2 h
  refine xq ?_
  refine za (ze ?_)
  obtain ⟨h3, h⟩ := qj h
  refine AI h3 ?_
  obtain ⟨v2, h4, h⟩ := bind_some h
  refine EX (z6 v2) (AI (j1 (wy z8 h3) h4) (AI (AI (vw h3) (NB rfl)) ?_))
  obtain ⟨v3, h5, h⟩ := bind_some h
  refine PFn.call (zx9 h5) (AI (VS rfl) TT) ?_
  refine LWp.sim (e := [(4, .ptr (0, 0) 0 0), (5, .bool true)]) (L := [((0, 0), .one (z6 v3))]) (n := 1) ?_ ?_
  ·exact yp (M := [((0, 0), (1, 0))]) rfl (SP rfl (AI (VS rfl) TT)) (AI (AI rfl (OL rfl)) TT)
  refine wh ?_
  cases h
  exact AI (AI TT (AI rfl (NB rfl))) (AI TT (AI rfl (VS rfl)))
theorem zx8 {a0 : GJ} {a1 : List UInt8} {m : Option Nat} {o : GJ × Bool} (h : vq m a0 a1 = some o) : PFn Tryd.prog 60 [.agg (z6 a0), .str a1] (.tup [.agg (z6 o.1), .bool o.2]) := PFn.ofFnW (L := zwq) zvr zvi (NB rfl) rfl (zh1 h)
def zqn : LCode := (.seq (.region [Qo 2 (.box (.t 0)),
 Qo 4 (.alloc [(i6 0), (i6 0), (.str []), (.isl 1 [] true), (.isl 5 [] true)])])
 (.seq (.region [Qt 8 5 2,
  Qm 9 1,
  Qo 10 (.call 60 [(.t 8), (.t 9)]),
  Qm 7 10,
  Qo 11 (.ext 0 (.t 7)),
  Qo 12 (.ext 1 (.t 7)),
  Qo 5 (.alloc [(i6 0), (i6 0), (.str []), (.isl 1 [] true), (.isl 5 [] true)]),
  ⟨none, .store 5 (.t 5) (.t 11), none⟩,
  Qm 6 12])
 (.seq (.region [Qt 13 5 5,
  ⟨none, .store 5 (.t 4) (.t 13), none⟩])
 .ret)))
def zit : Lay := ⟨14, [], false⟩
def zgc : List LRes := [.cell 4 true 5]
def zyg : LFn := ⟨2, zit, zqn, zgc⟩
theorem zsh : w9 Tryd.prog [] 59 = some zyg := by kernel_rfl
theorem zw8 : uk Tryd.prog 59 := ⟨_, Tryd.func59, rfl, rfl⟩
noncomputable def zw (m : Option Nat) (a0 : GJ) (a1 : List UInt8) : Option GJ :=
 (vq m a0 a1).bind fun v1 =>
 some (GJ.mk v1.1.fK v1.1.fN v1.1.fT v1.1.fA v1.1.fE)
def y19 (a0 : GJ) (a1 : List UInt8) (o : GJ) : Exit → Env → AHeap → Nat → Prop := Zq zgc (x8 (.agg (z6 o)))
theorem zib {a0 : GJ} {a1 : List UInt8} {m : Option Nat} {o : GJ} (h : zw m a0 a1 = some o) : LWp Tryd.prog zit 0 zqn (y19 a0 a1 o) (y5 0 [.agg (z6 a0), .str a1]) [] 0 := by
 unfold zw at h
 refine za (ze ?_)
 refine za (ze ?_)
 obtain ⟨v1, h1, h⟩ := bind_some h
 refine PFn.call (zx8 h1) (S2 rfl rfl TT) ?_
 refine LWp.sim (e := [(4, .ptr (0, 0) 0 0), (5, .ptr (1, 0) 0 0)]) (L := [((0, 0), .one [i6 0, i6 0, .str [], .isl 1 (([] : List (List UInt8)).map z7) true, .isl 5 (([] : List (List AVal)).map z8) true]), ((1, 0), .one (z6 v1.1))]) (n := 2) ?_ ?_
 ·exact yp (M := [((0, 0), (1, 0)), ((1, 0), (2, 0))]) rfl (SP rfl (SP rfl TT)) (AI (AI rfl (OL rfl)) (AI (AI rfl (OL rfl)) TT))
 refine za (ze ?_)
 refine wh ?_
 cases h
 exact AI (AI TT (AI rfl (NB rfl))) (AI rfl (VS rfl))
theorem Ue {a0 : GJ} {a1 : List UInt8} {m : Option Nat} {o : GJ} (h : zw m a0 a1 = some o) : PFn Tryd.prog 59 [.agg (z6 a0), .str a1] (.agg (z6 o)) := PFn.ofFnW (L := zyg) zsh zw8 (NB rfl) rfl (zib h)
def zqh : LCode := (.seq (.region [Qo 1 (.box (.t 0)),
 Qo 2 (.mv (.c (.val (.slice none 0 0))))])
 (.seq (.region [Qo 3 (.mv (.c (.fn (.func 59) [] [])))])
 (.seq (.draw [⟨Qm 8 3, []⟩,
  ⟨Qt 9 5 1, []⟩,
  ⟨Qm 12 3, []⟩,
  ⟨Qt 13 5 1, []⟩,
  ⟨Qm 16 3, []⟩,
  ⟨Qt 17 5 1, []⟩,
  ⟨Qm 19 3, []⟩,
  ⟨Qt 20 5 1, []⟩,
  ⟨Qo 10 (.callv (.t 8) [(.t 9), (.c (.str [105, 100]))]), [3, 5, 7]⟩,
  ⟨Qo 11 (.field false 1 1 (.t 10)), []⟩,
  ⟨Qo 14 (.callv (.t 12) [(.t 13), (.c (.str [109, 101, 116, 104, 111, 100]))]), [5, 7]⟩,
  ⟨Qo 15 (.field false 1 2 (.t 14)), []⟩,
  ⟨Qo 18 (.callv (.t 16) [(.t 17), (.c (.str [112, 97, 114, 97, 109, 115]))]), [7]⟩,
  ⟨Qo 21 (.callv (.t 19) [(.t 20), (.c (.str [101, 114, 114, 111, 114]))]), []⟩,
  ⟨Qo 6 (.alloc [(i6 0), (i6 0), (.str []), (.isl 1 [] true), (.isl 5 [] true)]), [1, 3, 5, 7]⟩,
  ⟨Qo 7 (.alloc [(i6 0), (i6 0), (.str []), (.isl 1 [] true), (.isl 5 [] true)]), [1, 3, 5, 7]⟩,
  ⟨Qm 4 11, []⟩,
  ⟨Qm 5 15, []⟩,
  ⟨⟨none, .store 5 (.t 6) (.t 18), none⟩, []⟩,
  ⟨⟨none, .store 5 (.t 7) (.t 21), none⟩, []⟩])
 (.seq (.draw [⟨Qm 22 4, []⟩,
  ⟨Qm 23 5, []⟩,
  ⟨Qt 24 5 6, []⟩,
  ⟨Qo 25 (.build [(i6 0), (i6 0), (i6 0), (.str []), (i6 0), (i6 0), (.str []), (.isl 1 [] true), (.isl 5 [] true)] [(0, 1, (.c (i6 1))), (1, 1, (.t 22)), (3, 1, (.t 23)), (4, 5, (.t 24))]), []⟩,
  ⟨Qm 26 5, []⟩,
  ⟨Qt 27 5 6, []⟩,
  ⟨Qo 28 (.build [(i6 0), (i6 0), (i6 0), (.str []), (i6 0), (i6 0), (.str []), (.isl 1 [] true), (.isl 5 [] true)] [(0, 1, (.c (i6 2))), (3, 1, (.t 26)), (4, 5, (.t 27))]), []⟩,
  ⟨Qm 29 4, []⟩,
  ⟨Qm 30 3, []⟩,
  ⟨Qt 31 5 1, []⟩,
  ⟨Qm 34 4, []⟩,
  ⟨Qm 35 3, []⟩,
  ⟨Qt 36 5 7, []⟩,
  ⟨Qm 39 3, []⟩,
  ⟨Qt 40 5 7, []⟩,
  ⟨Qm 44 3, []⟩,
  ⟨Qt 45 5 6, []⟩,
  ⟨Qo 32 (.callv (.t 30) [(.t 31), (.c (.str [114, 101, 115, 117, 108, 116]))]), [2, 5, 12, 14, 16]⟩,
  ⟨Qo 33 (.build [(i6 0), (i6 0), (i6 0), (.str []), (i6 0), (i6 0), (.str []), (.isl 1 [] true), (.isl 5 [] true)] [(0, 1, (.c (i6 3))), (1, 1, (.t 29)), (4, 5, (.t 32))]), []⟩,
  ⟨Qo 37 (.callv (.t 35) [(.t 36), (.c (.str [99, 111, 100, 101]))]), [2, 5, 14, 16]⟩,
  ⟨Qo 38 (.field false 1 1 (.t 37)), []⟩,
  ⟨Qo 41 (.callv (.t 39) [(.t 40), (.c (.str [109, 101, 115, 115, 97, 103, 101]))]), [2, 5, 16]⟩,
  ⟨Qo 42 (.field false 1 2 (.t 41)), []⟩,
  ⟨Qo 43 (.build [(i6 0), (i6 0), (i6 0), (.str []), (i6 0), (i6 0), (.str []), (.isl 1 [] true), (.isl 5 [] true)] [(0, 1, (.c (i6 4))), (1, 1, (.t 34)), (2, 1, (.t 38)), (3, 1, (.t 42))]), []⟩,
  ⟨Qo 46 (.callv (.t 44) [(.t 45), (.c (.str [105, 100]))]), [2, 5]⟩,
  ⟨Qo 47 (.field false 1 1 (.t 46)), []⟩,
  ⟨Qo 48 (.build [(i6 0), (i6 0), (i6 0), (.str []), (i6 0), (i6 0), (.str []), (.isl 1 [] true), (.isl 5 [] true)] [(0, 1, (.c (i6 5))), (1, 1, (.t 47))]), []⟩,
  ⟨Qo 49 (.mkSl true 9 [(i6 0), (i6 0), (i6 0), (.str []), (i6 0), (i6 0), (.str []), (.isl 1 [] true), (.isl 5 [] true)] 5 [(0, (.t 25)), (1, (.t 28)), (2, (.t 33)), (3, (.t 43)), (4, (.t 48))]), []⟩,
  ⟨Qm 2 49, []⟩])
 .ret))))
def zgw : Lay := ⟨50, [], false⟩
def zhg : List LRes := [.t 2]
def zwp : LFn := ⟨1, zgw, zqh, zhg⟩
theorem zup : w9 Tryd.prog [] 33 = some zwp := by kernel_rfl
theorem zvl : uk Tryd.prog 33 := ⟨_, Tryd.func33, rfl, rfl⟩
noncomputable def jz (m : Option Nat) (a0 : GJ) : Option (List GM) :=
 (zw m a0 ([105, 100] : List UInt8)).bind fun v1 =>
 (zw m a0 ([109, 101, 116, 104, 111, 100] : List UInt8)).bind fun v2 =>
 (zw m a0 ([112, 97, 114, 97, 109, 115] : List UInt8)).bind fun v3 =>
 (zw m a0 ([101, 114, 114, 111, 114] : List UInt8)).bind fun v4 =>
 (zw m a0 ([114, 101, 115, 117, 108, 116] : List UInt8)).bind fun v5 =>
 (zw m v4 ([99, 111, 100, 101] : List UInt8)).bind fun v6 =>
 (zw m v4 ([109, 101, 115, 115, 97, 103, 101] : List UInt8)).bind fun v7 =>
 (zw m v3 ([105, 100] : List UInt8)).bind fun v8 =>
 some ([(GM.mk 1 v1.fN 0 v2.fT v3), (GM.mk 2 0 0 v2.fT v3), (GM.mk 3 v1.fN 0 ([] : List UInt8) v5), (GM.mk 4 v1.fN v6.fN v7.fT (GJ.mk 0 0 [] [] [])), (GM.mk 5 v8.fN 0 ([] : List UInt8) (GJ.mk 0 0 [] [] []))] : List GM)
def y1j (a0 : GJ) (o : (List GM)) : Exit → Env → AHeap → Nat → Prop := Zq zhg (x8 (.isl 9 (o.map yi) false))
theorem zhb {a0 : GJ} {m : Option Nat} {o : (List GM)} (h : jz m a0 = some o) : LWp Tryd.prog zgw 0 zqh (y1j a0 o) (y5 0 [.agg (z6 a0)]) [] 0 := by
 unfold jz at h
 refine za (ze ?_)
 refine za (ze ?_)
 refine za ?_
 refine Xv ?_
 obtain ⟨v1, h1, h⟩ := bind_some h
 refine PFn.call (Ue h1) (S2 rfl rfl TT) ?_
 refine AI rfl ?_
 refine AI rfl ?_
 refine AI rfl ?_
 obtain ⟨v2, h2, h⟩ := bind_some h
 refine PFn.call (Ue h2) (S2 rfl rfl TT) ?_
 refine AI rfl ?_
 refine AI rfl ?_
 obtain ⟨v3, h3, h⟩ := bind_some h
 refine PFn.call (Ue h3) (S2 rfl rfl TT) ?_
 refine AI rfl ?_
 obtain ⟨v4, h4, h⟩ := bind_some h
 refine PFn.call (Ue h4) (S2 rfl rfl TT) ?_
 refine AI rfl ?_
 refine AI rfl ?_
 refine AI rfl ?_
 refine AI rfl ?_
 refine AI rfl ?_
 refine AI rfl ?_
 refine AI rfl ?_
 refine AI rfl ?_
 refine LWp.sim (e := [(1, .ptr (0, 0) 0 0), (3, .fn (.func 59) [] []), (4, i6 v1.fN), (5, .str v2.fT), (6, .ptr (1, 0) 0 0), (7, .ptr (2, 0) 0 0)]) (L := [((0, 0), .one (z6 a0)), ((1, 0), .one (z6 v3)), ((2, 0), .one (z6 v4))]) (n := 3) ?_ ?_
 ·exact yp (M := [((0, 0), (0, 0)), ((1, 0), (1, 0)), ((2, 0), (2, 0))]) rfl (SP rfl (S2 rfl rfl (AI (VS rfl) (SP rfl (SP rfl TT))))) (AI (AI rfl (OL rfl)) (AI (AI rfl (OL rfl)) (AI (AI rfl (OL rfl)) TT)))
 refine za ?_
 refine Xv ?_
 obtain ⟨v5, h5, h⟩ := bind_some h
 refine PFn.call (Ue h5) (S2 rfl rfl TT) ?_
 refine AI rfl ?_
 refine AI rfl ?_
 refine AI rfl ?_
 refine AI rfl ?_
 refine AI rfl ?_
 obtain ⟨v6, h6, h⟩ := bind_some h
 refine PFn.call (Ue h6) (S2 rfl rfl TT) ?_
 refine AI rfl ?_
 refine AI rfl ?_
 refine AI rfl ?_
 refine AI rfl ?_
 obtain ⟨v7, h7, h⟩ := bind_some h
 refine PFn.call (Ue h7) (S2 rfl rfl TT) ?_
 refine AI rfl ?_
 refine AI rfl ?_
 refine AI rfl ?_
 obtain ⟨v8, h8, h⟩ := bind_some h
 refine PFn.call (Ue h8) (S2 rfl rfl TT) ?_
 refine AI rfl ?_
 refine AI rfl ?_
 refine LWp.sim (e := [(2, .isl 9 (([(GM.mk 1 v1.fN 0 v2.fT v3), (GM.mk 2 0 0 v2.fT v3), (GM.mk 3 v1.fN 0 ([] : List UInt8) v5), (GM.mk 4 v1.fN v6.fN v7.fT (GJ.mk 0 0 [] [] [])), (GM.mk 5 v8.fN 0 ([] : List UInt8) (GJ.mk 0 0 [] [] []))] : List GM).map yi) true)]) (L := []) (n := 0) ?_ ?_
 ·exact yp (M := []) rfl (AI (VS rfl) TT) TT
 refine wh ?_
 cases h
 exact AI TT (AI rfl (Vw.islF _ _ _))
theorem zyu {a0 : GJ} {m : Option Nat} {o : (List GM)} (h : jz m a0 = some o) : PFn Tryd.prog 33 [.agg (z6 a0)] (.isl 9 (o.map yi) false) := PFn.ofFnW (L := zwp) zup zvl (NB rfl) rfl (zhb h)
def zqq : LCode := (.seq (.region [Qo 1 (.box (.t 0)),
 Qb 2])
 (.seq (.region [Qf 3 0 1,
  Ql 4 1 3,
  Qo 5 (.bin .eql (.t 4) (.c (i6 0))),
  Qm 6 5,
  Qe 7 1 1 (6, true),
  Qk 8 1 7 (6, true),
  Qg 9 (.bin .eql (.t 8) (.c (i6 0))) (6, true),
  Qp 10 6 9,
  Qm 11 10,
  Qe 12 2 1 (11, true),
  Qk 13 1 12 (11, true),
  Qg 14 (.bin .eql (.t 13) (.c (.str []))) (11, true),
  Qp 15 11 14,
  Qm 16 15,
  Qe 17 3 1 (16, true),
  Qk 18 1 17 (16, true),
  Qg 19 (.len false (.t 18)) (16, true),
  Qe 20 4 1 (16, true),
  Qk 21 1 20 (16, true),
  Qg 22 (.len false (.t 21)) (16, true),
  Qg 23 (.bin .add (.t 19) (.t 22)) (16, true),
  Qg 24 (.bin .eql (.t 23) (.c (i6 0))) (16, true),
  Qp 25 16 24,
  Qm 2 25])
 .ret))
def zm1 : Lay := ⟨26, [], false⟩
def zgp : List LRes := [.t 2]
def zx4 : LFn := ⟨1, zm1, zqq, zgp⟩
theorem zwe : w9 Tryd.prog [] 34 = some zx4 := by kernel_rfl
theorem ztz : uk Tryd.prog 34 := ⟨_, Tryd.func34, rfl, rfl⟩
noncomputable def jk (m : Option Nat) (a0 : GJ) : Option Bool :=
 some ((((a0.fK == 0) && (a0.fN == 0)) && (a0.fT == ([] : List UInt8))) && ((W (((a0.fA.map z7).length : Int) + ((a0.fE.map z8).length : Int))) == 0))
def y0m (a0 : GJ) (o : Bool) : Exit → Env → AHeap → Nat → Prop := Zq zgp (x8 (.bool o))
theorem zm9 {a0 : GJ} {m : Option Nat} {o : Bool} (h : jk m a0 = some o) : LWp Tryd.prog zm1 0 zqq (y0m a0 o) (y5 0 [.agg (z6 a0)]) [] 0 := by
 unfold jk at h
 refine za (ze ?_)
 refine za (ze ?_)
 refine AI (fun hp => hp) ?_
 refine AI (fun hp => hp) ?_
 refine AI (fun hc => (bqt hc)) ?_
 refine AI (fun hp => hp) ?_
 refine AI (fun hp => hp) ?_
 refine AI (fun hc => (bqt hc)) ?_
 refine AI (fun hp => hp) ?_
 refine AI (fun hp => hp) ?_
 refine AI (fun hp => hp) ?_
 refine AI (fun hp => hp) ?_
 refine AI (fun hp => (AI hp hp)) ?_
 refine AI (fun hp => hp) ?_
 refine AI (fun hc => (bqt hc)) ?_
 refine LWp.sim (e := [(2, .bool ((((a0.fK == 0) && (a0.fN == 0)) && (a0.fT == ([] : List UInt8))) && ((W (((a0.fA.map z7).length : Int) + ((a0.fE.map z8).length : Int))) == 0)))]) (L := []) (n := 0) ?_ ?_
 ·exact yp (M := []) rfl (AI (VS rfl) TT) TT
 refine wh ?_
 cases h
 exact AI TT (AI rfl (VS rfl))
theorem zrb {a0 : GJ} {m : Option Nat} {o : Bool} (h : jk m a0 = some o) : PFn Tryd.prog 34 [.agg (z6 a0)] (.bool o) := PFn.ofFnW (L := zx4) zwe ztz (NB rfl) rfl (zm9 h)
def jv (m : Option Nat) (a0 : List UInt8) : Option Bool := if a0.length ≤ 9223372036854775807 then some (Go.Lib.validD a0) else none
theorem zvp : uk Tryd.prog 68 := ⟨_, Tryd.func68, rfl, rfl⟩
theorem zgm {m : Option Nat} {a0 : List UInt8} {o : Bool} (h : jv m a0 = some o) : PFn Tryd.prog 68 [.str a0] (.bool o) := by
 unfold jv at h
 split at h
 ·rename_i hc
  cases h
  exact z8b Tryd.l68 rfl rfl zvp (by rw [zyw]; exact .head _) (by rw [zyw]; exact .tail _ (.head _)) hc
 ·cases h
def zs3 : LCode := (.seq (.region [Qb 4])
 (.seq (.region [Qm 5 0,
  Qo 6 (.len true (.t 5)),
  Qm 7 1,
  Qo 8 (.bin .geq (.t 6) (.t 7)),
  Qm 9 8,
  Qn 10 0 (9, true),
  Qg 11 (.len true (.t 10)) (9, true),
  Qg 12 (.bin .leq (.t 11) (.c (i6 60))) (9, true),
  Qp 13 9 12,
  Qm 14 13,
  Qn 15 0 (14, true),
  Qg 16 (.call 68 [(.t 15)]) (14, true),
  Qp 17 14 16,
  Qm 4 17])
 .ret))
def zlo : Lay := ⟨18, [], false⟩
def zld : List LRes := [.t 4]
def zx1 : LFn := ⟨2, zlo, zs3, zld⟩
theorem zv5 : w9 Tryd.prog [] 46 = some zx1 := by kernel_rfl
theorem ztx : uk Tryd.prog 46 := ⟨_, Tryd.func46, rfl, rfl⟩
noncomputable def xr (m : Option Nat) (a0 : List UInt8) (a1 : Int) : Option Bool :=
 (if (((decide ((a0.length : Int) ≥ a1)) && (decide ((a0.length : Int) ≤ 60))) == true) = true then jv m a0 else some default).bind fun v1 =>
 some (((decide ((a0.length : Int) ≥ a1)) && (decide ((a0.length : Int) ≤ 60))) && v1)
def y1l (a0 : List UInt8) (a1 : Int) (o : Bool) : Exit → Env → AHeap → Nat → Prop := Zq zld (x8 (.bool o))
theorem zgf {a0 : List UInt8} {a1 : Int} {m : Option Nat} {o : Bool} (h : xr m a0 a1 = some o) : LWp Tryd.prog zlo 0 zs3 (y1l a0 a1 o) (y5 0 [.str a0, i6 a1]) [] 0 := by
 unfold xr at h
 refine za (ze ?_)
 refine za (ze ?_)
 refine AI (fun hp => hp) ?_
 refine AI (fun hp => hp) ?_
 refine AI (fun hc => (bqt hc)) ?_
 obtain ⟨v1, h1, h⟩ := bind_some h
 refine Or.inl (EX (.bool v1) (AI (fun hp => AI hp (PFn.call (zgm (zf hp h1)) (AI (VS rfl) TT) (AI rfl (AI rfl rfl)))) ?_))
 refine AI (fun hc => (bqt hc)) ?_
 refine LWp.sim (e := [(4, .bool (((decide ((a0.length : Int) ≥ a1)) && (decide ((a0.length : Int) ≤ 60))) && v1))]) (L := []) (n := 0) ?_ ?_
 ·exact yp (M := []) rfl (AI (VS rfl) TT) TT
 refine wh ?_
 cases h
 exact AI TT (AI rfl (VS rfl))
theorem zl6 {a0 : List UInt8} {a1 : Int} {m : Option Nat} {o : Bool} (h : xr m a0 a1 = some o) : PFn Tryd.prog 46 [.str a0, i6 a1] (.bool o) := PFn.ofFnW (L := zx1) zv5 ztx (NB rfl) rfl (zgf h)
def zqj : LCode := (.seq (.region [Qo 1 (.box (.t 0)),
 Qb 2])
 (.seq (.seq (.region [Qf 3 0 1,
  Ql 4 1 3])
 (.block 0
  (.seq (.region [Qo 6 (.bin .eql (.t 4) (.c (i6 1))),
   Qm 5 6])
  (.cond (.t 5)
   (.seq (.region [Qf 7 3 1,
    Ql 8 1 7,
    Qo 9 (.call 46 [(.t 8), (.c (i6 1))]),
    Qm 2 9])
   .ret)
   (.seq (.region [Qo 11 (.bin .eql (.t 4) (.c (i6 2))),
    Qm 10 11])
   (.cond (.t 10)
    (.seq (.region [Qf 12 3 1,
     Ql 13 1 12,
     Qo 14 (.call 46 [(.t 13), (.c (i6 1))]),
     Qm 15 14,
     Qe 16 3 1 (15, true),
     Qk 17 1 16 (15, true),
     Qg 18 (.bin .neq (.t 17) (.c (.str [36, 47, 99, 97, 110, 99, 101, 108]))) (15, true),
     Qp 19 15 18,
     Qm 2 19])
    .ret)
    (.seq (.region [Qo 21 (.bin .eql (.t 4) (.c (i6 4))),
     Qm 20 21])
    (.cond (.t 20)
     (.seq (.region [Qf 22 3 1,
      Ql 23 1 22,
      Qo 24 (.call 46 [(.t 23), (.c (i6 0))]),
      Qm 2 24])
     .ret)
     .skip))))))))
 (.seq (.region [Qf 25 3 1,
  Ql 26 1 25,
  Qo 27 (.bin .eql (.t 26) (.c (.str []))),
  Qm 2 27])
 .ret)))
def zk0 : Lay := ⟨28, [], false⟩
def zle : List LRes := [.t 2]
def zy4 : LFn := ⟨1, zk0, zqj, zle⟩
theorem ztn : w9 Tryd.prog [] 50 = some zy4 := by kernel_rfl
theorem zvo : uk Tryd.prog 50 := ⟨_, Tryd.func50, rfl, rfl⟩
noncomputable def xt (m : Option Nat) (a0 : GM) : Option Bool :=
 if (a0.fK == 1) = true then
  (xr m a0.fM 1).bind fun v1 =>
  some v1
 else
  if (a0.fK == 2) = true then
   (xr m a0.fM 1).bind fun v2 =>
   some (v2 && (!(a0.fM == ([36, 47, 99, 97, 110, 99, 101, 108] : List UInt8))))
  else
   if (a0.fK == 4) = true then
    (xr m a0.fM 0).bind fun v3 =>
    some v3
   else
    some (a0.fM == ([] : List UInt8))
def y0e (a0 : GM) (o : Bool) : Exit → Env → AHeap → Nat → Prop := Zq zle (x8 (.bool o))
theorem zhv {a0 : GM} {m : Option Nat} {o : Bool} (h : xt m a0 = some o) : LWp Tryd.prog zk0 0 zqj (y0e a0 o) (y5 0 [.agg [i6 a0.fK, i6 a0.fI, i6 a0.fC, .str a0.fM, i6 a0.fB.fK, i6 a0.fB.fN, .str a0.fB.fT, .isl 1 (a0.fB.fA.map z7) false, .isl 5 (a0.fB.fE.map z8) false]]) [] 0 := by
 unfold xt at h
 refine za (ze ?_)
 refine za ?_
 refine za (ze ?_)
 refine xw ?_
 refine za (ze ?_)
 refine yt (v := (a0.fK == 1)) rfl TT (fun h1 => ?_) (fun h1 => ?_)
 ·have h := zf h1 h
  refine za (ze ?_)
  obtain ⟨v1, h2, h⟩ := bind_some h
  refine PFn.call (zl6 h2) (S2 rfl rfl TT) ?_
  refine LWp.sim (e := [(2, .bool v1)]) (L := []) (n := 0) ?_ ?_
  ·exact yp (M := []) rfl (AI (VS rfl) TT) TT
  refine wh ?_
  cases h
  exact AI TT (AI rfl (VS rfl))
 ·have h := zp h1 h
  refine za (ze ?_)
  refine LWp.sim (e := [(1, .ptr (0, 0) 0 0), (4, i6 a0.fK), (10, .bool (a0.fK == 2))]) (L := [((0, 0), .one [i6 a0.fK, i6 a0.fI, i6 a0.fC, .str a0.fM, i6 a0.fB.fK, i6 a0.fB.fN, .str a0.fB.fT, .isl 1 (a0.fB.fA.map z7) false, .isl 5 (a0.fB.fE.map z8) false])]) (n := 1) ?_ ?_
  ·exact yp (M := [((0, 0), (0, 0))]) rfl (SP rfl (S2 rfl rfl TT)) (AI (AI rfl (OL rfl)) TT)
  refine yt (v := (a0.fK == 2)) rfl TT (fun h3 => ?_) (fun h3 => ?_)
  ·have h := zf h3 h
   refine za (ze ?_)
   obtain ⟨v2, h4, h⟩ := bind_some h
   refine PFn.call (zl6 h4) (S2 rfl rfl TT) ?_
   refine AI (fun hp => hp) ?_
   refine AI (fun hp => hp) ?_
   refine AI (fun hc => (bqt hc)) ?_
   refine LWp.sim (e := [(2, .bool (v2 && (!(a0.fM == ([36, 47, 99, 97, 110, 99, 101, 108] : List UInt8)))))]) (L := []) (n := 0) ?_ ?_
   ·exact yp (M := []) rfl (AI (VS rfl) TT) TT
   refine wh ?_
   cases h
   exact AI TT (AI rfl (VS rfl))
  ·have h := zp h3 h
   refine za (ze ?_)
   refine yt (v := (a0.fK == 4)) rfl TT (fun h5 => ?_) (fun h5 => ?_)
   ·have h := zf h5 h
    refine za (ze ?_)
    obtain ⟨v3, h6, h⟩ := bind_some h
    refine PFn.call (zl6 h6) (S2 rfl rfl TT) ?_
    refine wh ?_
    cases h
    exact AI TT (AI rfl (VS rfl))
   ·have h := zp h5 h
    refine xq ?_
    refine za (ze ?_)
    refine wh ?_
    cases h
    exact AI TT (AI rfl (VS rfl))
theorem zya {a0 : GM} {m : Option Nat} {o : Bool} (h : xt m a0 = some o) : PFn Tryd.prog 50 [.agg [i6 a0.fK, i6 a0.fI, i6 a0.fC, .str a0.fM, i6 a0.fB.fK, i6 a0.fB.fN, .str a0.fB.fT, .isl 1 (a0.fB.fA.map z7) false, .isl 5 (a0.fB.fE.map z8) false]] (.bool o) := PFn.ofFnW (L := zy4) ztn zvo (NB rfl) rfl (zhv h)
def zs7 : LCode := (.cond (.t 39)
 (.seq (.region [Qb 2])
 .ret)
 (.seq (.region [Qm 59 5,
  Qo 60 (.un .not (.t 59)),
  Qm 61 60,
  Qe 62 4 1 (61, true),
  Qg 63 (.load true 5 (.t 62)) (61, true),
  Qg 64 (.call 34 [(.t 63)]) (61, true),
  Qg 65 (.un .not (.t 64)) (61, true),
  Qp 66 61 65,
  Qm 58 66])
 (.cond (.t 58)
  (.seq (.region [Qb 2])
  .ret)
  .skip)))
def zr9 : LCode := (.cond (.t 20)
 (.seq (.region [Qb 2])
 .ret)
 (.seq (.seq (.region [Qm 40 4,
  Qm 41 40,
  Qe 42 2 1 (41, true),
  Qk 43 1 42 (41, true),
  Qg 44 (.bin .lss (.t 43) (.c (i6 1))) (41, true),
  Qn 45 44 (41, true),
  Qe 46 2 1 (45, false),
  Qk 47 1 46 (45, false),
  Qg 48 (.bin .gtr (.t 47) (.c (i6 99))) (45, false),
  Qg 49 (.pick (.t 45) (.c (.bool true)) (.t 48)) (41, true),
  Qp 50 41 49,
  Qm 39 50])
 (.cond (.t 39)
  .skip
  (.region [Qm 51 4,
   Qo 52 (.un .not (.t 51)),
   Qm 53 52,
   Qe 54 2 1 (53, true),
   Qk 55 1 54 (53, true),
   Qg 56 (.bin .neq (.t 55) (.c (i6 0))) (53, true),
   Qp 57 53 56,
   Qm 39 57])))
 zs7))
def zna : LCode := (.seq (.region [Qt 67 9 1,
 Qc 68 50 67,
 Qm 2 68])
 .ret)
def zrv : LCode := (.seq (.region [Qo 1 (.box (.t 0)),
 Qb 2])
 (.seq (.region [Qf 6 0 1,
  Ql 7 1 6,
  Qo 8 (.bin .neq (.t 7) (.c (i6 2))),
  Qm 3 8])
 (.seq (.region [Qf 9 0 1,
  Ql 10 1 9,
  Qo 11 (.bin .eql (.t 10) (.c (i6 4))),
  Qm 4 11])
 (.seq (.region [Qf 12 0 1,
  Ql 13 1 12,
  Qo 14 (.bin .neq (.t 13) (.c (i6 4))),
  Qm 15 14,
  Qe 16 0 1 (15, true),
  Qk 17 1 16 (15, true),
  Qg 18 (.bin .neq (.t 17) (.c (i6 5))) (15, true),
  Qp 19 15 18,
  Qm 5 19])
 (.seq (.block 0
  (.seq (.seq (.region [Qm 21 3,
   Qm 22 21,
   Qe 23 1 1 (22, true),
   Qk 24 1 23 (22, true),
   Qg 25 (.bin .lss (.t 24) (.c (i6 0))) (22, true),
   Qn 26 25 (22, true),
   Qe 27 1 1 (26, false),
   Qk 28 1 27 (26, false),
   Qg 29 (.bin .gtr (.t 28) (.c (i6 2147483647))) (26, false),
   Qg 30 (.pick (.t 26) (.c (.bool true)) (.t 29)) (22, true),
   Qp 31 22 30,
   Qm 20 31])
  (.cond (.t 20)
   .skip
   (.region [Qm 32 3,
    Qo 33 (.un .not (.t 32)),
    Qm 34 33,
    Qe 35 1 1 (34, true),
    Qk 36 1 35 (34, true),
    Qg 37 (.bin .neq (.t 36) (.c (i6 0))) (34, true),
    Qp 38 34 37,
    Qm 20 38])))
  zr9))
 zna)))))
def Kl : Lay := ⟨69, [], false⟩
def zgn : List LRes := [.t 2]
def zx7 : LFn := ⟨1, Kl, zrv, zgn⟩
theorem zsx : w9 Tryd.prog [] 27 = some zx7 := by kernel_rfl
theorem zvw : uk Tryd.prog 27 := ⟨_, Tryd.func27, rfl, rfl⟩
noncomputable def xy (m : Option Nat) (a0 : GM) (v2 : Bool) : Option Bool :=
 if v2 = true then
  some false
 else
  (if ((!((a0.fK != 4) && (a0.fK != 5))) == true) = true then jk m (GJ.mk a0.fB.fK a0.fB.fN a0.fB.fT a0.fB.fA a0.fB.fE) else some default).bind fun v3 =>
  if ((!((a0.fK != 4) && (a0.fK != 5))) && (!v3)) = true then
   some false
  else
   (xt m (GM.mk a0.fK a0.fI a0.fC a0.fM (GJ.mk a0.fB.fK a0.fB.fN a0.fB.fT a0.fB.fA a0.fB.fE))).bind fun v4 =>
   some v4
def zu4 (a0 : GM) (o : Bool) : Exit → Env → AHeap → Nat → Prop := Zq zgn (x8 (.bool o))
theorem z6z {a0 : GM} {v2 : Bool} {m : Option Nat} {o : Bool} (h : xy m a0 v2 = some o) :
 LWp Tryd.prog Kl 0 zs7 (xn 0 (X5 Tryd.prog Kl 0 zna (zu4 a0 o))) [(1, .ptr (0, 0) 0 0), (5, .bool ((a0.fK != 4) && (a0.fK != 5))), (39, .bool v2)] [((0, 0), .one [i6 a0.fK, i6 a0.fI, i6 a0.fC, .str a0.fM, i6 a0.fB.fK, i6 a0.fB.fN, .str a0.fB.fT, .isl 1 (a0.fB.fA.map z7) false, .isl 5 (a0.fB.fE.map z8) false])] 1 := by
 unfold xy at h
 refine yt (v := v2) rfl TT (fun h4 => ?_) (fun h4 => ?_)
 ·have h := zf h4 h
  refine za (ze ?_)
  refine wh ?_
  cases h
  exact AI TT (AI rfl (VS rfl))
 ·have h := zp h4 h
  refine za (ze ?_)
  refine AI (fun hp => hp) ?_
  obtain ⟨v3, h5, h⟩ := bind_some h
  refine Or.inl (EX (.bool v3) (AI (fun hp => AI hp (PFn.call (zrb (zf hp h5)) (AI (VS rfl) TT) (AI rfl (AI rfl rfl)))) ?_))
  refine AI (fun hp => hp) ?_
  refine AI (fun hc => (bqt hc)) ?_
  refine LWp.sim (e := [(1, .ptr (0, 0) 0 0), (58, .bool ((!((a0.fK != 4) && (a0.fK != 5))) && (!v3)))]) (L := [((0, 0), .one [i6 a0.fK, i6 a0.fI, i6 a0.fC, .str a0.fM, i6 a0.fB.fK, i6 a0.fB.fN, .str a0.fB.fT, .isl 1 (a0.fB.fA.map z7) false, .isl 5 (a0.fB.fE.map z8) false])]) (n := 1) ?_ ?_
  ·exact yp (M := [((0, 0), (0, 0))]) rfl (SP rfl (AI (VS rfl) TT)) (AI (AI rfl (OL rfl)) TT)
  refine yt (v := ((!((a0.fK != 4) && (a0.fK != 5))) && (!v3))) rfl TT (fun h6 => ?_) (fun h6 => ?_)
  ·have h := zf h6 h
   refine za (ze ?_)
   refine wh ?_
   cases h
   exact AI TT (AI rfl (VS rfl))
  ·have h := zp h6 h
   refine xq ?_
   refine za (ze ?_)
   obtain ⟨v4, h7, h⟩ := bind_some h
   refine PFn.call (zya h7) (AI (VS rfl) TT) ?_
   refine wh ?_
   cases h
   exact AI TT (AI rfl (VS rfl))
noncomputable def j5 (m : Option Nat) (a0 : GM) (v1 : Bool) : Option Bool :=
 if v1 = true then
  some false
 else
  if ((a0.fK == 4) && ((decide (a0.fC < 1)) || (decide (a0.fC > 99)))) = true then
   xy m a0 ((a0.fK == 4) && ((decide (a0.fC < 1)) || (decide (a0.fC > 99))))
  else
   xy m a0 ((!(a0.fK == 4)) && (a0.fC != 0))
theorem z7g {a0 : GM} {v1 : Bool} {m : Option Nat} {o : Bool} (h : j5 m a0 v1 = some o) :
 LWp Tryd.prog Kl 0 zr9 (xn 0 (X5 Tryd.prog Kl 0 zna (zu4 a0 o))) [(1, .ptr (0, 0) 0 0), (4, .bool (a0.fK == 4)), (5, .bool ((a0.fK != 4) && (a0.fK != 5))), (20, .bool v1)] [((0, 0), .one [i6 a0.fK, i6 a0.fI, i6 a0.fC, .str a0.fM, i6 a0.fB.fK, i6 a0.fB.fN, .str a0.fB.fT, .isl 1 (a0.fB.fA.map z7) false, .isl 5 (a0.fB.fE.map z8) false])] 1 := by
 unfold j5 at h
 refine yt (v := v1) rfl TT (fun h2 => ?_) (fun h2 => ?_)
 ·have h := zf h2 h
  refine za (ze ?_)
  refine wh ?_
  cases h
  exact AI TT (AI rfl (VS rfl))
 ·have h := zp h2 h
  refine za ?_
  refine za (ze ?_)
  refine AI (fun hp => hp) ?_
  refine AI (fun hp => hp) ?_
  refine AI (fun hp => hp) ?_
  refine AI (fun hp => hp) ?_
  refine AI (fun hp => hp) ?_
  refine AI (fun hp => (AI hp (fun hc => (z2a hp (bqf hc))))) ?_
  refine AI (fun hc => (bqt hc)) ?_
  refine LWp.sim (e := [(1, .ptr (0, 0) 0 0), (4, .bool (a0.fK == 4)), (5, .bool ((a0.fK != 4) && (a0.fK != 5))), (39, .bool ((a0.fK == 4) && ((decide (a0.fC < 1)) || (decide (a0.fC > 99)))))]) (L := [((0, 0), .one [i6 a0.fK, i6 a0.fI, i6 a0.fC, .str a0.fM, i6 a0.fB.fK, i6 a0.fB.fN, .str a0.fB.fT, .isl 1 (a0.fB.fA.map z7) false, .isl 5 (a0.fB.fE.map z8) false])]) (n := 1) ?_ ?_
  ·exact yp (M := [((0, 0), (0, 0))]) rfl (SP rfl (S2 rfl rfl (AI (VS rfl) TT))) (AI (AI rfl (OL rfl)) TT)
  refine yt (v := ((a0.fK == 4) && ((decide (a0.fC < 1)) || (decide (a0.fC > 99))))) rfl TT (fun h3 => ?_) (fun h3 => ?_)
  ·have h := zf h3 h
   refine xq ?_
   refine LWp.sim ?_ (z6z h)
   exact yp (M := [((0, 0), (0, 0))]) rfl (SP rfl (S2 rfl rfl TT)) (AI (AI rfl (OL rfl)) TT)
  ·have h := zp h3 h
   refine ze ?_
   refine AI (fun hp => hp) ?_
   refine AI (fun hp => hp) ?_
   refine AI (fun hc => (bqt hc)) ?_
   refine LWp.sim ?_ (z6z h)
   exact yp (M := [((0, 0), (0, 0))]) rfl (SP rfl (S2 rfl rfl TT)) (AI (AI rfl (OL rfl)) TT)
noncomputable def jd (m : Option Nat) (a0 : GM) : Option Bool :=
 if ((a0.fK != 2) && ((decide (a0.fI < 0)) || (decide (a0.fI > 2147483647)))) = true then
  j5 m a0 ((a0.fK != 2) && ((decide (a0.fI < 0)) || (decide (a0.fI > 2147483647))))
 else
  j5 m a0 ((!(a0.fK != 2)) && (a0.fI != 0))
theorem zjv {a0 : GM} {m : Option Nat} {o : Bool} (h : jd m a0 = some o) : LWp Tryd.prog Kl 0 zrv (zu4 a0 o) (y5 0 [.agg [i6 a0.fK, i6 a0.fI, i6 a0.fC, .str a0.fM, i6 a0.fB.fK, i6 a0.fB.fN, .str a0.fB.fT, .isl 1 (a0.fB.fA.map z7) false, .isl 5 (a0.fB.fE.map z8) false]]) [] 0 := by
 unfold jd at h
 refine za (ze ?_)
 refine za (ze ?_)
 refine za (ze ?_)
 refine LWp.sim (e := [(1, .ptr (0, 0) 0 0), (3, .bool (a0.fK != 2)), (4, .bool (a0.fK == 4))]) (L := [((0, 0), .one [i6 a0.fK, i6 a0.fI, i6 a0.fC, .str a0.fM, i6 a0.fB.fK, i6 a0.fB.fN, .str a0.fB.fT, .isl 1 (a0.fB.fA.map z7) false, .isl 5 (a0.fB.fE.map z8) false])]) (n := 1) ?_ ?_
 ·exact yp (M := [((0, 0), (0, 0))]) rfl (SP rfl (S2 rfl rfl TT)) (AI (AI rfl (OL rfl)) TT)
 refine za (ze ?_)
 refine AI (fun hp => hp) ?_
 refine AI (fun hp => hp) ?_
 refine AI (fun hc => (bqt hc)) ?_
 refine LWp.sim (e := [(1, .ptr (0, 0) 0 0), (3, .bool (a0.fK != 2)), (4, .bool (a0.fK == 4)), (5, .bool ((a0.fK != 4) && (a0.fK != 5)))]) (L := [((0, 0), .one [i6 a0.fK, i6 a0.fI, i6 a0.fC, .str a0.fM, i6 a0.fB.fK, i6 a0.fB.fN, .str a0.fB.fT, .isl 1 (a0.fB.fA.map z7) false, .isl 5 (a0.fB.fE.map z8) false])]) (n := 1) ?_ ?_
 ·exact yp (M := [((0, 0), (0, 0))]) rfl (SP rfl (S2 rfl rfl (AI (VS rfl) TT))) (AI (AI rfl (OL rfl)) TT)
 refine za ?_
 refine xw ?_
 refine za ?_
 refine za (ze ?_)
 refine AI (fun hp => hp) ?_
 refine AI (fun hp => hp) ?_
 refine AI (fun hp => hp) ?_
 refine AI (fun hp => hp) ?_
 refine AI (fun hp => hp) ?_
 refine AI (fun hp => (AI hp (fun hc => (z2a hp (bqf hc))))) ?_
 refine AI (fun hc => (bqt hc)) ?_
 refine LWp.sim (e := [(1, .ptr (0, 0) 0 0), (3, .bool (a0.fK != 2)), (4, .bool (a0.fK == 4)), (5, .bool ((a0.fK != 4) && (a0.fK != 5))), (20, .bool ((a0.fK != 2) && ((decide (a0.fI < 0)) || (decide (a0.fI > 2147483647)))))]) (L := [((0, 0), .one [i6 a0.fK, i6 a0.fI, i6 a0.fC, .str a0.fM, i6 a0.fB.fK, i6 a0.fB.fN, .str a0.fB.fT, .isl 1 (a0.fB.fA.map z7) false, .isl 5 (a0.fB.fE.map z8) false])]) (n := 1) ?_ ?_
 ·exact yp (M := [((0, 0), (0, 0))]) rfl (SP rfl (S4 rfl rfl rfl rfl TT)) (AI (AI rfl (OL rfl)) TT)
 refine yt (v := ((a0.fK != 2) && ((decide (a0.fI < 0)) || (decide (a0.fI > 2147483647))))) rfl TT (fun h1 => ?_) (fun h1 => ?_)
 ·have h := zf h1 h
  refine xq ?_
  refine LWp.sim ?_ (z7g h)
  exact yp (M := [((0, 0), (0, 0))]) rfl (SP rfl (S2 rfl rfl (AI (VS rfl) TT))) (AI (AI rfl (OL rfl)) TT)
 ·have h := zp h1 h
  refine ze ?_
  refine AI (fun hp => hp) ?_
  refine AI (fun hp => hp) ?_
  refine AI (fun hc => (bqt hc)) ?_
  refine LWp.sim ?_ (z7g h)
  exact yp (M := [((0, 0), (0, 0))]) rfl (SP rfl (S2 rfl rfl (AI (VS rfl) TT))) (AI (AI rfl (OL rfl)) TT)
theorem zzl {a0 : GM} {m : Option Nat} {o : Bool} (h : jd m a0 = some o) : PFn Tryd.prog 27 [.agg [i6 a0.fK, i6 a0.fI, i6 a0.fC, .str a0.fM, i6 a0.fB.fK, i6 a0.fB.fN, .str a0.fB.fT, .isl 1 (a0.fB.fA.map z7) false, .isl 5 (a0.fB.fE.map z8) false]] (.bool o) := PFn.ofFnW (L := zx7) zsx zvw (NB rfl) rfl (zjv h)
def z5t : LCode := (.seq (.region [Qo 26 (.bin .lss (.t 25) (.t 24))])
 (.seq (.cond (.t 26)
  .skip
  (.exit 0))
 (.seq (.block 1
  (.seq (.region [Qo 27 (.iaddr 5 (.t 23) (.t 25)),
   Qt 28 5 27,
   Qo 8 (.alloc [(i6 0), (i6 0), (.str []), (.isl 1 [] true), (.isl 5 [] true)]),
   ⟨none, .store 5 (.t 8) (.t 28), none⟩])
  (.seq (.region [Qt 29 5 8,
   Qm 30 1,
   Qo 31 (.bin .add (.t 30) (.c (i6 1))),
   Qm 32 2,
   Qo 33 (.call 51 [(.t 29), (.t 31), (.t 32)]),
   Qo 34 (.un .not (.t 33))])
  (.cond (.t 34)
   (.seq (.region [Qb 6])
   .ret)
   .skip))))
 (.region [Qo 35 (.bin .add (.t 25) (.c (i6 1))),
  Qm 25 35]))))
def Uw : LCode := (.seq (.region [Qo 6 (.mv (.c (.bool true)))])
 .ret)
def ze4 : LCode := (.seq (.region [Qo 3 (.box (.t 0)),
 Qb 6])
 (.seq (.region [Qm 9 2,
  Qo 10 (.nilck (.t 9)),
  Ql 11 1 10,
  Qo 12 (.bin .add (.t 11) (.c (i6 1))),
  Qo 13 (.nilck (.t 9)),
  ⟨none, .store 1 (.t 13) (.t 12), none⟩])
 (.seq (.seq (.region [Qm 14 2,
  Qo 15 (.nilck (.t 14)),
  Ql 16 1 15,
  Qo 17 (.bin .gtr (.t 16) (.c (i6 400))),
  Qm 18 17,
  Qn 19 1 (18, false),
  Qg 20 (.bin .gtr (.t 19) (.c (i6 20))) (18, false),
  Qo 21 (.pick (.t 18) (.c (.bool true)) (.t 20))])
 (.cond (.t 21)
  (.seq (.region [Qb 6])
  .ret)
  .skip))
 (.seq (.seq (.region [Qf 22 4 3,
  Ql 23 1 22,
  Qo 24 (.len false (.t 23)),
  Qi 25 0])
 (.block 0
  (.loop
   z5t)))
 Uw))))
def Ye : Lay := ⟨36, [], false⟩
def z8x : List LRes := [.t 6]
def zku : LFn := ⟨3, Ye, ze4, z8x⟩
theorem zkd : w9 Tryd.prog [] 51 = some zku := by kernel_rfl
theorem zj4 : uk Tryd.prog 51 := ⟨_, Tryd.func51, rfl, rfl⟩
def z4r (a0 : GJ) (a1 : Int) (a2 : Int) (o : Bool × Int) : Exit → Env → AHeap → Nat → Prop := Zq z8x (Wg 3 3 (.bool o.1) [((0, 0), .one [i6 o.2])])
def U7 (a0 : GJ) (a1 : Int) (s : (Int × Int)) : Env := [(1, i6 a1), (2, .ptr (0, 0) 0 0), (23, .isl 5 (a0.fE.map z8) false), (24, i6 ((a0.fE.map z8).length : Int)), (25, i6 s.2)]
def z1t (a0 : GJ) (a1 : Int) (s : (Int × Int)) : AHeap := [((0, 0), .one [i6 s.1])]
def z2x (a0 : GJ) (a1 : Int) (a2 : Int) (o : (Bool × Int)) : Exit → Env → AHeap → Nat → Prop := (xn 0 (X5 Tryd.prog Ye 3 Uw (z4r a0 a1 a2 o)))
noncomputable def wj (rec1 : GJ → Int → Int → Option (Bool × Int)) (m : Option Nat) (v3 : Int) : Option (Bool × Int) :=
 some (true, v3)
noncomputable def yj (rec1 : GJ → Int → Int → Option (Bool × Int)) (m : Option Nat) (a0 : GJ) (a1 : Int) (v3 : Int) (v4 : Int) : Option ((Int × Int) ⊕ (Bool × Int)) :=
 if (decide (v4 < ((a0.fE.map z8).length : Int))) = true then
  if (0 : Int) ≤ v4 ∧ v4 < ((a0.fE.map z8).length : Int) then
  ((kq (a0.fE.getD v4.toNat default))).bind fun v7 =>
  (rec1 v7 (W (a1 + 1)) v3).bind fun v8 =>
  if (!v8.1) = true then
   Option.map Sum.inr (
    some (false, v8.2))
  else
   some (.inl (v8.2, (W (v4 + 1))))
  else none
 else
  Option.map Sum.inr (
   wj rec1 m v3)
noncomputable def qg (rec1 : GJ → Int → Int → Option (Bool × Int)) (m : Option Nat) (a0 : GJ) (a1 : Int) (v3 : Int) (v4 : Int) : Option (Bool × Int) := Zu m (fun (s : (Int × Int)) => yj rec1 m a0 a1 s.1 s.2) (v3, v4)
abbrev Hr1 (rec1 : GJ → Int → Int → Option (Bool × Int)) : Prop := ∀ {a0 : GJ} {a1 : Int} {a2 : Int} {o : Bool × Int}, rec1 a0 a1 a2 = some o → ACalls Tryd.prog 51 [.agg (z6 a0), i6 a1, .ptr (0, 0) 0 0] [((0, 0), .one [i6 a2])] 3 (ki 3 (.bool o.1) [((0, 0), .one [i6 o.2])])
theorem zbb {rec1 : GJ → Int → Int → Option (Bool × Int)} (hrec1 : Hr1 rec1) {a0 : GJ} {a1 : Int} {a2 : Int} {v3 : Int} {m : Option Nat} {o : (Bool × Int)} (h : wj rec1 m v3 = some o) :
 LWp Tryd.prog Ye 3 Uw (z4r a0 a1 a2 o) [] [((0, 0), .one [i6 v3])] 3 := by
 unfold wj at h
 refine za (ze ?_)
 refine wh ?_
 cases h
 exact AI TT (z49 (n' := 3) [] [] rfl rfl (VS rfl) (AI (AI rfl (OL rfl)) TT))
theorem z85 {rec1 : GJ → Int → Int → Option (Bool × Int)} (hrec1 : Hr1 rec1) {a2 : Int} {a0 : GJ} {a1 : Int} {v3 : Int} {v4 : Int} {m : Option Nat} {o : (Int × Int) ⊕ (Bool × Int)} (h : yj rec1 m a0 a1 v3 v4 = some o) :
 LWp Tryd.prog Ye 3 z5t (Zf 3 3 (U7 a0 a1) (z1t a0 a1) (z2x a0 a1 a2) o) [(1, i6 a1), (2, .ptr (0, 0) 0 0), (23, .isl 5 (a0.fE.map z8) false), (24, i6 ((a0.fE.map z8).length : Int)), (25, i6 v4)] [((0, 0), .one [i6 v3])] 3 := by
 unfold yj at h
 refine za (ze ?_)
 refine za ?_
 refine yt (v := (decide (v4 < ((a0.fE.map z8).length : Int)))) rfl TT (fun h12 => ?_) (fun h12 => ?_)
 ·have h := zf h12 h
  refine xq ?_
  refine za ?_
  refine xw ?_
  refine za (ze ?_)
  obtain ⟨h13, h⟩ := qj h
  refine AI h13 ?_
  obtain ⟨v7, h14, h⟩ := bind_some h
  refine EX (z6 v7) (AI (j1 (wy z8 h13) h14) (AI (AI (vw h13) (NB rfl)) ?_))
  refine za (ze ?_)
  obtain ⟨v8, h15, h⟩ := bind_some h
  refine Xw (k := 3) (m := 0) (L' := [((0, 0), .one [i6 v8.2])]) (rest := [((3, 0), .one (z6 v7))]) (R' := .bool v8.1) [((0, 0), (0, 0))] (hrec1 h15) rfl rfl rfl (S2 rfl rfl (SP rfl TT)) (AI (h0I (0, 0) rfl rfl (OL rfl)) TT) (vj _ rfl) (AI rfl (AI rfl TT)) rfl ?_
  refine LWp.sim (e := [(1, i6 a1), (2, .ptr (0, 0) 0 0), (23, .isl 5 (a0.fE.map z8) false), (24, i6 ((a0.fE.map z8).length : Int)), (25, i6 v4), (34, .bool (!v8.1))]) (L := [((0, 0), .one [i6 v8.2])]) (n := 3) ?_ ?_
  ·exact yp (M := []) rfl (AI (VS rfl) (SP rfl (S4 rfl rfl rfl rfl TT))) (AI (AI rfl (OL rfl)) TT)
  refine yt (v := (!v8.1)) rfl TT (fun h16 => ?_) (fun h16 => ?_)
  ·have h := zf h16 h
   refine za (ze ?_)
   refine wh ?_
   obtain ⟨o, hq, rfl⟩ := Option.map_eq_some_iff.1 h
   replace h := hq; clear hq
   refine AI nofun ?_
   cases h
   exact AI TT (z49 (n' := 3) [] [] rfl rfl (VS rfl) (AI (AI rfl (OL rfl)) TT))
  ·have h := zp h16 h
   refine xq ?_
   refine ze ?_
   cases h
   exact AI rfl (yp (M := []) rfl (AI (VS rfl) (SP rfl (S2 rfl rfl (AI (VS rfl) TT)))) (AI (AI rfl (OL rfl)) TT))
 ·have h := zp h12 h
  refine Xm ?_
  obtain ⟨o, hq, rfl⟩ := Option.map_eq_some_iff.1 h
  replace h := hq; clear hq
  refine AI nofun ?_
  refine LWp.sim ?_ (zbb hrec1 h)
  exact yp (M := []) rfl TT (AI (AI rfl (OL rfl)) TT)
theorem zab {rec1 : GJ → Int → Int → Option (Bool × Int)} (hrec1 : Hr1 rec1) {a2 : Int} {a0 : GJ} {a1 : Int} {v3 : Int} {v4 : Int} {m : Option Nat} {o : (Bool × Int)} (h : qg rec1 m a0 a1 v3 v4 = some o) :
 LWp Tryd.prog Ye 3 (.loop z5t) (xn 0 (X5 Tryd.prog Ye 3 Uw (z4r a0 a1 a2 o))) [(1, i6 a1), (2, .ptr (0, 0) 0 0), (23, .isl 5 (a0.fE.map z8) false), (24, i6 ((a0.fE.map z8).length : Int)), (25, i6 v4)] [((0, 0), .one [i6 v3])] 3 :=
 w8 (m := m) (s := ((v3, v4) : (Int × Int))) (r := o) (fun (s : (Int × Int)) => yj rec1 m a0 a1 s.1 s.2) (U7 a0 a1) (z1t a0 a1) (z2x a0 a1 a2) (fun s o h => z85 hrec1 h) h
noncomputable def xu (rec1 : GJ → Int → Int → Option (Bool × Int)) (m : Option Nat) (a0 : GJ) (a1 : Int) (a2 : Int) : Option (Bool × Int) :=
 if ((decide ((W (a2 + 1)) > 400)) || (decide (a1 > 20))) = true then
  some (false, (W (a2 + 1)))
 else
  qg rec1 m a0 a1 (W (a2 + 1)) 0
theorem z9d {rec1 : GJ → Int → Int → Option (Bool × Int)} (hrec1 : Hr1 rec1) {a0 : GJ} {a1 : Int} {a2 : Int} {m : Option Nat} {o : Bool × Int} (h : xu rec1 m a0 a1 a2 = some o) : LWp Tryd.prog Ye 3 ze4 (z4r a0 a1 a2 o) (y5 0 [.agg (z6 a0), i6 a1, .ptr (0, 0) 0 0]) [((0, 0), .one [i6 a2])] 3 := by
 unfold xu at h
 refine za (ze ?_)
 refine za (ze ?_)
 refine LWp.sim (e := [(1, i6 a1), (2, .ptr (0, 0) 0 0), (3, .ptr (3, 0) 0 0)]) (L := [((0, 0), .one [i6 (W (a2 + 1))]), ((3, 0), .one (z6 a0))]) (n := 4) ?_ ?_
 ·exact yp (M := [((3, 0), (3, 0))]) rfl (AI (VS rfl) (SP rfl (SP rfl TT))) (AI (AI rfl (OL rfl)) (AI (AI rfl (OL rfl)) TT))
 refine za ?_
 refine za (ze ?_)
 refine AI (fun hp => hp) ?_
 refine AI (fun hc => (bqf hc)) ?_
 refine LWp.sim (e := [(1, i6 a1), (2, .ptr (0, 0) 0 0), (3, .ptr (3, 0) 0 0), (21, .bool ((decide ((W (a2 + 1)) > 400)) || (decide (a1 > 20))))]) (L := [((0, 0), .one [i6 (W (a2 + 1))]), ((3, 0), .one (z6 a0))]) (n := 4) ?_ ?_
 ·exact yp (M := [((3, 0), (3, 0))]) rfl (AI (VS rfl) (SP rfl (SP rfl (AI (VS rfl) TT)))) (AI (AI rfl (OL rfl)) (AI (AI rfl (OL rfl)) TT))
 refine yt (v := ((decide ((W (a2 + 1)) > 400)) || (decide (a1 > 20)))) rfl TT (fun h1 => ?_) (fun h1 => ?_)
 ·have h := zf h1 h
  refine za (ze ?_)
  refine wh ?_
  cases h
  exact AI TT (z49 (n' := 4) [] [] rfl rfl (VS rfl) (AI (AI rfl (OL rfl)) TT))
 ·have h := zp h1 h
  refine xq ?_
  refine za ?_
  refine za (ze ?_)
  refine xw ?_
  refine LWp.sim ?_ (zab hrec1 h)
  exact yp (M := []) rfl (AI (VS rfl) (SP rfl (S2 rfl rfl (AI (VS rfl) TT)))) (AI (AI rfl (OL rfl)) TT)
theorem zpg {rec1 : GJ → Int → Int → Option (Bool × Int)} (hrec1 : Hr1 rec1) {a0 : GJ} {a1 : Int} {a2 : Int} {m : Option Nat} {o : Bool × Int} (h : xu rec1 m a0 a1 a2 = some o) : ACalls Tryd.prog 51 [.agg (z6 a0), i6 a1, .ptr (0, 0) 0 0] [((0, 0), .one [i6 a2])] 3 (ki 3 (.bool o.1) [((0, 0), .one [i6 o.2])]) := Xx (L := zku) zkd zj4 (NB rfl) (z9d hrec1 h)
noncomputable def yl (m : Option Nat) : Nat → GJ → Int → Int → Option (Bool × Int)
 | 0 => fun _ _ _ => none
 | k + 1 => xu (yl m k) m
noncomputable def wo (m : Option Nat) (a0 : GJ) (a1 : Int) (a2 : Int) : Option (Bool × Int) := zeo m (fun k => yl m k a0 a1 a2)
theorem z7l {m : Option Nat} : ∀ (k : Nat) {a0 : GJ} {a1 : Int} {a2 : Int} {o : Bool × Int}, yl m k a0 a1 a2 = some o → ACalls Tryd.prog 51 [.agg (z6 a0), i6 a1, .ptr (0, 0) 0 0] [((0, 0), .one [i6 a2])] 3 (ki 3 (.bool o.1) [((0, 0), .one [i6 o.2])])
 | 0, _, _, _, _, h => nomatch h
 | k + 1, _, _, _, _, h => zpg (fun h => z7l k h) h
theorem zh3 {a0 : GJ} {a1 : Int} {a2 : Int} {m : Option Nat} {o : Bool × Int} (h : wo m a0 a1 a2 = some o) : ACalls Tryd.prog 51 [.agg (z6 a0), i6 a1, .ptr (0, 0) 0 0] [((0, 0), .one [i6 a2])] 3 (ki 3 (.bool o.1) [((0, 0), .one [i6 o.2])]) := (Zs h).elim fun k h => z7l k h
def zkh : LCode := (.seq (.region [Qo 10 (.bin .lss (.t 9) (.t 8))])
 (.seq (.cond (.t 10)
  .skip
  (.exit 0))
 (.seq (.block 1
  (.seq (.region [Qo 11 (.iaddr 1 (.t 7) (.t 9)),
   Ql 12 1 11,
   Qm 5 12])
  (.seq (.seq (.region [Qm 13 3,
   Qm 14 5,
   Qo 15 (.mlook [.str] false false false [(i6 0)] (.t 13) (.t 14)),
   Qo 16 (.bin .neq (.t 15) (.c (i6 0)))])
  (.cond (.t 16)
   (.seq (.region [Qo 2 (.mv (.c (.bool true)))])
   .ret)
   .skip))
  (.region [Qm 17 3,
   Qm 18 5,
   ⟨none, .mset [.str] false false [(i6 0)] (.t 17) (.t 18) (.c (i6 1)), none⟩]))))
 (.region [Qo 19 (.bin .add (.t 9) (.c (i6 1))),
  Qm 9 19]))))
def zbz : LCode := (.seq (.region [Qb 2])
 .ret)
def zrj : LCode := (.seq (.region [Qb 2])
 (.seq (.region [Qo 6 (.mkmap none),
  Qm 3 6])
 (.seq (.seq (.region [Qm 7 0,
  Qo 8 (.len false (.t 7)),
  Qi 9 0])
 (.block 0
  (.loop
   zkh)))
 zbz)))
def Wo : Lay := ⟨20, [], false⟩
def zln : List LRes := [.t 2]
def zz6 : LFn := ⟨1, Wo, zrj, zln⟩
theorem zte : w9 Tryd.prog [] 87 = some zz6 := by kernel_rfl
theorem zw2 : uk Tryd.prog 87 := ⟨_, Tryd.func87, rfl, rfl⟩
def zpd (a0 : List (List UInt8)) (o : Bool) : Exit → Env → AHeap → Nat → Prop := Zq zln (x8 (.bool o))
def z2t (a0 : List (List UInt8)) (s : (Int × (List ((List UInt8) × Int)))) : Env := [(3, .map (0, 0)), (7, .isl 1 (a0.map z7) false), (8, i6 ((a0.map z7).length : Int)), (9, i6 s.1)]
def z68 (a0 : List (List UInt8)) (s : (Int × (List ((List UInt8) × Int)))) : AHeap := [((0, 0), .amap (s.2.map (em Vj Uq)))]
def zcm (a0 : List (List UInt8)) (o : Bool) : Exit → Env → AHeap → Nat → Prop := (xn 0 (X5 Tryd.prog Wo 0 zbz (zpd a0 o)))
noncomputable def vn (m : Option Nat) : Option Bool :=
 some false
noncomputable def qk (m : Option Nat) (a0 : List (List UInt8)) (v1 : Int) (v2 : List ((List UInt8) × Int)) : Option ((Int × (List ((List UInt8) × Int))) ⊕ Bool) :=
 if (decide (v1 < ((a0.map z7).length : Int))) = true then
  if (0 : Int) ≤ v1 ∧ v1 < ((a0.map z7).length : Int) then
  if (((lk J7 v2 (a0.getD v1.toNat default)).getD 0) != 0) = true then
   Option.map Sum.inr (
    some true)
  else
   some (.inl ((W (v1 + 1)), (mp J7 v2 (a0.getD v1.toNat default) 1)))
  else none
 else
  Option.map Sum.inr (
   vn m)
noncomputable def ja (m : Option Nat) (a0 : List (List UInt8)) (v1 : Int) (v2 : List ((List UInt8) × Int)) : Option Bool := Zu m (fun (s : (Int × (List ((List UInt8) × Int)))) => qk m a0 s.1 s.2) (v1, v2)
theorem zkz {a0 : List (List UInt8)} {m : Option Nat} {o : Bool} (h : vn m = some o) :
 LWp Tryd.prog Wo 0 zbz (zpd a0 o) [] [] 0 := by
 unfold vn at h
 refine za (ze ?_)
 refine wh ?_
 cases h
 exact AI TT (AI rfl (VS rfl))
theorem zea {a0 : List (List UInt8)} {v1 : Int} {v2 : List ((List UInt8) × Int)} {m : Option Nat} {o : (Int × (List ((List UInt8) × Int))) ⊕ Bool} (h : qk m a0 v1 v2 = some o) :
 LWp Tryd.prog Wo 0 zkh (Zf 0 1 (z2t a0) (z68 a0) (zcm a0) o) [(3, .map (0, 0)), (7, .isl 1 (a0.map z7) false), (8, i6 ((a0.map z7).length : Int)), (9, i6 v1)] [((0, 0), .amap (v2.map (em Vj Uq)))] 1 := by
 unfold qk at h
 refine za (ze ?_)
 refine za ?_
 refine yt (v := (decide (v1 < ((a0.map z7).length : Int)))) rfl TT (fun h7 => ?_) (fun h7 => ?_)
 ·have h := zf h7 h
  refine xq ?_
  refine za ?_
  refine xw ?_
  refine za (ze ?_)
  obtain ⟨h8, h⟩ := qj h
  refine AI h8 ?_
  refine EX (z7 (a0.getD v1.toNat default)) (AI (uj z7 _ _ (wy z7 h8)) (AI (AI (vw h8) (NB rfl)) ?_))
  refine za ?_
  refine za (ze ?_)
  refine EX (i6 ((lk J7 v2 (a0.getD v1.toNat default)).getD 0)) (AI (zzs (ek := Vj) (ev := Uq) (z := 0) z4d rfl (a0.getD v1.toNat default) v2) (AI (zf1 (ek := Vj) (ev := Uq) z4d _ _) ?_))
  refine LWp.sim (e := [(3, .map (0, 0)), (5, .str (a0.getD v1.toNat default)), (7, .isl 1 (a0.map z7) false), (8, i6 ((a0.map z7).length : Int)), (9, i6 v1), (16, .bool (((lk J7 v2 (a0.getD v1.toNat default)).getD 0) != 0))]) (L := [((0, 0), .amap (v2.map (em Vj Uq)))]) (n := 1) ?_ ?_
  ·exact yp (M := [((0, 0), (0, 0))]) rfl (AI (Vw.map _ _ rfl) (S4 rfl rfl rfl rfl (AI (VS rfl) TT))) (AI (AI rfl (BVw.ofMap Vj Uq z1z v2)) TT)
  refine yt (v := (((lk J7 v2 (a0.getD v1.toNat default)).getD 0) != 0)) rfl TT (fun h9 => ?_) (fun h9 => ?_)
  ·have h := zf h9 h
   refine za (ze ?_)
   refine wh ?_
   obtain ⟨o, hq, rfl⟩ := Option.map_eq_some_iff.1 h
   replace h := hq; clear hq
   refine AI nofun ?_
   cases h
   exact AI TT (AI rfl (VS rfl))
  ·have h := zp h9 h
   refine xq ?_
   refine ze ?_
   refine EX ((mp J7 v2 (a0.getD v1.toNat default) 1).map (em Vj Uq)) (AI (zd5 (ek := Vj) (ev := Uq) z4d (a0.getD v1.toNat default) 1 v2) ?_)
   refine ze ?_
   cases h
   exact AI rfl (yp (M := [((0, 0), (0, 0))]) rfl (AI (Vw.map _ _ rfl) (S2 rfl rfl (AI (VS rfl) TT))) (AI (AI rfl (BVw.ofMap Vj Uq z1z (mp J7 v2 (a0.getD v1.toNat default) 1))) TT))
 ·have h := zp h7 h
  refine Xm ?_
  obtain ⟨o, hq, rfl⟩ := Option.map_eq_some_iff.1 h
  replace h := hq; clear hq
  refine AI nofun ?_
  refine LWp.sim ?_ (zkz h)
  exact yp (M := []) rfl TT TT
theorem zi3 {a0 : List (List UInt8)} {v1 : Int} {v2 : List ((List UInt8) × Int)} {m : Option Nat} {o : Bool} (h : ja m a0 v1 v2 = some o) :
 LWp Tryd.prog Wo 0 (.loop zkh) (xn 0 (X5 Tryd.prog Wo 0 zbz (zpd a0 o))) [(3, .map (0, 0)), (7, .isl 1 (a0.map z7) false), (8, i6 ((a0.map z7).length : Int)), (9, i6 v1)] [((0, 0), .amap (v2.map (em Vj Uq)))] 1 :=
 w8 (m := m) (s := ((v1, v2) : (Int × (List ((List UInt8) × Int))))) (r := o) (fun (s : (Int × (List ((List UInt8) × Int)))) => qk m a0 s.1 s.2) (z2t a0) (z68 a0) (zcm a0) (fun s o h => zea h) h
noncomputable def jx (m : Option Nat) (a0 : List (List UInt8)) : Option Bool :=
 ja m a0 0 ([] : List ((List UInt8) × Int))
theorem zir {a0 : List (List UInt8)} {m : Option Nat} {o : Bool} (h : jx m a0 = some o) : LWp Tryd.prog Wo 0 zrj (zpd a0 o) (y5 0 [.isl 1 (a0.map z7) false]) [] 0 := by
 unfold jx at h
 refine za (ze ?_)
 refine za (ze ?_)
 refine za ?_
 refine za (ze ?_)
 refine xw ?_
 refine LWp.sim ?_ (zi3 h)
 exact yp (M := [((0, 0), (0, 0))]) rfl (AI (Vw.map _ _ rfl) (S2 rfl rfl (AI (VS rfl) TT))) (AI (AI rfl (BVw.ofMap Vj Uq z1z ([] : List ((List UInt8) × Int)))) TT)
theorem zxj {a0 : List (List UInt8)} {m : Option Nat} {o : Bool} (h : jx m a0 = some o) : PFn Tryd.prog 87 [.isl 1 (a0.map z7) false] (.bool o) := PFn.ofFnW (L := zz6) zte zw2 (NB rfl) rfl (zir h)
def zby : LCode := (.seq (.region [Qb 2])
 (.seq (.region [Qm 3 0,
  Qc 4 68 3,
  Qo 5 (.un .not (.t 4)),
  Qm 2 5])
 .ret))
def z7p : Lay := ⟨6, [], false⟩
def z6w : List LRes := [.t 2]
def zj6 : LFn := ⟨1, z7p, zby, z6w⟩
theorem zg0 : w9 Tryd.prog [] 89 = some zj6 := by kernel_rfl
theorem zj9 : uk Tryd.prog 89 := ⟨_, Tryd.func89, rfl, rfl⟩
noncomputable def yw (m : Option Nat) (a0 : List UInt8) : Option Bool :=
 (jv m a0).bind fun v1 =>
 some (!v1)
def zta (a0 : List UInt8) (o : Bool) : Exit → Env → AHeap → Nat → Prop := Zq z6w (Wg 3 4 (.bool o) [])
theorem za5 {a0 : List UInt8} {m : Option Nat} {o : Bool} (h : yw m a0 = some o) : LWp Tryd.prog z7p 3 zby (zta a0 o) (y5 0 [.str a0]) [] 3 := by
 unfold yw at h
 refine za (ze ?_)
 refine za (ze ?_)
 obtain ⟨v1, h1, h⟩ := bind_some h
 refine PFn.call (zgm h1) (AI (VS rfl) TT) ?_
 refine wh ?_
 cases h
 exact AI TT (z49 (n' := 3) [] [] rfl rfl (VS rfl) TT)
theorem zpj {a0 : List UInt8} {m : Option Nat} {o : Bool} (h : yw m a0 = some o) : ACalls Tryd.prog 89 [.str a0] [] 3 (ki 4 (.bool o) []) := Xx (L := zj6) zg0 zj9 (NB rfl) (za5 h)
def z5c : LCode := (.seq (.region [Qo 9 (.bin .lss (.t 8) (.t 7))])
 (.seq (.cond (.t 9)
  .skip
  (.exit 0))
 (.seq (.block 1
  (.seq (.region [Qm 10 8,
   Qm 5 10])
  (.seq (.region [Qm 11 1,
   Qm 12 0,
   Qm 13 5,
   Qo 14 (.iaddr 1 (.t 12) (.t 13)),
   Ql 15 1 14,
   Qo 16 (.callv (.t 11) [(.t 15)])])
  (.cond (.t 16)
   (.seq (.region [Qm 17 5,
    Qm 4 17])
   .ret)
   .skip))))
 (.region [Qo 18 (.bin .add (.t 8) (.c (i6 1))),
  Qm 8 18]))))
def Us : LCode := (.seq (.region [Qo 4 (.mv (.c (i6 (-1))))])
 .ret)
def zdy : LCode := (.seq (.region [Qi 4 0])
 (.seq (.seq (.region [Qm 6 0,
  Qo 7 (.len false (.t 6)),
  Qi 8 0])
 (.block 0
  (.loop
   z5c)))
 Us))
def Yo : Lay := ⟨19, [], false⟩
def z7s : List LRes := [.t 4]
def zjq : LFn := ⟨2, Yo, zdy, z7s⟩
theorem zmf : w9 Tryd.prog [] 93 = some zjq := by kernel_rfl
theorem zl1 : uk Tryd.prog 93 := ⟨_, Tryd.func93, rfl, rfl⟩
def z4t {σ : Type} (Hc : σ → AHeap) (fi0 : Fn) (ff0 fc0 : List AVal) (a0 : List (List UInt8)) (z0 : σ) (o : Int × σ) : Exit → Env → AHeap → Nat → Prop := Zq z7s (Wg 3 4 (i6 o.1) ([] ++ up 3 (Hc o.2)))
def U8 {σ : Type} (Hc : σ → AHeap) (fi0 : Fn) (ff0 fc0 : List AVal) (a0 : List (List UInt8)) (s : (Int × σ)) : Env := [(0, .isl 1 (a0.map z7) false), (1, .fn fi0 ff0 fc0), (7, i6 ((a0.map z7).length : Int)), (8, i6 s.1)]
def z1s {σ : Type} (Hc : σ → AHeap) (fi0 : Fn) (ff0 fc0 : List AVal) (a0 : List (List UInt8)) (s : (Int × σ)) : AHeap := ([] ++ up 3 (Hc s.2))
def z34 {σ : Type} (Hc : σ → AHeap) (fi0 : Fn) (ff0 fc0 : List AVal) (a0 : List (List UInt8)) (z0 : σ) (o : (Int × σ)) : Exit → Env → AHeap → Nat → Prop := (xn 0 (X5 Tryd.prog Yo 3 Us (z4t Hc fi0 ff0 fc0 a0 z0 o)))
noncomputable def ws {σ : Type} (g0 : σ → (List UInt8) → Option (Bool × σ)) (m : Option Nat) (v3 : σ) : Option (Int × σ) :=
 some ((-1), v3)
noncomputable def yx {σ : Type} (g0 : σ → (List UInt8) → Option (Bool × σ)) (m : Option Nat) (a0 : List (List UInt8)) (v2 : Int) (v3 : σ) : Option ((Int × σ) ⊕ (Int × σ)) :=
 if (decide (v2 < ((a0.map z7).length : Int))) = true then
  if (0 : Int) ≤ v2 ∧ v2 < ((a0.map z7).length : Int) then
  (g0 v3 (a0.getD v2.toNat default)).bind fun v5 =>
  if v5.1 = true then
   Option.map Sum.inr (
    some (v2, v5.2))
  else
   some (.inl ((W (v2 + 1)), v5.2))
  else none
 else
  Option.map Sum.inr (
   ws g0 m v3)
noncomputable def xj {σ : Type} (g0 : σ → (List UInt8) → Option (Bool × σ)) (m : Option Nat) (a0 : List (List UInt8)) (v2 : Int) (v3 : σ) : Option (Int × σ) := Zu m (fun (s : (Int × σ)) => yx g0 m a0 s.1 s.2) (v2, v3)
theorem z9x {σ : Type} {Hc : σ → AHeap} {fi0 : Fn} {ff0 fc0 : List AVal} {g0 : σ → (List UInt8) → Option (Bool × σ)} (hg0 : Clo Tryd.prog fi0 ff0 fc0 Hc (fun (x : (List UInt8)) => [.str x]) (fun (b : Bool) => .bool b) g0) {a0 : List (List UInt8)} {z0 : σ} {v3 : σ} {m : Option Nat} {o : (Int × σ)} (h : ws g0 m v3 = some o) :
 LWp Tryd.prog Yo 3 Us (z4t Hc fi0 ff0 fc0 a0 z0 o) [] ([] ++ up 3 (Hc v3)) 4 := by
 unfold ws at h
 refine za (ze ?_)
 refine wh ?_
 cases h
 exact AI TT (y0t (n' := 4) (q := 3) (lit' := []) (hg0.tl _) [] [] rfl rfl (VS rfl) TT)
theorem z7o {σ : Type} {Hc : σ → AHeap} {fi0 : Fn} {ff0 fc0 : List AVal} {g0 : σ → (List UInt8) → Option (Bool × σ)} (hg0 : Clo Tryd.prog fi0 ff0 fc0 Hc (fun (x : (List UInt8)) => [.str x]) (fun (b : Bool) => .bool b) g0) {z0 : σ} {a0 : List (List UInt8)} {v2 : Int} {v3 : σ} {m : Option Nat} {o : (Int × σ) ⊕ (Int × σ)} (h : yx g0 m a0 v2 v3 = some o) :
 LWp Tryd.prog Yo 3 z5c (Zf 3 4 (U8 Hc fi0 ff0 fc0 a0) (z1s Hc fi0 ff0 fc0 a0) (z34 Hc fi0 ff0 fc0 a0 z0) o) [(0, .isl 1 (a0.map z7) false), (1, .fn fi0 ff0 fc0), (7, i6 ((a0.map z7).length : Int)), (8, i6 v2)] ([] ++ up 3 (Hc v3)) 4 := by
 unfold yx at h
 refine za (ze ?_)
 refine za ?_
 refine yt (v := (decide (v2 < ((a0.map z7).length : Int)))) rfl TT (fun h9 => ?_) (fun h9 => ?_)
 ·have h := zf h9 h
  refine xq ?_
  refine za ?_
  refine xw ?_
  refine za (ze ?_)
  refine za (ze ?_)
  obtain ⟨h10, h⟩ := qj h
  refine AI h10 ?_
  refine EX (z7 (a0.getD v2.toNat default)) (AI (uj z7 _ _ (wy z7 h10)) (AI (AI (vw h10) (NB rfl)) ?_))
  obtain ⟨v5, h11, h⟩ := bind_some h
  refine Clo.use (q := 3) (lit := []) hg0 h11 rfl rfl (AI (VS rfl) TT) ?_
  refine LWp.sim (e := [(0, .isl 1 (a0.map z7) false), (1, .fn fi0 ff0 fc0), (5, i6 v2), (7, i6 ((a0.map z7).length : Int)), (8, i6 v2), (16, .bool v5.1)]) (L := ([] ++ up 3 (Hc v5.2))) (n := 4) ?_ ?_
  ·exact y04 (M := []) (lit' := []) (hg0.tl _) rfl (AI (VS rfl) (AI (Vw.clo hg0.hf hg0.hc (by decide) (z80 (Wq (n := 4) (q := 4) (lit' := []) rfl))) (S4 rfl rfl rfl rfl TT))) TT
  refine yt (v := v5.1) rfl TT (fun h12 => ?_) (fun h12 => ?_)
  ·have h := zf h12 h
   refine za (ze ?_)
   refine wh ?_
   obtain ⟨o, hq, rfl⟩ := Option.map_eq_some_iff.1 h
   replace h := hq; clear hq
   refine AI nofun ?_
   cases h
   exact AI TT (y0t (n' := 4) (q := 3) (lit' := []) (hg0.tl _) [] [] rfl rfl (VS rfl) TT)
  ·have h := zp h12 h
   refine xq ?_
   refine ze ?_
   cases h
   exact AI rfl (y04 (M := []) (lit' := []) (hg0.tl _) rfl (AI (VS rfl) (AI (Vw.clo hg0.hf hg0.hc (by decide) (z80 (Wq (n := 4) (q := 3) (lit' := []) rfl))) (S2 rfl rfl TT))) TT)
 ·have h := zp h9 h
  refine Xm ?_
  obtain ⟨o, hq, rfl⟩ := Option.map_eq_some_iff.1 h
  replace h := hq; clear hq
  refine AI nofun ?_
  refine LWp.sim ?_ (z9x hg0 h)
  exact y04 (M := []) (lit' := []) (hg0.tl _) rfl TT TT
theorem z9o {σ : Type} {Hc : σ → AHeap} {fi0 : Fn} {ff0 fc0 : List AVal} {g0 : σ → (List UInt8) → Option (Bool × σ)} (hg0 : Clo Tryd.prog fi0 ff0 fc0 Hc (fun (x : (List UInt8)) => [.str x]) (fun (b : Bool) => .bool b) g0) {z0 : σ} {a0 : List (List UInt8)} {v2 : Int} {v3 : σ} {m : Option Nat} {o : (Int × σ)} (h : xj g0 m a0 v2 v3 = some o) :
 LWp Tryd.prog Yo 3 (.loop z5c) (xn 0 (X5 Tryd.prog Yo 3 Us (z4t Hc fi0 ff0 fc0 a0 z0 o))) [(0, .isl 1 (a0.map z7) false), (1, .fn fi0 ff0 fc0), (7, i6 ((a0.map z7).length : Int)), (8, i6 v2)] ([] ++ up 3 (Hc v3)) 4 :=
 w8 (m := m) (s := ((v2, v3) : (Int × σ))) (r := o) (fun (s : (Int × σ)) => yx g0 m a0 s.1 s.2) (U8 Hc fi0 ff0 fc0 a0) (z1s Hc fi0 ff0 fc0 a0) (z34 Hc fi0 ff0 fc0 a0 z0) (fun s o h => z7o hg0 h) h
noncomputable def ji {σ : Type} (g0 : σ → (List UInt8) → Option (Bool × σ)) (m : Option Nat) (a0 : List (List UInt8)) (z0 : σ) : Option (Int × σ) :=
 xj g0 m a0 0 z0
theorem zai {σ : Type} {Hc : σ → AHeap} {fi0 : Fn} {ff0 fc0 : List AVal} {g0 : σ → (List UInt8) → Option (Bool × σ)} (hg0 : Clo Tryd.prog fi0 ff0 fc0 Hc (fun (x : (List UInt8)) => [.str x]) (fun (b : Bool) => .bool b) g0) {a0 : List (List UInt8)} {z0 : σ} {m : Option Nat} {o : Int × σ} (h : ji g0 m a0 z0 = some o) : LWp Tryd.prog Yo 3 zdy (z4t Hc fi0 ff0 fc0 a0 z0 o) (y5 0 [.isl 1 (a0.map z7) false, .fn fi0 ff0 fc0]) ([] ++ Hc z0) 3 := by
 unfold ji at h
 refine LWp.sim (e := [(0, .isl 1 (a0.map z7) false), (1, .fn fi0 ff0 fc0)]) (L := ([] ++ up 3 (Hc z0))) (n := 4) (zsa (T := Hc z0) (e' := y5 0 [.isl 1 (a0.map z7) false, .fn fi0 ff0 fc0]) (e := [(0, .isl 1 (a0.map z7) false), (1, .fn fi0 ff0 fc0)]) (lit' := []) (lit := []) (hg0.tl z0) rfl rfl (AI (VS rfl) (AI (Vw.clo hg0.hf hg0.hc (by decide) (zrc _)) TT)) TT) ?_
 refine za (ze ?_)
 refine za ?_
 refine za (ze ?_)
 refine xw ?_
 refine LWp.sim ?_ (z9o hg0 h)
 exact y04 (M := []) (lit' := []) (hg0.tl _) rfl (AI (VS rfl) (AI (Vw.clo hg0.hf hg0.hc (by decide) (z80 (Wq (n := 4) (q := 3) (lit' := []) rfl))) (S2 rfl rfl TT))) TT
theorem zq0 {σ : Type} {Hc : σ → AHeap} {fi0 : Fn} {ff0 fc0 : List AVal} {g0 : σ → (List UInt8) → Option (Bool × σ)} (hg0 : Clo Tryd.prog fi0 ff0 fc0 Hc (fun (x : (List UInt8)) => [.str x]) (fun (b : Bool) => .bool b) g0) {a0 : List (List UInt8)} {z0 : σ} {m : Option Nat} {o : Int × σ} (h : ji g0 m a0 z0 = some o) : ACalls Tryd.prog 93 [.isl 1 (a0.map z7) false, .fn fi0 ff0 fc0] ([] ++ Hc z0) 3 (ki 4 (i6 o.1) ([] ++ up 3 (Hc o.2))) := Xx (L := zjq) zmf zl1 (NB rfl) (zai hg0 h)
def zcu : LCode := (.seq (.region [Qb 4])
 (.seq (.region [Qm 5 0,
  Qm 6 1,
  Qo 7 (.call 93 [(.t 5), (.t 6)]),
  Qo 8 (.bin .geq (.t 7) (.c (i6 0))),
  Qm 4 8])
 .ret))
def z8q : Lay := ⟨9, [], false⟩
def z6h : List LRes := [.t 4]
def zkf : LFn := ⟨2, z8q, zcu, z6h⟩
theorem zka : w9 Tryd.prog [] 88 = some zkf := by kernel_rfl
theorem zn0 : uk Tryd.prog 88 := ⟨_, Tryd.func88, rfl, rfl⟩
noncomputable def qu {σ : Type} (g0 : σ → (List UInt8) → Option (Bool × σ)) (m : Option Nat) (a0 : List (List UInt8)) (z0 : σ) : Option (Bool × σ) :=
 (ji g0 m a0 z0).bind fun v1 =>
 some ((decide (v1.1 ≥ 0)), v1.2)
def zvc {σ : Type} (Hc : σ → AHeap) (fi0 : Fn) (ff0 fc0 : List AVal) (a0 : List (List UInt8)) (z0 : σ) (o : Bool × σ) : Exit → Env → AHeap → Nat → Prop := Zq z6h (Wg 3 4 (.bool o.1) ([] ++ up 3 (Hc o.2)))
theorem zax {σ : Type} {Hc : σ → AHeap} {fi0 : Fn} {ff0 fc0 : List AVal} {g0 : σ → (List UInt8) → Option (Bool × σ)} (hg0 : Clo Tryd.prog fi0 ff0 fc0 Hc (fun (x : (List UInt8)) => [.str x]) (fun (b : Bool) => .bool b) g0) {a0 : List (List UInt8)} {z0 : σ} {m : Option Nat} {o : Bool × σ} (h : qu g0 m a0 z0 = some o) : LWp Tryd.prog z8q 3 zcu (zvc Hc fi0 ff0 fc0 a0 z0 o) (y5 0 [.isl 1 (a0.map z7) false, .fn fi0 ff0 fc0]) ([] ++ Hc z0) 3 := by
 unfold qu at h
 refine LWp.sim (e := [(0, .isl 1 (a0.map z7) false), (1, .fn fi0 ff0 fc0)]) (L := ([] ++ up 3 (Hc z0))) (n := 4) (zsa (T := Hc z0) (e' := y5 0 [.isl 1 (a0.map z7) false, .fn fi0 ff0 fc0]) (e := [(0, .isl 1 (a0.map z7) false), (1, .fn fi0 ff0 fc0)]) (lit' := []) (lit := []) (hg0.tl z0) rfl rfl (AI (VS rfl) (AI (Vw.clo hg0.hf hg0.hc (by decide) (zrc _)) TT)) TT) ?_
 refine za (ze ?_)
 refine za (ze ?_)
 obtain ⟨v1, h1, h⟩ := bind_some h
 refine zqy (m := 1) (q := 3) (lit0 := []) (lit := []) (L := []) (L' := []) (rest := []) (R' := i6 v1.1) (hg0.tl _) (hg0.tl _) [] (zq0 hg0 h1) rfl rfl rfl rfl rfl rfl (AI (VS rfl) (AI (Vw.clo hg0.hf hg0.hc (by decide) (zba _ _)) TT)) TT (vj _ rfl) TT rfl ?_
 refine wh ?_
 cases h
 exact AI TT (y0t (n' := 6) (q := 4) (lit' := []) (hg0.tl _) [] [] rfl rfl (VS rfl) TT)
theorem zqb {σ : Type} {Hc : σ → AHeap} {fi0 : Fn} {ff0 fc0 : List AVal} {g0 : σ → (List UInt8) → Option (Bool × σ)} (hg0 : Clo Tryd.prog fi0 ff0 fc0 Hc (fun (x : (List UInt8)) => [.str x]) (fun (b : Bool) => .bool b) g0) {a0 : List (List UInt8)} {z0 : σ} {m : Option Nat} {o : Bool × σ} (h : qu g0 m a0 z0 = some o) : ACalls Tryd.prog 88 [.isl 1 (a0.map z7) false, .fn fi0 ff0 fc0] ([] ++ Hc z0) 3 (ki 4 (.bool o.1) ([] ++ up 3 (Hc o.2))) := Xx (L := zkf) zka zn0 (NB rfl) (zax hg0 h)
def zqg : LCode := (.seq (.block 1
 (.seq (.region [Qf 12 1 1,
  Ql 13 1 12,
  Qm 14 3,
  Qo 15 (.bin .lss (.t 13) (.t 14)),
  Qm 16 15,
  Qe 17 1 1 (16, false),
  Qk 18 1 17 (16, false),
  Qn 19 4 (16, false),
  Qg 20 (.bin .gtr (.t 18) (.t 19)) (16, false),
  Qo 21 (.pick (.t 16) (.c (.bool true)) (.t 20)),
  Qm 11 21])
 (.cond (.t 11)
  (.seq (.region [Qb 2])
  .ret)
  (.seq (.region [Qf 23 2 1,
   Ql 24 1 23,
   Qo 25 (.bin .neq (.t 24) (.c (.str []))),
   Qm 26 25,
   Qe 27 0 1 (26, true),
   Qk 28 1 27 (26, true),
   Qg 29 (.bin .neq (.t 28) (.c (i6 3))) (26, true),
   Qp 30 26 29,
   Qm 22 30])
  (.cond (.t 22)
   (.seq (.region [Qb 2])
   .ret)
   (.seq (.region [Qf 32 4 1,
    Ql 33 1 32,
    Qo 34 (.len false (.t 33)),
    Qo 35 (.bin .gtr (.t 34) (.c (i6 0))),
    Qm 36 35,
    Qe 37 0 1 (36, true),
    Qk 38 1 37 (36, true),
    Qg 39 (.bin .neq (.t 38) (.c (i6 4))) (36, true),
    Qp 40 36 39,
    Qm 41 40,
    Qe 42 0 1 (41, true),
    Qk 43 1 42 (41, true),
    Qg 44 (.bin .neq (.t 43) (.c (i6 5))) (41, true),
    Qp 45 41 44,
    Qm 31 45])
   (.cond (.t 31)
    (.seq (.region [Qb 2])
    .ret)
    (.seq (.region [Qf 47 0 1,
     Ql 48 1 47,
     Qo 49 (.bin .eql (.t 48) (.c (i6 5))),
     Qm 50 49,
     Qe 51 3 1 (50, true),
     Qk 52 1 51 (50, true),
     Qg 53 (.len false (.t 52)) (50, true),
     Qe 54 4 1 (50, true),
     Qk 55 1 54 (50, true),
     Qg 56 (.len false (.t 55)) (50, true),
     Qg 57 (.bin .neq (.t 53) (.t 56)) (50, true),
     Qn 58 57 (50, true),
     Qe 59 3 1 (58, false),
     Qk 60 1 59 (58, false),
     Qg 61 (.call 87 [(.t 60)]) (58, false),
     Qg 62 (.pick (.t 58) (.c (.bool true)) (.t 61)) (50, true),
     Qp 63 50 62,
     Qm 46 63])
    (.cond (.t 46)
     (.seq (.region [Qb 2])
     .ret)
     (.seq (.region [Qf 65 0 1,
      Ql 66 1 65,
      Qo 67 (.bin .neq (.t 66) (.c (i6 5))),
      Qm 68 67,
      Qe 69 3 1 (68, true),
      Qk 70 1 69 (68, true),
      Qg 71 (.len false (.t 70)) (68, true),
      Qg 72 (.bin .gtr (.t 71) (.c (i6 0))) (68, true),
      Qp 73 68 72,
      Qm 64 73])
     (.cond (.t 64)
      (.seq (.region [Qb 2])
      .ret)
      .skip)))))))))))
 (.seq (.region [Qf 74 2 1,
  Ql 75 1 74,
  Qc 76 68 75,
  Qm 77 76,
  Qe 78 3 1 (77, true),
  Qk 79 1 78 (77, true),
  Qg 80 (.call 88 [(.t 79), (.c (.fn (.func 89) [] []))]) (77, true),
  Qg 81 (.un .not (.t 80)) (77, true),
  Qp 82 77 81,
  Qm 2 82])
 .ret))
def zqp : LCode := (.seq (.region [Qo 1 (.box (.t 0)),
 Qb 2])
 (.seq (.region [Qi 3 0,
  Qi 4 0])
 (.seq (.seq (.region [Qf 5 0 1,
  Ql 6 1 5])
 (.block 0
  (.seq (.region [Qo 8 (.bin .eql (.t 6) (.c (i6 1))),
   Qm 7 8])
  (.cond (.t 7)
   (.region [Qi 4 1])
   (.seq (.region [Qo 10 (.bin .eql (.t 6) (.c (i6 2))),
    Qm 9 10])
   (.cond (.t 9)
    (.region [Qo 3 (.mv (.c (i6 (-9007199254740991)))),
     Qi 4 9007199254740991])
    .skip))))))
 zqg)))
def z9l : Lay := ⟨83, [], false⟩
def zl4 : List LRes := [.t 2]
def zwz : LFn := ⟨1, z9l, zqp, zl4⟩
theorem ztr : w9 Tryd.prog [] 74 = some zwz := by kernel_rfl
theorem zvj : uk Tryd.prog 74 := ⟨_, Tryd.func74, rfl, rfl⟩
noncomputable def x9 (m : Option Nat) (a0 : GJ) (v1 : Int) (v2 : Int) : Option Bool :=
 if ((decide (a0.fN < v1)) || (decide (a0.fN > v2))) = true then
  some false
 else
  if ((!(a0.fT == ([] : List UInt8))) && (a0.fK != 3)) = true then
   some false
  else
   if (((decide (((a0.fE.map z8).length : Int) > 0)) && (a0.fK != 4)) && (a0.fK != 5)) = true then
    some false
   else
    (if (((a0.fK == 5) == true) && ((((a0.fA.map z7).length : Int) != ((a0.fE.map z8).length : Int)) == false)) = true then jx m a0.fA else some default).bind fun v3 =>
    if ((a0.fK == 5) && ((((a0.fA.map z7).length : Int) != ((a0.fE.map z8).length : Int)) || v3)) = true then
     some false
    else
     if ((a0.fK != 5) && (decide (((a0.fA.map z7).length : Int) > 0))) = true then
      some false
     else
      (jv m a0.fT).bind fun v4 =>
      (if (v4 == true) = true then qu (fun (s : Unit) (x : (List UInt8)) => (yw m x).map fun o => (o, ())) m a0.fA () else some default).bind fun v5 =>
      some (v4 && (!v5.1))
def zwr (a0 : GJ) (o : Bool) : Exit → Env → AHeap → Nat → Prop := Zq zl4 (x8 (.bool o))
theorem z0e {a0 : GJ} {v1 : Int} {v2 : Int} {m : Option Nat} {o : Bool} (h : x9 m a0 v1 v2 = some o) :
 LWp Tryd.prog z9l 0 zqg (zwr a0 o) [(1, .ptr (0, 0) 0 0), (3, i6 v1), (4, i6 v2)] [((0, 0), .one (z6 a0))] 1 := by
 unfold x9 at h
 refine za ?_
 refine xw ?_
 refine za (ze ?_)
 refine AI (fun hp => hp) ?_
 refine AI (fun hp => (AI hp hp)) ?_
 refine AI (fun hc => (bqf hc)) ?_
 refine LWp.sim (e := [(1, .ptr (0, 0) 0 0), (11, .bool ((decide (a0.fN < v1)) || (decide (a0.fN > v2))))]) (L := [((0, 0), .one (z6 a0))]) (n := 1) ?_ ?_
 ·exact yp (M := [((0, 0), (0, 0))]) rfl (SP rfl (AI (VS rfl) TT)) (AI (AI rfl (OL rfl)) TT)
 refine yt (v := ((decide (a0.fN < v1)) || (decide (a0.fN > v2)))) rfl TT (fun h3 => ?_) (fun h3 => ?_)
 ·have h := zf h3 h
  refine za (ze ?_)
  refine wh ?_
  cases h
  exact AI TT (AI rfl (VS rfl))
 ·have h := zp h3 h
  refine za (ze ?_)
  refine AI (fun hp => hp) ?_
  refine AI (fun hp => hp) ?_
  refine AI (fun hc => (bqt hc)) ?_
  refine LWp.sim (e := [(1, .ptr (0, 0) 0 0), (22, .bool ((!(a0.fT == ([] : List UInt8))) && (a0.fK != 3)))]) (L := [((0, 0), .one (z6 a0))]) (n := 1) ?_ ?_
  ·exact yp (M := [((0, 0), (0, 0))]) rfl (SP rfl (AI (VS rfl) TT)) (AI (AI rfl (OL rfl)) TT)
  refine yt (v := ((!(a0.fT == ([] : List UInt8))) && (a0.fK != 3))) rfl TT (fun h4 => ?_) (fun h4 => ?_)
  ·have h := zf h4 h
   refine za (ze ?_)
   refine wh ?_
   cases h
   exact AI TT (AI rfl (VS rfl))
  ·have h := zp h4 h
   refine za (ze ?_)
   refine AI (fun hp => hp) ?_
   refine AI (fun hp => hp) ?_
   refine AI (fun hc => (bqt hc)) ?_
   refine AI (fun hp => hp) ?_
   refine AI (fun hp => hp) ?_
   refine AI (fun hc => (bqt hc)) ?_
   refine LWp.sim (e := [(1, .ptr (0, 0) 0 0), (31, .bool (((decide (((a0.fE.map z8).length : Int) > 0)) && (a0.fK != 4)) && (a0.fK != 5)))]) (L := [((0, 0), .one (z6 a0))]) (n := 1) ?_ ?_
   ·exact yp (M := [((0, 0), (0, 0))]) rfl (SP rfl (AI (VS rfl) TT)) (AI (AI rfl (OL rfl)) TT)
   refine yt (v := (((decide (((a0.fE.map z8).length : Int) > 0)) && (a0.fK != 4)) && (a0.fK != 5))) rfl TT (fun h5 => ?_) (fun h5 => ?_)
   ·have h := zf h5 h
    refine za (ze ?_)
    refine wh ?_
    cases h
    exact AI TT (AI rfl (VS rfl))
   ·have h := zp h5 h
    refine za (ze ?_)
    refine AI (fun hp => hp) ?_
    refine AI (fun hp => hp) ?_
    refine AI (fun hp => hp) ?_
    refine AI (fun hp => hp) ?_
    refine AI (fun hp => (AI hp hp)) ?_
    refine AI (fun hp => hp) ?_
    refine AI (fun hp => hp) ?_
    obtain ⟨v3, h6, h⟩ := bind_some h
    refine Or.inl (EX (.bool v3) (AI (fun hp => AI hp (PFn.call (zxj (zf hp h6)) (AI (VS rfl) TT) (AI rfl (AI rfl rfl)))) ?_))
    refine AI (fun hp => (AI hp (fun hc => (z2a hp (bqf hc))))) ?_
    refine AI (fun hc => (bqt hc)) ?_
    refine LWp.sim (e := [(1, .ptr (0, 0) 0 0), (46, .bool ((a0.fK == 5) && ((((a0.fA.map z7).length : Int) != ((a0.fE.map z8).length : Int)) || v3)))]) (L := [((0, 0), .one (z6 a0))]) (n := 1) ?_ ?_
    ·exact yp (M := [((0, 0), (0, 0))]) rfl (SP rfl (AI (VS rfl) TT)) (AI (AI rfl (OL rfl)) TT)
    refine yt (v := ((a0.fK == 5) && ((((a0.fA.map z7).length : Int) != ((a0.fE.map z8).length : Int)) || v3))) rfl TT (fun h7 => ?_) (fun h7 => ?_)
    ·have h := zf h7 h
     refine za (ze ?_)
     refine wh ?_
     cases h
     exact AI TT (AI rfl (VS rfl))
    ·have h := zp h7 h
     refine za (ze ?_)
     refine AI (fun hp => hp) ?_
     refine AI (fun hp => hp) ?_
     refine AI (fun hp => hp) ?_
     refine AI (fun hc => (bqt hc)) ?_
     refine LWp.sim (e := [(1, .ptr (0, 0) 0 0), (64, .bool ((a0.fK != 5) && (decide (((a0.fA.map z7).length : Int) > 0))))]) (L := [((0, 0), .one (z6 a0))]) (n := 1) ?_ ?_
     ·exact yp (M := [((0, 0), (0, 0))]) rfl (SP rfl (AI (VS rfl) TT)) (AI (AI rfl (OL rfl)) TT)
     refine yt (v := ((a0.fK != 5) && (decide (((a0.fA.map z7).length : Int) > 0)))) rfl TT (fun h8 => ?_) (fun h8 => ?_)
     ·have h := zf h8 h
      refine za (ze ?_)
      refine wh ?_
      cases h
      exact AI TT (AI rfl (VS rfl))
     ·have h := zp h8 h
      refine xq ?_
      refine za (ze ?_)
      obtain ⟨v4, h9, h⟩ := bind_some h
      refine PFn.call (zgm h9) (AI (VS rfl) TT) ?_
      refine AI (fun hp => hp) ?_
      obtain ⟨v5, h10, h⟩ := bind_some h
      refine Or.inl (EX (.bool v5.1) (AI (fun hp => AI hp (ACalls.same rfl (Xw (k := 3) (m := 1) (L' := []) (rest := [((0, 0), .one (z6 a0))]) (R' := .bool v5.1) [] (zqb (show Clo Tryd.prog (.func 89) [] [] (fun (s : Unit) => []) (fun (x : (List UInt8)) => [.str x]) (fun (b : Bool) => .bool b) (fun (s : Unit) (x : (List UInt8)) => (yw m x).map fun o => (o, ())) from Clo.mk' (fun s => Tl.lit rfl TT rfl) rfl rfl (fun _ => rfl) (fun s x o h => by obtain ⟨o1, h1, rfl⟩ := Option.map_eq_some_iff.1 h; exact EX _ (AI (zpj h1) TT))) (zf hp h10)) rfl rfl rfl (S2 rfl rfl TT) TT (vj _ rfl) TT rfl (AI rfl (HeapTo.get (AI (AI rfl (OL rfl)) TT)))))) ?_))
      refine AI (fun hp => hp) ?_
      refine AI (fun hc => (bqt hc)) ?_
      refine LWp.sim (e := [(2, .bool (v4 && (!v5.1)))]) (L := []) (n := 0) ?_ ?_
      ·exact yp (M := []) rfl (AI (VS rfl) TT) TT
      refine wh ?_
      cases h
      exact AI TT (AI rfl (VS rfl))
noncomputable def w3 (m : Option Nat) (a0 : GJ) : Option Bool :=
 if (a0.fK == 1) = true then
  x9 m a0 0 1
 else
  if (a0.fK == 2) = true then
   x9 m a0 (-9007199254740991) 9007199254740991
  else
   x9 m a0 0 0
theorem zn8 {a0 : GJ} {m : Option Nat} {o : Bool} (h : w3 m a0 = some o) : LWp Tryd.prog z9l 0 zqp (zwr a0 o) (y5 0 [.agg (z6 a0)]) [] 0 := by
 unfold w3 at h
 refine za (ze ?_)
 refine za (ze ?_)
 refine za ?_
 refine za (ze ?_)
 refine xw ?_
 refine za (ze ?_)
 refine LWp.sim (e := [(1, .ptr (0, 0) 0 0), (3, i6 0), (4, i6 0), (6, i6 a0.fK), (7, .bool (a0.fK == 1))]) (L := [((0, 0), .one (z6 a0))]) (n := 1) ?_ ?_
 ·exact yp (M := [((0, 0), (0, 0))]) rfl (SP rfl (S4 rfl rfl rfl rfl TT)) (AI (AI rfl (OL rfl)) TT)
 refine yt (v := (a0.fK == 1)) rfl TT (fun h1 => ?_) (fun h1 => ?_)
 ·have h := zf h1 h
  refine ze ?_
  refine LWp.sim ?_ (z0e h)
  exact yp (M := [((0, 0), (0, 0))]) rfl (SP rfl (S2 rfl rfl TT)) (AI (AI rfl (OL rfl)) TT)
 ·have h := zp h1 h
  refine za (ze ?_)
  refine yt (v := (a0.fK == 2)) rfl TT (fun h2 => ?_) (fun h2 => ?_)
  ·have h := zf h2 h
   refine ze ?_
   refine LWp.sim ?_ (z0e h)
   exact yp (M := [((0, 0), (0, 0))]) rfl (SP rfl (S2 rfl rfl TT)) (AI (AI rfl (OL rfl)) TT)
  ·have h := zp h2 h
   refine xq ?_
   refine LWp.sim ?_ (z0e h)
   exact yp (M := [((0, 0), (0, 0))]) rfl (SP rfl (S2 rfl rfl TT)) (AI (AI rfl (OL rfl)) TT)
theorem zxr {a0 : GJ} {m : Option Nat} {o : Bool} (h : w3 m a0 = some o) : PFn Tryd.prog 74 [.agg (z6 a0)] (.bool o) := PFn.ofFnW (L := zwz) ztr zvj (NB rfl) rfl (zn8 h)
def z58 : LCode := (.seq (.region [Qo 23 (.bin .lss (.t 22) (.t 21))])
 (.seq (.cond (.t 23)
  .skip
  (.exit 1))
 (.seq (.block 2
  (.seq (.region [Qo 24 (.iaddr 5 (.t 20) (.t 22)),
   Qt 25 5 24,
   Qo 4 (.alloc [(i6 0), (i6 0), (.str []), (.isl 1 [] true), (.isl 5 [] true)]),
   ⟨none, .store 5 (.t 4) (.t 25), none⟩])
  (.seq (.region [Qt 26 5 4,
   Qc 27 52 26,
   Qm 5 27])
  (.seq (.region [Qm 28 5,
   Qo 29 (.bin .neq (.t 28) (.c (i6 0)))])
  (.cond (.t 29)
   (.seq (.region [Qm 30 5,
    Qm 2 30])
   .ret)
   .skip)))))
 (.region [Qo 31 (.bin .add (.t 22) (.c (i6 1))),
  Qm 22 31]))))
def Uy : LCode := (.seq (.region [Qi 2 0])
 .ret)
def zdw : LCode := (.seq (.region [Qo 1 (.box (.t 0)),
 Qi 2 0])
 (.seq (.block 0
  (.seq (.region [Qf 7 0 1,
   Ql 8 1 7,
   Qo 9 (.bin .lss (.t 8) (.c (i6 0))),
   Qm 10 9,
   Qe 11 0 1 (10, false),
   Qk 12 1 11 (10, false),
   Qg 13 (.bin .geq (.t 12) (.c (i6 6))) (10, false),
   Qo 14 (.pick (.t 10) (.c (.bool true)) (.t 13)),
   Qm 6 14])
  (.cond (.t 6)
   (.seq (.region [Qi 2 7])
   .ret)
   (.seq (.region [Qt 16 5 1,
    Qc 17 74 16,
    Qo 18 (.un .not (.t 17)),
    Qm 15 18])
   (.cond (.t 15)
    (.seq (.region [Qi 2 3])
    .ret)
    .skip)))))
 (.seq (.seq (.region [Qf 19 4 1,
  Ql 20 1 19,
  Qo 21 (.len false (.t 20)),
  Qi 22 0])
 (.block 1
  (.loop
   z58)))
 Uy)))
def Yj : Lay := ⟨32, [], false⟩
def z8e : List LRes := [.t 2]
def zhl : LFn := ⟨1, Yj, zdw, z8e⟩
theorem zhq : w9 Tryd.prog [] 52 = some zhl := by kernel_rfl
theorem znj : uk Tryd.prog 52 := ⟨_, Tryd.func52, rfl, rfl⟩
def z4q (a0 : GJ) (o : Int) : Exit → Env → AHeap → Nat → Prop := Zq z8e (Wg 3 3 (i6 o) [])
def Kz (a0 : GJ) (s : Int) : Env := [(20, .isl 5 (a0.fE.map z8) false), (21, i6 ((a0.fE.map z8).length : Int)), (22, i6 s)]
def z0x (a0 : GJ) (s : Int) : AHeap := []
def z2w (a0 : GJ) (o : Int) : Exit → Env → AHeap → Nat → Prop := (xn 1 (X5 Tryd.prog Yj 3 Uy (z4q a0 o)))
noncomputable def vl (rec2 : GJ → Option Int) (m : Option Nat) : Option Int :=
 some 0
noncomputable def ql (rec2 : GJ → Option Int) (m : Option Nat) (a0 : GJ) (v4 : Int) : Option (Int ⊕ Int) :=
 if (decide (v4 < ((a0.fE.map z8).length : Int))) = true then
  if (0 : Int) ≤ v4 ∧ v4 < ((a0.fE.map z8).length : Int) then
  ((kq (a0.fE.getD v4.toNat default))).bind fun v7 =>
  (rec2 v7).bind fun v8 =>
  if (v8 != 0) = true then
   Option.map Sum.inr (
    some v8)
  else
   some (.inl (W (v4 + 1)))
  else none
 else
  Option.map Sum.inr (
   vl rec2 m)
noncomputable def x5 (rec2 : GJ → Option Int) (m : Option Nat) (a0 : GJ) (v4 : Int) : Option Int := Zu m (fun (s : Int) => ql rec2 m a0 s) v4
abbrev Hr2 (rec2 : GJ → Option Int) : Prop := ∀ {a0 : GJ} {o : Int}, rec2 a0 = some o → ACalls Tryd.prog 52 [.agg (z6 a0)] [] 3 (ki 3 (i6 o) [])
theorem zb3 {rec2 : GJ → Option Int} (hrec2 : Hr2 rec2) {a0 : GJ} {m : Option Nat} {o : Int} (h : vl rec2 m = some o) :
 LWp Tryd.prog Yj 3 Uy (z4q a0 o) [] [] 3 := by
 unfold vl at h
 refine za (ze ?_)
 refine wh ?_
 cases h
 exact AI TT (z49 (n' := 3) [] [] rfl rfl (VS rfl) TT)
theorem z66 {rec2 : GJ → Option Int} (hrec2 : Hr2 rec2) {a0 : GJ} {v4 : Int} {m : Option Nat} {o : Int ⊕ Int} (h : ql rec2 m a0 v4 = some o) :
 LWp Tryd.prog Yj 3 z58 (Zf 3 3 (Kz a0) (z0x a0) (z2w a0) o) [(20, .isl 5 (a0.fE.map z8) false), (21, i6 ((a0.fE.map z8).length : Int)), (22, i6 v4)] [] 3 := by
 unfold ql at h
 refine za (ze ?_)
 refine za ?_
 refine yt (v := (decide (v4 < ((a0.fE.map z8).length : Int)))) rfl TT (fun h14 => ?_) (fun h14 => ?_)
 ·have h := zf h14 h
  refine xq ?_
  refine za ?_
  refine xw ?_
  refine za (ze ?_)
  obtain ⟨h15, h⟩ := qj h
  refine AI h15 ?_
  obtain ⟨v7, h16, h⟩ := bind_some h
  refine EX (z6 v7) (AI (j1 (wy z8 h15) h16) (AI (AI (vw h15) (NB rfl)) ?_))
  refine za (ze ?_)
  obtain ⟨v8, h17, h⟩ := bind_some h
  refine Xw (k := 3) (m := 0) (L' := []) (rest := [((3, 0), .one (z6 v7))]) (R' := i6 v8) [] (hrec2 h17) rfl rfl rfl (AI (VS rfl) TT) TT (vj _ rfl) TT rfl ?_
  refine LWp.sim (e := [(5, i6 v8), (20, .isl 5 (a0.fE.map z8) false), (21, i6 ((a0.fE.map z8).length : Int)), (22, i6 v4)]) (L := []) (n := 3) ?_ ?_
  ·exact yp (M := []) rfl (S4 rfl rfl rfl rfl TT) TT
  refine za (ze ?_)
  refine yt (v := (v8 != 0)) rfl TT (fun h18 => ?_) (fun h18 => ?_)
  ·have h := zf h18 h
   refine za (ze ?_)
   refine wh ?_
   obtain ⟨o, hq, rfl⟩ := Option.map_eq_some_iff.1 h
   replace h := hq; clear hq
   refine AI nofun ?_
   cases h
   exact AI TT (z49 (n' := 3) [] [] rfl rfl (VS rfl) TT)
  ·have h := zp h18 h
   refine xq ?_
   refine ze ?_
   cases h
   exact AI rfl (yp (M := []) rfl (S2 rfl rfl (AI (VS rfl) TT)) TT)
 ·have h := zp h14 h
  refine Xm ?_
  obtain ⟨o, hq, rfl⟩ := Option.map_eq_some_iff.1 h
  replace h := hq; clear hq
  refine AI nofun ?_
  refine LWp.sim ?_ (zb3 hrec2 h)
  exact yp (M := []) rfl TT TT
theorem zal {rec2 : GJ → Option Int} (hrec2 : Hr2 rec2) {a0 : GJ} {v4 : Int} {m : Option Nat} {o : Int} (h : x5 rec2 m a0 v4 = some o) :
 LWp Tryd.prog Yj 3 (.loop z58) (xn 1 (X5 Tryd.prog Yj 3 Uy (z4q a0 o))) [(20, .isl 5 (a0.fE.map z8) false), (21, i6 ((a0.fE.map z8).length : Int)), (22, i6 v4)] [] 3 :=
 w8 (m := m) (s := (v4 : Int)) (r := o) (fun (s : Int) => ql rec2 m a0 s) (Kz a0) (z0x a0) (z2w a0) (fun s o h => z66 hrec2 h) h
noncomputable def qq (rec2 : GJ → Option Int) (m : Option Nat) (a0 : GJ) : Option Int :=
 if ((decide (a0.fK < 0)) || (decide (a0.fK ≥ 6))) = true then
  some 7
 else
  (w3 m a0).bind fun v1 =>
  if (!v1) = true then
   some 3
  else
   x5 rec2 m a0 0
theorem z9q {rec2 : GJ → Option Int} (hrec2 : Hr2 rec2) {a0 : GJ} {m : Option Nat} {o : Int} (h : qq rec2 m a0 = some o) : LWp Tryd.prog Yj 3 zdw (z4q a0 o) (y5 0 [.agg (z6 a0)]) [] 3 := by
 unfold qq at h
 refine za (ze ?_)
 refine za ?_
 refine xw ?_
 refine za (ze ?_)
 refine AI (fun hp => hp) ?_
 refine AI (fun hp => hp) ?_
 refine AI (fun hc => (bqf hc)) ?_
 refine LWp.sim (e := [(1, .ptr (3, 0) 0 0), (6, .bool ((decide (a0.fK < 0)) || (decide (a0.fK ≥ 6))))]) (L := [((3, 0), .one (z6 a0))]) (n := 4) ?_ ?_
 ·exact yp (M := [((3, 0), (3, 0))]) rfl (SP rfl (AI (VS rfl) TT)) (AI (AI rfl (OL rfl)) TT)
 refine yt (v := ((decide (a0.fK < 0)) || (decide (a0.fK ≥ 6)))) rfl TT (fun h1 => ?_) (fun h1 => ?_)
 ·have h := zf h1 h
  refine za (ze ?_)
  refine wh ?_
  cases h
  exact AI TT (z49 (n' := 4) [] [] rfl rfl (VS rfl) TT)
 ·have h := zp h1 h
  refine za (ze ?_)
  obtain ⟨v1, h2, h⟩ := bind_some h
  refine PFn.call (zxr h2) (AI (VS rfl) TT) ?_
  refine yt (v := (!v1)) rfl TT (fun h3 => ?_) (fun h3 => ?_)
  ·have h := zf h3 h
   refine za (ze ?_)
   refine wh ?_
   cases h
   exact AI TT (z49 (n' := 4) [] [] rfl rfl (VS rfl) TT)
  ·have h := zp h3 h
   refine xq ?_
   refine za ?_
   refine za (ze ?_)
   refine LWp.sim (e := [(20, .isl 5 (a0.fE.map z8) false), (21, i6 ((a0.fE.map z8).length : Int)), (22, i6 0)]) (L := []) (n := 3) ?_ ?_
   ·exact yp (M := []) rfl (S2 rfl rfl (AI (VS rfl) TT)) TT
   refine xw ?_
   refine LWp.sim ?_ (zal hrec2 h)
   exact yp (M := []) rfl (S2 rfl rfl (AI (VS rfl) TT)) TT
theorem zca {rec2 : GJ → Option Int} (hrec2 : Hr2 rec2) {a0 : GJ} {m : Option Nat} {o : Int} (h : qq rec2 m a0 = some o) : ACalls Tryd.prog 52 [.agg (z6 a0)] [] 3 (ki 3 (i6 o) []) := Xx (L := zhl) zhq znj (NB rfl) (z9q hrec2 h)
noncomputable def xf (m : Option Nat) : Nat → GJ → Option Int
 | 0 => fun _ => none
 | k + 1 => qq (xf m k) m
noncomputable def ke (m : Option Nat) (a0 : GJ) : Option Int := zeo m (fun k => xf m k a0)
theorem z7d {m : Option Nat} : ∀ (k : Nat) {a0 : GJ} {o : Int}, xf m k a0 = some o → ACalls Tryd.prog 52 [.agg (z6 a0)] [] 3 (ki 3 (i6 o) [])
 | 0, _, _, h => nomatch h
 | k + 1, _, _, h => zca (fun h => z7d k h) h
theorem zij {a0 : GJ} {m : Option Nat} {o : Int} (h : ke m a0 = some o) : ACalls Tryd.prog 52 [.agg (z6 a0)] [] 3 (ki 3 (i6 o) []) := (Zs h).elim fun k h => z7d k h
noncomputable def Z8 (m : Option Nat) (a0 : GJ) : Option Int := qq (ke m) m a0
theorem zzq {a0 : GJ} {m : Option Nat} {o : Int} (h : Z8 m a0 = some o) : PFn Tryd.prog 52 [.agg (z6 a0)] (i6 o) :=
 ⟨rfl, _, Xw (k := 3) (m := 0) (L' := []) (rest := []) (R' := i6 o) [] (zca zij h) rfl rfl rfl (AI (VS rfl) TT) TT (vj _ rfl) TT rfl ⟨rfl, rfl, rfl⟩⟩
def zsc : LCode := (.seq (.region [Qo 1 (.box (.t 0)),
 Qi 2 0])
 (.seq (.region [Qo 3 (.alloc [(i6 0)]),
  ⟨none, .store 1 (.t 3) (.c (i6 0)), none⟩])
 (.seq (.seq (.region [Qt 4 5 1,
  Qo 5 (.call 51 [(.t 4), (.c (i6 1)), (.t 3)]),
  Qo 6 (.un .not (.t 5))])
 (.cond (.t 6)
  (.seq (.region [Qi 2 2])
  .ret)
  .skip))
 (.seq (.region [Qt 7 5 1,
  Qc 8 52 7,
  Qm 2 8])
 .ret))))
def zkb : Lay := ⟨9, [], false⟩
def zjn : List LRes := [.t 2]
def zzf : LFn := ⟨1, zkb, zsc, zjn⟩
theorem zui : w9 Tryd.prog [] 28 = some zzf := by kernel_rfl
theorem ztv : uk Tryd.prog 28 := ⟨_, Tryd.func28, rfl, rfl⟩
noncomputable def qz (m : Option Nat) (a0 : GJ) : Option Int :=
 (wo m a0 1 0).bind fun v1 =>
 if (!v1.1) = true then
  some 2
 else
  (Z8 m a0).bind fun v2 =>
  some v2
def y15 (a0 : GJ) (o : Int) : Exit → Env → AHeap → Nat → Prop := Zq zjn (x8 (i6 o))
theorem zl3 {a0 : GJ} {m : Option Nat} {o : Int} (h : qz m a0 = some o) : LWp Tryd.prog zkb 0 zsc (y15 a0 o) (y5 0 [.agg (z6 a0)]) [] 0 := by
 unfold qz at h
 refine za (ze ?_)
 refine za (ze ?_)
 refine za ?_
 refine za (ze ?_)
 obtain ⟨v1, h1, h⟩ := bind_some h
 refine Xw (k := 3) (m := 0) (L' := [((1, 0), .one [i6 v1.2])]) (rest := [((0, 0), .one (z6 a0))]) (R' := .bool v1.1) [((0, 0), (1, 0))] (zh3 h1) rfl rfl rfl (S2 rfl rfl (SP rfl TT)) (AI (h0I (1, 0) rfl rfl (OL rfl)) TT) (vj _ rfl) (AI rfl (AI rfl TT)) rfl ?_
 refine yt (v := (!v1.1)) rfl TT (fun h2 => ?_) (fun h2 => ?_)
 ·have h := zf h2 h
  refine za (ze ?_)
  refine LWp.sim (e := [(2, i6 2)]) (L := []) (n := 0) ?_ ?_
  ·exact yp (M := []) rfl (AI (VS rfl) TT) TT
  refine wh ?_
  cases h
  exact AI TT (AI rfl (VS rfl))
 ·have h := zp h2 h
  refine xq ?_
  refine za (ze ?_)
  obtain ⟨v2, h3, h⟩ := bind_some h
  refine PFn.call (zzq h3) (AI (VS rfl) TT) ?_
  refine LWp.sim (e := [(2, i6 v2)]) (L := []) (n := 0) ?_ ?_
  ·exact yp (M := []) rfl (AI (VS rfl) TT) TT
  refine wh ?_
  cases h
  exact AI TT (AI rfl (VS rfl))
theorem zbw {a0 : GJ} {m : Option Nat} {o : Int} (h : qz m a0 = some o) : PFn Tryd.prog 28 [.agg (z6 a0)] (i6 o) := PFn.ofFnW (L := zzf) zui ztv (NB rfl) rfl (zl3 h)
def z4n : LCode := (.seq (.region [Qo 16 (.bin .lss (.t 15) (.t 14))])
 (.seq (.cond (.t 16)
  .skip
  (.exit 0))
 (.seq (.block 1
  (.seq (.region [Qo 17 (.iaddr 5 (.t 13) (.t 15)),
   Qt 18 5 17,
   Qo 5 (.alloc [(i6 0), (i6 0), (.str []), (.isl 1 [] true), (.isl 5 [] true)]),
   ⟨none, .store 5 (.t 5) (.t 18), none⟩])
  (.draw [⟨Qf 19 4 1, []⟩,
   ⟨Ql 20 1 19, []⟩,
   ⟨Qt 21 5 5, []⟩,
   ⟨Qc 22 44 21, [1]⟩,
   ⟨Qo 23 (.mkSl true 5 [(i6 0), (i6 0), (.str []), (.isl 1 [] true), (.isl 5 [] true)] 1 [(0, (.t 22))]), []⟩,
   ⟨Qo 24 (.app true 5 80 (.t 20) (.t 23)), []⟩,
   ⟨Qf 25 4 1, []⟩,
   ⟨⟨none, .store 1 (.t 25) (.t 24), none⟩, []⟩])))
 (.region [Qo 26 (.bin .add (.t 15) (.c (i6 1))),
  Qm 15 26]))))
def z04 : LCode := (.seq (.region [Qt 27 5 1,
 ⟨none, .store 5 (.t 2) (.t 27), none⟩])
 .ret)
def zdf : LCode := (.seq (.region [Qo 1 (.box (.t 0)),
 Qo 2 (.alloc [(i6 0), (i6 0), (.str []), (.isl 1 [] true), (.isl 5 [] true)])])
 (.seq (.region [Qf 6 4 1,
  Ql 7 1 6,
  Qm 3 7])
 (.seq (.region [Qf 8 3 1,
  Ql 9 1 8,
  Qc 10 67 9,
  Qf 11 3 1,
  ⟨none, .store 1 (.t 11) (.t 10), none⟩,
  Qf 12 4 1,
  ⟨none, .store 1 (.t 12) (.c (.val (.slice none 0 0))), none⟩])
 (.seq (.seq (.region [Qm 13 3,
  Qo 14 (.len false (.t 13)),
  Qi 15 0])
 (.block 0
  (.loop
   z4n)))
 z04))))
def Yq : Lay := ⟨28, [], false⟩
def z61 : List LRes := [.cell 2 true 5]
def zni : LFn := ⟨1, Yq, zdf, z61⟩
theorem zmy : w9 Tryd.prog [] 44 = some zni := by kernel_rfl
theorem zko : uk Tryd.prog 44 := ⟨_, Tryd.func44, rfl, rfl⟩
def z4p (a0 : GJ) (o : GJ) : Exit → Env → AHeap → Nat → Prop := Zq z61 (Wg 3 3 (.agg (z6 o)) [])
def Uj (a0 : GJ) (v1 : (List (List UInt8))) (s : (Int × (List (List AVal)))) : Env := [(1, .ptr (3, 0) 0 0), (2, .ptr (4, 0) 0 0), (13, .isl 5 (a0.fE.map z8) false), (14, i6 ((a0.fE.map z8).length : Int)), (15, i6 s.1)]
def z0h (a0 : GJ) (v1 : (List (List UInt8))) (s : (Int × (List (List AVal)))) : AHeap := [((3, 0), .one [i6 a0.fK, i6 a0.fN, .str a0.fT, .isl 1 (v1.map z7) false, .osl (5, 0) 5 (s.2.map z8)]), ((4, 0), .one [i6 0, i6 0, .str [], .isl 1 (([] : List (List UInt8)).map z7) true, .isl 5 (([] : List (List AVal)).map z8) true]), ((5, 0), .tok)]
def z2q (a0 : GJ) (o : GJ) : Exit → Env → AHeap → Nat → Prop := (xn 0 (X5 Tryd.prog Yq 3 z04 (z4p a0 o)))
noncomputable def wu (rec3 : GJ → Option GJ) (m : Option Nat) (a0 : GJ) (v1 : (List (List UInt8))) (v5 : List (List AVal)) : Option GJ :=
 some (GJ.mk a0.fK a0.fN a0.fT v1 v5)
noncomputable def x7 (rec3 : GJ → Option GJ) (m : Option Nat) (a0 : GJ) (v1 : (List (List UInt8))) (v4 : Int) (v5 : List (List AVal)) : Option ((Int × (List (List AVal))) ⊕ GJ) :=
 if (decide (v4 < ((a0.fE.map z8).length : Int))) = true then
  if (0 : Int) ≤ v4 ∧ v4 < ((a0.fE.map z8).length : Int) then
  ((kq (a0.fE.getD v4.toNat default))).bind fun v8 =>
  (rec3 v8).bind fun v9 =>
  if ((v5 ++ ([z6 v9] : List (List AVal))).map z8).length * 80 ≤ 140737488355328 then
  some (.inl ((W (v4 + 1)), (v5 ++ ([z6 v9] : List (List AVal)))))
  else none
  else none
 else
  Option.map Sum.inr (
   wu rec3 m a0 v1 v5)
noncomputable def xx (rec3 : GJ → Option GJ) (m : Option Nat) (a0 : GJ) (v1 : (List (List UInt8))) (v4 : Int) (v5 : List (List AVal)) : Option GJ := Zu m (fun (s : (Int × (List (List AVal)))) => x7 rec3 m a0 v1 s.1 s.2) (v4, v5)
abbrev Hr3 (rec3 : GJ → Option GJ) : Prop := ∀ {a0 : GJ} {o : GJ}, rec3 a0 = some o → ACalls Tryd.prog 44 [.agg (z6 a0)] [] 3 (ki 3 (.agg (z6 o)) [])
theorem z9m {rec3 : GJ → Option GJ} (hrec3 : Hr3 rec3) {a0 : GJ} {v1 : (List (List UInt8))} {v5 : List (List AVal)} {m : Option Nat} {o : GJ} (h : wu rec3 m a0 v1 v5 = some o) :
 LWp Tryd.prog Yq 3 z04 (z4p a0 o) [(1, .ptr (3, 0) 0 0), (2, .ptr (4, 0) 0 0)] [((3, 0), .one [i6 a0.fK, i6 a0.fN, .str a0.fT, .isl 1 (v1.map z7) false, .osl (5, 0) 5 (v5.map z8)]), ((4, 0), .one [i6 0, i6 0, .str [], .isl 1 (([] : List (List UInt8)).map z7) true, .isl 5 (([] : List (List AVal)).map z8) true]), ((5, 0), .tok)] 6 := by
 unfold wu at h
 refine za (ze ?_)
 refine wh ?_
 cases h
 exact AI (AI TT (AI rfl (NB rfl))) (z49 (n' := 6) [] [] rfl rfl (Vw.aggL (S4 rfl rfl rfl rfl (AI (Vw.oslI _ _ _) TT))) TT)
theorem z8f {rec3 : GJ → Option GJ} (hrec3 : Hr3 rec3) {a0 : GJ} {v1 : (List (List UInt8))} {v4 : Int} {v5 : List (List AVal)} {m : Option Nat} {o : (Int × (List (List AVal))) ⊕ GJ} (h : x7 rec3 m a0 v1 v4 v5 = some o) :
 LWp Tryd.prog Yq 3 z4n (Zf 3 6 (Uj a0 v1) (z0h a0 v1) (z2q a0) o) [(1, .ptr (3, 0) 0 0), (2, .ptr (4, 0) 0 0), (13, .isl 5 (a0.fE.map z8) false), (14, i6 ((a0.fE.map z8).length : Int)), (15, i6 v4)] [((3, 0), .one [i6 a0.fK, i6 a0.fN, .str a0.fT, .isl 1 (v1.map z7) false, .osl (5, 0) 5 (v5.map z8)]), ((4, 0), .one [i6 0, i6 0, .str [], .isl 1 (([] : List (List UInt8)).map z7) true, .isl 5 (([] : List (List AVal)).map z8) true]), ((5, 0), .tok)] 6 := by
 unfold x7 at h
 refine za (ze ?_)
 refine za ?_
 refine yt (v := (decide (v4 < ((a0.fE.map z8).length : Int)))) rfl TT (fun h12 => ?_) (fun h12 => ?_)
 ·have h := zf h12 h
  refine xq ?_
  refine za ?_
  refine xw ?_
  refine za (ze ?_)
  obtain ⟨h13, h⟩ := qj h
  refine AI h13 ?_
  obtain ⟨v8, h14, h⟩ := bind_some h
  refine EX (z6 v8) (AI (j1 (wy z8 h13) h14) (AI (AI (vw h13) (NB rfl)) ?_))
  refine Xv ?_
  obtain ⟨v9, h15, h⟩ := bind_some h
  refine Xw (k := 3) (m := 0) (L' := []) (rest := [((6, 0), .one (z6 v8)), ((3, 0), .one [i6 a0.fK, i6 a0.fN, .str a0.fT, .isl 1 (v1.map z7) false, .osl (5, 0) 5 (v5.map z8)]), ((4, 0), .one [i6 0, i6 0, .str [], .isl 1 (([] : List (List UInt8)).map z7) true, .isl 5 (([] : List (List AVal)).map z8) true]), ((5, 0), .tok)]) (R' := .agg (z6 v9)) [] (hrec3 h15) rfl rfl rfl (AI (VS rfl) TT) TT (vj _ rfl) TT rfl ?_
  refine AI rfl ?_
  obtain ⟨h16, h⟩ := qj h
  refine EX ((v5 ++ ([z6 v9] : List (List AVal))).map z8) (AI (z0p z8 v5 ([z6 v9] : List (List AVal))) (AI h16 ?_))
  refine LWp.sim (e := [(1, .ptr (3, 0) 0 0), (2, .ptr (4, 0) 0 0), (13, .isl 5 (a0.fE.map z8) false), (14, i6 ((a0.fE.map z8).length : Int)), (15, i6 v4)]) (L := [((3, 0), .one [i6 a0.fK, i6 a0.fN, .str a0.fT, .isl 1 (v1.map z7) false, .osl (5, 0) 5 ((v5 ++ ([z6 v9] : List (List AVal))).map z8)]), ((4, 0), .one [i6 0, i6 0, .str [], .isl 1 (([] : List (List UInt8)).map z7) true, .isl 5 (([] : List (List AVal)).map z8) true]), ((5, 0), .tok)]) (n := 6) ?_ ?_
  ·exact yp (M := [((3, 0), (3, 0)), ((4, 0), (4, 0)), ((5, 0), (8, 0))]) rfl (SP rfl (SP rfl (S2 rfl rfl (AI (VS rfl) TT)))) (AI (AI rfl (BVw.oneL (S4 rfl rfl rfl rfl (AI (Vw.osl _ _ _ _ rfl) TT)))) (AI (AI rfl (OL rfl)) (AI (AI rfl BVw.tok) TT)))
  refine ze ?_
  cases h
  exact AI rfl (yp (M := [((3, 0), (3, 0)), ((4, 0), (4, 0)), ((5, 0), (5, 0))]) rfl (SP rfl (SP rfl (S2 rfl rfl (AI (VS rfl) TT)))) (AI (AI rfl (BVw.oneL (S4 rfl rfl rfl rfl (AI (Vw.osl _ _ _ _ rfl) TT)))) (AI (AI rfl (OL rfl)) (AI (AI rfl BVw.tok) TT))))
 ·have h := zp h12 h
  refine Xm ?_
  obtain ⟨o, hq, rfl⟩ := Option.map_eq_some_iff.1 h
  replace h := hq; clear hq
  refine AI nofun ?_
  refine LWp.sim ?_ (z9m hrec3 h)
  exact yp (M := [((3, 0), (3, 0)), ((4, 0), (4, 0)), ((5, 0), (5, 0))]) rfl (SP rfl (SP rfl TT)) (AI (AI rfl (BVw.oneL (S4 rfl rfl rfl rfl (AI (Vw.osl _ _ _ _ rfl) TT)))) (AI (AI rfl (OL rfl)) (AI (AI rfl BVw.tok) TT)))
theorem z9a {rec3 : GJ → Option GJ} (hrec3 : Hr3 rec3) {a0 : GJ} {v1 : (List (List UInt8))} {v4 : Int} {v5 : List (List AVal)} {m : Option Nat} {o : GJ} (h : xx rec3 m a0 v1 v4 v5 = some o) :
 LWp Tryd.prog Yq 3 (.loop z4n) (xn 0 (X5 Tryd.prog Yq 3 z04 (z4p a0 o))) [(1, .ptr (3, 0) 0 0), (2, .ptr (4, 0) 0 0), (13, .isl 5 (a0.fE.map z8) false), (14, i6 ((a0.fE.map z8).length : Int)), (15, i6 v4)] [((3, 0), .one [i6 a0.fK, i6 a0.fN, .str a0.fT, .isl 1 (v1.map z7) false, .osl (5, 0) 5 (v5.map z8)]), ((4, 0), .one [i6 0, i6 0, .str [], .isl 1 (([] : List (List UInt8)).map z7) true, .isl 5 (([] : List (List AVal)).map z8) true]), ((5, 0), .tok)] 6 :=
 w8 (m := m) (s := ((v4, v5) : (Int × (List (List AVal))))) (r := o) (fun (s : (Int × (List (List AVal)))) => x7 rec3 m a0 v1 s.1 s.2) (Uj a0 v1) (z0h a0 v1) (z2q a0) (fun s o h => z8f hrec3 h) h
noncomputable def xg (rec3 : GJ → Option GJ) (m : Option Nat) (a0 : GJ) : Option GJ :=
 (vi m a0.fA).bind fun v1 =>
 xx rec3 m a0 v1 0 []
theorem z9c {rec3 : GJ → Option GJ} (hrec3 : Hr3 rec3) {a0 : GJ} {m : Option Nat} {o : GJ} (h : xg rec3 m a0 = some o) : LWp Tryd.prog Yq 3 zdf (z4p a0 o) (y5 0 [.agg (z6 a0)]) [] 3 := by
 unfold xg at h
 refine za (ze ?_)
 refine za (ze ?_)
 refine za (ze ?_)
 obtain ⟨v1, h1, h⟩ := bind_some h
 refine PFn.call (zno h1) (AI (VS rfl) TT) ?_
 refine LWp.sim (e := [(1, .ptr (3, 0) 0 0), (2, .ptr (4, 0) 0 0), (3, .isl 5 (a0.fE.map z8) false)]) (L := [((3, 0), .one [i6 a0.fK, i6 a0.fN, .str a0.fT, .isl 1 (v1.map z7) false, .val (.slice none 0 0)]), ((4, 0), .one [i6 0, i6 0, .str [], .isl 1 (([] : List (List UInt8)).map z7) true, .isl 5 (([] : List (List AVal)).map z8) true])]) (n := 5) ?_ ?_
 ·exact yp (M := [((3, 0), (3, 0)), ((4, 0), (4, 0))]) rfl (SP rfl (SP rfl (AI (VS rfl) TT))) (AI (AI rfl (OL rfl)) (AI (AI rfl (OL rfl)) TT))
 refine za ?_
 refine za (ze ?_)
 refine xw ?_
 refine LWp.sim ?_ (z9a hrec3 h)
 exact yp (M := [((3, 0), (3, 0)), ((4, 0), (4, 0))]) rfl (SP rfl (SP rfl (S2 rfl rfl (AI (VS rfl) TT)))) (AI (AI rfl (BVw.oneL (S4 rfl rfl rfl rfl (AI (Vw.nilO _ _ (by decide)) TT)))) (AI (AI rfl (OL rfl)) (AI (AI rfl (AI (by decide) (by decide))) TT)))
theorem zdk {rec3 : GJ → Option GJ} (hrec3 : Hr3 rec3) {a0 : GJ} {m : Option Nat} {o : GJ} (h : xg rec3 m a0 = some o) : ACalls Tryd.prog 44 [.agg (z6 a0)] [] 3 (ki 3 (.agg (z6 o)) []) := Xx (L := zni) zmy zko (NB rfl) (z9c hrec3 h)
noncomputable def je (m : Option Nat) : Nat → GJ → Option GJ
 | 0 => fun _ => none
 | k + 1 => xg (je m k) m
noncomputable def u1 (m : Option Nat) (a0 : GJ) : Option GJ := zeo m (fun k => je m k a0)
theorem z8g {m : Option Nat} : ∀ (k : Nat) {a0 : GJ} {o : GJ}, je m k a0 = some o → ACalls Tryd.prog 44 [.agg (z6 a0)] [] 3 (ki 3 (.agg (z6 o)) [])
 | 0, _, _, h => nomatch h
 | k + 1, _, _, h => zdk (fun h => z8g k h) h
theorem znm {a0 : GJ} {m : Option Nat} {o : GJ} (h : u1 m a0 = some o) : ACalls Tryd.prog 44 [.agg (z6 a0)] [] 3 (ki 3 (.agg (z6 o)) []) := (Zs h).elim fun k h => z8g k h
noncomputable def Z2 (m : Option Nat) (a0 : GJ) : Option GJ := xg (u1 m) m a0
theorem zyc {a0 : GJ} {m : Option Nat} {o : GJ} (h : Z2 m a0 = some o) : PFn Tryd.prog 44 [.agg (z6 a0)] (.agg (z6 o)) :=
 ⟨rfl, _, Xw (k := 3) (m := 0) (L' := []) (rest := []) (R' := .agg (z6 o)) [] (zdk znm h) rfl rfl rfl (AI (VS rfl) TT) TT (vj _ rfl) TT rfl ⟨rfl, rfl, rfl⟩⟩
def zqo : LCode := (.seq (.region [Qo 2 (.alloc [(i6 0), (i6 0), (.str []), (.isl 1 [] true), (.isl 5 [] true)])])
 (.seq (.region [Qm 3 0,
  Qo 4 (.build [(i6 0), (i6 0), (.str []), (.isl 1 [] true), (.isl 5 [] true)] [(0, 1, (.c (i6 2))), (1, 1, (.t 3))]),
  ⟨none, .store 5 (.t 2) (.t 4), none⟩])
 .ret))
def zlm : Lay := ⟨5, [], false⟩
def zkc : List LRes := [.cell 2 true 5]
def zy3 : LFn := ⟨1, zlm, zqo, zkc⟩
theorem zvg : w9 Tryd.prog [] 53 = some zy3 := by kernel_rfl
theorem zt4 : uk Tryd.prog 53 := ⟨_, Tryd.func53, rfl, rfl⟩
noncomputable def jj (m : Option Nat) (a0 : Int) : Option GJ :=
 some (GJ.mk 2 a0 ([] : List UInt8) ([] : List (List UInt8)) ([] : List (List AVal)))
def y17 (a0 : Int) (o : GJ) : Exit → Env → AHeap → Nat → Prop := Zq zkc (x8 (.agg (z6 o)))
theorem zhf {a0 : Int} {m : Option Nat} {o : GJ} (h : jj m a0 = some o) : LWp Tryd.prog zlm 0 zqo (y17 a0 o) (y5 0 [i6 a0]) [] 0 := by
 unfold jj at h
 refine za (ze ?_)
 refine za (ze ?_)
 refine wh ?_
 cases h
 exact AI (AI TT (AI rfl (NB rfl))) (AI rfl (Vw.aggL (S2 rfl rfl (AI (VS rfl) (AI (Vw.islF _ _ _) (AI (Vw.islF _ _ _) TT))))))
theorem z8j {a0 : Int} {m : Option Nat} {o : GJ} (h : jj m a0 = some o) : PFn Tryd.prog 53 [i6 a0] (.agg (z6 o)) := PFn.ofFnW (L := zy3) zvg zt4 (NB rfl) rfl (zhf h)
def zs9 : LCode := (.seq (.region [Qo 2 (.alloc [(i6 0), (i6 0), (.str []), (.isl 1 [] true), (.isl 5 [] true)])])
 (.seq (.region [Qm 3 0,
  Qo 4 (.build [(i6 0), (i6 0), (.str []), (.isl 1 [] true), (.isl 5 [] true)] [(0, 1, (.c (i6 3))), (2, 1, (.t 3))]),
  ⟨none, .store 5 (.t 2) (.t 4), none⟩])
 .ret))
def zh9 : Lay := ⟨5, [], false⟩
def zh6 : List LRes := [.cell 2 true 5]
def zwt : LFn := ⟨1, zh9, zs9, zh6⟩
theorem zul : w9 Tryd.prog [] 54 = some zwt := by kernel_rfl
theorem zub : uk Tryd.prog 54 := ⟨_, Tryd.func54, rfl, rfl⟩
noncomputable def wz (m : Option Nat) (a0 : List UInt8) : Option GJ :=
 some (GJ.mk 3 0 a0 ([] : List (List UInt8)) ([] : List (List AVal)))
def y0d (a0 : List UInt8) (o : GJ) : Exit → Env → AHeap → Nat → Prop := Zq zh6 (x8 (.agg (z6 o)))
theorem zhc {a0 : List UInt8} {m : Option Nat} {o : GJ} (h : wz m a0 = some o) : LWp Tryd.prog zh9 0 zs9 (y0d a0 o) (y5 0 [.str a0]) [] 0 := by
 unfold wz at h
 refine za (ze ?_)
 refine za (ze ?_)
 refine wh ?_
 cases h
 exact AI (AI TT (AI rfl (NB rfl))) (AI rfl (Vw.aggL (S2 rfl rfl (AI (VS rfl) (AI (Vw.islF _ _ _) (AI (Vw.islF _ _ _) TT))))))
theorem zbj {a0 : List UInt8} {m : Option Nat} {o : GJ} (h : wz m a0 = some o) : PFn Tryd.prog 54 [.str a0] (.agg (z6 o)) := PFn.ofFnW (L := zwt) zul zub (NB rfl) rfl (zhc h)
def zs0 : LCode := (.seq (.region [Qo 4 (.alloc [(i6 0), (i6 0), (.str []), (.isl 1 [] true), (.isl 5 [] true)])])
 (.seq (.region [Qm 5 0,
  Qm 6 1,
  Qo 7 (.build [(i6 0), (i6 0), (.str []), (.isl 1 [] true), (.isl 5 [] true)] [(0, 1, (.c (i6 5))), (3, 1, (.t 5)), (4, 1, (.t 6))]),
  ⟨none, .store 5 (.t 4) (.t 7), none⟩])
 .ret))
def zkl : Lay := ⟨8, [], false⟩
def zg8 : List LRes := [.cell 4 true 5]
def zxt : LFn := ⟨2, zkl, zs0, zg8⟩
theorem zto : w9 Tryd.prog [] 35 = some zxt := by kernel_rfl
theorem ztu : uk Tryd.prog 35 := ⟨_, Tryd.func35, rfl, rfl⟩
noncomputable def qo (m : Option Nat) (a0 : List (List UInt8)) (a1 : List (List AVal)) : Option GJ :=
 some (GJ.mk 5 0 ([] : List UInt8) a0 a1)
def y1c (a0 : List (List UInt8)) (a1 : List (List AVal)) (o : GJ) : Exit → Env → AHeap → Nat → Prop := Zq zg8 (x8 (.agg (z6 o)))
theorem zjd {a0 : List (List UInt8)} {a1 : List (List AVal)} {m : Option Nat} {o : GJ} (h : qo m a0 a1 = some o) : LWp Tryd.prog zkl 0 zs0 (y1c a0 a1 o) (y5 0 [.isl 1 (a0.map z7) false, .isl 5 (a1.map z8) false]) [] 0 := by
 unfold qo at h
 refine za (ze ?_)
 refine za (ze ?_)
 refine wh ?_
 cases h
 exact AI (AI TT (AI rfl (NB rfl))) (AI rfl (VS rfl))
theorem Uf {a0 : List (List UInt8)} {a1 : List (List AVal)} {m : Option Nat} {o : GJ} (h : qo m a0 a1 = some o) : PFn Tryd.prog 35 [.isl 1 (a0.map z7) false, .isl 5 (a1.map z8) false] (.agg (z6 o)) := PFn.ofFnW (L := zxt) zto ztu (NB rfl) rfl (zjd h)
def zrq : LCode := (.seq (.region [Qo 1 (.box (.t 0)),
 Qo 2 (.alloc [(i6 0), (i6 0), (.str []), (.isl 1 [] true), (.isl 5 [] true)])])
 (.seq (.region [Qf 4 4 1,
  Qt 5 5 4,
  Qc 6 44 5,
  Qo 3 (.alloc [(i6 0), (i6 0), (.str []), (.isl 1 [] true), (.isl 5 [] true)]),
  ⟨none, .store 5 (.t 3) (.t 6), none⟩])
 (.seq (.seq (.region [Qf 7 0 1,
  Ql 8 1 7])
 (.block 0
  (.seq (.region [Qo 10 (.bin .eql (.t 8) (.c (i6 1))),
   Qm 9 10])
  (.cond (.t 9)
   (.seq (.draw [⟨Qf 12 1 1, []⟩,
    ⟨Ql 13 1 12, []⟩,
    ⟨Qf 15 3 1, []⟩,
    ⟨Ql 16 1 15, []⟩,
    ⟨Qt 18 5 3, []⟩,
    ⟨Qo 11 (.mkSl true 1 [(.str [])] 3 [(0, (.c (.str [105, 100]))), (1, (.c (.str [109, 101, 116, 104, 111, 100]))), (2, (.c (.str [112, 97, 114, 97, 109, 115])))]), []⟩,
    ⟨Qc 14 53 13, [3, 4]⟩,
    ⟨Qc 17 54 16, [4]⟩,
    ⟨Qo 19 (.mkSl true 5 [(i6 0), (i6 0), (.str []), (.isl 1 [] true), (.isl 5 [] true)] 3 [(0, (.t 14)), (1, (.t 17)), (2, (.t 18))]), []⟩,
    ⟨Qo 20 (.call 35 [(.t 11), (.t 19)]), []⟩,
    ⟨⟨none, .store 5 (.t 2) (.t 20), none⟩, []⟩])
   .ret)
   (.seq (.region [Qo 22 (.bin .eql (.t 8) (.c (i6 2))),
    Qm 21 22])
   (.cond (.t 21)
    (.seq (.draw [⟨Qf 24 3 1, []⟩,
     ⟨Ql 25 1 24, []⟩,
     ⟨Qt 27 5 3, []⟩,
     ⟨Qo 23 (.mkSl true 1 [(.str [])] 2 [(0, (.c (.str [109, 101, 116, 104, 111, 100]))), (1, (.c (.str [112, 97, 114, 97, 109, 115])))]), []⟩,
     ⟨Qc 26 54 25, [2]⟩,
     ⟨Qo 28 (.mkSl true 5 [(i6 0), (i6 0), (.str []), (.isl 1 [] true), (.isl 5 [] true)] 2 [(0, (.t 26)), (1, (.t 27))]), []⟩,
     ⟨Qo 29 (.call 35 [(.t 23), (.t 28)]), []⟩,
     ⟨⟨none, .store 5 (.t 2) (.t 29), none⟩, []⟩])
    .ret)
    (.seq (.region [Qo 31 (.bin .eql (.t 8) (.c (i6 3))),
     Qm 30 31])
    (.cond (.t 30)
     (.seq (.draw [⟨Qf 33 1 1, []⟩,
      ⟨Ql 34 1 33, []⟩,
      ⟨Qt 36 5 3, []⟩,
      ⟨Qo 32 (.mkSl true 1 [(.str [])] 2 [(0, (.c (.str [105, 100]))), (1, (.c (.str [114, 101, 115, 117, 108, 116])))]), []⟩,
      ⟨Qc 35 53 34, [2]⟩,
      ⟨Qo 37 (.mkSl true 5 [(i6 0), (i6 0), (.str []), (.isl 1 [] true), (.isl 5 [] true)] 2 [(0, (.t 35)), (1, (.t 36))]), []⟩,
      ⟨Qo 38 (.call 35 [(.t 32), (.t 37)]), []⟩,
      ⟨⟨none, .store 5 (.t 2) (.t 38), none⟩, []⟩])
     .ret)
     (.seq (.region [Qo 40 (.bin .eql (.t 8) (.c (i6 4))),
      Qm 39 40])
     (.cond (.t 39)
      (.seq (.draw [⟨Qf 42 1 1, []⟩,
       ⟨Ql 43 1 42, []⟩,
       ⟨Qf 46 2 1, []⟩,
       ⟨Ql 47 1 46, []⟩,
       ⟨Qf 49 3 1, []⟩,
       ⟨Ql 50 1 49, []⟩,
       ⟨Qo 41 (.mkSl true 1 [(.str [])] 2 [(0, (.c (.str [105, 100]))), (1, (.c (.str [101, 114, 114, 111, 114])))]), []⟩,
       ⟨Qo 45 (.mkSl true 1 [(.str [])] 2 [(0, (.c (.str [99, 111, 100, 101]))), (1, (.c (.str [109, 101, 115, 115, 97, 103, 101])))]), []⟩,
       ⟨Qc 44 53 43, [3, 5]⟩,
       ⟨Qc 48 53 47, [5]⟩,
       ⟨Qc 51 54 50, []⟩,
       ⟨Qo 52 (.mkSl true 5 [(i6 0), (i6 0), (.str []), (.isl 1 [] true), (.isl 5 [] true)] 2 [(0, (.t 48)), (1, (.t 51))]), []⟩,
       ⟨Qo 53 (.call 35 [(.t 45), (.t 52)]), []⟩,
       ⟨Qo 54 (.mkSl true 5 [(i6 0), (i6 0), (.str []), (.isl 1 [] true), (.isl 5 [] true)] 2 [(0, (.t 44)), (1, (.t 53))]), []⟩,
       ⟨Qo 55 (.call 35 [(.t 41), (.t 54)]), []⟩,
       ⟨⟨none, .store 5 (.t 2) (.t 55), none⟩, []⟩])
      .ret)
      .skip))))))))))
 (.seq (.draw [⟨Qf 59 1 1, []⟩,
  ⟨Ql 60 1 59, []⟩,
  ⟨Qo 56 (.mkSl true 1 [(.str [])] 2 [(0, (.c (.str [109, 101, 116, 104, 111, 100]))), (1, (.c (.str [112, 97, 114, 97, 109, 115])))]), []⟩,
  ⟨Qo 58 (.mkSl true 1 [(.str [])] 1 [(0, (.c (.str [105, 100])))]), []⟩,
  ⟨Qo 57 (.call 54 [(.c (.str [36, 47, 99, 97, 110, 99, 101, 108]))]), [1]⟩,
  ⟨Qc 61 53 60, []⟩,
  ⟨Qo 62 (.mkSl true 5 [(i6 0), (i6 0), (.str []), (.isl 1 [] true), (.isl 5 [] true)] 1 [(0, (.t 61))]), []⟩,
  ⟨Qo 63 (.call 35 [(.t 58), (.t 62)]), []⟩,
  ⟨Qo 64 (.mkSl true 5 [(i6 0), (i6 0), (.str []), (.isl 1 [] true), (.isl 5 [] true)] 2 [(0, (.t 57)), (1, (.t 63))]), []⟩,
  ⟨Qo 65 (.call 35 [(.t 56), (.t 64)]), []⟩,
  ⟨⟨none, .store 5 (.t 2) (.t 65), none⟩, []⟩])
 .ret))))
def zgj : Lay := ⟨66, [], false⟩
def zic : List LRes := [.cell 2 true 5]
def zy6 : LFn := ⟨1, zgj, zrq, zic⟩
theorem zux : w9 Tryd.prog [] 29 = some zy6 := by kernel_rfl
theorem zuy : uk Tryd.prog 29 := ⟨_, Tryd.func29, rfl, rfl⟩
noncomputable def jw (m : Option Nat) (a0 : GM) : Option GJ :=
 (Z2 m (GJ.mk a0.fB.fK a0.fB.fN a0.fB.fT a0.fB.fA a0.fB.fE)).bind fun v1 =>
 if (a0.fK == 1) = true then
  (jj m a0.fI).bind fun v2 =>
  (wz m a0.fM).bind fun v3 =>
  (qo m ([([105, 100] : List UInt8), ([109, 101, 116, 104, 111, 100] : List UInt8), ([112, 97, 114, 97, 109, 115] : List UInt8)] : List (List UInt8)) ([z6 v2, z6 v3, z6 v1] : List (List AVal))).bind fun v4 =>
  some v4
 else
  if (a0.fK == 2) = true then
   (wz m a0.fM).bind fun v5 =>
   (qo m ([([109, 101, 116, 104, 111, 100] : List UInt8), ([112, 97, 114, 97, 109, 115] : List UInt8)] : List (List UInt8)) ([z6 v5, z6 v1] : List (List AVal))).bind fun v6 =>
   some v6
  else
   if (a0.fK == 3) = true then
    (jj m a0.fI).bind fun v7 =>
    (qo m ([([105, 100] : List UInt8), ([114, 101, 115, 117, 108, 116] : List UInt8)] : List (List UInt8)) ([z6 v7, z6 v1] : List (List AVal))).bind fun v8 =>
    some v8
   else
    if (a0.fK == 4) = true then
     (jj m a0.fI).bind fun v9 =>
     (jj m a0.fC).bind fun v10 =>
     (wz m a0.fM).bind fun v11 =>
     (qo m ([([99, 111, 100, 101] : List UInt8), ([109, 101, 115, 115, 97, 103, 101] : List UInt8)] : List (List UInt8)) ([z6 v10, z6 v11] : List (List AVal))).bind fun v12 =>
     (qo m ([([105, 100] : List UInt8), ([101, 114, 114, 111, 114] : List UInt8)] : List (List UInt8)) ([z6 v9, z6 v12] : List (List AVal))).bind fun v13 =>
     some v13
    else
     (wz m ([36, 47, 99, 97, 110, 99, 101, 108] : List UInt8)).bind fun v14 =>
     (jj m a0.fI).bind fun v15 =>
     (qo m ([([105, 100] : List UInt8)] : List (List UInt8)) ([z6 v15] : List (List AVal))).bind fun v16 =>
     (qo m ([([109, 101, 116, 104, 111, 100] : List UInt8), ([112, 97, 114, 97, 109, 115] : List UInt8)] : List (List UInt8)) ([z6 v14, z6 v16] : List (List AVal))).bind fun v17 =>
     some v17
def y0a (a0 : GM) (o : GJ) : Exit → Env → AHeap → Nat → Prop := Zq zic (x8 (.agg (z6 o)))
theorem zm7 {a0 : GM} {m : Option Nat} {o : GJ} (h : jw m a0 = some o) : LWp Tryd.prog zgj 0 zrq (y0a a0 o) (y5 0 [.agg [i6 a0.fK, i6 a0.fI, i6 a0.fC, .str a0.fM, i6 a0.fB.fK, i6 a0.fB.fN, .str a0.fB.fT, .isl 1 (a0.fB.fA.map z7) false, .isl 5 (a0.fB.fE.map z8) false]]) [] 0 := by
 unfold jw at h
 refine za (ze ?_)
 refine za (ze ?_)
 obtain ⟨v1, h1, h⟩ := bind_some h
 refine PFn.call (zyc h1) (AI (VS rfl) TT) ?_
 refine za ?_
 refine za (ze ?_)
 refine LWp.sim (e := [(1, .ptr (0, 0) 0 0), (2, .ptr (1, 0) 0 0), (3, .ptr (2, 0) 0 0), (8, i6 a0.fK)]) (L := [((0, 0), .one [i6 a0.fK, i6 a0.fI, i6 a0.fC, .str a0.fM, i6 a0.fB.fK, i6 a0.fB.fN, .str a0.fB.fT, .isl 1 (a0.fB.fA.map z7) false, .isl 5 (a0.fB.fE.map z8) false]), ((1, 0), .one [i6 0, i6 0, .str [], .isl 1 (([] : List (List UInt8)).map z7) true, .isl 5 (([] : List (List AVal)).map z8) true]), ((2, 0), .one (z6 v1))]) (n := 3) ?_ ?_
 ·exact yp (M := [((0, 0), (0, 0)), ((1, 0), (1, 0)), ((2, 0), (2, 0))]) rfl (SP rfl (SP rfl (SP rfl (AI (VS rfl) TT)))) (AI (AI rfl (OL rfl)) (AI (AI rfl (OL rfl)) (AI (AI rfl (OL rfl)) TT)))
 refine xw ?_
 refine za (ze ?_)
 refine yt (v := (a0.fK == 1)) rfl TT (fun h2 => ?_) (fun h2 => ?_)
 ·have h := zf h2 h
  refine za ?_
  refine Xv ?_
  obtain ⟨v2, h3, h⟩ := bind_some h
  refine PFn.call (z8j h3) (AI (VS rfl) TT) ?_
  refine AI rfl ?_
  refine AI rfl ?_
  obtain ⟨v3, h4, h⟩ := bind_some h
  refine PFn.call (zbj h4) (AI (VS rfl) TT) ?_
  refine AI rfl ?_
  obtain ⟨v4, h5, h⟩ := bind_some h
  refine PFn.call (Uf h5) (AI (Vw.islF _ _ _) (AI (Vw.islF _ _ _) TT)) ?_
  refine LWp.sim (e := [(2, .ptr (0, 0) 0 0)]) (L := [((0, 0), .one (z6 v4))]) (n := 1) ?_ ?_
  ·exact yp (M := [((0, 0), (1, 0))]) rfl (SP rfl TT) (AI (AI rfl (OL rfl)) TT)
  refine wh ?_
  cases h
  exact AI (AI TT (AI rfl (NB rfl))) (AI rfl (VS rfl))
 ·have h := zp h2 h
  refine za (ze ?_)
  refine yt (v := (a0.fK == 2)) rfl TT (fun h6 => ?_) (fun h6 => ?_)
  ·have h := zf h6 h
   refine za ?_
   refine Xv ?_
   obtain ⟨v5, h7, h⟩ := bind_some h
   refine PFn.call (zbj h7) (AI (VS rfl) TT) ?_
   refine AI rfl ?_
   obtain ⟨v6, h8, h⟩ := bind_some h
   refine PFn.call (Uf h8) (AI (Vw.islF _ _ _) (AI (Vw.islF _ _ _) TT)) ?_
   refine LWp.sim (e := [(2, .ptr (0, 0) 0 0)]) (L := [((0, 0), .one (z6 v6))]) (n := 1) ?_ ?_
   ·exact yp (M := [((0, 0), (1, 0))]) rfl (SP rfl TT) (AI (AI rfl (OL rfl)) TT)
   refine wh ?_
   cases h
   exact AI (AI TT (AI rfl (NB rfl))) (AI rfl (VS rfl))
  ·have h := zp h6 h
   refine za (ze ?_)
   refine yt (v := (a0.fK == 3)) rfl TT (fun h9 => ?_) (fun h9 => ?_)
   ·have h := zf h9 h
    refine za ?_
    refine Xv ?_
    obtain ⟨v7, h10, h⟩ := bind_some h
    refine PFn.call (z8j h10) (AI (VS rfl) TT) ?_
    refine AI rfl ?_
    obtain ⟨v8, h11, h⟩ := bind_some h
    refine PFn.call (Uf h11) (AI (Vw.islF _ _ _) (AI (Vw.islF _ _ _) TT)) ?_
    refine LWp.sim (e := [(2, .ptr (0, 0) 0 0)]) (L := [((0, 0), .one (z6 v8))]) (n := 1) ?_ ?_
    ·exact yp (M := [((0, 0), (1, 0))]) rfl (SP rfl TT) (AI (AI rfl (OL rfl)) TT)
    refine wh ?_
    cases h
    exact AI (AI TT (AI rfl (NB rfl))) (AI rfl (VS rfl))
   ·have h := zp h9 h
    refine za (ze ?_)
    refine LWp.sim (e := [(1, .ptr (0, 0) 0 0), (2, .ptr (1, 0) 0 0), (39, .bool (a0.fK == 4))]) (L := [((0, 0), .one [i6 a0.fK, i6 a0.fI, i6 a0.fC, .str a0.fM, i6 a0.fB.fK, i6 a0.fB.fN, .str a0.fB.fT, .isl 1 (a0.fB.fA.map z7) false, .isl 5 (a0.fB.fE.map z8) false]), ((1, 0), .one [i6 0, i6 0, .str [], .isl 1 (([] : List (List UInt8)).map z7) true, .isl 5 (([] : List (List AVal)).map z8) true])]) (n := 2) ?_ ?_
    ·exact yp (M := [((0, 0), (0, 0)), ((1, 0), (1, 0))]) rfl (SP rfl (SP rfl (AI (VS rfl) TT))) (AI (AI rfl (OL rfl)) (AI (AI rfl (OL rfl)) TT))
    refine yt (v := (a0.fK == 4)) rfl TT (fun h12 => ?_) (fun h12 => ?_)
    ·have h := zf h12 h
     refine za ?_
     refine Xv ?_
     obtain ⟨v9, h13, h⟩ := bind_some h
     refine PFn.call (z8j h13) (AI (VS rfl) TT) ?_
     refine AI rfl ?_
     refine AI rfl ?_
     obtain ⟨v10, h14, h⟩ := bind_some h
     refine PFn.call (z8j h14) (AI (VS rfl) TT) ?_
     refine AI rfl ?_
     obtain ⟨v11, h15, h⟩ := bind_some h
     refine PFn.call (zbj h15) (AI (VS rfl) TT) ?_
     obtain ⟨v12, h16, h⟩ := bind_some h
     refine PFn.call (Uf h16) (AI (Vw.islF _ _ _) (AI (Vw.islF _ _ _) TT)) ?_
     obtain ⟨v13, h17, h⟩ := bind_some h
     refine PFn.call (Uf h17) (AI (Vw.islF _ _ _) (AI (Vw.islF _ _ _) TT)) ?_
     refine LWp.sim (e := [(2, .ptr (0, 0) 0 0)]) (L := [((0, 0), .one (z6 v13))]) (n := 1) ?_ ?_
     ·exact yp (M := [((0, 0), (1, 0))]) rfl (SP rfl TT) (AI (AI rfl (OL rfl)) TT)
     refine wh ?_
     cases h
     exact AI (AI TT (AI rfl (NB rfl))) (AI rfl (VS rfl))
    ·have h := zp h12 h
     refine xq ?_
     refine za ?_
     refine Xv ?_
     obtain ⟨v14, h18, h⟩ := bind_some h
     refine PFn.call (zbj h18) (AI (VS rfl) TT) ?_
     refine AI rfl ?_
     obtain ⟨v15, h19, h⟩ := bind_some h
     refine PFn.call (z8j h19) (AI (VS rfl) TT) ?_
     obtain ⟨v16, h20, h⟩ := bind_some h
     refine PFn.call (Uf h20) (AI (Vw.islF _ _ _) (AI (Vw.islF _ _ _) TT)) ?_
     obtain ⟨v17, h21, h⟩ := bind_some h
     refine PFn.call (Uf h21) (AI (Vw.islF _ _ _) (AI (Vw.islF _ _ _) TT)) ?_
     refine LWp.sim (e := [(2, .ptr (0, 0) 0 0)]) (L := [((0, 0), .one (z6 v17))]) (n := 1) ?_ ?_
     ·exact yp (M := [((0, 0), (1, 0))]) rfl (SP rfl TT) (AI (AI rfl (OL rfl)) TT)
     refine wh ?_
     cases h
     exact AI (AI TT (AI rfl (NB rfl))) (AI rfl (VS rfl))
theorem zyj {a0 : GM} {m : Option Nat} {o : GJ} (h : jw m a0 = some o) : PFn Tryd.prog 29 [.agg [i6 a0.fK, i6 a0.fI, i6 a0.fC, .str a0.fM, i6 a0.fB.fK, i6 a0.fB.fN, .str a0.fB.fT, .isl 1 (a0.fB.fA.map z7) false, .isl 5 (a0.fB.fE.map z8) false]] (.agg (z6 o)) := PFn.ofFnW (L := zy6) zux zuy (NB rfl) rfl (zm7 h)
def zzr : LCode := (.seq (.region [Qo 1 (.box (.t 0)),
 Qo 2 (.alloc [(i6 0), (i6 0), (.str []), (.isl 1 [] true), (.isl 5 [] true)]),
 Qi 3 0])
 (.seq (.seq (.region [Qf 7 0 1,
  Ql 8 1 7,
  Qo 9 (.bin .lss (.t 8) (.c (i6 1))),
  Qm 10 9,
  Qe 11 0 1 (10, false),
  Qk 12 1 11 (10, false),
  Qg 13 (.bin .gtr (.t 12) (.c (i6 5))) (10, false),
  Qo 14 (.pick (.t 10) (.c (.bool true)) (.t 13))])
 (.cond (.t 14)
  (.seq (.region [Qo 15 (.build [(i6 0), (i6 0), (.str []), (.isl 1 [] true), (.isl 5 [] true)] []),
   ⟨none, .store 5 (.t 2) (.t 15), none⟩,
   Qi 3 7])
  .ret)
  .skip))
 (.seq (.seq (.region [Qt 16 9 1,
  Qc 17 27 16,
  Qo 18 (.un .not (.t 17))])
 (.cond (.t 18)
  (.seq (.region [Qo 19 (.build [(i6 0), (i6 0), (.str []), (.isl 1 [] true), (.isl 5 [] true)] []),
   ⟨none, .store 5 (.t 2) (.t 19), none⟩,
   Qi 3 3])
  .ret)
  .skip))
 (.seq (.seq (.region [Qf 20 4 1,
  Qt 21 5 20,
  Qc 22 28 21,
  Qm 4 22])
 (.seq (.region [Qm 23 4,
  Qo 24 (.bin .neq (.t 23) (.c (i6 0)))])
 (.cond (.t 24)
  (.seq (.region [Qo 25 (.build [(i6 0), (i6 0), (.str []), (.isl 1 [] true), (.isl 5 [] true)] []),
   Qm 26 4,
   ⟨none, .store 5 (.t 2) (.t 25), none⟩,
   Qm 3 26])
  .ret)
  .skip)))
 (.seq (.region [Qt 27 9 1,
  Qc 28 29 27,
  Qo 5 (.alloc [(i6 0), (i6 0), (.str []), (.isl 1 [] true), (.isl 5 [] true)]),
  ⟨none, .store 5 (.t 5) (.t 28), none⟩])
 (.seq (.seq (.region [Qt 29 5 5,
  Qc 30 28 29,
  Qm 6 30])
 (.seq (.region [Qm 31 6,
  Qo 32 (.bin .neq (.t 31) (.c (i6 0)))])
 (.cond (.t 32)
  (.seq (.region [Qo 33 (.build [(i6 0), (i6 0), (.str []), (.isl 1 [] true), (.isl 5 [] true)] []),
   Qm 34 6,
   ⟨none, .store 5 (.t 2) (.t 33), none⟩,
   Qm 3 34])
  .ret)
  .skip)))
 (.seq (.region [Qt 35 5 5,
  ⟨none, .store 5 (.t 2) (.t 35), none⟩,
  Qi 3 0])
 .ret)))))))
def zqi : Lay := ⟨36, [], false⟩
def zro : List LRes := [.cell 2 true 5, .t 3]
def y1w : LFn := ⟨1, zqi, zzr, zro⟩
theorem zzd : w9 Tryd.prog [] 7 = some y1w := by kernel_rfl
theorem zxx : uk Tryd.prog 7 := ⟨_, Tryd.func7, rfl, rfl⟩
noncomputable def wq (m : Option Nat) (a0 : GM) : Option (GJ × Int) :=
 if ((decide (a0.fK < 1)) || (decide (a0.fK > 5))) = true then
  some ((GJ.mk 0 0 [] [] []), 7)
 else
  (jd m (GM.mk a0.fK a0.fI a0.fC a0.fM (GJ.mk a0.fB.fK a0.fB.fN a0.fB.fT a0.fB.fA a0.fB.fE))).bind fun v1 =>
  if (!v1) = true then
   some ((GJ.mk 0 0 [] [] []), 3)
  else
   (qz m (GJ.mk a0.fB.fK a0.fB.fN a0.fB.fT a0.fB.fA a0.fB.fE)).bind fun v2 =>
   if (v2 != 0) = true then
    some ((GJ.mk 0 0 [] [] []), v2)
   else
    (jw m (GM.mk a0.fK a0.fI a0.fC a0.fM (GJ.mk a0.fB.fK a0.fB.fN a0.fB.fT a0.fB.fA a0.fB.fE))).bind fun v3 =>
    (qz m v3).bind fun v4 =>
    if (v4 != 0) = true then
     some ((GJ.mk 0 0 [] [] []), v4)
    else
     some (v3, 0)
def y22 (a0 : GM) (o : GJ × Int) : Exit → Env → AHeap → Nat → Prop := Zq zro (x8 (.tup [.agg (z6 o.1), i6 o.2]))
theorem zp2 {a0 : GM} {m : Option Nat} {o : GJ × Int} (h : wq m a0 = some o) : LWp Tryd.prog zqi 0 zzr (y22 a0 o) (y5 0 [.agg [i6 a0.fK, i6 a0.fI, i6 a0.fC, .str a0.fM, i6 a0.fB.fK, i6 a0.fB.fN, .str a0.fB.fT, .isl 1 (a0.fB.fA.map z7) false, .isl 5 (a0.fB.fE.map z8) false]]) [] 0 := by
 unfold wq at h
 refine za (ze ?_)
 refine za ?_
 refine za (ze ?_)
 refine AI (fun hp => hp) ?_
 refine AI (fun hp => hp) ?_
 refine AI (fun hc => (bqf hc)) ?_
 refine LWp.sim (e := [(1, .ptr (0, 0) 0 0), (2, .ptr (1, 0) 0 0), (14, .bool ((decide (a0.fK < 1)) || (decide (a0.fK > 5))))]) (L := [((0, 0), .one [i6 a0.fK, i6 a0.fI, i6 a0.fC, .str a0.fM, i6 a0.fB.fK, i6 a0.fB.fN, .str a0.fB.fT, .isl 1 (a0.fB.fA.map z7) false, .isl 5 (a0.fB.fE.map z8) false]), ((1, 0), .one [i6 0, i6 0, .str [], .isl 1 (([] : List (List UInt8)).map z7) true, .isl 5 (([] : List (List AVal)).map z8) true])]) (n := 2) ?_ ?_
 ·exact yp (M := [((0, 0), (0, 0)), ((1, 0), (1, 0))]) rfl (SP rfl (SP rfl (AI (VS rfl) TT))) (AI (AI rfl (OL rfl)) (AI (AI rfl (OL rfl)) TT))
 refine yt (v := ((decide (a0.fK < 1)) || (decide (a0.fK > 5)))) rfl TT (fun h1 => ?_) (fun h1 => ?_)
 ·have h := zf h1 h
  refine za (ze ?_)
  refine wh ?_
  cases h
  exact AI (AI TT (AI rfl (NB rfl))) (AI TT (AI rfl (Vw.tupL (AI (Vw.aggL (S2 rfl rfl (AI (VS rfl) (AI (Vw.islF _ _ _) (AI (Vw.islF _ _ _) TT))))) (AI (VS rfl) TT)))))
 ·have h := zp h1 h
  refine xq ?_
  refine za ?_
  refine za (ze ?_)
  obtain ⟨v1, h2, h⟩ := bind_some h
  refine PFn.call (zzl h2) (AI (VS rfl) TT) ?_
  refine yt (v := (!v1)) rfl TT (fun h3 => ?_) (fun h3 => ?_)
  ·have h := zf h3 h
   refine za (ze ?_)
   refine wh ?_
   cases h
   exact AI (AI TT (AI rfl (NB rfl))) (AI TT (AI rfl (Vw.tupL (AI (Vw.aggL (S2 rfl rfl (AI (VS rfl) (AI (Vw.islF _ _ _) (AI (Vw.islF _ _ _) TT))))) (AI (VS rfl) TT)))))
  ·have h := zp h3 h
   refine xq ?_
   refine za ?_
   refine za (ze ?_)
   obtain ⟨v2, h4, h⟩ := bind_some h
   refine PFn.call (zbw h4) (AI (VS rfl) TT) ?_
   refine za (ze ?_)
   refine LWp.sim (e := [(1, .ptr (0, 0) 0 0), (2, .ptr (1, 0) 0 0), (4, i6 v2), (24, .bool (v2 != 0))]) (L := [((0, 0), .one [i6 a0.fK, i6 a0.fI, i6 a0.fC, .str a0.fM, i6 a0.fB.fK, i6 a0.fB.fN, .str a0.fB.fT, .isl 1 (a0.fB.fA.map z7) false, .isl 5 (a0.fB.fE.map z8) false]), ((1, 0), .one [i6 0, i6 0, .str [], .isl 1 (([] : List (List UInt8)).map z7) true, .isl 5 (([] : List (List AVal)).map z8) true])]) (n := 2) ?_ ?_
   ·exact yp (M := [((0, 0), (0, 0)), ((1, 0), (1, 0))]) rfl (SP rfl (SP rfl (S2 rfl rfl TT))) (AI (AI rfl (OL rfl)) (AI (AI rfl (OL rfl)) TT))
   refine yt (v := (v2 != 0)) rfl TT (fun h5 => ?_) (fun h5 => ?_)
   ·have h := zf h5 h
    refine za (ze ?_)
    refine wh ?_
    cases h
    exact AI (AI TT (AI rfl (NB rfl))) (AI TT (AI rfl (Vw.tupL (AI (Vw.aggL (S2 rfl rfl (AI (VS rfl) (AI (Vw.islF _ _ _) (AI (Vw.islF _ _ _) TT))))) (AI (VS rfl) TT)))))
   ·have h := zp h5 h
    refine xq ?_
    refine za (ze ?_)
    obtain ⟨v3, h6, h⟩ := bind_some h
    refine PFn.call (zyj h6) (AI (VS rfl) TT) ?_
    refine za ?_
    refine za (ze ?_)
    obtain ⟨v4, h7, h⟩ := bind_some h
    refine PFn.call (zbw h7) (AI (VS rfl) TT) ?_
    refine za (ze ?_)
    refine LWp.sim (e := [(2, .ptr (0, 0) 0 0), (5, .ptr (1, 0) 0 0), (6, i6 v4), (32, .bool (v4 != 0))]) (L := [((0, 0), .one [i6 0, i6 0, .str [], .isl 1 (([] : List (List UInt8)).map z7) true, .isl 5 (([] : List (List AVal)).map z8) true]), ((1, 0), .one (z6 v3))]) (n := 2) ?_ ?_
    ·exact yp (M := [((0, 0), (1, 0)), ((1, 0), (2, 0))]) rfl (SP rfl (SP rfl (S2 rfl rfl TT))) (AI (AI rfl (OL rfl)) (AI (AI rfl (OL rfl)) TT))
    refine yt (v := (v4 != 0)) rfl TT (fun h8 => ?_) (fun h8 => ?_)
    ·have h := zf h8 h
     refine za (ze ?_)
     refine wh ?_
     cases h
     exact AI (AI TT (AI rfl (NB rfl))) (AI TT (AI rfl (Vw.tupL (AI (Vw.aggL (S2 rfl rfl (AI (VS rfl) (AI (Vw.islF _ _ _) (AI (Vw.islF _ _ _) TT))))) (AI (VS rfl) TT)))))
    ·have h := zp h8 h
     refine xq ?_
     refine za (ze ?_)
     refine wh ?_
     cases h
     exact AI (AI TT (AI rfl (NB rfl))) (AI TT (AI rfl (VS rfl)))
theorem y0u {a0 : GM} {m : Option Nat} {o : GJ × Int} (h : wq m a0 = some o) : PFn Tryd.prog 7 [.agg [i6 a0.fK, i6 a0.fI, i6 a0.fC, .str a0.fM, i6 a0.fB.fK, i6 a0.fB.fN, .str a0.fB.fT, .isl 1 (a0.fB.fA.map z7) false, .isl 5 (a0.fB.fE.map z8) false]] (.tup [.agg (z6 o.1), i6 o.2]) := PFn.ofFnW (L := y1w) zzd zxx (NB rfl) rfl (zp2 h)
def zra : LCode := (.seq (.region [Qo 3 (.box (.t 0)),
 Qo 4 (.box (.t 1)),
 Qo 6 (.alloc [(i6 0), (i6 0), (.str []), (.isl 1 [] true), (.isl 5 [] true)]),
 Qb 7])
 (.seq (.seq (.region [Qf 9 0 3,
  Ql 10 1 9,
  Qo 11 (.bin .neq (.t 10) (.c (i6 5)))])
 (.cond (.t 11)
  (.seq (.region [Qf 12 4 4,
   Ql 13 1 12,
   Qm 14 2,
   Qo 15 (.iaddr 5 (.t 13) (.t 14)),
   Qt 16 5 15,
   ⟨none, .store 5 (.t 6) (.t 16), none⟩,
   Qo 7 (.mv (.c (.bool true)))])
  .ret)
  .skip))
 (.seq (.seq (.region [Qm 17 2,
  Qf 18 3 3,
  Ql 19 1 18,
  Qo 20 (.len false (.t 19)),
  Qo 21 (.bin .geq (.t 17) (.t 20))])
 (.cond (.t 21)
  (.seq (.region [Qo 22 (.build [(i6 0), (i6 0), (.str []), (.isl 1 [] true), (.isl 5 [] true)] []),
   ⟨none, .store 5 (.t 6) (.t 22), none⟩,
   Qb 7])
  .ret)
  .skip))
 (.seq (.draw [⟨Qf 23 3 4, []⟩,
  ⟨Ql 24 1 23, []⟩,
  ⟨Qf 25 3 3, []⟩,
  ⟨Ql 26 1 25, []⟩,
  ⟨Qm 27 2, []⟩,
  ⟨Qo 28 (.iaddr 1 (.t 26) (.t 27)), []⟩,
  ⟨Ql 29 1 28, []⟩,
  ⟨Qo 30 (.call 75 [(.t 24), (.t 29)]), []⟩,
  ⟨Qm 8 30, []⟩])
 (.seq (.seq (.region [Qm 31 8,
  Qo 32 (.bin .lss (.t 31) (.c (i6 0))),
  Qm 33 32,
  Qn 34 8 (33, false),
  Qe 35 4 4 (33, false),
  Qk 36 1 35 (33, false),
  Qg 37 (.len false (.t 36)) (33, false),
  Qg 38 (.bin .geq (.t 34) (.t 37)) (33, false),
  Qo 39 (.pick (.t 33) (.c (.bool true)) (.t 38))])
 (.cond (.t 39)
  (.seq (.region [Qo 40 (.build [(i6 0), (i6 0), (.str []), (.isl 1 [] true), (.isl 5 [] true)] []),
   ⟨none, .store 5 (.t 6) (.t 40), none⟩,
   Qb 7])
  .ret)
  .skip))
 (.seq (.region [Qf 41 4 4,
  Ql 42 1 41,
  Qm 43 8,
  Qo 44 (.iaddr 5 (.t 42) (.t 43)),
  Qt 45 5 44,
  ⟨none, .store 5 (.t 6) (.t 45), none⟩,
  Qo 7 (.mv (.c (.bool true)))])
 .ret))))))
def zj0 : Lay := ⟨46, [], false⟩
def zgh : List LRes := [.cell 6 true 5, .t 7]
def zws : LFn := ⟨3, zj0, zra, zgh⟩
theorem zur : w9 Tryd.prog [] 77 = some zws := by kernel_rfl
theorem zv7 : uk Tryd.prog 77 := ⟨_, Tryd.func77, rfl, rfl⟩
noncomputable def jn (m : Option Nat) (a0 : GJ) (a1 : GJ) (a2 : Int) : Option (GJ × Bool) :=
 if (a0.fK != 5) = true then
  if (0 : Int) ≤ a2 ∧ a2 < ((a1.fE.map z8).length : Int) then
  ((kq (a1.fE.getD a2.toNat default))).bind fun v1 =>
  some (v1, true)
  else none
 else
  if (decide (a2 ≥ ((a0.fA.map z7).length : Int))) = true then
   some ((GJ.mk 0 0 [] [] []), false)
  else
   if (0 : Int) ≤ a2 ∧ a2 < ((a0.fA.map z7).length : Int) then
   (jo m a1.fA (a0.fA.getD a2.toNat default)).bind fun v2 =>
   if ((decide (v2 < 0)) || (decide (v2 ≥ ((a1.fE.map z8).length : Int)))) = true then
    some ((GJ.mk 0 0 [] [] []), false)
   else
    if (0 : Int) ≤ v2 ∧ v2 < ((a1.fE.map z8).length : Int) then
    ((kq (a1.fE.getD v2.toNat default))).bind fun v3 =>
    some (v3, true)
    else none
   else none
def y0w (a0 : GJ) (a1 : GJ) (a2 : Int) (o : GJ × Bool) : Exit → Env → AHeap → Nat → Prop := Zq zgh (x8 (.tup [.agg (z6 o.1), .bool o.2]))
theorem zhh {a0 : GJ} {a1 : GJ} {a2 : Int} {m : Option Nat} {o : GJ × Bool} (h : jn m a0 a1 a2 = some o) : LWp Tryd.prog zj0 0 zra (y0w a0 a1 a2 o) (y5 0 [.agg (z6 a0), .agg (z6 a1), i6 a2]) [] 0 := by
 unfold jn at h
 refine za (ze ?_)
 refine za ?_
 refine za (ze ?_)
 refine yt (v := (a0.fK != 5)) rfl TT (fun h1 => ?_) (fun h1 => ?_)
 ·have h := zf h1 h
  refine za (ze ?_)
  obtain ⟨h2, h⟩ := qj h
  refine AI h2 ?_
  obtain ⟨v1, h3, h⟩ := bind_some h
  refine EX (z6 v1) (AI (j1 (wy z8 h2) h3) (AI (AI (vw h2) (NB rfl)) ?_))
  refine LWp.sim (e := [(6, .ptr (0, 0) 0 0), (7, .bool true)]) (L := [((0, 0), .one (z6 v1))]) (n := 1) ?_ ?_
  ·exact yp (M := [((0, 0), (2, 0))]) rfl (SP rfl (AI (VS rfl) TT)) (AI (AI rfl (OL rfl)) TT)
  refine wh ?_
  cases h
  exact AI (AI TT (AI rfl (NB rfl))) (AI TT (AI rfl (VS rfl)))
 ·have h := zp h1 h
  refine xq ?_
  refine za ?_
  refine za (ze ?_)
  refine LWp.sim (e := [(2, i6 a2), (3, .ptr (0, 0) 0 0), (4, .ptr (1, 0) 0 0), (6, .ptr (2, 0) 0 0), (21, .bool (decide (a2 ≥ ((a0.fA.map z7).length : Int))))]) (L := [((0, 0), .one (z6 a0)), ((1, 0), .one (z6 a1)), ((2, 0), .one [i6 0, i6 0, .str [], .isl 1 (([] : List (List UInt8)).map z7) true, .isl 5 (([] : List (List AVal)).map z8) true])]) (n := 3) ?_ ?_
  ·exact yp (M := [((0, 0), (0, 0)), ((1, 0), (1, 0)), ((2, 0), (2, 0))]) rfl (AI (VS rfl) (SP rfl (SP rfl (SP rfl (AI (VS rfl) TT))))) (AI (AI rfl (OL rfl)) (AI (AI rfl (OL rfl)) (AI (AI rfl (OL rfl)) TT)))
  refine yt (v := (decide (a2 ≥ ((a0.fA.map z7).length : Int)))) rfl TT (fun h4 => ?_) (fun h4 => ?_)
  ·have h := zf h4 h
   refine za (ze ?_)
   refine wh ?_
   cases h
   exact AI (AI TT (AI rfl (NB rfl))) (AI TT (AI rfl (Vw.tupL (AI (Vw.aggL (S2 rfl rfl (AI (VS rfl) (AI (Vw.islF _ _ _) (AI (Vw.islF _ _ _) TT))))) (AI (VS rfl) TT)))))
  ·have h := zp h4 h
   refine xq ?_
   refine za ?_
   refine zve rfl ?_
   obtain ⟨h5, h⟩ := qj h
   refine AI h5 ?_
   refine EX (z7 (a0.fA.getD a2.toNat default)) (AI (uj z7 _ _ (wy z7 h5)) (AI (AI (vw h5) (NB rfl)) ?_))
   obtain ⟨v2, h6, h⟩ := bind_some h
   refine PFn.call (zs6 h6) (S2 rfl rfl TT) ?_
   refine LWp.sim (e := [(4, .ptr (0, 0) 0 0), (6, .ptr (1, 0) 0 0), (8, i6 v2)]) (L := [((0, 0), .one (z6 a1)), ((1, 0), .one [i6 0, i6 0, .str [], .isl 1 (([] : List (List UInt8)).map z7) true, .isl 5 (([] : List (List AVal)).map z8) true])]) (n := 2) ?_ ?_
   ·exact yp (M := [((0, 0), (1, 0)), ((1, 0), (2, 0))]) rfl (SP rfl (SP rfl (AI (VS rfl) TT))) (AI (AI rfl (OL rfl)) (AI (AI rfl (OL rfl)) TT))
   refine za ?_
   refine za (ze ?_)
   refine AI (fun hp => hp) ?_
   refine AI (fun hp => hp) ?_
   refine AI (fun hp => (AI hp hp)) ?_
   refine AI (fun hc => (bqf hc)) ?_
   refine LWp.sim (e := [(4, .ptr (0, 0) 0 0), (6, .ptr (1, 0) 0 0), (8, i6 v2), (39, .bool ((decide (v2 < 0)) || (decide (v2 ≥ ((a1.fE.map z8).length : Int)))))]) (L := [((0, 0), .one (z6 a1)), ((1, 0), .one [i6 0, i6 0, .str [], .isl 1 (([] : List (List UInt8)).map z7) true, .isl 5 (([] : List (List AVal)).map z8) true])]) (n := 2) ?_ ?_
   ·exact yp (M := [((0, 0), (0, 0)), ((1, 0), (1, 0))]) rfl (SP rfl (SP rfl (S2 rfl rfl TT))) (AI (AI rfl (OL rfl)) (AI (AI rfl (OL rfl)) TT))
   refine yt (v := ((decide (v2 < 0)) || (decide (v2 ≥ ((a1.fE.map z8).length : Int))))) rfl TT (fun h7 => ?_) (fun h7 => ?_)
   ·have h := zf h7 h
    refine za (ze ?_)
    refine wh ?_
    cases h
    exact AI (AI TT (AI rfl (NB rfl))) (AI TT (AI rfl (Vw.tupL (AI (Vw.aggL (S2 rfl rfl (AI (VS rfl) (AI (Vw.islF _ _ _) (AI (Vw.islF _ _ _) TT))))) (AI (VS rfl) TT)))))
   ·have h := zp h7 h
    refine xq ?_
    refine za (ze ?_)
    obtain ⟨h8, h⟩ := qj h
    refine AI h8 ?_
    obtain ⟨v3, h9, h⟩ := bind_some h
    refine EX (z6 v3) (AI (j1 (wy z8 h8) h9) (AI (AI (vw h8) (NB rfl)) ?_))
    refine wh ?_
    cases h
    exact AI (AI TT (AI rfl (NB rfl))) (AI TT (AI rfl (VS rfl)))
theorem zyz {a0 : GJ} {a1 : GJ} {a2 : Int} {m : Option Nat} {o : GJ × Bool} (h : jn m a0 a1 a2 = some o) : PFn Tryd.prog 77 [.agg (z6 a0), .agg (z6 a1), i6 a2] (.tup [.agg (z6 o.1), .bool o.2]) := PFn.ofFnW (L := zws) zur zv7 (NB rfl) rfl (zhh h)
def z5k : LCode := (.seq (.region [Qo 50 (.bin .lss (.t 49) (.t 48))])
 (.seq (.cond (.t 50)
  .skip
  (.exit 0))
 (.seq (.block 1
  (.seq (.region [Qm 51 49,
   Qo 52 (.iaddr 5 (.t 47) (.t 49)),
   Qt 53 5 52,
   Qo 6 (.alloc [(i6 0), (i6 0), (.str []), (.isl 1 [] true), (.isl 5 [] true)]),
   Qm 5 51,
   ⟨none, .store 5 (.t 6) (.t 53), none⟩])
  (.seq (.region [Qt 55 5 2,
   Qt 56 5 3,
   Qm 57 5,
   Qo 58 (.call 77 [(.t 55), (.t 56), (.t 57)]),
   Qm 54 58,
   Qo 59 (.ext 0 (.t 54)),
   Qo 60 (.ext 1 (.t 54)),
   Qo 7 (.alloc [(i6 0), (i6 0), (.str []), (.isl 1 [] true), (.isl 5 [] true)]),
   ⟨none, .store 5 (.t 7) (.t 59), none⟩,
   Qm 8 60])
  (.seq (.region [Qm 61 8,
   Qo 62 (.un .not (.t 61)),
   Qm 63 62,
   Qg 64 (.load true 5 (.t 6)) (63, false),
   Qg 65 (.load true 5 (.t 7)) (63, false),
   Qg 66 (.call 61 [(.t 64), (.t 65)]) (63, false),
   Qg 67 (.un .not (.t 66)) (63, false),
   Qo 68 (.pick (.t 63) (.c (.bool true)) (.t 67))])
  (.cond (.t 68)
   (.seq (.region [Qb 4])
   .ret)
   .skip)))))
 (.region [Qo 69 (.bin .add (.t 49) (.c (i6 1))),
  Qm 49 69]))))
def z01 : LCode := (.seq (.region [Qo 4 (.mv (.c (.bool true)))])
 .ret)
def zc6 : LCode := (.seq (.region [Qo 2 (.box (.t 0)),
 Qo 3 (.box (.t 1)),
 Qb 4])
 (.seq (.seq (.region [Qf 9 0 2,
  Ql 10 1 9,
  Qf 11 0 3,
  Ql 12 1 11,
  Qo 13 (.bin .neq (.t 10) (.t 12)),
  Qm 14 13,
  Qe 15 1 2 (14, false),
  Qk 16 1 15 (14, false),
  Qe 17 1 3 (14, false),
  Qk 18 1 17 (14, false),
  Qg 19 (.bin .neq (.t 16) (.t 18)) (14, false),
  Qo 20 (.pick (.t 14) (.c (.bool true)) (.t 19)),
  Qm 21 20,
  Qe 22 2 2 (21, false),
  Qk 23 1 22 (21, false),
  Qe 24 2 3 (21, false),
  Qk 25 1 24 (21, false),
  Qg 26 (.bin .neq (.t 23) (.t 25)) (21, false),
  Qo 27 (.pick (.t 21) (.c (.bool true)) (.t 26)),
  Qm 28 27,
  Qe 29 4 2 (28, false),
  Qk 30 1 29 (28, false),
  Qg 31 (.len false (.t 30)) (28, false),
  Qe 32 4 3 (28, false),
  Qk 33 1 32 (28, false),
  Qg 34 (.len false (.t 33)) (28, false),
  Qg 35 (.bin .neq (.t 31) (.t 34)) (28, false),
  Qo 36 (.pick (.t 28) (.c (.bool true)) (.t 35)),
  Qm 37 36,
  Qe 38 3 2 (37, false),
  Qk 39 1 38 (37, false),
  Qg 40 (.len false (.t 39)) (37, false),
  Qe 41 3 3 (37, false),
  Qk 42 1 41 (37, false),
  Qg 43 (.len false (.t 42)) (37, false),
  Qg 44 (.bin .neq (.t 40) (.t 43)) (37, false),
  Qo 45 (.pick (.t 37) (.c (.bool true)) (.t 44))])
 (.cond (.t 45)
  (.seq (.region [Qb 4])
  .ret)
  .skip))
 (.seq (.seq (.region [Qf 46 4 2,
  Ql 47 1 46,
  Qo 48 (.len false (.t 47)),
  Qi 49 0])
 (.block 0
  (.loop
   z5k)))
 z01)))
def Yi : Lay := ⟨70, [], false⟩
def z7z : List LRes := [.t 4]
def zjr : LFn := ⟨2, Yi, zc6, z7z⟩
theorem zjy : w9 Tryd.prog [] 61 = some zjr := by kernel_rfl
theorem zkp : uk Tryd.prog 61 := ⟨_, Tryd.func61, rfl, rfl⟩
def z4l (a0 : GJ) (a1 : GJ) (o : Bool) : Exit → Env → AHeap → Nat → Prop := Zq z7z (Wg 3 3 (.bool o) [])
def U4 (a0 : GJ) (a1 : GJ) (s : Int) : Env := [(2, .ptr (3, 0) 0 0), (3, .ptr (4, 0) 0 0), (47, .isl 5 (a0.fE.map z8) false), (48, i6 ((a0.fE.map z8).length : Int)), (49, i6 s)]
def z0j (a0 : GJ) (a1 : GJ) (s : Int) : AHeap := [((3, 0), .one (z6 a0)), ((4, 0), .one (z6 a1))]
def z3g (a0 : GJ) (a1 : GJ) (o : Bool) : Exit → Env → AHeap → Nat → Prop := (xn 0 (X5 Tryd.prog Yi 3 z01 (z4l a0 a1 o)))
noncomputable def kv (rec4 : GJ → GJ → Option Bool) (m : Option Nat) : Option Bool :=
 some true
noncomputable def x6 (rec4 : GJ → GJ → Option Bool) (m : Option Nat) (a0 : GJ) (a1 : GJ) (v4 : Int) : Option (Int ⊕ Bool) :=
 if (decide (v4 < ((a0.fE.map z8).length : Int))) = true then
  if (0 : Int) ≤ v4 ∧ v4 < ((a0.fE.map z8).length : Int) then
  ((kq (a0.fE.getD v4.toNat default))).bind fun v8 =>
  (jn m a0 a1 v4).bind fun v9 =>
  (if ((!v9.2) == false) = true then rec4 v8 (GJ.mk v9.1.fK v9.1.fN v9.1.fT v9.1.fA v9.1.fE) else some default).bind fun v10 =>
  if ((!v9.2) || (!v10)) = true then
   Option.map Sum.inr (
    some false)
  else
   some (.inl (W (v4 + 1)))
  else none
 else
  Option.map Sum.inr (
   kv rec4 m)
noncomputable def j6 (rec4 : GJ → GJ → Option Bool) (m : Option Nat) (a0 : GJ) (a1 : GJ) (v4 : Int) : Option Bool := Zu m (fun (s : Int) => x6 rec4 m a0 a1 s) v4
abbrev Hr4 (rec4 : GJ → GJ → Option Bool) : Prop := ∀ {a0 : GJ} {a1 : GJ} {o : Bool}, rec4 a0 a1 = some o → ACalls Tryd.prog 61 [.agg (z6 a0), .agg (z6 a1)] [] 3 (ki 3 (.bool o) [])
theorem zac {rec4 : GJ → GJ → Option Bool} (hrec4 : Hr4 rec4) {a0 : GJ} {a1 : GJ} {m : Option Nat} {o : Bool} (h : kv rec4 m = some o) :
 LWp Tryd.prog Yi 3 z01 (z4l a0 a1 o) [] [] 3 := by
 unfold kv at h
 refine za (ze ?_)
 refine wh ?_
 cases h
 exact AI TT (z49 (n' := 3) [] [] rfl rfl (VS rfl) TT)
theorem z7f {rec4 : GJ → GJ → Option Bool} (hrec4 : Hr4 rec4) {a0 : GJ} {a1 : GJ} {v4 : Int} {m : Option Nat} {o : Int ⊕ Bool} (h : x6 rec4 m a0 a1 v4 = some o) :
 LWp Tryd.prog Yi 3 z5k (Zf 3 5 (U4 a0 a1) (z0j a0 a1) (z3g a0 a1) o) [(2, .ptr (3, 0) 0 0), (3, .ptr (4, 0) 0 0), (47, .isl 5 (a0.fE.map z8) false), (48, i6 ((a0.fE.map z8).length : Int)), (49, i6 v4)] [((3, 0), .one (z6 a0)), ((4, 0), .one (z6 a1))] 5 := by
 unfold x6 at h
 refine za (ze ?_)
 refine za ?_
 refine yt (v := (decide (v4 < ((a0.fE.map z8).length : Int)))) rfl TT (fun h14 => ?_) (fun h14 => ?_)
 ·have h := zf h14 h
  refine xq ?_
  refine za ?_
  refine xw ?_
  refine za (ze ?_)
  obtain ⟨h15, h⟩ := qj h
  refine AI h15 ?_
  obtain ⟨v8, h16, h⟩ := bind_some h
  refine EX (z6 v8) (AI (j1 (wy z8 h15) h16) (AI (AI (vw h15) (NB rfl)) ?_))
  refine za (ze ?_)
  obtain ⟨v9, h17, h⟩ := bind_some h
  refine PFn.call (zyz h17) (S2 rfl rfl (AI (VS rfl) TT)) ?_
  refine LWp.sim (e := [(2, .ptr (3, 0) 0 0), (3, .ptr (4, 0) 0 0), (6, .ptr (5, 0) 0 0), (7, .ptr (6, 0) 0 0), (8, .bool v9.2), (47, .isl 5 (a0.fE.map z8) false), (48, i6 ((a0.fE.map z8).length : Int)), (49, i6 v4)]) (L := [((3, 0), .one (z6 a0)), ((4, 0), .one (z6 a1)), ((5, 0), .one (z6 v8)), ((6, 0), .one (z6 v9.1))]) (n := 7) ?_ ?_
  ·exact yp (M := [((3, 0), (3, 0)), ((4, 0), (4, 0)), ((5, 0), (5, 0)), ((6, 0), (6, 0))]) rfl (SP rfl (SP rfl (SP rfl (SP rfl (S4 rfl rfl rfl rfl TT))))) (AI (AI rfl (OL rfl)) (AI (AI rfl (OL rfl)) (AI (AI rfl (OL rfl)) (AI (AI rfl (OL rfl)) TT))))
  refine za (ze ?_)
  obtain ⟨v10, h18, h⟩ := bind_some h
  refine Or.inl (EX (.bool v10) (AI (fun hp => AI (AI hp hp) (ACalls.same rfl (Xw (k := 3) (m := 0) (L' := []) (rest := [((3, 0), .one (z6 a0)), ((4, 0), .one (z6 a1)), ((5, 0), .one (z6 v8)), ((6, 0), .one (z6 v9.1))]) (R' := .bool v10) [] (hrec4 (zf hp h18)) rfl rfl rfl (S2 rfl rfl TT) TT (vj _ rfl) TT rfl (AI rfl (HeapTo.get (AI (AI rfl (OL rfl)) (AI (AI rfl (OL rfl)) (AI (AI rfl (OL rfl)) (AI (AI rfl (OL rfl)) TT))))))))) ?_))
  refine AI (fun hp => hp) ?_
  refine AI (fun hc => (bqf hc)) ?_
  refine LWp.sim (e := [(2, .ptr (3, 0) 0 0), (3, .ptr (4, 0) 0 0), (47, .isl 5 (a0.fE.map z8) false), (48, i6 ((a0.fE.map z8).length : Int)), (49, i6 v4), (68, .bool ((!v9.2) || (!v10)))]) (L := [((3, 0), .one (z6 a0)), ((4, 0), .one (z6 a1))]) (n := 5) ?_ ?_
  ·exact yp (M := [((3, 0), (3, 0)), ((4, 0), (4, 0))]) rfl (SP rfl (SP rfl (S4 rfl rfl rfl rfl TT))) (AI (AI rfl (OL rfl)) (AI (AI rfl (OL rfl)) TT))
  refine yt (v := ((!v9.2) || (!v10))) rfl TT (fun h19 => ?_) (fun h19 => ?_)
  ·have h := zf h19 h
   refine za (ze ?_)
   refine wh ?_
   obtain ⟨o, hq, rfl⟩ := Option.map_eq_some_iff.1 h
   replace h := hq; clear hq
   refine AI nofun ?_
   cases h
   exact AI TT (z49 (n' := 5) [] [] rfl rfl (VS rfl) TT)
  ·have h := zp h19 h
   refine xq ?_
   refine ze ?_
   cases h
   exact AI rfl (yp (M := [((3, 0), (3, 0)), ((4, 0), (4, 0))]) rfl (SP rfl (SP rfl (S2 rfl rfl (AI (VS rfl) TT)))) (AI (AI rfl (OL rfl)) (AI (AI rfl (OL rfl)) TT)))
 ·have h := zp h14 h
  refine Xm ?_
  obtain ⟨o, hq, rfl⟩ := Option.map_eq_some_iff.1 h
  replace h := hq; clear hq
  refine AI nofun ?_
  refine LWp.sim ?_ (zac hrec4 h)
  exact yp (M := []) rfl TT TT
theorem z99 {rec4 : GJ → GJ → Option Bool} (hrec4 : Hr4 rec4) {a0 : GJ} {a1 : GJ} {v4 : Int} {m : Option Nat} {o : Bool} (h : j6 rec4 m a0 a1 v4 = some o) :
 LWp Tryd.prog Yi 3 (.loop z5k) (xn 0 (X5 Tryd.prog Yi 3 z01 (z4l a0 a1 o))) [(2, .ptr (3, 0) 0 0), (3, .ptr (4, 0) 0 0), (47, .isl 5 (a0.fE.map z8) false), (48, i6 ((a0.fE.map z8).length : Int)), (49, i6 v4)] [((3, 0), .one (z6 a0)), ((4, 0), .one (z6 a1))] 5 :=
 w8 (m := m) (s := (v4 : Int)) (r := o) (fun (s : Int) => x6 rec4 m a0 a1 s) (U4 a0 a1) (z0j a0 a1) (z3g a0 a1) (fun s o h => z7f hrec4 h) h
noncomputable def xh (rec4 : GJ → GJ → Option Bool) (m : Option Nat) (a0 : GJ) (a1 : GJ) : Option Bool :=
 if (((((a0.fK != a1.fK) || (a0.fN != a1.fN)) || (!(a0.fT == a1.fT))) || (((a0.fE.map z8).length : Int) != ((a1.fE.map z8).length : Int))) || (((a0.fA.map z7).length : Int) != ((a1.fA.map z7).length : Int))) = true then
  some false
 else
  j6 rec4 m a0 a1 0
theorem z9g {rec4 : GJ → GJ → Option Bool} (hrec4 : Hr4 rec4) {a0 : GJ} {a1 : GJ} {m : Option Nat} {o : Bool} (h : xh rec4 m a0 a1 = some o) : LWp Tryd.prog Yi 3 zc6 (z4l a0 a1 o) (y5 0 [.agg (z6 a0), .agg (z6 a1)]) [] 3 := by
 unfold xh at h
 refine za (ze ?_)
 refine za ?_
 refine za (ze ?_)
 refine AI (fun hp => hp) ?_
 refine AI (fun hp => hp) ?_
 refine AI (fun hp => (AI hp hp)) ?_
 refine AI (fun hc => (bqf hc)) ?_
 refine AI (fun hp => hp) ?_
 refine AI (fun hp => hp) ?_
 refine AI (fun hp => (AI hp hp)) ?_
 refine AI (fun hc => (bqf hc)) ?_
 refine AI (fun hp => hp) ?_
 refine AI (fun hp => hp) ?_
 refine AI (fun hp => hp) ?_
 refine AI (fun hp => hp) ?_
 refine AI (fun hp => (AI hp hp)) ?_
 refine AI (fun hc => (bqf hc)) ?_
 refine AI (fun hp => hp) ?_
 refine AI (fun hp => hp) ?_
 refine AI (fun hp => hp) ?_
 refine AI (fun hp => hp) ?_
 refine AI (fun hp => (AI hp hp)) ?_
 refine AI (fun hc => (bqf hc)) ?_
 refine LWp.sim (e := [(2, .ptr (3, 0) 0 0), (3, .ptr (4, 0) 0 0), (45, .bool (((((a0.fK != a1.fK) || (a0.fN != a1.fN)) || (!(a0.fT == a1.fT))) || (((a0.fE.map z8).length : Int) != ((a1.fE.map z8).length : Int))) || (((a0.fA.map z7).length : Int) != ((a1.fA.map z7).length : Int))))]) (L := [((3, 0), .one (z6 a0)), ((4, 0), .one (z6 a1))]) (n := 5) ?_ ?_
 ·exact yp (M := [((3, 0), (3, 0)), ((4, 0), (4, 0))]) rfl (SP rfl (SP rfl (AI (VS rfl) TT))) (AI (AI rfl (OL rfl)) (AI (AI rfl (OL rfl)) TT))
 refine yt (v := (((((a0.fK != a1.fK) || (a0.fN != a1.fN)) || (!(a0.fT == a1.fT))) || (((a0.fE.map z8).length : Int) != ((a1.fE.map z8).length : Int))) || (((a0.fA.map z7).length : Int) != ((a1.fA.map z7).length : Int)))) rfl TT (fun h1 => ?_) (fun h1 => ?_)
 ·have h := zf h1 h
  refine za (ze ?_)
  refine wh ?_
  cases h
  exact AI TT (z49 (n' := 5) [] [] rfl rfl (VS rfl) TT)
 ·have h := zp h1 h
  refine xq ?_
  refine za ?_
  refine za (ze ?_)
  refine xw ?_
  refine LWp.sim ?_ (z99 hrec4 h)
  exact yp (M := [((3, 0), (3, 0)), ((4, 0), (4, 0))]) rfl (SP rfl (SP rfl (S2 rfl rfl (AI (VS rfl) TT)))) (AI (AI rfl (OL rfl)) (AI (AI rfl (OL rfl)) TT))
theorem zd1 {rec4 : GJ → GJ → Option Bool} (hrec4 : Hr4 rec4) {a0 : GJ} {a1 : GJ} {m : Option Nat} {o : Bool} (h : xh rec4 m a0 a1 = some o) : ACalls Tryd.prog 61 [.agg (z6 a0), .agg (z6 a1)] [] 3 (ki 3 (.bool o) []) := Xx (L := zjr) zjy zkp (NB rfl) (z9g hrec4 h)
noncomputable def jg (m : Option Nat) : Nat → GJ → GJ → Option Bool
 | 0 => fun _ _ => none
 | k + 1 => xh (jg m k) m
noncomputable def u3 (m : Option Nat) (a0 : GJ) (a1 : GJ) : Option Bool := zeo m (fun k => jg m k a0 a1)
theorem z6i {m : Option Nat} : ∀ (k : Nat) {a0 : GJ} {a1 : GJ} {o : Bool}, jg m k a0 a1 = some o → ACalls Tryd.prog 61 [.agg (z6 a0), .agg (z6 a1)] [] 3 (ki 3 (.bool o) [])
 | 0, _, _, _, h => nomatch h
 | k + 1, _, _, _, h => zd1 (fun h => z6i k h) h
theorem zly {a0 : GJ} {a1 : GJ} {m : Option Nat} {o : Bool} (h : u3 m a0 a1 = some o) : ACalls Tryd.prog 61 [.agg (z6 a0), .agg (z6 a1)] [] 3 (ki 3 (.bool o) []) := (Zs h).elim fun k h => z6i k h
noncomputable def Yv (m : Option Nat) (a0 : GJ) (a1 : GJ) : Option Bool := xh (u3 m) m a0 a1
theorem zwv {a0 : GJ} {a1 : GJ} {m : Option Nat} {o : Bool} (h : Yv m a0 a1 = some o) : PFn Tryd.prog 61 [.agg (z6 a0), .agg (z6 a1)] (.bool o) :=
 ⟨rfl, _, Xw (k := 3) (m := 0) (L' := []) (rest := []) (R' := .bool o) [] (zd1 zly h) rfl rfl rfl (S2 rfl rfl TT) TT (vj _ rfl) TT rfl ⟨rfl, rfl, rfl⟩⟩
def zr5 : LCode := (.seq (.region [Qo 2 (.box (.t 0)),
 Qo 3 (.box (.t 1)),
 Qb 4])
 (.seq (.region [Qt 5 5 2,
  Qc 6 28 5,
  Qo 7 (.bin .eql (.t 6) (.c (i6 0))),
  Qm 8 7,
  Qg 9 (.load true 5 (.t 3)) (8, true),
  Qg 10 (.call 28 [(.t 9)]) (8, true),
  Qg 11 (.bin .eql (.t 10) (.c (i6 0))) (8, true),
  Qp 12 8 11,
  Qm 13 12,
  Qg 14 (.load true 5 (.t 2)) (13, true),
  Qg 15 (.load true 5 (.t 3)) (13, true),
  Qg 16 (.call 61 [(.t 14), (.t 15)]) (13, true),
  Qp 17 13 16,
  Qm 4 17])
 .ret))
def zmr : Lay := ⟨18, [], false⟩
def znd : List LRes := [.t 4]
def zzk : LFn := ⟨2, zmr, zr5, znd⟩
theorem zuc : w9 Tryd.prog [] 36 = some zzk := by kernel_rfl
theorem zw0 : uk Tryd.prog 36 := ⟨_, Tryd.func36, rfl, rfl⟩
noncomputable def jy (m : Option Nat) (a0 : GJ) (a1 : GJ) : Option Bool :=
 (qz m a0).bind fun v1 =>
 (if ((v1 == 0) == true) = true then qz m a1 else some default).bind fun v2 =>
 (if (((v1 == 0) && (v2 == 0)) == true) = true then Yv m a0 a1 else some default).bind fun v3 =>
 some (((v1 == 0) && (v2 == 0)) && v3)
def y1a (a0 : GJ) (a1 : GJ) (o : Bool) : Exit → Env → AHeap → Nat → Prop := Zq znd (x8 (.bool o))
theorem zjo {a0 : GJ} {a1 : GJ} {m : Option Nat} {o : Bool} (h : jy m a0 a1 = some o) : LWp Tryd.prog zmr 0 zr5 (y1a a0 a1 o) (y5 0 [.agg (z6 a0), .agg (z6 a1)]) [] 0 := by
 unfold jy at h
 refine za (ze ?_)
 refine za (ze ?_)
 obtain ⟨v1, h1, h⟩ := bind_some h
 refine PFn.call (zbw h1) (AI (VS rfl) TT) ?_
 obtain ⟨v2, h2, h⟩ := bind_some h
 refine Or.inl (EX (i6 v2) (AI (fun hp => AI hp (PFn.call (zbw (zf hp h2)) (AI (VS rfl) TT) (AI rfl (AI rfl rfl)))) ?_))
 refine AI (fun hp => hp) ?_
 refine AI (fun hc => (bqt hc)) ?_
 obtain ⟨v3, h3, h⟩ := bind_some h
 refine Or.inl (EX (.bool v3) (AI (fun hp => AI (AI hp hp) (PFn.call (zwv (zf hp h3)) (S2 rfl rfl TT) (AI rfl (AI rfl rfl)))) ?_))
 refine AI (fun hc => (bqt hc)) ?_
 refine LWp.sim (e := [(4, .bool (((v1 == 0) && (v2 == 0)) && v3))]) (L := []) (n := 0) ?_ ?_
 ·exact yp (M := []) rfl (AI (VS rfl) TT) TT
 refine wh ?_
 cases h
 exact AI TT (AI rfl (VS rfl))
theorem zri {a0 : GJ} {a1 : GJ} {m : Option Nat} {o : Bool} (h : jy m a0 a1 = some o) : PFn Tryd.prog 36 [.agg (z6 a0), .agg (z6 a1)] (.bool o) := PFn.ofFnW (L := zzk) zuc zw0 (NB rfl) rfl (zjo h)
def zrz : LCode := (.seq (.region [Qt 54 5 1,
 Qt 55 5 6,
 Qo 56 (.call 36 [(.t 54), (.t 55)]),
 Qm 57 56,
 Qg 58 (.load true 5 (.t 1)) (57, false),
 Qg 59 (.load true 5 (.t 8)) (57, false),
 Qg 60 (.call 36 [(.t 58), (.t 59)]) (57, false),
 Qo 61 (.pick (.t 57) (.c (.bool true)) (.t 60))])
 (.cond (.t 61)
  (.seq (.region [Qt 62 9 5,
   ⟨none, .store 9 (.t 2) (.t 62), none⟩,
   Qi 3 0])
  .ret)
  .skip))
def zk8 : LCode := (.region [Qo 63 (.bin .add (.t 13) (.c (i6 1))),
 Qm 13 63])
def zkv : LCode := (.seq (.region [Qo 14 (.bin .lss (.t 13) (.t 12))])
 (.seq (.cond (.t 14)
  .skip
  (.exit 0))
 (.seq (.block 1
  (.seq (.region [Qo 15 (.iaddr 9 (.t 11) (.t 13)),
   Qt 16 9 15,
   Qo 5 (.alloc [(i6 0), (i6 0), (i6 0), (.str []), (i6 0), (i6 0), (.str []), (.isl 1 [] true), (.isl 5 [] true)]),
   ⟨none, .store 9 (.t 5) (.t 16), none⟩])
  (.seq (.region [Qt 18 9 5,
   Qc 19 7 18,
   Qm 17 19,
   Qo 20 (.ext 0 (.t 17)),
   Qo 21 (.ext 1 (.t 17)),
   Qo 6 (.alloc [(i6 0), (i6 0), (.str []), (.isl 1 [] true), (.isl 5 [] true)]),
   ⟨none, .store 5 (.t 6) (.t 20), none⟩,
   Qm 7 21])
  (.seq (.seq (.region [Qm 22 7,
   Qo 23 (.bin .neq (.t 22) (.c (i6 0)))])
  (.cond (.t 23)
   (.exit 1)
   .skip))
  (.seq (.region [Qt 24 5 6,
   Qo 8 (.alloc [(i6 0), (i6 0), (.str []), (.isl 1 [] true), (.isl 5 [] true)]),
   ⟨none, .store 5 (.t 8) (.t 24), none⟩])
  (.seq (.seq (.region [Qf 25 4 6,
   Ql 26 1 25,
   Qo 27 (.len false (.t 26)),
   Qo 28 (.bin .sub (.t 27) (.c (i6 1))),
   Qm 9 28])
  (.seq (.region [Qf 29 3 6,
   Ql 30 1 29,
   Qm 31 9,
   Qo 32 (.iaddr 1 (.t 30) (.t 31)),
   Ql 33 1 32,
   Qo 34 (.bin .eql (.t 33) (.c (.str [112, 97, 114, 97, 109, 115]))),
   Qm 35 34,
   Qe 36 4 5 (35, true),
   Qg 37 (.load true 5 (.t 36)) (35, true),
   Qg 38 (.call 34 [(.t 37)]) (35, true),
   Qp 39 35 38,
   Qm 40 39,
   Qe 41 0 5 (40, true),
   Qk 42 1 41 (40, true),
   Qg 43 (.bin .neq (.t 42) (.c (i6 5))) (40, true),
   Qp 44 40 43])
  (.cond (.t 44)
   (.draw [⟨Qf 45 3 6, []⟩,
    ⟨Ql 46 1 45, []⟩,
    ⟨Qm 47 9, []⟩,
    ⟨Qo 48 (.slSl 1 (.t 46) none (some (.t 47)) none), []⟩,
    ⟨Qf 49 4 6, []⟩,
    ⟨Ql 50 1 49, []⟩,
    ⟨Qm 51 9, []⟩,
    ⟨Qo 52 (.slSl 5 (.t 50) none (some (.t 51)) none), []⟩,
    ⟨Qo 53 (.call 35 [(.t 48), (.t 52)]), []⟩,
    ⟨⟨none, .store 5 (.t 8) (.t 53), none⟩, []⟩])
   .skip)))
  zrz))))))
 zk8)))
def zco : LCode := (.seq (.region [Qo 64 (.build [(i6 0), (i6 0), (i6 0), (.str []), (i6 0), (i6 0), (.str []), (.isl 1 [] true), (.isl 5 [] true)] []),
 ⟨none, .store 9 (.t 2) (.t 64), none⟩,
 Qi 3 3])
 .ret)
def zs8 : LCode := (.seq (.region [Qo 1 (.box (.t 0)),
 Qo 2 (.alloc [(i6 0), (i6 0), (i6 0), (.str []), (i6 0), (i6 0), (.str []), (.isl 1 [] true), (.isl 5 [] true)]),
 Qi 3 0])
 (.seq (.seq (.region [Qt 10 5 1,
  Qc 11 33 10,
  Qo 12 (.len false (.t 11)),
  Qi 13 0])
 (.block 0
  (.loop
   zkv)))
 zco))
def Q9 : Lay := ⟨65, [], false⟩
def zil : List LRes := [.cell 2 true 9, .t 3]
def zy5 : LFn := ⟨1, Q9, zs8, zil⟩
theorem zv6 : w9 Tryd.prog [] 10 = some zy5 := by kernel_rfl
theorem zsr : uk Tryd.prog 10 := ⟨_, Tryd.func10, rfl, rfl⟩
def zoe (a0 : GJ) (o : GM × Int) : Exit → Env → AHeap → Nat → Prop := Zq zil (x8 (.tup [.agg [i6 o.1.fK, i6 o.1.fI, i6 o.1.fC, .str o.1.fM, i6 o.1.fB.fK, i6 o.1.fB.fN, .str o.1.fB.fT, .isl 1 (o.1.fB.fA.map z7) false, .isl 5 (o.1.fB.fE.map z8) false], i6 o.2]))
def Jy (a0 : GJ) (v1 : (List GM)) (s : Int) : Env := [(1, .ptr (0, 0) 0 0), (2, .ptr (1, 0) 0 0), (11, .isl 9 (v1.map yi) false), (12, i6 ((v1.map yi).length : Int)), (13, i6 s)]
def K9 (a0 : GJ) (v1 : (List GM)) (s : Int) : AHeap := [((0, 0), .one (z6 a0)), ((1, 0), .one [i6 0, i6 0, i6 0, .str [], i6 0, i6 0, .str [], .isl 1 (([] : List (List UInt8)).map z7) true, .isl 5 (([] : List (List AVal)).map z8) true])]
def z08 (a0 : GJ) (o : (GM × Int)) : Exit → Env → AHeap → Nat → Prop := (xn 0 (X5 Tryd.prog Q9 0 zco (zoe a0 o)))
noncomputable def we (m : Option Nat) (a0 : GJ) (v1 : (List GM)) (v12 : Int) : Option (Int ⊕ (GM × Int)) :=
 some (.inl (W (v12 + 1)))
noncomputable def wc (m : Option Nat) (a0 : GJ) (v1 : (List GM)) (v12 : Int) (v23 : GJ × Int) (v26 : Int) (v27 : Int) (v28 : List UInt8) (v29 : List (List UInt8)) (v30 : List (List AVal)) : Option (Int ⊕ (GM × Int)) :=
 (jy m a0 (GJ.mk v23.1.fK v23.1.fN v23.1.fT v23.1.fA v23.1.fE)).bind fun v31 =>
 (if (v31 == false) = true then jy m a0 (GJ.mk v26 v27 v28 v29 v30) else some default).bind fun v32 =>
 if (v31 || v32) = true then
  Option.map Sum.inr (
   some ((GM.mk ((v1.getD v12.toNat default).fK) ((v1.getD v12.toNat default).fI) ((v1.getD v12.toNat default).fC) ((v1.getD v12.toNat default).fM) (GJ.mk (((v1.getD v12.toNat default).fB).fK) (((v1.getD v12.toNat default).fB).fN) (((v1.getD v12.toNat default).fB).fT) (((v1.getD v12.toNat default).fB).fA) (((v1.getD v12.toNat default).fB).fE))), 0))
 else
  we m a0 v1 v12
theorem z7r {a0 : GJ} {v1 : (List GM)} {v12 : Int} {m : Option Nat} {o : (Int ⊕ (GM × Int))} (h : we m a0 v1 v12 = some o) :
 LWp Tryd.prog Q9 0 zk8 (Zf 0 2 (Jy a0 v1) (K9 a0 v1) (z08 a0) o) [(1, .ptr (0, 0) 0 0), (2, .ptr (1, 0) 0 0), (11, .isl 9 (v1.map yi) false), (12, i6 ((v1.map yi).length : Int)), (13, i6 v12)] [((0, 0), .one (z6 a0)), ((1, 0), .one [i6 0, i6 0, i6 0, .str [], i6 0, i6 0, .str [], .isl 1 (([] : List (List UInt8)).map z7) true, .isl 5 (([] : List (List AVal)).map z8) true])] 2 := by
 unfold we at h
 refine ze ?_
 cases h
 exact AI rfl (yp (M := [((0, 0), (0, 0)), ((1, 0), (1, 0))]) rfl (SP rfl (SP rfl (S2 rfl rfl (AI (VS rfl) TT)))) (AI (AI rfl (OL rfl)) (AI (AI rfl (OL rfl)) TT)))
theorem z8o {a0 : GJ} {v1 : (List GM)} {v12 : Int} {v23 : GJ × Int} {v26 : Int} {v27 : Int} {v28 : List UInt8} {v29 : List (List UInt8)} {v30 : List (List AVal)} {m : Option Nat} {o : (Int ⊕ (GM × Int))} (h : wc m a0 v1 v12 v23 v26 v27 v28 v29 v30 = some o) :
 LWp Tryd.prog Q9 0 zrz (xn 1 (X5 Tryd.prog Q9 0 zk8 (Zf 0 2 (Jy a0 v1) (K9 a0 v1) (z08 a0) o))) [(1, .ptr (0, 0) 0 0), (2, .ptr (1, 0) 0 0), (5, .ptr (2, 0) 0 0), (6, .ptr (3, 0) 0 0), (8, .ptr (4, 0) 0 0), (11, .isl 9 (v1.map yi) false), (12, i6 ((v1.map yi).length : Int)), (13, i6 v12)] [((0, 0), .one (z6 a0)), ((1, 0), .one [i6 0, i6 0, i6 0, .str [], i6 0, i6 0, .str [], .isl 1 (([] : List (List UInt8)).map z7) true, .isl 5 (([] : List (List AVal)).map z8) true]), ((2, 0), .one [i6 ((v1.getD v12.toNat default).fK), i6 ((v1.getD v12.toNat default).fI), i6 ((v1.getD v12.toNat default).fC), .str ((v1.getD v12.toNat default).fM), i6 (((v1.getD v12.toNat default).fB).fK), i6 (((v1.getD v12.toNat default).fB).fN), .str (((v1.getD v12.toNat default).fB).fT), .isl 1 ((((v1.getD v12.toNat default).fB).fA).map z7) false, .isl 5 ((((v1.getD v12.toNat default).fB).fE).map z8) false]), ((3, 0), .one (z6 v23.1)), ((4, 0), .one [i6 v26, i6 v27, .str v28, .isl 1 (v29.map z7) false, .isl 5 (v30.map z8) false])] 5 := by
 unfold wc at h
 refine za (ze ?_)
 obtain ⟨v31, h38, h⟩ := bind_some h
 refine PFn.call (zri h38) (S2 rfl rfl TT) ?_
 obtain ⟨v32, h39, h⟩ := bind_some h
 refine Or.inl (EX (.bool v32) (AI (fun hp => AI (AI hp hp) (PFn.call (zri (zf hp h39)) (S2 rfl rfl TT) (AI rfl (AI rfl rfl)))) ?_))
 refine AI (fun hc => (bqf hc)) ?_
 refine LWp.sim (e := [(1, .ptr (0, 0) 0 0), (2, .ptr (1, 0) 0 0), (5, .ptr (2, 0) 0 0), (11, .isl 9 (v1.map yi) false), (12, i6 ((v1.map yi).length : Int)), (13, i6 v12), (61, .bool (v31 || v32))]) (L := [((0, 0), .one (z6 a0)), ((1, 0), .one [i6 0, i6 0, i6 0, .str [], i6 0, i6 0, .str [], .isl 1 (([] : List (List UInt8)).map z7) true, .isl 5 (([] : List (List AVal)).map z8) true]), ((2, 0), .one [i6 ((v1.getD v12.toNat default).fK), i6 ((v1.getD v12.toNat default).fI), i6 ((v1.getD v12.toNat default).fC), .str ((v1.getD v12.toNat default).fM), i6 (((v1.getD v12.toNat default).fB).fK), i6 (((v1.getD v12.toNat default).fB).fN), .str (((v1.getD v12.toNat default).fB).fT), .isl 1 ((((v1.getD v12.toNat default).fB).fA).map z7) false, .isl 5 ((((v1.getD v12.toNat default).fB).fE).map z8) false])]) (n := 3) ?_ ?_
 ·exact yp (M := [((0, 0), (0, 0)), ((1, 0), (1, 0)), ((2, 0), (2, 0))]) rfl (SP rfl (SP rfl (SP rfl (S4 rfl rfl rfl rfl TT)))) (AI (AI rfl (OL rfl)) (AI (AI rfl (OL rfl)) (AI (AI rfl (OL rfl)) TT)))
 refine yt (v := (v31 || v32)) rfl TT (fun h40 => ?_) (fun h40 => ?_)
 ·have h := zf h40 h
  refine za (ze ?_)
  refine wh ?_
  obtain ⟨o, hq, rfl⟩ := Option.map_eq_some_iff.1 h
  replace h := hq; clear hq
  refine AI nofun ?_
  cases h
  exact AI (AI TT (AI rfl (NB rfl))) (AI TT (AI rfl (VS rfl)))
 ·have h := zp h40 h
  refine xq ?_
  refine LWp.sim ?_ (z7r h)
  exact yp (M := [((0, 0), (0, 0)), ((1, 0), (1, 0))]) rfl (SP rfl (SP rfl (S2 rfl rfl (AI (VS rfl) TT)))) (AI (AI rfl (OL rfl)) (AI (AI rfl (OL rfl)) TT))
noncomputable def ut (m : Option Nat) : Option (GM × Int) :=
 some ((GM.mk 0 0 0 ([] : List UInt8) (GJ.mk 0 0 [] [] [])), 3)
noncomputable def jm (m : Option Nat) (a0 : GJ) (v1 : (List GM)) (v12 : Int) : Option (Int ⊕ (GM × Int)) :=
 if (decide (v12 < ((v1.map yi).length : Int))) = true then
  if (0 : Int) ≤ v12 ∧ v12 < ((v1.map yi).length : Int) then
  (wq m (GM.mk ((v1.getD v12.toNat default).fK) ((v1.getD v12.toNat default).fI) ((v1.getD v12.toNat default).fC) ((v1.getD v12.toNat default).fM) (GJ.mk (((v1.getD v12.toNat default).fB).fK) (((v1.getD v12.toNat default).fB).fN) (((v1.getD v12.toNat default).fB).fT) (((v1.getD v12.toNat default).fB).fA) (((v1.getD v12.toNat default).fB).fE)))).bind fun v23 =>
  if (v23.2 != 0) = true then
   we m a0 v1 v12
  else
   if (0 : Int) ≤ (W (((v23.1.fE.map z8).length : Int) - 1)) ∧ (W (((v23.1.fE.map z8).length : Int) - 1)) < ((v23.1.fA.map z7).length : Int) then
   (if (((v23.1.fA.getD ((W (((v23.1.fE.map z8).length : Int) - 1)).toNat) default) == ([112, 97, 114, 97, 109, 115] : List UInt8)) == true) = true then jk m (GJ.mk (((v1.getD v12.toNat default).fB).fK) (((v1.getD v12.toNat default).fB).fN) (((v1.getD v12.toNat default).fB).fT) (((v1.getD v12.toNat default).fB).fA) (((v1.getD v12.toNat default).fB).fE)) else some default).bind fun v24 =>
   if ((((v23.1.fA.getD ((W (((v23.1.fE.map z8).length : Int) - 1)).toNat) default) == ([112, 97, 114, 97, 109, 115] : List UInt8)) && v24) && ((v1.getD v12.toNat default).fK != 5)) = true then
    if (0 : Int) ≤ (W (((v23.1.fE.map z8).length : Int) - 1)) ∧ (W (((v23.1.fE.map z8).length : Int) - 1)) ≤ ((v23.1.fA.map z7).length : Int) then
    if (0 : Int) ≤ (W (((v23.1.fE.map z8).length : Int) - 1)) ∧ (W (((v23.1.fE.map z8).length : Int) - 1)) ≤ ((v23.1.fE.map z8).length : Int) then
    (qo m (v23.1.fA.take (W (((v23.1.fE.map z8).length : Int) - 1)).toNat) (v23.1.fE.take (W (((v23.1.fE.map z8).length : Int) - 1)).toNat)).bind fun v25 =>
    wc m a0 v1 v12 v23 v25.fK v25.fN v25.fT v25.fA v25.fE
    else none
    else none
   else
    wc m a0 v1 v12 v23 v23.1.fK v23.1.fN v23.1.fT v23.1.fA v23.1.fE
   else none
  else none
 else
  Option.map Sum.inr (
   ut m)
noncomputable def vb (m : Option Nat) (a0 : GJ) (v1 : (List GM)) (v12 : Int) : Option (GM × Int) := Zu m (fun (s : Int) => jm m a0 v1 s) v12
theorem zha {a0 : GJ} {m : Option Nat} {o : (GM × Int)} (h : ut m = some o) :
 LWp Tryd.prog Q9 0 zco (zoe a0 o) [(2, .ptr (0, 0) 0 0)] [((0, 0), .one [i6 0, i6 0, i6 0, .str [], i6 0, i6 0, .str [], .isl 1 (([] : List (List UInt8)).map z7) true, .isl 5 (([] : List (List AVal)).map z8) true])] 1 := by
 unfold ut at h
 refine za (ze ?_)
 refine wh ?_
 cases h
 exact AI (AI TT (AI rfl (NB rfl))) (AI TT (AI rfl (Vw.tupL (AI (Vw.aggL (S4 rfl rfl rfl rfl (S2 rfl rfl (AI (VS rfl) (AI (Vw.islF _ _ _) (AI (Vw.islF _ _ _) TT)))))) (AI (VS rfl) TT)))))
set_option maxHeartbeats 4000000 in
theorem zf9 {a0 : GJ} {v1 : (List GM)} {v12 : Int} {m : Option Nat} {o : Int ⊕ (GM × Int)} (h : jm m a0 v1 v12 = some o) :
 LWp Tryd.prog Q9 0 zkv (Zf 0 2 (Jy a0 v1) (K9 a0 v1) (z08 a0) o) [(1, .ptr (0, 0) 0 0), (2, .ptr (1, 0) 0 0), (11, .isl 9 (v1.map yi) false), (12, i6 ((v1.map yi).length : Int)), (13, i6 v12)] [((0, 0), .one (z6 a0)), ((1, 0), .one [i6 0, i6 0, i6 0, .str [], i6 0, i6 0, .str [], .isl 1 (([] : List (List UInt8)).map z7) true, .isl 5 (([] : List (List AVal)).map z8) true])] 2 := by
 unfold jm at h
 refine za (ze ?_)
 refine za ?_
 refine yt (v := (decide (v12 < ((v1.map yi).length : Int)))) rfl TT (fun h28 => ?_) (fun h28 => ?_)
 ·have h := zf h28 h
  refine xq ?_
  refine za ?_
  refine xw ?_
  refine za (ze ?_)
  obtain ⟨h29, h⟩ := qj h
  refine AI h29 ?_
  refine EX (yi (v1.getD v12.toNat default)) (AI (uj yi _ _ (wy yi h29)) (AI (AI (vw h29) (NB rfl)) ?_))
  refine za (ze ?_)
  obtain ⟨v23, h30, h⟩ := bind_some h
  refine PFn.call (y0u h30) (AI (VS rfl) TT) ?_
  refine LWp.sim (e := [(1, .ptr (0, 0) 0 0), (2, .ptr (1, 0) 0 0), (5, .ptr (2, 0) 0 0), (6, .ptr (3, 0) 0 0), (7, i6 v23.2), (11, .isl 9 (v1.map yi) false), (12, i6 ((v1.map yi).length : Int)), (13, i6 v12)]) (L := [((0, 0), .one (z6 a0)), ((1, 0), .one [i6 0, i6 0, i6 0, .str [], i6 0, i6 0, .str [], .isl 1 (([] : List (List UInt8)).map z7) true, .isl 5 (([] : List (List AVal)).map z8) true]), ((2, 0), .one [i6 ((v1.getD v12.toNat default).fK), i6 ((v1.getD v12.toNat default).fI), i6 ((v1.getD v12.toNat default).fC), .str ((v1.getD v12.toNat default).fM), i6 (((v1.getD v12.toNat default).fB).fK), i6 (((v1.getD v12.toNat default).fB).fN), .str (((v1.getD v12.toNat default).fB).fT), .isl 1 ((((v1.getD v12.toNat default).fB).fA).map z7) false, .isl 5 ((((v1.getD v12.toNat default).fB).fE).map z8) false]), ((3, 0), .one (z6 v23.1))]) (n := 4) ?_ ?_
  ·exact yp (M := [((0, 0), (0, 0)), ((1, 0), (1, 0)), ((2, 0), (2, 0)), ((3, 0), (3, 0))]) rfl (SP rfl (SP rfl (SP rfl (SP rfl (S4 rfl rfl rfl rfl TT))))) (AI (AI rfl (OL rfl)) (AI (AI rfl (OL rfl)) (AI (AI rfl (OL rfl)) (AI (AI rfl (OL rfl)) TT))))
  refine za ?_
  refine za (ze ?_)
  refine yt (v := (v23.2 != 0)) rfl TT (fun h31 => ?_) (fun h31 => ?_)
  ·have h := zf h31 h
   refine Xm ?_
   refine LWp.sim ?_ (z7r h)
   exact yp (M := [((0, 0), (0, 0)), ((1, 0), (1, 0))]) rfl (SP rfl (SP rfl (S2 rfl rfl (AI (VS rfl) TT)))) (AI (AI rfl (OL rfl)) (AI (AI rfl (OL rfl)) TT))
  ·have h := zp h31 h
   refine xq ?_
   refine za (ze ?_)
   refine za ?_
   refine za (ze ?_)
   refine LWp.sim (e := [(1, .ptr (0, 0) 0 0), (2, .ptr (1, 0) 0 0), (5, .ptr (2, 0) 0 0), (6, .ptr (3, 0) 0 0), (8, .ptr (4, 0) 0 0), (9, i6 (W (((v23.1.fE.map z8).length : Int) - 1))), (11, .isl 9 (v1.map yi) false), (12, i6 ((v1.map yi).length : Int)), (13, i6 v12)]) (L := [((0, 0), .one (z6 a0)), ((1, 0), .one [i6 0, i6 0, i6 0, .str [], i6 0, i6 0, .str [], .isl 1 (([] : List (List UInt8)).map z7) true, .isl 5 (([] : List (List AVal)).map z8) true]), ((2, 0), .one [i6 ((v1.getD v12.toNat default).fK), i6 ((v1.getD v12.toNat default).fI), i6 ((v1.getD v12.toNat default).fC), .str ((v1.getD v12.toNat default).fM), i6 (((v1.getD v12.toNat default).fB).fK), i6 (((v1.getD v12.toNat default).fB).fN), .str (((v1.getD v12.toNat default).fB).fT), .isl 1 ((((v1.getD v12.toNat default).fB).fA).map z7) false, .isl 5 ((((v1.getD v12.toNat default).fB).fE).map z8) false]), ((3, 0), .one (z6 v23.1)), ((4, 0), .one (z6 v23.1))]) (n := 5) ?_ ?_
   ·exact yp (M := [((0, 0), (0, 0)), ((1, 0), (1, 0)), ((2, 0), (2, 0)), ((3, 0), (3, 0)), ((4, 0), (4, 0))]) rfl (SP rfl (SP rfl (SP rfl (SP rfl (SP rfl (S4 rfl rfl rfl rfl TT)))))) (AI (AI rfl (OL rfl)) (AI (AI rfl (OL rfl)) (AI (AI rfl (OL rfl)) (AI (AI rfl (OL rfl)) (AI (AI rfl (OL rfl)) TT)))))
   refine za (ze ?_)
   obtain ⟨h32, h⟩ := qj h
   refine AI h32 ?_
   refine EX (z7 (v23.1.fA.getD ((W (((v23.1.fE.map z8).length : Int) - 1)).toNat) default)) (AI (uj z7 _ _ (wy z7 h32)) (AI (AI (vw h32) (NB rfl)) ?_))
   refine AI (fun hp => hp) ?_
   obtain ⟨v24, h33, h⟩ := bind_some h
   refine Or.inl (EX (.bool v24) (AI (fun hp => AI hp (PFn.call (zrb (zf hp h33)) (AI (VS rfl) TT) (AI rfl (AI rfl rfl)))) ?_))
   refine AI (fun hc => (bqt hc)) ?_
   refine AI (fun hp => hp) ?_
   refine AI (fun hp => hp) ?_
   refine AI (fun hc => (bqt hc)) ?_
   refine LWp.sim (e := [(1, .ptr (0, 0) 0 0), (2, .ptr (1, 0) 0 0), (5, .ptr (2, 0) 0 0), (6, .ptr (3, 0) 0 0), (8, .ptr (4, 0) 0 0), (9, i6 (W (((v23.1.fE.map z8).length : Int) - 1))), (11, .isl 9 (v1.map yi) false), (12, i6 ((v1.map yi).length : Int)), (13, i6 v12), (44, .bool ((((v23.1.fA.getD ((W (((v23.1.fE.map z8).length : Int) - 1)).toNat) default) == ([112, 97, 114, 97, 109, 115] : List UInt8)) && v24) && ((v1.getD v12.toNat default).fK != 5)))]) (L := [((0, 0), .one (z6 a0)), ((1, 0), .one [i6 0, i6 0, i6 0, .str [], i6 0, i6 0, .str [], .isl 1 (([] : List (List UInt8)).map z7) true, .isl 5 (([] : List (List AVal)).map z8) true]), ((2, 0), .one [i6 ((v1.getD v12.toNat default).fK), i6 ((v1.getD v12.toNat default).fI), i6 ((v1.getD v12.toNat default).fC), .str ((v1.getD v12.toNat default).fM), i6 (((v1.getD v12.toNat default).fB).fK), i6 (((v1.getD v12.toNat default).fB).fN), .str (((v1.getD v12.toNat default).fB).fT), .isl 1 ((((v1.getD v12.toNat default).fB).fA).map z7) false, .isl 5 ((((v1.getD v12.toNat default).fB).fE).map z8) false]), ((3, 0), .one (z6 v23.1)), ((4, 0), .one (z6 v23.1))]) (n := 5) ?_ ?_
   ·exact yp (M := [((0, 0), (0, 0)), ((1, 0), (1, 0)), ((2, 0), (2, 0)), ((3, 0), (3, 0)), ((4, 0), (4, 0))]) rfl (SP rfl (SP rfl (SP rfl (SP rfl (SP rfl (S4 rfl rfl rfl rfl (AI (VS rfl) TT))))))) (AI (AI rfl (OL rfl)) (AI (AI rfl (OL rfl)) (AI (AI rfl (OL rfl)) (AI (AI rfl (OL rfl)) (AI (AI rfl (OL rfl)) TT)))))
   refine yt (v := ((((v23.1.fA.getD ((W (((v23.1.fE.map z8).length : Int) - 1)).toNat) default) == ([112, 97, 114, 97, 109, 115] : List UInt8)) && v24) && ((v1.getD v12.toNat default).fK != 5))) rfl TT (fun h34 => ?_) (fun h34 => ?_)
   ·have h := zf h34 h
    refine zve rfl ?_
    obtain ⟨h35, h⟩ := qj h
    refine EX (.isl 1 ((v23.1.fA.take (W (((v23.1.fE.map z8).length : Int) - 1)).toNat).map z7) false) (AI (zu9 z7 (slB z7 v23.1.fA _) rfl) (AI (AI rfl (AI (Int.le_refl _) h35)) ?_))
    obtain ⟨h36, h⟩ := qj h
    refine EX (.isl 5 ((v23.1.fE.take (W (((v23.1.fE.map z8).length : Int) - 1)).toNat).map z8) false) (AI (zu9 z8 (slB z8 v23.1.fE _) rfl) (AI (AI rfl (AI (Int.le_refl _) h36)) ?_))
    obtain ⟨v25, h37, h⟩ := bind_some h
    refine PFn.call (Uf h37) (S2 rfl rfl TT) ?_
    refine LWp.sim ?_ (z8o h)
    exact yp (M := [((0, 0), (0, 0)), ((1, 0), (1, 0)), ((2, 0), (2, 0)), ((3, 0), (3, 0)), ((4, 0), (4, 0))]) rfl (SP rfl (SP rfl (SP rfl (SP rfl (SP rfl (S2 rfl rfl (AI (VS rfl) TT))))))) (AI (AI rfl (OL rfl)) (AI (AI rfl (OL rfl)) (AI (AI rfl (OL rfl)) (AI (AI rfl (OL rfl)) (AI (AI rfl (OL rfl)) TT)))))
   ·have h := zp h34 h
    refine xq ?_
    refine LWp.sim ?_ (z8o h)
    exact yp (M := [((0, 0), (0, 0)), ((1, 0), (1, 0)), ((2, 0), (2, 0)), ((3, 0), (3, 0)), ((4, 0), (4, 0))]) rfl (SP rfl (SP rfl (SP rfl (SP rfl (SP rfl (S2 rfl rfl (AI (VS rfl) TT))))))) (AI (AI rfl (OL rfl)) (AI (AI rfl (OL rfl)) (AI (AI rfl (OL rfl)) (AI (AI rfl (OL rfl)) (AI (AI rfl (OL rfl)) TT)))))
 ·have h := zp h28 h
  refine Xm ?_
  obtain ⟨o, hq, rfl⟩ := Option.map_eq_some_iff.1 h
  replace h := hq; clear hq
  refine AI nofun ?_
  refine LWp.sim ?_ (zha h)
  exact yp (M := [((0, 0), (1, 0))]) rfl (SP rfl TT) (AI (AI rfl (OL rfl)) TT)
theorem zlv {a0 : GJ} {v1 : (List GM)} {v12 : Int} {m : Option Nat} {o : (GM × Int)} (h : vb m a0 v1 v12 = some o) :
 LWp Tryd.prog Q9 0 (.loop zkv) (xn 0 (X5 Tryd.prog Q9 0 zco (zoe a0 o))) [(1, .ptr (0, 0) 0 0), (2, .ptr (1, 0) 0 0), (11, .isl 9 (v1.map yi) false), (12, i6 ((v1.map yi).length : Int)), (13, i6 v12)] [((0, 0), .one (z6 a0)), ((1, 0), .one [i6 0, i6 0, i6 0, .str [], i6 0, i6 0, .str [], .isl 1 (([] : List (List UInt8)).map z7) true, .isl 5 (([] : List (List AVal)).map z8) true])] 2 :=
 w8 (m := m) (s := (v12 : Int)) (r := o) (fun (s : Int) => jm m a0 v1 s) (Jy a0 v1) (K9 a0 v1) (z08 a0) (fun s o h => zf9 h) h
noncomputable def vo (m : Option Nat) (a0 : GJ) : Option (GM × Int) :=
 (jz m a0).bind fun v1 =>
 vb m a0 v1 0
theorem zl0 {a0 : GJ} {m : Option Nat} {o : GM × Int} (h : vo m a0 = some o) : LWp Tryd.prog Q9 0 zs8 (zoe a0 o) (y5 0 [.agg (z6 a0)]) [] 0 := by
 unfold vo at h
 refine za (ze ?_)
 refine za ?_
 refine za (ze ?_)
 obtain ⟨v1, h1, h⟩ := bind_some h
 refine PFn.call (zyu h1) (AI (VS rfl) TT) ?_
 refine xw ?_
 refine LWp.sim ?_ (zlv h)
 exact yp (M := [((0, 0), (0, 0)), ((1, 0), (1, 0))]) rfl (SP rfl (SP rfl (S2 rfl rfl (AI (VS rfl) TT)))) (AI (AI rfl (OL rfl)) (AI (AI rfl (OL rfl)) TT))
theorem zyp {a0 : GJ} {m : Option Nat} {o : GM × Int} (h : vo m a0 = some o) : PFn Tryd.prog 10 [.agg (z6 a0)] (.tup [.agg [i6 o.1.fK, i6 o.1.fI, i6 o.1.fC, .str o.1.fM, i6 o.1.fB.fK, i6 o.1.fB.fN, .str o.1.fB.fT, .isl 1 (o.1.fB.fA.map z7) false, .isl 5 (o.1.fB.fE.map z8) false], i6 o.2]) := PFn.ofFnW (L := zy5) zv6 zsr (NB rfl) rfl (zl0 h)
def z52 : LCode := (.seq (.region [Qo 12 (.bin .lss (.t 11) (.t 10))])
 (.seq (.cond (.t 12)
  .skip
  (.exit 0))
 (.seq (.block 1
  (.seq (.region [Qo 13 (.iaddr 5 (.t 9) (.t 11)),
   Qt 14 5 13,
   Qo 5 (.alloc [(i6 0), (i6 0), (.str []), (.isl 1 [] true), (.isl 5 [] true)]),
   ⟨none, .store 5 (.t 5) (.t 14), none⟩])
  (.seq (.region [Qt 16 5 5,
   Qc 17 37 16,
   Qm 15 17,
   Qo 18 (.ext 0 (.t 15)),
   Qo 19 (.ext 1 (.t 15)),
   Qm 6 18,
   Qm 7 19])
  (.seq (.region [Qm 20 2,
   Qm 21 6,
   Qo 22 (.bin .add (.t 20) (.t 21)),
   Qm 2 22])
  (.region [Qm 23 3,
   Qm 24 7,
   Qo 25 (.mnx true [(.t 23), (.t 24)]),
   Qm 3 25])))))
 (.region [Qo 26 (.bin .add (.t 11) (.c (i6 1))),
  Qm 11 26]))))
def Ux : LCode := (.seq (.region [Qm 27 2,
 Qm 28 3,
 Qo 29 (.bin .add (.t 28) (.c (i6 1))),
 Qm 2 27,
 Qm 3 29])
 .ret)
def zcs : LCode := (.seq (.region [Qo 1 (.box (.t 0)),
 Qi 2 0,
 Qi 3 0])
 (.seq (.region [Qi 2 1,
  Qi 3 0])
 (.seq (.seq (.region [Qf 8 4 1,
  Ql 9 1 8,
  Qo 10 (.len false (.t 9)),
  Qi 11 0])
 (.block 0
  (.loop
   z52)))
 Ux)))
def Yf : Lay := ⟨30, [], false⟩
def z7x : List LRes := [.t 2, .t 3]
def zn7 : LFn := ⟨1, Yf, zcs, z7x⟩
theorem zi4 : w9 Tryd.prog [] 37 = some zn7 := by kernel_rfl
theorem zmx : uk Tryd.prog 37 := ⟨_, Tryd.func37, rfl, rfl⟩
def z5q (a0 : GJ) (o : Int × Int) : Exit → Env → AHeap → Nat → Prop := Zq z7x (Wg 3 3 (.tup [i6 o.1, i6 o.2]) [])
def U1 (a0 : GJ) (s : (Int × Int × Int)) : Env := [(2, i6 s.1), (3, i6 s.2.1), (9, .isl 5 (a0.fE.map z8) false), (10, i6 ((a0.fE.map z8).length : Int)), (11, i6 s.2.2)]
def z1h (a0 : GJ) (s : (Int × Int × Int)) : AHeap := []
def z3a (a0 : GJ) (o : (Int × Int)) : Exit → Env → AHeap → Nat → Prop := (xn 0 (X5 Tryd.prog Yf 3 Ux (z5q a0 o)))
noncomputable def xz (rec5 : GJ → Option (Int × Int)) (m : Option Nat) (v3 : Int) (v4 : Int) : Option (Int × Int) :=
 some (v3, (W (v4 + 1)))
noncomputable def yg (rec5 : GJ → Option (Int × Int)) (m : Option Nat) (a0 : GJ) (v3 : Int) (v4 : Int) (v5 : Int) : Option ((Int × Int × Int) ⊕ (Int × Int)) :=
 if (decide (v5 < ((a0.fE.map z8).length : Int))) = true then
  if (0 : Int) ≤ v5 ∧ v5 < ((a0.fE.map z8).length : Int) then
  ((kq (a0.fE.getD v5.toNat default))).bind fun v8 =>
  (rec5 v8).bind fun v9 =>
  some (.inl ((W (v3 + v9.1)), (if v9.2 > v4 then v9.2 else v4), (W (v5 + 1))))
  else none
 else
  Option.map Sum.inr (
   xz rec5 m v3 v4)
noncomputable def qd (rec5 : GJ → Option (Int × Int)) (m : Option Nat) (a0 : GJ) (v3 : Int) (v4 : Int) (v5 : Int) : Option (Int × Int) := Zu m (fun (s : (Int × Int × Int)) => yg rec5 m a0 s.1 s.2.1 s.2.2) (v3, v4, v5)
abbrev Hr5 (rec5 : GJ → Option (Int × Int)) : Prop := ∀ {a0 : GJ} {o : Int × Int}, rec5 a0 = some o → ACalls Tryd.prog 37 [.agg (z6 a0)] [] 3 (ki 3 (.tup [i6 o.1, i6 o.2]) [])
theorem z97 {rec5 : GJ → Option (Int × Int)} (hrec5 : Hr5 rec5) {a0 : GJ} {v3 : Int} {v4 : Int} {m : Option Nat} {o : (Int × Int)} (h : xz rec5 m v3 v4 = some o) :
 LWp Tryd.prog Yf 3 Ux (z5q a0 o) [(2, i6 v3), (3, i6 v4)] [] 3 := by
 unfold xz at h
 refine za (ze ?_)
 refine wh ?_
 cases h
 exact AI TT (AI TT (z49 (n' := 3) [] [] rfl rfl (VS rfl) TT))
theorem z6l {rec5 : GJ → Option (Int × Int)} (hrec5 : Hr5 rec5) {a0 : GJ} {v3 : Int} {v4 : Int} {v5 : Int} {m : Option Nat} {o : (Int × Int × Int) ⊕ (Int × Int)} (h : yg rec5 m a0 v3 v4 v5 = some o) :
 LWp Tryd.prog Yf 3 z52 (Zf 3 3 (U1 a0) (z1h a0) (z3a a0) o) [(2, i6 v3), (3, i6 v4), (9, .isl 5 (a0.fE.map z8) false), (10, i6 ((a0.fE.map z8).length : Int)), (11, i6 v5)] [] 3 := by
 unfold yg at h
 refine za (ze ?_)
 refine za ?_
 refine yt (v := (decide (v5 < ((a0.fE.map z8).length : Int)))) rfl TT (fun h9 => ?_) (fun h9 => ?_)
 ·have h := zf h9 h
  refine xq ?_
  refine za ?_
  refine xw ?_
  refine za (ze ?_)
  obtain ⟨h10, h⟩ := qj h
  refine AI h10 ?_
  obtain ⟨v8, h11, h⟩ := bind_some h
  refine EX (z6 v8) (AI (j1 (wy z8 h10) h11) (AI (AI (vw h10) (NB rfl)) ?_))
  refine za (ze ?_)
  obtain ⟨v9, h12, h⟩ := bind_some h
  refine Xw (k := 3) (m := 0) (L' := []) (rest := [((3, 0), .one (z6 v8))]) (R' := .tup [i6 v9.1, i6 v9.2]) [] (hrec5 h12) rfl rfl rfl (AI (VS rfl) TT) TT (vj _ rfl) TT rfl ?_
  refine LWp.sim (e := [(2, i6 v3), (3, i6 v4), (6, i6 v9.1), (7, i6 v9.2), (9, .isl 5 (a0.fE.map z8) false), (10, i6 ((a0.fE.map z8).length : Int)), (11, i6 v5)]) (L := []) (n := 3) ?_ ?_
  ·exact yp (M := []) rfl (S4 rfl rfl rfl rfl (S2 rfl rfl (AI (VS rfl) TT))) TT
  refine za (ze ?_)
  refine ze ?_
  refine LWp.sim (e := [(2, i6 (W (v3 + v9.1))), (3, i6 (if v9.2 > v4 then v9.2 else v4)), (9, .isl 5 (a0.fE.map z8) false), (10, i6 ((a0.fE.map z8).length : Int)), (11, i6 v5)]) (L := []) (n := 3) ?_ ?_
  ·exact yp (M := []) rfl (S4 rfl rfl rfl rfl (AI (VS rfl) TT)) TT
  refine ze ?_
  cases h
  exact AI rfl (yp (M := []) rfl (S4 rfl rfl rfl rfl (AI (VS rfl) TT)) TT)
 ·have h := zp h9 h
  refine Xm ?_
  obtain ⟨o, hq, rfl⟩ := Option.map_eq_some_iff.1 h
  replace h := hq; clear hq
  refine AI nofun ?_
  refine LWp.sim ?_ (z97 hrec5 h)
  exact yp (M := []) rfl (S2 rfl rfl TT) TT
theorem za7 {rec5 : GJ → Option (Int × Int)} (hrec5 : Hr5 rec5) {a0 : GJ} {v3 : Int} {v4 : Int} {v5 : Int} {m : Option Nat} {o : (Int × Int)} (h : qd rec5 m a0 v3 v4 v5 = some o) :
 LWp Tryd.prog Yf 3 (.loop z52) (xn 0 (X5 Tryd.prog Yf 3 Ux (z5q a0 o))) [(2, i6 v3), (3, i6 v4), (9, .isl 5 (a0.fE.map z8) false), (10, i6 ((a0.fE.map z8).length : Int)), (11, i6 v5)] [] 3 :=
 w8 (m := m) (s := ((v3, v4, v5) : (Int × Int × Int))) (r := o) (fun (s : (Int × Int × Int)) => yg rec5 m a0 s.1 s.2.1 s.2.2) (U1 a0) (z1h a0) (z3a a0) (fun s o h => z6l hrec5 h) h
noncomputable def q7 (rec5 : GJ → Option (Int × Int)) (m : Option Nat) (a0 : GJ) : Option (Int × Int) :=
 qd rec5 m a0 1 0 0
theorem za8 {rec5 : GJ → Option (Int × Int)} (hrec5 : Hr5 rec5) {a0 : GJ} {m : Option Nat} {o : Int × Int} (h : q7 rec5 m a0 = some o) : LWp Tryd.prog Yf 3 zcs (z5q a0 o) (y5 0 [.agg (z6 a0)]) [] 3 := by
 unfold q7 at h
 refine za (ze ?_)
 refine za (ze ?_)
 refine za ?_
 refine za (ze ?_)
 refine LWp.sim (e := [(2, i6 1), (3, i6 0), (9, .isl 5 (a0.fE.map z8) false), (10, i6 ((a0.fE.map z8).length : Int)), (11, i6 0)]) (L := []) (n := 3) ?_ ?_
 ·exact yp (M := []) rfl (S4 rfl rfl rfl rfl (AI (VS rfl) TT)) TT
 refine xw ?_
 refine LWp.sim ?_ (za7 hrec5 h)
 exact yp (M := []) rfl (S4 rfl rfl rfl rfl (AI (VS rfl) TT)) TT
theorem zc7 {rec5 : GJ → Option (Int × Int)} (hrec5 : Hr5 rec5) {a0 : GJ} {m : Option Nat} {o : Int × Int} (h : q7 rec5 m a0 = some o) : ACalls Tryd.prog 37 [.agg (z6 a0)] [] 3 (ki 3 (.tup [i6 o.1, i6 o.2]) []) := Xx (L := zn7) zi4 zmx (NB rfl) (za8 hrec5 h)
noncomputable def qh (m : Option Nat) : Nat → GJ → Option (Int × Int)
 | 0 => fun _ => none
 | k + 1 => q7 (qh m k) m
noncomputable def wi (m : Option Nat) (a0 : GJ) : Option (Int × Int) := zeo m (fun k => qh m k a0)
theorem z6g {m : Option Nat} : ∀ (k : Nat) {a0 : GJ} {o : Int × Int}, qh m k a0 = some o → ACalls Tryd.prog 37 [.agg (z6 a0)] [] 3 (ki 3 (.tup [i6 o.1, i6 o.2]) [])
 | 0, _, _, h => nomatch h
 | k + 1, _, _, h => zc7 (fun h => z6g k h) h
theorem zjt {a0 : GJ} {m : Option Nat} {o : Int × Int} (h : wi m a0 = some o) : ACalls Tryd.prog 37 [.agg (z6 a0)] [] 3 (ki 3 (.tup [i6 o.1, i6 o.2]) []) := (Zs h).elim fun k h => z6g k h
noncomputable def kr (m : Option Nat) (a0 : GJ) : Option (Int × Int) := q7 (wi m) m a0
theorem zz5 {a0 : GJ} {m : Option Nat} {o : Int × Int} (h : kr m a0 = some o) : PFn Tryd.prog 37 [.agg (z6 a0)] (.tup [i6 o.1, i6 o.2]) :=
 ⟨rfl, _, Xw (k := 3) (m := 0) (L' := []) (rest := []) (R' := .tup [i6 o.1, i6 o.2]) [] (zc7 zjt h) rfl rfl rfl (AI (VS rfl) TT) TT (vj _ rfl) TT rfl ⟨rfl, rfl, rfl⟩⟩
def zr8 : LCode := (.seq (.region [Qm 34 4,
 Qo 35 (.bin .eql (.t 34) (.c (.int .u8 237)))])
 (.cond (.t 35)
  (.region [Qo 6 (.mv (.c (.int .u8 159)))])
  .skip))
def zrr : LCode := (.seq (.region [Qm 45 4,
 Qo 46 (.bin .eql (.t 45) (.c (.int .u8 244)))])
 (.cond (.t 46)
  (.region [Qo 6 (.mv (.c (.int .u8 143)))])
  .skip))
def zgd : LCode := (.seq (.region [Qo 51 (.bin .lss (.t 50) (.t 49))])
 (.seq (.cond (.t 51)
  .skip
  (.exit 3))
 (.seq (.block 4
  (.seq (.seq (.region [Qm 52 3,
   Qm 53 0,
   Qo 54 (.len true (.t 53)),
   Qo 55 (.bin .geq (.t 52) (.t 54)),
   Qm 56 55,
   Qn 57 0 (56, false),
   Qn 58 3 (56, false),
   Qg 59 (.idxS (.t 57) (.t 58)) (56, false),
   Qn 60 5 (56, false),
   Qg 61 (.bin .lss (.t 59) (.t 60)) (56, false),
   Qo 62 (.pick (.t 56) (.c (.bool true)) (.t 61)),
   Qm 63 62,
   Qn 64 0 (63, false),
   Qn 65 3 (63, false),
   Qg 66 (.idxS (.t 64) (.t 65)) (63, false),
   Qn 67 6 (63, false),
   Qg 68 (.bin .gtr (.t 66) (.t 67)) (63, false),
   Qo 69 (.pick (.t 63) (.c (.bool true)) (.t 68))])
  (.cond (.t 69)
   (.seq (.region [Qb 2])
   .ret)
   .skip))
  (.seq (.region [Qo 5 (.mv (.c (.int .u8 128))),
   Qo 6 (.mv (.c (.int .u8 191)))])
  (.region [Qm 70 3,
   Qo 71 (.bin .add (.t 70) (.c (i6 1))),
   Qm 3 71]))))
 (.region [Qo 72 (.bin .add (.t 50) (.c (i6 1))),
  Qm 50 72]))))
def zbl : LCode := (.seq (.region [Qm 47 3,
 Qo 48 (.bin .add (.t 47) (.c (i6 1))),
 Qm 3 48])
 (.seq (.region [Qm 49 7,
  Qi 50 0])
 (.block 3
  (.loop
   zgd))))
def zkn : LCode := (.seq (.seq (.region [Qm 8 3,
 Qm 9 0,
 Qo 10 (.len true (.t 9)),
 Qo 11 (.bin .lss (.t 8) (.t 10))])
 (.cond (.t 11)
  .skip
  (.exit 0)))
 (.block 1
  (.seq (.region [Qm 12 0,
   Qm 13 3,
   Qo 14 (.idxS (.t 12) (.t 13)),
   Qm 4 14])
  (.seq (.region [Qo 5 (.mv (.c (.int .u8 128))),
   Qo 6 (.mv (.c (.int .u8 191))),
   Qi 7 0])
  (.seq (.block 2
   (.seq (.region [Qm 16 4,
    Qo 17 (.bin .lss (.t 16) (.c (.int .u8 128))),
    Qm 15 17])
   (.cond (.t 15)
    .skip
    (.seq (.region [Qm 19 4,
     Qo 20 (.bin .geq (.t 19) (.c (.int .u8 194))),
     Qm 21 20,
     Qn 22 4 (21, true),
     Qg 23 (.bin .leq (.t 22) (.c (.int .u8 223))) (21, true),
     Qp 24 21 23,
     Qm 18 24])
    (.cond (.t 18)
     (.region [Qi 7 1])
     (.seq (.region [Qm 26 4,
      Qo 27 (.bin .geq (.t 26) (.c (.int .u8 224))),
      Qm 28 27,
      Qn 29 4 (28, true),
      Qg 30 (.bin .leq (.t 29) (.c (.int .u8 239))) (28, true),
      Qp 31 28 30,
      Qm 25 31])
     (.cond (.t 25)
      (.seq (.region [Qi 7 2])
      (.seq (.seq (.region [Qm 32 4,
       Qo 33 (.bin .eql (.t 32) (.c (.int .u8 224)))])
      (.cond (.t 33)
       (.region [Qo 5 (.mv (.c (.int .u8 160)))])
       .skip))
      zr8))
      (.seq (.region [Qm 37 4,
       Qo 38 (.bin .geq (.t 37) (.c (.int .u8 240))),
       Qm 39 38,
       Qn 40 4 (39, true),
       Qg 41 (.bin .leq (.t 40) (.c (.int .u8 244))) (39, true),
       Qp 42 39 41,
       Qm 36 42])
      (.cond (.t 36)
       (.seq (.region [Qi 7 3])
       (.seq (.seq (.region [Qm 43 4,
        Qo 44 (.bin .eql (.t 43) (.c (.int .u8 240)))])
       (.cond (.t 44)
        (.region [Qo 5 (.mv (.c (.int .u8 144)))])
        .skip))
       zrr))
       (.seq (.region [Qb 2])
       .ret))))))))))
  zbl)))))
def zd2 : LCode := (.seq (.region [Qo 2 (.mv (.c (.bool true)))])
 .ret)
def zqt : LCode := (.seq (.region [Qb 2])
 (.seq (.seq (.region [Qi 3 0])
 (.block 0
  (.loop
   zkn)))
 zd2))
def Z7 : Lay := ⟨73, [], false⟩
def zi6 : List LRes := [.t 2]
def zzg : LFn := ⟨1, Z7, zqt, zi6⟩
theorem ztj : w9 Tryd.prog [] 62 = some zzg := by kernel_rfl
theorem zsf : uk Tryd.prog 62 := ⟨_, Tryd.func62, rfl, rfl⟩
def zpf (a0 : List UInt8) (o : Bool) : Exit → Env → AHeap → Nat → Prop := Zq zi6 (x8 (.bool o))
def Zi (a0 : List UInt8) (s : Int) : Env := [(0, .str a0), (3, i6 s)]
def Yg (a0 : List UInt8) (s : Int) : AHeap := []
def Xa (a0 : List UInt8) (o : Bool) : Exit → Env → AHeap → Nat → Prop := (xn 0 (X5 Tryd.prog Z7 0 zd2 (zpf a0 o)))
noncomputable def q9 (m : Option Nat) (a0 : List UInt8) (v22 : Int) (v25 : Int) (v26 : Int) (v27 : Int) (v28 : Int) : Option ((Int × Int × Int × Int) ⊕ (Int ⊕ Bool)) :=
 if (decide (v28 < v22)) = true then
  if (((decide (v25 ≥ (a0.length : Int))) == false) = true → (0 : Int) ≤ v25 ∧ v25 < (a0.length : Int)) then
  if ((((decide (v25 ≥ (a0.length : Int))) || (decide ((((a0.getD v25.toNat 0).toNat : Nat) : Int) < v26))) == false) = true → (0 : Int) ≤ v25 ∧ v25 < (a0.length : Int)) then
  if (((decide (v25 ≥ (a0.length : Int))) || (decide ((((a0.getD v25.toNat 0).toNat : Nat) : Int) < v26))) || (decide ((((a0.getD v25.toNat 0).toNat : Nat) : Int) > v27))) = true then
   Option.map Sum.inr (
    Option.map Sum.inr (
     some false))
  else
   some (.inl ((W (v25 + 1)), 128, 191, (W (v28 + 1))))
  else none
  else none
 else
  Option.map Sum.inr (
   some (.inl v25))
noncomputable def qv (m : Option Nat) (a0 : List UInt8) (v22 : Int) (v25 : Int) (v26 : Int) (v27 : Int) (v28 : Int) : Option (Int ⊕ Bool) := Zu m (fun (s : (Int × Int × Int × Int)) => q9 m a0 v22 s.1 s.2.1 s.2.2.1 s.2.2.2) (v25, v26, v27, v28)
noncomputable def zu (m : Option Nat) (a0 : List UInt8) (v10 : Int) (v22 : Int) (v23 : Int) (v24 : Int) : Option (Int ⊕ Bool) :=
 qv m a0 v22 (W (v10 + 1)) v23 v24 0
noncomputable def qr (m : Option Nat) (a0 : List UInt8) (v10 : Int) (v20 : Int) : Option (Int ⊕ Bool) :=
 if ((((a0.getD v10.toNat 0).toNat : Nat) : Int) == 237) = true then
  zu m a0 v10 2 v20 159
 else
  zu m a0 v10 2 v20 191
def z3e (a0 : List UInt8) (v22 : Int) (s : (Int × Int × Int × Int)) : Env := [(0, .str a0), (3, i6 s.1), (5, .int .u8 s.2.1), (6, .int .u8 s.2.2.1), (49, i6 v22), (50, i6 s.2.2.2)]
def z7t (a0 : List UInt8) (v22 : Int) (s : (Int × Int × Int × Int)) : AHeap := []
def zcb (a0 : List UInt8) (o : (Int ⊕ Bool)) : Exit → Env → AHeap → Nat → Prop := (xn 3 (xn 1 (Zf 0 0 (Zi a0) (Yg a0) (Xa a0) o)))
theorem zfd {a0 : List UInt8} {v22 : Int} {v25 : Int} {v26 : Int} {v27 : Int} {v28 : Int} {m : Option Nat} {o : (Int × Int × Int × Int) ⊕ (Int ⊕ Bool)} (h : q9 m a0 v22 v25 v26 v27 v28 = some o) :
 LWp Tryd.prog Z7 0 zgd (Zf 0 0 (z3e a0 v22) (z7t a0 v22) (zcb a0) o) [(0, .str a0), (3, i6 v25), (5, .int .u8 v26), (6, .int .u8 v27), (49, i6 v22), (50, i6 v28)] [] 0 := by
 unfold q9 at h
 refine za (ze ?_)
 refine za ?_
 refine yt (v := (decide (v28 < v22))) rfl TT (fun h63 => ?_) (fun h63 => ?_)
 ·have h := zf h63 h
  refine xq ?_
  refine za ?_
  refine xw ?_
  refine za ?_
  refine za (ze ?_)
  obtain ⟨h64, h⟩ := qj h
  refine AI (fun hp => (AI (AI hp hp) (h64 hp))) ?_
  refine AI (fun hp => (AI hp hp)) ?_
  refine AI (fun hc => (bqf hc)) ?_
  obtain ⟨h65, h⟩ := qj h
  refine AI (fun hp => (AI (AI hp hp) (h65 hp))) ?_
  refine AI (fun hp => (AI hp hp)) ?_
  refine AI (fun hc => (bqf hc)) ?_
  refine LWp.sim (e := [(0, .str a0), (3, i6 v25), (49, i6 v22), (50, i6 v28), (69, .bool (((decide (v25 ≥ (a0.length : Int))) || (decide ((((a0.getD v25.toNat 0).toNat : Nat) : Int) < v26))) || (decide ((((a0.getD v25.toNat 0).toNat : Nat) : Int) > v27))))]) (L := []) (n := 0) ?_ ?_
  ·exact yp (M := []) rfl (S4 rfl rfl rfl rfl (AI (VS rfl) TT)) TT
  refine yt (v := (((decide (v25 ≥ (a0.length : Int))) || (decide ((((a0.getD v25.toNat 0).toNat : Nat) : Int) < v26))) || (decide ((((a0.getD v25.toNat 0).toNat : Nat) : Int) > v27)))) rfl TT (fun h66 => ?_) (fun h66 => ?_)
  ·have h := zf h66 h
   refine za (ze ?_)
   refine wh ?_
   obtain ⟨o, hq, rfl⟩ := Option.map_eq_some_iff.1 h
   replace h := hq; clear hq
   refine AI nofun ?_
   obtain ⟨o, hq, rfl⟩ := Option.map_eq_some_iff.1 h
   replace h := hq; clear hq
   refine AI nofun ?_
   cases h
   exact AI TT (AI rfl (VS rfl))
  ·have h := zp h66 h
   refine xq ?_
   refine za (ze ?_)
   refine ze ?_
   refine ze ?_
   cases h
   exact AI rfl (yp (M := []) rfl (S4 rfl rfl rfl rfl (S2 rfl rfl TT)) TT)
 ·have h := zp h63 h
  refine Xm ?_
  obtain ⟨o, hq, rfl⟩ := Option.map_eq_some_iff.1 h
  replace h := hq; clear hq
  refine AI nofun ?_
  cases h
  exact AI rfl (yp (M := []) rfl (S2 rfl rfl TT) TT)
theorem zls {a0 : List UInt8} {v22 : Int} {v25 : Int} {v26 : Int} {v27 : Int} {v28 : Int} {m : Option Nat} {o : (Int ⊕ Bool)} (h : qv m a0 v22 v25 v26 v27 v28 = some o) :
 LWp Tryd.prog Z7 0 (.loop zgd) (xn 3 (xn 1 (Zf 0 0 (Zi a0) (Yg a0) (Xa a0) o))) [(0, .str a0), (3, i6 v25), (5, .int .u8 v26), (6, .int .u8 v27), (49, i6 v22), (50, i6 v28)] [] 0 :=
 w8 (m := m) (s := ((v25, v26, v27, v28) : (Int × Int × Int × Int))) (r := o) (fun (s : (Int × Int × Int × Int)) => q9 m a0 v22 s.1 s.2.1 s.2.2.1 s.2.2.2) (z3e a0 v22) (z7t a0 v22) (zcb a0) (fun s o h => zfd h) h
theorem Qx {a0 : List UInt8} {v10 : Int} {v22 : Int} {v23 : Int} {v24 : Int} {m : Option Nat} {o : (Int ⊕ Bool)} (h : zu m a0 v10 v22 v23 v24 = some o) :
 LWp Tryd.prog Z7 0 zbl (xn 1 (Zf 0 0 (Zi a0) (Yg a0) (Xa a0) o)) [(0, .str a0), (3, i6 v10), (5, .int .u8 v23), (6, .int .u8 v24), (7, i6 v22)] [] 0 := by
 unfold zu at h
 refine za (ze ?_)
 refine za (ze ?_)
 refine xw ?_
 refine LWp.sim ?_ (zls h)
 exact yp (M := []) rfl (S4 rfl rfl rfl rfl (S2 rfl rfl TT)) TT
theorem z88 {a0 : List UInt8} {v10 : Int} {v20 : Int} {m : Option Nat} {o : (Int ⊕ Bool)} (h : qr m a0 v10 v20 = some o) :
 LWp Tryd.prog Z7 0 zr8 (xn 2 (X5 Tryd.prog Z7 0 zbl (xn 1 (Zf 0 0 (Zi a0) (Yg a0) (Xa a0) o)))) [(0, .str a0), (3, i6 v10), (4, .int .u8 (((a0.getD v10.toNat 0).toNat : Nat) : Int)), (5, .int .u8 v20), (6, .int .u8 191), (7, i6 2)] [] 0 := by
 unfold qr at h
 refine za (ze ?_)
 refine yt (v := ((((a0.getD v10.toNat 0).toNat : Nat) : Int) == 237)) rfl TT (fun h51 => ?_) (fun h51 => ?_)
 ·have h := zf h51 h
  refine ze ?_
  refine LWp.sim ?_ (Qx h)
  exact yp (M := []) rfl (S4 rfl rfl rfl rfl (AI (VS rfl) TT)) TT
 ·have h := zp h51 h
  refine xq ?_
  refine LWp.sim ?_ (Qx h)
  exact yp (M := []) rfl (S4 rfl rfl rfl rfl (AI (VS rfl) TT)) TT
noncomputable def qt (m : Option Nat) (a0 : List UInt8) (v10 : Int) (v21 : Int) : Option (Int ⊕ Bool) :=
 if ((((a0.getD v10.toNat 0).toNat : Nat) : Int) == 244) = true then
  zu m a0 v10 3 v21 143
 else
  zu m a0 v10 3 v21 191
theorem z6m {a0 : List UInt8} {v10 : Int} {v21 : Int} {m : Option Nat} {o : (Int ⊕ Bool)} (h : qt m a0 v10 v21 = some o) :
 LWp Tryd.prog Z7 0 zrr (xn 2 (X5 Tryd.prog Z7 0 zbl (xn 1 (Zf 0 0 (Zi a0) (Yg a0) (Xa a0) o)))) [(0, .str a0), (3, i6 v10), (4, .int .u8 (((a0.getD v10.toNat 0).toNat : Nat) : Int)), (5, .int .u8 v21), (6, .int .u8 191), (7, i6 3)] [] 0 := by
 unfold qt at h
 refine za (ze ?_)
 refine yt (v := ((((a0.getD v10.toNat 0).toNat : Nat) : Int) == 244)) rfl TT (fun h54 => ?_) (fun h54 => ?_)
 ·have h := zf h54 h
  refine ze ?_
  refine LWp.sim ?_ (Qx h)
  exact yp (M := []) rfl (S4 rfl rfl rfl rfl (AI (VS rfl) TT)) TT
 ·have h := zp h54 h
  refine xq ?_
  refine LWp.sim ?_ (Qx h)
  exact yp (M := []) rfl (S4 rfl rfl rfl rfl (AI (VS rfl) TT)) TT
noncomputable def wn (m : Option Nat) : Option Bool :=
 some true
noncomputable def yz (m : Option Nat) (a0 : List UInt8) (v10 : Int) : Option (Int ⊕ Bool) :=
 if (decide (v10 < (a0.length : Int))) = true then
  if (0 : Int) ≤ v10 ∧ v10 < (a0.length : Int) then
  if (decide ((((a0.getD v10.toNat 0).toNat : Nat) : Int) < 128)) = true then
   zu m a0 v10 0 128 191
  else
   if ((decide ((((a0.getD v10.toNat 0).toNat : Nat) : Int) ≥ 194)) && (decide ((((a0.getD v10.toNat 0).toNat : Nat) : Int) ≤ 223))) = true then
    zu m a0 v10 1 128 191
   else
    if ((decide ((((a0.getD v10.toNat 0).toNat : Nat) : Int) ≥ 224)) && (decide ((((a0.getD v10.toNat 0).toNat : Nat) : Int) ≤ 239))) = true then
     if ((((a0.getD v10.toNat 0).toNat : Nat) : Int) == 224) = true then
      qr m a0 v10 160
     else
      qr m a0 v10 128
    else
     if ((decide ((((a0.getD v10.toNat 0).toNat : Nat) : Int) ≥ 240)) && (decide ((((a0.getD v10.toNat 0).toNat : Nat) : Int) ≤ 244))) = true then
      if ((((a0.getD v10.toNat 0).toNat : Nat) : Int) == 240) = true then
       qt m a0 v10 144
      else
       qt m a0 v10 128
     else
      Option.map Sum.inr (
       some false)
  else none
 else
  Option.map Sum.inr (
   wn m)
noncomputable def xk (m : Option Nat) (a0 : List UInt8) (v10 : Int) : Option Bool := Zu m (fun (s : Int) => yz m a0 s) v10
theorem zfb {a0 : List UInt8} {m : Option Nat} {o : Bool} (h : wn m = some o) :
 LWp Tryd.prog Z7 0 zd2 (zpf a0 o) [] [] 0 := by
 unfold wn at h
 refine za (ze ?_)
 refine wh ?_
 cases h
 exact AI TT (AI rfl (VS rfl))
theorem zfx {a0 : List UInt8} {v10 : Int} {m : Option Nat} {o : Int ⊕ Bool} (h : yz m a0 v10 = some o) :
 LWp Tryd.prog Z7 0 zkn (Zf 0 0 (Zi a0) (Yg a0) (Xa a0) o) [(0, .str a0), (3, i6 v10)] [] 0 := by
 unfold yz at h
 refine za ?_
 refine za (ze ?_)
 refine yt (v := (decide (v10 < (a0.length : Int)))) rfl TT (fun h45 => ?_) (fun h45 => ?_)
 ·have h := zf h45 h
  refine xq ?_
  refine xw ?_
  refine za (ze ?_)
  obtain ⟨h46, h⟩ := qj h
  refine AI h46 ?_
  refine LWp.sim (e := [(0, .str a0), (3, i6 v10), (4, .int .u8 (((a0.getD v10.toNat 0).toNat : Nat) : Int))]) (L := []) (n := 0) ?_ ?_
  ·exact yp (M := []) rfl (S2 rfl rfl (AI (VS rfl) TT)) TT
  refine za (ze ?_)
  refine za ?_
  refine xw ?_
  refine za (ze ?_)
  refine yt (v := (decide ((((a0.getD v10.toNat 0).toNat : Nat) : Int) < 128))) rfl TT (fun h47 => ?_) (fun h47 => ?_)
  ·have h := zf h47 h
   refine xq ?_
   refine LWp.sim ?_ (Qx h)
   exact yp (M := []) rfl (S4 rfl rfl rfl rfl (AI (VS rfl) TT)) TT
  ·have h := zp h47 h
   refine za (ze ?_)
   refine AI (fun hp => hp) ?_
   refine AI (fun hc => (bqt hc)) ?_
   refine LWp.sim (e := [(0, .str a0), (3, i6 v10), (4, .int .u8 (((a0.getD v10.toNat 0).toNat : Nat) : Int)), (5, .int .u8 128), (6, .int .u8 191), (18, .bool ((decide ((((a0.getD v10.toNat 0).toNat : Nat) : Int) ≥ 194)) && (decide ((((a0.getD v10.toNat 0).toNat : Nat) : Int) ≤ 223))))]) (L := []) (n := 0) ?_ ?_
   ·exact yp (M := []) rfl (S4 rfl rfl rfl rfl (S2 rfl rfl TT)) TT
   refine yt (v := ((decide ((((a0.getD v10.toNat 0).toNat : Nat) : Int) ≥ 194)) && (decide ((((a0.getD v10.toNat 0).toNat : Nat) : Int) ≤ 223)))) rfl TT (fun h48 => ?_) (fun h48 => ?_)
   ·have h := zf h48 h
    refine ze ?_
    refine LWp.sim ?_ (Qx h)
    exact yp (M := []) rfl (S4 rfl rfl rfl rfl (AI (VS rfl) TT)) TT
   ·have h := zp h48 h
    refine za (ze ?_)
    refine AI (fun hp => hp) ?_
    refine AI (fun hc => (bqt hc)) ?_
    refine yt (v := ((decide ((((a0.getD v10.toNat 0).toNat : Nat) : Int) ≥ 224)) && (decide ((((a0.getD v10.toNat 0).toNat : Nat) : Int) ≤ 239)))) rfl TT (fun h49 => ?_) (fun h49 => ?_)
    ·have h := zf h49 h
     refine za (ze ?_)
     refine LWp.sim (e := [(0, .str a0), (3, i6 v10), (4, .int .u8 (((a0.getD v10.toNat 0).toNat : Nat) : Int)), (5, .int .u8 128), (6, .int .u8 191), (7, i6 2)]) (L := []) (n := 0) ?_ ?_
     ·exact yp (M := []) rfl (S4 rfl rfl rfl rfl (S2 rfl rfl TT)) TT
     refine za ?_
     refine za (ze ?_)
     refine yt (v := ((((a0.getD v10.toNat 0).toNat : Nat) : Int) == 224)) rfl TT (fun h50 => ?_) (fun h50 => ?_)
     ·have h := zf h50 h
      refine ze ?_
      refine LWp.sim ?_ (z88 h)
      exact yp (M := []) rfl (S4 rfl rfl rfl rfl (S2 rfl rfl TT)) TT
     ·have h := zp h50 h
      refine xq ?_
      refine LWp.sim ?_ (z88 h)
      exact yp (M := []) rfl (S4 rfl rfl rfl rfl (S2 rfl rfl TT)) TT
    ·have h := zp h49 h
     refine za (ze ?_)
     refine AI (fun hp => hp) ?_
     refine AI (fun hc => (bqt hc)) ?_
     refine LWp.sim (e := [(0, .str a0), (3, i6 v10), (4, .int .u8 (((a0.getD v10.toNat 0).toNat : Nat) : Int)), (5, .int .u8 128), (6, .int .u8 191), (36, .bool ((decide ((((a0.getD v10.toNat 0).toNat : Nat) : Int) ≥ 240)) && (decide ((((a0.getD v10.toNat 0).toNat : Nat) : Int) ≤ 244))))]) (L := []) (n := 0) ?_ ?_
     ·exact yp (M := []) rfl (S4 rfl rfl rfl rfl (S2 rfl rfl TT)) TT
     refine yt (v := ((decide ((((a0.getD v10.toNat 0).toNat : Nat) : Int) ≥ 240)) && (decide ((((a0.getD v10.toNat 0).toNat : Nat) : Int) ≤ 244)))) rfl TT (fun h52 => ?_) (fun h52 => ?_)
     ·have h := zf h52 h
      refine za (ze ?_)
      refine za ?_
      refine za (ze ?_)
      refine yt (v := ((((a0.getD v10.toNat 0).toNat : Nat) : Int) == 240)) rfl TT (fun h53 => ?_) (fun h53 => ?_)
      ·have h := zf h53 h
       refine ze ?_
       refine LWp.sim ?_ (z6m h)
       exact yp (M := []) rfl (S4 rfl rfl rfl rfl (S2 rfl rfl TT)) TT
      ·have h := zp h53 h
       refine xq ?_
       refine LWp.sim ?_ (z6m h)
       exact yp (M := []) rfl (S4 rfl rfl rfl rfl (S2 rfl rfl TT)) TT
     ·have h := zp h52 h
      refine za (ze ?_)
      refine wh ?_
      obtain ⟨o, hq, rfl⟩ := Option.map_eq_some_iff.1 h
      replace h := hq; clear hq
      refine AI nofun ?_
      cases h
      exact AI TT (AI rfl (VS rfl))
 ·have h := zp h45 h
  refine Xm ?_
  obtain ⟨o, hq, rfl⟩ := Option.map_eq_some_iff.1 h
  replace h := hq; clear hq
  refine AI nofun ?_
  refine LWp.sim ?_ (zfb h)
  exact yp (M := []) rfl TT TT
theorem zie {a0 : List UInt8} {v10 : Int} {m : Option Nat} {o : Bool} (h : xk m a0 v10 = some o) :
 LWp Tryd.prog Z7 0 (.loop zkn) (xn 0 (X5 Tryd.prog Z7 0 zd2 (zpf a0 o))) [(0, .str a0), (3, i6 v10)] [] 0 :=
 w8 (m := m) (s := (v10 : Int)) (r := o) (fun (s : Int) => yz m a0 s) (Zi a0) (Yg a0) (Xa a0) (fun s o h => zfx h) h
noncomputable def qb (m : Option Nat) (a0 : List UInt8) : Option Bool :=
 xk m a0 0
theorem zjs {a0 : List UInt8} {m : Option Nat} {o : Bool} (h : qb m a0 = some o) : LWp Tryd.prog Z7 0 zqt (zpf a0 o) (y5 0 [.str a0]) [] 0 := by
 unfold qb at h
 refine za (ze ?_)
 refine za ?_
 refine za (ze ?_)
 refine xw ?_
 refine LWp.sim ?_ (zie h)
 exact yp (M := []) rfl (S2 rfl rfl TT) TT
theorem zia {a0 : List UInt8} {m : Option Nat} {o : Bool} (h : qb m a0 = some o) : PFn Tryd.prog 62 [.str a0] (.bool o) := PFn.ofFnW (L := zzg) ztj zsf (NB rfl) rfl (zjs h)
def zm4 : LCode := (.seq (.region [Qo 10 (.bin .lss (.t 9) (.t 8))])
 (.seq (.cond (.t 10)
  .skip
  (.exit 0))
 (.seq (.block 1
  (.seq (.region [Qm 11 9,
   Qo 12 (.iaddr 1 (.t 7) (.t 9)),
   Ql 13 1 12,
   Qm 5 11,
   Qm 6 13])
  (.seq (.region [Qm 14 1,
   Qm 15 6,
   Qo 16 (.bin .eql (.t 14) (.t 15))])
  (.cond (.t 16)
   (.seq (.region [Qm 17 5,
    Qm 4 17])
   .ret)
   .skip))))
 (.region [Qo 18 (.bin .add (.t 9) (.c (i6 1))),
  Qm 9 18]))))
def zcr : LCode := (.seq (.region [Qo 4 (.mv (.c (i6 (-1))))])
 .ret)
def zr7 : LCode := (.seq (.region [Qi 4 0])
 (.seq (.seq (.region [Qm 7 0,
  Qo 8 (.len false (.t 7)),
  Qi 9 0])
 (.block 0
  (.loop
   zm4)))
 zcr))
def Wy : Lay := ⟨19, [], false⟩
def zlq : List LRes := [.t 4]
def zyb : LFn := ⟨2, Wy, zr7, zlq⟩
theorem zvn : w9 Tryd.prog [] 64 = some zyb := by kernel_rfl
theorem ztk : uk Tryd.prog 64 := ⟨_, Tryd.func64, rfl, rfl⟩
def zop (a0 : List (List UInt8)) (a1 : List UInt8) (o : Int) : Exit → Env → AHeap → Nat → Prop := Zq zlq (x8 (i6 o))
def z3b (a0 : List (List UInt8)) (a1 : List UInt8) (s : Int) : Env := [(1, .str a1), (7, .isl 1 (a0.map z7) false), (8, i6 ((a0.map z7).length : Int)), (9, i6 s)]
def z81 (a0 : List (List UInt8)) (a1 : List UInt8) (s : Int) : AHeap := []
def zbu (a0 : List (List UInt8)) (a1 : List UInt8) (o : Int) : Exit → Env → AHeap → Nat → Prop := (xn 0 (X5 Tryd.prog Wy 0 zcr (zop a0 a1 o)))
noncomputable def wb (m : Option Nat) : Option Int :=
 some (-1)
noncomputable def zn (m : Option Nat) (a0 : List (List UInt8)) (a1 : List UInt8) (v1 : Int) : Option (Int ⊕ Int) :=
 if (decide (v1 < ((a0.map z7).length : Int))) = true then
  if (0 : Int) ≤ v1 ∧ v1 < ((a0.map z7).length : Int) then
  if (a1 == (a0.getD v1.toNat default)) = true then
   Option.map Sum.inr (
    some v1)
  else
   some (.inl (W (v1 + 1)))
  else none
 else
  Option.map Sum.inr (
   wb m)
noncomputable def y1 (m : Option Nat) (a0 : List (List UInt8)) (a1 : List UInt8) (v1 : Int) : Option Int := Zu m (fun (s : Int) => zn m a0 a1 s) v1
theorem zlp {a0 : List (List UInt8)} {a1 : List UInt8} {m : Option Nat} {o : Int} (h : wb m = some o) :
 LWp Tryd.prog Wy 0 zcr (zop a0 a1 o) [] [] 0 := by
 unfold wb at h
 refine za (ze ?_)
 refine wh ?_
 cases h
 exact AI TT (AI rfl (VS rfl))
theorem zfw {a0 : List (List UInt8)} {a1 : List UInt8} {v1 : Int} {m : Option Nat} {o : Int ⊕ Int} (h : zn m a0 a1 v1 = some o) :
 LWp Tryd.prog Wy 0 zm4 (Zf 0 0 (z3b a0 a1) (z81 a0 a1) (zbu a0 a1) o) [(1, .str a1), (7, .isl 1 (a0.map z7) false), (8, i6 ((a0.map z7).length : Int)), (9, i6 v1)] [] 0 := by
 unfold zn at h
 refine za (ze ?_)
 refine za ?_
 refine yt (v := (decide (v1 < ((a0.map z7).length : Int)))) rfl TT (fun h7 => ?_) (fun h7 => ?_)
 ·have h := zf h7 h
  refine xq ?_
  refine za ?_
  refine xw ?_
  refine za (ze ?_)
  obtain ⟨h8, h⟩ := qj h
  refine AI h8 ?_
  refine EX (z7 (a0.getD v1.toNat default)) (AI (uj z7 _ _ (wy z7 h8)) (AI (AI (vw h8) (NB rfl)) ?_))
  refine za (ze ?_)
  refine LWp.sim (e := [(1, .str a1), (5, i6 v1), (7, .isl 1 (a0.map z7) false), (8, i6 ((a0.map z7).length : Int)), (9, i6 v1), (16, .bool (a1 == (a0.getD v1.toNat default)))]) (L := []) (n := 0) ?_ ?_
  ·exact yp (M := []) rfl (S4 rfl rfl rfl rfl (S2 rfl rfl TT)) TT
  refine yt (v := (a1 == (a0.getD v1.toNat default))) rfl TT (fun h9 => ?_) (fun h9 => ?_)
  ·have h := zf h9 h
   refine za (ze ?_)
   refine wh ?_
   obtain ⟨o, hq, rfl⟩ := Option.map_eq_some_iff.1 h
   replace h := hq; clear hq
   refine AI nofun ?_
   cases h
   exact AI TT (AI rfl (VS rfl))
  ·have h := zp h9 h
   refine xq ?_
   refine ze ?_
   cases h
   exact AI rfl (yp (M := []) rfl (S4 rfl rfl rfl rfl TT) TT)
 ·have h := zp h7 h
  refine Xm ?_
  obtain ⟨o, hq, rfl⟩ := Option.map_eq_some_iff.1 h
  replace h := hq; clear hq
  refine AI nofun ?_
  refine LWp.sim ?_ (zlp h)
  exact yp (M := []) rfl TT TT
theorem zhm {a0 : List (List UInt8)} {a1 : List UInt8} {v1 : Int} {m : Option Nat} {o : Int} (h : y1 m a0 a1 v1 = some o) :
 LWp Tryd.prog Wy 0 (.loop zm4) (xn 0 (X5 Tryd.prog Wy 0 zcr (zop a0 a1 o))) [(1, .str a1), (7, .isl 1 (a0.map z7) false), (8, i6 ((a0.map z7).length : Int)), (9, i6 v1)] [] 0 :=
 w8 (m := m) (s := (v1 : Int)) (r := o) (fun (s : Int) => zn m a0 a1 s) (z3b a0 a1) (z81 a0 a1) (zbu a0 a1) (fun s o h => zfw h) h
noncomputable def q8 (m : Option Nat) (a0 : List (List UInt8)) (a1 : List UInt8) : Option Int :=
 y1 m a0 a1 0
theorem zi0 {a0 : List (List UInt8)} {a1 : List UInt8} {m : Option Nat} {o : Int} (h : q8 m a0 a1 = some o) : LWp Tryd.prog Wy 0 zr7 (zop a0 a1 o) (y5 0 [.isl 1 (a0.map z7) false, .str a1]) [] 0 := by
 unfold q8 at h
 refine za (ze ?_)
 refine za ?_
 refine za (ze ?_)
 refine xw ?_
 refine LWp.sim ?_ (zhm h)
 exact yp (M := []) rfl (S4 rfl rfl rfl rfl TT) TT
theorem zrs {a0 : List (List UInt8)} {a1 : List UInt8} {m : Option Nat} {o : Int} (h : q8 m a0 a1 = some o) : PFn Tryd.prog 64 [.isl 1 (a0.map z7) false, .str a1] (i6 o) := PFn.ofFnW (L := zyb) zvn ztk (NB rfl) rfl (zi0 h)
def zr1 : LCode := (.seq (.region [Qb 4])
 (.seq (.region [Qm 5 0,
  Qm 6 1,
  Qo 7 (.call 64 [(.t 5), (.t 6)]),
  Qo 8 (.bin .geq (.t 7) (.c (i6 0))),
  Qm 4 8])
 .ret))
def zjm : Lay := ⟨9, [], false⟩
def zkr : List LRes := [.t 4]
def zyt : LFn := ⟨2, zjm, zr1, zkr⟩
theorem zuv : w9 Tryd.prog [] 78 = some zyt := by kernel_rfl
theorem zv4 : uk Tryd.prog 78 := ⟨_, Tryd.func78, rfl, rfl⟩
noncomputable def qe (m : Option Nat) (a0 : List (List UInt8)) (a1 : List UInt8) : Option Bool :=
 (q8 m a0 a1).bind fun v1 =>
 some (decide (v1 ≥ 0))
def y0n (a0 : List (List UInt8)) (a1 : List UInt8) (o : Bool) : Exit → Env → AHeap → Nat → Prop := Zq zkr (x8 (.bool o))
theorem zjf {a0 : List (List UInt8)} {a1 : List UInt8} {m : Option Nat} {o : Bool} (h : qe m a0 a1 = some o) : LWp Tryd.prog zjm 0 zr1 (y0n a0 a1 o) (y5 0 [.isl 1 (a0.map z7) false, .str a1]) [] 0 := by
 unfold qe at h
 refine za (ze ?_)
 refine za (ze ?_)
 obtain ⟨v1, h1, h⟩ := bind_some h
 refine PFn.call (zrs h1) (S2 rfl rfl TT) ?_
 refine wh ?_
 cases h
 exact AI TT (AI rfl (VS rfl))
theorem zyh {a0 : List (List UInt8)} {a1 : List UInt8} {m : Option Nat} {o : Bool} (h : qe m a0 a1 = some o) : PFn Tryd.prog 78 [.isl 1 (a0.map z7) false, .str a1] (.bool o) := PFn.ofFnW (L := zyt) zuv zv4 (NB rfl) rfl (zjf h)
def zgz : LCode := (.seq (.region [Qo 8 (.bin .lss (.t 7) (.t 6))])
 (.seq (.cond (.t 8)
  .skip
  (.exit 0))
 (.seq (.block 1
  (.seq (.region [Qm 9 7,
   Qo 10 (.iaddr 1 (.t 5) (.t 7)),
   Ql 11 1 10,
   Qm 3 9,
   Qm 4 11])
  (.seq (.region [Qm 12 0,
   Qm 13 3,
   Qo 14 (.slSl 1 (.t 12) none (some (.t 13)) none),
   Qm 15 4,
   Qo 16 (.call 78 [(.t 14), (.t 15)])])
  (.cond (.t 16)
   (.seq (.region [Qo 2 (.mv (.c (.bool true)))])
   .ret)
   .skip))))
 (.region [Qo 17 (.bin .add (.t 7) (.c (i6 1))),
  Qm 7 17]))))
def zdq : LCode := (.seq (.region [Qb 2])
 .ret)
def zs1 : LCode := (.seq (.region [Qb 2])
 (.seq (.seq (.region [Qm 5 0,
  Qo 6 (.len false (.t 5)),
  Qi 7 0])
 (.block 0
  (.loop
   zgz)))
 zdq))
def V1 : Lay := ⟨18, [], false⟩
def zhi : List LRes := [.t 2]
def zwo : LFn := ⟨1, V1, zs1, zhi⟩
theorem zv9 : w9 Tryd.prog [] 63 = some zwo := by kernel_rfl
theorem zt3 : uk Tryd.prog 63 := ⟨_, Tryd.func63, rfl, rfl⟩
def zo5 (a0 : List (List UInt8)) (o : Bool) : Exit → Env → AHeap → Nat → Prop := Zq zhi (x8 (.bool o))
def z3r (a0 : List (List UInt8)) (s : Int) : Env := [(0, .isl 1 (a0.map z7) false), (5, .isl 1 (a0.map z7) false), (6, i6 ((a0.map z7).length : Int)), (7, i6 s)]
def z91 (a0 : List (List UInt8)) (s : Int) : AHeap := []
def zdh (a0 : List (List UInt8)) (o : Bool) : Exit → Env → AHeap → Nat → Prop := (xn 0 (X5 Tryd.prog V1 0 zdq (zo5 a0 o)))
noncomputable def wt (m : Option Nat) : Option Bool :=
 some false
noncomputable def yy (m : Option Nat) (a0 : List (List UInt8)) (v2 : Int) : Option (Int ⊕ Bool) :=
 if (decide (v2 < ((a0.map z7).length : Int))) = true then
  if (0 : Int) ≤ v2 ∧ v2 < ((a0.map z7).length : Int) then
  if (0 : Int) ≤ v2 ∧ v2 ≤ ((a0.map z7).length : Int) then
  (qe m (a0.take v2.toNat) (a0.getD v2.toNat default)).bind fun v4 =>
  if v4 = true then
   Option.map Sum.inr (
    some true)
  else
   some (.inl (W (v2 + 1)))
  else none
  else none
 else
  Option.map Sum.inr (
   wt m)
noncomputable def xl (m : Option Nat) (a0 : List (List UInt8)) (v2 : Int) : Option Bool := Zu m (fun (s : Int) => yy m a0 s) v2
theorem zk5 {a0 : List (List UInt8)} {m : Option Nat} {o : Bool} (h : wt m = some o) :
 LWp Tryd.prog V1 0 zdq (zo5 a0 o) [] [] 0 := by
 unfold wt at h
 refine za (ze ?_)
 refine wh ?_
 cases h
 exact AI TT (AI rfl (VS rfl))
theorem zfm {a0 : List (List UInt8)} {v2 : Int} {m : Option Nat} {o : Int ⊕ Bool} (h : yy m a0 v2 = some o) :
 LWp Tryd.prog V1 0 zgz (Zf 0 0 (z3r a0) (z91 a0) (zdh a0) o) [(0, .isl 1 (a0.map z7) false), (5, .isl 1 (a0.map z7) false), (6, i6 ((a0.map z7).length : Int)), (7, i6 v2)] [] 0 := by
 unfold yy at h
 refine za (ze ?_)
 refine za ?_
 refine yt (v := (decide (v2 < ((a0.map z7).length : Int)))) rfl TT (fun h11 => ?_) (fun h11 => ?_)
 ·have h := zf h11 h
  refine xq ?_
  refine za ?_
  refine xw ?_
  refine za (ze ?_)
  obtain ⟨h12, h⟩ := qj h
  refine AI h12 ?_
  refine EX (z7 (a0.getD v2.toNat default)) (AI (uj z7 _ _ (wy z7 h12)) (AI (AI (vw h12) (NB rfl)) ?_))
  refine za (ze ?_)
  obtain ⟨h13, h⟩ := qj h
  refine EX (.isl 1 ((a0.take v2.toNat).map z7) false) (AI (zu9 z7 (slB z7 a0 _) rfl) (AI (AI rfl (AI (Int.le_refl _) h13)) ?_))
  obtain ⟨v4, h14, h⟩ := bind_some h
  refine PFn.call (zyh h14) (S2 rfl rfl TT) ?_
  refine LWp.sim (e := [(0, .isl 1 (a0.map z7) false), (5, .isl 1 (a0.map z7) false), (6, i6 ((a0.map z7).length : Int)), (7, i6 v2), (16, .bool v4)]) (L := []) (n := 0) ?_ ?_
  ·exact yp (M := []) rfl (S4 rfl rfl rfl rfl (AI (VS rfl) TT)) TT
  refine yt (v := v4) rfl TT (fun h15 => ?_) (fun h15 => ?_)
  ·have h := zf h15 h
   refine za (ze ?_)
   refine wh ?_
   obtain ⟨o, hq, rfl⟩ := Option.map_eq_some_iff.1 h
   replace h := hq; clear hq
   refine AI nofun ?_
   cases h
   exact AI TT (AI rfl (VS rfl))
  ·have h := zp h15 h
   refine xq ?_
   refine ze ?_
   cases h
   exact AI rfl (yp (M := []) rfl (S4 rfl rfl rfl rfl TT) TT)
 ·have h := zp h11 h
  refine Xm ?_
  obtain ⟨o, hq, rfl⟩ := Option.map_eq_some_iff.1 h
  replace h := hq; clear hq
  refine AI nofun ?_
  refine LWp.sim ?_ (zk5 h)
  exact yp (M := []) rfl TT TT
theorem zkm {a0 : List (List UInt8)} {v2 : Int} {m : Option Nat} {o : Bool} (h : xl m a0 v2 = some o) :
 LWp Tryd.prog V1 0 (.loop zgz) (xn 0 (X5 Tryd.prog V1 0 zdq (zo5 a0 o))) [(0, .isl 1 (a0.map z7) false), (5, .isl 1 (a0.map z7) false), (6, i6 ((a0.map z7).length : Int)), (7, i6 v2)] [] 0 :=
 w8 (m := m) (s := (v2 : Int)) (r := o) (fun (s : Int) => yy m a0 s) (z3r a0) (z91 a0) (zdh a0) (fun s o h => zfm h) h
noncomputable def jh (m : Option Nat) (a0 : List (List UInt8)) : Option Bool :=
 xl m a0 0
theorem zgy {a0 : List (List UInt8)} {m : Option Nat} {o : Bool} (h : jh m a0 = some o) : LWp Tryd.prog V1 0 zs1 (zo5 a0 o) (y5 0 [.isl 1 (a0.map z7) false]) [] 0 := by
 unfold jh at h
 refine za (ze ?_)
 refine za ?_
 refine za (ze ?_)
 refine xw ?_
 refine LWp.sim ?_ (zkm h)
 exact yp (M := []) rfl (S4 rfl rfl rfl rfl TT) TT
theorem zxg {a0 : List (List UInt8)} {m : Option Nat} {o : Bool} (h : jh m a0 = some o) : PFn Tryd.prog 63 [.isl 1 (a0.map z7) false] (.bool o) := PFn.ofFnW (L := zwo) zv9 zt3 (NB rfl) rfl (zgy h)
def z5h : LCode := (.seq (.region [Qo 107 (.bin .lss (.t 106) (.t 105))])
 (.seq (.cond (.t 107)
  .skip
  (.exit 0))
 (.seq (.block 1
  (.seq (.region [Qo 108 (.iaddr 1 (.t 104) (.t 106)),
   Ql 109 1 108,
   Qm 6 109])
  (.region [Qm 110 4,
   Qm 111 110,
   Qn 112 6 (111, true),
   Qg 113 (.call 62 [(.t 112)]) (111, true),
   Qp 114 111 113,
   Qm 4 114])))
 (.region [Qo 115 (.bin .add (.t 106) (.c (i6 1))),
  Qm 106 115]))))
def z47 : LCode := (.seq (.region [Qo 122 (.bin .lss (.t 121) (.t 120))])
 (.seq (.cond (.t 122)
  .skip
  (.exit 2))
 (.seq (.block 3
  (.seq (.region [Qo 123 (.iaddr 5 (.t 119) (.t 121)),
   Qt 124 5 123,
   Qo 8 (.alloc [(i6 0), (i6 0), (.str []), (.isl 1 [] true), (.isl 5 [] true)]),
   ⟨none, .store 5 (.t 8) (.t 124), none⟩])
  (.seq (.region [Qt 125 5 8,
   Qc 126 38 125,
   Qm 9 126])
  (.seq (.region [Qm 127 9,
   Qo 128 (.bin .neq (.t 127) (.c (i6 0)))])
  (.cond (.t 128)
   (.seq (.region [Qm 129 9,
    Qm 2 129])
   .ret)
   .skip)))))
 (.region [Qo 130 (.bin .add (.t 121) (.c (i6 1))),
  Qm 121 130]))))
def z00 : LCode := (.seq (.region [Qi 2 0])
 .ret)
def Uv : LCode := (.seq (.seq (.region [Qm 116 4,
 Qo 117 (.un .not (.t 116))])
 (.cond (.t 117)
  (.seq (.region [Qi 2 3])
  .ret)
  .skip))
 (.seq (.seq (.region [Qf 118 4 1,
  Ql 119 1 118,
  Qo 120 (.len false (.t 119)),
  Qi 121 0])
 (.block 2
  (.loop
   z47)))
 z00))
def zc5 : LCode := (.seq (.seq (.region [Qf 103 3 1,
 Ql 104 1 103,
 Qo 105 (.len false (.t 104)),
 Qi 106 0])
 (.block 0
  (.loop
   z5h)))
 Uv)
def ze7 : LCode := (.seq (.region [Qo 1 (.box (.t 0)),
 Qi 2 0])
 (.seq (.seq (.region [Qf 10 0 1,
  Ql 11 1 10,
  Qo 12 (.bin .lss (.t 11) (.c (i6 0))),
  Qm 13 12,
  Qe 14 0 1 (13, false),
  Qk 15 1 14 (13, false),
  Qg 16 (.bin .gtr (.t 15) (.c (i6 5))) (13, false),
  Qo 17 (.pick (.t 13) (.c (.bool true)) (.t 16))])
 (.cond (.t 17)
  (.seq (.region [Qi 2 7])
  .ret)
  .skip))
 (.seq (.region [Qi 3 9007199254740991])
 (.seq (.region [Qf 18 1 1,
  Ql 19 1 18,
  Qo 20 (.bin .eql (.t 19) (.c (i6 0))),
  Qm 21 20,
  Qe 22 0 1 (21, false),
  Qk 23 1 22 (21, false),
  Qg 24 (.bin .eql (.t 23) (.c (i6 1))) (21, false),
  Qn 25 24 (21, false),
  Qe 26 1 1 (25, true),
  Qk 27 1 26 (25, true),
  Qg 28 (.bin .eql (.t 27) (.c (i6 1))) (25, true),
  Qg 29 (.pick (.t 25) (.t 28) (.c (.bool false))) (21, false),
  Qo 30 (.pick (.t 21) (.c (.bool true)) (.t 29)),
  Qm 31 30,
  Qe 32 0 1 (31, false),
  Qk 33 1 32 (31, false),
  Qg 34 (.bin .eql (.t 33) (.c (i6 2))) (31, false),
  Qn 35 34 (31, false),
  Qn 36 3 (35, true),
  Qg 37 (.un .neg (.t 36)) (35, true),
  Qe 38 1 1 (35, true),
  Qk 39 1 38 (35, true),
  Qg 40 (.bin .leq (.t 37) (.t 39)) (35, true),
  Qg 41 (.pick (.t 35) (.t 40) (.c (.bool false))) (31, false),
  Qn 42 41 (31, false),
  Qe 43 1 1 (42, true),
  Qk 44 1 43 (42, true),
  Qn 45 3 (42, true),
  Qg 46 (.bin .leq (.t 44) (.t 45)) (42, true),
  Qg 47 (.pick (.t 42) (.t 46) (.c (.bool false))) (31, false),
  Qo 48 (.pick (.t 31) (.c (.bool true)) (.t 47)),
  Qm 4 48])
 (.seq (.region [Qm 49 4,
  Qm 50 49,
  Qe 51 2 1 (50, true),
  Qk 52 1 51 (50, true),
  Qg 53 (.bin .eql (.t 52) (.c (.str []))) (50, true),
  Qn 54 53 (50, true),
  Qe 55 0 1 (54, false),
  Qk 56 1 55 (54, false),
  Qg 57 (.bin .eql (.t 56) (.c (i6 3))) (54, false),
  Qn 58 57 (54, false),
  Qe 59 2 1 (58, true),
  Qk 60 1 59 (58, true),
  Qg 61 (.call 62 [(.t 60)]) (58, true),
  Qg 62 (.pick (.t 58) (.t 61) (.c (.bool false))) (54, false),
  Qg 63 (.pick (.t 54) (.c (.bool true)) (.t 62)) (50, true),
  Qp 64 50 63,
  Qm 4 64])
 (.seq (.region [Qm 65 4,
  Qm 66 65,
  Qe 67 4 1 (66, true),
  Qk 68 1 67 (66, true),
  Qg 69 (.len false (.t 68)) (66, true),
  Qg 70 (.bin .eql (.t 69) (.c (i6 0))) (66, true),
  Qn 71 70 (66, true),
  Qe 72 0 1 (71, false),
  Qk 73 1 72 (71, false),
  Qg 74 (.bin .geq (.t 73) (.c (i6 4))) (71, false),
  Qg 75 (.pick (.t 71) (.c (.bool true)) (.t 74)) (66, true),
  Qp 76 66 75,
  Qm 4 76])
 (.seq (.seq (.region [Qf 77 0 1,
  Ql 78 1 77,
  Qo 79 (.bin .eql (.t 78) (.c (i6 5)))])
 (.cond (.t 79)
  (.region [Qm 80 4,
   Qm 81 80,
   Qe 82 3 1 (81, true),
   Qk 83 1 82 (81, true),
   Qg 84 (.len false (.t 83)) (81, true),
   Qe 85 4 1 (81, true),
   Qk 86 1 85 (81, true),
   Qg 87 (.len false (.t 86)) (81, true),
   Qg 88 (.bin .eql (.t 84) (.t 87)) (81, true),
   Qp 89 81 88,
   Qm 90 89,
   Qe 91 3 1 (90, true),
   Qk 92 1 91 (90, true),
   Qg 93 (.call 63 [(.t 92)]) (90, true),
   Qg 94 (.un .not (.t 93)) (90, true),
   Qp 95 90 94,
   Qm 4 95])
  (.region [Qm 96 4,
   Qm 97 96,
   Qe 98 3 1 (97, true),
   Qk 99 1 98 (97, true),
   Qg 100 (.len false (.t 99)) (97, true),
   Qg 101 (.bin .eql (.t 100) (.c (i6 0))) (97, true),
   Qp 102 97 101,
   Qm 4 102])))
 zc5)))))))
def ko : Lay := ⟨131, [], false⟩
def z8a : List LRes := [.t 2]
def zhx : LFn := ⟨1, ko, ze7, z8a⟩
theorem zgl : w9 Tryd.prog [] 38 = some zhx := by kernel_rfl
theorem zme : uk Tryd.prog 38 := ⟨_, Tryd.func38, rfl, rfl⟩
def J3 (a0 : GJ) (o : Int) : Exit → Env → AHeap → Nat → Prop := Zq z8a (Wg 3 3 (i6 o) [])
def U9 (a0 : GJ) (s : (Bool × Int)) : Env := [(1, .ptr (3, 0) 0 0), (4, .bool s.1), (104, .isl 1 (a0.fA.map z7) false), (105, i6 ((a0.fA.map z7).length : Int)), (106, i6 s.2)]
def z17 (a0 : GJ) (s : (Bool × Int)) : AHeap := [((3, 0), .one (z6 a0))]
def z3f (a0 : GJ) (o : Int) : Exit → Env → AHeap → Nat → Prop := (xn 0 (X5 Tryd.prog ko 3 Uv (J3 a0 o)))
noncomputable def ju (rec6 : GJ → Option Int) (m : Option Nat) : Option Int :=
 some 0
noncomputable def xi (rec6 : GJ → Option Int) (m : Option Nat) (a0 : GJ) (v11 : Int) : Option (Int ⊕ Int) :=
 if (decide (v11 < ((a0.fE.map z8).length : Int))) = true then
  if (0 : Int) ≤ v11 ∧ v11 < ((a0.fE.map z8).length : Int) then
  ((kq (a0.fE.getD v11.toNat default))).bind fun v14 =>
  (rec6 v14).bind fun v15 =>
  if (v15 != 0) = true then
   Option.map Sum.inr (
    some v15)
  else
   some (.inl (W (v11 + 1)))
  else none
 else
  Option.map Sum.inr (
   ju rec6 m)
noncomputable def kb (rec6 : GJ → Option Int) (m : Option Nat) (a0 : GJ) (v11 : Int) : Option Int := Zu m (fun (s : Int) => xi rec6 m a0 s) v11
noncomputable def yk (rec6 : GJ → Option Int) (m : Option Nat) (a0 : GJ) (v5 : Bool) : Option Int :=
 if (!v5) = true then
  some 3
 else
  kb rec6 m a0 0
noncomputable def y8 (rec6 : GJ → Option Int) (m : Option Nat) (a0 : GJ) (v5 : Bool) (v6 : Int) : Option ((Bool × Int) ⊕ Int) :=
 if (decide (v6 < ((a0.fA.map z7).length : Int))) = true then
  if (0 : Int) ≤ v6 ∧ v6 < ((a0.fA.map z7).length : Int) then
  (if (v5 == true) = true then qb m (a0.fA.getD v6.toNat default) else some default).bind fun v8 =>
  some (.inl ((v5 && v8), (W (v6 + 1))))
  else none
 else
  Option.map Sum.inr (
   yk rec6 m a0 v5)
noncomputable def qp (rec6 : GJ → Option Int) (m : Option Nat) (a0 : GJ) (v5 : Bool) (v6 : Int) : Option Int := Zu m (fun (s : (Bool × Int)) => y8 rec6 m a0 s.1 s.2) (v5, v6)
def U6 (a0 : GJ) (s : Int) : Env := [(119, .isl 5 (a0.fE.map z8) false), (120, i6 ((a0.fE.map z8).length : Int)), (121, i6 s)]
def z1o (a0 : GJ) (s : Int) : AHeap := []
def z3d (a0 : GJ) (o : Int) : Exit → Env → AHeap → Nat → Prop := (xn 2 (X5 Tryd.prog ko 3 z00 (J3 a0 o)))
abbrev Hr6 (rec6 : GJ → Option Int) : Prop := ∀ {a0 : GJ} {o : Int}, rec6 a0 = some o → ACalls Tryd.prog 38 [.agg (z6 a0)] [] 3 (ki 3 (i6 o) [])
theorem zb7 {rec6 : GJ → Option Int} (hrec6 : Hr6 rec6) {a0 : GJ} {m : Option Nat} {o : Int} (h : ju rec6 m = some o) :
 LWp Tryd.prog ko 3 z00 (J3 a0 o) [] [] 3 := by
 unfold ju at h
 refine za (ze ?_)
 refine wh ?_
 cases h
 exact AI TT (z49 (n' := 3) [] [] rfl rfl (VS rfl) TT)
theorem z63 {rec6 : GJ → Option Int} (hrec6 : Hr6 rec6) {a0 : GJ} {v11 : Int} {m : Option Nat} {o : Int ⊕ Int} (h : xi rec6 m a0 v11 = some o) :
 LWp Tryd.prog ko 3 z47 (Zf 3 3 (U6 a0) (z1o a0) (z3d a0) o) [(119, .isl 5 (a0.fE.map z8) false), (120, i6 ((a0.fE.map z8).length : Int)), (121, i6 v11)] [] 3 := by
 unfold xi at h
 refine za (ze ?_)
 refine za ?_
 refine yt (v := (decide (v11 < ((a0.fE.map z8).length : Int)))) rfl TT (fun h25 => ?_) (fun h25 => ?_)
 ·have h := zf h25 h
  refine xq ?_
  refine za ?_
  refine xw ?_
  refine za (ze ?_)
  obtain ⟨h26, h⟩ := qj h
  refine AI h26 ?_
  obtain ⟨v14, h27, h⟩ := bind_some h
  refine EX (z6 v14) (AI (j1 (wy z8 h26) h27) (AI (AI (vw h26) (NB rfl)) ?_))
  refine za (ze ?_)
  obtain ⟨v15, h28, h⟩ := bind_some h
  refine Xw (k := 3) (m := 0) (L' := []) (rest := [((3, 0), .one (z6 v14))]) (R' := i6 v15) [] (hrec6 h28) rfl rfl rfl (AI (VS rfl) TT) TT (vj _ rfl) TT rfl ?_
  refine LWp.sim (e := [(9, i6 v15), (119, .isl 5 (a0.fE.map z8) false), (120, i6 ((a0.fE.map z8).length : Int)), (121, i6 v11)]) (L := []) (n := 3) ?_ ?_
  ·exact yp (M := []) rfl (S4 rfl rfl rfl rfl TT) TT
  refine za (ze ?_)
  refine yt (v := (v15 != 0)) rfl TT (fun h29 => ?_) (fun h29 => ?_)
  ·have h := zf h29 h
   refine za (ze ?_)
   refine wh ?_
   obtain ⟨o, hq, rfl⟩ := Option.map_eq_some_iff.1 h
   replace h := hq; clear hq
   refine AI nofun ?_
   cases h
   exact AI TT (z49 (n' := 3) [] [] rfl rfl (VS rfl) TT)
  ·have h := zp h29 h
   refine xq ?_
   refine ze ?_
   cases h
   exact AI rfl (yp (M := []) rfl (S2 rfl rfl (AI (VS rfl) TT)) TT)
 ·have h := zp h25 h
  refine Xm ?_
  obtain ⟨o, hq, rfl⟩ := Option.map_eq_some_iff.1 h
  replace h := hq; clear hq
  refine AI nofun ?_
  refine LWp.sim ?_ (zb7 hrec6 h)
  exact yp (M := []) rfl TT TT
theorem za6 {rec6 : GJ → Option Int} (hrec6 : Hr6 rec6) {a0 : GJ} {v11 : Int} {m : Option Nat} {o : Int} (h : kb rec6 m a0 v11 = some o) :
 LWp Tryd.prog ko 3 (.loop z47) (xn 2 (X5 Tryd.prog ko 3 z00 (J3 a0 o))) [(119, .isl 5 (a0.fE.map z8) false), (120, i6 ((a0.fE.map z8).length : Int)), (121, i6 v11)] [] 3 :=
 w8 (m := m) (s := (v11 : Int)) (r := o) (fun (s : Int) => xi rec6 m a0 s) (U6 a0) (z1o a0) (z3d a0) (fun s o h => z63 hrec6 h) h
theorem z96 {rec6 : GJ → Option Int} (hrec6 : Hr6 rec6) {a0 : GJ} {v5 : Bool} {m : Option Nat} {o : Int} (h : yk rec6 m a0 v5 = some o) :
 LWp Tryd.prog ko 3 Uv (J3 a0 o) [(1, .ptr (3, 0) 0 0), (4, .bool v5)] [((3, 0), .one (z6 a0))] 4 := by
 unfold yk at h
 refine za ?_
 refine za (ze ?_)
 refine yt (v := (!v5)) rfl TT (fun h14 => ?_) (fun h14 => ?_)
 ·have h := zf h14 h
  refine za (ze ?_)
  refine wh ?_
  cases h
  exact AI TT (z49 (n' := 4) [] [] rfl rfl (VS rfl) TT)
 ·have h := zp h14 h
  refine xq ?_
  refine za ?_
  refine za (ze ?_)
  refine xw ?_
  refine LWp.sim ?_ (za6 hrec6 h)
  exact yp (M := []) rfl (S2 rfl rfl (AI (VS rfl) TT)) TT
theorem z6e {rec6 : GJ → Option Int} (hrec6 : Hr6 rec6) {a0 : GJ} {v5 : Bool} {v6 : Int} {m : Option Nat} {o : (Bool × Int) ⊕ Int} (h : y8 rec6 m a0 v5 v6 = some o) :
 LWp Tryd.prog ko 3 z5h (Zf 3 4 (U9 a0) (z17 a0) (z3f a0) o) [(1, .ptr (3, 0) 0 0), (4, .bool v5), (104, .isl 1 (a0.fA.map z7) false), (105, i6 ((a0.fA.map z7).length : Int)), (106, i6 v6)] [((3, 0), .one (z6 a0))] 4 := by
 unfold y8 at h
 refine za (ze ?_)
 refine za ?_
 refine yt (v := (decide (v6 < ((a0.fA.map z7).length : Int)))) rfl TT (fun h11 => ?_) (fun h11 => ?_)
 ·have h := zf h11 h
  refine xq ?_
  refine za ?_
  refine xw ?_
  refine za (ze ?_)
  obtain ⟨h12, h⟩ := qj h
  refine AI h12 ?_
  refine EX (z7 (a0.fA.getD v6.toNat default)) (AI (uj z7 _ _ (wy z7 h12)) (AI (AI (vw h12) (NB rfl)) ?_))
  refine ze ?_
  obtain ⟨v8, h13, h⟩ := bind_some h
  refine Or.inl (EX (.bool v8) (AI (fun hp => AI hp (PFn.call (zia (zf hp h13)) (AI (VS rfl) TT) (AI rfl (AI rfl rfl)))) ?_))
  refine AI (fun hc => (bqt hc)) ?_
  refine LWp.sim (e := [(1, .ptr (3, 0) 0 0), (4, .bool (v5 && v8)), (104, .isl 1 (a0.fA.map z7) false), (105, i6 ((a0.fA.map z7).length : Int)), (106, i6 v6)]) (L := [((3, 0), .one (z6 a0))]) (n := 4) ?_ ?_
  ·exact yp (M := [((3, 0), (3, 0))]) rfl (SP rfl (S4 rfl rfl rfl rfl TT)) (AI (AI rfl (OL rfl)) TT)
  refine ze ?_
  cases h
  exact AI rfl (yp (M := [((3, 0), (3, 0))]) rfl (SP rfl (S4 rfl rfl rfl rfl TT)) (AI (AI rfl (OL rfl)) TT))
 ·have h := zp h11 h
  refine Xm ?_
  obtain ⟨o, hq, rfl⟩ := Option.map_eq_some_iff.1 h
  replace h := hq; clear hq
  refine AI nofun ?_
  refine LWp.sim ?_ (z96 hrec6 h)
  exact yp (M := [((3, 0), (3, 0))]) rfl (SP rfl (AI (VS rfl) TT)) (AI (AI rfl (OL rfl)) TT)
theorem za1 {rec6 : GJ → Option Int} (hrec6 : Hr6 rec6) {a0 : GJ} {v5 : Bool} {v6 : Int} {m : Option Nat} {o : Int} (h : qp rec6 m a0 v5 v6 = some o) :
 LWp Tryd.prog ko 3 (.loop z5h) (xn 0 (X5 Tryd.prog ko 3 Uv (J3 a0 o))) [(1, .ptr (3, 0) 0 0), (4, .bool v5), (104, .isl 1 (a0.fA.map z7) false), (105, i6 ((a0.fA.map z7).length : Int)), (106, i6 v6)] [((3, 0), .one (z6 a0))] 4 :=
 w8 (m := m) (s := ((v5, v6) : (Bool × Int))) (r := o) (fun (s : (Bool × Int)) => y8 rec6 m a0 s.1 s.2) (U9 a0) (z17 a0) (z3f a0) (fun s o h => z6e hrec6 h) h
noncomputable def y7 (rec6 : GJ → Option Int) (m : Option Nat) (a0 : GJ) (v3 : Bool) : Option Int :=
 qp rec6 m a0 v3 0
theorem z28 {rec6 : GJ → Option Int} (hrec6 : Hr6 rec6) {a0 : GJ} {v3 : Bool} {m : Option Nat} {o : Int} (h : y7 rec6 m a0 v3 = some o) :
 LWp Tryd.prog ko 3 zc5 (J3 a0 o) [(1, .ptr (3, 0) 0 0), (4, .bool v3)] [((3, 0), .one (z6 a0))] 4 := by
 unfold y7 at h
 refine za ?_
 refine za (ze ?_)
 refine xw ?_
 refine LWp.sim ?_ (za1 hrec6 h)
 exact yp (M := [((3, 0), (3, 0))]) rfl (SP rfl (S4 rfl rfl rfl rfl TT)) (AI (AI rfl (OL rfl)) TT)
noncomputable def y4 (rec6 : GJ → Option Int) (m : Option Nat) (a0 : GJ) : Option Int :=
 if ((decide (a0.fK < 0)) || (decide (a0.fK > 5))) = true then
  some 7
 else
  (if ((((((a0.fN == 0) || ((a0.fK == 1) && (a0.fN == 1))) || (((a0.fK == 2) && (decide ((W (0 - 9007199254740991)) ≤ a0.fN))) && (decide (a0.fN ≤ 9007199254740991)))) == true) && ((a0.fT == ([] : List UInt8)) == false)) && ((a0.fK == 3) == true)) = true then qb m a0.fT else some default).bind fun v1 =>
  if (a0.fK == 5) = true then
   (if (((((((a0.fN == 0) || ((a0.fK == 1) && (a0.fN == 1))) || (((a0.fK == 2) && (decide ((W (0 - 9007199254740991)) ≤ a0.fN))) && (decide (a0.fN ≤ 9007199254740991)))) && ((a0.fT == ([] : List UInt8)) || ((a0.fK == 3) && v1))) && ((((a0.fE.map z8).length : Int) == 0) || (decide (a0.fK ≥ 4)))) && (((a0.fA.map z7).length : Int) == ((a0.fE.map z8).length : Int))) == true) = true then jh m a0.fA else some default).bind fun v2 =>
   y7 rec6 m a0 (((((((a0.fN == 0) || ((a0.fK == 1) && (a0.fN == 1))) || (((a0.fK == 2) && (decide ((W (0 - 9007199254740991)) ≤ a0.fN))) && (decide (a0.fN ≤ 9007199254740991)))) && ((a0.fT == ([] : List UInt8)) || ((a0.fK == 3) && v1))) && ((((a0.fE.map z8).length : Int) == 0) || (decide (a0.fK ≥ 4)))) && (((a0.fA.map z7).length : Int) == ((a0.fE.map z8).length : Int))) && (!v2))
  else
   y7 rec6 m a0 ((((((a0.fN == 0) || ((a0.fK == 1) && (a0.fN == 1))) || (((a0.fK == 2) && (decide ((W (0 - 9007199254740991)) ≤ a0.fN))) && (decide (a0.fN ≤ 9007199254740991)))) && ((a0.fT == ([] : List UInt8)) || ((a0.fK == 3) && v1))) && ((((a0.fE.map z8).length : Int) == 0) || (decide (a0.fK ≥ 4)))) && (((a0.fA.map z7).length : Int) == 0))
theorem zb9 {rec6 : GJ → Option Int} (hrec6 : Hr6 rec6) {a0 : GJ} {m : Option Nat} {o : Int} (h : y4 rec6 m a0 = some o) : LWp Tryd.prog ko 3 ze7 (J3 a0 o) (y5 0 [.agg (z6 a0)]) [] 3 := by
 unfold y4 at h
 refine za (ze ?_)
 refine za ?_
 refine za (ze ?_)
 refine AI (fun hp => hp) ?_
 refine AI (fun hp => hp) ?_
 refine AI (fun hc => (bqf hc)) ?_
 refine LWp.sim (e := [(1, .ptr (3, 0) 0 0), (17, .bool ((decide (a0.fK < 0)) || (decide (a0.fK > 5))))]) (L := [((3, 0), .one (z6 a0))]) (n := 4) ?_ ?_
 ·exact yp (M := [((3, 0), (3, 0))]) rfl (SP rfl (AI (VS rfl) TT)) (AI (AI rfl (OL rfl)) TT)
 refine yt (v := ((decide (a0.fK < 0)) || (decide (a0.fK > 5)))) rfl TT (fun h1 => ?_) (fun h1 => ?_)
 ·have h := zf h1 h
  refine za (ze ?_)
  refine wh ?_
  cases h
  exact AI TT (z49 (n' := 4) [] [] rfl rfl (VS rfl) TT)
 ·have h := zp h1 h
  refine xq ?_
  refine za (ze ?_)
  refine za (ze ?_)
  refine AI (fun hp => hp) ?_
  refine AI (fun hp => hp) ?_
  refine AI (fun hp => hp) ?_
  refine AI (fun hp => hp) ?_
  refine AI (fun hp => hp) ?_
  refine AI (fun hp => (AI hp (fun hc => (z2a hp (bqt hc))))) ?_
  refine AI (fun hc => (bqf hc)) ?_
  refine AI (fun hp => hp) ?_
  refine AI (fun hp => hp) ?_
  refine AI (fun hp => hp) ?_
  refine AI (fun hp => hp) ?_
  refine AI (fun hp => hp) ?_
  refine AI (fun hp => (AI hp hp)) ?_
  refine AI (fun hp => (AI hp (fun hc => (z2a hp (bqt hc))))) ?_
  refine AI (fun hp => hp) ?_
  refine AI (fun hp => hp) ?_
  refine AI (fun hp => (AI hp hp)) ?_
  refine AI (fun hp => (AI hp (fun hc => (z2a hp (bqt hc))))) ?_
  refine AI (fun hc => (bqf hc)) ?_
  refine LWp.sim (e := [(1, .ptr (3, 0) 0 0), (4, .bool (((a0.fN == 0) || ((a0.fK == 1) && (a0.fN == 1))) || (((a0.fK == 2) && (decide ((W (0 - 9007199254740991)) ≤ a0.fN))) && (decide (a0.fN ≤ 9007199254740991)))))]) (L := [((3, 0), .one (z6 a0))]) (n := 4) ?_ ?_
  ·exact yp (M := [((3, 0), (3, 0))]) rfl (SP rfl (AI (VS rfl) TT)) (AI (AI rfl (OL rfl)) TT)
  refine za (ze ?_)
  refine AI (fun hp => hp) ?_
  refine AI (fun hp => hp) ?_
  refine AI (fun hp => hp) ?_
  refine AI (fun hp => hp) ?_
  refine AI (fun hp => hp) ?_
  refine AI (fun hp => hp) ?_
  refine AI (fun hp => hp) ?_
  obtain ⟨v1, h2, h⟩ := bind_some h
  refine Or.inl (EX (.bool v1) (AI (fun hp => AI hp (PFn.call (zia (zf hp h2)) (AI (VS rfl) TT) (AI rfl (AI rfl rfl)))) ?_))
  refine AI (fun hp => (AI hp (fun hc => (z2a hp (bqt hc))))) ?_
  refine AI (fun hp => (AI hp (fun hc => (z2a hp (bqf hc))))) ?_
  refine AI (fun hc => (bqt hc)) ?_
  refine LWp.sim (e := [(1, .ptr (3, 0) 0 0), (4, .bool ((((a0.fN == 0) || ((a0.fK == 1) && (a0.fN == 1))) || (((a0.fK == 2) && (decide ((W (0 - 9007199254740991)) ≤ a0.fN))) && (decide (a0.fN ≤ 9007199254740991)))) && ((a0.fT == ([] : List UInt8)) || ((a0.fK == 3) && v1))))]) (L := [((3, 0), .one (z6 a0))]) (n := 4) ?_ ?_
  ·exact yp (M := [((3, 0), (3, 0))]) rfl (SP rfl (AI (VS rfl) TT)) (AI (AI rfl (OL rfl)) TT)
  refine za (ze ?_)
  refine AI (fun hp => hp) ?_
  refine AI (fun hp => hp) ?_
  refine AI (fun hp => hp) ?_
  refine AI (fun hp => hp) ?_
  refine AI (fun hp => hp) ?_
  refine AI (fun hp => hp) ?_
  refine AI (fun hp => (AI hp (fun hc => (z2a hp (bqf hc))))) ?_
  refine AI (fun hc => (bqt hc)) ?_
  refine LWp.sim (e := [(1, .ptr (3, 0) 0 0), (4, .bool (((((a0.fN == 0) || ((a0.fK == 1) && (a0.fN == 1))) || (((a0.fK == 2) && (decide ((W (0 - 9007199254740991)) ≤ a0.fN))) && (decide (a0.fN ≤ 9007199254740991)))) && ((a0.fT == ([] : List UInt8)) || ((a0.fK == 3) && v1))) && ((((a0.fE.map z8).length : Int) == 0) || (decide (a0.fK ≥ 4)))))]) (L := [((3, 0), .one (z6 a0))]) (n := 4) ?_ ?_
  ·exact yp (M := [((3, 0), (3, 0))]) rfl (SP rfl (AI (VS rfl) TT)) (AI (AI rfl (OL rfl)) TT)
  refine za ?_
  refine za (ze ?_)
  refine yt (v := (a0.fK == 5)) rfl TT (fun h3 => ?_) (fun h3 => ?_)
  ·have h := zf h3 h
   refine ze ?_
   refine AI (fun hp => hp) ?_
   refine AI (fun hp => hp) ?_
   refine AI (fun hp => hp) ?_
   refine AI (fun hp => hp) ?_
   refine AI (fun hp => (AI hp hp)) ?_
   refine AI (fun hc => (bqt hc)) ?_
   refine AI (fun hp => hp) ?_
   obtain ⟨v2, h4, h⟩ := bind_some h
   refine Or.inl (EX (.bool v2) (AI (fun hp => AI hp (PFn.call (zxg (zf hp h4)) (AI (VS rfl) TT) (AI rfl (AI rfl rfl)))) ?_))
   refine AI (fun hp => hp) ?_
   refine AI (fun hc => (bqt hc)) ?_
   refine LWp.sim ?_ (z28 hrec6 h)
   exact yp (M := [((3, 0), (3, 0))]) rfl (SP rfl (AI (VS rfl) TT)) (AI (AI rfl (OL rfl)) TT)
  ·have h := zp h3 h
   refine ze ?_
   refine AI (fun hp => hp) ?_
   refine AI (fun hp => hp) ?_
   refine AI (fun hp => hp) ?_
   refine AI (fun hc => (bqt hc)) ?_
   refine LWp.sim ?_ (z28 hrec6 h)
   exact yp (M := [((3, 0), (3, 0))]) rfl (SP rfl (AI (VS rfl) TT)) (AI (AI rfl (OL rfl)) TT)
theorem ze5 {rec6 : GJ → Option Int} (hrec6 : Hr6 rec6) {a0 : GJ} {m : Option Nat} {o : Int} (h : y4 rec6 m a0 = some o) : ACalls Tryd.prog 38 [.agg (z6 a0)] [] 3 (ki 3 (i6 o) []) := Xx (L := zhx) zgl zme (NB rfl) (zb9 hrec6 h)
noncomputable def yr (m : Option Nat) : Nat → GJ → Option Int
 | 0 => fun _ => none
 | k + 1 => y4 (yr m k) m
noncomputable def w7 (m : Option Nat) (a0 : GJ) : Option Int := zeo m (fun k => yr m k a0)
theorem z6s {m : Option Nat} : ∀ (k : Nat) {a0 : GJ} {o : Int}, yr m k a0 = some o → ACalls Tryd.prog 38 [.agg (z6 a0)] [] 3 (ki 3 (i6 o) [])
 | 0, _, _, h => nomatch h
 | k + 1, _, _, h => ze5 (fun h => z6s k h) h
theorem zhp {a0 : GJ} {m : Option Nat} {o : Int} (h : w7 m a0 = some o) : ACalls Tryd.prog 38 [.agg (z6 a0)] [] 3 (ki 3 (i6 o) []) := (Zs h).elim fun k h => z6s k h
noncomputable def kf (m : Option Nat) (a0 : GJ) : Option Int := y4 (w7 m) m a0
theorem zxp {a0 : GJ} {m : Option Nat} {o : Int} (h : kf m a0 = some o) : PFn Tryd.prog 38 [.agg (z6 a0)] (i6 o) :=
 ⟨rfl, _, Xw (k := 3) (m := 0) (L' := []) (rest := []) (R' := i6 o) [] (ze5 zhp h) rfl rfl rfl (AI (VS rfl) TT) TT (vj _ rfl) TT rfl ⟨rfl, rfl, rfl⟩⟩
def zs2 : LCode := (.seq (.region [Qo 1 (.box (.t 0)),
 Qi 2 0])
 (.seq (.seq (.region [Qt 6 5 1,
  Qc 7 37 6,
  Qm 5 7,
  Qo 8 (.ext 0 (.t 5)),
  Qo 9 (.ext 1 (.t 5)),
  Qm 3 8,
  Qm 4 9])
 (.seq (.region [Qm 10 3,
  Qo 11 (.bin .gtr (.t 10) (.c (i6 400))),
  Qm 12 11,
  Qn 13 4 (12, false),
  Qg 14 (.bin .gtr (.t 13) (.c (i6 20))) (12, false),
  Qo 15 (.pick (.t 12) (.c (.bool true)) (.t 14))])
 (.cond (.t 15)
  (.seq (.region [Qi 2 2])
  .ret)
  .skip)))
 (.seq (.region [Qt 16 5 1,
  Qc 17 38 16,
  Qm 2 17])
 .ret)))
def zim : Lay := ⟨18, [], false⟩
def zkt : List LRes := [.t 2]
def zxn : LFn := ⟨1, zim, zs2, zkt⟩
theorem zw9 : w9 Tryd.prog [] 11 = some zxn := by kernel_rfl
theorem ztm : uk Tryd.prog 11 := ⟨_, Tryd.func11, rfl, rfl⟩
noncomputable def yh (m : Option Nat) (a0 : GJ) : Option Int :=
 (kr m a0).bind fun v1 =>
 if ((decide (v1.1 > 400)) || (decide (v1.2 > 20))) = true then
  some 2
 else
  (kf m a0).bind fun v2 =>
  some v2
def y1m (a0 : GJ) (o : Int) : Exit → Env → AHeap → Nat → Prop := Zq zkt (x8 (i6 o))
theorem zlf {a0 : GJ} {m : Option Nat} {o : Int} (h : yh m a0 = some o) : LWp Tryd.prog zim 0 zs2 (y1m a0 o) (y5 0 [.agg (z6 a0)]) [] 0 := by
 unfold yh at h
 refine za (ze ?_)
 refine za ?_
 refine za (ze ?_)
 obtain ⟨v1, h1, h⟩ := bind_some h
 refine PFn.call (zz5 h1) (AI (VS rfl) TT) ?_
 refine LWp.sim (e := [(1, .ptr (0, 0) 0 0), (3, i6 v1.1), (4, i6 v1.2)]) (L := [((0, 0), .one (z6 a0))]) (n := 1) ?_ ?_
 ·exact yp (M := [((0, 0), (0, 0))]) rfl (SP rfl (S2 rfl rfl TT)) (AI (AI rfl (OL rfl)) TT)
 refine za (ze ?_)
 refine AI (fun hp => hp) ?_
 refine AI (fun hc => (bqf hc)) ?_
 refine yt (v := ((decide (v1.1 > 400)) || (decide (v1.2 > 20)))) rfl TT (fun h2 => ?_) (fun h2 => ?_)
 ·have h := zf h2 h
  refine za (ze ?_)
  refine wh ?_
  cases h
  exact AI TT (AI rfl (VS rfl))
 ·have h := zp h2 h
  refine xq ?_
  refine za (ze ?_)
  obtain ⟨v2, h3, h⟩ := bind_some h
  refine PFn.call (zxp h3) (AI (VS rfl) TT) ?_
  refine LWp.sim (e := [(2, i6 v2)]) (L := []) (n := 0) ?_ ?_
  ·exact yp (M := []) rfl (AI (VS rfl) TT) TT
  refine wh ?_
  cases h
  exact AI TT (AI rfl (VS rfl))
theorem zgi {a0 : GJ} {m : Option Nat} {o : Int} (h : yh m a0 = some o) : PFn Tryd.prog 11 [.agg (z6 a0)] (i6 o) := PFn.ofFnW (L := zxn) zw9 ztm (NB rfl) rfl (zlf h)
def zkk : LCode := (.seq (.region [Qo 15 (.bin .lss (.t 14) (.t 13))])
 (.seq (.cond (.t 15)
  .skip
  (.exit 0))
 (.seq (.block 1
  (.seq (.region [Qm 16 14,
   Qo 17 (.iaddr 1 (.t 12) (.t 14)),
   Ql 18 1 17,
   Qm 5 16,
   Qm 6 18])
  (.seq (.region [Qm 19 6,
   Qm 20 1,
   Qm 21 5,
   Qo 22 (.iaddr 1 (.t 20) (.t 21)),
   Ql 23 1 22,
   Qo 24 (.bin .neq (.t 19) (.t 23))])
  (.cond (.t 24)
   (.seq (.region [Qb 4])
   .ret)
   .skip))))
 (.region [Qo 25 (.bin .add (.t 14) (.c (i6 1))),
  Qm 14 25]))))
def zbk : LCode := (.seq (.region [Qo 4 (.mv (.c (.bool true)))])
 .ret)
def zrp : LCode := (.seq (.region [Qb 4])
 (.seq (.seq (.region [Qm 7 0,
  Qo 8 (.len false (.t 7)),
  Qm 9 1,
  Qo 10 (.len false (.t 9)),
  Qo 11 (.bin .neq (.t 8) (.t 10))])
 (.cond (.t 11)
  (.seq (.region [Qb 4])
  .ret)
  .skip))
 (.seq (.seq (.region [Qm 12 0,
  Qo 13 (.len false (.t 12)),
  Qi 14 0])
 (.block 0
  (.loop
   zkk)))
 zbk)))
def Wt : Lay := ⟨26, [], false⟩
def zj5 : List LRes := [.t 4]
def zy7 : LFn := ⟨2, Wt, zrp, zj5⟩
theorem zti : w9 Tryd.prog [] 32 = some zy7 := by kernel_rfl
theorem ztd : uk Tryd.prog 32 := ⟨_, Tryd.func32, rfl, rfl⟩
def zpq (a0 : List (List UInt8)) (a1 : List (List UInt8)) (o : Bool) : Exit → Env → AHeap → Nat → Prop := Zq zj5 (x8 (.bool o))
def z31 (a0 : List (List UInt8)) (a1 : List (List UInt8)) (s : Int) : Env := [(1, .isl 1 (a1.map z7) false), (12, .isl 1 (a0.map z7) false), (13, i6 ((a0.map z7).length : Int)), (14, i6 s)]
def z7j (a0 : List (List UInt8)) (a1 : List (List UInt8)) (s : Int) : AHeap := []
def zdb (a0 : List (List UInt8)) (a1 : List (List UInt8)) (o : Bool) : Exit → Env → AHeap → Nat → Prop := (xn 0 (X5 Tryd.prog Wt 0 zbk (zpq a0 a1 o)))
noncomputable def wa (m : Option Nat) : Option Bool :=
 some true
noncomputable def yb (m : Option Nat) (a0 : List (List UInt8)) (a1 : List (List UInt8)) (v1 : Int) : Option (Int ⊕ Bool) :=
 if (decide (v1 < ((a0.map z7).length : Int))) = true then
  if (0 : Int) ≤ v1 ∧ v1 < ((a0.map z7).length : Int) then
  if (0 : Int) ≤ v1 ∧ v1 < ((a1.map z7).length : Int) then
  if (!((a0.getD v1.toNat default) == (a1.getD v1.toNat default))) = true then
   Option.map Sum.inr (
    some false)
  else
   some (.inl (W (v1 + 1)))
  else none
  else none
 else
  Option.map Sum.inr (
   wa m)
noncomputable def qx (m : Option Nat) (a0 : List (List UInt8)) (a1 : List (List UInt8)) (v1 : Int) : Option Bool := Zu m (fun (s : Int) => yb m a0 a1 s) v1
theorem zii {a0 : List (List UInt8)} {a1 : List (List UInt8)} {m : Option Nat} {o : Bool} (h : wa m = some o) :
 LWp Tryd.prog Wt 0 zbk (zpq a0 a1 o) [] [] 0 := by
 unfold wa at h
 refine za (ze ?_)
 refine wh ?_
 cases h
 exact AI TT (AI rfl (VS rfl))
theorem zeh {a0 : List (List UInt8)} {a1 : List (List UInt8)} {v1 : Int} {m : Option Nat} {o : Int ⊕ Bool} (h : yb m a0 a1 v1 = some o) :
 LWp Tryd.prog Wt 0 zkk (Zf 0 0 (z31 a0 a1) (z7j a0 a1) (zdb a0 a1) o) [(1, .isl 1 (a1.map z7) false), (12, .isl 1 (a0.map z7) false), (13, i6 ((a0.map z7).length : Int)), (14, i6 v1)] [] 0 := by
 unfold yb at h
 refine za (ze ?_)
 refine za ?_
 refine yt (v := (decide (v1 < ((a0.map z7).length : Int)))) rfl TT (fun h10 => ?_) (fun h10 => ?_)
 ·have h := zf h10 h
  refine xq ?_
  refine za ?_
  refine xw ?_
  refine za (ze ?_)
  obtain ⟨h11, h⟩ := qj h
  refine AI h11 ?_
  refine EX (z7 (a0.getD v1.toNat default)) (AI (uj z7 _ _ (wy z7 h11)) (AI (AI (vw h11) (NB rfl)) ?_))
  refine za (ze ?_)
  obtain ⟨h12, h⟩ := qj h
  refine AI h12 ?_
  refine EX (z7 (a1.getD v1.toNat default)) (AI (uj z7 _ _ (wy z7 h12)) (AI (AI (vw h12) (NB rfl)) ?_))
  refine LWp.sim (e := [(1, .isl 1 (a1.map z7) false), (12, .isl 1 (a0.map z7) false), (13, i6 ((a0.map z7).length : Int)), (14, i6 v1), (24, .bool (!((a0.getD v1.toNat default) == (a1.getD v1.toNat default))))]) (L := []) (n := 0) ?_ ?_
  ·exact yp (M := []) rfl (S4 rfl rfl rfl rfl (AI (VS rfl) TT)) TT
  refine yt (v := (!((a0.getD v1.toNat default) == (a1.getD v1.toNat default)))) rfl TT (fun h13 => ?_) (fun h13 => ?_)
  ·have h := zf h13 h
   refine za (ze ?_)
   refine wh ?_
   obtain ⟨o, hq, rfl⟩ := Option.map_eq_some_iff.1 h
   replace h := hq; clear hq
   refine AI nofun ?_
   cases h
   exact AI TT (AI rfl (VS rfl))
  ·have h := zp h13 h
   refine xq ?_
   refine ze ?_
   cases h
   exact AI rfl (yp (M := []) rfl (S4 rfl rfl rfl rfl TT) TT)
 ·have h := zp h10 h
  refine Xm ?_
  obtain ⟨o, hq, rfl⟩ := Option.map_eq_some_iff.1 h
  replace h := hq; clear hq
  refine AI nofun ?_
  refine LWp.sim ?_ (zii h)
  exact yp (M := []) rfl TT TT
theorem zj1 {a0 : List (List UInt8)} {a1 : List (List UInt8)} {v1 : Int} {m : Option Nat} {o : Bool} (h : qx m a0 a1 v1 = some o) :
 LWp Tryd.prog Wt 0 (.loop zkk) (xn 0 (X5 Tryd.prog Wt 0 zbk (zpq a0 a1 o))) [(1, .isl 1 (a1.map z7) false), (12, .isl 1 (a0.map z7) false), (13, i6 ((a0.map z7).length : Int)), (14, i6 v1)] [] 0 :=
 w8 (m := m) (s := (v1 : Int)) (r := o) (fun (s : Int) => yb m a0 a1 s) (z31 a0 a1) (z7j a0 a1) (zdb a0 a1) (fun s o h => zeh h) h
noncomputable def ya (m : Option Nat) (a0 : List (List UInt8)) (a1 : List (List UInt8)) : Option Bool :=
 if (((a0.map z7).length : Int) != ((a1.map z7).length : Int)) = true then
  some false
 else
  qx m a0 a1 0
theorem zg9 {a0 : List (List UInt8)} {a1 : List (List UInt8)} {m : Option Nat} {o : Bool} (h : ya m a0 a1 = some o) : LWp Tryd.prog Wt 0 zrp (zpq a0 a1 o) (y5 0 [.isl 1 (a0.map z7) false, .isl 1 (a1.map z7) false]) [] 0 := by
 unfold ya at h
 refine za (ze ?_)
 refine za ?_
 refine za (ze ?_)
 refine yt (v := (((a0.map z7).length : Int) != ((a1.map z7).length : Int))) rfl TT (fun h1 => ?_) (fun h1 => ?_)
 ·have h := zf h1 h
  refine za (ze ?_)
  refine wh ?_
  cases h
  exact AI TT (AI rfl (VS rfl))
 ·have h := zp h1 h
  refine xq ?_
  refine za ?_
  refine za (ze ?_)
  refine LWp.sim (e := [(1, .isl 1 (a1.map z7) false), (12, .isl 1 (a0.map z7) false), (13, i6 ((a0.map z7).length : Int)), (14, i6 0)]) (L := []) (n := 0) ?_ ?_
  ·exact yp (M := []) rfl (S4 rfl rfl rfl rfl TT) TT
  refine xw ?_
  refine LWp.sim ?_ (zj1 h)
  exact yp (M := []) rfl (S4 rfl rfl rfl rfl TT) TT
theorem zyd {a0 : List (List UInt8)} {a1 : List (List UInt8)} {m : Option Nat} {o : Bool} (h : ya m a0 a1 = some o) : PFn Tryd.prog 32 [.isl 1 (a0.map z7) false, .isl 1 (a1.map z7) false] (.bool o) := PFn.ofFnW (L := zy7) zti ztd (NB rfl) rfl (zg9 h)
end Go.Proofs.YtlfdchgaeeadjaaDoor
