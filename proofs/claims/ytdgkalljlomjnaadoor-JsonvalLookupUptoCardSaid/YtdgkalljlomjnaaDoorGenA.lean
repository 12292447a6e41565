/-
  Own text GenA of this claim: what functions of the given program compute, in plain Lean, and the proof; no condition.
-/
import Derived.Test.YtdgkalljlomjnaaDoorChecked
import Derived.Test.YtdgkalljlomjnaaDoorFxN
import Derived.Test.YtdgkalljlomjnaaDoorFxMd
import Derived.Test.YtdgkalljlomjnaaDoorFxLg
import Derived.Test.YtdgkalljlomjnaaDoorFxLb
import Derived.Test.YtdgkalljlomjnaaDoorLib
import Derived.Test.YtdgkalljlomjnaaDoorEv
import Derived.Test.YtdgkalljlomjnaaDoorFxAb
import Derived.KernelRfl
namespace Go.Proofs.YtdgkalljlomjnaaDoor
open Go.Fx
set_option linter.unusedVariables false
set_option maxHeartbeats 4000000
set_option maxHeartbeats 1600000
structure GJ where
 fK : Int
 fN : Int
 fT : List UInt8
 fA : List (List UInt8)
 fE : List (List AVal)
instance : Inhabited GJ := ⟨(GJ.mk 0 0 [] [] [])⟩
def z8 (r : List AVal) : List AVal := r
def z7 (x : List UInt8) : List AVal := [.str x]
def zqt (x : Int) : List AVal := [.int .i64 x]
def z6 (x : GJ) : List AVal := [.int .i64 x.fK, .int .i64 x.fN, .str x.fT, .isl 1 (x.fA.map z7) false, .isl 5 (x.fE.map z8) false]
theorem zra (x : GJ) : AVal.nid.nidL (z6 x) = true ∧ ∀ y ∈ z6 x, y.imm = some y := ⟨rfl, by simp [z6, AVal.imm]⟩
noncomputable def vg (r : List AVal) : Option GJ := by classical exact if h : ∃ x, r = z6 x then some (Classical.choose h) else none
theorem zcv {r : List AVal} {x : GJ} (h : vg r = some x) : r = z6 x := by
 unfold vg at h
 split at h
 ·rename_i hx
  simp only [Option.some.injEq] at h
  rw [← h]
  exact Classical.choose_spec hx
 ·cases h
theorem xn {l : List (List AVal)} {i : Nat} {x : GJ} (h : i < l.length) (hx : vg (l.getD i default) = some x) : (l.map z8).getD i [] = z6 x := (vz z8 _ _ h).trans (zcv hx)
def W4 (x : List UInt8) : AVal := .str x
theorem ztk (x : List UInt8) : (W4 x).nid = true := rfl
def Kh (x : Int) : AVal := i6 x
theorem U2 (x : Int) : (Kh x).nid = true := rfl
def Xh (x y : List UInt8) : Bool := (x == y && true)
theorem z3r (x y : List UInt8) : X8 [.str] (W4 x) (W4 y) = some (Xh x y) := rfl
theorem zu0 (x : List UInt8) : AVal.nid.nidL (z7 x) = true ∧ ∀ y ∈ z7 x, y.imm = some y := ⟨rfl, by simp [z7, AVal.imm]⟩
theorem zu7 (x : Int) : AVal.nid.nidL (zqt x) = true ∧ ∀ y ∈ zqt x, y.imm = some y := ⟨rfl, by simp [zqt, AVal.imm]⟩
def xj (m : Option Nat) : Option (Bool) := some true
theorem zrh {m : Option Nat} {o : Bool} (h : xj m = some o) : PFn Tryd.prog 6 [] (.bool o) := by
 cases h
 exact zqc
def zh9 : LCode := (.seq (.region [Qo 9 (.bin .lss (.t 8) (.t 7))])
 (.seq (.cond (.t 9)
  .skip
  (.exit 0))
 (.seq (.block 1
  (.seq (.region [Qm 10 8,
   Qm 5 10])
  (.seq (.region [Qm 11 1,
   Qm 12 0,
   Qm 13 5,
   Qo 14 (.iaddr 1 (.t 12) (.t 13)),
   Ql 15 1 14,
   Qo 16 (.bin .eql (.t 11) (.t 15))])
  (.cond (.t 16)
   (.seq (.region [Qm 17 5,
    Qm 4 17])
   .ret)
   .skip))))
 (.region [Qo 18 (.bin .add (.t 8) (.c (i6 1))),
  Qm 8 18]))))
def zbi : LCode := (.seq (.region [Qo 4 (.mv (.c (i6 (-1))))])
 .ret)
def znu : LCode := (.seq (.region [Qi 4 0])
 (.seq (.seq (.region [Qm 6 0,
  Qo 7 (.len false (.t 6)),
  Qi 8 0])
 (.block 0
  (.loop
   zh9)))
 zbi))
def Js : Lay := ⟨19, [], false⟩
def zhz : List LRes := [.t 4]
def ztq : LFn := ⟨2, Js, znu, zhz⟩
theorem zqu : kb Tryd.prog [] 33 = some ztq := by kernel_rfl
theorem zql : Yh Tryd.prog 33 := ⟨_, Tryd.func33, rfl, rfl⟩
def zle (a0 : List (List UInt8)) (a1 : List UInt8) (o : Int) : Exit → Env → AHeap → Nat → Prop := Jo zhz (kc (i6 o))
def z1f (a0 : List (List UInt8)) (a1 : List UInt8) (s : Int) : Env := [(0, .isl 1 (a0.map z7) false), (1, .str a1), (7, i6 ((a0.map z7).length : Int)), (8, i6 s)]
def z57 (a0 : List (List UInt8)) (a1 : List UInt8) (s : Int) : AHeap := []
def zce (a0 : List (List UInt8)) (a1 : List UInt8) (o : Int) : Exit → Env → AHeap → Nat → Prop := (x6 0 (Y4 Tryd.prog Js 0 zbi (zle a0 a1 o)))
noncomputable def ve (m : Option Nat) : Option Int :=
 some (-1)
noncomputable def jv (m : Option Nat) (a0 : List (List UInt8)) (a1 : List UInt8) (v1 : Int) : Option (Int ⊕ Int) :=
 if (decide (v1 < ((a0.map z7).length : Int))) = true then
  if (0 : Int) ≤ v1 ∧ v1 < ((a0.map z7).length : Int) then
  if (a1 == (a0.getD v1.toNat default)) = true then
   Option.map Sum.inr (
    some v1)
  else
   some (.inl (W (v1 + 1)))
  else none
 else
  Option.map Sum.inr (
   ve m)
noncomputable def u3 (m : Option Nat) (a0 : List (List UInt8)) (a1 : List UInt8) (v1 : Int) : Option Int := uq m (fun (s : Int) => jv m a0 a1 s) v1
theorem zhg {a0 : List (List UInt8)} {a1 : List UInt8} {m : Option Nat} {o : Int} (h : ve m = some o) :
 LWp Tryd.prog Js 0 zbi (zle a0 a1 o) [] [] 0 := by
 unfold ve at h
 refine zn (zw ?_)
 refine uf ?_
 cases h
 exact AI TT (AI rfl (VS rfl))
theorem zdw {a0 : List (List UInt8)} {a1 : List UInt8} {v1 : Int} {m : Option Nat} {o : Int ⊕ Int} (h : jv m a0 a1 v1 = some o) :
 LWp Tryd.prog Js 0 zh9 (ko 0 0 (z1f a0 a1) (z57 a0 a1) (zce a0 a1) o) [(0, .isl 1 (a0.map z7) false), (1, .str a1), (7, i6 ((a0.map z7).length : Int)), (8, i6 v1)] [] 0 := by
 unfold jv at h
 refine zn (zw ?_)
 refine zn ?_
 refine j6 (v := (decide (v1 < ((a0.map z7).length : Int)))) rfl TT (fun h7 => ?_) (fun h7 => ?_)
 ·have h := yb h7 h
  refine js ?_
  refine zn ?_
  refine j4 ?_
  refine zn (zw ?_)
  refine zn (zw ?_)
  obtain ⟨h8, h⟩ := yh h
  refine AI h8 ?_
  refine EX (z7 (a0.getD v1.toNat default)) (AI (vz z7 _ _ (jq z7 h8)) (AI (AI (w7 h8) (NB rfl)) ?_))
  refine LWp.sim (e := [(0, .isl 1 (a0.map z7) false), (1, .str a1), (5, i6 v1), (7, i6 ((a0.map z7).length : Int)), (8, i6 v1), (16, .bool (a1 == (a0.getD v1.toNat default)))]) (L := []) (n := 0) ?_ ?_
  ·exact xx (M := []) rfl (S4 rfl rfl rfl rfl (S2 rfl rfl TT)) TT
  refine j6 (v := (a1 == (a0.getD v1.toNat default))) rfl TT (fun h9 => ?_) (fun h9 => ?_)
  ·have h := yb h9 h
   refine zn (zw ?_)
   refine uf ?_
   obtain ⟨o, hq, rfl⟩ := Option.map_eq_some_iff.1 h
   replace h := hq; clear hq
   refine AI nofun ?_
   cases h
   exact AI TT (AI rfl (VS rfl))
  ·have h := q9 h9 h
   refine js ?_
   refine zw ?_
   cases h
   exact AI rfl (xx (M := []) rfl (S4 rfl rfl rfl rfl TT) TT)
 ·have h := q9 h7 h
  refine Yx ?_
  obtain ⟨o, hq, rfl⟩ := Option.map_eq_some_iff.1 h
  replace h := hq; clear hq
  refine AI nofun ?_
  refine LWp.sim ?_ (zhg h)
  exact xx (M := []) rfl TT TT
theorem zfg {a0 : List (List UInt8)} {a1 : List UInt8} {v1 : Int} {m : Option Nat} {o : Int} (h : u3 m a0 a1 v1 = some o) :
 LWp Tryd.prog Js 0 (.loop zh9) (x6 0 (Y4 Tryd.prog Js 0 zbi (zle a0 a1 o))) [(0, .isl 1 (a0.map z7) false), (1, .str a1), (7, i6 ((a0.map z7).length : Int)), (8, i6 v1)] [] 0 :=
 ji (m := m) (s := (v1 : Int)) (r := o) (fun (s : Int) => jv m a0 a1 s) (z1f a0 a1) (z57 a0 a1) (zce a0 a1) (fun s o h => zdw h) h
noncomputable def jc (m : Option Nat) (a0 : List (List UInt8)) (a1 : List UInt8) : Option Int :=
 u3 m a0 a1 0
theorem zeg {a0 : List (List UInt8)} {a1 : List UInt8} {m : Option Nat} {o : Int} (h : jc m a0 a1 = some o) : LWp Tryd.prog Js 0 znu (zle a0 a1 o) (xb 0 [.isl 1 (a0.map z7) false, .str a1]) [] 0 := by
 unfold jc at h
 refine zn (zw ?_)
 refine zn ?_
 refine zn (zw ?_)
 refine j4 ?_
 refine LWp.sim ?_ (zfg h)
 exact xx (M := []) rfl (S4 rfl rfl rfl rfl TT) TT
theorem zn7 {a0 : List (List UInt8)} {a1 : List UInt8} {m : Option Nat} {o : Int} (h : jc m a0 a1 = some o) : PFn Tryd.prog 33 [.isl 1 (a0.map z7) false, .str a1] (i6 o) := PFn.ofFnW (L := ztq) zqu zql (NB rfl) rfl (zeg h)
def znz : LCode := (.seq (.region [Qo 2 (.mv (.c (.val (.slice none 0 0))))])
 (.seq (.seq (.region [Qm 3 0,
  Qo 4 (.eq false .slice (.t 3) (.c (.val (.slice none 0 0))))])
 (.cond (.t 4)
  (.seq (.region [Qo 2 (.mv (.c (.val (.slice none 0 0))))])
  .ret)
  .skip))
 (.seq (.region [Qo 5 (.mkSl true 1 [(.str [])] 0 []),
  Qm 6 0,
  Qo 7 (.app true 1 16 (.t 5) (.t 6)),
  Qm 2 7])
 .ret)))
def zi4 : Lay := ⟨8, [], false⟩
def zie : List LRes := [.t 2]
def ztc : LFn := ⟨1, zi4, znz, zie⟩
theorem zpq : kb Tryd.prog [] 56 = some ztc := by kernel_rfl
theorem zhv : Yh Tryd.prog 56 := ⟨_, Tryd.func56, rfl, rfl⟩
noncomputable def jb (m : Option Nat) (a0 : List (List UInt8)) : Option (List (List UInt8)) :=
 if (a0.map z7) ≠ [] then
 if ((([] : List (List UInt8)) ++ a0).map z7).length * 16 ≤ 140737488355328 then
 some (([] : List (List UInt8)) ++ a0)
 else none
 else none
def zuo (a0 : List (List UInt8)) (o : (List (List UInt8))) : Exit → Env → AHeap → Nat → Prop := Jo zie (kc (.isl 1 (o.map z7) false))
theorem zgf {a0 : List (List UInt8)} {m : Option Nat} {o : (List (List UInt8))} (h : jb m a0 = some o) : LWp Tryd.prog zi4 0 znz (zuo a0 o) (xb 0 [.isl 1 (a0.map z7) false]) [] 0 := by
 unfold jb at h
 refine zn (zw ?_)
 refine zn ?_
 refine zn (zw ?_)
 obtain ⟨h1, h⟩ := yh h
 refine AI h1 ?_
 refine j6 (v := false) rfl TT (fun hc => Bool.noConfusion hc) (fun hc => ?_)
 refine js ?_
 refine zn (zw ?_)
 obtain ⟨h2, h⟩ := yh h
 refine EX ((([] : List (List UInt8)) ++ a0).map z7) (AI (Vb z7 ([] : List (List UInt8)) a0) (AI (AI rfl h2) ?_))
 refine uf ?_
 cases h
 exact AI TT (AI rfl (Vw.oslI _ _ _))
theorem zs9 {a0 : List (List UInt8)} {m : Option Nat} {o : (List (List UInt8))} (h : jb m a0 = some o) : PFn Tryd.prog 56 [.isl 1 (a0.map z7) false] (.isl 1 (o.map z7) false) := PFn.ofFnW (L := ztc) zpq zhv (NB rfl) rfl (zgf h)
noncomputable def vr (m : Option Nat) : List (List UInt8) → Option (List (List UInt8))
 | [] => some []
 | x :: r => jb m (x :: r)
theorem zqw {m : Option Nat} {a0 o : List (List UInt8)} (h : vr m a0 = some o) : PFn Tryd.prog 56 [(.isl 1 (a0.map z7) false)] (.isl 1 (o.map z7) false) := by
 cases a0 with
 | nil =>
  cases h
  exact z27 (c := 9) (zs := [(.str [])]) (b := 16) zhv Tryd.func56 ⟨_, _, _, _, _, _, _, _, _, _, _, _, _, _, _, _, _, _, _, _, _, _, _, _, _, _, _, _, rfl, rfl, rfl⟩ (by kernel_rfl) (by kernel_rfl) (by kernel_rfl) (by kernel_rfl) (by decide) (by decide) rfl
 | cons x r => exact zs9 (m := m) h
def z3z : LCode := (.seq (.region [Qo 16 (.bin .lss (.t 15) (.t 14))])
 (.seq (.cond (.t 16)
  .skip
  (.exit 0))
 (.seq (.block 1
  (.seq (.region [Qo 17 (.iaddr 5 (.t 13) (.t 15)),
   Qt 18 5 17,
   Qo 5 (.alloc [(i6 0), (i6 0), (.str []), (.isl 1 [] true), (.isl 5 [] true)]),
   ⟨none, .store 5 (.t 5) (.t 18), none⟩])
  (.draw [⟨Qf 19 4 1, []⟩,
   ⟨Ql 20 1 19, []⟩,
   ⟨Qt 21 5 5, []⟩,
   ⟨Qc 22 34 21, [1]⟩,
   ⟨Qo 23 (.mkSl true 5 [(i6 0), (i6 0), (.str []), (.isl 1 [] true), (.isl 5 [] true)] 1 [(0, (.t 22))]), []⟩,
   ⟨Qo 24 (.app true 5 80 (.t 20) (.t 23)), []⟩,
   ⟨Qf 25 4 1, []⟩,
   ⟨⟨none, .store 1 (.t 25) (.t 24), none⟩, []⟩])))
 (.region [Qo 26 (.bin .add (.t 15) (.c (i6 1))),
  Qm 15 26]))))
def Kp : LCode := (.seq (.region [Qt 27 5 1,
 ⟨none, .store 5 (.t 2) (.t 27), none⟩])
 .ret)
def zb4 : LCode := (.seq (.region [Qo 1 (.box (.t 0)),
 Qo 2 (.alloc [(i6 0), (i6 0), (.str []), (.isl 1 [] true), (.isl 5 [] true)])])
 (.seq (.region [Qf 6 4 1,
  Ql 7 1 6,
  Qm 3 7])
 (.seq (.region [Qf 8 3 1,
  Ql 9 1 8,
  Qc 10 56 9,
  Qf 11 3 1,
  ⟨none, .store 1 (.t 11) (.t 10), none⟩,
  Qf 12 4 1,
  ⟨none, .store 1 (.t 12) (.c (.val (.slice none 0 0))), none⟩])
 (.seq (.seq (.region [Qm 13 3,
  Qo 14 (.len false (.t 13)),
  Qi 15 0])
 (.block 0
  (.loop
   z3z)))
 Kp))))
def Y2 : Lay := ⟨28, [], false⟩
def z5u : List LRes := [.cell 2 true 5]
def zkn : LFn := ⟨1, Y2, zb4, z5u⟩
theorem zje : kb Tryd.prog [] 34 = some zkn := by kernel_rfl
theorem zk2 : Yh Tryd.prog 34 := ⟨_, Tryd.func34, rfl, rfl⟩
def z36 (a0 : GJ) (o : GJ) : Exit → Env → AHeap → Nat → Prop := Jo z5u (Jd 3 3 (.agg (z6 o)) [])
def Vt (a0 : GJ) (v1 : (List (List UInt8))) (s : (Int × (List (List AVal)))) : Env := [(1, .ptr (3, 0) 0 0), (2, .ptr (4, 0) 0 0), (13, .isl 5 (a0.fE.map z8) false), (14, i6 ((a0.fE.map z8).length : Int)), (15, i6 s.1)]
def Uv (a0 : GJ) (v1 : (List (List UInt8))) (s : (Int × (List (List AVal)))) : AHeap := [((3, 0), .one [i6 a0.fK, i6 a0.fN, .str a0.fT, .isl 1 (v1.map z7) false, .osl (5, 0) 5 (s.2.map z8)]), ((4, 0), .one [i6 0, i6 0, .str [], .isl 1 (([] : List (List UInt8)).map z7) true, .isl 5 (([] : List (List AVal)).map z8) true]), ((5, 0), .tok)]
def z2s (a0 : GJ) (o : GJ) : Exit → Env → AHeap → Nat → Prop := (x6 0 (Y4 Tryd.prog Y2 3 Kp (z36 a0 o)))
noncomputable def w3 (rec0 : GJ → Option GJ) (m : Option Nat) (a0 : GJ) (v1 : (List (List UInt8))) (v5 : List (List AVal)) : Option GJ :=
 some (GJ.mk a0.fK a0.fN a0.fT v1 v5)
noncomputable def qy (rec0 : GJ → Option GJ) (m : Option Nat) (a0 : GJ) (v1 : (List (List UInt8))) (v4 : Int) (v5 : List (List AVal)) : Option ((Int × (List (List AVal))) ⊕ GJ) :=
 if (decide (v4 < ((a0.fE.map z8).length : Int))) = true then
  if (0 : Int) ≤ v4 ∧ v4 < ((a0.fE.map z8).length : Int) then
  ((vg (a0.fE.getD v4.toNat default))).bind fun v8 =>
  (rec0 v8).bind fun v9 =>
  if ((v5 ++ ([z6 v9] : List (List AVal))).map z8).length * 80 ≤ 140737488355328 then
  some (.inl ((W (v4 + 1)), (v5 ++ ([z6 v9] : List (List AVal)))))
  else none
  else none
 else
  Option.map Sum.inr (
   w3 rec0 m a0 v1 v5)
noncomputable def xt (rec0 : GJ → Option GJ) (m : Option Nat) (a0 : GJ) (v1 : (List (List UInt8))) (v4 : Int) (v5 : List (List AVal)) : Option GJ := uq m (fun (s : (Int × (List (List AVal)))) => qy rec0 m a0 v1 s.1 s.2) (v4, v5)
abbrev Hr0 (rec0 : GJ → Option GJ) : Prop := ∀ {a0 : GJ} {o : GJ}, rec0 a0 = some o → ACalls Tryd.prog 34 [.agg (z6 a0)] [] 3 (wt 3 (.agg (z6 o)) [])
theorem z9z {rec0 : GJ → Option GJ} (hrec0 : Hr0 rec0) {a0 : GJ} {v1 : (List (List UInt8))} {v5 : List (List AVal)} {m : Option Nat} {o : GJ} (h : w3 rec0 m a0 v1 v5 = some o) :
 LWp Tryd.prog Y2 3 Kp (z36 a0 o) [(1, .ptr (3, 0) 0 0), (2, .ptr (4, 0) 0 0)] [((3, 0), .one [i6 a0.fK, i6 a0.fN, .str a0.fT, .isl 1 (v1.map z7) false, .osl (5, 0) 5 (v5.map z8)]), ((4, 0), .one [i6 0, i6 0, .str [], .isl 1 (([] : List (List UInt8)).map z7) true, .isl 5 (([] : List (List AVal)).map z8) true]), ((5, 0), .tok)] 6 := by
 unfold w3 at h
 refine zn (zw ?_)
 refine uf ?_
 cases h
 exact AI (AI TT (AI rfl (NB rfl))) (z40 (n' := 6) [] [] rfl rfl (Vw.aggL (S4 rfl rfl rfl rfl (AI (Vw.oslI _ _ _) TT))) TT)
theorem z63 {rec0 : GJ → Option GJ} (hrec0 : Hr0 rec0) {a0 : GJ} {v1 : (List (List UInt8))} {v4 : Int} {v5 : List (List AVal)} {m : Option Nat} {o : (Int × (List (List AVal))) ⊕ GJ} (h : qy rec0 m a0 v1 v4 v5 = some o) :
 LWp Tryd.prog Y2 3 z3z (ko 3 6 (Vt a0 v1) (Uv a0 v1) (z2s a0) o) [(1, .ptr (3, 0) 0 0), (2, .ptr (4, 0) 0 0), (13, .isl 5 (a0.fE.map z8) false), (14, i6 ((a0.fE.map z8).length : Int)), (15, i6 v4)] [((3, 0), .one [i6 a0.fK, i6 a0.fN, .str a0.fT, .isl 1 (v1.map z7) false, .osl (5, 0) 5 (v5.map z8)]), ((4, 0), .one [i6 0, i6 0, .str [], .isl 1 (([] : List (List UInt8)).map z7) true, .isl 5 (([] : List (List AVal)).map z8) true]), ((5, 0), .tok)] 6 := by
 unfold qy at h
 refine zn (zw ?_)
 refine zn ?_
 refine j6 (v := (decide (v4 < ((a0.fE.map z8).length : Int)))) rfl TT (fun h12 => ?_) (fun h12 => ?_)
 ·have h := yb h12 h
  refine js ?_
  refine zn ?_
  refine j4 ?_
  refine zn (zw ?_)
  obtain ⟨h13, h⟩ := yh h
  refine AI h13 ?_
  obtain ⟨v8, h14, h⟩ := bind_some h
  refine EX (z6 v8) (AI (xn (jq z8 h13) h14) (AI (AI (w7 h13) (NB rfl)) ?_))
  refine zlm ?_
  obtain ⟨v9, h15, h⟩ := bind_some h
  refine Q5 (k := 3) (m := 0) (L' := []) (rest := [((6, 0), .one (z6 v8)), ((3, 0), .one [i6 a0.fK, i6 a0.fN, .str a0.fT, .isl 1 (v1.map z7) false, .osl (5, 0) 5 (v5.map z8)]), ((4, 0), .one [i6 0, i6 0, .str [], .isl 1 (([] : List (List UInt8)).map z7) true, .isl 5 (([] : List (List AVal)).map z8) true]), ((5, 0), .tok)]) (R' := .agg (z6 v9)) [] (hrec0 h15) rfl rfl rfl (AI (VS rfl) TT) TT (we _ rfl) TT rfl ?_
  refine AI rfl ?_
  obtain ⟨h16, h⟩ := yh h
  refine EX ((v5 ++ ([z6 v9] : List (List AVal))).map z8) (AI (Vb z8 v5 ([z6 v9] : List (List AVal))) (AI h16 ?_))
  refine LWp.sim (e := [(1, .ptr (3, 0) 0 0), (2, .ptr (4, 0) 0 0), (13, .isl 5 (a0.fE.map z8) false), (14, i6 ((a0.fE.map z8).length : Int)), (15, i6 v4)]) (L := [((3, 0), .one [i6 a0.fK, i6 a0.fN, .str a0.fT, .isl 1 (v1.map z7) false, .osl (5, 0) 5 ((v5 ++ ([z6 v9] : List (List AVal))).map z8)]), ((4, 0), .one [i6 0, i6 0, .str [], .isl 1 (([] : List (List UInt8)).map z7) true, .isl 5 (([] : List (List AVal)).map z8) true]), ((5, 0), .tok)]) (n := 6) ?_ ?_
  ·exact xx (M := [((3, 0), (3, 0)), ((4, 0), (4, 0)), ((5, 0), (8, 0))]) rfl (SP rfl (SP rfl (S2 rfl rfl (AI (VS rfl) TT)))) (AI (AI rfl (BVw.oneL (S4 rfl rfl rfl rfl (AI (Vw.osl _ _ _ _ rfl) TT)))) (AI (AI rfl (OL rfl)) (AI (AI rfl BVw.tok) TT)))
  refine zw ?_
  cases h
  exact AI rfl (xx (M := [((3, 0), (3, 0)), ((4, 0), (4, 0)), ((5, 0), (5, 0))]) rfl (SP rfl (SP rfl (S2 rfl rfl (AI (VS rfl) TT)))) (AI (AI rfl (BVw.oneL (S4 rfl rfl rfl rfl (AI (Vw.osl _ _ _ _ rfl) TT)))) (AI (AI rfl (OL rfl)) (AI (AI rfl BVw.tok) TT))))
 ·have h := q9 h12 h
  refine Yx ?_
  obtain ⟨o, hq, rfl⟩ := Option.map_eq_some_iff.1 h
  replace h := hq; clear hq
  refine AI nofun ?_
  refine LWp.sim ?_ (z9z hrec0 h)
  exact xx (M := [((3, 0), (3, 0)), ((4, 0), (4, 0)), ((5, 0), (5, 0))]) rfl (SP rfl (SP rfl TT)) (AI (AI rfl (BVw.oneL (S4 rfl rfl rfl rfl (AI (Vw.osl _ _ _ _ rfl) TT)))) (AI (AI rfl (OL rfl)) (AI (AI rfl BVw.tok) TT)))
theorem z8q {rec0 : GJ → Option GJ} (hrec0 : Hr0 rec0) {a0 : GJ} {v1 : (List (List UInt8))} {v4 : Int} {v5 : List (List AVal)} {m : Option Nat} {o : GJ} (h : xt rec0 m a0 v1 v4 v5 = some o) :
 LWp Tryd.prog Y2 3 (.loop z3z) (x6 0 (Y4 Tryd.prog Y2 3 Kp (z36 a0 o))) [(1, .ptr (3, 0) 0 0), (2, .ptr (4, 0) 0 0), (13, .isl 5 (a0.fE.map z8) false), (14, i6 ((a0.fE.map z8).length : Int)), (15, i6 v4)] [((3, 0), .one [i6 a0.fK, i6 a0.fN, .str a0.fT, .isl 1 (v1.map z7) false, .osl (5, 0) 5 (v5.map z8)]), ((4, 0), .one [i6 0, i6 0, .str [], .isl 1 (([] : List (List UInt8)).map z7) true, .isl 5 (([] : List (List AVal)).map z8) true]), ((5, 0), .tok)] 6 :=
 ji (m := m) (s := ((v4, v5) : (Int × (List (List AVal))))) (r := o) (fun (s : (Int × (List (List AVal)))) => qy rec0 m a0 v1 s.1 s.2) (Vt a0 v1) (Uv a0 v1) (z2s a0) (fun s o h => z63 hrec0 h) h
noncomputable def qa (rec0 : GJ → Option GJ) (m : Option Nat) (a0 : GJ) : Option GJ :=
 (vr m a0.fA).bind fun v1 =>
 xt rec0 m a0 v1 0 []
theorem z8f {rec0 : GJ → Option GJ} (hrec0 : Hr0 rec0) {a0 : GJ} {m : Option Nat} {o : GJ} (h : qa rec0 m a0 = some o) : LWp Tryd.prog Y2 3 zb4 (z36 a0 o) (xb 0 [.agg (z6 a0)]) [] 3 := by
 unfold qa at h
 refine zn (zw ?_)
 refine zn (zw ?_)
 refine zn (zw ?_)
 obtain ⟨v1, h1, h⟩ := bind_some h
 refine PFn.call (zqw h1) (AI (VS rfl) TT) ?_
 refine LWp.sim (e := [(1, .ptr (3, 0) 0 0), (2, .ptr (4, 0) 0 0), (3, .isl 5 (a0.fE.map z8) false)]) (L := [((3, 0), .one [i6 a0.fK, i6 a0.fN, .str a0.fT, .isl 1 (v1.map z7) false, .val (.slice none 0 0)]), ((4, 0), .one [i6 0, i6 0, .str [], .isl 1 (([] : List (List UInt8)).map z7) true, .isl 5 (([] : List (List AVal)).map z8) true])]) (n := 5) ?_ ?_
 ·exact xx (M := [((3, 0), (3, 0)), ((4, 0), (4, 0))]) rfl (SP rfl (SP rfl (AI (VS rfl) TT))) (AI (AI rfl (OL rfl)) (AI (AI rfl (OL rfl)) TT))
 refine zn ?_
 refine zn (zw ?_)
 refine j4 ?_
 refine LWp.sim ?_ (z8q hrec0 h)
 exact xx (M := [((3, 0), (3, 0)), ((4, 0), (4, 0))]) rfl (SP rfl (SP rfl (S2 rfl rfl (AI (VS rfl) TT)))) (AI (AI rfl (BVw.oneL (S4 rfl rfl rfl rfl (AI (Vw.nilO _ _ (by decide)) TT)))) (AI (AI rfl (OL rfl)) (AI (AI rfl (AI (by decide) (by decide))) TT)))
theorem zay {rec0 : GJ → Option GJ} (hrec0 : Hr0 rec0) {a0 : GJ} {m : Option Nat} {o : GJ} (h : qa rec0 m a0 = some o) : ACalls Tryd.prog 34 [.agg (z6 a0)] [] 3 (wt 3 (.agg (z6 o)) []) := X7 (L := zkn) zje zk2 (NB rfl) (z8f hrec0 h)
noncomputable def xz (m : Option Nat) : Nat → GJ → Option GJ
 | 0 => fun _ => none
 | k + 1 => qa (xz m k) m
noncomputable def vu (m : Option Nat) (a0 : GJ) : Option GJ := zdm m (fun k => xz m k a0)
theorem z5p {m : Option Nat} : ∀ (k : Nat) {a0 : GJ} {o : GJ}, xz m k a0 = some o → ACalls Tryd.prog 34 [.agg (z6 a0)] [] 3 (wt 3 (.agg (z6 o)) [])
 | 0, _, _, h => nomatch h
 | k + 1, _, _, h => zay (fun h => z5p k h) h
theorem zk3 {a0 : GJ} {m : Option Nat} {o : GJ} (h : vu m a0 = some o) : ACalls Tryd.prog 34 [.agg (z6 a0)] [] 3 (wt 3 (.agg (z6 o)) []) := (Z4 h).elim fun k h => z5p k h
noncomputable def Y3 (m : Option Nat) (a0 : GJ) : Option GJ := qa (vu m) m a0
theorem zro {a0 : GJ} {m : Option Nat} {o : GJ} (h : Y3 m a0 = some o) : PFn Tryd.prog 34 [.agg (z6 a0)] (.agg (z6 o)) :=
 ⟨rfl, _, Q5 (k := 3) (m := 0) (L' := []) (rest := []) (R' := .agg (z6 o)) [] (zay zk3 h) rfl rfl rfl (AI (VS rfl) TT) TT (we _ rfl) TT rfl ⟨rfl, rfl, rfl⟩⟩
def znw : LCode := (.seq (.region [Qo 2 (.box (.t 0)),
 Qo 4 (.alloc [(i6 0), (i6 0), (.str []), (.isl 1 [] true), (.isl 5 [] true)]),
 Qb 5])
 (.seq (.region [Qf 7 3 2,
  Ql 8 1 7,
  Qm 9 1,
  Qo 10 (.call 33 [(.t 8), (.t 9)]),
  Qm 6 10])
 (.seq (.seq (.region [Qf 11 0 2,
  Ql 12 1 11,
  Qo 13 (.bin .neq (.t 12) (.c (i6 5))),
  Qm 14 13,
  Qn 15 6 (14, false),
  Qg 16 (.bin .lss (.t 15) (.c (i6 0))) (14, false),
  Qo 17 (.pick (.t 14) (.c (.bool true)) (.t 16)),
  Qm 18 17,
  Qn 19 6 (18, false),
  Qe 20 4 2 (18, false),
  Qk 21 1 20 (18, false),
  Qg 22 (.len false (.t 21)) (18, false),
  Qg 23 (.bin .geq (.t 19) (.t 22)) (18, false),
  Qo 24 (.pick (.t 18) (.c (.bool true)) (.t 23))])
 (.cond (.t 24)
  (.seq (.region [Qo 25 (.build [(i6 0), (i6 0), (.str []), (.isl 1 [] true), (.isl 5 [] true)] []),
   ⟨none, .store 5 (.t 4) (.t 25), none⟩,
   Qb 5])
  .ret)
  .skip))
 (.seq (.region [Qf 26 4 2,
  Ql 27 1 26,
  Qm 28 6,
  Qo 29 (.iaddr 5 (.t 27) (.t 28)),
  Qt 30 5 29,
  Qc 31 34 30,
  ⟨none, .store 5 (.t 4) (.t 31), none⟩,
  Qo 5 (.mv (.c (.bool true)))])
 .ret))))
def zjv : Lay := ⟨32, [], false⟩
def zim : List LRes := [.cell 4 true 5, .t 5]
def zsj : LFn := ⟨2, zjv, znw, zim⟩
theorem zr5 : kb Tryd.prog [] 14 = some zsj := by kernel_rfl
theorem zq0 : Yh Tryd.prog 14 := ⟨_, Tryd.func14, rfl, rfl⟩
noncomputable def wi (m : Option Nat) (a0 : GJ) (a1 : List UInt8) : Option (GJ × Bool) :=
 (jc m a0.fA a1).bind fun v1 =>
 if (((a0.fK != 5) || (decide (v1 < 0))) || (decide (v1 ≥ ((a0.fE.map z8).length : Int)))) = true then
  some ((GJ.mk 0 0 [] [] []), false)
 else
  if (0 : Int) ≤ v1 ∧ v1 < ((a0.fE.map z8).length : Int) then
  ((vg (a0.fE.getD v1.toNat default))).bind fun v2 =>
  (Y3 m v2).bind fun v3 =>
  some (v3, true)
  else none
def zue (a0 : GJ) (a1 : List UInt8) (o : GJ × Bool) : Exit → Env → AHeap → Nat → Prop := Jo zim (kc (.tup [.agg (z6 o.1), .bool o.2]))
theorem zha {a0 : GJ} {a1 : List UInt8} {m : Option Nat} {o : GJ × Bool} (h : wi m a0 a1 = some o) : LWp Tryd.prog zjv 0 znw (zue a0 a1 o) (xb 0 [.agg (z6 a0), .str a1]) [] 0 := by
 unfold wi at h
 refine zn (zw ?_)
 refine zn (zw ?_)
 obtain ⟨v1, h1, h⟩ := bind_some h
 refine PFn.call (zn7 h1) (S2 rfl rfl TT) ?_
 refine LWp.sim (e := [(2, .ptr (0, 0) 0 0), (4, .ptr (1, 0) 0 0), (6, i6 v1)]) (L := [((0, 0), .one (z6 a0)), ((1, 0), .one [i6 0, i6 0, .str [], .isl 1 (([] : List (List UInt8)).map z7) true, .isl 5 (([] : List (List AVal)).map z8) true])]) (n := 2) ?_ ?_
 ·exact xx (M := [((0, 0), (0, 0)), ((1, 0), (1, 0))]) rfl (SP rfl (SP rfl (AI (VS rfl) TT))) (AI (AI rfl (OL rfl)) (AI (AI rfl (OL rfl)) TT))
 refine zn ?_
 refine zn (zw ?_)
 refine AI (fun hp => hp) ?_
 refine AI (fun hc => (bqf hc)) ?_
 refine AI (fun hp => hp) ?_
 refine AI (fun hp => hp) ?_
 refine AI (fun hp => (AI hp hp)) ?_
 refine AI (fun hc => (bqf hc)) ?_
 refine LWp.sim (e := [(2, .ptr (0, 0) 0 0), (4, .ptr (1, 0) 0 0), (6, i6 v1), (24, .bool (((a0.fK != 5) || (decide (v1 < 0))) || (decide (v1 ≥ ((a0.fE.map z8).length : Int)))))]) (L := [((0, 0), .one (z6 a0)), ((1, 0), .one [i6 0, i6 0, .str [], .isl 1 (([] : List (List UInt8)).map z7) true, .isl 5 (([] : List (List AVal)).map z8) true])]) (n := 2) ?_ ?_
 ·exact xx (M := [((0, 0), (0, 0)), ((1, 0), (1, 0))]) rfl (SP rfl (SP rfl (S2 rfl rfl TT))) (AI (AI rfl (OL rfl)) (AI (AI rfl (OL rfl)) TT))
 refine j6 (v := (((a0.fK != 5) || (decide (v1 < 0))) || (decide (v1 ≥ ((a0.fE.map z8).length : Int))))) rfl TT (fun h2 => ?_) (fun h2 => ?_)
 ·have h := yb h2 h
  refine zn (zw ?_)
  refine uf ?_
  cases h
  exact AI (AI TT (AI rfl (NB rfl))) (AI TT (AI rfl (Vw.tupL (AI (Vw.aggL (S2 rfl rfl (AI (VS rfl) (AI (Vw.islF _ _ _) (AI (Vw.islF _ _ _) TT))))) (AI (VS rfl) TT)))))
 ·have h := q9 h2 h
  refine js ?_
  refine zn (zw ?_)
  obtain ⟨h3, h⟩ := yh h
  refine AI h3 ?_
  obtain ⟨v2, h4, h⟩ := bind_some h
  refine EX (z6 v2) (AI (xn (jq z8 h3) h4) (AI (AI (w7 h3) (NB rfl)) ?_))
  obtain ⟨v3, h5, h⟩ := bind_some h
  refine PFn.call (zro h5) (AI (VS rfl) TT) ?_
  refine LWp.sim (e := [(4, .ptr (0, 0) 0 0), (5, .bool true)]) (L := [((0, 0), .one (z6 v3))]) (n := 1) ?_ ?_
  ·exact xx (M := [((0, 0), (1, 0))]) rfl (SP rfl (AI (VS rfl) TT)) (AI (AI rfl (OL rfl)) TT)
  refine uf ?_
  cases h
  exact AI (AI TT (AI rfl (NB rfl))) (AI TT (AI rfl (VS rfl)))
theorem zto {a0 : GJ} {a1 : List UInt8} {m : Option Nat} {o : GJ × Bool} (h : wi m a0 a1 = some o) : PFn Tryd.prog 14 [.agg (z6 a0), .str a1] (.tup [.agg (z6 o.1), .bool o.2]) := PFn.ofFnW (L := zsj) zr5 zq0 (NB rfl) rfl (zha h)
def z4j : LCode := (.seq (.region [Qo 12 (.bin .lss (.t 11) (.t 10))])
 (.seq (.cond (.t 12)
  .skip
  (.exit 0))
 (.seq (.block 1
  (.seq (.region [Qo 13 (.iaddr 5 (.t 9) (.t 11)),
   Qt 14 5 13,
   Qo 5 (.alloc [(i6 0), (i6 0), (.str []), (.isl 1 [] true), (.isl 5 [] true)]),
   ⟨none, .store 5 (.t 5) (.t 14), none⟩])
  (.seq (.region [Qt 16 5 5,
   Qc 17 20 16,
   Qm 15 17,
   Qo 18 (.ext 0 (.t 15)),
   Qo 19 (.ext 1 (.t 15)),
   Qm 6 18,
   Qm 7 19])
  (.seq (.region [Qm 20 2,
   Qm 21 6,
   Qo 22 (.bin .add (.t 20) (.t 21)),
   Qm 2 22])
  (.region [Qm 23 3,
   Qm 24 7,
   Qo 25 (.mnx true [(.t 23), (.t 24)]),
   Qm 3 25])))))
 (.region [Qo 26 (.bin .add (.t 11) (.c (i6 1))),
  Qm 11 26]))))
def Ks : LCode := (.seq (.region [Qm 27 2,
 Qm 28 3,
 Qo 29 (.bin .add (.t 28) (.c (i6 1))),
 Qm 2 27,
 Qm 3 29])
 .ret)
def zaj : LCode := (.seq (.region [Qo 1 (.box (.t 0)),
 Qi 2 0,
 Qi 3 0])
 (.seq (.region [Qi 2 1,
  Qi 3 0])
 (.seq (.seq (.region [Qf 8 4 1,
  Ql 9 1 8,
  Qo 10 (.len false (.t 9)),
  Qi 11 0])
 (.block 0
  (.loop
   z4j)))
 Ks)))
def Zw : Lay := ⟨30, [], false⟩
def z77 : List LRes := [.t 2, .t 3]
def zf0 : LFn := ⟨1, Zw, zaj, z77⟩
theorem zfc : kb Tryd.prog [] 20 = some zf0 := by kernel_rfl
theorem zhh : Yh Tryd.prog 20 := ⟨_, Tryd.func20, rfl, rfl⟩
def z3u (a0 : GJ) (o : Int × Int) : Exit → Env → AHeap → Nat → Prop := Jo z77 (Jd 3 3 (.tup [i6 o.1, i6 o.2]) [])
def K7 (a0 : GJ) (s : (Int × Int × Int)) : Env := [(2, i6 s.1), (3, i6 s.2.1), (9, .isl 5 (a0.fE.map z8) false), (10, i6 ((a0.fE.map z8).length : Int)), (11, i6 s.2.2)]
def U7 (a0 : GJ) (s : (Int × Int × Int)) : AHeap := []
def z1v (a0 : GJ) (o : (Int × Int)) : Exit → Env → AHeap → Nat → Prop := (x6 0 (Y4 Tryd.prog Zw 3 Ks (z3u a0 o)))
noncomputable def xl (rec1 : GJ → Option (Int × Int)) (m : Option Nat) (v3 : Int) (v4 : Int) : Option (Int × Int) :=
 some (v3, (W (v4 + 1)))
noncomputable def yg (rec1 : GJ → Option (Int × Int)) (m : Option Nat) (a0 : GJ) (v3 : Int) (v4 : Int) (v5 : Int) : Option ((Int × Int × Int) ⊕ (Int × Int)) :=
 if (decide (v5 < ((a0.fE.map z8).length : Int))) = true then
  if (0 : Int) ≤ v5 ∧ v5 < ((a0.fE.map z8).length : Int) then
  ((vg (a0.fE.getD v5.toNat default))).bind fun v8 =>
  (rec1 v8).bind fun v9 =>
  some (.inl ((W (v3 + v9.1)), (if v9.2 > v4 then v9.2 else v4), (W (v5 + 1))))
  else none
 else
  Option.map Sum.inr (
   xl rec1 m v3 v4)
noncomputable def yz (rec1 : GJ → Option (Int × Int)) (m : Option Nat) (a0 : GJ) (v3 : Int) (v4 : Int) (v5 : Int) : Option (Int × Int) := uq m (fun (s : (Int × Int × Int)) => yg rec1 m a0 s.1 s.2.1 s.2.2) (v3, v4, v5)
abbrev Hr1 (rec1 : GJ → Option (Int × Int)) : Prop := ∀ {a0 : GJ} {o : Int × Int}, rec1 a0 = some o → ACalls Tryd.prog 20 [.agg (z6 a0)] [] 3 (wt 3 (.tup [i6 o.1, i6 o.2]) [])
theorem z9q {rec1 : GJ → Option (Int × Int)} (hrec1 : Hr1 rec1) {a0 : GJ} {v3 : Int} {v4 : Int} {m : Option Nat} {o : (Int × Int)} (h : xl rec1 m v3 v4 = some o) :
 LWp Tryd.prog Zw 3 Ks (z3u a0 o) [(2, i6 v3), (3, i6 v4)] [] 3 := by
 unfold xl at h
 refine zn (zw ?_)
 refine uf ?_
 cases h
 exact AI TT (AI TT (z40 (n' := 3) [] [] rfl rfl (VS rfl) TT))
theorem z6u {rec1 : GJ → Option (Int × Int)} (hrec1 : Hr1 rec1) {a0 : GJ} {v3 : Int} {v4 : Int} {v5 : Int} {m : Option Nat} {o : (Int × Int × Int) ⊕ (Int × Int)} (h : yg rec1 m a0 v3 v4 v5 = some o) :
 LWp Tryd.prog Zw 3 z4j (ko 3 3 (K7 a0) (U7 a0) (z1v a0) o) [(2, i6 v3), (3, i6 v4), (9, .isl 5 (a0.fE.map z8) false), (10, i6 ((a0.fE.map z8).length : Int)), (11, i6 v5)] [] 3 := by
 unfold yg at h
 refine zn (zw ?_)
 refine zn ?_
 refine j6 (v := (decide (v5 < ((a0.fE.map z8).length : Int)))) rfl TT (fun h9 => ?_) (fun h9 => ?_)
 ·have h := yb h9 h
  refine js ?_
  refine zn ?_
  refine j4 ?_
  refine zn (zw ?_)
  obtain ⟨h10, h⟩ := yh h
  refine AI h10 ?_
  obtain ⟨v8, h11, h⟩ := bind_some h
  refine EX (z6 v8) (AI (xn (jq z8 h10) h11) (AI (AI (w7 h10) (NB rfl)) ?_))
  refine zn (zw ?_)
  obtain ⟨v9, h12, h⟩ := bind_some h
  refine Q5 (k := 3) (m := 0) (L' := []) (rest := [((3, 0), .one (z6 v8))]) (R' := .tup [i6 v9.1, i6 v9.2]) [] (hrec1 h12) rfl rfl rfl (AI (VS rfl) TT) TT (we _ rfl) TT rfl ?_
  refine LWp.sim (e := [(2, i6 v3), (3, i6 v4), (6, i6 v9.1), (7, i6 v9.2), (9, .isl 5 (a0.fE.map z8) false), (10, i6 ((a0.fE.map z8).length : Int)), (11, i6 v5)]) (L := []) (n := 3) ?_ ?_
  ·exact xx (M := []) rfl (S4 rfl rfl rfl rfl (S2 rfl rfl (AI (VS rfl) TT))) TT
  refine zn (zw ?_)
  refine zw ?_
  refine LWp.sim (e := [(2, i6 (W (v3 + v9.1))), (3, i6 (if v9.2 > v4 then v9.2 else v4)), (9, .isl 5 (a0.fE.map z8) false), (10, i6 ((a0.fE.map z8).length : Int)), (11, i6 v5)]) (L := []) (n := 3) ?_ ?_
  ·exact xx (M := []) rfl (S4 rfl rfl rfl rfl (AI (VS rfl) TT)) TT
  refine zw ?_
  cases h
  exact AI rfl (xx (M := []) rfl (S4 rfl rfl rfl rfl (AI (VS rfl) TT)) TT)
 ·have h := q9 h9 h
  refine Yx ?_
  obtain ⟨o, hq, rfl⟩ := Option.map_eq_some_iff.1 h
  replace h := hq; clear hq
  refine AI nofun ?_
  refine LWp.sim ?_ (z9q hrec1 h)
  exact xx (M := []) rfl (S2 rfl rfl TT) TT
theorem z9k {rec1 : GJ → Option (Int × Int)} (hrec1 : Hr1 rec1) {a0 : GJ} {v3 : Int} {v4 : Int} {v5 : Int} {m : Option Nat} {o : (Int × Int)} (h : yz rec1 m a0 v3 v4 v5 = some o) :
 LWp Tryd.prog Zw 3 (.loop z4j) (x6 0 (Y4 Tryd.prog Zw 3 Ks (z3u a0 o))) [(2, i6 v3), (3, i6 v4), (9, .isl 5 (a0.fE.map z8) false), (10, i6 ((a0.fE.map z8).length : Int)), (11, i6 v5)] [] 3 :=
 ji (m := m) (s := ((v3, v4, v5) : (Int × Int × Int))) (r := o) (fun (s : (Int × Int × Int)) => yg rec1 m a0 s.1 s.2.1 s.2.2) (K7 a0) (U7 a0) (z1v a0) (fun s o h => z6u hrec1 h) h
noncomputable def yv (rec1 : GJ → Option (Int × Int)) (m : Option Nat) (a0 : GJ) : Option (Int × Int) :=
 yz rec1 m a0 1 0 0
theorem z91 {rec1 : GJ → Option (Int × Int)} (hrec1 : Hr1 rec1) {a0 : GJ} {m : Option Nat} {o : Int × Int} (h : yv rec1 m a0 = some o) : LWp Tryd.prog Zw 3 zaj (z3u a0 o) (xb 0 [.agg (z6 a0)]) [] 3 := by
 unfold yv at h
 refine zn (zw ?_)
 refine zn (zw ?_)
 refine zn ?_
 refine zn (zw ?_)
 refine LWp.sim (e := [(2, i6 1), (3, i6 0), (9, .isl 5 (a0.fE.map z8) false), (10, i6 ((a0.fE.map z8).length : Int)), (11, i6 0)]) (L := []) (n := 3) ?_ ?_
 ·exact xx (M := []) rfl (S4 rfl rfl rfl rfl (AI (VS rfl) TT)) TT
 refine j4 ?_
 refine LWp.sim ?_ (z9k hrec1 h)
 exact xx (M := []) rfl (S4 rfl rfl rfl rfl (AI (VS rfl) TT)) TT
theorem zci {rec1 : GJ → Option (Int × Int)} (hrec1 : Hr1 rec1) {a0 : GJ} {m : Option Nat} {o : Int × Int} (h : yv rec1 m a0 = some o) : ACalls Tryd.prog 20 [.agg (z6 a0)] [] 3 (wt 3 (.tup [i6 o.1, i6 o.2]) []) := X7 (L := zf0) zfc zhh (NB rfl) (z91 hrec1 h)
noncomputable def q8 (m : Option Nat) : Nat → GJ → Option (Int × Int)
 | 0 => fun _ => none
 | k + 1 => yv (q8 m k) m
noncomputable def jr (m : Option Nat) (a0 : GJ) : Option (Int × Int) := zdm m (fun k => q8 m k a0)
theorem z7c {m : Option Nat} : ∀ (k : Nat) {a0 : GJ} {o : Int × Int}, q8 m k a0 = some o → ACalls Tryd.prog 20 [.agg (z6 a0)] [] 3 (wt 3 (.tup [i6 o.1, i6 o.2]) [])
 | 0, _, _, h => nomatch h
 | k + 1, _, _, h => zci (fun h => z7c k h) h
theorem zfr {a0 : GJ} {m : Option Nat} {o : Int × Int} (h : jr m a0 = some o) : ACalls Tryd.prog 20 [.agg (z6 a0)] [] 3 (wt 3 (.tup [i6 o.1, i6 o.2]) []) := (Z4 h).elim fun k h => z7c k h
noncomputable def vj (m : Option Nat) (a0 : GJ) : Option (Int × Int) := yv (jr m) m a0
theorem zs2 {a0 : GJ} {m : Option Nat} {o : Int × Int} (h : vj m a0 = some o) : PFn Tryd.prog 20 [.agg (z6 a0)] (.tup [i6 o.1, i6 o.2]) :=
 ⟨rfl, _, Q5 (k := 3) (m := 0) (L' := []) (rest := []) (R' := .tup [i6 o.1, i6 o.2]) [] (zci zfr h) rfl rfl rfl (AI (VS rfl) TT) TT (we _ rfl) TT rfl ⟨rfl, rfl, rfl⟩⟩
def zni : LCode := (.seq (.region [Qm 34 4,
 Qo 35 (.bin .eql (.t 34) (.c (.int .u8 237)))])
 (.cond (.t 35)
  (.region [Qo 6 (.mv (.c (.int .u8 159)))])
  .skip))
def zo8 : LCode := (.seq (.region [Qm 45 4,
 Qo 46 (.bin .eql (.t 45) (.c (.int .u8 244)))])
 (.cond (.t 46)
  (.region [Qo 6 (.mv (.c (.int .u8 143)))])
  .skip))
def zho : LCode := (.seq (.region [Qo 51 (.bin .lss (.t 50) (.t 49))])
 (.seq (.cond (.t 51)
  .skip
  (.exit 3))
 (.seq (.block 4
  (.seq (.seq (.region [Qm 52 3,
   Qm 53 0,
   Qo 54 (.len true (.t 53)),
   Qo 55 (.bin .geq (.t 52) (.t 54)),
   Qm 56 55,
   Qn 57 0 (56, false),
   Qn 58 3 (56, false),
   Qg 59 (.idxS (.t 57) (.t 58)) (56, false),
   Qn 60 5 (56, false),
   Qg 61 (.bin .lss (.t 59) (.t 60)) (56, false),
   Qo 62 (.pick (.t 56) (.c (.bool true)) (.t 61)),
   Qm 63 62,
   Qn 64 0 (63, false),
   Qn 65 3 (63, false),
   Qg 66 (.idxS (.t 64) (.t 65)) (63, false),
   Qn 67 6 (63, false),
   Qg 68 (.bin .gtr (.t 66) (.t 67)) (63, false),
   Qo 69 (.pick (.t 63) (.c (.bool true)) (.t 68))])
  (.cond (.t 69)
   (.seq (.region [Qb 2])
   .ret)
   .skip))
  (.seq (.region [Qo 5 (.mv (.c (.int .u8 128))),
   Qo 6 (.mv (.c (.int .u8 191)))])
  (.region [Qm 70 3,
   Qo 71 (.bin .add (.t 70) (.c (i6 1))),
   Qm 3 71]))))
 (.region [Qo 72 (.bin .add (.t 50) (.c (i6 1))),
  Qm 50 72]))))
def zbd : LCode := (.seq (.region [Qm 47 3,
 Qo 48 (.bin .add (.t 47) (.c (i6 1))),
 Qm 3 48])
 (.seq (.region [Qm 49 7,
  Qi 50 0])
 (.block 3
  (.loop
   zho))))
def zk6 : LCode := (.seq (.seq (.region [Qm 8 3,
 Qm 9 0,
 Qo 10 (.len true (.t 9)),
 Qo 11 (.bin .lss (.t 8) (.t 10))])
 (.cond (.t 11)
  .skip
  (.exit 0)))
 (.block 1
  (.seq (.region [Qm 12 0,
   Qm 13 3,
   Qo 14 (.idxS (.t 12) (.t 13)),
   Qm 4 14])
  (.seq (.region [Qo 5 (.mv (.c (.int .u8 128))),
   Qo 6 (.mv (.c (.int .u8 191))),
   Qi 7 0])
  (.seq (.block 2
   (.seq (.region [Qm 16 4,
    Qo 17 (.bin .lss (.t 16) (.c (.int .u8 128))),
    Qm 15 17])
   (.cond (.t 15)
    .skip
    (.seq (.region [Qm 19 4,
     Qo 20 (.bin .geq (.t 19) (.c (.int .u8 194))),
     Qm 21 20,
     Qn 22 4 (21, true),
     Qg 23 (.bin .leq (.t 22) (.c (.int .u8 223))) (21, true),
     Qp 24 21 23,
     Qm 18 24])
    (.cond (.t 18)
     (.region [Qi 7 1])
     (.seq (.region [Qm 26 4,
      Qo 27 (.bin .geq (.t 26) (.c (.int .u8 224))),
      Qm 28 27,
      Qn 29 4 (28, true),
      Qg 30 (.bin .leq (.t 29) (.c (.int .u8 239))) (28, true),
      Qp 31 28 30,
      Qm 25 31])
     (.cond (.t 25)
      (.seq (.region [Qi 7 2])
      (.seq (.seq (.region [Qm 32 4,
       Qo 33 (.bin .eql (.t 32) (.c (.int .u8 224)))])
      (.cond (.t 33)
       (.region [Qo 5 (.mv (.c (.int .u8 160)))])
       .skip))
      zni))
      (.seq (.region [Qm 37 4,
       Qo 38 (.bin .geq (.t 37) (.c (.int .u8 240))),
       Qm 39 38,
       Qn 40 4 (39, true),
       Qg 41 (.bin .leq (.t 40) (.c (.int .u8 244))) (39, true),
       Qp 42 39 41,
       Qm 36 42])
      (.cond (.t 36)
       (.seq (.region [Qi 7 3])
       (.seq (.seq (.region [Qm 43 4,
        Qo 44 (.bin .eql (.t 43) (.c (.int .u8 240)))])
       (.cond (.t 44)
        (.region [Qo 5 (.mv (.c (.int .u8 144)))])
        .skip))
       zo8))
       (.seq (.region [Qb 2])
       .ret))))))))))
  zbd)))))
def zak : LCode := (.seq (.region [Qo 2 (.mv (.c (.bool true)))])
 .ret)
def zn1 : LCode := (.seq (.region [Qb 2])
 (.seq (.seq (.region [Qi 3 0])
 (.block 0
  (.loop
   zk6)))
 zak))
def uc : Lay := ⟨73, [], false⟩
def zii : List LRes := [.t 2]
def zsi : LFn := ⟨1, uc, zn1, zii⟩
theorem zqz : kb Tryd.prog [] 42 = some zsi := by kernel_rfl
theorem zpi : Yh Tryd.prog 42 := ⟨_, Tryd.func42, rfl, rfl⟩
def zlp (a0 : List UInt8) (o : Bool) : Exit → Env → AHeap → Nat → Prop := Jo zii (kc (.bool o))
def um (a0 : List UInt8) (s : Int) : Env := [(0, .str a0), (3, i6 s)]
def Zs (a0 : List UInt8) (s : Int) : AHeap := []
def Q3 (a0 : List UInt8) (o : Bool) : Exit → Env → AHeap → Nat → Prop := (x6 0 (Y4 Tryd.prog uc 0 zak (zlp a0 o)))
noncomputable def yr (m : Option Nat) (a0 : List UInt8) (v22 : Int) (v25 : Int) (v26 : Int) (v27 : Int) (v28 : Int) : Option ((Int × Int × Int × Int) ⊕ (Int ⊕ Bool)) :=
 if (decide (v28 < v22)) = true then
  if (((decide (v25 ≥ (a0.length : Int))) == false) = true → (0 : Int) ≤ v25 ∧ v25 < (a0.length : Int)) then
  if ((((decide (v25 ≥ (a0.length : Int))) || (decide ((((a0.getD v25.toNat 0).toNat : Nat) : Int) < v26))) == false) = true → (0 : Int) ≤ v25 ∧ v25 < (a0.length : Int)) then
  if (((decide (v25 ≥ (a0.length : Int))) || (decide ((((a0.getD v25.toNat 0).toNat : Nat) : Int) < v26))) || (decide ((((a0.getD v25.toNat 0).toNat : Nat) : Int) > v27))) = true then
   Option.map Sum.inr (
    Option.map Sum.inr (
     some false))
  else
   some (.inl ((W (v25 + 1)), 128, 191, (W (v28 + 1))))
  else none
  else none
 else
  Option.map Sum.inr (
   some (.inl v25))
noncomputable def qk (m : Option Nat) (a0 : List UInt8) (v22 : Int) (v25 : Int) (v26 : Int) (v27 : Int) (v28 : Int) : Option (Int ⊕ Bool) := uq m (fun (s : (Int × Int × Int × Int)) => yr m a0 v22 s.1 s.2.1 s.2.2.1 s.2.2.2) (v25, v26, v27, v28)
noncomputable def zo (m : Option Nat) (a0 : List UInt8) (v10 : Int) (v22 : Int) (v23 : Int) (v24 : Int) : Option (Int ⊕ Bool) :=
 qk m a0 v22 (W (v10 + 1)) v23 v24 0
noncomputable def qj (m : Option Nat) (a0 : List UInt8) (v10 : Int) (v20 : Int) : Option (Int ⊕ Bool) :=
 if ((((a0.getD v10.toNat 0).toNat : Nat) : Int) == 237) = true then
  zo m a0 v10 2 v20 159
 else
  zo m a0 v10 2 v20 191
def z1k (a0 : List UInt8) (v22 : Int) (s : (Int × Int × Int × Int)) : Env := [(0, .str a0), (3, i6 s.1), (5, .int .u8 s.2.1), (6, .int .u8 s.2.2.1), (49, i6 v22), (50, i6 s.2.2.2)]
def z67 (a0 : List UInt8) (v22 : Int) (s : (Int × Int × Int × Int)) : AHeap := []
def zal (a0 : List UInt8) (o : (Int ⊕ Bool)) : Exit → Env → AHeap → Nat → Prop := (x6 3 (x6 1 (ko 0 0 (um a0) (Zs a0) (Q3 a0) o)))
theorem zdr {a0 : List UInt8} {v22 : Int} {v25 : Int} {v26 : Int} {v27 : Int} {v28 : Int} {m : Option Nat} {o : (Int × Int × Int × Int) ⊕ (Int ⊕ Bool)} (h : yr m a0 v22 v25 v26 v27 v28 = some o) :
 LWp Tryd.prog uc 0 zho (ko 0 0 (z1k a0 v22) (z67 a0 v22) (zal a0) o) [(0, .str a0), (3, i6 v25), (5, .int .u8 v26), (6, .int .u8 v27), (49, i6 v22), (50, i6 v28)] [] 0 := by
 unfold yr at h
 refine zn (zw ?_)
 refine zn ?_
 refine j6 (v := (decide (v28 < v22))) rfl TT (fun h63 => ?_) (fun h63 => ?_)
 ·have h := yb h63 h
  refine js ?_
  refine zn ?_
  refine j4 ?_
  refine zn ?_
  refine zn (zw ?_)
  obtain ⟨h64, h⟩ := yh h
  refine AI (fun hp => (AI (AI hp hp) (h64 hp))) ?_
  refine AI (fun hp => (AI hp hp)) ?_
  refine AI (fun hc => (bqf hc)) ?_
  obtain ⟨h65, h⟩ := yh h
  refine AI (fun hp => (AI (AI hp hp) (h65 hp))) ?_
  refine AI (fun hp => (AI hp hp)) ?_
  refine AI (fun hc => (bqf hc)) ?_
  refine LWp.sim (e := [(0, .str a0), (3, i6 v25), (49, i6 v22), (50, i6 v28), (69, .bool (((decide (v25 ≥ (a0.length : Int))) || (decide ((((a0.getD v25.toNat 0).toNat : Nat) : Int) < v26))) || (decide ((((a0.getD v25.toNat 0).toNat : Nat) : Int) > v27))))]) (L := []) (n := 0) ?_ ?_
  ·exact xx (M := []) rfl (S4 rfl rfl rfl rfl (AI (VS rfl) TT)) TT
  refine j6 (v := (((decide (v25 ≥ (a0.length : Int))) || (decide ((((a0.getD v25.toNat 0).toNat : Nat) : Int) < v26))) || (decide ((((a0.getD v25.toNat 0).toNat : Nat) : Int) > v27)))) rfl TT (fun h66 => ?_) (fun h66 => ?_)
  ·have h := yb h66 h
   refine zn (zw ?_)
   refine uf ?_
   obtain ⟨o, hq, rfl⟩ := Option.map_eq_some_iff.1 h
   replace h := hq; clear hq
   refine AI nofun ?_
   obtain ⟨o, hq, rfl⟩ := Option.map_eq_some_iff.1 h
   replace h := hq; clear hq
   refine AI nofun ?_
   cases h
   exact AI TT (AI rfl (VS rfl))
  ·have h := q9 h66 h
   refine js ?_
   refine zn (zw ?_)
   refine zw ?_
   refine zw ?_
   cases h
   exact AI rfl (xx (M := []) rfl (S4 rfl rfl rfl rfl (S2 rfl rfl TT)) TT)
 ·have h := q9 h63 h
  refine Yx ?_
  obtain ⟨o, hq, rfl⟩ := Option.map_eq_some_iff.1 h
  replace h := hq; clear hq
  refine AI nofun ?_
  cases h
  exact AI rfl (xx (M := []) rfl (S2 rfl rfl TT) TT)
theorem zel {a0 : List UInt8} {v22 : Int} {v25 : Int} {v26 : Int} {v27 : Int} {v28 : Int} {m : Option Nat} {o : (Int ⊕ Bool)} (h : qk m a0 v22 v25 v26 v27 v28 = some o) :
 LWp Tryd.prog uc 0 (.loop zho) (x6 3 (x6 1 (ko 0 0 (um a0) (Zs a0) (Q3 a0) o))) [(0, .str a0), (3, i6 v25), (5, .int .u8 v26), (6, .int .u8 v27), (49, i6 v22), (50, i6 v28)] [] 0 :=
 ji (m := m) (s := ((v25, v26, v27, v28) : (Int × Int × Int × Int))) (r := o) (fun (s : (Int × Int × Int × Int)) => yr m a0 v22 s.1 s.2.1 s.2.2.1 s.2.2.2) (z1k a0 v22) (z67 a0 v22) (zal a0) (fun s o h => zdr h) h
theorem Yu {a0 : List UInt8} {v10 : Int} {v22 : Int} {v23 : Int} {v24 : Int} {m : Option Nat} {o : (Int ⊕ Bool)} (h : zo m a0 v10 v22 v23 v24 = some o) :
 LWp Tryd.prog uc 0 zbd (x6 1 (ko 0 0 (um a0) (Zs a0) (Q3 a0) o)) [(0, .str a0), (3, i6 v10), (5, .int .u8 v23), (6, .int .u8 v24), (7, i6 v22)] [] 0 := by
 unfold zo at h
 refine zn (zw ?_)
 refine zn (zw ?_)
 refine j4 ?_
 refine LWp.sim ?_ (zel h)
 exact xx (M := []) rfl (S4 rfl rfl rfl rfl (S2 rfl rfl TT)) TT
theorem z6l {a0 : List UInt8} {v10 : Int} {v20 : Int} {m : Option Nat} {o : (Int ⊕ Bool)} (h : qj m a0 v10 v20 = some o) :
 LWp Tryd.prog uc 0 zni (x6 2 (Y4 Tryd.prog uc 0 zbd (x6 1 (ko 0 0 (um a0) (Zs a0) (Q3 a0) o)))) [(0, .str a0), (3, i6 v10), (4, .int .u8 (((a0.getD v10.toNat 0).toNat : Nat) : Int)), (5, .int .u8 v20), (6, .int .u8 191), (7, i6 2)] [] 0 := by
 unfold qj at h
 refine zn (zw ?_)
 refine j6 (v := ((((a0.getD v10.toNat 0).toNat : Nat) : Int) == 237)) rfl TT (fun h51 => ?_) (fun h51 => ?_)
 ·have h := yb h51 h
  refine zw ?_
  refine LWp.sim ?_ (Yu h)
  exact xx (M := []) rfl (S4 rfl rfl rfl rfl (AI (VS rfl) TT)) TT
 ·have h := q9 h51 h
  refine js ?_
  refine LWp.sim ?_ (Yu h)
  exact xx (M := []) rfl (S4 rfl rfl rfl rfl (AI (VS rfl) TT)) TT
noncomputable def qo (m : Option Nat) (a0 : List UInt8) (v10 : Int) (v21 : Int) : Option (Int ⊕ Bool) :=
 if ((((a0.getD v10.toNat 0).toNat : Nat) : Int) == 244) = true then
  zo m a0 v10 3 v21 143
 else
  zo m a0 v10 3 v21 191
theorem z66 {a0 : List UInt8} {v10 : Int} {v21 : Int} {m : Option Nat} {o : (Int ⊕ Bool)} (h : qo m a0 v10 v21 = some o) :
 LWp Tryd.prog uc 0 zo8 (x6 2 (Y4 Tryd.prog uc 0 zbd (x6 1 (ko 0 0 (um a0) (Zs a0) (Q3 a0) o)))) [(0, .str a0), (3, i6 v10), (4, .int .u8 (((a0.getD v10.toNat 0).toNat : Nat) : Int)), (5, .int .u8 v21), (6, .int .u8 191), (7, i6 3)] [] 0 := by
 unfold qo at h
 refine zn (zw ?_)
 refine j6 (v := ((((a0.getD v10.toNat 0).toNat : Nat) : Int) == 244)) rfl TT (fun h54 => ?_) (fun h54 => ?_)
 ·have h := yb h54 h
  refine zw ?_
  refine LWp.sim ?_ (Yu h)
  exact xx (M := []) rfl (S4 rfl rfl rfl rfl (AI (VS rfl) TT)) TT
 ·have h := q9 h54 h
  refine js ?_
  refine LWp.sim ?_ (Yu h)
  exact xx (M := []) rfl (S4 rfl rfl rfl rfl (AI (VS rfl) TT)) TT
noncomputable def jw (m : Option Nat) : Option Bool :=
 some true
noncomputable def yx (m : Option Nat) (a0 : List UInt8) (v10 : Int) : Option (Int ⊕ Bool) :=
 if (decide (v10 < (a0.length : Int))) = true then
  if (0 : Int) ≤ v10 ∧ v10 < (a0.length : Int) then
  if (decide ((((a0.getD v10.toNat 0).toNat : Nat) : Int) < 128)) = true then
   zo m a0 v10 0 128 191
  else
   if ((decide ((((a0.getD v10.toNat 0).toNat : Nat) : Int) ≥ 194)) && (decide ((((a0.getD v10.toNat 0).toNat : Nat) : Int) ≤ 223))) = true then
    zo m a0 v10 1 128 191
   else
    if ((decide ((((a0.getD v10.toNat 0).toNat : Nat) : Int) ≥ 224)) && (decide ((((a0.getD v10.toNat 0).toNat : Nat) : Int) ≤ 239))) = true then
     if ((((a0.getD v10.toNat 0).toNat : Nat) : Int) == 224) = true then
      qj m a0 v10 160
     else
      qj m a0 v10 128
    else
     if ((decide ((((a0.getD v10.toNat 0).toNat : Nat) : Int) ≥ 240)) && (decide ((((a0.getD v10.toNat 0).toNat : Nat) : Int) ≤ 244))) = true then
      if ((((a0.getD v10.toNat 0).toNat : Nat) : Int) == 240) = true then
       qo m a0 v10 144
      else
       qo m a0 v10 128
     else
      Option.map Sum.inr (
       some false)
  else none
 else
  Option.map Sum.inr (
   jw m)
noncomputable def xh (m : Option Nat) (a0 : List UInt8) (v10 : Int) : Option Bool := uq m (fun (s : Int) => yx m a0 s) v10
theorem zd8 {a0 : List UInt8} {m : Option Nat} {o : Bool} (h : jw m = some o) :
 LWp Tryd.prog uc 0 zak (zlp a0 o) [] [] 0 := by
 unfold jw at h
 refine zn (zw ?_)
 refine uf ?_
 cases h
 exact AI TT (AI rfl (VS rfl))
theorem ze4 {a0 : List UInt8} {v10 : Int} {m : Option Nat} {o : Int ⊕ Bool} (h : yx m a0 v10 = some o) :
 LWp Tryd.prog uc 0 zk6 (ko 0 0 (um a0) (Zs a0) (Q3 a0) o) [(0, .str a0), (3, i6 v10)] [] 0 := by
 unfold yx at h
 refine zn ?_
 refine zn (zw ?_)
 refine j6 (v := (decide (v10 < (a0.length : Int)))) rfl TT (fun h45 => ?_) (fun h45 => ?_)
 ·have h := yb h45 h
  refine js ?_
  refine j4 ?_
  refine zn (zw ?_)
  obtain ⟨h46, h⟩ := yh h
  refine AI h46 ?_
  refine LWp.sim (e := [(0, .str a0), (3, i6 v10), (4, .int .u8 (((a0.getD v10.toNat 0).toNat : Nat) : Int))]) (L := []) (n := 0) ?_ ?_
  ·exact xx (M := []) rfl (S2 rfl rfl (AI (VS rfl) TT)) TT
  refine zn (zw ?_)
  refine zn ?_
  refine j4 ?_
  refine zn (zw ?_)
  refine j6 (v := (decide ((((a0.getD v10.toNat 0).toNat : Nat) : Int) < 128))) rfl TT (fun h47 => ?_) (fun h47 => ?_)
  ·have h := yb h47 h
   refine js ?_
   refine LWp.sim ?_ (Yu h)
   exact xx (M := []) rfl (S4 rfl rfl rfl rfl (AI (VS rfl) TT)) TT
  ·have h := q9 h47 h
   refine zn (zw ?_)
   refine AI (fun hp => hp) ?_
   refine AI (fun hc => (bqt hc)) ?_
   refine LWp.sim (e := [(0, .str a0), (3, i6 v10), (4, .int .u8 (((a0.getD v10.toNat 0).toNat : Nat) : Int)), (5, .int .u8 128), (6, .int .u8 191), (18, .bool ((decide ((((a0.getD v10.toNat 0).toNat : Nat) : Int) ≥ 194)) && (decide ((((a0.getD v10.toNat 0).toNat : Nat) : Int) ≤ 223))))]) (L := []) (n := 0) ?_ ?_
   ·exact xx (M := []) rfl (S4 rfl rfl rfl rfl (S2 rfl rfl TT)) TT
   refine j6 (v := ((decide ((((a0.getD v10.toNat 0).toNat : Nat) : Int) ≥ 194)) && (decide ((((a0.getD v10.toNat 0).toNat : Nat) : Int) ≤ 223)))) rfl TT (fun h48 => ?_) (fun h48 => ?_)
   ·have h := yb h48 h
    refine zw ?_
    refine LWp.sim ?_ (Yu h)
    exact xx (M := []) rfl (S4 rfl rfl rfl rfl (AI (VS rfl) TT)) TT
   ·have h := q9 h48 h
    refine zn (zw ?_)
    refine AI (fun hp => hp) ?_
    refine AI (fun hc => (bqt hc)) ?_
    refine j6 (v := ((decide ((((a0.getD v10.toNat 0).toNat : Nat) : Int) ≥ 224)) && (decide ((((a0.getD v10.toNat 0).toNat : Nat) : Int) ≤ 239)))) rfl TT (fun h49 => ?_) (fun h49 => ?_)
    ·have h := yb h49 h
     refine zn (zw ?_)
     refine LWp.sim (e := [(0, .str a0), (3, i6 v10), (4, .int .u8 (((a0.getD v10.toNat 0).toNat : Nat) : Int)), (5, .int .u8 128), (6, .int .u8 191), (7, i6 2)]) (L := []) (n := 0) ?_ ?_
     ·exact xx (M := []) rfl (S4 rfl rfl rfl rfl (S2 rfl rfl TT)) TT
     refine zn ?_
     refine zn (zw ?_)
     refine j6 (v := ((((a0.getD v10.toNat 0).toNat : Nat) : Int) == 224)) rfl TT (fun h50 => ?_) (fun h50 => ?_)
     ·have h := yb h50 h
      refine zw ?_
      refine LWp.sim ?_ (z6l h)
      exact xx (M := []) rfl (S4 rfl rfl rfl rfl (S2 rfl rfl TT)) TT
     ·have h := q9 h50 h
      refine js ?_
      refine LWp.sim ?_ (z6l h)
      exact xx (M := []) rfl (S4 rfl rfl rfl rfl (S2 rfl rfl TT)) TT
    ·have h := q9 h49 h
     refine zn (zw ?_)
     refine AI (fun hp => hp) ?_
     refine AI (fun hc => (bqt hc)) ?_
     refine LWp.sim (e := [(0, .str a0), (3, i6 v10), (4, .int .u8 (((a0.getD v10.toNat 0).toNat : Nat) : Int)), (5, .int .u8 128), (6, .int .u8 191), (36, .bool ((decide ((((a0.getD v10.toNat 0).toNat : Nat) : Int) ≥ 240)) && (decide ((((a0.getD v10.toNat 0).toNat : Nat) : Int) ≤ 244))))]) (L := []) (n := 0) ?_ ?_
     ·exact xx (M := []) rfl (S4 rfl rfl rfl rfl (S2 rfl rfl TT)) TT
     refine j6 (v := ((decide ((((a0.getD v10.toNat 0).toNat : Nat) : Int) ≥ 240)) && (decide ((((a0.getD v10.toNat 0).toNat : Nat) : Int) ≤ 244)))) rfl TT (fun h52 => ?_) (fun h52 => ?_)
     ·have h := yb h52 h
      refine zn (zw ?_)
      refine zn ?_
      refine zn (zw ?_)
      refine j6 (v := ((((a0.getD v10.toNat 0).toNat : Nat) : Int) == 240)) rfl TT (fun h53 => ?_) (fun h53 => ?_)
      ·have h := yb h53 h
       refine zw ?_
       refine LWp.sim ?_ (z66 h)
       exact xx (M := []) rfl (S4 rfl rfl rfl rfl (S2 rfl rfl TT)) TT
      ·have h := q9 h53 h
       refine js ?_
       refine LWp.sim ?_ (z66 h)
       exact xx (M := []) rfl (S4 rfl rfl rfl rfl (S2 rfl rfl TT)) TT
     ·have h := q9 h52 h
      refine zn (zw ?_)
      refine uf ?_
      obtain ⟨o, hq, rfl⟩ := Option.map_eq_some_iff.1 h
      replace h := hq; clear hq
      refine AI nofun ?_
      cases h
      exact AI TT (AI rfl (VS rfl))
 ·have h := q9 h45 h
  refine Yx ?_
  obtain ⟨o, hq, rfl⟩ := Option.map_eq_some_iff.1 h
  replace h := hq; clear hq
  refine AI nofun ?_
  refine LWp.sim ?_ (zd8 h)
  exact xx (M := []) rfl TT TT
theorem zi5 {a0 : List UInt8} {v10 : Int} {m : Option Nat} {o : Bool} (h : xh m a0 v10 = some o) :
 LWp Tryd.prog uc 0 (.loop zk6) (x6 0 (Y4 Tryd.prog uc 0 zak (zlp a0 o))) [(0, .str a0), (3, i6 v10)] [] 0 :=
 ji (m := m) (s := (v10 : Int)) (r := o) (fun (s : Int) => yx m a0 s) (um a0) (Zs a0) (Q3 a0) (fun s o h => ze4 h) h
noncomputable def qg (m : Option Nat) (a0 : List UInt8) : Option Bool :=
 xh m a0 0
theorem zgv {a0 : List UInt8} {m : Option Nat} {o : Bool} (h : qg m a0 = some o) : LWp Tryd.prog uc 0 zn1 (zlp a0 o) (xb 0 [.str a0]) [] 0 := by
 unfold qg at h
 refine zn (zw ?_)
 refine zn ?_
 refine zn (zw ?_)
 refine j4 ?_
 refine LWp.sim ?_ (zi5 h)
 exact xx (M := []) rfl (S2 rfl rfl TT) TT
theorem zn3 {a0 : List UInt8} {m : Option Nat} {o : Bool} (h : qg m a0 = some o) : PFn Tryd.prog 42 [.str a0] (.bool o) := PFn.ofFnW (L := zsi) zqz zpi (NB rfl) rfl (zgv h)
def zf8 : LCode := (.seq (.region [Qo 10 (.bin .lss (.t 9) (.t 8))])
 (.seq (.cond (.t 10)
  .skip
  (.exit 0))
 (.seq (.block 1
  (.seq (.region [Qm 11 9,
   Qo 12 (.iaddr 1 (.t 7) (.t 9)),
   Ql 13 1 12,
   Qm 5 11,
   Qm 6 13])
  (.seq (.region [Qm 14 1,
   Qm 15 6,
   Qo 16 (.bin .eql (.t 14) (.t 15))])
  (.cond (.t 16)
   (.seq (.region [Qm 17 5,
    Qm 4 17])
   .ret)
   .skip))))
 (.region [Qo 18 (.bin .add (.t 9) (.c (i6 1))),
  Qm 9 18]))))
def zbh : LCode := (.seq (.region [Qo 4 (.mv (.c (i6 (-1))))])
 .ret)
def zna : LCode := (.seq (.region [Qi 4 0])
 (.seq (.seq (.region [Qm 7 0,
  Qo 8 (.len false (.t 7)),
  Qi 9 0])
 (.block 0
  (.loop
   zf8)))
 zbh))
def Jl : Lay := ⟨19, [], false⟩
def zff : List LRes := [.t 4]
def zte : LFn := ⟨2, Jl, zna, zff⟩
theorem zou : kb Tryd.prog [] 75 = some zte := by kernel_rfl
theorem zpw : Yh Tryd.prog 75 := ⟨_, Tryd.func75, rfl, rfl⟩
def zmz (a0 : List (List UInt8)) (a1 : List UInt8) (o : Int) : Exit → Env → AHeap → Nat → Prop := Jo zff (kc (i6 o))
def z1q (a0 : List (List UInt8)) (a1 : List UInt8) (s : Int) : Env := [(1, .str a1), (7, .isl 1 (a0.map z7) false), (8, i6 ((a0.map z7).length : Int)), (9, i6 s)]
def z6e (a0 : List (List UInt8)) (a1 : List UInt8) (s : Int) : AHeap := []
def zah (a0 : List (List UInt8)) (a1 : List UInt8) (o : Int) : Exit → Env → AHeap → Nat → Prop := (x6 0 (Y4 Tryd.prog Jl 0 zbh (zmz a0 a1 o)))
noncomputable def jp (m : Option Nat) : Option Int :=
 some (-1)
noncomputable def zl (m : Option Nat) (a0 : List (List UInt8)) (a1 : List UInt8) (v1 : Int) : Option (Int ⊕ Int) :=
 if (decide (v1 < ((a0.map z7).length : Int))) = true then
  if (0 : Int) ≤ v1 ∧ v1 < ((a0.map z7).length : Int) then
  if (a1 == (a0.getD v1.toNat default)) = true then
   Option.map Sum.inr (
    some v1)
  else
   some (.inl (W (v1 + 1)))
  else none
 else
  Option.map Sum.inr (
   jp m)
noncomputable def zr (m : Option Nat) (a0 : List (List UInt8)) (a1 : List UInt8) (v1 : Int) : Option Int := uq m (fun (s : Int) => zl m a0 a1 s) v1
theorem zgz {a0 : List (List UInt8)} {a1 : List UInt8} {m : Option Nat} {o : Int} (h : jp m = some o) :
 LWp Tryd.prog Jl 0 zbh (zmz a0 a1 o) [] [] 0 := by
 unfold jp at h
 refine zn (zw ?_)
 refine uf ?_
 cases h
 exact AI TT (AI rfl (VS rfl))
theorem ze8 {a0 : List (List UInt8)} {a1 : List UInt8} {v1 : Int} {m : Option Nat} {o : Int ⊕ Int} (h : zl m a0 a1 v1 = some o) :
 LWp Tryd.prog Jl 0 zf8 (ko 0 0 (z1q a0 a1) (z6e a0 a1) (zah a0 a1) o) [(1, .str a1), (7, .isl 1 (a0.map z7) false), (8, i6 ((a0.map z7).length : Int)), (9, i6 v1)] [] 0 := by
 unfold zl at h
 refine zn (zw ?_)
 refine zn ?_
 refine j6 (v := (decide (v1 < ((a0.map z7).length : Int)))) rfl TT (fun h7 => ?_) (fun h7 => ?_)
 ·have h := yb h7 h
  refine js ?_
  refine zn ?_
  refine j4 ?_
  refine zn (zw ?_)
  obtain ⟨h8, h⟩ := yh h
  refine AI h8 ?_
  refine EX (z7 (a0.getD v1.toNat default)) (AI (vz z7 _ _ (jq z7 h8)) (AI (AI (w7 h8) (NB rfl)) ?_))
  refine zn (zw ?_)
  refine LWp.sim (e := [(1, .str a1), (5, i6 v1), (7, .isl 1 (a0.map z7) false), (8, i6 ((a0.map z7).length : Int)), (9, i6 v1), (16, .bool (a1 == (a0.getD v1.toNat default)))]) (L := []) (n := 0) ?_ ?_
  ·exact xx (M := []) rfl (S4 rfl rfl rfl rfl (S2 rfl rfl TT)) TT
  refine j6 (v := (a1 == (a0.getD v1.toNat default))) rfl TT (fun h9 => ?_) (fun h9 => ?_)
  ·have h := yb h9 h
   refine zn (zw ?_)
   refine uf ?_
   obtain ⟨o, hq, rfl⟩ := Option.map_eq_some_iff.1 h
   replace h := hq; clear hq
   refine AI nofun ?_
   cases h
   exact AI TT (AI rfl (VS rfl))
  ·have h := q9 h9 h
   refine js ?_
   refine zw ?_
   cases h
   exact AI rfl (xx (M := []) rfl (S4 rfl rfl rfl rfl TT) TT)
 ·have h := q9 h7 h
  refine Yx ?_
  obtain ⟨o, hq, rfl⟩ := Option.map_eq_some_iff.1 h
  replace h := hq; clear hq
  refine AI nofun ?_
  refine LWp.sim ?_ (zgz h)
  exact xx (M := []) rfl TT TT
theorem ziy {a0 : List (List UInt8)} {a1 : List UInt8} {v1 : Int} {m : Option Nat} {o : Int} (h : zr m a0 a1 v1 = some o) :
 LWp Tryd.prog Jl 0 (.loop zf8) (x6 0 (Y4 Tryd.prog Jl 0 zbh (zmz a0 a1 o))) [(1, .str a1), (7, .isl 1 (a0.map z7) false), (8, i6 ((a0.map z7).length : Int)), (9, i6 v1)] [] 0 :=
 ji (m := m) (s := (v1 : Int)) (r := o) (fun (s : Int) => zl m a0 a1 s) (z1q a0 a1) (z6e a0 a1) (zah a0 a1) (fun s o h => ze8 h) h
noncomputable def qi (m : Option Nat) (a0 : List (List UInt8)) (a1 : List UInt8) : Option Int :=
 zr m a0 a1 0
theorem zfz {a0 : List (List UInt8)} {a1 : List UInt8} {m : Option Nat} {o : Int} (h : qi m a0 a1 = some o) : LWp Tryd.prog Jl 0 zna (zmz a0 a1 o) (xb 0 [.isl 1 (a0.map z7) false, .str a1]) [] 0 := by
 unfold qi at h
 refine zn (zw ?_)
 refine zn ?_
 refine zn (zw ?_)
 refine j4 ?_
 refine LWp.sim ?_ (ziy h)
 exact xx (M := []) rfl (S4 rfl rfl rfl rfl TT) TT
theorem zrw {a0 : List (List UInt8)} {a1 : List UInt8} {m : Option Nat} {o : Int} (h : qi m a0 a1 = some o) : PFn Tryd.prog 75 [.isl 1 (a0.map z7) false, .str a1] (i6 o) := PFn.ofFnW (L := zte) zou zpw (NB rfl) rfl (zfz h)
def zo3 : LCode := (.seq (.region [Qb 4])
 (.seq (.region [Qm 5 0,
  Qm 6 1,
  Qo 7 (.call 75 [(.t 5), (.t 6)]),
  Qo 8 (.bin .geq (.t 7) (.c (i6 0))),
  Qm 4 8])
 .ret))
def zjr : Lay := ⟨9, [], false⟩
def zg0 : List LRes := [.t 4]
def zrp : LFn := ⟨2, zjr, zo3, zg0⟩
theorem zq6 : kb Tryd.prog [] 62 = some zrp := by kernel_rfl
theorem zr2 : Yh Tryd.prog 62 := ⟨_, Tryd.func62, rfl, rfl⟩
noncomputable def yy (m : Option Nat) (a0 : List (List UInt8)) (a1 : List UInt8) : Option Bool :=
 (qi m a0 a1).bind fun v1 =>
 some (decide (v1 ≥ 0))
def zv0 (a0 : List (List UInt8)) (a1 : List UInt8) (o : Bool) : Exit → Env → AHeap → Nat → Prop := Jo zg0 (kc (.bool o))
theorem zjw {a0 : List (List UInt8)} {a1 : List UInt8} {m : Option Nat} {o : Bool} (h : yy m a0 a1 = some o) : LWp Tryd.prog zjr 0 zo3 (zv0 a0 a1 o) (xb 0 [.isl 1 (a0.map z7) false, .str a1]) [] 0 := by
 unfold yy at h
 refine zn (zw ?_)
 refine zn (zw ?_)
 obtain ⟨v1, h1, h⟩ := bind_some h
 refine PFn.call (zrw h1) (S2 rfl rfl TT) ?_
 refine uf ?_
 cases h
 exact AI TT (AI rfl (VS rfl))
theorem zs6 {a0 : List (List UInt8)} {a1 : List UInt8} {m : Option Nat} {o : Bool} (h : yy m a0 a1 = some o) : PFn Tryd.prog 62 [.isl 1 (a0.map z7) false, .str a1] (.bool o) := PFn.ofFnW (L := zrp) zq6 zr2 (NB rfl) rfl (zjw h)
def zhs : LCode := (.seq (.region [Qo 8 (.bin .lss (.t 7) (.t 6))])
 (.seq (.cond (.t 8)
  .skip
  (.exit 0))
 (.seq (.block 1
  (.seq (.region [Qm 9 7,
   Qo 10 (.iaddr 1 (.t 5) (.t 7)),
   Ql 11 1 10,
   Qm 3 9,
   Qm 4 11])
  (.seq (.region [Qm 12 0,
   Qm 13 3,
   Qo 14 (.slSl 1 (.t 12) none (some (.t 13)) none),
   Qm 15 4,
   Qo 16 (.call 62 [(.t 14), (.t 15)])])
  (.cond (.t 16)
   (.seq (.region [Qo 2 (.mv (.c (.bool true)))])
   .ret)
   .skip))))
 (.region [Qo 17 (.bin .add (.t 7) (.c (i6 1))),
  Qm 7 17]))))
def zbg : LCode := (.seq (.region [Qb 2])
 .ret)
def znl : LCode := (.seq (.region [Qb 2])
 (.seq (.seq (.region [Qm 5 0,
  Qo 6 (.len false (.t 5)),
  Qi 7 0])
 (.block 0
  (.loop
   zhs)))
 zbg))
def Jc : Lay := ⟨18, [], false⟩
def zf7 : List LRes := [.t 2]
def zs0 : LFn := ⟨1, Jc, znl, zf7⟩
theorem zop : kb Tryd.prog [] 43 = some zs0 := by kernel_rfl
theorem zp1 : Yh Tryd.prog 43 := ⟨_, Tryd.func43, rfl, rfl⟩
def zks (a0 : List (List UInt8)) (o : Bool) : Exit → Env → AHeap → Nat → Prop := Jo zf7 (kc (.bool o))
def z1t (a0 : List (List UInt8)) (s : Int) : Env := [(0, .isl 1 (a0.map z7) false), (5, .isl 1 (a0.map z7) false), (6, i6 ((a0.map z7).length : Int)), (7, i6 s)]
def z5t (a0 : List (List UInt8)) (s : Int) : AHeap := []
def zab (a0 : List (List UInt8)) (o : Bool) : Exit → Env → AHeap → Nat → Prop := (x6 0 (Y4 Tryd.prog Jc 0 zbg (zks a0 o)))
noncomputable def jz (m : Option Nat) : Option Bool :=
 some false
noncomputable def yt (m : Option Nat) (a0 : List (List UInt8)) (v2 : Int) : Option (Int ⊕ Bool) :=
 if (decide (v2 < ((a0.map z7).length : Int))) = true then
  if (0 : Int) ≤ v2 ∧ v2 < ((a0.map z7).length : Int) then
  if (0 : Int) ≤ v2 ∧ v2 ≤ ((a0.map z7).length : Int) then
  (yy m (a0.take v2.toNat) (a0.getD v2.toNat default)).bind fun v4 =>
  if v4 = true then
   Option.map Sum.inr (
    some true)
  else
   some (.inl (W (v2 + 1)))
  else none
  else none
 else
  Option.map Sum.inr (
   jz m)
noncomputable def xg (m : Option Nat) (a0 : List (List UInt8)) (v2 : Int) : Option Bool := uq m (fun (s : Int) => yt m a0 s) v2
theorem zis {a0 : List (List UInt8)} {m : Option Nat} {o : Bool} (h : jz m = some o) :
 LWp Tryd.prog Jc 0 zbg (zks a0 o) [] [] 0 := by
 unfold jz at h
 refine zn (zw ?_)
 refine uf ?_
 cases h
 exact AI TT (AI rfl (VS rfl))
theorem zd9 {a0 : List (List UInt8)} {v2 : Int} {m : Option Nat} {o : Int ⊕ Bool} (h : yt m a0 v2 = some o) :
 LWp Tryd.prog Jc 0 zhs (ko 0 0 (z1t a0) (z5t a0) (zab a0) o) [(0, .isl 1 (a0.map z7) false), (5, .isl 1 (a0.map z7) false), (6, i6 ((a0.map z7).length : Int)), (7, i6 v2)] [] 0 := by
 unfold yt at h
 refine zn (zw ?_)
 refine zn ?_
 refine j6 (v := (decide (v2 < ((a0.map z7).length : Int)))) rfl TT (fun h11 => ?_) (fun h11 => ?_)
 ·have h := yb h11 h
  refine js ?_
  refine zn ?_
  refine j4 ?_
  refine zn (zw ?_)
  obtain ⟨h12, h⟩ := yh h
  refine AI h12 ?_
  refine EX (z7 (a0.getD v2.toNat default)) (AI (vz z7 _ _ (jq z7 h12)) (AI (AI (w7 h12) (NB rfl)) ?_))
  refine zn (zw ?_)
  obtain ⟨h13, h⟩ := yh h
  refine EX (.isl 1 ((a0.take v2.toNat).map z7) false) (AI (zp5 z7 (slB z7 a0 _) rfl) (AI (AI rfl (AI (Int.le_refl _) h13)) ?_))
  obtain ⟨v4, h14, h⟩ := bind_some h
  refine PFn.call (zs6 h14) (S2 rfl rfl TT) ?_
  refine LWp.sim (e := [(0, .isl 1 (a0.map z7) false), (5, .isl 1 (a0.map z7) false), (6, i6 ((a0.map z7).length : Int)), (7, i6 v2), (16, .bool v4)]) (L := []) (n := 0) ?_ ?_
  ·exact xx (M := []) rfl (S4 rfl rfl rfl rfl (AI (VS rfl) TT)) TT
  refine j6 (v := v4) rfl TT (fun h15 => ?_) (fun h15 => ?_)
  ·have h := yb h15 h
   refine zn (zw ?_)
   refine uf ?_
   obtain ⟨o, hq, rfl⟩ := Option.map_eq_some_iff.1 h
   replace h := hq; clear hq
   refine AI nofun ?_
   cases h
   exact AI TT (AI rfl (VS rfl))
  ·have h := q9 h15 h
   refine js ?_
   refine zw ?_
   cases h
   exact AI rfl (xx (M := []) rfl (S4 rfl rfl rfl rfl TT) TT)
 ·have h := q9 h11 h
  refine Yx ?_
  obtain ⟨o, hq, rfl⟩ := Option.map_eq_some_iff.1 h
  replace h := hq; clear hq
  refine AI nofun ?_
  refine LWp.sim ?_ (zis h)
  exact xx (M := []) rfl TT TT
theorem zjf {a0 : List (List UInt8)} {v2 : Int} {m : Option Nat} {o : Bool} (h : xg m a0 v2 = some o) :
 LWp Tryd.prog Jc 0 (.loop zhs) (x6 0 (Y4 Tryd.prog Jc 0 zbg (zks a0 o))) [(0, .isl 1 (a0.map z7) false), (5, .isl 1 (a0.map z7) false), (6, i6 ((a0.map z7).length : Int)), (7, i6 v2)] [] 0 :=
 ji (m := m) (s := (v2 : Int)) (r := o) (fun (s : Int) => yt m a0 s) (z1t a0) (z5t a0) (zab a0) (fun s o h => zd9 h) h
noncomputable def j2 (m : Option Nat) (a0 : List (List UInt8)) : Option Bool :=
 xg m a0 0
theorem zk8 {a0 : List (List UInt8)} {m : Option Nat} {o : Bool} (h : j2 m a0 = some o) : LWp Tryd.prog Jc 0 znl (zks a0 o) (xb 0 [.isl 1 (a0.map z7) false]) [] 0 := by
 unfold j2 at h
 refine zn (zw ?_)
 refine zn ?_
 refine zn (zw ?_)
 refine j4 ?_
 refine LWp.sim ?_ (zjf h)
 exact xx (M := []) rfl (S4 rfl rfl rfl rfl TT) TT
theorem zs7 {a0 : List (List UInt8)} {m : Option Nat} {o : Bool} (h : j2 m a0 = some o) : PFn Tryd.prog 43 [.isl 1 (a0.map z7) false] (.bool o) := PFn.ofFnW (L := zs0) zop zp1 (NB rfl) rfl (zk8 h)
def z3t : LCode := (.seq (.region [Qo 107 (.bin .lss (.t 106) (.t 105))])
 (.seq (.cond (.t 107)
  .skip
  (.exit 0))
 (.seq (.block 1
  (.seq (.region [Qo 108 (.iaddr 1 (.t 104) (.t 106)),
   Ql 109 1 108,
   Qm 6 109])
  (.region [Qm 110 4,
   Qm 111 110,
   Qn 112 6 (111, true),
   Qg 113 (.call 42 [(.t 112)]) (111, true),
   Qp 114 111 113,
   Qm 4 114])))
 (.region [Qo 115 (.bin .add (.t 106) (.c (i6 1))),
  Qm 106 115]))))
def z4e : LCode := (.seq (.region [Qo 122 (.bin .lss (.t 121) (.t 120))])
 (.seq (.cond (.t 122)
  .skip
  (.exit 2))
 (.seq (.block 3
  (.seq (.region [Qo 123 (.iaddr 5 (.t 119) (.t 121)),
   Qt 124 5 123,
   Qo 8 (.alloc [(i6 0), (i6 0), (.str []), (.isl 1 [] true), (.isl 5 [] true)]),
   ⟨none, .store 5 (.t 8) (.t 124), none⟩])
  (.seq (.region [Qt 125 5 8,
   Qc 126 21 125,
   Qm 9 126])
  (.seq (.region [Qm 127 9,
   Qo 128 (.bin .neq (.t 127) (.c (i6 0)))])
  (.cond (.t 128)
   (.seq (.region [Qm 129 9,
    Qm 2 129])
   .ret)
   .skip)))))
 (.region [Qo 130 (.bin .add (.t 121) (.c (i6 1))),
  Qm 121 130]))))
def U0 : LCode := (.seq (.region [Qi 2 0])
 .ret)
def Ky : LCode := (.seq (.seq (.region [Qm 116 4,
 Qo 117 (.un .not (.t 116))])
 (.cond (.t 117)
  (.seq (.region [Qi 2 3])
  .ret)
  .skip))
 (.seq (.seq (.region [Qf 118 4 1,
  Ql 119 1 118,
  Qo 120 (.len false (.t 119)),
  Qi 121 0])
 (.block 2
  (.loop
   z4e)))
 U0))
def zb9 : LCode := (.seq (.seq (.region [Qf 103 3 1,
 Ql 104 1 103,
 Qo 105 (.len false (.t 104)),
 Qi 106 0])
 (.block 0
  (.loop
   z3t)))
 Ky)
def zc0 : LCode := (.seq (.region [Qo 1 (.box (.t 0)),
 Qi 2 0])
 (.seq (.seq (.region [Qf 10 0 1,
  Ql 11 1 10,
  Qo 12 (.bin .lss (.t 11) (.c (i6 0))),
  Qm 13 12,
  Qe 14 0 1 (13, false),
  Qk 15 1 14 (13, false),
  Qg 16 (.bin .gtr (.t 15) (.c (i6 5))) (13, false),
  Qo 17 (.pick (.t 13) (.c (.bool true)) (.t 16))])
 (.cond (.t 17)
  (.seq (.region [Qi 2 7])
  .ret)
  .skip))
 (.seq (.region [Qi 3 9007199254740991])
 (.seq (.region [Qf 18 1 1,
  Ql 19 1 18,
  Qo 20 (.bin .eql (.t 19) (.c (i6 0))),
  Qm 21 20,
  Qe 22 0 1 (21, false),
  Qk 23 1 22 (21, false),
  Qg 24 (.bin .eql (.t 23) (.c (i6 1))) (21, false),
  Qn 25 24 (21, false),
  Qe 26 1 1 (25, true),
  Qk 27 1 26 (25, true),
  Qg 28 (.bin .eql (.t 27) (.c (i6 1))) (25, true),
  Qg 29 (.pick (.t 25) (.t 28) (.c (.bool false))) (21, false),
  Qo 30 (.pick (.t 21) (.c (.bool true)) (.t 29)),
  Qm 31 30,
  Qe 32 0 1 (31, false),
  Qk 33 1 32 (31, false),
  Qg 34 (.bin .eql (.t 33) (.c (i6 2))) (31, false),
  Qn 35 34 (31, false),
  Qn 36 3 (35, true),
  Qg 37 (.un .neg (.t 36)) (35, true),
  Qe 38 1 1 (35, true),
  Qk 39 1 38 (35, true),
  Qg 40 (.bin .leq (.t 37) (.t 39)) (35, true),
  Qg 41 (.pick (.t 35) (.t 40) (.c (.bool false))) (31, false),
  Qn 42 41 (31, false),
  Qe 43 1 1 (42, true),
  Qk 44 1 43 (42, true),
  Qn 45 3 (42, true),
  Qg 46 (.bin .leq (.t 44) (.t 45)) (42, true),
  Qg 47 (.pick (.t 42) (.t 46) (.c (.bool false))) (31, false),
  Qo 48 (.pick (.t 31) (.c (.bool true)) (.t 47)),
  Qm 4 48])
 (.seq (.region [Qm 49 4,
  Qm 50 49,
  Qe 51 2 1 (50, true),
  Qk 52 1 51 (50, true),
  Qg 53 (.bin .eql (.t 52) (.c (.str []))) (50, true),
  Qn 54 53 (50, true),
  Qe 55 0 1 (54, false),
  Qk 56 1 55 (54, false),
  Qg 57 (.bin .eql (.t 56) (.c (i6 3))) (54, false),
  Qn 58 57 (54, false),
  Qe 59 2 1 (58, true),
  Qk 60 1 59 (58, true),
  Qg 61 (.call 42 [(.t 60)]) (58, true),
  Qg 62 (.pick (.t 58) (.t 61) (.c (.bool false))) (54, false),
  Qg 63 (.pick (.t 54) (.c (.bool true)) (.t 62)) (50, true),
  Qp 64 50 63,
  Qm 4 64])
 (.seq (.region [Qm 65 4,
  Qm 66 65,
  Qe 67 4 1 (66, true),
  Qk 68 1 67 (66, true),
  Qg 69 (.len false (.t 68)) (66, true),
  Qg 70 (.bin .eql (.t 69) (.c (i6 0))) (66, true),
  Qn 71 70 (66, true),
  Qe 72 0 1 (71, false),
  Qk 73 1 72 (71, false),
  Qg 74 (.bin .geq (.t 73) (.c (i6 4))) (71, false),
  Qg 75 (.pick (.t 71) (.c (.bool true)) (.t 74)) (66, true),
  Qp 76 66 75,
  Qm 4 76])
 (.seq (.seq (.region [Qf 77 0 1,
  Ql 78 1 77,
  Qo 79 (.bin .eql (.t 78) (.c (i6 5)))])
 (.cond (.t 79)
  (.region [Qm 80 4,
   Qm 81 80,
   Qe 82 3 1 (81, true),
   Qk 83 1 82 (81, true),
   Qg 84 (.len false (.t 83)) (81, true),
   Qe 85 4 1 (81, true),
   Qk 86 1 85 (81, true),
   Qg 87 (.len false (.t 86)) (81, true),
   Qg 88 (.bin .eql (.t 84) (.t 87)) (81, true),
   Qp 89 81 88,
   Qm 90 89,
   Qe 91 3 1 (90, true),
   Qk 92 1 91 (90, true),
   Qg 93 (.call 43 [(.t 92)]) (90, true),
   Qg 94 (.un .not (.t 93)) (90, true),
   Qp 95 90 94,
   Qm 4 95])
  (.region [Qm 96 4,
   Qm 97 96,
   Qe 98 3 1 (97, true),
   Qk 99 1 98 (97, true),
   Qg 100 (.len false (.t 99)) (97, true),
   Qg 101 (.bin .eql (.t 100) (.c (i6 0))) (97, true),
   Qp 102 97 101,
   Qm 4 102])))
 zb9)))))))
def ww : Lay := ⟨131, [], false⟩
def z54 : List LRes := [.t 2]
def zgi : LFn := ⟨1, ww, zc0, z54⟩
theorem zi3 : kb Tryd.prog [] 21 = some zgi := by kernel_rfl
theorem zj1 : Yh Tryd.prog 21 := ⟨_, Tryd.func21, rfl, rfl⟩
def Xj (a0 : GJ) (o : Int) : Exit → Env → AHeap → Nat → Prop := Jo z54 (Jd 3 3 (i6 o) [])
def Vi (a0 : GJ) (s : (Bool × Int)) : Env := [(1, .ptr (3, 0) 0 0), (4, .bool s.1), (104, .isl 1 (a0.fA.map z7) false), (105, i6 ((a0.fA.map z7).length : Int)), (106, i6 s.2)]
def z0s (a0 : GJ) (s : (Bool × Int)) : AHeap := [((3, 0), .one (z6 a0))]
def z2l (a0 : GJ) (o : Int) : Exit → Env → AHeap → Nat → Prop := (x6 0 (Y4 Tryd.prog ww 3 Ky (Xj a0 o)))
noncomputable def jf (rec2 : GJ → Option Int) (m : Option Nat) : Option Int :=
 some 0
noncomputable def xc (rec2 : GJ → Option Int) (m : Option Nat) (a0 : GJ) (v11 : Int) : Option (Int ⊕ Int) :=
 if (decide (v11 < ((a0.fE.map z8).length : Int))) = true then
  if (0 : Int) ≤ v11 ∧ v11 < ((a0.fE.map z8).length : Int) then
  ((vg (a0.fE.getD v11.toNat default))).bind fun v14 =>
  (rec2 v14).bind fun v15 =>
  if (v15 != 0) = true then
   Option.map Sum.inr (
    some v15)
  else
   some (.inl (W (v11 + 1)))
  else none
 else
  Option.map Sum.inr (
   jf rec2 m)
noncomputable def wm (rec2 : GJ → Option Int) (m : Option Nat) (a0 : GJ) (v11 : Int) : Option Int := uq m (fun (s : Int) => xc rec2 m a0 s) v11
noncomputable def yk (rec2 : GJ → Option Int) (m : Option Nat) (a0 : GJ) (v5 : Bool) : Option Int :=
 if (!v5) = true then
  some 3
 else
  wm rec2 m a0 0
noncomputable def y6 (rec2 : GJ → Option Int) (m : Option Nat) (a0 : GJ) (v5 : Bool) (v6 : Int) : Option ((Bool × Int) ⊕ Int) :=
 if (decide (v6 < ((a0.fA.map z7).length : Int))) = true then
  if (0 : Int) ≤ v6 ∧ v6 < ((a0.fA.map z7).length : Int) then
  (if (v5 == true) = true then qg m (a0.fA.getD v6.toNat default) else some default).bind fun v8 =>
  some (.inl ((v5 && v8), (W (v6 + 1))))
  else none
 else
  Option.map Sum.inr (
   yk rec2 m a0 v5)
noncomputable def qf (rec2 : GJ → Option Int) (m : Option Nat) (a0 : GJ) (v5 : Bool) (v6 : Int) : Option Int := uq m (fun (s : (Bool × Int)) => y6 rec2 m a0 s.1 s.2) (v5, v6)
def Vs (a0 : GJ) (s : Int) : Env := [(119, .isl 5 (a0.fE.map z8) false), (120, i6 ((a0.fE.map z8).length : Int)), (121, i6 s)]
def z0x (a0 : GJ) (s : Int) : AHeap := []
def z2g (a0 : GJ) (o : Int) : Exit → Env → AHeap → Nat → Prop := (x6 2 (Y4 Tryd.prog ww 3 U0 (Xj a0 o)))
abbrev Hr2 (rec2 : GJ → Option Int) : Prop := ∀ {a0 : GJ} {o : Int}, rec2 a0 = some o → ACalls Tryd.prog 21 [.agg (z6 a0)] [] 3 (wt 3 (i6 o) [])
theorem z99 {rec2 : GJ → Option Int} (hrec2 : Hr2 rec2) {a0 : GJ} {m : Option Nat} {o : Int} (h : jf rec2 m = some o) :
 LWp Tryd.prog ww 3 U0 (Xj a0 o) [] [] 3 := by
 unfold jf at h
 refine zn (zw ?_)
 refine uf ?_
 cases h
 exact AI TT (z40 (n' := 3) [] [] rfl rfl (VS rfl) TT)
theorem z5d {rec2 : GJ → Option Int} (hrec2 : Hr2 rec2) {a0 : GJ} {v11 : Int} {m : Option Nat} {o : Int ⊕ Int} (h : xc rec2 m a0 v11 = some o) :
 LWp Tryd.prog ww 3 z4e (ko 3 3 (Vs a0) (z0x a0) (z2g a0) o) [(119, .isl 5 (a0.fE.map z8) false), (120, i6 ((a0.fE.map z8).length : Int)), (121, i6 v11)] [] 3 := by
 unfold xc at h
 refine zn (zw ?_)
 refine zn ?_
 refine j6 (v := (decide (v11 < ((a0.fE.map z8).length : Int)))) rfl TT (fun h25 => ?_) (fun h25 => ?_)
 ·have h := yb h25 h
  refine js ?_
  refine zn ?_
  refine j4 ?_
  refine zn (zw ?_)
  obtain ⟨h26, h⟩ := yh h
  refine AI h26 ?_
  obtain ⟨v14, h27, h⟩ := bind_some h
  refine EX (z6 v14) (AI (xn (jq z8 h26) h27) (AI (AI (w7 h26) (NB rfl)) ?_))
  refine zn (zw ?_)
  obtain ⟨v15, h28, h⟩ := bind_some h
  refine Q5 (k := 3) (m := 0) (L' := []) (rest := [((3, 0), .one (z6 v14))]) (R' := i6 v15) [] (hrec2 h28) rfl rfl rfl (AI (VS rfl) TT) TT (we _ rfl) TT rfl ?_
  refine LWp.sim (e := [(9, i6 v15), (119, .isl 5 (a0.fE.map z8) false), (120, i6 ((a0.fE.map z8).length : Int)), (121, i6 v11)]) (L := []) (n := 3) ?_ ?_
  ·exact xx (M := []) rfl (S4 rfl rfl rfl rfl TT) TT
  refine zn (zw ?_)
  refine j6 (v := (v15 != 0)) rfl TT (fun h29 => ?_) (fun h29 => ?_)
  ·have h := yb h29 h
   refine zn (zw ?_)
   refine uf ?_
   obtain ⟨o, hq, rfl⟩ := Option.map_eq_some_iff.1 h
   replace h := hq; clear hq
   refine AI nofun ?_
   cases h
   exact AI TT (z40 (n' := 3) [] [] rfl rfl (VS rfl) TT)
  ·have h := q9 h29 h
   refine js ?_
   refine zw ?_
   cases h
   exact AI rfl (xx (M := []) rfl (S2 rfl rfl (AI (VS rfl) TT)) TT)
 ·have h := q9 h25 h
  refine Yx ?_
  obtain ⟨o, hq, rfl⟩ := Option.map_eq_some_iff.1 h
  replace h := hq; clear hq
  refine AI nofun ?_
  refine LWp.sim ?_ (z99 hrec2 h)
  exact xx (M := []) rfl TT TT
theorem z8i {rec2 : GJ → Option Int} (hrec2 : Hr2 rec2) {a0 : GJ} {v11 : Int} {m : Option Nat} {o : Int} (h : wm rec2 m a0 v11 = some o) :
 LWp Tryd.prog ww 3 (.loop z4e) (x6 2 (Y4 Tryd.prog ww 3 U0 (Xj a0 o))) [(119, .isl 5 (a0.fE.map z8) false), (120, i6 ((a0.fE.map z8).length : Int)), (121, i6 v11)] [] 3 :=
 ji (m := m) (s := (v11 : Int)) (r := o) (fun (s : Int) => xc rec2 m a0 s) (Vs a0) (z0x a0) (z2g a0) (fun s o h => z5d hrec2 h) h
theorem z9c {rec2 : GJ → Option Int} (hrec2 : Hr2 rec2) {a0 : GJ} {v5 : Bool} {m : Option Nat} {o : Int} (h : yk rec2 m a0 v5 = some o) :
 LWp Tryd.prog ww 3 Ky (Xj a0 o) [(1, .ptr (3, 0) 0 0), (4, .bool v5)] [((3, 0), .one (z6 a0))] 4 := by
 unfold yk at h
 refine zn ?_
 refine zn (zw ?_)
 refine j6 (v := (!v5)) rfl TT (fun h14 => ?_) (fun h14 => ?_)
 ·have h := yb h14 h
  refine zn (zw ?_)
  refine uf ?_
  cases h
  exact AI TT (z40 (n' := 4) [] [] rfl rfl (VS rfl) TT)
 ·have h := q9 h14 h
  refine js ?_
  refine zn ?_
  refine zn (zw ?_)
  refine j4 ?_
  refine LWp.sim ?_ (z8i hrec2 h)
  exact xx (M := []) rfl (S2 rfl rfl (AI (VS rfl) TT)) TT
theorem z6j {rec2 : GJ → Option Int} (hrec2 : Hr2 rec2) {a0 : GJ} {v5 : Bool} {v6 : Int} {m : Option Nat} {o : (Bool × Int) ⊕ Int} (h : y6 rec2 m a0 v5 v6 = some o) :
 LWp Tryd.prog ww 3 z3t (ko 3 4 (Vi a0) (z0s a0) (z2l a0) o) [(1, .ptr (3, 0) 0 0), (4, .bool v5), (104, .isl 1 (a0.fA.map z7) false), (105, i6 ((a0.fA.map z7).length : Int)), (106, i6 v6)] [((3, 0), .one (z6 a0))] 4 := by
 unfold y6 at h
 refine zn (zw ?_)
 refine zn ?_
 refine j6 (v := (decide (v6 < ((a0.fA.map z7).length : Int)))) rfl TT (fun h11 => ?_) (fun h11 => ?_)
 ·have h := yb h11 h
  refine js ?_
  refine zn ?_
  refine j4 ?_
  refine zn (zw ?_)
  obtain ⟨h12, h⟩ := yh h
  refine AI h12 ?_
  refine EX (z7 (a0.fA.getD v6.toNat default)) (AI (vz z7 _ _ (jq z7 h12)) (AI (AI (w7 h12) (NB rfl)) ?_))
  refine zw ?_
  obtain ⟨v8, h13, h⟩ := bind_some h
  refine Or.inl (EX (.bool v8) (AI (fun hp => AI hp (PFn.call (zn3 (yb hp h13)) (AI (VS rfl) TT) (AI rfl (AI rfl rfl)))) ?_))
  refine AI (fun hc => (bqt hc)) ?_
  refine LWp.sim (e := [(1, .ptr (3, 0) 0 0), (4, .bool (v5 && v8)), (104, .isl 1 (a0.fA.map z7) false), (105, i6 ((a0.fA.map z7).length : Int)), (106, i6 v6)]) (L := [((3, 0), .one (z6 a0))]) (n := 4) ?_ ?_
  ·exact xx (M := [((3, 0), (3, 0))]) rfl (SP rfl (S4 rfl rfl rfl rfl TT)) (AI (AI rfl (OL rfl)) TT)
  refine zw ?_
  cases h
  exact AI rfl (xx (M := [((3, 0), (3, 0))]) rfl (SP rfl (S4 rfl rfl rfl rfl TT)) (AI (AI rfl (OL rfl)) TT))
 ·have h := q9 h11 h
  refine Yx ?_
  obtain ⟨o, hq, rfl⟩ := Option.map_eq_some_iff.1 h
  replace h := hq; clear hq
  refine AI nofun ?_
  refine LWp.sim ?_ (z9c hrec2 h)
  exact xx (M := [((3, 0), (3, 0))]) rfl (SP rfl (AI (VS rfl) TT)) (AI (AI rfl (OL rfl)) TT)
theorem z9r {rec2 : GJ → Option Int} (hrec2 : Hr2 rec2) {a0 : GJ} {v5 : Bool} {v6 : Int} {m : Option Nat} {o : Int} (h : qf rec2 m a0 v5 v6 = some o) :
 LWp Tryd.prog ww 3 (.loop z3t) (x6 0 (Y4 Tryd.prog ww 3 Ky (Xj a0 o))) [(1, .ptr (3, 0) 0 0), (4, .bool v5), (104, .isl 1 (a0.fA.map z7) false), (105, i6 ((a0.fA.map z7).length : Int)), (106, i6 v6)] [((3, 0), .one (z6 a0))] 4 :=
 ji (m := m) (s := ((v5, v6) : (Bool × Int))) (r := o) (fun (s : (Bool × Int)) => y6 rec2 m a0 s.1 s.2) (Vi a0) (z0s a0) (z2l a0) (fun s o h => z6j hrec2 h) h
noncomputable def y5 (rec2 : GJ → Option Int) (m : Option Nat) (a0 : GJ) (v3 : Bool) : Option Int :=
 qf rec2 m a0 v3 0
theorem z0d {rec2 : GJ → Option Int} (hrec2 : Hr2 rec2) {a0 : GJ} {v3 : Bool} {m : Option Nat} {o : Int} (h : y5 rec2 m a0 v3 = some o) :
 LWp Tryd.prog ww 3 zb9 (Xj a0 o) [(1, .ptr (3, 0) 0 0), (4, .bool v3)] [((3, 0), .one (z6 a0))] 4 := by
 unfold y5 at h
 refine zn ?_
 refine zn (zw ?_)
 refine j4 ?_
 refine LWp.sim ?_ (z9r hrec2 h)
 exact xx (M := [((3, 0), (3, 0))]) rfl (SP rfl (S4 rfl rfl rfl rfl TT)) (AI (AI rfl (OL rfl)) TT)
noncomputable def zy (rec2 : GJ → Option Int) (m : Option Nat) (a0 : GJ) : Option Int :=
 if ((decide (a0.fK < 0)) || (decide (a0.fK > 5))) = true then
  some 7
 else
  (if ((((((a0.fN == 0) || ((a0.fK == 1) && (a0.fN == 1))) || (((a0.fK == 2) && (decide ((W (0 - 9007199254740991)) ≤ a0.fN))) && (decide (a0.fN ≤ 9007199254740991)))) == true) && ((a0.fT == ([] : List UInt8)) == false)) && ((a0.fK == 3) == true)) = true then qg m a0.fT else some default).bind fun v1 =>
  if (a0.fK == 5) = true then
   (if (((((((a0.fN == 0) || ((a0.fK == 1) && (a0.fN == 1))) || (((a0.fK == 2) && (decide ((W (0 - 9007199254740991)) ≤ a0.fN))) && (decide (a0.fN ≤ 9007199254740991)))) && ((a0.fT == ([] : List UInt8)) || ((a0.fK == 3) && v1))) && ((((a0.fE.map z8).length : Int) == 0) || (decide (a0.fK ≥ 4)))) && (((a0.fA.map z7).length : Int) == ((a0.fE.map z8).length : Int))) == true) = true then j2 m a0.fA else some default).bind fun v2 =>
   y5 rec2 m a0 (((((((a0.fN == 0) || ((a0.fK == 1) && (a0.fN == 1))) || (((a0.fK == 2) && (decide ((W (0 - 9007199254740991)) ≤ a0.fN))) && (decide (a0.fN ≤ 9007199254740991)))) && ((a0.fT == ([] : List UInt8)) || ((a0.fK == 3) && v1))) && ((((a0.fE.map z8).length : Int) == 0) || (decide (a0.fK ≥ 4)))) && (((a0.fA.map z7).length : Int) == ((a0.fE.map z8).length : Int))) && (!v2))
  else
   y5 rec2 m a0 ((((((a0.fN == 0) || ((a0.fK == 1) && (a0.fN == 1))) || (((a0.fK == 2) && (decide ((W (0 - 9007199254740991)) ≤ a0.fN))) && (decide (a0.fN ≤ 9007199254740991)))) && ((a0.fT == ([] : List UInt8)) || ((a0.fK == 3) && v1))) && ((((a0.fE.map z8).length : Int) == 0) || (decide (a0.fK ≥ 4)))) && (((a0.fA.map z7).length : Int) == 0))
theorem za1 {rec2 : GJ → Option Int} (hrec2 : Hr2 rec2) {a0 : GJ} {m : Option Nat} {o : Int} (h : zy rec2 m a0 = some o) : LWp Tryd.prog ww 3 zc0 (Xj a0 o) (xb 0 [.agg (z6 a0)]) [] 3 := by
 unfold zy at h
 refine zn (zw ?_)
 refine zn ?_
 refine zn (zw ?_)
 refine AI (fun hp => hp) ?_
 refine AI (fun hp => hp) ?_
 refine AI (fun hc => (bqf hc)) ?_
 refine LWp.sim (e := [(1, .ptr (3, 0) 0 0), (17, .bool ((decide (a0.fK < 0)) || (decide (a0.fK > 5))))]) (L := [((3, 0), .one (z6 a0))]) (n := 4) ?_ ?_
 ·exact xx (M := [((3, 0), (3, 0))]) rfl (SP rfl (AI (VS rfl) TT)) (AI (AI rfl (OL rfl)) TT)
 refine j6 (v := ((decide (a0.fK < 0)) || (decide (a0.fK > 5)))) rfl TT (fun h1 => ?_) (fun h1 => ?_)
 ·have h := yb h1 h
  refine zn (zw ?_)
  refine uf ?_
  cases h
  exact AI TT (z40 (n' := 4) [] [] rfl rfl (VS rfl) TT)
 ·have h := q9 h1 h
  refine js ?_
  refine zn (zw ?_)
  refine zn (zw ?_)
  refine AI (fun hp => hp) ?_
  refine AI (fun hp => hp) ?_
  refine AI (fun hp => hp) ?_
  refine AI (fun hp => hp) ?_
  refine AI (fun hp => hp) ?_
  refine AI (fun hp => (AI hp (fun hc => (z70 hp (bqt hc))))) ?_
  refine AI (fun hc => (bqf hc)) ?_
  refine AI (fun hp => hp) ?_
  refine AI (fun hp => hp) ?_
  refine AI (fun hp => hp) ?_
  refine AI (fun hp => hp) ?_
  refine AI (fun hp => hp) ?_
  refine AI (fun hp => (AI hp hp)) ?_
  refine AI (fun hp => (AI hp (fun hc => (z70 hp (bqt hc))))) ?_
  refine AI (fun hp => hp) ?_
  refine AI (fun hp => hp) ?_
  refine AI (fun hp => (AI hp hp)) ?_
  refine AI (fun hp => (AI hp (fun hc => (z70 hp (bqt hc))))) ?_
  refine AI (fun hc => (bqf hc)) ?_
  refine LWp.sim (e := [(1, .ptr (3, 0) 0 0), (4, .bool (((a0.fN == 0) || ((a0.fK == 1) && (a0.fN == 1))) || (((a0.fK == 2) && (decide ((W (0 - 9007199254740991)) ≤ a0.fN))) && (decide (a0.fN ≤ 9007199254740991)))))]) (L := [((3, 0), .one (z6 a0))]) (n := 4) ?_ ?_
  ·exact xx (M := [((3, 0), (3, 0))]) rfl (SP rfl (AI (VS rfl) TT)) (AI (AI rfl (OL rfl)) TT)
  refine zn (zw ?_)
  refine AI (fun hp => hp) ?_
  refine AI (fun hp => hp) ?_
  refine AI (fun hp => hp) ?_
  refine AI (fun hp => hp) ?_
  refine AI (fun hp => hp) ?_
  refine AI (fun hp => hp) ?_
  refine AI (fun hp => hp) ?_
  obtain ⟨v1, h2, h⟩ := bind_some h
  refine Or.inl (EX (.bool v1) (AI (fun hp => AI hp (PFn.call (zn3 (yb hp h2)) (AI (VS rfl) TT) (AI rfl (AI rfl rfl)))) ?_))
  refine AI (fun hp => (AI hp (fun hc => (z70 hp (bqt hc))))) ?_
  refine AI (fun hp => (AI hp (fun hc => (z70 hp (bqf hc))))) ?_
  refine AI (fun hc => (bqt hc)) ?_
  refine LWp.sim (e := [(1, .ptr (3, 0) 0 0), (4, .bool ((((a0.fN == 0) || ((a0.fK == 1) && (a0.fN == 1))) || (((a0.fK == 2) && (decide ((W (0 - 9007199254740991)) ≤ a0.fN))) && (decide (a0.fN ≤ 9007199254740991)))) && ((a0.fT == ([] : List UInt8)) || ((a0.fK == 3) && v1))))]) (L := [((3, 0), .one (z6 a0))]) (n := 4) ?_ ?_
  ·exact xx (M := [((3, 0), (3, 0))]) rfl (SP rfl (AI (VS rfl) TT)) (AI (AI rfl (OL rfl)) TT)
  refine zn (zw ?_)
  refine AI (fun hp => hp) ?_
  refine AI (fun hp => hp) ?_
  refine AI (fun hp => hp) ?_
  refine AI (fun hp => hp) ?_
  refine AI (fun hp => hp) ?_
  refine AI (fun hp => hp) ?_
  refine AI (fun hp => (AI hp (fun hc => (z70 hp (bqf hc))))) ?_
  refine AI (fun hc => (bqt hc)) ?_
  refine LWp.sim (e := [(1, .ptr (3, 0) 0 0), (4, .bool (((((a0.fN == 0) || ((a0.fK == 1) && (a0.fN == 1))) || (((a0.fK == 2) && (decide ((W (0 - 9007199254740991)) ≤ a0.fN))) && (decide (a0.fN ≤ 9007199254740991)))) && ((a0.fT == ([] : List UInt8)) || ((a0.fK == 3) && v1))) && ((((a0.fE.map z8).length : Int) == 0) || (decide (a0.fK ≥ 4)))))]) (L := [((3, 0), .one (z6 a0))]) (n := 4) ?_ ?_
  ·exact xx (M := [((3, 0), (3, 0))]) rfl (SP rfl (AI (VS rfl) TT)) (AI (AI rfl (OL rfl)) TT)
  refine zn ?_
  refine zn (zw ?_)
  refine j6 (v := (a0.fK == 5)) rfl TT (fun h3 => ?_) (fun h3 => ?_)
  ·have h := yb h3 h
   refine zw ?_
   refine AI (fun hp => hp) ?_
   refine AI (fun hp => hp) ?_
   refine AI (fun hp => hp) ?_
   refine AI (fun hp => hp) ?_
   refine AI (fun hp => (AI hp hp)) ?_
   refine AI (fun hc => (bqt hc)) ?_
   refine AI (fun hp => hp) ?_
   obtain ⟨v2, h4, h⟩ := bind_some h
   refine Or.inl (EX (.bool v2) (AI (fun hp => AI hp (PFn.call (zs7 (yb hp h4)) (AI (VS rfl) TT) (AI rfl (AI rfl rfl)))) ?_))
   refine AI (fun hp => hp) ?_
   refine AI (fun hc => (bqt hc)) ?_
   refine LWp.sim ?_ (z0d hrec2 h)
   exact xx (M := [((3, 0), (3, 0))]) rfl (SP rfl (AI (VS rfl) TT)) (AI (AI rfl (OL rfl)) TT)
  ·have h := q9 h3 h
   refine zw ?_
   refine AI (fun hp => hp) ?_
   refine AI (fun hp => hp) ?_
   refine AI (fun hp => hp) ?_
   refine AI (fun hc => (bqt hc)) ?_
   refine LWp.sim ?_ (z0d hrec2 h)
   exact xx (M := [((3, 0), (3, 0))]) rfl (SP rfl (AI (VS rfl) TT)) (AI (AI rfl (OL rfl)) TT)
theorem zcp {rec2 : GJ → Option Int} (hrec2 : Hr2 rec2) {a0 : GJ} {m : Option Nat} {o : Int} (h : zy rec2 m a0 = some o) : ACalls Tryd.prog 21 [.agg (z6 a0)] [] 3 (wt 3 (i6 o) []) := X7 (L := zgi) zi3 zj1 (NB rfl) (za1 hrec2 h)
noncomputable def yn (m : Option Nat) : Nat → GJ → Option Int
 | 0 => fun _ => none
 | k + 1 => zy (yn m k) m
noncomputable def jn (m : Option Nat) (a0 : GJ) : Option Int := zdm m (fun k => yn m k a0)
theorem z4w {m : Option Nat} : ∀ (k : Nat) {a0 : GJ} {o : Int}, yn m k a0 = some o → ACalls Tryd.prog 21 [.agg (z6 a0)] [] 3 (wt 3 (i6 o) [])
 | 0, _, _, h => nomatch h
 | k + 1, _, _, h => zcp (fun h => z4w k h) h
theorem zjn {a0 : GJ} {m : Option Nat} {o : Int} (h : jn m a0 = some o) : ACalls Tryd.prog 21 [.agg (z6 a0)] [] 3 (wt 3 (i6 o) []) := (Z4 h).elim fun k h => z4w k h
noncomputable def wq (m : Option Nat) (a0 : GJ) : Option Int := zy (jn m) m a0
theorem zrv {a0 : GJ} {m : Option Nat} {o : Int} (h : wq m a0 = some o) : PFn Tryd.prog 21 [.agg (z6 a0)] (i6 o) :=
 ⟨rfl, _, Q5 (k := 3) (m := 0) (L' := []) (rest := []) (R' := i6 o) [] (zcp zjn h) rfl rfl rfl (AI (VS rfl) TT) TT (we _ rfl) TT rfl ⟨rfl, rfl, rfl⟩⟩
def zri : LCode := (.seq (.region [Qo 1 (.box (.t 0)),
 Qi 2 0])
 (.seq (.seq (.region [Qt 6 5 1,
  Qc 7 20 6,
  Qm 5 7,
  Qo 8 (.ext 0 (.t 5)),
  Qo 9 (.ext 1 (.t 5)),
  Qm 3 8,
  Qm 4 9])
 (.seq (.region [Qm 10 3,
  Qo 11 (.bin .gtr (.t 10) (.c (i6 400))),
  Qm 12 11,
  Qn 13 4 (12, false),
  Qg 14 (.bin .gtr (.t 13) (.c (i6 20))) (12, false),
  Qo 15 (.pick (.t 12) (.c (.bool true)) (.t 14))])
 (.cond (.t 15)
  (.seq (.region [Qi 2 2])
  .ret)
  .skip)))
 (.seq (.region [Qt 16 5 1,
  Qc 17 21 16,
  Qm 2 17])
 .ret)))
def zn4 : Lay := ⟨18, [], false⟩
def zo2 : List LRes := [.t 2]
def zvf : LFn := ⟨1, zn4, zri, zo2⟩
theorem zrs : kb Tryd.prog [] 8 = some zvf := by kernel_rfl
theorem zrr : Yh Tryd.prog 8 := ⟨_, Tryd.func8, rfl, rfl⟩
noncomputable def qh (m : Option Nat) (a0 : GJ) : Option Int :=
 (vj m a0).bind fun v1 =>
 if ((decide (v1.1 > 400)) || (decide (v1.2 > 20))) = true then
  some 2
 else
  (wq m a0).bind fun v2 =>
  some v2
def zvq (a0 : GJ) (o : Int) : Exit → Env → AHeap → Nat → Prop := Jo zo2 (kc (i6 o))
theorem zms {a0 : GJ} {m : Option Nat} {o : Int} (h : qh m a0 = some o) : LWp Tryd.prog zn4 0 zri (zvq a0 o) (xb 0 [.agg (z6 a0)]) [] 0 := by
 unfold qh at h
 refine zn (zw ?_)
 refine zn ?_
 refine zn (zw ?_)
 obtain ⟨v1, h1, h⟩ := bind_some h
 refine PFn.call (zs2 h1) (AI (VS rfl) TT) ?_
 refine LWp.sim (e := [(1, .ptr (0, 0) 0 0), (3, i6 v1.1), (4, i6 v1.2)]) (L := [((0, 0), .one (z6 a0))]) (n := 1) ?_ ?_
 ·exact xx (M := [((0, 0), (0, 0))]) rfl (SP rfl (S2 rfl rfl TT)) (AI (AI rfl (OL rfl)) TT)
 refine zn (zw ?_)
 refine AI (fun hp => hp) ?_
 refine AI (fun hc => (bqf hc)) ?_
 refine j6 (v := ((decide (v1.1 > 400)) || (decide (v1.2 > 20)))) rfl TT (fun h2 => ?_) (fun h2 => ?_)
 ·have h := yb h2 h
  refine zn (zw ?_)
  refine uf ?_
  cases h
  exact AI TT (AI rfl (VS rfl))
 ·have h := q9 h2 h
  refine js ?_
  refine zn (zw ?_)
  obtain ⟨v2, h3, h⟩ := bind_some h
  refine PFn.call (zrv h3) (AI (VS rfl) TT) ?_
  refine LWp.sim (e := [(2, i6 v2)]) (L := []) (n := 0) ?_ ?_
  ·exact xx (M := []) rfl (AI (VS rfl) TT) TT
  refine uf ?_
  cases h
  exact AI TT (AI rfl (VS rfl))
theorem zsb {a0 : GJ} {m : Option Nat} {o : Int} (h : qh m a0 = some o) : PFn Tryd.prog 8 [.agg (z6 a0)] (i6 o) := PFn.ofFnW (L := zvf) zrs zrr (NB rfl) rfl (zms h)
def zjh : LCode := (.seq (.region [Qo 15 (.bin .lss (.t 14) (.t 13))])
 (.seq (.cond (.t 15)
  .skip
  (.exit 0))
 (.seq (.block 1
  (.seq (.region [Qm 16 14,
   Qo 17 (.iaddr 1 (.t 12) (.t 14)),
   Ql 18 1 17,
   Qm 5 16,
   Qm 6 18])
  (.seq (.region [Qm 19 6,
   Qm 20 1,
   Qm 21 5,
   Qo 22 (.iaddr 1 (.t 20) (.t 21)),
   Ql 23 1 22,
   Qo 24 (.bin .neq (.t 19) (.t 23))])
  (.cond (.t 24)
   (.seq (.region [Qb 4])
   .ret)
   .skip))))
 (.region [Qo 25 (.bin .add (.t 14) (.c (i6 1))),
  Qm 14 25]))))
def zbz : LCode := (.seq (.region [Qo 4 (.mv (.c (.bool true)))])
 .ret)
def zn9 : LCode := (.seq (.region [Qb 4])
 (.seq (.seq (.region [Qm 7 0,
  Qo 8 (.len false (.t 7)),
  Qm 9 1,
  Qo 10 (.len false (.t 9)),
  Qo 11 (.bin .neq (.t 8) (.t 10))])
 (.cond (.t 11)
  (.seq (.region [Qb 4])
  .ret)
  .skip))
 (.seq (.seq (.region [Qm 12 0,
  Qo 13 (.len false (.t 12)),
  Qi 14 0])
 (.block 0
  (.loop
   zjh)))
 zbz)))
def Jq : Lay := ⟨26, [], false⟩
def zeo : List LRes := [.t 4]
def zsr : LFn := ⟨2, Jq, zn9, zeo⟩
theorem zoz : kb Tryd.prog [] 32 = some zsr := by kernel_rfl
theorem zqx : Yh Tryd.prog 32 := ⟨_, Tryd.func32, rfl, rfl⟩
def zma (a0 : List (List UInt8)) (a1 : List (List UInt8)) (o : Bool) : Exit → Env → AHeap → Nat → Prop := Jo zeo (kc (.bool o))
def z2j (a0 : List (List UInt8)) (a1 : List (List UInt8)) (s : Int) : Env := [(1, .isl 1 (a1.map z7) false), (12, .isl 1 (a0.map z7) false), (13, i6 ((a0.map z7).length : Int)), (14, i6 s)]
def z4r (a0 : List (List UInt8)) (a1 : List (List UInt8)) (s : Int) : AHeap := []
def zat (a0 : List (List UInt8)) (a1 : List (List UInt8)) (o : Bool) : Exit → Env → AHeap → Nat → Prop := (x6 0 (Y4 Tryd.prog Jq 0 zbz (zma a0 a1 o)))
noncomputable def jo (m : Option Nat) : Option Bool :=
 some true
noncomputable def zk (m : Option Nat) (a0 : List (List UInt8)) (a1 : List (List UInt8)) (v1 : Int) : Option (Int ⊕ Bool) :=
 if (decide (v1 < ((a0.map z7).length : Int))) = true then
  if (0 : Int) ≤ v1 ∧ v1 < ((a0.map z7).length : Int) then
  if (0 : Int) ≤ v1 ∧ v1 < ((a1.map z7).length : Int) then
  if (!((a0.getD v1.toNat default) == (a1.getD v1.toNat default))) = true then
   Option.map Sum.inr (
    some false)
  else
   some (.inl (W (v1 + 1)))
  else none
  else none
 else
  Option.map Sum.inr (
   jo m)
noncomputable def zu (m : Option Nat) (a0 : List (List UInt8)) (a1 : List (List UInt8)) (v1 : Int) : Option Bool := uq m (fun (s : Int) => zk m a0 a1 s) v1
theorem zeq {a0 : List (List UInt8)} {a1 : List (List UInt8)} {m : Option Nat} {o : Bool} (h : jo m = some o) :
 LWp Tryd.prog Jq 0 zbz (zma a0 a1 o) [] [] 0 := by
 unfold jo at h
 refine zn (zw ?_)
 refine uf ?_
 cases h
 exact AI TT (AI rfl (VS rfl))
theorem ze2 {a0 : List (List UInt8)} {a1 : List (List UInt8)} {v1 : Int} {m : Option Nat} {o : Int ⊕ Bool} (h : zk m a0 a1 v1 = some o) :
 LWp Tryd.prog Jq 0 zjh (ko 0 0 (z2j a0 a1) (z4r a0 a1) (zat a0 a1) o) [(1, .isl 1 (a1.map z7) false), (12, .isl 1 (a0.map z7) false), (13, i6 ((a0.map z7).length : Int)), (14, i6 v1)] [] 0 := by
 unfold zk at h
 refine zn (zw ?_)
 refine zn ?_
 refine j6 (v := (decide (v1 < ((a0.map z7).length : Int)))) rfl TT (fun h10 => ?_) (fun h10 => ?_)
 ·have h := yb h10 h
  refine js ?_
  refine zn ?_
  refine j4 ?_
  refine zn (zw ?_)
  obtain ⟨h11, h⟩ := yh h
  refine AI h11 ?_
  refine EX (z7 (a0.getD v1.toNat default)) (AI (vz z7 _ _ (jq z7 h11)) (AI (AI (w7 h11) (NB rfl)) ?_))
  refine zn (zw ?_)
  obtain ⟨h12, h⟩ := yh h
  refine AI h12 ?_
  refine EX (z7 (a1.getD v1.toNat default)) (AI (vz z7 _ _ (jq z7 h12)) (AI (AI (w7 h12) (NB rfl)) ?_))
  refine LWp.sim (e := [(1, .isl 1 (a1.map z7) false), (12, .isl 1 (a0.map z7) false), (13, i6 ((a0.map z7).length : Int)), (14, i6 v1), (24, .bool (!((a0.getD v1.toNat default) == (a1.getD v1.toNat default))))]) (L := []) (n := 0) ?_ ?_
  ·exact xx (M := []) rfl (S4 rfl rfl rfl rfl (AI (VS rfl) TT)) TT
  refine j6 (v := (!((a0.getD v1.toNat default) == (a1.getD v1.toNat default)))) rfl TT (fun h13 => ?_) (fun h13 => ?_)
  ·have h := yb h13 h
   refine zn (zw ?_)
   refine uf ?_
   obtain ⟨o, hq, rfl⟩ := Option.map_eq_some_iff.1 h
   replace h := hq; clear hq
   refine AI nofun ?_
   cases h
   exact AI TT (AI rfl (VS rfl))
  ·have h := q9 h13 h
   refine js ?_
   refine zw ?_
   cases h
   exact AI rfl (xx (M := []) rfl (S4 rfl rfl rfl rfl TT) TT)
 ·have h := q9 h10 h
  refine Yx ?_
  obtain ⟨o, hq, rfl⟩ := Option.map_eq_some_iff.1 h
  replace h := hq; clear hq
  refine AI nofun ?_
  refine LWp.sim ?_ (zeq h)
  exact xx (M := []) rfl TT TT
theorem zfh {a0 : List (List UInt8)} {a1 : List (List UInt8)} {v1 : Int} {m : Option Nat} {o : Bool} (h : zu m a0 a1 v1 = some o) :
 LWp Tryd.prog Jq 0 (.loop zjh) (x6 0 (Y4 Tryd.prog Jq 0 zbz (zma a0 a1 o))) [(1, .isl 1 (a1.map z7) false), (12, .isl 1 (a0.map z7) false), (13, i6 ((a0.map z7).length : Int)), (14, i6 v1)] [] 0 :=
 ji (m := m) (s := (v1 : Int)) (r := o) (fun (s : Int) => zk m a0 a1 s) (z2j a0 a1) (z4r a0 a1) (zat a0 a1) (fun s o h => ze2 h) h
noncomputable def yf (m : Option Nat) (a0 : List (List UInt8)) (a1 : List (List UInt8)) : Option Bool :=
 if (((a0.map z7).length : Int) != ((a1.map z7).length : Int)) = true then
  some false
 else
  zu m a0 a1 0
theorem zhr {a0 : List (List UInt8)} {a1 : List (List UInt8)} {m : Option Nat} {o : Bool} (h : yf m a0 a1 = some o) : LWp Tryd.prog Jq 0 zn9 (zma a0 a1 o) (xb 0 [.isl 1 (a0.map z7) false, .isl 1 (a1.map z7) false]) [] 0 := by
 unfold yf at h
 refine zn (zw ?_)
 refine zn ?_
 refine zn (zw ?_)
 refine j6 (v := (((a0.map z7).length : Int) != ((a1.map z7).length : Int))) rfl TT (fun h1 => ?_) (fun h1 => ?_)
 ·have h := yb h1 h
  refine zn (zw ?_)
  refine uf ?_
  cases h
  exact AI TT (AI rfl (VS rfl))
 ·have h := q9 h1 h
  refine js ?_
  refine zn ?_
  refine zn (zw ?_)
  refine LWp.sim (e := [(1, .isl 1 (a1.map z7) false), (12, .isl 1 (a0.map z7) false), (13, i6 ((a0.map z7).length : Int)), (14, i6 0)]) (L := []) (n := 0) ?_ ?_
  ·exact xx (M := []) rfl (S4 rfl rfl rfl rfl TT) TT
  refine j4 ?_
  refine LWp.sim ?_ (zfh h)
  exact xx (M := []) rfl (S4 rfl rfl rfl rfl TT) TT
theorem ztp {a0 : List (List UInt8)} {a1 : List (List UInt8)} {m : Option Nat} {o : Bool} (h : yf m a0 a1 = some o) : PFn Tryd.prog 32 [.isl 1 (a0.map z7) false, .isl 1 (a1.map z7) false] (.bool o) := PFn.ofFnW (L := zsr) zoz zqx (NB rfl) rfl (zhr h)
def z42 : LCode := (.seq (.seq (.region [Qm 42 5,
 Qm 43 42,
 Qn 44 6 (43, true),
 Qe 45 4 2 (43, true),
 Qk 46 1 45 (43, true),
 Qg 47 (.len false (.t 46)) (43, true),
 Qg 48 (.bin .lss (.t 44) (.t 47)) (43, true),
 Qp 49 43 48])
 (.cond (.t 49)
  .skip
  (.exit 0)))
 (.seq (.block 1
  (.draw [⟨Qf 52 4 2, []⟩,
   ⟨Ql 53 1 52, []⟩,
   ⟨Qm 54 6, []⟩,
   ⟨Qo 55 (.iaddr 5 (.t 53) (.t 54)), []⟩,
   ⟨Qt 56 5 55, []⟩,
   ⟨Qf 57 4 3, []⟩,
   ⟨Ql 58 1 57, []⟩,
   ⟨Qm 59 6, []⟩,
   ⟨Qo 60 (.iaddr 5 (.t 58) (.t 59)), []⟩,
   ⟨Qt 61 5 60, []⟩,
   ⟨Qo 62 (.call 13 [(.t 56), (.t 61)]), []⟩,
   ⟨Qm 5 62, []⟩]))
 (.region [Qm 50 6,
  Qo 51 (.bin .add (.t 50) (.c (i6 1))),
  Qm 6 51])))
def Kx : LCode := (.seq (.region [Qm 63 5,
 Qm 4 63])
 .ret)
def zbk : LCode := (.seq (.region [Qo 2 (.box (.t 0)),
 Qo 3 (.box (.t 1)),
 Qb 4])
 (.seq (.region [Qf 7 0 2,
  Ql 8 1 7,
  Qf 9 0 3,
  Ql 10 1 9,
  Qo 11 (.bin .eql (.t 8) (.t 10)),
  Qm 12 11,
  Qe 13 1 2 (12, true),
  Qk 14 1 13 (12, true),
  Qe 15 1 3 (12, true),
  Qk 16 1 15 (12, true),
  Qg 17 (.bin .eql (.t 14) (.t 16)) (12, true),
  Qp 18 12 17,
  Qm 19 18,
  Qe 20 2 2 (19, true),
  Qk 21 1 20 (19, true),
  Qe 22 2 3 (19, true),
  Qk 23 1 22 (19, true),
  Qg 24 (.bin .eql (.t 21) (.t 23)) (19, true),
  Qp 25 19 24,
  Qm 26 25,
  Qe 27 3 2 (26, true),
  Qk 28 1 27 (26, true),
  Qe 29 3 3 (26, true),
  Qk 30 1 29 (26, true),
  Qg 31 (.call 32 [(.t 28), (.t 30)]) (26, true),
  Qp 32 26 31,
  Qm 33 32,
  Qe 34 4 2 (33, true),
  Qk 35 1 34 (33, true),
  Qg 36 (.len false (.t 35)) (33, true),
  Qe 37 4 3 (33, true),
  Qk 38 1 37 (33, true),
  Qg 39 (.len false (.t 38)) (33, true),
  Qg 40 (.bin .eql (.t 36) (.t 39)) (33, true),
  Qp 41 33 40,
  Qm 5 41])
 (.seq (.seq (.region [Qi 6 0])
 (.block 0
  (.loop
   z42)))
 Kx)))
def Zr : Lay := ⟨64, [], false⟩
def z62 : List LRes := [.t 4]
def zkg : LFn := ⟨2, Zr, zbk, z62⟩
theorem zio : kb Tryd.prog [] 13 = some zkg := by kernel_rfl
theorem zgc : Yh Tryd.prog 13 := ⟨_, Tryd.func13, rfl, rfl⟩
def z48 (a0 : GJ) (a1 : GJ) (o : Bool) : Exit → Env → AHeap → Nat → Prop := Jo z62 (Jd 3 3 (.bool o) [])
def Kc (a0 : GJ) (a1 : GJ) (s : (Bool × Int)) : Env := [(2, .ptr (3, 0) 0 0), (3, .ptr (4, 0) 0 0), (5, .bool s.1), (6, i6 s.2)]
def z0f (a0 : GJ) (a1 : GJ) (s : (Bool × Int)) : AHeap := [((3, 0), .one (z6 a0)), ((4, 0), .one (z6 a1))]
def z21 (a0 : GJ) (a1 : GJ) (o : Bool) : Exit → Env → AHeap → Nat → Prop := (x6 0 (Y4 Tryd.prog Zr 3 Kx (z48 a0 a1 o)))
noncomputable def zp (rec3 : GJ → GJ → Option Bool) (m : Option Nat) (v5 : Bool) : Option Bool :=
 some v5
noncomputable def zb (rec3 : GJ → GJ → Option Bool) (m : Option Nat) (a0 : GJ) (a1 : GJ) (v5 : Bool) (v6 : Int) : Option ((Bool × Int) ⊕ Bool) :=
 if (v5 && (decide (v6 < ((a0.fE.map z8).length : Int)))) = true then
  if (0 : Int) ≤ v6 ∧ v6 < ((a0.fE.map z8).length : Int) then
  ((vg (a0.fE.getD v6.toNat default))).bind fun v10 =>
  if (0 : Int) ≤ v6 ∧ v6 < ((a1.fE.map z8).length : Int) then
  ((vg (a1.fE.getD v6.toNat default))).bind fun v11 =>
  (rec3 v10 v11).bind fun v12 =>
  some (.inl (v12, (W (v6 + 1))))
  else none
  else none
 else
  Option.map Sum.inr (
   zp rec3 m v5)
noncomputable def za (rec3 : GJ → GJ → Option Bool) (m : Option Nat) (a0 : GJ) (a1 : GJ) (v5 : Bool) (v6 : Int) : Option Bool := uq m (fun (s : (Bool × Int)) => zb rec3 m a0 a1 s.1 s.2) (v5, v6)
abbrev Hr3 (rec3 : GJ → GJ → Option Bool) : Prop := ∀ {a0 : GJ} {a1 : GJ} {o : Bool}, rec3 a0 a1 = some o → ACalls Tryd.prog 13 [.agg (z6 a0), .agg (z6 a1)] [] 3 (wt 3 (.bool o) [])
theorem z9l {rec3 : GJ → GJ → Option Bool} (hrec3 : Hr3 rec3) {a0 : GJ} {a1 : GJ} {v5 : Bool} {m : Option Nat} {o : Bool} (h : zp rec3 m v5 = some o) :
 LWp Tryd.prog Zr 3 Kx (z48 a0 a1 o) [(5, .bool v5)] [] 3 := by
 unfold zp at h
 refine zn (zw ?_)
 refine uf ?_
 cases h
 exact AI TT (z40 (n' := 3) [] [] rfl rfl (VS rfl) TT)
theorem z6b {rec3 : GJ → GJ → Option Bool} (hrec3 : Hr3 rec3) {a0 : GJ} {a1 : GJ} {v5 : Bool} {v6 : Int} {m : Option Nat} {o : (Bool × Int) ⊕ Bool} (h : zb rec3 m a0 a1 v5 v6 = some o) :
 LWp Tryd.prog Zr 3 z42 (ko 3 5 (Kc a0 a1) (z0f a0 a1) (z21 a0 a1) o) [(2, .ptr (3, 0) 0 0), (3, .ptr (4, 0) 0 0), (5, .bool v5), (6, i6 v6)] [((3, 0), .one (z6 a0)), ((4, 0), .one (z6 a1))] 5 := by
 unfold zb at h
 refine zn ?_
 refine zn (zw ?_)
 refine AI (fun hp => hp) ?_
 refine AI (fun hp => hp) ?_
 refine AI (fun hp => (AI hp hp)) ?_
 refine AI (fun hc => (bqt hc)) ?_
 refine LWp.sim (e := [(2, .ptr (3, 0) 0 0), (3, .ptr (4, 0) 0 0), (5, .bool v5), (6, i6 v6), (49, .bool (v5 && (decide (v6 < ((a0.fE.map z8).length : Int)))))]) (L := [((3, 0), .one (z6 a0)), ((4, 0), .one (z6 a1))]) (n := 5) ?_ ?_
 ·exact xx (M := [((3, 0), (3, 0)), ((4, 0), (4, 0))]) rfl (SP rfl (SP rfl (S2 rfl rfl (AI (VS rfl) TT)))) (AI (AI rfl (OL rfl)) (AI (AI rfl (OL rfl)) TT))
 refine j6 (v := (v5 && (decide (v6 < ((a0.fE.map z8).length : Int))))) rfl TT (fun h14 => ?_) (fun h14 => ?_)
 ·have h := yb h14 h
  refine js ?_
  refine zn ?_
  refine j4 ?_
  refine zt5 rfl ?_
  obtain ⟨h15, h⟩ := yh h
  refine AI h15 ?_
  obtain ⟨v10, h16, h⟩ := bind_some h
  refine EX (z6 v10) (AI (xn (jq z8 h15) h16) (AI (AI (w7 h15) (NB rfl)) ?_))
  obtain ⟨h17, h⟩ := yh h
  refine AI h17 ?_
  obtain ⟨v11, h18, h⟩ := bind_some h
  refine EX (z6 v11) (AI (xn (jq z8 h17) h18) (AI (AI (w7 h17) (NB rfl)) ?_))
  obtain ⟨v12, h19, h⟩ := bind_some h
  refine Q5 (k := 3) (m := 0) (L' := []) (rest := [((3, 0), .one (z6 a0)), ((4, 0), .one (z6 a1))]) (R' := .bool v12) [] (hrec3 h19) rfl rfl rfl (S2 rfl rfl TT) TT (we _ rfl) TT rfl ?_
  refine LWp.sim (e := [(2, .ptr (3, 0) 0 0), (3, .ptr (4, 0) 0 0), (5, .bool v12), (6, i6 v6)]) (L := [((3, 0), .one (z6 a0)), ((4, 0), .one (z6 a1))]) (n := 5) ?_ ?_
  ·exact xx (M := [((3, 0), (3, 0)), ((4, 0), (4, 0))]) rfl (SP rfl (SP rfl (S2 rfl rfl TT))) (AI (AI rfl (OL rfl)) (AI (AI rfl (OL rfl)) TT))
  refine zw ?_
  cases h
  exact AI rfl (xx (M := [((3, 0), (3, 0)), ((4, 0), (4, 0))]) rfl (SP rfl (SP rfl (S2 rfl rfl TT))) (AI (AI rfl (OL rfl)) (AI (AI rfl (OL rfl)) TT)))
 ·have h := q9 h14 h
  refine Yx ?_
  obtain ⟨o, hq, rfl⟩ := Option.map_eq_some_iff.1 h
  replace h := hq; clear hq
  refine AI nofun ?_
  refine LWp.sim ?_ (z9l hrec3 h)
  exact xx (M := []) rfl (AI (VS rfl) TT) TT
theorem z9w {rec3 : GJ → GJ → Option Bool} (hrec3 : Hr3 rec3) {a0 : GJ} {a1 : GJ} {v5 : Bool} {v6 : Int} {m : Option Nat} {o : Bool} (h : za rec3 m a0 a1 v5 v6 = some o) :
 LWp Tryd.prog Zr 3 (.loop z42) (x6 0 (Y4 Tryd.prog Zr 3 Kx (z48 a0 a1 o))) [(2, .ptr (3, 0) 0 0), (3, .ptr (4, 0) 0 0), (5, .bool v5), (6, i6 v6)] [((3, 0), .one (z6 a0)), ((4, 0), .one (z6 a1))] 5 :=
 ji (m := m) (s := ((v5, v6) : (Bool × Int))) (r := o) (fun (s : (Bool × Int)) => zb rec3 m a0 a1 s.1 s.2) (Kc a0 a1) (z0f a0 a1) (z21 a0 a1) (fun s o h => z6b hrec3 h) h
noncomputable def ze (rec3 : GJ → GJ → Option Bool) (m : Option Nat) (a0 : GJ) (a1 : GJ) : Option Bool :=
 (if ((((a0.fK == a1.fK) && (a0.fN == a1.fN)) && (a0.fT == a1.fT)) == true) = true then yf m a0.fA a1.fA else some default).bind fun v1 =>
 za rec3 m a0 a1 (((((a0.fK == a1.fK) && (a0.fN == a1.fN)) && (a0.fT == a1.fT)) && v1) && (((a0.fE.map z8).length : Int) == ((a1.fE.map z8).length : Int))) 0
theorem z9f {rec3 : GJ → GJ → Option Bool} (hrec3 : Hr3 rec3) {a0 : GJ} {a1 : GJ} {m : Option Nat} {o : Bool} (h : ze rec3 m a0 a1 = some o) : LWp Tryd.prog Zr 3 zbk (z48 a0 a1 o) (xb 0 [.agg (z6 a0), .agg (z6 a1)]) [] 3 := by
 unfold ze at h
 refine zn (zw ?_)
 refine zn (zw ?_)
 refine AI (fun hp => hp) ?_
 refine AI (fun hp => hp) ?_
 refine AI (fun hp => (AI hp hp)) ?_
 refine AI (fun hc => (bqt hc)) ?_
 refine AI (fun hp => hp) ?_
 refine AI (fun hp => hp) ?_
 refine AI (fun hp => (AI hp hp)) ?_
 refine AI (fun hc => (bqt hc)) ?_
 refine AI (fun hp => hp) ?_
 refine AI (fun hp => hp) ?_
 obtain ⟨v1, h1, h⟩ := bind_some h
 refine Or.inl (EX (.bool v1) (AI (fun hp => AI (AI hp hp) (PFn.call (ztp (yb hp h1)) (S2 rfl rfl TT) (AI rfl (AI rfl rfl)))) ?_))
 refine AI (fun hc => (bqt hc)) ?_
 refine AI (fun hp => hp) ?_
 refine AI (fun hp => hp) ?_
 refine AI (fun hp => hp) ?_
 refine AI (fun hp => hp) ?_
 refine AI (fun hp => (AI hp hp)) ?_
 refine AI (fun hc => (bqt hc)) ?_
 refine LWp.sim (e := [(2, .ptr (3, 0) 0 0), (3, .ptr (4, 0) 0 0), (5, .bool (((((a0.fK == a1.fK) && (a0.fN == a1.fN)) && (a0.fT == a1.fT)) && v1) && (((a0.fE.map z8).length : Int) == ((a1.fE.map z8).length : Int))))]) (L := [((3, 0), .one (z6 a0)), ((4, 0), .one (z6 a1))]) (n := 5) ?_ ?_
 ·exact xx (M := [((3, 0), (3, 0)), ((4, 0), (4, 0))]) rfl (SP rfl (SP rfl (AI (VS rfl) TT))) (AI (AI rfl (OL rfl)) (AI (AI rfl (OL rfl)) TT))
 refine zn ?_
 refine zn (zw ?_)
 refine j4 ?_
 refine LWp.sim ?_ (z9w hrec3 h)
 exact xx (M := [((3, 0), (3, 0)), ((4, 0), (4, 0))]) rfl (SP rfl (SP rfl (S2 rfl rfl TT))) (AI (AI rfl (OL rfl)) (AI (AI rfl (OL rfl)) TT))
theorem zbr {rec3 : GJ → GJ → Option Bool} (hrec3 : Hr3 rec3) {a0 : GJ} {a1 : GJ} {m : Option Nat} {o : Bool} (h : ze rec3 m a0 a1 = some o) : ACalls Tryd.prog 13 [.agg (z6 a0), .agg (z6 a1)] [] 3 (wt 3 (.bool o) []) := X7 (L := zkg) zio zgc (NB rfl) (z9f hrec3 h)
noncomputable def zj (m : Option Nat) : Nat → GJ → GJ → Option Bool
 | 0 => fun _ _ => none
 | k + 1 => ze (zj m k) m
noncomputable def ya (m : Option Nat) (a0 : GJ) (a1 : GJ) : Option Bool := zdm m (fun k => zj m k a0 a1)
theorem z71 {m : Option Nat} : ∀ (k : Nat) {a0 : GJ} {a1 : GJ} {o : Bool}, zj m k a0 a1 = some o → ACalls Tryd.prog 13 [.agg (z6 a0), .agg (z6 a1)] [] 3 (wt 3 (.bool o) [])
 | 0, _, _, _, h => nomatch h
 | k + 1, _, _, _, h => zbr (fun h => z71 k h) h
theorem z7n {a0 : GJ} {a1 : GJ} {m : Option Nat} {o : Bool} (h : ya m a0 a1 = some o) : ACalls Tryd.prog 13 [.agg (z6 a0), .agg (z6 a1)] [] 3 (wt 3 (.bool o) []) := (Z4 h).elim fun k h => z71 k h
noncomputable def jy (m : Option Nat) (a0 : GJ) (a1 : GJ) : Option Bool := ze (ya m) m a0 a1
theorem zrx {a0 : GJ} {a1 : GJ} {m : Option Nat} {o : Bool} (h : jy m a0 a1 = some o) : PFn Tryd.prog 13 [.agg (z6 a0), .agg (z6 a1)] (.bool o) :=
 ⟨rfl, _, Q5 (k := 3) (m := 0) (L' := []) (rest := []) (R' := .bool o) [] (zbr z7n h) rfl rfl rfl (S2 rfl rfl TT) TT (we _ rfl) TT rfl ⟨rfl, rfl, rfl⟩⟩
def z3q : LCode := (.seq (.region [Qo 26 (.bin .lss (.t 25) (.t 24))])
 (.seq (.cond (.t 26)
  .skip
  (.exit 0))
 (.seq (.block 1
  (.seq (.region [Qo 27 (.iaddr 5 (.t 23) (.t 25)),
   Qt 28 5 27,
   Qo 8 (.alloc [(i6 0), (i6 0), (.str []), (.isl 1 [] true), (.isl 5 [] true)]),
   ⟨none, .store 5 (.t 8) (.t 28), none⟩])
  (.seq (.region [Qt 29 5 8,
   Qm 30 1,
   Qo 31 (.bin .add (.t 30) (.c (i6 1))),
   Qm 32 2,
   Qo 33 (.call 22 [(.t 29), (.t 31), (.t 32)]),
   Qo 34 (.un .not (.t 33))])
  (.cond (.t 34)
   (.seq (.region [Qb 6])
   .ret)
   .skip))))
 (.region [Qo 35 (.bin .add (.t 25) (.c (i6 1))),
  Qm 25 35]))))
def Kn : LCode := (.seq (.region [Qo 6 (.mv (.c (.bool true)))])
 .ret)
def zaa : LCode := (.seq (.region [Qo 3 (.box (.t 0)),
 Qb 6])
 (.seq (.region [Qm 9 2,
  Qo 10 (.nilck (.t 9)),
  Ql 11 1 10,
  Qo 12 (.bin .add (.t 11) (.c (i6 1))),
  Qo 13 (.nilck (.t 9)),
  ⟨none, .store 1 (.t 13) (.t 12), none⟩])
 (.seq (.seq (.region [Qm 14 2,
  Qo 15 (.nilck (.t 14)),
  Ql 16 1 15,
  Qo 17 (.bin .gtr (.t 16) (.c (i6 400))),
  Qm 18 17,
  Qn 19 1 (18, false),
  Qg 20 (.bin .gtr (.t 19) (.c (i6 20))) (18, false),
  Qo 21 (.pick (.t 18) (.c (.bool true)) (.t 20))])
 (.cond (.t 21)
  (.seq (.region [Qb 6])
  .ret)
  .skip))
 (.seq (.seq (.region [Qf 22 4 3,
  Ql 23 1 22,
  Qo 24 (.len false (.t 23)),
  Qi 25 0])
 (.block 0
  (.loop
   z3q)))
 Kn))))
def Zj : Lay := ⟨36, [], false⟩
def z78 : List LRes := [.t 6]
def zh5 : LFn := ⟨3, Zj, zaa, z78⟩
theorem zj6 : kb Tryd.prog [] 22 = some zh5 := by kernel_rfl
theorem zh2 : Yh Tryd.prog 22 := ⟨_, Tryd.func22, rfl, rfl⟩
def z3w (a0 : GJ) (a1 : Int) (a2 : Int) (o : Bool × Int) : Exit → Env → AHeap → Nat → Prop := Jo z78 (Jd 3 3 (.bool o.1) [((0, 0), .one [i6 o.2])])
def Vx (a0 : GJ) (a1 : Int) (s : (Int × Int)) : Env := [(1, i6 a1), (2, .ptr (0, 0) 0 0), (23, .isl 5 (a0.fE.map z8) false), (24, i6 ((a0.fE.map z8).length : Int)), (25, i6 s.2)]
def U9 (a0 : GJ) (a1 : Int) (s : (Int × Int)) : AHeap := [((0, 0), .one [i6 s.1])]
def z19 (a0 : GJ) (a1 : Int) (a2 : Int) (o : (Bool × Int)) : Exit → Env → AHeap → Nat → Prop := (x6 0 (Y4 Tryd.prog Zj 3 Kn (z3w a0 a1 a2 o)))
noncomputable def jt (rec4 : GJ → Int → Int → Option (Bool × Int)) (m : Option Nat) (v3 : Int) : Option (Bool × Int) :=
 some (true, v3)
noncomputable def yi (rec4 : GJ → Int → Int → Option (Bool × Int)) (m : Option Nat) (a0 : GJ) (a1 : Int) (v3 : Int) (v4 : Int) : Option ((Int × Int) ⊕ (Bool × Int)) :=
 if (decide (v4 < ((a0.fE.map z8).length : Int))) = true then
  if (0 : Int) ≤ v4 ∧ v4 < ((a0.fE.map z8).length : Int) then
  ((vg (a0.fE.getD v4.toNat default))).bind fun v7 =>
  (rec4 v7 (W (a1 + 1)) v3).bind fun v8 =>
  if (!v8.1) = true then
   Option.map Sum.inr (
    some (false, v8.2))
  else
   some (.inl (v8.2, (W (v4 + 1))))
  else none
 else
  Option.map Sum.inr (
   jt rec4 m v3)
noncomputable def q7 (rec4 : GJ → Int → Int → Option (Bool × Int)) (m : Option Nat) (a0 : GJ) (a1 : Int) (v3 : Int) (v4 : Int) : Option (Bool × Int) := uq m (fun (s : (Int × Int)) => yi rec4 m a0 a1 s.1 s.2) (v3, v4)
abbrev Hr4 (rec4 : GJ → Int → Int → Option (Bool × Int)) : Prop := ∀ {a0 : GJ} {a1 : Int} {a2 : Int} {o : Bool × Int}, rec4 a0 a1 a2 = some o → ACalls Tryd.prog 22 [.agg (z6 a0), i6 a1, .ptr (0, 0) 0 0] [((0, 0), .one [i6 a2])] 3 (wt 3 (.bool o.1) [((0, 0), .one [i6 o.2])])
theorem za6 {rec4 : GJ → Int → Int → Option (Bool × Int)} (hrec4 : Hr4 rec4) {a0 : GJ} {a1 : Int} {a2 : Int} {v3 : Int} {m : Option Nat} {o : (Bool × Int)} (h : jt rec4 m v3 = some o) :
 LWp Tryd.prog Zj 3 Kn (z3w a0 a1 a2 o) [] [((0, 0), .one [i6 v3])] 3 := by
 unfold jt at h
 refine zn (zw ?_)
 refine uf ?_
 cases h
 exact AI TT (z40 (n' := 3) [] [] rfl rfl (VS rfl) (AI (AI rfl (OL rfl)) TT))
theorem z52 {rec4 : GJ → Int → Int → Option (Bool × Int)} (hrec4 : Hr4 rec4) {a2 : Int} {a0 : GJ} {a1 : Int} {v3 : Int} {v4 : Int} {m : Option Nat} {o : (Int × Int) ⊕ (Bool × Int)} (h : yi rec4 m a0 a1 v3 v4 = some o) :
 LWp Tryd.prog Zj 3 z3q (ko 3 3 (Vx a0 a1) (U9 a0 a1) (z19 a0 a1 a2) o) [(1, i6 a1), (2, .ptr (0, 0) 0 0), (23, .isl 5 (a0.fE.map z8) false), (24, i6 ((a0.fE.map z8).length : Int)), (25, i6 v4)] [((0, 0), .one [i6 v3])] 3 := by
 unfold yi at h
 refine zn (zw ?_)
 refine zn ?_
 refine j6 (v := (decide (v4 < ((a0.fE.map z8).length : Int)))) rfl TT (fun h12 => ?_) (fun h12 => ?_)
 ·have h := yb h12 h
  refine js ?_
  refine zn ?_
  refine j4 ?_
  refine zn (zw ?_)
  obtain ⟨h13, h⟩ := yh h
  refine AI h13 ?_
  obtain ⟨v7, h14, h⟩ := bind_some h
  refine EX (z6 v7) (AI (xn (jq z8 h13) h14) (AI (AI (w7 h13) (NB rfl)) ?_))
  refine zn (zw ?_)
  obtain ⟨v8, h15, h⟩ := bind_some h
  refine Q5 (k := 3) (m := 0) (L' := [((0, 0), .one [i6 v8.2])]) (rest := [((3, 0), .one (z6 v7))]) (R' := .bool v8.1) [((0, 0), (0, 0))] (hrec4 h15) rfl rfl rfl (S2 rfl rfl (SP rfl TT)) (AI (h0I (0, 0) rfl rfl (OL rfl)) TT) (we _ rfl) (AI rfl (AI rfl TT)) rfl ?_
  refine LWp.sim (e := [(1, i6 a1), (2, .ptr (0, 0) 0 0), (23, .isl 5 (a0.fE.map z8) false), (24, i6 ((a0.fE.map z8).length : Int)), (25, i6 v4), (34, .bool (!v8.1))]) (L := [((0, 0), .one [i6 v8.2])]) (n := 3) ?_ ?_
  ·exact xx (M := []) rfl (AI (VS rfl) (SP rfl (S4 rfl rfl rfl rfl TT))) (AI (AI rfl (OL rfl)) TT)
  refine j6 (v := (!v8.1)) rfl TT (fun h16 => ?_) (fun h16 => ?_)
  ·have h := yb h16 h
   refine zn (zw ?_)
   refine uf ?_
   obtain ⟨o, hq, rfl⟩ := Option.map_eq_some_iff.1 h
   replace h := hq; clear hq
   refine AI nofun ?_
   cases h
   exact AI TT (z40 (n' := 3) [] [] rfl rfl (VS rfl) (AI (AI rfl (OL rfl)) TT))
  ·have h := q9 h16 h
   refine js ?_
   refine zw ?_
   cases h
   exact AI rfl (xx (M := []) rfl (AI (VS rfl) (SP rfl (S2 rfl rfl (AI (VS rfl) TT)))) (AI (AI rfl (OL rfl)) TT))
 ·have h := q9 h12 h
  refine Yx ?_
  obtain ⟨o, hq, rfl⟩ := Option.map_eq_some_iff.1 h
  replace h := hq; clear hq
  refine AI nofun ?_
  refine LWp.sim ?_ (za6 hrec4 h)
  exact xx (M := []) rfl TT (AI (AI rfl (OL rfl)) TT)
theorem za3 {rec4 : GJ → Int → Int → Option (Bool × Int)} (hrec4 : Hr4 rec4) {a2 : Int} {a0 : GJ} {a1 : Int} {v3 : Int} {v4 : Int} {m : Option Nat} {o : (Bool × Int)} (h : q7 rec4 m a0 a1 v3 v4 = some o) :
 LWp Tryd.prog Zj 3 (.loop z3q) (x6 0 (Y4 Tryd.prog Zj 3 Kn (z3w a0 a1 a2 o))) [(1, i6 a1), (2, .ptr (0, 0) 0 0), (23, .isl 5 (a0.fE.map z8) false), (24, i6 ((a0.fE.map z8).length : Int)), (25, i6 v4)] [((0, 0), .one [i6 v3])] 3 :=
 ji (m := m) (s := ((v3, v4) : (Int × Int))) (r := o) (fun (s : (Int × Int)) => yi rec4 m a0 a1 s.1 s.2) (Vx a0 a1) (U9 a0 a1) (z19 a0 a1 a2) (fun s o h => z52 hrec4 h) h
noncomputable def xk (rec4 : GJ → Int → Int → Option (Bool × Int)) (m : Option Nat) (a0 : GJ) (a1 : Int) (a2 : Int) : Option (Bool × Int) :=
 if ((decide ((W (a2 + 1)) > 400)) || (decide (a1 > 20))) = true then
  some (false, (W (a2 + 1)))
 else
  q7 rec4 m a0 a1 (W (a2 + 1)) 0
theorem za0 {rec4 : GJ → Int → Int → Option (Bool × Int)} (hrec4 : Hr4 rec4) {a0 : GJ} {a1 : Int} {a2 : Int} {m : Option Nat} {o : Bool × Int} (h : xk rec4 m a0 a1 a2 = some o) : LWp Tryd.prog Zj 3 zaa (z3w a0 a1 a2 o) (xb 0 [.agg (z6 a0), i6 a1, .ptr (0, 0) 0 0]) [((0, 0), .one [i6 a2])] 3 := by
 unfold xk at h
 refine zn (zw ?_)
 refine zn (zw ?_)
 refine LWp.sim (e := [(1, i6 a1), (2, .ptr (0, 0) 0 0), (3, .ptr (3, 0) 0 0)]) (L := [((0, 0), .one [i6 (W (a2 + 1))]), ((3, 0), .one (z6 a0))]) (n := 4) ?_ ?_
 ·exact xx (M := [((3, 0), (3, 0))]) rfl (AI (VS rfl) (SP rfl (SP rfl TT))) (AI (AI rfl (OL rfl)) (AI (AI rfl (OL rfl)) TT))
 refine zn ?_
 refine zn (zw ?_)
 refine AI (fun hp => hp) ?_
 refine AI (fun hc => (bqf hc)) ?_
 refine LWp.sim (e := [(1, i6 a1), (2, .ptr (0, 0) 0 0), (3, .ptr (3, 0) 0 0), (21, .bool ((decide ((W (a2 + 1)) > 400)) || (decide (a1 > 20))))]) (L := [((0, 0), .one [i6 (W (a2 + 1))]), ((3, 0), .one (z6 a0))]) (n := 4) ?_ ?_
 ·exact xx (M := [((3, 0), (3, 0))]) rfl (AI (VS rfl) (SP rfl (SP rfl (AI (VS rfl) TT)))) (AI (AI rfl (OL rfl)) (AI (AI rfl (OL rfl)) TT))
 refine j6 (v := ((decide ((W (a2 + 1)) > 400)) || (decide (a1 > 20)))) rfl TT (fun h1 => ?_) (fun h1 => ?_)
 ·have h := yb h1 h
  refine zn (zw ?_)
  refine uf ?_
  cases h
  exact AI TT (z40 (n' := 4) [] [] rfl rfl (VS rfl) (AI (AI rfl (OL rfl)) TT))
 ·have h := q9 h1 h
  refine js ?_
  refine zn ?_
  refine zn (zw ?_)
  refine j4 ?_
  refine LWp.sim ?_ (za3 hrec4 h)
  exact xx (M := []) rfl (AI (VS rfl) (SP rfl (S2 rfl rfl (AI (VS rfl) TT)))) (AI (AI rfl (OL rfl)) TT)
theorem zld {rec4 : GJ → Int → Int → Option (Bool × Int)} (hrec4 : Hr4 rec4) {a0 : GJ} {a1 : Int} {a2 : Int} {m : Option Nat} {o : Bool × Int} (h : xk rec4 m a0 a1 a2 = some o) : ACalls Tryd.prog 22 [.agg (z6 a0), i6 a1, .ptr (0, 0) 0 0] [((0, 0), .one [i6 a2])] 3 (wt 3 (.bool o.1) [((0, 0), .one [i6 o.2])]) := X7 (L := zh5) zj6 zh2 (NB rfl) (za0 hrec4 h)
noncomputable def yl (m : Option Nat) : Nat → GJ → Int → Int → Option (Bool × Int)
 | 0 => fun _ _ _ => none
 | k + 1 => xk (yl m k) m
noncomputable def jx (m : Option Nat) (a0 : GJ) (a1 : Int) (a2 : Int) : Option (Bool × Int) := zdm m (fun k => yl m k a0 a1 a2)
theorem z7s {m : Option Nat} : ∀ (k : Nat) {a0 : GJ} {a1 : Int} {a2 : Int} {o : Bool × Int}, yl m k a0 a1 a2 = some o → ACalls Tryd.prog 22 [.agg (z6 a0), i6 a1, .ptr (0, 0) 0 0] [((0, 0), .one [i6 a2])] 3 (wt 3 (.bool o.1) [((0, 0), .one [i6 o.2])])
 | 0, _, _, _, _, h => nomatch h
 | k + 1, _, _, _, _, h => zld (fun h => z7s k h) h
theorem zgm {a0 : GJ} {a1 : Int} {a2 : Int} {m : Option Nat} {o : Bool × Int} (h : jx m a0 a1 a2 = some o) : ACalls Tryd.prog 22 [.agg (z6 a0), i6 a1, .ptr (0, 0) 0 0] [((0, 0), .one [i6 a2])] 3 (wt 3 (.bool o.1) [((0, 0), .one [i6 o.2])]) := (Z4 h).elim fun k h => z7s k h
def zjt : LCode := (.seq (.region [Qo 10 (.bin .lss (.t 9) (.t 8))])
 (.seq (.cond (.t 10)
  .skip
  (.exit 0))
 (.seq (.block 1
  (.seq (.region [Qo 11 (.iaddr 1 (.t 7) (.t 9)),
   Ql 12 1 11,
   Qm 5 12])
  (.seq (.seq (.region [Qm 13 3,
   Qm 14 5,
   Qo 15 (.mlook [.str] false false false [(i6 0)] (.t 13) (.t 14)),
   Qo 16 (.bin .neq (.t 15) (.c (i6 0)))])
  (.cond (.t 16)
   (.seq (.region [Qo 2 (.mv (.c (.bool true)))])
   .ret)
   .skip))
  (.region [Qm 17 3,
   Qm 18 5,
   ⟨none, .mset [.str] false false [(i6 0)] (.t 17) (.t 18) (.c (i6 1)), none⟩]))))
 (.region [Qo 19 (.bin .add (.t 9) (.c (i6 1))),
  Qm 9 19]))))
def zc5 : LCode := (.seq (.region [Qb 2])
 .ret)
def zn2 : LCode := (.seq (.region [Qb 2])
 (.seq (.region [Qo 6 (.mkmap none),
  Qm 3 6])
 (.seq (.seq (.region [Qm 7 0,
  Qo 8 (.len false (.t 7)),
  Qi 9 0])
 (.block 0
  (.loop
   zjt)))
 zc5)))
def Ja : Lay := ⟨20, [], false⟩
def zgy : List LRes := [.t 2]
def zts : LFn := ⟨1, Ja, zn2, zgy⟩
theorem zq1 : kb Tryd.prog [] 63 = some zts := by kernel_rfl
theorem zpy : Yh Tryd.prog 63 := ⟨_, Tryd.func63, rfl, rfl⟩
def zlr (a0 : List (List UInt8)) (o : Bool) : Exit → Env → AHeap → Nat → Prop := Jo zgy (kc (.bool o))
def z2d (a0 : List (List UInt8)) (s : (Int × (List ((List UInt8) × Int)))) : Env := [(3, .map (0, 0)), (7, .isl 1 (a0.map z7) false), (8, i6 ((a0.map z7).length : Int)), (9, i6 s.1)]
def z7h (a0 : List (List UInt8)) (s : (Int × (List ((List UInt8) × Int)))) : AHeap := [((0, 0), .amap (s.2.map (em W4 Kh)))]
def zc2 (a0 : List (List UInt8)) (o : Bool) : Exit → Env → AHeap → Nat → Prop := (x6 0 (Y4 Tryd.prog Ja 0 zc5 (zlr a0 o)))
noncomputable def wh (m : Option Nat) : Option Bool :=
 some false
noncomputable def qc (m : Option Nat) (a0 : List (List UInt8)) (v1 : Int) (v2 : List ((List UInt8) × Int)) : Option ((Int × (List ((List UInt8) × Int))) ⊕ Bool) :=
 if (decide (v1 < ((a0.map z7).length : Int))) = true then
  if (0 : Int) ≤ v1 ∧ v1 < ((a0.map z7).length : Int) then
  if (((lk Xh v2 (a0.getD v1.toNat default)).getD 0) != 0) = true then
   Option.map Sum.inr (
    some true)
  else
   some (.inl ((W (v1 + 1)), (mp Xh v2 (a0.getD v1.toNat default) 1)))
  else none
 else
  Option.map Sum.inr (
   wh m)
noncomputable def xw (m : Option Nat) (a0 : List (List UInt8)) (v1 : Int) (v2 : List ((List UInt8) × Int)) : Option Bool := uq m (fun (s : (Int × (List ((List UInt8) × Int)))) => qc m a0 s.1 s.2) (v1, v2)
theorem zfn {a0 : List (List UInt8)} {m : Option Nat} {o : Bool} (h : wh m = some o) :
 LWp Tryd.prog Ja 0 zc5 (zlr a0 o) [] [] 0 := by
 unfold wh at h
 refine zn (zw ?_)
 refine uf ?_
 cases h
 exact AI TT (AI rfl (VS rfl))
theorem zdy {a0 : List (List UInt8)} {v1 : Int} {v2 : List ((List UInt8) × Int)} {m : Option Nat} {o : (Int × (List ((List UInt8) × Int))) ⊕ Bool} (h : qc m a0 v1 v2 = some o) :
 LWp Tryd.prog Ja 0 zjt (ko 0 1 (z2d a0) (z7h a0) (zc2 a0) o) [(3, .map (0, 0)), (7, .isl 1 (a0.map z7) false), (8, i6 ((a0.map z7).length : Int)), (9, i6 v1)] [((0, 0), .amap (v2.map (em W4 Kh)))] 1 := by
 unfold qc at h
 refine zn (zw ?_)
 refine zn ?_
 refine j6 (v := (decide (v1 < ((a0.map z7).length : Int)))) rfl TT (fun h7 => ?_) (fun h7 => ?_)
 ·have h := yb h7 h
  refine js ?_
  refine zn ?_
  refine j4 ?_
  refine zn (zw ?_)
  obtain ⟨h8, h⟩ := yh h
  refine AI h8 ?_
  refine EX (z7 (a0.getD v1.toNat default)) (AI (vz z7 _ _ (jq z7 h8)) (AI (AI (w7 h8) (NB rfl)) ?_))
  refine zn ?_
  refine zn (zw ?_)
  refine EX (i6 ((lk Xh v2 (a0.getD v1.toNat default)).getD 0)) (AI (ztr (ek := W4) (ev := Kh) (z := 0) z3r rfl (a0.getD v1.toNat default) v2) (AI (zcw (ek := W4) (ev := Kh) z3r _ _) ?_))
  refine LWp.sim (e := [(3, .map (0, 0)), (5, .str (a0.getD v1.toNat default)), (7, .isl 1 (a0.map z7) false), (8, i6 ((a0.map z7).length : Int)), (9, i6 v1), (16, .bool (((lk Xh v2 (a0.getD v1.toNat default)).getD 0) != 0))]) (L := [((0, 0), .amap (v2.map (em W4 Kh)))]) (n := 1) ?_ ?_
  ·exact xx (M := [((0, 0), (0, 0))]) rfl (AI (Vw.map _ _ rfl) (S4 rfl rfl rfl rfl (AI (VS rfl) TT))) (AI (AI rfl (BVw.ofMap W4 Kh U2 v2)) TT)
  refine j6 (v := (((lk Xh v2 (a0.getD v1.toNat default)).getD 0) != 0)) rfl TT (fun h9 => ?_) (fun h9 => ?_)
  ·have h := yb h9 h
   refine zn (zw ?_)
   refine uf ?_
   obtain ⟨o, hq, rfl⟩ := Option.map_eq_some_iff.1 h
   replace h := hq; clear hq
   refine AI nofun ?_
   cases h
   exact AI TT (AI rfl (VS rfl))
  ·have h := q9 h9 h
   refine js ?_
   refine zw ?_
   refine EX ((mp Xh v2 (a0.getD v1.toNat default) 1).map (em W4 Kh)) (AI (zar (ek := W4) (ev := Kh) z3r (a0.getD v1.toNat default) 1 v2) ?_)
   refine zw ?_
   cases h
   exact AI rfl (xx (M := [((0, 0), (0, 0))]) rfl (AI (Vw.map _ _ rfl) (S2 rfl rfl (AI (VS rfl) TT))) (AI (AI rfl (BVw.ofMap W4 Kh U2 (mp Xh v2 (a0.getD v1.toNat default) 1))) TT))
 ·have h := q9 h7 h
  refine Yx ?_
  obtain ⟨o, hq, rfl⟩ := Option.map_eq_some_iff.1 h
  replace h := hq; clear hq
  refine AI nofun ?_
  refine LWp.sim ?_ (zfn h)
  exact xx (M := []) rfl TT TT
theorem zg7 {a0 : List (List UInt8)} {v1 : Int} {v2 : List ((List UInt8) × Int)} {m : Option Nat} {o : Bool} (h : xw m a0 v1 v2 = some o) :
 LWp Tryd.prog Ja 0 (.loop zjt) (x6 0 (Y4 Tryd.prog Ja 0 zc5 (zlr a0 o))) [(3, .map (0, 0)), (7, .isl 1 (a0.map z7) false), (8, i6 ((a0.map z7).length : Int)), (9, i6 v1)] [((0, 0), .amap (v2.map (em W4 Kh)))] 1 :=
 ji (m := m) (s := ((v1, v2) : (Int × (List ((List UInt8) × Int))))) (r := o) (fun (s : (Int × (List ((List UInt8) × Int)))) => qc m a0 s.1 s.2) (z2d a0) (z7h a0) (zc2 a0) (fun s o h => zdy h) h
noncomputable def jh (m : Option Nat) (a0 : List (List UInt8)) : Option Bool :=
 xw m a0 0 ([] : List ((List UInt8) × Int))
theorem zfd {a0 : List (List UInt8)} {m : Option Nat} {o : Bool} (h : jh m a0 = some o) : LWp Tryd.prog Ja 0 zn2 (zlr a0 o) (xb 0 [.isl 1 (a0.map z7) false]) [] 0 := by
 unfold jh at h
 refine zn (zw ?_)
 refine zn (zw ?_)
 refine zn ?_
 refine zn (zw ?_)
 refine j4 ?_
 refine LWp.sim ?_ (zg7 h)
 exact xx (M := [((0, 0), (0, 0))]) rfl (AI (Vw.map _ _ rfl) (S2 rfl rfl (AI (VS rfl) TT))) (AI (AI rfl (BVw.ofMap W4 Kh U2 ([] : List ((List UInt8) × Int)))) TT)
theorem zsk {a0 : List (List UInt8)} {m : Option Nat} {o : Bool} (h : jh m a0 = some o) : PFn Tryd.prog 63 [.isl 1 (a0.map z7) false] (.bool o) := PFn.ofFnW (L := zts) zq1 zpy (NB rfl) rfl (zfd h)
def ju (m : Option Nat) (a0 : List UInt8) : Option Bool := if a0.length ≤ 9223372036854775807 then some (Go.Lib.validD a0) else none
theorem zpv : Yh Tryd.prog 64 := ⟨_, Tryd.func64, rfl, rfl⟩
theorem zn0 {m : Option Nat} {a0 : List UInt8} {o : Bool} (h : ju m a0 = some o) : PFn Tryd.prog 64 [.str a0] (.bool o) := by
 unfold ju at h
 split at h
 ·rename_i hc
  cases h
  exact z5o Tryd.l64 rfl rfl zpv (by rw [zs3]; exact .head _) (by rw [zs3]; exact .tail _ (.head _)) hc
 ·cases h
def zbt : LCode := (.seq (.region [Qb 2])
 (.seq (.region [Qm 3 0,
  Qc 4 64 3,
  Qo 5 (.un .not (.t 4)),
  Qm 2 5])
 .ret))
def z4x : Lay := ⟨6, [], false⟩
def z5f : List LRes := [.t 2]
def zjx : LFn := ⟨1, z4x, zbt, z5f⟩
theorem zgk : kb Tryd.prog [] 66 = some zjx := by kernel_rfl
theorem zfj : Yh Tryd.prog 66 := ⟨_, Tryd.func66, rfl, rfl⟩
noncomputable def yu (m : Option Nat) (a0 : List UInt8) : Option Bool :=
 (ju m a0).bind fun v1 =>
 some (!v1)
def zod (a0 : List UInt8) (o : Bool) : Exit → Env → AHeap → Nat → Prop := Jo z5f (Jd 3 4 (.bool o) [])
theorem za4 {a0 : List UInt8} {m : Option Nat} {o : Bool} (h : yu m a0 = some o) : LWp Tryd.prog z4x 3 zbt (zod a0 o) (xb 0 [.str a0]) [] 3 := by
 unfold yu at h
 refine zn (zw ?_)
 refine zn (zw ?_)
 obtain ⟨v1, h1, h⟩ := bind_some h
 refine PFn.call (zn0 h1) (AI (VS rfl) TT) ?_
 refine uf ?_
 cases h
 exact AI TT (z40 (n' := 3) [] [] rfl rfl (VS rfl) TT)
theorem zm7 {a0 : List UInt8} {m : Option Nat} {o : Bool} (h : yu m a0 = some o) : ACalls Tryd.prog 66 [.str a0] [] 3 (wt 4 (.bool o) []) := X7 (L := zjx) zgk zfj (NB rfl) (za4 h)
def z3b : LCode := (.seq (.region [Qo 9 (.bin .lss (.t 8) (.t 7))])
 (.seq (.cond (.t 9)
  .skip
  (.exit 0))
 (.seq (.block 1
  (.seq (.region [Qm 10 8,
   Qm 5 10])
  (.seq (.region [Qm 11 1,
   Qm 12 0,
   Qm 13 5,
   Qo 14 (.iaddr 1 (.t 12) (.t 13)),
   Ql 15 1 14,
   Qo 16 (.callv (.t 11) [(.t 15)])])
  (.cond (.t 16)
   (.seq (.region [Qm 17 5,
    Qm 4 17])
   .ret)
   .skip))))
 (.region [Qo 18 (.bin .add (.t 8) (.c (i6 1))),
  Qm 8 18]))))
def Ko : LCode := (.seq (.region [Qo 4 (.mv (.c (i6 (-1))))])
 .ret)
def zb1 : LCode := (.seq (.region [Qi 4 0])
 (.seq (.seq (.region [Qm 6 0,
  Qo 7 (.len false (.t 6)),
  Qi 8 0])
 (.block 0
  (.loop
   z3b)))
 Ko))
def Y1 : Lay := ⟨19, [], false⟩
def z4y : List LRes := [.t 4]
def zgr : LFn := ⟨2, Y1, zb1, z4y⟩
theorem zei : kb Tryd.prog [] 77 = some zgr := by kernel_rfl
theorem zgj : Yh Tryd.prog 77 := ⟨_, Tryd.func77, rfl, rfl⟩
def z47 {σ : Type} (Hc : σ → AHeap) (fi0 : Fn) (ff0 fc0 : List AVal) (a0 : List (List UInt8)) (z0 : σ) (o : Int × σ) : Exit → Env → AHeap → Nat → Prop := Jo z4y (Jd 3 4 (i6 o.1) ([] ++ up 3 (Hc o.2)))
def K8 {σ : Type} (Hc : σ → AHeap) (fi0 : Fn) (ff0 fc0 : List AVal) (a0 : List (List UInt8)) (s : (Int × σ)) : Env := [(0, .isl 1 (a0.map z7) false), (1, .fn fi0 ff0 fc0), (7, i6 ((a0.map z7).length : Int)), (8, i6 s.1)]
def U4 {σ : Type} (Hc : σ → AHeap) (fi0 : Fn) (ff0 fc0 : List AVal) (a0 : List (List UInt8)) (s : (Int × σ)) : AHeap := ([] ++ up 3 (Hc s.2))
def z1s {σ : Type} (Hc : σ → AHeap) (fi0 : Fn) (ff0 fc0 : List AVal) (a0 : List (List UInt8)) (z0 : σ) (o : (Int × σ)) : Exit → Env → AHeap → Nat → Prop := (x6 0 (Y4 Tryd.prog Y1 3 Ko (z47 Hc fi0 ff0 fc0 a0 z0 o)))
noncomputable def w6 {σ : Type} (g0 : σ → (List UInt8) → Option (Bool × σ)) (m : Option Nat) (v3 : σ) : Option (Int × σ) :=
 some ((-1), v3)
noncomputable def yw {σ : Type} (g0 : σ → (List UInt8) → Option (Bool × σ)) (m : Option Nat) (a0 : List (List UInt8)) (v2 : Int) (v3 : σ) : Option ((Int × σ) ⊕ (Int × σ)) :=
 if (decide (v2 < ((a0.map z7).length : Int))) = true then
  if (0 : Int) ≤ v2 ∧ v2 < ((a0.map z7).length : Int) then
  (g0 v3 (a0.getD v2.toNat default)).bind fun v5 =>
  if v5.1 = true then
   Option.map Sum.inr (
    some (v2, v5.2))
  else
   some (.inl ((W (v2 + 1)), v5.2))
  else none
 else
  Option.map Sum.inr (
   w6 g0 m v3)
noncomputable def xf {σ : Type} (g0 : σ → (List UInt8) → Option (Bool × σ)) (m : Option Nat) (a0 : List (List UInt8)) (v2 : Int) (v3 : σ) : Option (Int × σ) := uq m (fun (s : (Int × σ)) => yw g0 m a0 s.1 s.2) (v2, v3)
theorem z93 {σ : Type} {Hc : σ → AHeap} {fi0 : Fn} {ff0 fc0 : List AVal} {g0 : σ → (List UInt8) → Option (Bool × σ)} (hg0 : Clo Tryd.prog fi0 ff0 fc0 Hc (fun (x : (List UInt8)) => [.str x]) (fun (b : Bool) => .bool b) g0) {a0 : List (List UInt8)} {z0 : σ} {v3 : σ} {m : Option Nat} {o : (Int × σ)} (h : w6 g0 m v3 = some o) :
 LWp Tryd.prog Y1 3 Ko (z47 Hc fi0 ff0 fc0 a0 z0 o) [] ([] ++ up 3 (Hc v3)) 4 := by
 unfold w6 at h
 refine zn (zw ?_)
 refine uf ?_
 cases h
 exact AI TT (zup (n' := 4) (q := 3) (lit' := []) (hg0.tl _) [] [] rfl rfl (VS rfl) TT)
theorem z7d {σ : Type} {Hc : σ → AHeap} {fi0 : Fn} {ff0 fc0 : List AVal} {g0 : σ → (List UInt8) → Option (Bool × σ)} (hg0 : Clo Tryd.prog fi0 ff0 fc0 Hc (fun (x : (List UInt8)) => [.str x]) (fun (b : Bool) => .bool b) g0) {z0 : σ} {a0 : List (List UInt8)} {v2 : Int} {v3 : σ} {m : Option Nat} {o : (Int × σ) ⊕ (Int × σ)} (h : yw g0 m a0 v2 v3 = some o) :
 LWp Tryd.prog Y1 3 z3b (ko 3 4 (K8 Hc fi0 ff0 fc0 a0) (U4 Hc fi0 ff0 fc0 a0) (z1s Hc fi0 ff0 fc0 a0 z0) o) [(0, .isl 1 (a0.map z7) false), (1, .fn fi0 ff0 fc0), (7, i6 ((a0.map z7).length : Int)), (8, i6 v2)] ([] ++ up 3 (Hc v3)) 4 := by
 unfold yw at h
 refine zn (zw ?_)
 refine zn ?_
 refine j6 (v := (decide (v2 < ((a0.map z7).length : Int)))) rfl TT (fun h9 => ?_) (fun h9 => ?_)
 ·have h := yb h9 h
  refine js ?_
  refine zn ?_
  refine j4 ?_
  refine zn (zw ?_)
  refine zn (zw ?_)
  obtain ⟨h10, h⟩ := yh h
  refine AI h10 ?_
  refine EX (z7 (a0.getD v2.toNat default)) (AI (vz z7 _ _ (jq z7 h10)) (AI (AI (w7 h10) (NB rfl)) ?_))
  obtain ⟨v5, h11, h⟩ := bind_some h
  refine Clo.use (q := 3) (lit := []) hg0 h11 rfl rfl (AI (VS rfl) TT) ?_
  refine LWp.sim (e := [(0, .isl 1 (a0.map z7) false), (1, .fn fi0 ff0 fc0), (5, i6 v2), (7, i6 ((a0.map z7).length : Int)), (8, i6 v2), (16, .bool v5.1)]) (L := ([] ++ up 3 (Hc v5.2))) (n := 4) ?_ ?_
  ·exact zu8 (M := []) (lit' := []) (hg0.tl _) rfl (AI (VS rfl) (AI (Vw.clo hg0.hf hg0.hc (by decide) (z5l (Jj (n := 4) (q := 4) (lit' := []) rfl))) (S4 rfl rfl rfl rfl TT))) TT
  refine j6 (v := v5.1) rfl TT (fun h12 => ?_) (fun h12 => ?_)
  ·have h := yb h12 h
   refine zn (zw ?_)
   refine uf ?_
   obtain ⟨o, hq, rfl⟩ := Option.map_eq_some_iff.1 h
   replace h := hq; clear hq
   refine AI nofun ?_
   cases h
   exact AI TT (zup (n' := 4) (q := 3) (lit' := []) (hg0.tl _) [] [] rfl rfl (VS rfl) TT)
  ·have h := q9 h12 h
   refine js ?_
   refine zw ?_
   cases h
   exact AI rfl (zu8 (M := []) (lit' := []) (hg0.tl _) rfl (AI (VS rfl) (AI (Vw.clo hg0.hf hg0.hc (by decide) (z5l (Jj (n := 4) (q := 3) (lit' := []) rfl))) (S2 rfl rfl TT))) TT)
 ·have h := q9 h9 h
  refine Yx ?_
  obtain ⟨o, hq, rfl⟩ := Option.map_eq_some_iff.1 h
  replace h := hq; clear hq
  refine AI nofun ?_
  refine LWp.sim ?_ (z93 hg0 h)
  exact zu8 (M := []) (lit' := []) (hg0.tl _) rfl TT TT
theorem z9y {σ : Type} {Hc : σ → AHeap} {fi0 : Fn} {ff0 fc0 : List AVal} {g0 : σ → (List UInt8) → Option (Bool × σ)} (hg0 : Clo Tryd.prog fi0 ff0 fc0 Hc (fun (x : (List UInt8)) => [.str x]) (fun (b : Bool) => .bool b) g0) {z0 : σ} {a0 : List (List UInt8)} {v2 : Int} {v3 : σ} {m : Option Nat} {o : (Int × σ)} (h : xf g0 m a0 v2 v3 = some o) :
 LWp Tryd.prog Y1 3 (.loop z3b) (x6 0 (Y4 Tryd.prog Y1 3 Ko (z47 Hc fi0 ff0 fc0 a0 z0 o))) [(0, .isl 1 (a0.map z7) false), (1, .fn fi0 ff0 fc0), (7, i6 ((a0.map z7).length : Int)), (8, i6 v2)] ([] ++ up 3 (Hc v3)) 4 :=
 ji (m := m) (s := ((v2, v3) : (Int × σ))) (r := o) (fun (s : (Int × σ)) => yw g0 m a0 s.1 s.2) (K8 Hc fi0 ff0 fc0 a0) (U4 Hc fi0 ff0 fc0 a0) (z1s Hc fi0 ff0 fc0 a0 z0) (fun s o h => z7d hg0 h) h
noncomputable def j1 {σ : Type} (g0 : σ → (List UInt8) → Option (Bool × σ)) (m : Option Nat) (a0 : List (List UInt8)) (z0 : σ) : Option (Int × σ) :=
 xf g0 m a0 0 z0
theorem z7z {σ : Type} {Hc : σ → AHeap} {fi0 : Fn} {ff0 fc0 : List AVal} {g0 : σ → (List UInt8) → Option (Bool × σ)} (hg0 : Clo Tryd.prog fi0 ff0 fc0 Hc (fun (x : (List UInt8)) => [.str x]) (fun (b : Bool) => .bool b) g0) {a0 : List (List UInt8)} {z0 : σ} {m : Option Nat} {o : Int × σ} (h : j1 g0 m a0 z0 = some o) : LWp Tryd.prog Y1 3 zb1 (z47 Hc fi0 ff0 fc0 a0 z0 o) (xb 0 [.isl 1 (a0.map z7) false, .fn fi0 ff0 fc0]) ([] ++ Hc z0) 3 := by
 unfold j1 at h
 refine LWp.sim (e := [(0, .isl 1 (a0.map z7) false), (1, .fn fi0 ff0 fc0)]) (L := ([] ++ up 3 (Hc z0))) (n := 4) (znj (T := Hc z0) (e' := xb 0 [.isl 1 (a0.map z7) false, .fn fi0 ff0 fc0]) (e := [(0, .isl 1 (a0.map z7) false), (1, .fn fi0 ff0 fc0)]) (lit' := []) (lit := []) (hg0.tl z0) rfl rfl (AI (VS rfl) (AI (Vw.clo hg0.hf hg0.hc (by decide) (znt _)) TT)) TT) ?_
 refine zn (zw ?_)
 refine zn ?_
 refine zn (zw ?_)
 refine j4 ?_
 refine LWp.sim ?_ (z9y hg0 h)
 exact zu8 (M := []) (lit' := []) (hg0.tl _) rfl (AI (VS rfl) (AI (Vw.clo hg0.hf hg0.hc (by decide) (z5l (Jj (n := 4) (q := 3) (lit' := []) rfl))) (S2 rfl rfl TT))) TT
theorem zmh {σ : Type} {Hc : σ → AHeap} {fi0 : Fn} {ff0 fc0 : List AVal} {g0 : σ → (List UInt8) → Option (Bool × σ)} (hg0 : Clo Tryd.prog fi0 ff0 fc0 Hc (fun (x : (List UInt8)) => [.str x]) (fun (b : Bool) => .bool b) g0) {a0 : List (List UInt8)} {z0 : σ} {m : Option Nat} {o : Int × σ} (h : j1 g0 m a0 z0 = some o) : ACalls Tryd.prog 77 [.isl 1 (a0.map z7) false, .fn fi0 ff0 fc0] ([] ++ Hc z0) 3 (wt 4 (i6 o.1) ([] ++ up 3 (Hc o.2))) := X7 (L := zgr) zei zgj (NB rfl) (z7z hg0 h)
def zbl : LCode := (.seq (.region [Qb 4])
 (.seq (.region [Qm 5 0,
  Qm 6 1,
  Qo 7 (.call 77 [(.t 5), (.t 6)]),
  Qo 8 (.bin .geq (.t 7) (.c (i6 0))),
  Qm 4 8])
 .ret))
def z68 : Lay := ⟨9, [], false⟩
def z58 : List LRes := [.t 4]
def zj2 : LFn := ⟨2, z68, zbl, z58⟩
theorem zg1 : kb Tryd.prog [] 65 = some zj2 := by kernel_rfl
theorem zia : Yh Tryd.prog 65 := ⟨_, Tryd.func65, rfl, rfl⟩
noncomputable def ql {σ : Type} (g0 : σ → (List UInt8) → Option (Bool × σ)) (m : Option Nat) (a0 : List (List UInt8)) (z0 : σ) : Option (Bool × σ) :=
 (j1 g0 m a0 z0).bind fun v1 =>
 some ((decide (v1.1 ≥ 0)), v1.2)
def zpc {σ : Type} (Hc : σ → AHeap) (fi0 : Fn) (ff0 fc0 : List AVal) (a0 : List (List UInt8)) (z0 : σ) (o : Bool × σ) : Exit → Env → AHeap → Nat → Prop := Jo z58 (Jd 3 4 (.bool o.1) ([] ++ up 3 (Hc o.2)))
theorem z9v {σ : Type} {Hc : σ → AHeap} {fi0 : Fn} {ff0 fc0 : List AVal} {g0 : σ → (List UInt8) → Option (Bool × σ)} (hg0 : Clo Tryd.prog fi0 ff0 fc0 Hc (fun (x : (List UInt8)) => [.str x]) (fun (b : Bool) => .bool b) g0) {a0 : List (List UInt8)} {z0 : σ} {m : Option Nat} {o : Bool × σ} (h : ql g0 m a0 z0 = some o) : LWp Tryd.prog z68 3 zbl (zpc Hc fi0 ff0 fc0 a0 z0 o) (xb 0 [.isl 1 (a0.map z7) false, .fn fi0 ff0 fc0]) ([] ++ Hc z0) 3 := by
 unfold ql at h
 refine LWp.sim (e := [(0, .isl 1 (a0.map z7) false), (1, .fn fi0 ff0 fc0)]) (L := ([] ++ up 3 (Hc z0))) (n := 4) (znj (T := Hc z0) (e' := xb 0 [.isl 1 (a0.map z7) false, .fn fi0 ff0 fc0]) (e := [(0, .isl 1 (a0.map z7) false), (1, .fn fi0 ff0 fc0)]) (lit' := []) (lit := []) (hg0.tl z0) rfl rfl (AI (VS rfl) (AI (Vw.clo hg0.hf hg0.hc (by decide) (znt _)) TT)) TT) ?_
 refine zn (zw ?_)
 refine zn (zw ?_)
 obtain ⟨v1, h1, h⟩ := bind_some h
 refine zny (m := 1) (q := 3) (lit0 := []) (lit := []) (L := []) (L' := []) (rest := []) (R' := i6 v1.1) (hg0.tl _) (hg0.tl _) [] (zmh hg0 h1) rfl rfl rfl rfl rfl rfl (AI (VS rfl) (AI (Vw.clo hg0.hf hg0.hc (by decide) (z7y _ _)) TT)) TT (we _ rfl) TT rfl ?_
 refine uf ?_
 cases h
 exact AI TT (zup (n' := 6) (q := 4) (lit' := []) (hg0.tl _) [] [] rfl rfl (VS rfl) TT)
theorem zlu {σ : Type} {Hc : σ → AHeap} {fi0 : Fn} {ff0 fc0 : List AVal} {g0 : σ → (List UInt8) → Option (Bool × σ)} (hg0 : Clo Tryd.prog fi0 ff0 fc0 Hc (fun (x : (List UInt8)) => [.str x]) (fun (b : Bool) => .bool b) g0) {a0 : List (List UInt8)} {z0 : σ} {m : Option Nat} {o : Bool × σ} (h : ql g0 m a0 z0 = some o) : ACalls Tryd.prog 65 [.isl 1 (a0.map z7) false, .fn fi0 ff0 fc0] ([] ++ Hc z0) 3 (wt 4 (.bool o.1) ([] ++ up 3 (Hc o.2))) := X7 (L := zj2) zg1 zia (NB rfl) (z9v hg0 h)
def znx : LCode := (.seq (.block 1
 (.seq (.region [Qf 12 1 1,
  Ql 13 1 12,
  Qm 14 3,
  Qo 15 (.bin .lss (.t 13) (.t 14)),
  Qm 16 15,
  Qe 17 1 1 (16, false),
  Qk 18 1 17 (16, false),
  Qn 19 4 (16, false),
  Qg 20 (.bin .gtr (.t 18) (.t 19)) (16, false),
  Qo 21 (.pick (.t 16) (.c (.bool true)) (.t 20)),
  Qm 11 21])
 (.cond (.t 11)
  (.seq (.region [Qb 2])
  .ret)
  (.seq (.region [Qf 23 2 1,
   Ql 24 1 23,
   Qo 25 (.bin .neq (.t 24) (.c (.str []))),
   Qm 26 25,
   Qe 27 0 1 (26, true),
   Qk 28 1 27 (26, true),
   Qg 29 (.bin .neq (.t 28) (.c (i6 3))) (26, true),
   Qp 30 26 29,
   Qm 22 30])
  (.cond (.t 22)
   (.seq (.region [Qb 2])
   .ret)
   (.seq (.region [Qf 32 4 1,
    Ql 33 1 32,
    Qo 34 (.len false (.t 33)),
    Qo 35 (.bin .gtr (.t 34) (.c (i6 0))),
    Qm 36 35,
    Qe 37 0 1 (36, true),
    Qk 38 1 37 (36, true),
    Qg 39 (.bin .neq (.t 38) (.c (i6 4))) (36, true),
    Qp 40 36 39,
    Qm 41 40,
    Qe 42 0 1 (41, true),
    Qk 43 1 42 (41, true),
    Qg 44 (.bin .neq (.t 43) (.c (i6 5))) (41, true),
    Qp 45 41 44,
    Qm 31 45])
   (.cond (.t 31)
    (.seq (.region [Qb 2])
    .ret)
    (.seq (.region [Qf 47 0 1,
     Ql 48 1 47,
     Qo 49 (.bin .eql (.t 48) (.c (i6 5))),
     Qm 50 49,
     Qe 51 3 1 (50, true),
     Qk 52 1 51 (50, true),
     Qg 53 (.len false (.t 52)) (50, true),
     Qe 54 4 1 (50, true),
     Qk 55 1 54 (50, true),
     Qg 56 (.len false (.t 55)) (50, true),
     Qg 57 (.bin .neq (.t 53) (.t 56)) (50, true),
     Qn 58 57 (50, true),
     Qe 59 3 1 (58, false),
     Qk 60 1 59 (58, false),
     Qg 61 (.call 63 [(.t 60)]) (58, false),
     Qg 62 (.pick (.t 58) (.c (.bool true)) (.t 61)) (50, true),
     Qp 63 50 62,
     Qm 46 63])
    (.cond (.t 46)
     (.seq (.region [Qb 2])
     .ret)
     (.seq (.region [Qf 65 0 1,
      Ql 66 1 65,
      Qo 67 (.bin .neq (.t 66) (.c (i6 5))),
      Qm 68 67,
      Qe 69 3 1 (68, true),
      Qk 70 1 69 (68, true),
      Qg 71 (.len false (.t 70)) (68, true),
      Qg 72 (.bin .gtr (.t 71) (.c (i6 0))) (68, true),
      Qp 73 68 72,
      Qm 64 73])
     (.cond (.t 64)
      (.seq (.region [Qb 2])
      .ret)
      .skip)))))))))))
 (.seq (.region [Qf 74 2 1,
  Ql 75 1 74,
  Qc 76 64 75,
  Qm 77 76,
  Qe 78 3 1 (77, true),
  Qk 79 1 78 (77, true),
  Qg 80 (.call 65 [(.t 79), (.c (.fn (.func 66) [] []))]) (77, true),
  Qg 81 (.un .not (.t 80)) (77, true),
  Qp 82 77 81,
  Qm 2 82])
 .ret))
def zn5 : LCode := (.seq (.region [Qo 1 (.box (.t 0)),
 Qb 2])
 (.seq (.region [Qi 3 0,
  Qi 4 0])
 (.seq (.seq (.region [Qf 5 0 1,
  Ql 6 1 5])
 (.block 0
  (.seq (.region [Qo 8 (.bin .eql (.t 6) (.c (i6 1))),
   Qm 7 8])
  (.cond (.t 7)
   (.region [Qi 4 1])
   (.seq (.region [Qo 10 (.bin .eql (.t 6) (.c (i6 2))),
    Qm 9 10])
   (.cond (.t 9)
    (.region [Qo 3 (.mv (.c (i6 (-9007199254740991)))),
     Qi 4 9007199254740991])
    .skip))))))
 znx)))
def z9t : Lay := ⟨83, [], false⟩
def zgs : List LRes := [.t 2]
def zsz : LFn := ⟨1, z9t, zn5, zgs⟩
theorem zqs : kb Tryd.prog [] 44 = some zsz := by kernel_rfl
theorem zp7 : Yh Tryd.prog 44 := ⟨_, Tryd.func44, rfl, rfl⟩
noncomputable def qz (m : Option Nat) (a0 : GJ) (v1 : Int) (v2 : Int) : Option Bool :=
 if ((decide (a0.fN < v1)) || (decide (a0.fN > v2))) = true then
  some false
 else
  if ((!(a0.fT == ([] : List UInt8))) && (a0.fK != 3)) = true then
   some false
  else
   if (((decide (((a0.fE.map z8).length : Int) > 0)) && (a0.fK != 4)) && (a0.fK != 5)) = true then
    some false
   else
    (if (((a0.fK == 5) == true) && ((((a0.fA.map z7).length : Int) != ((a0.fE.map z8).length : Int)) == false)) = true then jh m a0.fA else some default).bind fun v3 =>
    if ((a0.fK == 5) && ((((a0.fA.map z7).length : Int) != ((a0.fE.map z8).length : Int)) || v3)) = true then
     some false
    else
     if ((a0.fK != 5) && (decide (((a0.fA.map z7).length : Int) > 0))) = true then
      some false
     else
      (ju m a0.fT).bind fun v4 =>
      (if (v4 == true) = true then ql (fun (s : Unit) (x : (List UInt8)) => (yu m x).map fun o => (o, ())) m a0.fA () else some default).bind fun v5 =>
      some (v4 && (!v5.1))
def ztx (a0 : GJ) (o : Bool) : Exit → Env → AHeap → Nat → Prop := Jo zgs (kc (.bool o))
theorem z0c {a0 : GJ} {v1 : Int} {v2 : Int} {m : Option Nat} {o : Bool} (h : qz m a0 v1 v2 = some o) :
 LWp Tryd.prog z9t 0 znx (ztx a0 o) [(1, .ptr (0, 0) 0 0), (3, i6 v1), (4, i6 v2)] [((0, 0), .one (z6 a0))] 1 := by
 unfold qz at h
 refine zn ?_
 refine j4 ?_
 refine zn (zw ?_)
 refine AI (fun hp => hp) ?_
 refine AI (fun hp => (AI hp hp)) ?_
 refine AI (fun hc => (bqf hc)) ?_
 refine LWp.sim (e := [(1, .ptr (0, 0) 0 0), (11, .bool ((decide (a0.fN < v1)) || (decide (a0.fN > v2))))]) (L := [((0, 0), .one (z6 a0))]) (n := 1) ?_ ?_
 ·exact xx (M := [((0, 0), (0, 0))]) rfl (SP rfl (AI (VS rfl) TT)) (AI (AI rfl (OL rfl)) TT)
 refine j6 (v := ((decide (a0.fN < v1)) || (decide (a0.fN > v2)))) rfl TT (fun h3 => ?_) (fun h3 => ?_)
 ·have h := yb h3 h
  refine zn (zw ?_)
  refine uf ?_
  cases h
  exact AI TT (AI rfl (VS rfl))
 ·have h := q9 h3 h
  refine zn (zw ?_)
  refine AI (fun hp => hp) ?_
  refine AI (fun hp => hp) ?_
  refine AI (fun hc => (bqt hc)) ?_
  refine LWp.sim (e := [(1, .ptr (0, 0) 0 0), (22, .bool ((!(a0.fT == ([] : List UInt8))) && (a0.fK != 3)))]) (L := [((0, 0), .one (z6 a0))]) (n := 1) ?_ ?_
  ·exact xx (M := [((0, 0), (0, 0))]) rfl (SP rfl (AI (VS rfl) TT)) (AI (AI rfl (OL rfl)) TT)
  refine j6 (v := ((!(a0.fT == ([] : List UInt8))) && (a0.fK != 3))) rfl TT (fun h4 => ?_) (fun h4 => ?_)
  ·have h := yb h4 h
   refine zn (zw ?_)
   refine uf ?_
   cases h
   exact AI TT (AI rfl (VS rfl))
  ·have h := q9 h4 h
   refine zn (zw ?_)
   refine AI (fun hp => hp) ?_
   refine AI (fun hp => hp) ?_
   refine AI (fun hc => (bqt hc)) ?_
   refine AI (fun hp => hp) ?_
   refine AI (fun hp => hp) ?_
   refine AI (fun hc => (bqt hc)) ?_
   refine LWp.sim (e := [(1, .ptr (0, 0) 0 0), (31, .bool (((decide (((a0.fE.map z8).length : Int) > 0)) && (a0.fK != 4)) && (a0.fK != 5)))]) (L := [((0, 0), .one (z6 a0))]) (n := 1) ?_ ?_
   ·exact xx (M := [((0, 0), (0, 0))]) rfl (SP rfl (AI (VS rfl) TT)) (AI (AI rfl (OL rfl)) TT)
   refine j6 (v := (((decide (((a0.fE.map z8).length : Int) > 0)) && (a0.fK != 4)) && (a0.fK != 5))) rfl TT (fun h5 => ?_) (fun h5 => ?_)
   ·have h := yb h5 h
    refine zn (zw ?_)
    refine uf ?_
    cases h
    exact AI TT (AI rfl (VS rfl))
   ·have h := q9 h5 h
    refine zn (zw ?_)
    refine AI (fun hp => hp) ?_
    refine AI (fun hp => hp) ?_
    refine AI (fun hp => hp) ?_
    refine AI (fun hp => hp) ?_
    refine AI (fun hp => (AI hp hp)) ?_
    refine AI (fun hp => hp) ?_
    refine AI (fun hp => hp) ?_
    obtain ⟨v3, h6, h⟩ := bind_some h
    refine Or.inl (EX (.bool v3) (AI (fun hp => AI hp (PFn.call (zsk (yb hp h6)) (AI (VS rfl) TT) (AI rfl (AI rfl rfl)))) ?_))
    refine AI (fun hp => (AI hp (fun hc => (z70 hp (bqf hc))))) ?_
    refine AI (fun hc => (bqt hc)) ?_
    refine LWp.sim (e := [(1, .ptr (0, 0) 0 0), (46, .bool ((a0.fK == 5) && ((((a0.fA.map z7).length : Int) != ((a0.fE.map z8).length : Int)) || v3)))]) (L := [((0, 0), .one (z6 a0))]) (n := 1) ?_ ?_
    ·exact xx (M := [((0, 0), (0, 0))]) rfl (SP rfl (AI (VS rfl) TT)) (AI (AI rfl (OL rfl)) TT)
    refine j6 (v := ((a0.fK == 5) && ((((a0.fA.map z7).length : Int) != ((a0.fE.map z8).length : Int)) || v3))) rfl TT (fun h7 => ?_) (fun h7 => ?_)
    ·have h := yb h7 h
     refine zn (zw ?_)
     refine uf ?_
     cases h
     exact AI TT (AI rfl (VS rfl))
    ·have h := q9 h7 h
     refine zn (zw ?_)
     refine AI (fun hp => hp) ?_
     refine AI (fun hp => hp) ?_
     refine AI (fun hp => hp) ?_
     refine AI (fun hc => (bqt hc)) ?_
     refine LWp.sim (e := [(1, .ptr (0, 0) 0 0), (64, .bool ((a0.fK != 5) && (decide (((a0.fA.map z7).length : Int) > 0))))]) (L := [((0, 0), .one (z6 a0))]) (n := 1) ?_ ?_
     ·exact xx (M := [((0, 0), (0, 0))]) rfl (SP rfl (AI (VS rfl) TT)) (AI (AI rfl (OL rfl)) TT)
     refine j6 (v := ((a0.fK != 5) && (decide (((a0.fA.map z7).length : Int) > 0)))) rfl TT (fun h8 => ?_) (fun h8 => ?_)
     ·have h := yb h8 h
      refine zn (zw ?_)
      refine uf ?_
      cases h
      exact AI TT (AI rfl (VS rfl))
     ·have h := q9 h8 h
      refine js ?_
      refine zn (zw ?_)
      obtain ⟨v4, h9, h⟩ := bind_some h
      refine PFn.call (zn0 h9) (AI (VS rfl) TT) ?_
      refine AI (fun hp => hp) ?_
      obtain ⟨v5, h10, h⟩ := bind_some h
      refine Or.inl (EX (.bool v5.1) (AI (fun hp => AI hp (ACalls.same rfl (Q5 (k := 3) (m := 1) (L' := []) (rest := [((0, 0), .one (z6 a0))]) (R' := .bool v5.1) [] (zlu (show Clo Tryd.prog (.func 66) [] [] (fun (s : Unit) => []) (fun (x : (List UInt8)) => [.str x]) (fun (b : Bool) => .bool b) (fun (s : Unit) (x : (List UInt8)) => (yu m x).map fun o => (o, ())) from Clo.mk' (fun s => Tl.lit rfl TT rfl) rfl rfl (fun _ => rfl) (fun s x o h => by obtain ⟨o1, h1, rfl⟩ := Option.map_eq_some_iff.1 h; exact EX _ (AI (zm7 h1) TT))) (yb hp h10)) rfl rfl rfl (S2 rfl rfl TT) TT (we _ rfl) TT rfl (AI rfl (HeapTo.get (AI (AI rfl (OL rfl)) TT)))))) ?_))
      refine AI (fun hp => hp) ?_
      refine AI (fun hc => (bqt hc)) ?_
      refine LWp.sim (e := [(2, .bool (v4 && (!v5.1)))]) (L := []) (n := 0) ?_ ?_
      ·exact xx (M := []) rfl (AI (VS rfl) TT) TT
      refine uf ?_
      cases h
      exact AI TT (AI rfl (VS rfl))
noncomputable def jj (m : Option Nat) (a0 : GJ) : Option Bool :=
 if (a0.fK == 1) = true then
  qz m a0 0 1
 else
  if (a0.fK == 2) = true then
   qz m a0 (-9007199254740991) 9007199254740991
  else
   qz m a0 0 0
theorem zfk {a0 : GJ} {m : Option Nat} {o : Bool} (h : jj m a0 = some o) : LWp Tryd.prog z9t 0 zn5 (ztx a0 o) (xb 0 [.agg (z6 a0)]) [] 0 := by
 unfold jj at h
 refine zn (zw ?_)
 refine zn (zw ?_)
 refine zn ?_
 refine zn (zw ?_)
 refine j4 ?_
 refine zn (zw ?_)
 refine LWp.sim (e := [(1, .ptr (0, 0) 0 0), (3, i6 0), (4, i6 0), (6, i6 a0.fK), (7, .bool (a0.fK == 1))]) (L := [((0, 0), .one (z6 a0))]) (n := 1) ?_ ?_
 ·exact xx (M := [((0, 0), (0, 0))]) rfl (SP rfl (S4 rfl rfl rfl rfl TT)) (AI (AI rfl (OL rfl)) TT)
 refine j6 (v := (a0.fK == 1)) rfl TT (fun h1 => ?_) (fun h1 => ?_)
 ·have h := yb h1 h
  refine zw ?_
  refine LWp.sim ?_ (z0c h)
  exact xx (M := [((0, 0), (0, 0))]) rfl (SP rfl (S2 rfl rfl TT)) (AI (AI rfl (OL rfl)) TT)
 ·have h := q9 h1 h
  refine zn (zw ?_)
  refine j6 (v := (a0.fK == 2)) rfl TT (fun h2 => ?_) (fun h2 => ?_)
  ·have h := yb h2 h
   refine zw ?_
   refine LWp.sim ?_ (z0c h)
   exact xx (M := [((0, 0), (0, 0))]) rfl (SP rfl (S2 rfl rfl TT)) (AI (AI rfl (OL rfl)) TT)
  ·have h := q9 h2 h
   refine js ?_
   refine LWp.sim ?_ (z0c h)
   exact xx (M := [((0, 0), (0, 0))]) rfl (SP rfl (S2 rfl rfl TT)) (AI (AI rfl (OL rfl)) TT)
theorem zta {a0 : GJ} {m : Option Nat} {o : Bool} (h : jj m a0 = some o) : PFn Tryd.prog 44 [.agg (z6 a0)] (.bool o) := PFn.ofFnW (L := zsz) zqs zp7 (NB rfl) rfl (zfk h)
def z3d : LCode := (.seq (.region [Qo 23 (.bin .lss (.t 22) (.t 21))])
 (.seq (.cond (.t 23)
  .skip
  (.exit 1))
 (.seq (.block 2
  (.seq (.region [Qo 24 (.iaddr 5 (.t 20) (.t 22)),
   Qt 25 5 24,
   Qo 4 (.alloc [(i6 0), (i6 0), (.str []), (.isl 1 [] true), (.isl 5 [] true)]),
   ⟨none, .store 5 (.t 4) (.t 25), none⟩])
  (.seq (.region [Qt 26 5 4,
   Qc 27 23 26,
   Qm 5 27])
  (.seq (.region [Qm 28 5,
   Qo 29 (.bin .neq (.t 28) (.c (i6 0)))])
  (.cond (.t 29)
   (.seq (.region [Qm 30 5,
    Qm 2 30])
   .ret)
   .skip)))))
 (.region [Qo 31 (.bin .add (.t 22) (.c (i6 1))),
  Qm 22 31]))))
def U1 : LCode := (.seq (.region [Qi 2 0])
 .ret)
def zbf : LCode := (.seq (.region [Qo 1 (.box (.t 0)),
 Qi 2 0])
 (.seq (.block 0
  (.seq (.region [Qf 7 0 1,
   Ql 8 1 7,
   Qo 9 (.bin .lss (.t 8) (.c (i6 0))),
   Qm 10 9,
   Qe 11 0 1 (10, false),
   Qk 12 1 11 (10, false),
   Qg 13 (.bin .geq (.t 12) (.c (i6 6))) (10, false),
   Qo 14 (.pick (.t 10) (.c (.bool true)) (.t 13)),
   Qm 6 14])
  (.cond (.t 6)
   (.seq (.region [Qi 2 7])
   .ret)
   (.seq (.region [Qt 16 5 1,
    Qc 17 44 16,
    Qo 18 (.un .not (.t 17)),
    Qm 15 18])
   (.cond (.t 15)
    (.seq (.region [Qi 2 3])
    .ret)
    .skip)))))
 (.seq (.seq (.region [Qf 19 4 1,
  Ql 20 1 19,
  Qo 21 (.len false (.t 20)),
  Qi 22 0])
 (.block 1
  (.loop
   z3d)))
 U1)))
def Zp : Lay := ⟨32, [], false⟩
def z50 : List LRes := [.t 2]
def zht : LFn := ⟨1, Zp, zbf, z50⟩
theorem zkd : kb Tryd.prog [] 23 = some zht := by kernel_rfl
theorem zjo : Yh Tryd.prog 23 := ⟨_, Tryd.func23, rfl, rfl⟩
def z2v (a0 : GJ) (o : Int) : Exit → Env → AHeap → Nat → Prop := Jo z50 (Jd 3 3 (i6 o) [])
def Vg (a0 : GJ) (s : Int) : Env := [(20, .isl 5 (a0.fE.map z8) false), (21, i6 ((a0.fE.map z8).length : Int)), (22, i6 s)]
def z05 (a0 : GJ) (s : Int) : AHeap := []
def z1c (a0 : GJ) (o : Int) : Exit → Env → AHeap → Nat → Prop := (x6 1 (Y4 Tryd.prog Zp 3 U1 (z2v a0 o)))
noncomputable def wg (rec5 : GJ → Option Int) (m : Option Nat) : Option Int :=
 some 0
noncomputable def qd (rec5 : GJ → Option Int) (m : Option Nat) (a0 : GJ) (v4 : Int) : Option (Int ⊕ Int) :=
 if (decide (v4 < ((a0.fE.map z8).length : Int))) = true then
  if (0 : Int) ≤ v4 ∧ v4 < ((a0.fE.map z8).length : Int) then
  ((vg (a0.fE.getD v4.toNat default))).bind fun v7 =>
  (rec5 v7).bind fun v8 =>
  if (v8 != 0) = true then
   Option.map Sum.inr (
    some v8)
  else
   some (.inl (W (v4 + 1)))
  else none
 else
  Option.map Sum.inr (
   wg rec5 m)
noncomputable def qw (rec5 : GJ → Option Int) (m : Option Nat) (a0 : GJ) (v4 : Int) : Option Int := uq m (fun (s : Int) => qd rec5 m a0 s) v4
abbrev Hr5 (rec5 : GJ → Option Int) : Prop := ∀ {a0 : GJ} {o : Int}, rec5 a0 = some o → ACalls Tryd.prog 23 [.agg (z6 a0)] [] 3 (wt 3 (i6 o) [])
theorem za7 {rec5 : GJ → Option Int} (hrec5 : Hr5 rec5) {a0 : GJ} {m : Option Nat} {o : Int} (h : wg rec5 m = some o) :
 LWp Tryd.prog Zp 3 U1 (z2v a0 o) [] [] 3 := by
 unfold wg at h
 refine zn (zw ?_)
 refine uf ?_
 cases h
 exact AI TT (z40 (n' := 3) [] [] rfl rfl (VS rfl) TT)
theorem z7o {rec5 : GJ → Option Int} (hrec5 : Hr5 rec5) {a0 : GJ} {v4 : Int} {m : Option Nat} {o : Int ⊕ Int} (h : qd rec5 m a0 v4 = some o) :
 LWp Tryd.prog Zp 3 z3d (ko 3 3 (Vg a0) (z05 a0) (z1c a0) o) [(20, .isl 5 (a0.fE.map z8) false), (21, i6 ((a0.fE.map z8).length : Int)), (22, i6 v4)] [] 3 := by
 unfold qd at h
 refine zn (zw ?_)
 refine zn ?_
 refine j6 (v := (decide (v4 < ((a0.fE.map z8).length : Int)))) rfl TT (fun h14 => ?_) (fun h14 => ?_)
 ·have h := yb h14 h
  refine js ?_
  refine zn ?_
  refine j4 ?_
  refine zn (zw ?_)
  obtain ⟨h15, h⟩ := yh h
  refine AI h15 ?_
  obtain ⟨v7, h16, h⟩ := bind_some h
  refine EX (z6 v7) (AI (xn (jq z8 h15) h16) (AI (AI (w7 h15) (NB rfl)) ?_))
  refine zn (zw ?_)
  obtain ⟨v8, h17, h⟩ := bind_some h
  refine Q5 (k := 3) (m := 0) (L' := []) (rest := [((3, 0), .one (z6 v7))]) (R' := i6 v8) [] (hrec5 h17) rfl rfl rfl (AI (VS rfl) TT) TT (we _ rfl) TT rfl ?_
  refine LWp.sim (e := [(5, i6 v8), (20, .isl 5 (a0.fE.map z8) false), (21, i6 ((a0.fE.map z8).length : Int)), (22, i6 v4)]) (L := []) (n := 3) ?_ ?_
  ·exact xx (M := []) rfl (S4 rfl rfl rfl rfl TT) TT
  refine zn (zw ?_)
  refine j6 (v := (v8 != 0)) rfl TT (fun h18 => ?_) (fun h18 => ?_)
  ·have h := yb h18 h
   refine zn (zw ?_)
   refine uf ?_
   obtain ⟨o, hq, rfl⟩ := Option.map_eq_some_iff.1 h
   replace h := hq; clear hq
   refine AI nofun ?_
   cases h
   exact AI TT (z40 (n' := 3) [] [] rfl rfl (VS rfl) TT)
  ·have h := q9 h18 h
   refine js ?_
   refine zw ?_
   cases h
   exact AI rfl (xx (M := []) rfl (S2 rfl rfl (AI (VS rfl) TT)) TT)
 ·have h := q9 h14 h
  refine Yx ?_
  obtain ⟨o, hq, rfl⟩ := Option.map_eq_some_iff.1 h
  replace h := hq; clear hq
  refine AI nofun ?_
  refine LWp.sim ?_ (za7 hrec5 h)
  exact xx (M := []) rfl TT TT
theorem z87 {rec5 : GJ → Option Int} (hrec5 : Hr5 rec5) {a0 : GJ} {v4 : Int} {m : Option Nat} {o : Int} (h : qw rec5 m a0 v4 = some o) :
 LWp Tryd.prog Zp 3 (.loop z3d) (x6 1 (Y4 Tryd.prog Zp 3 U1 (z2v a0 o))) [(20, .isl 5 (a0.fE.map z8) false), (21, i6 ((a0.fE.map z8).length : Int)), (22, i6 v4)] [] 3 :=
 ji (m := m) (s := (v4 : Int)) (r := o) (fun (s : Int) => qd rec5 m a0 s) (Vg a0) (z05 a0) (z1c a0) (fun s o h => z7o hrec5 h) h
noncomputable def qe (rec5 : GJ → Option Int) (m : Option Nat) (a0 : GJ) : Option Int :=
 if ((decide (a0.fK < 0)) || (decide (a0.fK ≥ 6))) = true then
  some 7
 else
  (jj m a0).bind fun v1 =>
  if (!v1) = true then
   some 3
  else
   qw rec5 m a0 0
theorem z8m {rec5 : GJ → Option Int} (hrec5 : Hr5 rec5) {a0 : GJ} {m : Option Nat} {o : Int} (h : qe rec5 m a0 = some o) : LWp Tryd.prog Zp 3 zbf (z2v a0 o) (xb 0 [.agg (z6 a0)]) [] 3 := by
 unfold qe at h
 refine zn (zw ?_)
 refine zn ?_
 refine j4 ?_
 refine zn (zw ?_)
 refine AI (fun hp => hp) ?_
 refine AI (fun hp => hp) ?_
 refine AI (fun hc => (bqf hc)) ?_
 refine LWp.sim (e := [(1, .ptr (3, 0) 0 0), (6, .bool ((decide (a0.fK < 0)) || (decide (a0.fK ≥ 6))))]) (L := [((3, 0), .one (z6 a0))]) (n := 4) ?_ ?_
 ·exact xx (M := [((3, 0), (3, 0))]) rfl (SP rfl (AI (VS rfl) TT)) (AI (AI rfl (OL rfl)) TT)
 refine j6 (v := ((decide (a0.fK < 0)) || (decide (a0.fK ≥ 6)))) rfl TT (fun h1 => ?_) (fun h1 => ?_)
 ·have h := yb h1 h
  refine zn (zw ?_)
  refine uf ?_
  cases h
  exact AI TT (z40 (n' := 4) [] [] rfl rfl (VS rfl) TT)
 ·have h := q9 h1 h
  refine zn (zw ?_)
  obtain ⟨v1, h2, h⟩ := bind_some h
  refine PFn.call (zta h2) (AI (VS rfl) TT) ?_
  refine j6 (v := (!v1)) rfl TT (fun h3 => ?_) (fun h3 => ?_)
  ·have h := yb h3 h
   refine zn (zw ?_)
   refine uf ?_
   cases h
   exact AI TT (z40 (n' := 4) [] [] rfl rfl (VS rfl) TT)
  ·have h := q9 h3 h
   refine js ?_
   refine zn ?_
   refine zn (zw ?_)
   refine LWp.sim (e := [(20, .isl 5 (a0.fE.map z8) false), (21, i6 ((a0.fE.map z8).length : Int)), (22, i6 0)]) (L := []) (n := 3) ?_ ?_
   ·exact xx (M := []) rfl (S2 rfl rfl (AI (VS rfl) TT)) TT
   refine j4 ?_
   refine LWp.sim ?_ (z87 hrec5 h)
   exact xx (M := []) rfl (S2 rfl rfl (AI (VS rfl) TT)) TT
theorem zaz {rec5 : GJ → Option Int} (hrec5 : Hr5 rec5) {a0 : GJ} {m : Option Nat} {o : Int} (h : qe rec5 m a0 = some o) : ACalls Tryd.prog 23 [.agg (z6 a0)] [] 3 (wt 3 (i6 o) []) := X7 (L := zht) zkd zjo (NB rfl) (z8m hrec5 h)
noncomputable def x9 (m : Option Nat) : Nat → GJ → Option Int
 | 0 => fun _ => none
 | k + 1 => qe (x9 m k) m
noncomputable def ws (m : Option Nat) (a0 : GJ) : Option Int := zdm m (fun k => x9 m k a0)
theorem z6n {m : Option Nat} : ∀ (k : Nat) {a0 : GJ} {o : Int}, x9 m k a0 = some o → ACalls Tryd.prog 23 [.agg (z6 a0)] [] 3 (wt 3 (i6 o) [])
 | 0, _, _, h => nomatch h
 | k + 1, _, _, h => zaz (fun h => z6n k h) h
theorem zib {a0 : GJ} {m : Option Nat} {o : Int} (h : ws m a0 = some o) : ACalls Tryd.prog 23 [.agg (z6 a0)] [] 3 (wt 3 (i6 o) []) := (Z4 h).elim fun k h => z6n k h
noncomputable def ub (m : Option Nat) (a0 : GJ) : Option Int := qe (ws m) m a0
theorem zth {a0 : GJ} {m : Option Nat} {o : Int} (h : ub m a0 = some o) : PFn Tryd.prog 23 [.agg (z6 a0)] (i6 o) :=
 ⟨rfl, _, Q5 (k := 3) (m := 0) (L' := []) (rest := []) (R' := i6 o) [] (zaz zib h) rfl rfl rfl (AI (VS rfl) TT) TT (we _ rfl) TT rfl ⟨rfl, rfl, rfl⟩⟩
def zsl : LCode := (.seq (.region [Qo 1 (.box (.t 0)),
 Qi 2 0])
 (.seq (.region [Qo 3 (.alloc [(i6 0)]),
  ⟨none, .store 1 (.t 3) (.c (i6 0)), none⟩])
 (.seq (.seq (.region [Qt 4 5 1,
  Qo 5 (.call 22 [(.t 4), (.c (i6 1)), (.t 3)]),
  Qo 6 (.un .not (.t 5))])
 (.cond (.t 6)
  (.seq (.region [Qi 2 2])
  .ret)
  .skip))
 (.seq (.region [Qt 7 5 1,
  Qc 8 23 7,
  Qm 2 8])
 .ret))))
def znr : Lay := ⟨9, [], false⟩
def zo0 : List LRes := [.t 2]
def zvd : LFn := ⟨1, znr, zsl, zo0⟩
theorem zrt : kb Tryd.prog [] 9 = some zvd := by kernel_rfl
theorem zsh : Yh Tryd.prog 9 := ⟨_, Tryd.func9, rfl, rfl⟩
noncomputable def jg (m : Option Nat) (a0 : GJ) : Option Int :=
 (jx m a0 1 0).bind fun v1 =>
 if (!v1.1) = true then
  some 2
 else
  (ub m a0).bind fun v2 =>
  some v2
def zvu (a0 : GJ) (o : Int) : Exit → Env → AHeap → Nat → Prop := Jo zo0 (kc (i6 o))
theorem zmt {a0 : GJ} {m : Option Nat} {o : Int} (h : jg m a0 = some o) : LWp Tryd.prog znr 0 zsl (zvu a0 o) (xb 0 [.agg (z6 a0)]) [] 0 := by
 unfold jg at h
 refine zn (zw ?_)
 refine zn (zw ?_)
 refine zn ?_
 refine zn (zw ?_)
 obtain ⟨v1, h1, h⟩ := bind_some h
 refine Q5 (k := 3) (m := 0) (L' := [((1, 0), .one [i6 v1.2])]) (rest := [((0, 0), .one (z6 a0))]) (R' := .bool v1.1) [((0, 0), (1, 0))] (zgm h1) rfl rfl rfl (S2 rfl rfl (SP rfl TT)) (AI (h0I (1, 0) rfl rfl (OL rfl)) TT) (we _ rfl) (AI rfl (AI rfl TT)) rfl ?_
 refine j6 (v := (!v1.1)) rfl TT (fun h2 => ?_) (fun h2 => ?_)
 ·have h := yb h2 h
  refine zn (zw ?_)
  refine LWp.sim (e := [(2, i6 2)]) (L := []) (n := 0) ?_ ?_
  ·exact xx (M := []) rfl (AI (VS rfl) TT) TT
  refine uf ?_
  cases h
  exact AI TT (AI rfl (VS rfl))
 ·have h := q9 h2 h
  refine js ?_
  refine zn (zw ?_)
  obtain ⟨v2, h3, h⟩ := bind_some h
  refine PFn.call (zth h3) (AI (VS rfl) TT) ?_
  refine LWp.sim (e := [(2, i6 v2)]) (L := []) (n := 0) ?_ ?_
  ·exact xx (M := []) rfl (AI (VS rfl) TT) TT
  refine uf ?_
  cases h
  exact AI TT (AI rfl (VS rfl))
theorem zse {a0 : GJ} {m : Option Nat} {o : Int} (h : jg m a0 = some o) : PFn Tryd.prog 9 [.agg (z6 a0)] (i6 o) := PFn.ofFnW (L := zvd) zrt zsh (NB rfl) rfl (zmt h)
def znd : LCode := (.seq (.region [Qo 3 (.box (.t 0)),
 Qo 4 (.box (.t 1)),
 Qo 6 (.alloc [(i6 0), (i6 0), (.str []), (.isl 1 [] true), (.isl 5 [] true)]),
 Qb 7])
 (.seq (.seq (.region [Qf 9 0 3,
  Ql 10 1 9,
  Qo 11 (.bin .neq (.t 10) (.c (i6 5)))])
 (.cond (.t 11)
  (.seq (.region [Qf 12 4 4,
   Ql 13 1 12,
   Qm 14 2,
   Qo 15 (.iaddr 5 (.t 13) (.t 14)),
   Qt 16 5 15,
   ⟨none, .store 5 (.t 6) (.t 16), none⟩,
   Qo 7 (.mv (.c (.bool true)))])
  .ret)
  .skip))
 (.seq (.seq (.region [Qm 17 2,
  Qf 18 3 3,
  Ql 19 1 18,
  Qo 20 (.len false (.t 19)),
  Qo 21 (.bin .geq (.t 17) (.t 20))])
 (.cond (.t 21)
  (.seq (.region [Qo 22 (.build [(i6 0), (i6 0), (.str []), (.isl 1 [] true), (.isl 5 [] true)] []),
   ⟨none, .store 5 (.t 6) (.t 22), none⟩,
   Qb 7])
  .ret)
  .skip))
 (.seq (.draw [⟨Qf 23 3 4, []⟩,
  ⟨Ql 24 1 23, []⟩,
  ⟨Qf 25 3 3, []⟩,
  ⟨Ql 26 1 25, []⟩,
  ⟨Qm 27 2, []⟩,
  ⟨Qo 28 (.iaddr 1 (.t 26) (.t 27)), []⟩,
  ⟨Ql 29 1 28, []⟩,
  ⟨Qo 30 (.call 33 [(.t 24), (.t 29)]), []⟩,
  ⟨Qm 8 30, []⟩])
 (.seq (.seq (.region [Qm 31 8,
  Qo 32 (.bin .lss (.t 31) (.c (i6 0))),
  Qm 33 32,
  Qn 34 8 (33, false),
  Qe 35 4 4 (33, false),
  Qk 36 1 35 (33, false),
  Qg 37 (.len false (.t 36)) (33, false),
  Qg 38 (.bin .geq (.t 34) (.t 37)) (33, false),
  Qo 39 (.pick (.t 33) (.c (.bool true)) (.t 38))])
 (.cond (.t 39)
  (.seq (.region [Qo 40 (.build [(i6 0), (i6 0), (.str []), (.isl 1 [] true), (.isl 5 [] true)] []),
   ⟨none, .store 5 (.t 6) (.t 40), none⟩,
   Qb 7])
  .ret)
  .skip))
 (.seq (.region [Qf 41 4 4,
  Ql 42 1 41,
  Qm 43 8,
  Qo 44 (.iaddr 5 (.t 42) (.t 43)),
  Qt 45 5 44,
  ⟨none, .store 5 (.t 6) (.t 45), none⟩,
  Qo 7 (.mv (.c (.bool true)))])
 .ret))))))
def zfi : Lay := ⟨46, [], false⟩
def zfs : List LRes := [.cell 6 true 5, .t 7]
def zsq : LFn := ⟨3, zfi, znd, zfs⟩
theorem zqh : kb Tryd.prog [] 57 = some zsq := by kernel_rfl
theorem zon : Yh Tryd.prog 57 := ⟨_, Tryd.func57, rfl, rfl⟩
noncomputable def ja (m : Option Nat) (a0 : GJ) (a1 : GJ) (a2 : Int) : Option (GJ × Bool) :=
 if (a0.fK != 5) = true then
  if (0 : Int) ≤ a2 ∧ a2 < ((a1.fE.map z8).length : Int) then
  ((vg (a1.fE.getD a2.toNat default))).bind fun v1 =>
  some (v1, true)
  else none
 else
  if (decide (a2 ≥ ((a0.fA.map z7).length : Int))) = true then
   some ((GJ.mk 0 0 [] [] []), false)
  else
   if (0 : Int) ≤ a2 ∧ a2 < ((a0.fA.map z7).length : Int) then
   (jc m a1.fA (a0.fA.getD a2.toNat default)).bind fun v2 =>
   if ((decide (v2 < 0)) || (decide (v2 ≥ ((a1.fE.map z8).length : Int)))) = true then
    some ((GJ.mk 0 0 [] [] []), false)
   else
    if (0 : Int) ≤ v2 ∧ v2 < ((a1.fE.map z8).length : Int) then
    ((vg (a1.fE.getD v2.toNat default))).bind fun v3 =>
    some (v3, true)
    else none
   else none
def zuf (a0 : GJ) (a1 : GJ) (a2 : Int) (o : GJ × Bool) : Exit → Env → AHeap → Nat → Prop := Jo zfs (kc (.tup [.agg (z6 o.1), .bool o.2]))
theorem zfp {a0 : GJ} {a1 : GJ} {a2 : Int} {m : Option Nat} {o : GJ × Bool} (h : ja m a0 a1 a2 = some o) : LWp Tryd.prog zfi 0 znd (zuf a0 a1 a2 o) (xb 0 [.agg (z6 a0), .agg (z6 a1), i6 a2]) [] 0 := by
 unfold ja at h
 refine zn (zw ?_)
 refine zn ?_
 refine zn (zw ?_)
 refine j6 (v := (a0.fK != 5)) rfl TT (fun h1 => ?_) (fun h1 => ?_)
 ·have h := yb h1 h
  refine zn (zw ?_)
  obtain ⟨h2, h⟩ := yh h
  refine AI h2 ?_
  obtain ⟨v1, h3, h⟩ := bind_some h
  refine EX (z6 v1) (AI (xn (jq z8 h2) h3) (AI (AI (w7 h2) (NB rfl)) ?_))
  refine LWp.sim (e := [(6, .ptr (0, 0) 0 0), (7, .bool true)]) (L := [((0, 0), .one (z6 v1))]) (n := 1) ?_ ?_
  ·exact xx (M := [((0, 0), (2, 0))]) rfl (SP rfl (AI (VS rfl) TT)) (AI (AI rfl (OL rfl)) TT)
  refine uf ?_
  cases h
  exact AI (AI TT (AI rfl (NB rfl))) (AI TT (AI rfl (VS rfl)))
 ·have h := q9 h1 h
  refine js ?_
  refine zn ?_
  refine zn (zw ?_)
  refine LWp.sim (e := [(2, i6 a2), (3, .ptr (0, 0) 0 0), (4, .ptr (1, 0) 0 0), (6, .ptr (2, 0) 0 0), (21, .bool (decide (a2 ≥ ((a0.fA.map z7).length : Int))))]) (L := [((0, 0), .one (z6 a0)), ((1, 0), .one (z6 a1)), ((2, 0), .one [i6 0, i6 0, .str [], .isl 1 (([] : List (List UInt8)).map z7) true, .isl 5 (([] : List (List AVal)).map z8) true])]) (n := 3) ?_ ?_
  ·exact xx (M := [((0, 0), (0, 0)), ((1, 0), (1, 0)), ((2, 0), (2, 0))]) rfl (AI (VS rfl) (SP rfl (SP rfl (SP rfl (AI (VS rfl) TT))))) (AI (AI rfl (OL rfl)) (AI (AI rfl (OL rfl)) (AI (AI rfl (OL rfl)) TT)))
  refine j6 (v := (decide (a2 ≥ ((a0.fA.map z7).length : Int)))) rfl TT (fun h4 => ?_) (fun h4 => ?_)
  ·have h := yb h4 h
   refine zn (zw ?_)
   refine uf ?_
   cases h
   exact AI (AI TT (AI rfl (NB rfl))) (AI TT (AI rfl (Vw.tupL (AI (Vw.aggL (S2 rfl rfl (AI (VS rfl) (AI (Vw.islF _ _ _) (AI (Vw.islF _ _ _) TT))))) (AI (VS rfl) TT)))))
  ·have h := q9 h4 h
   refine js ?_
   refine zn ?_
   refine zt5 rfl ?_
   obtain ⟨h5, h⟩ := yh h
   refine AI h5 ?_
   refine EX (z7 (a0.fA.getD a2.toNat default)) (AI (vz z7 _ _ (jq z7 h5)) (AI (AI (w7 h5) (NB rfl)) ?_))
   obtain ⟨v2, h6, h⟩ := bind_some h
   refine PFn.call (zn7 h6) (S2 rfl rfl TT) ?_
   refine LWp.sim (e := [(4, .ptr (0, 0) 0 0), (6, .ptr (1, 0) 0 0), (8, i6 v2)]) (L := [((0, 0), .one (z6 a1)), ((1, 0), .one [i6 0, i6 0, .str [], .isl 1 (([] : List (List UInt8)).map z7) true, .isl 5 (([] : List (List AVal)).map z8) true])]) (n := 2) ?_ ?_
   ·exact xx (M := [((0, 0), (1, 0)), ((1, 0), (2, 0))]) rfl (SP rfl (SP rfl (AI (VS rfl) TT))) (AI (AI rfl (OL rfl)) (AI (AI rfl (OL rfl)) TT))
   refine zn ?_
   refine zn (zw ?_)
   refine AI (fun hp => hp) ?_
   refine AI (fun hp => hp) ?_
   refine AI (fun hp => (AI hp hp)) ?_
   refine AI (fun hc => (bqf hc)) ?_
   refine LWp.sim (e := [(4, .ptr (0, 0) 0 0), (6, .ptr (1, 0) 0 0), (8, i6 v2), (39, .bool ((decide (v2 < 0)) || (decide (v2 ≥ ((a1.fE.map z8).length : Int)))))]) (L := [((0, 0), .one (z6 a1)), ((1, 0), .one [i6 0, i6 0, .str [], .isl 1 (([] : List (List UInt8)).map z7) true, .isl 5 (([] : List (List AVal)).map z8) true])]) (n := 2) ?_ ?_
   ·exact xx (M := [((0, 0), (0, 0)), ((1, 0), (1, 0))]) rfl (SP rfl (SP rfl (S2 rfl rfl TT))) (AI (AI rfl (OL rfl)) (AI (AI rfl (OL rfl)) TT))
   refine j6 (v := ((decide (v2 < 0)) || (decide (v2 ≥ ((a1.fE.map z8).length : Int))))) rfl TT (fun h7 => ?_) (fun h7 => ?_)
   ·have h := yb h7 h
    refine zn (zw ?_)
    refine uf ?_
    cases h
    exact AI (AI TT (AI rfl (NB rfl))) (AI TT (AI rfl (Vw.tupL (AI (Vw.aggL (S2 rfl rfl (AI (VS rfl) (AI (Vw.islF _ _ _) (AI (Vw.islF _ _ _) TT))))) (AI (VS rfl) TT)))))
   ·have h := q9 h7 h
    refine js ?_
    refine zn (zw ?_)
    obtain ⟨h8, h⟩ := yh h
    refine AI h8 ?_
    obtain ⟨v3, h9, h⟩ := bind_some h
    refine EX (z6 v3) (AI (xn (jq z8 h8) h9) (AI (AI (w7 h8) (NB rfl)) ?_))
    refine uf ?_
    cases h
    exact AI (AI TT (AI rfl (NB rfl))) (AI TT (AI rfl (VS rfl)))
theorem zrl {a0 : GJ} {a1 : GJ} {a2 : Int} {m : Option Nat} {o : GJ × Bool} (h : ja m a0 a1 a2 = some o) : PFn Tryd.prog 57 [.agg (z6 a0), .agg (z6 a1), i6 a2] (.tup [.agg (z6 o.1), .bool o.2]) := PFn.ofFnW (L := zsq) zqh zon (NB rfl) rfl (zfp h)
def z3x : LCode := (.seq (.region [Qo 50 (.bin .lss (.t 49) (.t 48))])
 (.seq (.cond (.t 50)
  .skip
  (.exit 0))
 (.seq (.block 1
  (.seq (.region [Qm 51 49,
   Qo 52 (.iaddr 5 (.t 47) (.t 49)),
   Qt 53 5 52,
   Qo 6 (.alloc [(i6 0), (i6 0), (.str []), (.isl 1 [] true), (.isl 5 [] true)]),
   Qm 5 51,
   ⟨none, .store 5 (.t 6) (.t 53), none⟩])
  (.seq (.region [Qt 55 5 2,
   Qt 56 5 3,
   Qm 57 5,
   Qo 58 (.call 57 [(.t 55), (.t 56), (.t 57)]),
   Qm 54 58,
   Qo 59 (.ext 0 (.t 54)),
   Qo 60 (.ext 1 (.t 54)),
   Qo 7 (.alloc [(i6 0), (i6 0), (.str []), (.isl 1 [] true), (.isl 5 [] true)]),
   ⟨none, .store 5 (.t 7) (.t 59), none⟩,
   Qm 8 60])
  (.seq (.region [Qm 61 8,
   Qo 62 (.un .not (.t 61)),
   Qm 63 62,
   Qg 64 (.load true 5 (.t 6)) (63, false),
   Qg 65 (.load true 5 (.t 7)) (63, false),
   Qg 66 (.call 35 [(.t 64), (.t 65)]) (63, false),
   Qg 67 (.un .not (.t 66)) (63, false),
   Qo 68 (.pick (.t 63) (.c (.bool true)) (.t 67))])
  (.cond (.t 68)
   (.seq (.region [Qb 4])
   .ret)
   .skip)))))
 (.region [Qo 69 (.bin .add (.t 49) (.c (i6 1))),
  Qm 49 69]))))
def Kl : LCode := (.seq (.region [Qo 4 (.mv (.c (.bool true)))])
 .ret)
def zba : LCode := (.seq (.region [Qo 2 (.box (.t 0)),
 Qo 3 (.box (.t 1)),
 Qb 4])
 (.seq (.seq (.region [Qf 9 0 2,
  Ql 10 1 9,
  Qf 11 0 3,
  Ql 12 1 11,
  Qo 13 (.bin .neq (.t 10) (.t 12)),
  Qm 14 13,
  Qe 15 1 2 (14, false),
  Qk 16 1 15 (14, false),
  Qe 17 1 3 (14, false),
  Qk 18 1 17 (14, false),
  Qg 19 (.bin .neq (.t 16) (.t 18)) (14, false),
  Qo 20 (.pick (.t 14) (.c (.bool true)) (.t 19)),
  Qm 21 20,
  Qe 22 2 2 (21, false),
  Qk 23 1 22 (21, false),
  Qe 24 2 3 (21, false),
  Qk 25 1 24 (21, false),
  Qg 26 (.bin .neq (.t 23) (.t 25)) (21, false),
  Qo 27 (.pick (.t 21) (.c (.bool true)) (.t 26)),
  Qm 28 27,
  Qe 29 4 2 (28, false),
  Qk 30 1 29 (28, false),
  Qg 31 (.len false (.t 30)) (28, false),
  Qe 32 4 3 (28, false),
  Qk 33 1 32 (28, false),
  Qg 34 (.len false (.t 33)) (28, false),
  Qg 35 (.bin .neq (.t 31) (.t 34)) (28, false),
  Qo 36 (.pick (.t 28) (.c (.bool true)) (.t 35)),
  Qm 37 36,
  Qe 38 3 2 (37, false),
  Qk 39 1 38 (37, false),
  Qg 40 (.len false (.t 39)) (37, false),
  Qe 41 3 3 (37, false),
  Qk 42 1 41 (37, false),
  Qg 43 (.len false (.t 42)) (37, false),
  Qg 44 (.bin .neq (.t 40) (.t 43)) (37, false),
  Qo 45 (.pick (.t 37) (.c (.bool true)) (.t 44))])
 (.cond (.t 45)
  (.seq (.region [Qb 4])
  .ret)
  .skip))
 (.seq (.seq (.region [Qf 46 4 2,
  Ql 47 1 46,
  Qo 48 (.len false (.t 47)),
  Qi 49 0])
 (.block 0
  (.loop
   z3x)))
 Kl)))
def Zm : Lay := ⟨70, [], false⟩
def z7l : List LRes := [.t 4]
def zf2 : LFn := ⟨2, Zm, zba, z7l⟩
theorem zig : kb Tryd.prog [] 35 = some zf2 := by kernel_rfl
theorem zew : Yh Tryd.prog 35 := ⟨_, Tryd.func35, rfl, rfl⟩
def z4n (a0 : GJ) (a1 : GJ) (o : Bool) : Exit → Env → AHeap → Nat → Prop := Jo z7l (Jd 3 3 (.bool o) [])
def Vv (a0 : GJ) (a1 : GJ) (s : Int) : Env := [(2, .ptr (3, 0) 0 0), (3, .ptr (4, 0) 0 0), (47, .isl 5 (a0.fE.map z8) false), (48, i6 ((a0.fE.map z8).length : Int)), (49, i6 s)]
def z09 (a0 : GJ) (a1 : GJ) (s : Int) : AHeap := [((3, 0), .one (z6 a0)), ((4, 0), .one (z6 a1))]
def z2f (a0 : GJ) (a1 : GJ) (o : Bool) : Exit → Env → AHeap → Nat → Prop := (x6 0 (Y4 Tryd.prog Zm 3 Kl (z4n a0 a1 o)))
noncomputable def vh (rec6 : GJ → GJ → Option Bool) (m : Option Nat) : Option Bool :=
 some true
noncomputable def qx (rec6 : GJ → GJ → Option Bool) (m : Option Nat) (a0 : GJ) (a1 : GJ) (v4 : Int) : Option (Int ⊕ Bool) :=
 if (decide (v4 < ((a0.fE.map z8).length : Int))) = true then
  if (0 : Int) ≤ v4 ∧ v4 < ((a0.fE.map z8).length : Int) then
  ((vg (a0.fE.getD v4.toNat default))).bind fun v8 =>
  (ja m a0 a1 v4).bind fun v9 =>
  (if ((!v9.2) == false) = true then rec6 v8 (GJ.mk v9.1.fK v9.1.fN v9.1.fT v9.1.fA v9.1.fE) else some default).bind fun v10 =>
  if ((!v9.2) || (!v10)) = true then
   Option.map Sum.inr (
    some false)
  else
   some (.inl (W (v4 + 1)))
  else none
 else
  Option.map Sum.inr (
   vh rec6 m)
noncomputable def xq (rec6 : GJ → GJ → Option Bool) (m : Option Nat) (a0 : GJ) (a1 : GJ) (v4 : Int) : Option Bool := uq m (fun (s : Int) => qx rec6 m a0 a1 s) v4
abbrev Hr6 (rec6 : GJ → GJ → Option Bool) : Prop := ∀ {a0 : GJ} {a1 : GJ} {o : Bool}, rec6 a0 a1 = some o → ACalls Tryd.prog 35 [.agg (z6 a0), .agg (z6 a1)] [] 3 (wt 3 (.bool o) [])
theorem z8p {rec6 : GJ → GJ → Option Bool} (hrec6 : Hr6 rec6) {a0 : GJ} {a1 : GJ} {m : Option Nat} {o : Bool} (h : vh rec6 m = some o) :
 LWp Tryd.prog Zm 3 Kl (z4n a0 a1 o) [] [] 3 := by
 unfold vh at h
 refine zn (zw ?_)
 refine uf ?_
 cases h
 exact AI TT (z40 (n' := 3) [] [] rfl rfl (VS rfl) TT)
theorem z7k {rec6 : GJ → GJ → Option Bool} (hrec6 : Hr6 rec6) {a0 : GJ} {a1 : GJ} {v4 : Int} {m : Option Nat} {o : Int ⊕ Bool} (h : qx rec6 m a0 a1 v4 = some o) :
 LWp Tryd.prog Zm 3 z3x (ko 3 5 (Vv a0 a1) (z09 a0 a1) (z2f a0 a1) o) [(2, .ptr (3, 0) 0 0), (3, .ptr (4, 0) 0 0), (47, .isl 5 (a0.fE.map z8) false), (48, i6 ((a0.fE.map z8).length : Int)), (49, i6 v4)] [((3, 0), .one (z6 a0)), ((4, 0), .one (z6 a1))] 5 := by
 unfold qx at h
 refine zn (zw ?_)
 refine zn ?_
 refine j6 (v := (decide (v4 < ((a0.fE.map z8).length : Int)))) rfl TT (fun h14 => ?_) (fun h14 => ?_)
 ·have h := yb h14 h
  refine js ?_
  refine zn ?_
  refine j4 ?_
  refine zn (zw ?_)
  obtain ⟨h15, h⟩ := yh h
  refine AI h15 ?_
  obtain ⟨v8, h16, h⟩ := bind_some h
  refine EX (z6 v8) (AI (xn (jq z8 h15) h16) (AI (AI (w7 h15) (NB rfl)) ?_))
  refine zn (zw ?_)
  obtain ⟨v9, h17, h⟩ := bind_some h
  refine PFn.call (zrl h17) (S2 rfl rfl (AI (VS rfl) TT)) ?_
  refine LWp.sim (e := [(2, .ptr (3, 0) 0 0), (3, .ptr (4, 0) 0 0), (6, .ptr (5, 0) 0 0), (7, .ptr (6, 0) 0 0), (8, .bool v9.2), (47, .isl 5 (a0.fE.map z8) false), (48, i6 ((a0.fE.map z8).length : Int)), (49, i6 v4)]) (L := [((3, 0), .one (z6 a0)), ((4, 0), .one (z6 a1)), ((5, 0), .one (z6 v8)), ((6, 0), .one (z6 v9.1))]) (n := 7) ?_ ?_
  ·exact xx (M := [((3, 0), (3, 0)), ((4, 0), (4, 0)), ((5, 0), (5, 0)), ((6, 0), (6, 0))]) rfl (SP rfl (SP rfl (SP rfl (SP rfl (S4 rfl rfl rfl rfl TT))))) (AI (AI rfl (OL rfl)) (AI (AI rfl (OL rfl)) (AI (AI rfl (OL rfl)) (AI (AI rfl (OL rfl)) TT))))
  refine zn (zw ?_)
  obtain ⟨v10, h18, h⟩ := bind_some h
  refine Or.inl (EX (.bool v10) (AI (fun hp => AI (AI hp hp) (ACalls.same rfl (Q5 (k := 3) (m := 0) (L' := []) (rest := [((3, 0), .one (z6 a0)), ((4, 0), .one (z6 a1)), ((5, 0), .one (z6 v8)), ((6, 0), .one (z6 v9.1))]) (R' := .bool v10) [] (hrec6 (yb hp h18)) rfl rfl rfl (S2 rfl rfl TT) TT (we _ rfl) TT rfl (AI rfl (HeapTo.get (AI (AI rfl (OL rfl)) (AI (AI rfl (OL rfl)) (AI (AI rfl (OL rfl)) (AI (AI rfl (OL rfl)) TT))))))))) ?_))
  refine AI (fun hp => hp) ?_
  refine AI (fun hc => (bqf hc)) ?_
  refine LWp.sim (e := [(2, .ptr (3, 0) 0 0), (3, .ptr (4, 0) 0 0), (47, .isl 5 (a0.fE.map z8) false), (48, i6 ((a0.fE.map z8).length : Int)), (49, i6 v4), (68, .bool ((!v9.2) || (!v10)))]) (L := [((3, 0), .one (z6 a0)), ((4, 0), .one (z6 a1))]) (n := 5) ?_ ?_
  ·exact xx (M := [((3, 0), (3, 0)), ((4, 0), (4, 0))]) rfl (SP rfl (SP rfl (S4 rfl rfl rfl rfl TT))) (AI (AI rfl (OL rfl)) (AI (AI rfl (OL rfl)) TT))
  refine j6 (v := ((!v9.2) || (!v10))) rfl TT (fun h19 => ?_) (fun h19 => ?_)
  ·have h := yb h19 h
   refine zn (zw ?_)
   refine uf ?_
   obtain ⟨o, hq, rfl⟩ := Option.map_eq_some_iff.1 h
   replace h := hq; clear hq
   refine AI nofun ?_
   cases h
   exact AI TT (z40 (n' := 5) [] [] rfl rfl (VS rfl) TT)
  ·have h := q9 h19 h
   refine js ?_
   refine zw ?_
   cases h
   exact AI rfl (xx (M := [((3, 0), (3, 0)), ((4, 0), (4, 0))]) rfl (SP rfl (SP rfl (S2 rfl rfl (AI (VS rfl) TT)))) (AI (AI rfl (OL rfl)) (AI (AI rfl (OL rfl)) TT)))
 ·have h := q9 h14 h
  refine Yx ?_
  obtain ⟨o, hq, rfl⟩ := Option.map_eq_some_iff.1 h
  replace h := hq; clear hq
  refine AI nofun ?_
  refine LWp.sim ?_ (z8p hrec6 h)
  exact xx (M := []) rfl TT TT
theorem z7w {rec6 : GJ → GJ → Option Bool} (hrec6 : Hr6 rec6) {a0 : GJ} {a1 : GJ} {v4 : Int} {m : Option Nat} {o : Bool} (h : xq rec6 m a0 a1 v4 = some o) :
 LWp Tryd.prog Zm 3 (.loop z3x) (x6 0 (Y4 Tryd.prog Zm 3 Kl (z4n a0 a1 o))) [(2, .ptr (3, 0) 0 0), (3, .ptr (4, 0) 0 0), (47, .isl 5 (a0.fE.map z8) false), (48, i6 ((a0.fE.map z8).length : Int)), (49, i6 v4)] [((3, 0), .one (z6 a0)), ((4, 0), .one (z6 a1))] 5 :=
 ji (m := m) (s := (v4 : Int)) (r := o) (fun (s : Int) => qx rec6 m a0 a1 s) (Vv a0 a1) (z09 a0 a1) (z2f a0 a1) (fun s o h => z7k hrec6 h) h
noncomputable def xa (rec6 : GJ → GJ → Option Bool) (m : Option Nat) (a0 : GJ) (a1 : GJ) : Option Bool :=
 if (((((a0.fK != a1.fK) || (a0.fN != a1.fN)) || (!(a0.fT == a1.fT))) || (((a0.fE.map z8).length : Int) != ((a1.fE.map z8).length : Int))) || (((a0.fA.map z7).length : Int) != ((a1.fA.map z7).length : Int))) = true then
  some false
 else
  xq rec6 m a0 a1 0
theorem z9b {rec6 : GJ → GJ → Option Bool} (hrec6 : Hr6 rec6) {a0 : GJ} {a1 : GJ} {m : Option Nat} {o : Bool} (h : xa rec6 m a0 a1 = some o) : LWp Tryd.prog Zm 3 zba (z4n a0 a1 o) (xb 0 [.agg (z6 a0), .agg (z6 a1)]) [] 3 := by
 unfold xa at h
 refine zn (zw ?_)
 refine zn ?_
 refine zn (zw ?_)
 refine AI (fun hp => hp) ?_
 refine AI (fun hp => hp) ?_
 refine AI (fun hp => (AI hp hp)) ?_
 refine AI (fun hc => (bqf hc)) ?_
 refine AI (fun hp => hp) ?_
 refine AI (fun hp => hp) ?_
 refine AI (fun hp => (AI hp hp)) ?_
 refine AI (fun hc => (bqf hc)) ?_
 refine AI (fun hp => hp) ?_
 refine AI (fun hp => hp) ?_
 refine AI (fun hp => hp) ?_
 refine AI (fun hp => hp) ?_
 refine AI (fun hp => (AI hp hp)) ?_
 refine AI (fun hc => (bqf hc)) ?_
 refine AI (fun hp => hp) ?_
 refine AI (fun hp => hp) ?_
 refine AI (fun hp => hp) ?_
 refine AI (fun hp => hp) ?_
 refine AI (fun hp => (AI hp hp)) ?_
 refine AI (fun hc => (bqf hc)) ?_
 refine LWp.sim (e := [(2, .ptr (3, 0) 0 0), (3, .ptr (4, 0) 0 0), (45, .bool (((((a0.fK != a1.fK) || (a0.fN != a1.fN)) || (!(a0.fT == a1.fT))) || (((a0.fE.map z8).length : Int) != ((a1.fE.map z8).length : Int))) || (((a0.fA.map z7).length : Int) != ((a1.fA.map z7).length : Int))))]) (L := [((3, 0), .one (z6 a0)), ((4, 0), .one (z6 a1))]) (n := 5) ?_ ?_
 ·exact xx (M := [((3, 0), (3, 0)), ((4, 0), (4, 0))]) rfl (SP rfl (SP rfl (AI (VS rfl) TT))) (AI (AI rfl (OL rfl)) (AI (AI rfl (OL rfl)) TT))
 refine j6 (v := (((((a0.fK != a1.fK) || (a0.fN != a1.fN)) || (!(a0.fT == a1.fT))) || (((a0.fE.map z8).length : Int) != ((a1.fE.map z8).length : Int))) || (((a0.fA.map z7).length : Int) != ((a1.fA.map z7).length : Int)))) rfl TT (fun h1 => ?_) (fun h1 => ?_)
 ·have h := yb h1 h
  refine zn (zw ?_)
  refine uf ?_
  cases h
  exact AI TT (z40 (n' := 5) [] [] rfl rfl (VS rfl) TT)
 ·have h := q9 h1 h
  refine js ?_
  refine zn ?_
  refine zn (zw ?_)
  refine j4 ?_
  refine LWp.sim ?_ (z7w hrec6 h)
  exact xx (M := [((3, 0), (3, 0)), ((4, 0), (4, 0))]) rfl (SP rfl (SP rfl (S2 rfl rfl (AI (VS rfl) TT)))) (AI (AI rfl (OL rfl)) (AI (AI rfl (OL rfl)) TT))
theorem zc9 {rec6 : GJ → GJ → Option Bool} (hrec6 : Hr6 rec6) {a0 : GJ} {a1 : GJ} {m : Option Nat} {o : Bool} (h : xa rec6 m a0 a1 = some o) : ACalls Tryd.prog 35 [.agg (z6 a0), .agg (z6 a1)] [] 3 (wt 3 (.bool o) []) := X7 (L := zf2) zig zew (NB rfl) (z9b hrec6 h)
noncomputable def xy (m : Option Nat) : Nat → GJ → GJ → Option Bool
 | 0 => fun _ _ => none
 | k + 1 => xa (xy m k) m
noncomputable def vw (m : Option Nat) (a0 : GJ) (a1 : GJ) : Option Bool := zdm m (fun k => xy m k a0 a1)
theorem z5j {m : Option Nat} : ∀ (k : Nat) {a0 : GJ} {a1 : GJ} {o : Bool}, xy m k a0 a1 = some o → ACalls Tryd.prog 35 [.agg (z6 a0), .agg (z6 a1)] [] 3 (wt 3 (.bool o) [])
 | 0, _, _, _, h => nomatch h
 | k + 1, _, _, _, h => zc9 (fun h => z5j k h) h
theorem zjq {a0 : GJ} {a1 : GJ} {m : Option Nat} {o : Bool} (h : vw m a0 a1 = some o) : ACalls Tryd.prog 35 [.agg (z6 a0), .agg (z6 a1)] [] 3 (wt 3 (.bool o) []) := (Z4 h).elim fun k h => z5j k h
noncomputable def Zt (m : Option Nat) (a0 : GJ) (a1 : GJ) : Option Bool := xa (vw m) m a0 a1
theorem zrk {a0 : GJ} {a1 : GJ} {m : Option Nat} {o : Bool} (h : Zt m a0 a1 = some o) : PFn Tryd.prog 35 [.agg (z6 a0), .agg (z6 a1)] (.bool o) :=
 ⟨rfl, _, Q5 (k := 3) (m := 0) (L' := []) (rest := []) (R' := .bool o) [] (zc9 zjq h) rfl rfl rfl (S2 rfl rfl TT) TT (we _ rfl) TT rfl ⟨rfl, rfl, rfl⟩⟩
def zne : LCode := (.seq (.region [Qo 2 (.box (.t 0)),
 Qo 3 (.box (.t 1)),
 Qb 4])
 (.seq (.region [Qt 5 5 2,
  Qc 6 9 5,
  Qo 7 (.bin .eql (.t 6) (.c (i6 0))),
  Qm 8 7,
  Qg 9 (.load true 5 (.t 3)) (8, true),
  Qg 10 (.call 9 [(.t 9)]) (8, true),
  Qg 11 (.bin .eql (.t 10) (.c (i6 0))) (8, true),
  Qp 12 8 11,
  Qm 13 12,
  Qg 14 (.load true 5 (.t 2)) (13, true),
  Qg 15 (.load true 5 (.t 3)) (13, true),
  Qg 16 (.call 35 [(.t 14), (.t 15)]) (13, true),
  Qp 17 13 16,
  Qm 4 17])
 .ret))
def ziv : Lay := ⟨18, [], false⟩
def zic : List LRes := [.t 4]
def zrn : LFn := ⟨2, ziv, zne, zic⟩
theorem zor : kb Tryd.prog [] 15 = some zrn := by kernel_rfl
theorem zpn : Yh Tryd.prog 15 := ⟨_, Tryd.func15, rfl, rfl⟩
noncomputable def wv (m : Option Nat) (a0 : GJ) (a1 : GJ) : Option Bool :=
 (jg m a0).bind fun v1 =>
 (if ((v1 == 0) == true) = true then jg m a1 else some default).bind fun v2 =>
 (if (((v1 == 0) && (v2 == 0)) == true) = true then Zt m a0 a1 else some default).bind fun v3 =>
 some (((v1 == 0) && (v2 == 0)) && v3)
def zux (a0 : GJ) (a1 : GJ) (o : Bool) : Exit → Env → AHeap → Nat → Prop := Jo zic (kc (.bool o))
theorem zhw {a0 : GJ} {a1 : GJ} {m : Option Nat} {o : Bool} (h : wv m a0 a1 = some o) : LWp Tryd.prog ziv 0 zne (zux a0 a1 o) (xb 0 [.agg (z6 a0), .agg (z6 a1)]) [] 0 := by
 unfold wv at h
 refine zn (zw ?_)
 refine zn (zw ?_)
 obtain ⟨v1, h1, h⟩ := bind_some h
 refine PFn.call (zse h1) (AI (VS rfl) TT) ?_
 obtain ⟨v2, h2, h⟩ := bind_some h
 refine Or.inl (EX (i6 v2) (AI (fun hp => AI hp (PFn.call (zse (yb hp h2)) (AI (VS rfl) TT) (AI rfl (AI rfl rfl)))) ?_))
 refine AI (fun hp => hp) ?_
 refine AI (fun hc => (bqt hc)) ?_
 obtain ⟨v3, h3, h⟩ := bind_some h
 refine Or.inl (EX (.bool v3) (AI (fun hp => AI (AI hp hp) (PFn.call (zrk (yb hp h3)) (S2 rfl rfl TT) (AI rfl (AI rfl rfl)))) ?_))
 refine AI (fun hc => (bqt hc)) ?_
 refine LWp.sim (e := [(4, .bool (((v1 == 0) && (v2 == 0)) && v3))]) (L := []) (n := 0) ?_ ?_
 ·exact xx (M := []) rfl (AI (VS rfl) TT) TT
 refine uf ?_
 cases h
 exact AI TT (AI rfl (VS rfl))
theorem zty {a0 : GJ} {a1 : GJ} {m : Option Nat} {o : Bool} (h : wv m a0 a1 = some o) : PFn Tryd.prog 15 [.agg (z6 a0), .agg (z6 a1)] (.bool o) := PFn.ofFnW (L := zrn) zor zpn (NB rfl) rfl (zhw h)
def z33 : LCode := (.seq (.seq (.quiet [Qm 26 6,
 Qo 27 (.bin .gtr (.t 26) (.c (i6 0))),
 Qm 28 27,
 Qe 29 3 3 (28, true),
 Qk 30 1 29 (28, true),
 Qn 31 6 (28, true),
 Qg 32 (.bin .sub (.t 31) (.c (i6 1))) (28, true),
 Qg 33 (.iaddr 1 (.t 30) (.t 32)) (28, true),
 Qk 34 1 33 (28, true),
 Qe 35 3 1 (28, true),
 Qk 36 1 35 (28, true),
 Qn 37 4 (28, true),
 Qg 38 (.iaddr 1 (.t 36) (.t 37)) (28, true),
 Qk 39 1 38 (28, true),
 Qg 40 (.bin .gtr (.t 34) (.t 39)) (28, true),
 Qp 41 28 40])
 (.cond (.t 41)
  .skip
  (.exit 2)))
 (.block 3
  (.region [Qm 42 6,
   Qo 43 (.bin .sub (.t 42) (.c (i6 1))),
   Qm 6 43])))
def Kt : LCode := (.draw [⟨Qf 44 3 3, []⟩,
 ⟨Ql 45 1 44, []⟩,
 ⟨Qm 46 6, []⟩,
 ⟨Qm 47 6, []⟩,
 ⟨Qo 48 (.slSl 1 (.t 45) none (some (.t 46)) (some (.t 47))), []⟩,
 ⟨Qf 49 3 1, []⟩,
 ⟨Ql 50 1 49, []⟩,
 ⟨Qm 51 4, []⟩,
 ⟨Qo 52 (.iaddr 1 (.t 50) (.t 51)), []⟩,
 ⟨Ql 53 1 52, []⟩,
 ⟨Qf 55 3 3, []⟩,
 ⟨Ql 56 1 55, []⟩,
 ⟨Qm 57 6, []⟩,
 ⟨Qo 58 (.slSl 1 (.t 56) (some (.t 57)) none none), []⟩,
 ⟨Qo 54 (.mkSl true 1 [(.str [])] 1 [(0, (.t 53))]), []⟩,
 ⟨Qo 59 (.app true 1 16 (.t 54) (.t 58)), [1]⟩,
 ⟨Qo 60 (.app true 1 16 (.t 48) (.t 59)), []⟩,
 ⟨Qf 61 3 3, []⟩,
 ⟨⟨none, .store 1 (.t 61) (.t 60), none⟩, []⟩])
def Wu : LCode := (.draw [⟨Qf 62 4 3, []⟩,
 ⟨Ql 63 1 62, []⟩,
 ⟨Qm 64 6, []⟩,
 ⟨Qm 65 6, []⟩,
 ⟨Qo 66 (.slSl 5 (.t 63) none (some (.t 64)) (some (.t 65))), []⟩,
 ⟨Qt 67 5 5, []⟩,
 ⟨Qf 69 4 3, []⟩,
 ⟨Ql 70 1 69, []⟩,
 ⟨Qm 71 6, []⟩,
 ⟨Qo 72 (.slSl 5 (.t 70) (some (.t 71)) none none), []⟩,
 ⟨Qo 68 (.mkSl true 5 [(i6 0), (i6 0), (.str []), (.isl 1 [] true), (.isl 5 [] true)] 1 [(0, (.t 67))]), []⟩,
 ⟨Qo 73 (.app true 5 80 (.t 68) (.t 72)), [1]⟩,
 ⟨Qo 74 (.app true 5 80 (.t 66) (.t 73)), []⟩,
 ⟨Qf 75 4 3, []⟩,
 ⟨⟨none, .store 1 (.t 75) (.t 74), none⟩, []⟩])
def Xr : LCode := (.region [Qo 76 (.bin .add (.t 13) (.c (i6 1))),
 Qm 13 76])
def z37 : LCode := (.seq (.region [Qo 14 (.bin .lss (.t 13) (.t 12))])
 (.seq (.cond (.t 14)
  .skip
  (.exit 0))
 (.seq (.block 1
  (.seq (.region [Qm 15 13,
   Qo 16 (.iaddr 5 (.t 11) (.t 13)),
   Qt 17 5 16,
   Qo 5 (.alloc [(i6 0), (i6 0), (.str []), (.isl 1 [] true), (.isl 5 [] true)]),
   Qm 4 15,
   ⟨none, .store 5 (.t 5) (.t 17), none⟩])
  (.seq (.region [Qt 18 5 5,
   Qc 19 36 18,
   ⟨none, .store 5 (.t 5) (.t 19), none⟩])
  (.seq (.region [Qf 20 4 3,
   Ql 21 1 20,
   Qo 22 (.len false (.t 21)),
   Qm 6 22])
  (.seq (.seq (.region [Qf 23 0 1,
   Ql 24 1 23,
   Qo 25 (.bin .eql (.t 24) (.c (i6 5)))])
  (.cond (.t 25)
   (.seq (.block 2
    (.loop
     z33))
   Kt)
   .skip))
  Wu)))))
 Xr)))
def Ku : LCode := (.seq (.region [Qt 77 5 3,
 ⟨none, .store 5 (.t 2) (.t 77), none⟩])
 .ret)
def zb3 : LCode := (.seq (.region [Qo 1 (.box (.t 0)),
 Qo 2 (.alloc [(i6 0), (i6 0), (.str []), (.isl 1 [] true), (.isl 5 [] true)])])
 (.seq (.region [Qt 7 5 1,
  Qo 3 (.alloc [(i6 0), (i6 0), (.str []), (.isl 1 [] true), (.isl 5 [] true)]),
  ⟨none, .store 5 (.t 3) (.t 7), none⟩])
 (.seq (.region [Qf 8 3 3,
  ⟨none, .store 1 (.t 8) (.c (.val (.slice none 0 0))), none⟩,
  Qf 9 4 3,
  ⟨none, .store 1 (.t 9) (.c (.val (.slice none 0 0))), none⟩])
 (.seq (.seq (.region [Qf 10 4 1,
  Ql 11 1 10,
  Qo 12 (.len false (.t 11)),
  Qi 13 0])
 (.block 0
  (.loop
   z37)))
 Ku))))
def j0 : Lay := ⟨78, [], false⟩
def z74 : List LRes := [.cell 2 true 5]
def zg6 : LFn := ⟨1, j0, zb3, z74⟩
theorem zid : kb Tryd.prog [] 36 = some zg6 := by kernel_rfl
theorem zh8 : Yh Tryd.prog 36 := ⟨_, Tryd.func36, rfl, rfl⟩
def z2u (a0 : GJ) (o : GJ) : Exit → Env → AHeap → Nat → Prop := Jo z74 (Jd 3 3 (.agg (z6 o)) [])
def kf (a0 : GJ) (s : (Int × (List (List UInt8)) × (List (List AVal)))) : Env := [(1, .ptr (3, 0) 0 0), (2, .ptr (4, 0) 0 0), (3, .ptr (5, 0) 0 0), (11, .isl 5 (a0.fE.map z8) false), (12, i6 ((a0.fE.map z8).length : Int)), (13, i6 s.1)]
def kz (a0 : GJ) (s : (Int × (List (List UInt8)) × (List (List AVal)))) : AHeap := [((3, 0), .one (z6 a0)), ((4, 0), .one [i6 0, i6 0, .str [], .isl 1 (([] : List (List UInt8)).map z7) true, .isl 5 (([] : List (List AVal)).map z8) true]), ((5, 0), .one [i6 a0.fK, i6 a0.fN, .str a0.fT, .osl (6, 0) 1 (s.2.1.map z7), .osl (7, 0) 5 (s.2.2.map z8)]), ((6, 0), .tok), ((7, 0), .tok)]
def uj (a0 : GJ) (o : GJ) : Exit → Env → AHeap → Nat → Prop := (x6 0 (Y4 Tryd.prog j0 3 Ku (z2u a0 o)))
def Vq (a0 : GJ) (v6 : Int) (v7 : List (List UInt8)) (v8 : List (List AVal)) (v15 : GJ) (s : Int) : Env := [(1, .ptr (3, 0) 0 0), (2, .ptr (4, 0) 0 0), (3, .ptr (5, 0) 0 0), (4, i6 v6), (5, .ptr (6, 0) 0 0), (6, i6 s), (11, .isl 5 (a0.fE.map z8) false), (12, i6 ((a0.fE.map z8).length : Int)), (13, i6 v6)]
def z0v (a0 : GJ) (v6 : Int) (v7 : List (List UInt8)) (v8 : List (List AVal)) (v15 : GJ) (s : Int) : AHeap := [((3, 0), .one (z6 a0)), ((4, 0), .one [i6 0, i6 0, .str [], .isl 1 (([] : List (List UInt8)).map z7) true, .isl 5 (([] : List (List AVal)).map z8) true]), ((5, 0), .one [i6 a0.fK, i6 a0.fN, .str a0.fT, .osl (7, 0) 1 (v7.map z7), .osl (8, 0) 5 (v8.map z8)]), ((6, 0), .one (z6 v15)), ((7, 0), .tok), ((8, 0), .tok)]
def z2h (a0 : GJ) (o : ((Int × (List (List UInt8)) × (List (List AVal))) ⊕ GJ)) : Exit → Env → AHeap → Nat → Prop := (x6 2 (Y4 Tryd.prog j0 3 Kt (Y4 Tryd.prog j0 3 Wu (x6 1 (Y4 Tryd.prog j0 3 Xr (ko 3 8 (kf a0) (kz a0) (uj a0) o))))))
noncomputable def xi (rec7 : GJ → Option GJ) (m : Option Nat) (a0 : GJ) (v6 : Int) (v8 : List (List AVal)) (v15 : GJ) (v17 : Int) (v18 : List (List UInt8)) : Option ((Int × (List (List UInt8)) × (List (List AVal))) ⊕ GJ) :=
 some (.inl ((W (v6 + 1)), v18, ((v8.take v17.toNat) ++ (([z6 v15] : List (List AVal)) ++ (v8.drop v17.toNat)))))
noncomputable def y3 (rec7 : GJ → Option GJ) (m : Option Nat) (a0 : GJ) (v6 : Int) (v8 : List (List AVal)) (v15 : GJ) (v17 : Int) (v18 : List (List UInt8)) : Option ((Int × (List (List UInt8)) × (List (List AVal))) ⊕ GJ) :=
 if (0 : Int) ≤ 0 ∧ 0 ≤ v17 ∧ v17 ≤ v17 ∧ v17 ≤ ((v8.map z8).length : Int) then
 if (0 : Int) ≤ v17 ∧ v17 ≤ ((v8.map z8).length : Int) then
 if ((([z6 v15] : List (List AVal)) ++ (v8.drop v17.toNat)).map z8).length * 80 ≤ 140737488355328 then
 if (decide (v17 = v17)) = true then
 if (((v8.take v17.toNat) ++ (([z6 v15] : List (List AVal)) ++ (v8.drop v17.toNat))).map z8).length * 80 ≤ 140737488355328 then
 xi rec7 m a0 v6 v8 v15 v17 v18
 else none
 else none
 else none
 else none
 else none
noncomputable def y1 (rec7 : GJ → Option GJ) (m : Option Nat) (a0 : GJ) (v6 : Int) (v7 : List (List UInt8)) (v8 : List (List AVal)) (v15 : GJ) (v16 : Int) : Option ((Int × (List (List UInt8)) × (List (List AVal))) ⊕ GJ) :=
 if (0 : Int) ≤ 0 ∧ 0 ≤ v16 ∧ v16 ≤ v16 ∧ v16 ≤ ((v7.map z7).length : Int) then
 if (0 : Int) ≤ v6 ∧ v6 < ((a0.fA.map z7).length : Int) then
 if (0 : Int) ≤ v16 ∧ v16 ≤ ((v7.map z7).length : Int) then
 if ((([(a0.fA.getD v6.toNat default)] : List (List UInt8)) ++ (v7.drop v16.toNat)).map z7).length * 16 ≤ 140737488355328 then
 if (decide (v16 = v16)) = true then
 if (((v7.take v16.toNat) ++ (([(a0.fA.getD v6.toNat default)] : List (List UInt8)) ++ (v7.drop v16.toNat))).map z7).length * 16 ≤ 140737488355328 then
 y3 rec7 m a0 v6 v8 v15 v16 ((v7.take v16.toNat) ++ (([(a0.fA.getD v6.toNat default)] : List (List UInt8)) ++ (v7.drop v16.toNat)))
 else none
 else none
 else none
 else none
 else none
 else none
noncomputable def y4 (rec7 : GJ → Option GJ) (m : Option Nat) (a0 : GJ) (v6 : Int) (v7 : List (List UInt8)) (v8 : List (List AVal)) (v15 : GJ) (v16 : Int) : Option (Int ⊕ ((Int × (List (List UInt8)) × (List (List AVal))) ⊕ GJ)) :=
 if (((decide (v16 > 0)) == true) = true → (0 : Int) ≤ (W (v16 - 1)) ∧ (W (v16 - 1)) < ((v7.map z7).length : Int)) then
 if (((decide (v16 > 0)) == true) = true → (0 : Int) ≤ v6 ∧ v6 < ((a0.fA.map z7).length : Int)) then
 if ((decide (v16 > 0)) && (!(Op.bytesLess (v7.getD ((W (v16 - 1)).toNat) default) (a0.fA.getD v6.toNat default) || (v7.getD ((W (v16 - 1)).toNat) default) == (a0.fA.getD v6.toNat default)))) = true then
  some (.inl (W (v16 - 1)))
 else
  Option.map Sum.inr (
   y1 rec7 m a0 v6 v7 v8 v15 v16)
 else none
 else none
noncomputable def yj (rec7 : GJ → Option GJ) (m : Option Nat) (a0 : GJ) (v6 : Int) (v7 : List (List UInt8)) (v8 : List (List AVal)) (v15 : GJ) (v16 : Int) : Option ((Int × (List (List UInt8)) × (List (List AVal))) ⊕ GJ) := uq m (fun (s : Int) => y4 rec7 m a0 v6 v7 v8 v15 s) v16
abbrev Hr7 (rec7 : GJ → Option GJ) : Prop := ∀ {a0 : GJ} {o : GJ}, rec7 a0 = some o → ACalls Tryd.prog 36 [.agg (z6 a0)] [] 3 (wt 3 (.agg (z6 o)) [])
theorem z8b {rec7 : GJ → Option GJ} (hrec7 : Hr7 rec7) {a0 : GJ} {v6 : Int} {v8 : List (List AVal)} {v15 : GJ} {v17 : Int} {v18 : List (List UInt8)} {m : Option Nat} {o : ((Int × (List (List UInt8)) × (List (List AVal))) ⊕ GJ)} (h : xi rec7 m a0 v6 v8 v15 v17 v18 = some o) :
 LWp Tryd.prog j0 3 Xr (ko 3 8 (kf a0) (kz a0) (uj a0) o) [(1, .ptr (3, 0) 0 0), (2, .ptr (4, 0) 0 0), (3, .ptr (5, 0) 0 0), (11, .isl 5 (a0.fE.map z8) false), (12, i6 ((a0.fE.map z8).length : Int)), (13, i6 v6)] [((3, 0), .one (z6 a0)), ((4, 0), .one [i6 0, i6 0, .str [], .isl 1 (([] : List (List UInt8)).map z7) true, .isl 5 (([] : List (List AVal)).map z8) true]), ((5, 0), .one [i6 a0.fK, i6 a0.fN, .str a0.fT, .osl (6, 0) 1 (v18.map z7), .osl (7, 0) 5 (((v8.take v17.toNat) ++ (([z6 v15] : List (List AVal)) ++ (v8.drop v17.toNat))).map z8)]), ((6, 0), .tok), ((7, 0), .tok)] 8 := by
 unfold xi at h
 refine zw ?_
 cases h
 exact AI rfl (xx (M := [((3, 0), (3, 0)), ((4, 0), (4, 0)), ((5, 0), (5, 0)), ((6, 0), (6, 0)), ((7, 0), (7, 0))]) rfl (SP rfl (SP rfl (SP rfl (S2 rfl rfl (AI (VS rfl) TT))))) (AI (AI rfl (OL rfl)) (AI (AI rfl (OL rfl)) (AI (AI rfl (BVw.oneL (S2 rfl rfl (AI (VS rfl) (AI (Vw.osl _ _ _ _ rfl) (AI (Vw.osl _ _ _ _ rfl) TT)))))) (AI (AI rfl BVw.tok) (AI (AI rfl BVw.tok) TT))))))
theorem z0y {rec7 : GJ → Option GJ} (hrec7 : Hr7 rec7) {a0 : GJ} {v6 : Int} {v8 : List (List AVal)} {v15 : GJ} {v17 : Int} {v18 : List (List UInt8)} {m : Option Nat} {o : ((Int × (List (List UInt8)) × (List (List AVal))) ⊕ GJ)} (h : y3 rec7 m a0 v6 v8 v15 v17 v18 = some o) :
 LWp Tryd.prog j0 3 Wu (x6 1 (Y4 Tryd.prog j0 3 Xr (ko 3 8 (kf a0) (kz a0) (uj a0) o))) [(1, .ptr (3, 0) 0 0), (2, .ptr (4, 0) 0 0), (3, .ptr (5, 0) 0 0), (5, .ptr (6, 0) 0 0), (6, i6 v17), (11, .isl 5 (a0.fE.map z8) false), (12, i6 ((a0.fE.map z8).length : Int)), (13, i6 v6)] [((3, 0), .one (z6 a0)), ((4, 0), .one [i6 0, i6 0, .str [], .isl 1 (([] : List (List UInt8)).map z7) true, .isl 5 (([] : List (List AVal)).map z8) true]), ((5, 0), .one [i6 a0.fK, i6 a0.fN, .str a0.fT, .osl (7, 0) 1 (v18.map z7), .osl (8, 0) 5 (v8.map z8)]), ((6, 0), .one (z6 v15)), ((7, 0), .tok), ((8, 0), .tok)] 9 := by
 unfold y3 at h
 refine zlm ?_
 obtain ⟨h69, h⟩ := yh h
 refine EX (.isl 5 ((v8.take v17.toNat).map z8) (decide (v17 = v17))) (AI (zp5 z8 (slB z8 v8 _) rfl) (AI (AI rfl h69) ?_))
 obtain ⟨h70, h⟩ := yh h
 refine EX (.osl (8, 0) 5 ((v8.drop v17.toNat).map z8)) (AI (zfy z8 _ _ _ _) (AI (AI rfl h70) ?_))
 obtain ⟨h71, h⟩ := yh h
 refine EX ((([z6 v15] : List (List AVal)) ++ (v8.drop v17.toNat)).map z8) (AI (Vb z8 ([z6 v15] : List (List AVal)) (v8.drop v17.toNat)) (AI (AI rfl h71) ?_))
 refine AI rfl ?_
 obtain ⟨h72, h⟩ := yh h
 obtain ⟨h73, h⟩ := yh h
 refine EX (((v8.take v17.toNat) ++ (([z6 v15] : List (List AVal)) ++ (v8.drop v17.toNat))).map z8) (AI (Vb z8 (v8.take v17.toNat) (([z6 v15] : List (List AVal)) ++ (v8.drop v17.toNat))) (AI (AI h72 h73) ?_))
 refine LWp.sim ?_ (z8b hrec7 h)
 exact xx (M := [((3, 0), (3, 0)), ((4, 0), (4, 0)), ((5, 0), (5, 0)), ((6, 0), (7, 0)), ((7, 0), (10, 0))]) rfl (SP rfl (SP rfl (SP rfl (S2 rfl rfl (AI (VS rfl) TT))))) (AI (AI rfl (OL rfl)) (AI (AI rfl (OL rfl)) (AI (AI rfl (BVw.oneL (S2 rfl rfl (AI (VS rfl) (AI (Vw.osl _ _ _ _ rfl) (AI (Vw.osl _ _ _ _ rfl) TT)))))) (AI (AI rfl BVw.tok) (AI (AI rfl BVw.tok) TT)))))
theorem z95 {rec7 : GJ → Option GJ} (hrec7 : Hr7 rec7) {a0 : GJ} {v6 : Int} {v7 : List (List UInt8)} {v8 : List (List AVal)} {v15 : GJ} {v16 : Int} {m : Option Nat} {o : ((Int × (List (List UInt8)) × (List (List AVal))) ⊕ GJ)} (h : y1 rec7 m a0 v6 v7 v8 v15 v16 = some o) :
 LWp Tryd.prog j0 3 Kt (Y4 Tryd.prog j0 3 Wu (x6 1 (Y4 Tryd.prog j0 3 Xr (ko 3 8 (kf a0) (kz a0) (uj a0) o)))) [(1, .ptr (3, 0) 0 0), (2, .ptr (4, 0) 0 0), (3, .ptr (5, 0) 0 0), (4, i6 v6), (5, .ptr (6, 0) 0 0), (6, i6 v16), (11, .isl 5 (a0.fE.map z8) false), (12, i6 ((a0.fE.map z8).length : Int)), (13, i6 v6)] [((3, 0), .one (z6 a0)), ((4, 0), .one [i6 0, i6 0, .str [], .isl 1 (([] : List (List UInt8)).map z7) true, .isl 5 (([] : List (List AVal)).map z8) true]), ((5, 0), .one [i6 a0.fK, i6 a0.fN, .str a0.fT, .osl (7, 0) 1 (v7.map z7), .osl (8, 0) 5 (v8.map z8)]), ((6, 0), .one (z6 v15)), ((7, 0), .tok), ((8, 0), .tok)] 9 := by
 unfold y1 at h
 refine zlm ?_
 obtain ⟨h63, h⟩ := yh h
 refine EX (.isl 1 ((v7.take v16.toNat).map z7) (decide (v16 = v16))) (AI (zp5 z7 (slB z7 v7 _) rfl) (AI (AI rfl h63) ?_))
 obtain ⟨h64, h⟩ := yh h
 refine AI h64 ?_
 refine EX (z7 (a0.fA.getD v6.toNat default)) (AI (vz z7 _ _ (jq z7 h64)) (AI (AI (w7 h64) (NB rfl)) ?_))
 obtain ⟨h65, h⟩ := yh h
 refine EX (.osl (7, 0) 1 ((v7.drop v16.toNat).map z7)) (AI (zfy z7 _ _ _ _) (AI (AI rfl h65) ?_))
 obtain ⟨h66, h⟩ := yh h
 refine EX ((([(a0.fA.getD v6.toNat default)] : List (List UInt8)) ++ (v7.drop v16.toNat)).map z7) (AI (Vb z7 ([(a0.fA.getD v6.toNat default)] : List (List UInt8)) (v7.drop v16.toNat)) (AI (AI rfl h66) ?_))
 refine AI rfl ?_
 obtain ⟨h67, h⟩ := yh h
 obtain ⟨h68, h⟩ := yh h
 refine EX (((v7.take v16.toNat) ++ (([(a0.fA.getD v6.toNat default)] : List (List UInt8)) ++ (v7.drop v16.toNat))).map z7) (AI (Vb z7 (v7.take v16.toNat) (([(a0.fA.getD v6.toNat default)] : List (List UInt8)) ++ (v7.drop v16.toNat))) (AI (AI h67 h68) ?_))
 refine LWp.sim ?_ (z0y hrec7 h)
 exact xx (M := [((3, 0), (3, 0)), ((4, 0), (4, 0)), ((5, 0), (5, 0)), ((6, 0), (6, 0)), ((7, 0), (10, 0)), ((8, 0), (8, 0))]) rfl (SP rfl (SP rfl (SP rfl (SP rfl (S4 rfl rfl rfl rfl TT))))) (AI (AI rfl (OL rfl)) (AI (AI rfl (OL rfl)) (AI (AI rfl (BVw.oneL (S2 rfl rfl (AI (VS rfl) (AI (Vw.osl _ _ _ _ rfl) (AI (Vw.osl _ _ _ _ rfl) TT)))))) (AI (AI rfl (OL rfl)) (AI (AI rfl BVw.tok) (AI (AI rfl BVw.tok) TT))))))
theorem z7i {rec7 : GJ → Option GJ} (hrec7 : Hr7 rec7) {a0 : GJ} {v6 : Int} {v7 : List (List UInt8)} {v8 : List (List AVal)} {v15 : GJ} {v16 : Int} {m : Option Nat} {o : Int ⊕ ((Int × (List (List UInt8)) × (List (List AVal))) ⊕ GJ)} (h : y4 rec7 m a0 v6 v7 v8 v15 v16 = some o) :
 LWp Tryd.prog j0 3 z33 (ko 3 9 (Vq a0 v6 v7 v8 v15) (z0v a0 v6 v7 v8 v15) (z2h a0) o) [(1, .ptr (3, 0) 0 0), (2, .ptr (4, 0) 0 0), (3, .ptr (5, 0) 0 0), (4, i6 v6), (5, .ptr (6, 0) 0 0), (6, i6 v16), (11, .isl 5 (a0.fE.map z8) false), (12, i6 ((a0.fE.map z8).length : Int)), (13, i6 v6)] [((3, 0), .one (z6 a0)), ((4, 0), .one [i6 0, i6 0, .str [], .isl 1 (([] : List (List UInt8)).map z7) true, .isl 5 (([] : List (List AVal)).map z8) true]), ((5, 0), .one [i6 a0.fK, i6 a0.fN, .str a0.fT, .osl (7, 0) 1 (v7.map z7), .osl (8, 0) 5 (v8.map z8)]), ((6, 0), .one (z6 v15)), ((7, 0), .tok), ((8, 0), .tok)] 9 := by
 unfold y4 at h
 refine zn ?_
 refine zn ?_
 refine zsn ?_
 refine AI (fun hp => hp) ?_
 refine AI (fun hp => hp) ?_
 obtain ⟨h60, h⟩ := yh h
 refine AI (fun hp => (AI (AI hp hp) (h60 hp))) ?_
 refine EX (z7 (v7.getD ((W (v16 - 1)).toNat) default)) (AI (fun hp => AI (vz z7 _ _ (jq z7 (h60 hp))) (AI hp (AI (w7 (h60 hp)) (NB rfl)))) ?_)
 refine AI (fun hp => hp) ?_
 obtain ⟨h61, h⟩ := yh h
 refine AI (fun hp => (AI (AI hp hp) (h61 hp))) ?_
 refine EX (z7 (a0.fA.getD v6.toNat default)) (AI (fun hp => AI (vz z7 _ _ (jq z7 (h61 hp))) (AI hp (AI (w7 (h61 hp)) (NB rfl)))) ?_)
 refine AI (fun hp => (AI hp hp)) ?_
 refine AI (fun hc => (bqt hc)) ?_
 refine LWp.sim (e := [(1, .ptr (3, 0) 0 0), (2, .ptr (4, 0) 0 0), (3, .ptr (5, 0) 0 0), (4, i6 v6), (5, .ptr (6, 0) 0 0), (6, i6 v16), (11, .isl 5 (a0.fE.map z8) false), (12, i6 ((a0.fE.map z8).length : Int)), (13, i6 v6), (41, .bool ((decide (v16 > 0)) && (!(Op.bytesLess (v7.getD ((W (v16 - 1)).toNat) default) (a0.fA.getD v6.toNat default) || (v7.getD ((W (v16 - 1)).toNat) default) == (a0.fA.getD v6.toNat default)))))]) (L := [((3, 0), .one (z6 a0)), ((4, 0), .one [i6 0, i6 0, .str [], .isl 1 (([] : List (List UInt8)).map z7) true, .isl 5 (([] : List (List AVal)).map z8) true]), ((5, 0), .one [i6 a0.fK, i6 a0.fN, .str a0.fT, .osl (7, 0) 1 (v7.map z7), .osl (8, 0) 5 (v8.map z8)]), ((6, 0), .one (z6 v15)), ((7, 0), .tok), ((8, 0), .tok)]) (n := 9) ?_ ?_
 ·exact xx (M := [((3, 0), (3, 0)), ((4, 0), (4, 0)), ((5, 0), (5, 0)), ((6, 0), (6, 0)), ((7, 0), (7, 0)), ((8, 0), (8, 0))]) rfl (SP rfl (SP rfl (SP rfl (AI (VS rfl) (SP rfl (S4 rfl rfl rfl rfl (AI (VS rfl) TT))))))) (AI (AI rfl (OL rfl)) (AI (AI rfl (OL rfl)) (AI (AI rfl (BVw.oneL (S2 rfl rfl (AI (VS rfl) (AI (Vw.osl _ _ _ _ rfl) (AI (Vw.osl _ _ _ _ rfl) TT)))))) (AI (AI rfl (OL rfl)) (AI (AI rfl BVw.tok) (AI (AI rfl BVw.tok) TT))))))
 refine j6 (v := ((decide (v16 > 0)) && (!(Op.bytesLess (v7.getD ((W (v16 - 1)).toNat) default) (a0.fA.getD v6.toNat default) || (v7.getD ((W (v16 - 1)).toNat) default) == (a0.fA.getD v6.toNat default))))) rfl TT (fun h62 => ?_) (fun h62 => ?_)
 ·have h := yb h62 h
  refine js ?_
  refine j4 ?_
  refine zw ?_
  cases h
  exact AI rfl (xx (M := [((3, 0), (3, 0)), ((4, 0), (4, 0)), ((5, 0), (5, 0)), ((6, 0), (6, 0)), ((7, 0), (7, 0)), ((8, 0), (8, 0))]) rfl (SP rfl (SP rfl (SP rfl (AI (VS rfl) (SP rfl (S4 rfl rfl rfl rfl TT)))))) (AI (AI rfl (OL rfl)) (AI (AI rfl (OL rfl)) (AI (AI rfl (BVw.oneL (S2 rfl rfl (AI (VS rfl) (AI (Vw.osl _ _ _ _ rfl) (AI (Vw.osl _ _ _ _ rfl) TT)))))) (AI (AI rfl (OL rfl)) (AI (AI rfl BVw.tok) (AI (AI rfl BVw.tok) TT)))))))
 ·have h := q9 h62 h
  refine Yx ?_
  obtain ⟨o, hq, rfl⟩ := Option.map_eq_some_iff.1 h
  replace h := hq; clear hq
  refine AI nofun ?_
  refine LWp.sim ?_ (z95 hrec7 h)
  exact xx (M := [((3, 0), (3, 0)), ((4, 0), (4, 0)), ((5, 0), (5, 0)), ((6, 0), (6, 0)), ((7, 0), (7, 0)), ((8, 0), (8, 0))]) rfl (SP rfl (SP rfl (SP rfl (AI (VS rfl) (SP rfl (S4 rfl rfl rfl rfl TT)))))) (AI (AI rfl (OL rfl)) (AI (AI rfl (OL rfl)) (AI (AI rfl (BVw.oneL (S2 rfl rfl (AI (VS rfl) (AI (Vw.osl _ _ _ _ rfl) (AI (Vw.osl _ _ _ _ rfl) TT)))))) (AI (AI rfl (OL rfl)) (AI (AI rfl BVw.tok) (AI (AI rfl BVw.tok) TT))))))
theorem z8s {rec7 : GJ → Option GJ} (hrec7 : Hr7 rec7) {a0 : GJ} {v6 : Int} {v7 : List (List UInt8)} {v8 : List (List AVal)} {v15 : GJ} {v16 : Int} {m : Option Nat} {o : ((Int × (List (List UInt8)) × (List (List AVal))) ⊕ GJ)} (h : yj rec7 m a0 v6 v7 v8 v15 v16 = some o) :
 LWp Tryd.prog j0 3 (.loop z33) (x6 2 (Y4 Tryd.prog j0 3 Kt (Y4 Tryd.prog j0 3 Wu (x6 1 (Y4 Tryd.prog j0 3 Xr (ko 3 8 (kf a0) (kz a0) (uj a0) o)))))) [(1, .ptr (3, 0) 0 0), (2, .ptr (4, 0) 0 0), (3, .ptr (5, 0) 0 0), (4, i6 v6), (5, .ptr (6, 0) 0 0), (6, i6 v16), (11, .isl 5 (a0.fE.map z8) false), (12, i6 ((a0.fE.map z8).length : Int)), (13, i6 v6)] [((3, 0), .one (z6 a0)), ((4, 0), .one [i6 0, i6 0, .str [], .isl 1 (([] : List (List UInt8)).map z7) true, .isl 5 (([] : List (List AVal)).map z8) true]), ((5, 0), .one [i6 a0.fK, i6 a0.fN, .str a0.fT, .osl (7, 0) 1 (v7.map z7), .osl (8, 0) 5 (v8.map z8)]), ((6, 0), .one (z6 v15)), ((7, 0), .tok), ((8, 0), .tok)] 9 :=
 ji (m := m) (s := (v16 : Int)) (r := o) (fun (s : Int) => y4 rec7 m a0 v6 v7 v8 v15 s) (Vq a0 v6 v7 v8 v15) (z0v a0 v6 v7 v8 v15) (z2h a0) (fun s o h => z7i hrec7 h) h
noncomputable def qb (rec7 : GJ → Option GJ) (m : Option Nat) (a0 : GJ) (v7 : List (List UInt8)) (v8 : List (List AVal)) : Option GJ :=
 some (GJ.mk a0.fK a0.fN a0.fT v7 v8)
noncomputable def zh (rec7 : GJ → Option GJ) (m : Option Nat) (a0 : GJ) (v6 : Int) (v7 : List (List UInt8)) (v8 : List (List AVal)) : Option ((Int × (List (List UInt8)) × (List (List AVal))) ⊕ GJ) :=
 if (decide (v6 < ((a0.fE.map z8).length : Int))) = true then
  if (0 : Int) ≤ v6 ∧ v6 < ((a0.fE.map z8).length : Int) then
  ((vg (a0.fE.getD v6.toNat default))).bind fun v14 =>
  (rec7 v14).bind fun v15 =>
  if (a0.fK == 5) = true then
   yj rec7 m a0 v6 v7 v8 v15 ((v8.map z8).length : Int)
  else
   y3 rec7 m a0 v6 v8 v15 ((v8.map z8).length : Int) v7
  else none
 else
  Option.map Sum.inr (
   qb rec7 m a0 v7 v8)
noncomputable def zd (rec7 : GJ → Option GJ) (m : Option Nat) (a0 : GJ) (v6 : Int) (v7 : List (List UInt8)) (v8 : List (List AVal)) : Option GJ := uq m (fun (s : (Int × (List (List UInt8)) × (List (List AVal)))) => zh rec7 m a0 s.1 s.2.1 s.2.2) (v6, v7, v8)
theorem z5r {rec7 : GJ → Option GJ} (hrec7 : Hr7 rec7) {a0 : GJ} {v7 : List (List UInt8)} {v8 : List (List AVal)} {m : Option Nat} {o : GJ} (h : qb rec7 m a0 v7 v8 = some o) :
 LWp Tryd.prog j0 3 Ku (z2u a0 o) [(2, .ptr (3, 0) 0 0), (3, .ptr (4, 0) 0 0)] [((3, 0), .one [i6 0, i6 0, .str [], .isl 1 (([] : List (List UInt8)).map z7) true, .isl 5 (([] : List (List AVal)).map z8) true]), ((4, 0), .one [i6 a0.fK, i6 a0.fN, .str a0.fT, .osl (5, 0) 1 (v7.map z7), .osl (6, 0) 5 (v8.map z8)]), ((5, 0), .tok), ((6, 0), .tok)] 7 := by
 unfold qb at h
 refine zn (zw ?_)
 refine uf ?_
 cases h
 exact AI (AI TT (AI rfl (NB rfl))) (z40 (n' := 7) [] [] rfl rfl (Vw.aggL (S2 rfl rfl (AI (VS rfl) (AI (Vw.oslI _ _ _) (AI (Vw.oslI _ _ _) TT))))) TT)
theorem z6y {rec7 : GJ → Option GJ} (hrec7 : Hr7 rec7) {a0 : GJ} {v6 : Int} {v7 : List (List UInt8)} {v8 : List (List AVal)} {m : Option Nat} {o : (Int × (List (List UInt8)) × (List (List AVal))) ⊕ GJ} (h : zh rec7 m a0 v6 v7 v8 = some o) :
 LWp Tryd.prog j0 3 z37 (ko 3 8 (kf a0) (kz a0) (uj a0) o) [(1, .ptr (3, 0) 0 0), (2, .ptr (4, 0) 0 0), (3, .ptr (5, 0) 0 0), (11, .isl 5 (a0.fE.map z8) false), (12, i6 ((a0.fE.map z8).length : Int)), (13, i6 v6)] [((3, 0), .one (z6 a0)), ((4, 0), .one [i6 0, i6 0, .str [], .isl 1 (([] : List (List UInt8)).map z7) true, .isl 5 (([] : List (List AVal)).map z8) true]), ((5, 0), .one [i6 a0.fK, i6 a0.fN, .str a0.fT, .osl (6, 0) 1 (v7.map z7), .osl (7, 0) 5 (v8.map z8)]), ((6, 0), .tok), ((7, 0), .tok)] 8 := by
 unfold zh at h
 refine zn (zw ?_)
 refine zn ?_
 refine j6 (v := (decide (v6 < ((a0.fE.map z8).length : Int)))) rfl TT (fun h49 => ?_) (fun h49 => ?_)
 ·have h := yb h49 h
  refine js ?_
  refine zn ?_
  refine j4 ?_
  refine zn (zw ?_)
  obtain ⟨h50, h⟩ := yh h
  refine AI h50 ?_
  obtain ⟨v14, h51, h⟩ := bind_some h
  refine EX (z6 v14) (AI (xn (jq z8 h50) h51) (AI (AI (w7 h50) (NB rfl)) ?_))
  refine zn (zw ?_)
  obtain ⟨v15, h52, h⟩ := bind_some h
  refine Q5 (k := 3) (m := 0) (L' := []) (rest := [((8, 0), .one (z6 v14)), ((3, 0), .one (z6 a0)), ((4, 0), .one [i6 0, i6 0, .str [], .isl 1 (([] : List (List UInt8)).map z7) true, .isl 5 (([] : List (List AVal)).map z8) true]), ((5, 0), .one [i6 a0.fK, i6 a0.fN, .str a0.fT, .osl (6, 0) 1 (v7.map z7), .osl (7, 0) 5 (v8.map z8)]), ((6, 0), .tok), ((7, 0), .tok)]) (R' := .agg (z6 v15)) [] (hrec7 h52) rfl rfl rfl (AI (VS rfl) TT) TT (we _ rfl) TT rfl ?_
  refine LWp.sim (e := [(1, .ptr (3, 0) 0 0), (2, .ptr (4, 0) 0 0), (3, .ptr (5, 0) 0 0), (4, i6 v6), (5, .ptr (6, 0) 0 0), (11, .isl 5 (a0.fE.map z8) false), (12, i6 ((a0.fE.map z8).length : Int)), (13, i6 v6)]) (L := [((3, 0), .one (z6 a0)), ((4, 0), .one [i6 0, i6 0, .str [], .isl 1 (([] : List (List UInt8)).map z7) true, .isl 5 (([] : List (List AVal)).map z8) true]), ((5, 0), .one [i6 a0.fK, i6 a0.fN, .str a0.fT, .osl (7, 0) 1 (v7.map z7), .osl (8, 0) 5 (v8.map z8)]), ((6, 0), .one (z6 v15)), ((7, 0), .tok), ((8, 0), .tok)]) (n := 9) ?_ ?_
  ·exact xx (M := [((3, 0), (3, 0)), ((4, 0), (4, 0)), ((5, 0), (5, 0)), ((6, 0), (8, 0)), ((7, 0), (6, 0)), ((8, 0), (7, 0))]) rfl (SP rfl (SP rfl (SP rfl (AI (VS rfl) (SP rfl (S2 rfl rfl (AI (VS rfl) TT))))))) (AI (AI rfl (OL rfl)) (AI (AI rfl (OL rfl)) (AI (AI rfl (BVw.oneL (S2 rfl rfl (AI (VS rfl) (AI (Vw.osl _ _ _ _ rfl) (AI (Vw.osl _ _ _ _ rfl) TT)))))) (AI (AI rfl (OL rfl)) (AI (AI rfl BVw.tok) (AI (AI rfl BVw.tok) TT))))))
  refine zn (zw ?_)
  refine zn ?_
  refine zn (zw ?_)
  refine j6 (v := (a0.fK == 5)) rfl TT (fun h53 => ?_) (fun h53 => ?_)
  ·have h := yb h53 h
   refine zn ?_
   refine j4 ?_
   refine LWp.sim ?_ (z8s hrec7 h)
   exact xx (M := [((3, 0), (3, 0)), ((4, 0), (4, 0)), ((5, 0), (5, 0)), ((6, 0), (6, 0)), ((7, 0), (7, 0)), ((8, 0), (8, 0))]) rfl (SP rfl (SP rfl (SP rfl (AI (VS rfl) (SP rfl (S4 rfl rfl rfl rfl TT)))))) (AI (AI rfl (OL rfl)) (AI (AI rfl (OL rfl)) (AI (AI rfl (BVw.oneL (S2 rfl rfl (AI (VS rfl) (AI (Vw.osl _ _ _ _ rfl) (AI (Vw.osl _ _ _ _ rfl) TT)))))) (AI (AI rfl (OL rfl)) (AI (AI rfl BVw.tok) (AI (AI rfl BVw.tok) TT))))))
  ·have h := q9 h53 h
   refine js ?_
   refine LWp.sim ?_ (z0y hrec7 h)
   exact xx (M := [((3, 0), (3, 0)), ((4, 0), (4, 0)), ((5, 0), (5, 0)), ((6, 0), (6, 0)), ((7, 0), (7, 0)), ((8, 0), (8, 0))]) rfl (SP rfl (SP rfl (SP rfl (SP rfl (S4 rfl rfl rfl rfl TT))))) (AI (AI rfl (OL rfl)) (AI (AI rfl (OL rfl)) (AI (AI rfl (BVw.oneL (S2 rfl rfl (AI (VS rfl) (AI (Vw.osl _ _ _ _ rfl) (AI (Vw.osl _ _ _ _ rfl) TT)))))) (AI (AI rfl (OL rfl)) (AI (AI rfl BVw.tok) (AI (AI rfl BVw.tok) TT))))))
 ·have h := q9 h49 h
  refine Yx ?_
  obtain ⟨o, hq, rfl⟩ := Option.map_eq_some_iff.1 h
  replace h := hq; clear hq
  refine AI nofun ?_
  refine LWp.sim ?_ (z5r hrec7 h)
  exact xx (M := [((3, 0), (4, 0)), ((4, 0), (5, 0)), ((5, 0), (6, 0)), ((6, 0), (7, 0))]) rfl (SP rfl (SP rfl TT)) (AI (AI rfl (OL rfl)) (AI (AI rfl (BVw.oneL (S2 rfl rfl (AI (VS rfl) (AI (Vw.osl _ _ _ _ rfl) (AI (Vw.osl _ _ _ _ rfl) TT)))))) (AI (AI rfl BVw.tok) (AI (AI rfl BVw.tok) TT))))
theorem z96 {rec7 : GJ → Option GJ} (hrec7 : Hr7 rec7) {a0 : GJ} {v6 : Int} {v7 : List (List UInt8)} {v8 : List (List AVal)} {m : Option Nat} {o : GJ} (h : zd rec7 m a0 v6 v7 v8 = some o) :
 LWp Tryd.prog j0 3 (.loop z37) (x6 0 (Y4 Tryd.prog j0 3 Ku (z2u a0 o))) [(1, .ptr (3, 0) 0 0), (2, .ptr (4, 0) 0 0), (3, .ptr (5, 0) 0 0), (11, .isl 5 (a0.fE.map z8) false), (12, i6 ((a0.fE.map z8).length : Int)), (13, i6 v6)] [((3, 0), .one (z6 a0)), ((4, 0), .one [i6 0, i6 0, .str [], .isl 1 (([] : List (List UInt8)).map z7) true, .isl 5 (([] : List (List AVal)).map z8) true]), ((5, 0), .one [i6 a0.fK, i6 a0.fN, .str a0.fT, .osl (6, 0) 1 (v7.map z7), .osl (7, 0) 5 (v8.map z8)]), ((6, 0), .tok), ((7, 0), .tok)] 8 :=
 ji (m := m) (s := ((v6, v7, v8) : (Int × (List (List UInt8)) × (List (List AVal))))) (r := o) (fun (s : (Int × (List (List UInt8)) × (List (List AVal)))) => zh rec7 m a0 s.1 s.2.1 s.2.2) (kf a0) (kz a0) (uj a0) (fun s o h => z6y hrec7 h) h
noncomputable def zz (rec7 : GJ → Option GJ) (m : Option Nat) (a0 : GJ) : Option GJ :=
 zd rec7 m a0 0 [] []
theorem z81 {rec7 : GJ → Option GJ} (hrec7 : Hr7 rec7) {a0 : GJ} {m : Option Nat} {o : GJ} (h : zz rec7 m a0 = some o) : LWp Tryd.prog j0 3 zb3 (z2u a0 o) (xb 0 [.agg (z6 a0)]) [] 3 := by
 unfold zz at h
 refine zn (zw ?_)
 refine zn (zw ?_)
 refine zn (zw ?_)
 refine LWp.sim (e := [(1, .ptr (3, 0) 0 0), (2, .ptr (4, 0) 0 0), (3, .ptr (5, 0) 0 0)]) (L := [((3, 0), .one (z6 a0)), ((4, 0), .one [i6 0, i6 0, .str [], .isl 1 (([] : List (List UInt8)).map z7) true, .isl 5 (([] : List (List AVal)).map z8) true]), ((5, 0), .one [i6 a0.fK, i6 a0.fN, .str a0.fT, .val (.slice none 0 0), .val (.slice none 0 0)])]) (n := 6) ?_ ?_
 ·exact xx (M := [((3, 0), (3, 0)), ((4, 0), (4, 0)), ((5, 0), (5, 0))]) rfl (SP rfl (SP rfl (SP rfl TT))) (AI (AI rfl (OL rfl)) (AI (AI rfl (OL rfl)) (AI (AI rfl (OL rfl)) TT)))
 refine zn ?_
 refine zn (zw ?_)
 refine j4 ?_
 refine LWp.sim ?_ (z96 hrec7 h)
 exact xx (M := [((3, 0), (3, 0)), ((4, 0), (4, 0)), ((5, 0), (5, 0))]) rfl (SP rfl (SP rfl (SP rfl (S2 rfl rfl (AI (VS rfl) TT))))) (AI (AI rfl (OL rfl)) (AI (AI rfl (OL rfl)) (AI (AI rfl (BVw.oneL (S2 rfl rfl (AI (VS rfl) (AI (Vw.nilO _ _ (by decide)) (AI (Vw.nilO _ _ (by decide)) TT)))))) (AI (AI rfl (AI (by decide) (by decide))) (AI (AI rfl (AI (by decide) (by decide))) TT)))))
theorem zbj {rec7 : GJ → Option GJ} (hrec7 : Hr7 rec7) {a0 : GJ} {m : Option Nat} {o : GJ} (h : zz rec7 m a0 = some o) : ACalls Tryd.prog 36 [.agg (z6 a0)] [] 3 (wt 3 (.agg (z6 o)) []) := X7 (L := zg6) zid zh8 (NB rfl) (z81 hrec7 h)
noncomputable def yp (m : Option Nat) : Nat → GJ → Option GJ
 | 0 => fun _ => none
 | k + 1 => zz (yp m k) m
noncomputable def qq (m : Option Nat) (a0 : GJ) : Option GJ := zdm m (fun k => yp m k a0)
theorem z7b {m : Option Nat} : ∀ (k : Nat) {a0 : GJ} {o : GJ}, yp m k a0 = some o → ACalls Tryd.prog 36 [.agg (z6 a0)] [] 3 (wt 3 (.agg (z6 o)) [])
 | 0, _, _, h => nomatch h
 | k + 1, _, _, h => zbj (fun h => z7b k h) h
theorem z6q {a0 : GJ} {m : Option Nat} {o : GJ} (h : qq m a0 = some o) : ACalls Tryd.prog 36 [.agg (z6 a0)] [] 3 (wt 3 (.agg (z6 o)) []) := (Z4 h).elim fun k h => z7b k h
noncomputable def wu (m : Option Nat) (a0 : GJ) : Option GJ := zz (qq m) m a0
theorem zrj {a0 : GJ} {m : Option Nat} {o : GJ} (h : wu m a0 = some o) : PFn Tryd.prog 36 [.agg (z6 a0)] (.agg (z6 o)) :=
 ⟨rfl, _, Q5 (k := 3) (m := 0) (L' := []) (rest := []) (R' := .agg (z6 o)) [] (zbj z6q h) rfl rfl rfl (AI (VS rfl) TT) TT (we _ rfl) TT rfl ⟨rfl, rfl, rfl⟩⟩
def zo1 : LCode := (.seq (.region [Qo 2 (.box (.t 0)),
 Qo 3 (.box (.t 1)),
 Qb 4])
 (.seq (.draw [⟨Qt 5 5 2, []⟩,
  ⟨Qt 7 5 3, []⟩,
  ⟨Qc 6 36 5, [1]⟩,
  ⟨Qc 8 36 7, []⟩,
  ⟨Qo 9 (.call 13 [(.t 6), (.t 8)]), []⟩,
  ⟨Qm 4 9, []⟩])
 .ret))
def zjm : Lay := ⟨10, [], false⟩
def zfe : List LRes := [.t 4]
def ztm : LFn := ⟨2, zjm, zo1, zfe⟩
theorem zp2 : kb Tryd.prog [] 16 = some ztm := by kernel_rfl
theorem zq3 : Yh Tryd.prog 16 := ⟨_, Tryd.func16, rfl, rfl⟩
noncomputable def x8 (m : Option Nat) (a0 : GJ) (a1 : GJ) : Option Bool :=
 (wu m a0).bind fun v1 =>
 (qq m a1).bind fun v2 =>
 (ya m v1 v2).bind fun v3 =>
 some v3
def zug (a0 : GJ) (a1 : GJ) (o : Bool) : Exit → Env → AHeap → Nat → Prop := Jo zfe (kc (.bool o))
theorem zif {a0 : GJ} {a1 : GJ} {m : Option Nat} {o : Bool} (h : x8 m a0 a1 = some o) : LWp Tryd.prog zjm 0 zo1 (zug a0 a1 o) (xb 0 [.agg (z6 a0), .agg (z6 a1)]) [] 0 := by
 unfold x8 at h
 refine zn (zw ?_)
 refine zn ?_
 refine zlm ?_
 obtain ⟨v1, h1, h⟩ := bind_some h
 refine PFn.call (zrj h1) (AI (VS rfl) TT) ?_
 refine AI rfl ?_
 obtain ⟨v2, h2, h⟩ := bind_some h
 refine Q5 (k := 3) (m := 0) (L' := []) (rest := [((1, 0), .one (z6 a1)), ((0, 0), .one (z6 a0))]) (R' := .agg (z6 v2)) [] (z6q h2) rfl rfl rfl (AI (VS rfl) TT) TT (we _ rfl) TT rfl ?_
 obtain ⟨v3, h3, h⟩ := bind_some h
 refine Q5 (k := 3) (m := 0) (L' := []) (rest := [((1, 0), .one (z6 a1)), ((0, 0), .one (z6 a0))]) (R' := .bool v3) [] (z7n h3) rfl rfl rfl (S2 rfl rfl TT) TT (we _ rfl) TT rfl ?_
 refine LWp.sim (e := [(4, .bool v3)]) (L := []) (n := 0) ?_ ?_
 ·exact xx (M := []) rfl (AI (VS rfl) TT) TT
 refine uf ?_
 cases h
 exact AI TT (AI rfl (VS rfl))
theorem ztf {a0 : GJ} {a1 : GJ} {m : Option Nat} {o : Bool} (h : x8 m a0 a1 = some o) : PFn Tryd.prog 16 [.agg (z6 a0), .agg (z6 a1)] (.bool o) := PFn.ofFnW (L := ztm) zp2 zq3 (NB rfl) rfl (zif h)
def ztj : LCode := (.region [Qo 56 (.bin .add (.t 25) (.c (i6 1))),
 Qm 25 56])
def zpk : LCode := (.seq (.region [Qo 26 (.bin .lss (.t 25) (.t 24))])
 (.seq (.cond (.t 26)
  .skip
  (.exit 0))
 (.seq (.block 1
  (.seq (.region [Qm 27 25,
   Qm 11 27])
  (.seq (.region [Qf 28 0 3,
   Ql 29 1 28,
   Qo 30 (.bin .eql (.t 29) (.c (i6 5))),
   Qm 31 30,
   Qn 32 10 (31, true),
   Qg 33 (.un .not (.t 32)) (31, true),
   Qp 34 31 33,
   Qm 35 34,
   Qe 36 3 3 (35, true),
   Qk 37 1 36 (35, true),
   Qn 38 11 (35, true),
   Qg 39 (.iaddr 1 (.t 37) (.t 38)) (35, true),
   Qk 40 1 39 (35, true),
   Qn 41 2 (35, true),
   Qg 42 (.bin .eql (.t 40) (.t 41)) (35, true),
   Qp 43 35 42,
   Qm 44 43,
   Qn 45 11 (44, true),
   Qe 46 4 3 (44, true),
   Qk 47 1 46 (44, true),
   Qg 48 (.len false (.t 47)) (44, true),
   Qg 49 (.bin .lss (.t 45) (.t 48)) (44, true),
   Qp 50 44 49])
  (.cond (.t 50)
   (.region [Qf 51 4 3,
    Ql 52 1 51,
    Qm 53 11,
    Qo 54 (.iaddr 5 (.t 52) (.t 53)),
    Qt 55 5 54,
    ⟨none, .store 5 (.t 9) (.t 55), none⟩,
    Qo 10 (.mv (.c (.bool true)))])
   .skip))))
 ztj)))
def zm6 : LCode := (.seq (.region [Qt 57 5 3,
 Qc 58 8 57,
 Qo 59 (.bin .eql (.t 58) (.c (i6 0))),
 Qm 60 59,
 Qg 61 (.load true 5 (.t 4)) (60, true),
 Qg 62 (.call 8 [(.t 61)]) (60, true),
 Qg 63 (.bin .eql (.t 62) (.c (i6 0))) (60, true),
 Qp 64 60 63,
 Qm 12 64])
 (.seq (.region [Qo 65 (.call 6 []),
  Qm 66 65,
  Qn 67 8 (66, true),
  Qn 68 10 (66, true),
  Qg 69 (.eq false .bool (.t 67) (.t 68)) (66, true),
  Qp 70 66 69,
  Qm 71 70,
  Qg 72 (.load true 5 (.t 7)) (71, true),
  Qg 73 (.load true 5 (.t 9)) (71, true),
  Qg 74 (.call 13 [(.t 72), (.t 73)]) (71, true),
  Qp 75 71 74,
  Qm 76 75,
  Qg 77 (.load true 5 (.t 3)) (76, true),
  Qg 78 (.load true 5 (.t 4)) (76, true),
  Qg 79 (.call 15 [(.t 77), (.t 78)]) (76, true),
  Qn 80 12 (76, true),
  Qn 81 80 (76, true),
  Qg 82 (.load true 5 (.t 3)) (81, true),
  Qg 83 (.load true 5 (.t 4)) (81, true),
  Qg 84 (.call 16 [(.t 82), (.t 83)]) (81, true),
  Qg 85 (.pick (.t 81) (.t 84) (.c (.bool false))) (76, true),
  Qg 86 (.eq false .bool (.t 79) (.t 85)) (76, true),
  Qp 87 76 86,
  Qm 6 87])
 .ret))
def zsw : LCode := (.seq (.region [Qo 3 (.box (.t 0)),
 Qo 4 (.box (.t 1)),
 Qb 6])
 (.seq (.seq (.region [Qo 13 (.call 6 []),
  Qo 14 (.un .not (.t 13))])
 (.cond (.t 14)
  (.seq (.region [Qb 6])
  .ret)
  .skip))
 (.seq (.region [Qt 16 5 3,
  Qm 17 2,
  Qo 18 (.call 14 [(.t 16), (.t 17)]),
  Qm 15 18,
  Qo 19 (.ext 0 (.t 15)),
  Qo 20 (.ext 1 (.t 15)),
  Qo 7 (.alloc [(i6 0), (i6 0), (.str []), (.isl 1 [] true), (.isl 5 [] true)]),
  ⟨none, .store 5 (.t 7) (.t 19), none⟩,
  Qm 8 20])
 (.seq (.region [Qo 21 (.build [(i6 0), (i6 0), (.str []), (.isl 1 [] true), (.isl 5 [] true)] []),
  Qo 9 (.alloc [(i6 0), (i6 0), (.str []), (.isl 1 [] true), (.isl 5 [] true)]),
  ⟨none, .store 5 (.t 9) (.t 21), none⟩,
  Qb 10])
 (.seq (.seq (.region [Qf 22 3 3,
  Ql 23 1 22,
  Qo 24 (.len false (.t 23)),
  Qi 25 0])
 (.block 0
  (.loop
   zpk)))
 zm6)))))
def Ka : Lay := ⟨88, [], false⟩
def zoc : List LRes := [.t 6]
def zvg : LFn := ⟨3, Ka, zsw, zoc⟩
theorem ztt : kb Tryd.prog [] 5 = some zvg := by kernel_rfl
theorem zsy : Yh Tryd.prog 5 := ⟨_, Tryd.func5, rfl, rfl⟩
def zu6 (a0 : GJ) (a1 : GJ) (a2 : List UInt8) (o : Bool) : Exit → Env → AHeap → Nat → Prop := Jo zoc (kc (.bool o))
def Ue (a0 : GJ) (a1 : GJ) (a2 : List UInt8) (v2 : GJ × Bool) (s : (Bool × Int × Int × Int × (List UInt8) × (List (List UInt8)) × (List (List AVal)))) : Env := [(2, .str a2), (3, .ptr (0, 0) 0 0), (4, .ptr (1, 0) 0 0), (7, .ptr (2, 0) 0 0), (8, .bool v2.2), (9, .ptr (3, 0) 0 0), (10, .bool s.1), (24, i6 ((a0.fA.map z7).length : Int)), (25, i6 s.2.1)]
def z49 (a0 : GJ) (a1 : GJ) (a2 : List UInt8) (v2 : GJ × Bool) (s : (Bool × Int × Int × Int × (List UInt8) × (List (List UInt8)) × (List (List AVal)))) : AHeap := [((0, 0), .one (z6 a0)), ((1, 0), .one (z6 a1)), ((2, 0), .one (z6 v2.1)), ((3, 0), .one [i6 s.2.2.1, i6 s.2.2.2.1, .str s.2.2.2.2.1, .isl 1 (s.2.2.2.2.2.1.map z7) false, .isl 5 (s.2.2.2.2.2.2.map z8) false])]
def za9 (a0 : GJ) (a1 : GJ) (a2 : List UInt8) (o : Bool) : Exit → Env → AHeap → Nat → Prop := (x6 0 (Y4 Tryd.prog Ka 0 zm6 (zu6 a0 a1 a2 o)))
noncomputable def qr (m : Option Nat) (a0 : GJ) (a1 : GJ) (a2 : List UInt8) (v2 : GJ × Bool) (v11 : Int) (v25 : Bool) (v26 : Int) (v27 : Int) (v28 : List UInt8) (v29 : List (List UInt8)) (v30 : List (List AVal)) : Option ((Bool × Int × Int × Int × (List UInt8) × (List (List UInt8)) × (List (List AVal))) ⊕ Bool) :=
 some (.inl (v25, (W (v11 + 1)), v26, v27, v28, v29, v30))
theorem zad {a0 : GJ} {a1 : GJ} {a2 : List UInt8} {v2 : GJ × Bool} {v11 : Int} {v25 : Bool} {v26 : Int} {v27 : Int} {v28 : List UInt8} {v29 : List (List UInt8)} {v30 : List (List AVal)} {m : Option Nat} {o : ((Bool × Int × Int × Int × (List UInt8) × (List (List UInt8)) × (List (List AVal))) ⊕ Bool)} (h : qr m a0 a1 a2 v2 v11 v25 v26 v27 v28 v29 v30 = some o) :
 LWp Tryd.prog Ka 0 ztj (ko 0 4 (Ue a0 a1 a2 v2) (z49 a0 a1 a2 v2) (za9 a0 a1 a2) o) [(2, .str a2), (3, .ptr (0, 0) 0 0), (4, .ptr (1, 0) 0 0), (7, .ptr (2, 0) 0 0), (8, .bool v2.2), (9, .ptr (3, 0) 0 0), (10, .bool v25), (24, i6 ((a0.fA.map z7).length : Int)), (25, i6 v11)] [((0, 0), .one (z6 a0)), ((1, 0), .one (z6 a1)), ((2, 0), .one (z6 v2.1)), ((3, 0), .one [i6 v26, i6 v27, .str v28, .isl 1 (v29.map z7) false, .isl 5 (v30.map z8) false])] 4 := by
 unfold qr at h
 refine zw ?_
 cases h
 exact AI rfl (xx (M := [((0, 0), (0, 0)), ((1, 0), (1, 0)), ((2, 0), (2, 0)), ((3, 0), (3, 0))]) rfl (AI (VS rfl) (SP rfl (SP rfl (SP rfl (AI (VS rfl) (SP rfl (S2 rfl rfl (AI (VS rfl) TT)))))))) (AI (AI rfl (OL rfl)) (AI (AI rfl (OL rfl)) (AI (AI rfl (OL rfl)) (AI (AI rfl (OL rfl)) TT)))))
noncomputable def qu (m : Option Nat) (a0 : GJ) (a1 : GJ) (v2 : GJ × Bool) (v10 : Bool) (v12 : Int) (v13 : Int) (v14 : List UInt8) (v15 : List (List UInt8)) (v16 : List (List AVal)) : Option Bool :=
 (qh m a0).bind fun v31 =>
 (if ((v31 == 0) == true) = true then qh m a1 else some default).bind fun v32 =>
 (xj (some 4096)).bind fun v33 =>
 (if ((v33 && (v2.2 == v10)) == true) = true then jy m (GJ.mk v2.1.fK v2.1.fN v2.1.fT v2.1.fA v2.1.fE) (GJ.mk v12 v13 v14 v15 v16) else some default).bind fun v34 =>
 (if (((v33 && (v2.2 == v10)) && v34) == true) = true then wv m a0 a1 else some default).bind fun v35 =>
 (if ((((v33 && (v2.2 == v10)) && v34) == true) && (((v31 == 0) && (v32 == 0)) == true)) = true then x8 m a0 a1 else some default).bind fun v36 =>
 some (((v33 && (v2.2 == v10)) && v34) && (v35 == (((v31 == 0) && (v32 == 0)) && v36)))
noncomputable def y9 (m : Option Nat) (a0 : GJ) (a1 : GJ) (a2 : List UInt8) (v2 : GJ × Bool) (v10 : Bool) (v11 : Int) (v12 : Int) (v13 : Int) (v14 : List UInt8) (v15 : List (List UInt8)) (v16 : List (List AVal)) : Option ((Bool × Int × Int × Int × (List UInt8) × (List (List UInt8)) × (List (List AVal))) ⊕ Bool) :=
 if (decide (v11 < ((a0.fA.map z7).length : Int))) = true then
  if ((((a0.fK == 5) && (!v10)) == true) = true → (0 : Int) ≤ v11 ∧ v11 < ((a0.fA.map z7).length : Int)) then
  if ((((a0.fK == 5) && (!v10)) && ((a0.fA.getD v11.toNat default) == a2)) && (decide (v11 < ((a0.fE.map z8).length : Int)))) = true then
   if (0 : Int) ≤ v11 ∧ v11 < ((a0.fE.map z8).length : Int) then
   ((vg (a0.fE.getD v11.toNat default))).bind fun v24 =>
   qr m a0 a1 a2 v2 v11 true v24.fK v24.fN v24.fT v24.fA v24.fE
   else none
  else
   qr m a0 a1 a2 v2 v11 v10 v12 v13 v14 v15 v16
  else none
 else
  Option.map Sum.inr (
   qu m a0 a1 v2 v10 v12 v13 v14 v15 v16)
noncomputable def qt (m : Option Nat) (a0 : GJ) (a1 : GJ) (a2 : List UInt8) (v2 : GJ × Bool) (v10 : Bool) (v11 : Int) (v12 : Int) (v13 : Int) (v14 : List UInt8) (v15 : List (List UInt8)) (v16 : List (List AVal)) : Option Bool := uq m (fun (s : (Bool × Int × Int × Int × (List UInt8) × (List (List UInt8)) × (List (List AVal)))) => y9 m a0 a1 a2 v2 s.1 s.2.1 s.2.2.1 s.2.2.2.1 s.2.2.2.2.1 s.2.2.2.2.2.1 s.2.2.2.2.2.2) (v10, v11, v12, v13, v14, v15, v16)
theorem zl1 {a2 : List UInt8} {a0 : GJ} {a1 : GJ} {v2 : GJ × Bool} {v10 : Bool} {v12 : Int} {v13 : Int} {v14 : List UInt8} {v15 : List (List UInt8)} {v16 : List (List AVal)} {m : Option Nat} {o : Bool} (h : qu m a0 a1 v2 v10 v12 v13 v14 v15 v16 = some o) :
 LWp Tryd.prog Ka 0 zm6 (zu6 a0 a1 a2 o) [(3, .ptr (0, 0) 0 0), (4, .ptr (1, 0) 0 0), (7, .ptr (2, 0) 0 0), (8, .bool v2.2), (9, .ptr (3, 0) 0 0), (10, .bool v10)] [((0, 0), .one (z6 a0)), ((1, 0), .one (z6 a1)), ((2, 0), .one (z6 v2.1)), ((3, 0), .one [i6 v12, i6 v13, .str v14, .isl 1 (v15.map z7) false, .isl 5 (v16.map z8) false])] 4 := by
 unfold qu at h
 refine zn (zw ?_)
 obtain ⟨v31, h19, h⟩ := bind_some h
 refine PFn.call (zsb h19) (AI (VS rfl) TT) ?_
 obtain ⟨v32, h20, h⟩ := bind_some h
 refine Or.inl (EX (i6 v32) (AI (fun hp => AI hp (PFn.call (zsb (yb hp h20)) (AI (VS rfl) TT) (AI rfl (AI rfl rfl)))) ?_))
 refine AI (fun hp => hp) ?_
 refine AI (fun hc => (bqt hc)) ?_
 refine LWp.sim (e := [(3, .ptr (0, 0) 0 0), (4, .ptr (1, 0) 0 0), (7, .ptr (2, 0) 0 0), (8, .bool v2.2), (9, .ptr (3, 0) 0 0), (10, .bool v10), (12, .bool ((v31 == 0) && (v32 == 0)))]) (L := [((0, 0), .one (z6 a0)), ((1, 0), .one (z6 a1)), ((2, 0), .one (z6 v2.1)), ((3, 0), .one [i6 v12, i6 v13, .str v14, .isl 1 (v15.map z7) false, .isl 5 (v16.map z8) false])]) (n := 4) ?_ ?_
 ·exact xx (M := [((0, 0), (0, 0)), ((1, 0), (1, 0)), ((2, 0), (2, 0)), ((3, 0), (3, 0))]) rfl (SP rfl (SP rfl (SP rfl (AI (VS rfl) (SP rfl (S2 rfl rfl TT)))))) (AI (AI rfl (OL rfl)) (AI (AI rfl (OL rfl)) (AI (AI rfl (OL rfl)) (AI (AI rfl (OL rfl)) TT))))
 refine zn (zw ?_)
 obtain ⟨v33, h21, h⟩ := bind_some h
 refine PFn.call (zrh h21) TT ?_
 refine AI (fun hp => (AI hp hp)) ?_
 refine AI (fun hc => (bqt hc)) ?_
 obtain ⟨v34, h22, h⟩ := bind_some h
 refine Or.inl (EX (.bool v34) (AI (fun hp => AI (AI hp hp) (PFn.call (zrx (yb hp h22)) (S2 rfl rfl TT) (AI rfl (AI rfl rfl)))) ?_))
 refine AI (fun hc => (bqt hc)) ?_
 obtain ⟨v35, h23, h⟩ := bind_some h
 refine Or.inl (EX (.bool v35) (AI (fun hp => AI (AI hp hp) (PFn.call (zty (yb hp h23)) (S2 rfl rfl TT) (AI rfl (AI rfl rfl)))) ?_))
 refine AI (fun hp => hp) ?_
 obtain ⟨v36, h24, h⟩ := bind_some h
 refine Or.inl (EX (.bool v36) (AI (fun hp => AI (AI hp hp) (PFn.call (ztf (yb hp h24)) (S2 rfl rfl TT) (AI rfl (AI rfl rfl)))) ?_))
 refine AI (fun hp => (AI hp (fun hc => (z70 hp (bqt hc))))) ?_
 refine AI (fun hp => (AI hp hp)) ?_
 refine AI (fun hc => (bqt hc)) ?_
 refine LWp.sim (e := [(6, .bool (((v33 && (v2.2 == v10)) && v34) && (v35 == (((v31 == 0) && (v32 == 0)) && v36))))]) (L := []) (n := 0) ?_ ?_
 ·exact xx (M := []) rfl (AI (VS rfl) TT) TT
 refine uf ?_
 cases h
 exact AI TT (AI rfl (VS rfl))
theorem zfq {a0 : GJ} {a1 : GJ} {a2 : List UInt8} {v2 : GJ × Bool} {v10 : Bool} {v11 : Int} {v12 : Int} {v13 : Int} {v14 : List UInt8} {v15 : List (List UInt8)} {v16 : List (List AVal)} {m : Option Nat} {o : (Bool × Int × Int × Int × (List UInt8) × (List (List UInt8)) × (List (List AVal))) ⊕ Bool} (h : y9 m a0 a1 a2 v2 v10 v11 v12 v13 v14 v15 v16 = some o) :
 LWp Tryd.prog Ka 0 zpk (ko 0 4 (Ue a0 a1 a2 v2) (z49 a0 a1 a2 v2) (za9 a0 a1 a2) o) [(2, .str a2), (3, .ptr (0, 0) 0 0), (4, .ptr (1, 0) 0 0), (7, .ptr (2, 0) 0 0), (8, .bool v2.2), (9, .ptr (3, 0) 0 0), (10, .bool v10), (24, i6 ((a0.fA.map z7).length : Int)), (25, i6 v11)] [((0, 0), .one (z6 a0)), ((1, 0), .one (z6 a1)), ((2, 0), .one (z6 v2.1)), ((3, 0), .one [i6 v12, i6 v13, .str v14, .isl 1 (v15.map z7) false, .isl 5 (v16.map z8) false])] 4 := by
 unfold y9 at h
 refine zn (zw ?_)
 refine zn ?_
 refine j6 (v := (decide (v11 < ((a0.fA.map z7).length : Int)))) rfl TT (fun h14 => ?_) (fun h14 => ?_)
 ·have h := yb h14 h
  refine js ?_
  refine zn ?_
  refine j4 ?_
  refine zn (zw ?_)
  refine zn (zw ?_)
  refine AI (fun hp => hp) ?_
  refine AI (fun hc => (bqt hc)) ?_
  refine AI (fun hp => hp) ?_
  obtain ⟨h15, h⟩ := yh h
  refine AI (fun hp => (AI (AI hp hp) (h15 hp))) ?_
  refine EX (z7 (a0.fA.getD v11.toNat default)) (AI (fun hp => AI (vz z7 _ _ (jq z7 (h15 hp))) (AI hp (AI (w7 (h15 hp)) (NB rfl)))) ?_)
  refine AI (fun hp => (AI hp hp)) ?_
  refine AI (fun hc => (bqt hc)) ?_
  refine AI (fun hp => hp) ?_
  refine AI (fun hp => hp) ?_
  refine AI (fun hp => (AI hp hp)) ?_
  refine AI (fun hc => (bqt hc)) ?_
  refine LWp.sim (e := [(2, .str a2), (3, .ptr (0, 0) 0 0), (4, .ptr (1, 0) 0 0), (7, .ptr (2, 0) 0 0), (8, .bool v2.2), (9, .ptr (3, 0) 0 0), (10, .bool v10), (11, i6 v11), (24, i6 ((a0.fA.map z7).length : Int)), (25, i6 v11), (50, .bool ((((a0.fK == 5) && (!v10)) && ((a0.fA.getD v11.toNat default) == a2)) && (decide (v11 < ((a0.fE.map z8).length : Int)))))]) (L := [((0, 0), .one (z6 a0)), ((1, 0), .one (z6 a1)), ((2, 0), .one (z6 v2.1)), ((3, 0), .one [i6 v12, i6 v13, .str v14, .isl 1 (v15.map z7) false, .isl 5 (v16.map z8) false])]) (n := 4) ?_ ?_
  ·exact xx (M := [((0, 0), (0, 0)), ((1, 0), (1, 0)), ((2, 0), (2, 0)), ((3, 0), (3, 0))]) rfl (AI (VS rfl) (SP rfl (SP rfl (SP rfl (AI (VS rfl) (SP rfl (S4 rfl rfl rfl rfl (AI (VS rfl) TT)))))))) (AI (AI rfl (OL rfl)) (AI (AI rfl (OL rfl)) (AI (AI rfl (OL rfl)) (AI (AI rfl (OL rfl)) TT))))
  refine j6 (v := ((((a0.fK == 5) && (!v10)) && ((a0.fA.getD v11.toNat default) == a2)) && (decide (v11 < ((a0.fE.map z8).length : Int))))) rfl TT (fun h16 => ?_) (fun h16 => ?_)
  ·have h := yb h16 h
   refine zw ?_
   obtain ⟨h17, h⟩ := yh h
   refine AI h17 ?_
   obtain ⟨v24, h18, h⟩ := bind_some h
   refine EX (z6 v24) (AI (xn (jq z8 h17) h18) (AI (AI (w7 h17) (NB rfl)) ?_))
   refine LWp.sim ?_ (zad h)
   exact xx (M := [((0, 0), (0, 0)), ((1, 0), (1, 0)), ((2, 0), (2, 0)), ((3, 0), (3, 0))]) rfl (AI (VS rfl) (SP rfl (SP rfl (SP rfl (AI (VS rfl) (SP rfl (S2 rfl rfl (AI (VS rfl) TT)))))))) (AI (AI rfl (OL rfl)) (AI (AI rfl (OL rfl)) (AI (AI rfl (OL rfl)) (AI (AI rfl (OL rfl)) TT))))
  ·have h := q9 h16 h
   refine js ?_
   refine LWp.sim ?_ (zad h)
   exact xx (M := [((0, 0), (0, 0)), ((1, 0), (1, 0)), ((2, 0), (2, 0)), ((3, 0), (3, 0))]) rfl (AI (VS rfl) (SP rfl (SP rfl (SP rfl (AI (VS rfl) (SP rfl (S2 rfl rfl (AI (VS rfl) TT)))))))) (AI (AI rfl (OL rfl)) (AI (AI rfl (OL rfl)) (AI (AI rfl (OL rfl)) (AI (AI rfl (OL rfl)) TT))))
 ·have h := q9 h14 h
  refine Yx ?_
  obtain ⟨o, hq, rfl⟩ := Option.map_eq_some_iff.1 h
  replace h := hq; clear hq
  refine AI nofun ?_
  refine LWp.sim ?_ (zl1 h)
  exact xx (M := [((0, 0), (0, 0)), ((1, 0), (1, 0)), ((2, 0), (2, 0)), ((3, 0), (3, 0))]) rfl (SP rfl (SP rfl (SP rfl (AI (VS rfl) (SP rfl (AI (VS rfl) TT)))))) (AI (AI rfl (OL rfl)) (AI (AI rfl (OL rfl)) (AI (AI rfl (OL rfl)) (AI (AI rfl (OL rfl)) TT))))
theorem zmm {a0 : GJ} {a1 : GJ} {a2 : List UInt8} {v2 : GJ × Bool} {v10 : Bool} {v11 : Int} {v12 : Int} {v13 : Int} {v14 : List UInt8} {v15 : List (List UInt8)} {v16 : List (List AVal)} {m : Option Nat} {o : Bool} (h : qt m a0 a1 a2 v2 v10 v11 v12 v13 v14 v15 v16 = some o) :
 LWp Tryd.prog Ka 0 (.loop zpk) (x6 0 (Y4 Tryd.prog Ka 0 zm6 (zu6 a0 a1 a2 o))) [(2, .str a2), (3, .ptr (0, 0) 0 0), (4, .ptr (1, 0) 0 0), (7, .ptr (2, 0) 0 0), (8, .bool v2.2), (9, .ptr (3, 0) 0 0), (10, .bool v10), (24, i6 ((a0.fA.map z7).length : Int)), (25, i6 v11)] [((0, 0), .one (z6 a0)), ((1, 0), .one (z6 a1)), ((2, 0), .one (z6 v2.1)), ((3, 0), .one [i6 v12, i6 v13, .str v14, .isl 1 (v15.map z7) false, .isl 5 (v16.map z8) false])] 4 :=
 ji (m := m) (s := ((v10, v11, v12, v13, v14, v15, v16) : (Bool × Int × Int × Int × (List UInt8) × (List (List UInt8)) × (List (List AVal))))) (r := o) (fun (s : (Bool × Int × Int × Int × (List UInt8) × (List (List UInt8)) × (List (List AVal)))) => y9 m a0 a1 a2 v2 s.1 s.2.1 s.2.2.1 s.2.2.2.1 s.2.2.2.2.1 s.2.2.2.2.2.1 s.2.2.2.2.2.2) (Ue a0 a1 a2 v2) (z49 a0 a1 a2 v2) (za9 a0 a1 a2) (fun s o h => zfq h) h
noncomputable def x5 (m : Option Nat) (a0 : GJ) (a1 : GJ) (a2 : List UInt8) : Option Bool :=
 (xj (some 4096)).bind fun v1 =>
 if (!v1) = true then
  some false
 else
  (wi m a0 a2).bind fun v2 =>
  qt m a0 a1 a2 v2 false 0 0 0 ([] : List UInt8) ([] : List (List UInt8)) ([] : List (List AVal))
theorem zmo {a0 : GJ} {a1 : GJ} {a2 : List UInt8} {m : Option Nat} {o : Bool} (h : x5 m a0 a1 a2 = some o) : LWp Tryd.prog Ka 0 zsw (zu6 a0 a1 a2 o) (xb 0 [.agg (z6 a0), .agg (z6 a1), .str a2]) [] 0 := by
 unfold x5 at h
 refine zn (zw ?_)
 refine zn ?_
 refine zn (zw ?_)
 obtain ⟨v1, h1, h⟩ := bind_some h
 refine PFn.call (zrh h1) TT ?_
 refine j6 (v := (!v1)) rfl TT (fun h2 => ?_) (fun h2 => ?_)
 ·have h := yb h2 h
  refine zn (zw ?_)
  refine uf ?_
  cases h
  exact AI TT (AI rfl (VS rfl))
 ·have h := q9 h2 h
  refine js ?_
  refine zn (zw ?_)
  obtain ⟨v2, h3, h⟩ := bind_some h
  refine PFn.call (zto h3) (S2 rfl rfl TT) ?_
  refine LWp.sim (e := [(2, .str a2), (3, .ptr (0, 0) 0 0), (4, .ptr (1, 0) 0 0), (7, .ptr (2, 0) 0 0), (8, .bool v2.2)]) (L := [((0, 0), .one (z6 a0)), ((1, 0), .one (z6 a1)), ((2, 0), .one (z6 v2.1))]) (n := 3) ?_ ?_
  ·exact xx (M := [((0, 0), (0, 0)), ((1, 0), (1, 0)), ((2, 0), (2, 0))]) rfl (AI (VS rfl) (SP rfl (SP rfl (SP rfl (AI (VS rfl) TT))))) (AI (AI rfl (OL rfl)) (AI (AI rfl (OL rfl)) (AI (AI rfl (OL rfl)) TT)))
  refine zn (zw ?_)
  refine zn ?_
  refine zn (zw ?_)
  refine LWp.sim (e := [(2, .str a2), (3, .ptr (0, 0) 0 0), (4, .ptr (1, 0) 0 0), (7, .ptr (2, 0) 0 0), (8, .bool v2.2), (9, .ptr (3, 0) 0 0), (10, .bool false), (24, i6 ((a0.fA.map z7).length : Int)), (25, i6 0)]) (L := [((0, 0), .one (z6 a0)), ((1, 0), .one (z6 a1)), ((2, 0), .one (z6 v2.1)), ((3, 0), .one [i6 0, i6 0, .str [], .isl 1 (([] : List (List UInt8)).map z7) true, .isl 5 (([] : List (List AVal)).map z8) true])]) (n := 4) ?_ ?_
  ·exact xx (M := [((0, 0), (0, 0)), ((1, 0), (1, 0)), ((2, 0), (2, 0)), ((3, 0), (3, 0))]) rfl (AI (VS rfl) (SP rfl (SP rfl (SP rfl (AI (VS rfl) (SP rfl (S2 rfl rfl (AI (VS rfl) TT)))))))) (AI (AI rfl (OL rfl)) (AI (AI rfl (OL rfl)) (AI (AI rfl (OL rfl)) (AI (AI rfl (OL rfl)) TT))))
  refine j4 ?_
  refine LWp.sim ?_ (zmm h)
  exact xx (M := [((0, 0), (0, 0)), ((1, 0), (1, 0)), ((2, 0), (2, 0)), ((3, 0), (3, 0))]) rfl (AI (VS rfl) (SP rfl (SP rfl (SP rfl (AI (VS rfl) (SP rfl (S2 rfl rfl (AI (VS rfl) TT)))))))) (AI (AI rfl (OL rfl)) (AI (AI rfl (OL rfl)) (AI (AI rfl (OL rfl)) (AI (AI rfl (BVw.oneL (S2 rfl rfl (AI (VS rfl) (AI (Vw.islF _ _ _) (AI (Vw.islF _ _ _) TT)))))) TT))))
theorem zus {a0 : GJ} {a1 : GJ} {a2 : List UInt8} {m : Option Nat} {o : Bool} (h : x5 m a0 a1 a2 = some o) : PFn Tryd.prog 5 [.agg (z6 a0), .agg (z6 a1), .str a2] (.bool o) := PFn.ofFnW (L := zvg) ztt zsy (NB rfl) rfl (zmo h)
end Go.Proofs.YtdgkalljlomjnaaDoor
