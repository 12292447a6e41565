/-
  Own text GenA of this claim: what functions of the given program compute, in plain Lean, and the proof; no condition.
-/
import Derived.Test.YtejfgjggcoemeaaChecked
import Derived.Test.YtejfgjggcoemeaaFxN
import Derived.Test.YtejfgjggcoemeaaFxGr
import Derived.Test.YtejfgjggcoemeaaFxMd
import Derived.Test.YtejfgjggcoemeaaFxGm
import Derived.Test.YtejfgjggcoemeaaFxDt
import Derived.Test.YtejfgjggcoemeaaFxSo
import Derived.Test.YtejfgjggcoemeaaLib
import Derived.KernelRfl
namespace Go.Proofs.Ytejfgjggcoemeaa
open Go.Fx
set_option linter.unusedVariables false
structure G_QKey where
 f_Kind : Int
 f_A : Int
 f_B : Int
instance : Inhabited G_QKey := ⟨(G_QKey.mk 0 0 0)⟩
structure G_QEdge where
 f_From : G_QKey
 f_To : G_QKey
instance : Inhabited G_QEdge := ⟨(G_QEdge.mk (G_QKey.mk 0 0 0) (G_QKey.mk 0 0 0))⟩
structure G_boundsError where
 f_x : Int
 f_y : Int
 f_signed : Bool
 f_code : Int
instance : Inhabited G_boundsError := ⟨(G_boundsError.mk 0 0 false 0)⟩
def z7 (x : G_QEdge) : List AVal := [.int .i64 x.f_From.f_Kind, .int .i64 x.f_From.f_A, .int .i64 x.f_From.f_B, .int .i64 x.f_To.f_Kind, .int .i64 x.f_To.f_A, .int .i64 x.f_To.f_B]
def z6 (x : G_QKey) : List AVal := [.int .i64 x.f_Kind, .int .i64 x.f_A, .int .i64 x.f_B]
def za (x : List G_QKey) : List AVal := [.isl 3 (x.map z6) false]
def Y6 (x : Int) : List AVal := [.int .i64 x]
def uz (x : G_boundsError) : List AVal := [.int .i64 x.f_x, .int .i64 x.f_y, .bool x.f_signed, .int .u8 x.f_code]
def z8 (x : G_QKey) : AVal := .agg [.int .i64 x.f_Kind, .int .i64 x.f_A, .int .i64 x.f_B]
theorem vh (x : G_QKey) : (z8 x).nid = true := rfl
def zb (x : List G_QKey) : AVal := .isl 3 (x.map z6) false
theorem zc (x : List G_QKey) : (zb x).nid = true := rfl
def Yh (x : G_boundsError) : AVal := .agg [.int .i64 x.f_x, .int .i64 x.f_y, .bool x.f_signed, .int .u8 x.f_code]
theorem zar (x : G_boundsError) : (Yh x).nid = true := rfl
def yb (x : Int) : AVal := .int .i64 x
theorem zo (x : Int) : (yb x).nid = true := rfl
def ze (x y : G_QKey) : Bool := (x.f_Kind == y.f_Kind && (x.f_A == y.f_A && (x.f_B == y.f_B && true)))
theorem jd (x y : G_QKey) : Zx [.int, .int, .int] (z8 x) (z8 y) = some (ze x y) := rfl
def z1t (x y : G_boundsError) : Bool := (x.f_x == y.f_x && (x.f_y == y.f_y && (x.f_signed == y.f_signed && (x.f_code == y.f_code && true))))
theorem zb4 (x y : G_boundsError) : Zx [.int, .int, .bool, .int] (Yh x) (Yh y) = some (z1t x y) := rfl
theorem zn1 (x : G_QEdge) : AVal.nid.nidL (z7 x) = true ∧ ∀ y ∈ z7 x, y.imm = some y := ⟨rfl, by simp [z7, AVal.imm]⟩
theorem Ud (x : G_QKey) : AVal.nid.nidL (z6 x) = true ∧ ∀ y ∈ z6 x, y.imm = some y := ⟨rfl, by simp [z6, AVal.imm]⟩
theorem zk0 (x : List G_QKey) : AVal.nid.nidL (za x) = true ∧ ∀ y ∈ za x, y.imm = some y := ⟨rfl, by simp [za, AVal.imm]⟩
theorem zpl (x : Int) : AVal.nid.nidL (Y6 x) = true ∧ ∀ y ∈ Y6 x, y.imm = some y := ⟨rfl, by simp [Y6, AVal.imm]⟩
theorem zb3 (x : G_boundsError) : AVal.nid.nidL (uz x) = true ∧ ∀ y ∈ uz x, y.imm = some y := ⟨rfl, by simp [uz, AVal.imm]⟩
theorem Jc (x y : G_QKey) (h : ze x y = true) : z8 x = z8 y := by
 unfold ze at h
 simp only [Bool.and_eq_true, beq_iff_eq, Bool.and_true] at h
 unfold z8
 simp [h]
theorem zlz (x : G_QEdge) : AVal.nid.nidL (z7 x) = true := rfl
theorem wc (x : G_QKey) : AVal.nid.nidL (z6 x) = true := rfl
theorem zh4 (x : List G_QKey) : AVal.nid.nidL (za x) = true := rfl
theorem zoz (x : Int) : AVal.nid.nidL (Y6 x) = true := rfl
theorem zaz (x : G_boundsError) : AVal.nid.nidL (uz x) = true := rfl
def zk9 : LCode := (.seq (.region [⟨some 2, .mv (.c (.bool false)), none⟩])
 (.seq (.region [⟨some 3, .mv (.t 0), none⟩,
  ⟨some 4, .mv (.t 0), none⟩,
  ⟨some 5, .bin .neq (.t 3) (.t 4), none⟩,
  ⟨some 2, .mv (.t 5), none⟩])
 .ret))
def zbq : Lay := ⟨6, [], false⟩
def zfj : List LRes := [.t 2]
def zoa : LFn := ⟨1, zbq, zk9, zfj⟩
theorem zla : k9 Try.prog [] 64 = some zoa := by kernel_rfl
theorem zll : Y8 Try.prog 64 := ⟨_, Try.func64, rfl, rfl⟩
noncomputable def we (m : Option Nat) (a0 : Int) : Option Bool :=
 some (a0 != a0)
def zq5 (a0 : Int) (o : Bool) : Exit → Env → AHeap → Nat → Prop := Xg zfj (wu (.bool o))
theorem zeq {a0 : Int} {m : Option Nat} {o : Bool} (h : we m a0 = some o) : LWp Try.prog zbq 0 zk9 (zq5 a0 o) (qx 0 [.int .i64 a0]) [] 0 := by
 unfold we at h
 refine zl ?_
 refine y8 ?_
 refine zl ?_
 refine y8 ?_
 refine Ze ?_
 cases h
 exact And.intro trivial (And.intro rfl (Vw.same _ rfl))
theorem zkg {a0 : Int} {m : Option Nat} {o : Bool} (h : we m a0 = some o) : PFn Try.prog 64 [.int .i64 a0] (.bool o) := PFn.ofFnW (L := zoa) zla zll (Nat.le_of_ble_eq_true rfl) rfl (zeq h)
def zk4 : LCode := (.seq (.region [⟨some 4, .mv (.c (.int .i64 0)), none⟩])
 (.seq (.region [⟨some 7, .mv (.t 0), none⟩,
  ⟨some 8, .call 64 [(.t 7)], none⟩,
  ⟨some 5, .mv (.t 8), none⟩])
 (.seq (.region [⟨some 9, .mv (.t 1), none⟩,
  ⟨some 10, .call 64 [(.t 9)], none⟩,
  ⟨some 6, .mv (.t 10), none⟩])
 (.seq (.seq (.region [⟨some 11, .mv (.t 5), none⟩])
 (.cond (.t 11)
  (.seq (.seq (.region [⟨some 12, .mv (.t 6), none⟩])
  (.cond (.t 12)
   (.seq (.region [⟨some 4, .mv (.c (.int .i64 0)), none⟩])
   .ret)
   .skip))
  (.seq (.region [⟨some 4, .mv (.c (.int .i64 (-1))), none⟩])
  .ret))
  .skip))
 (.seq (.seq (.region [⟨some 13, .mv (.t 6), none⟩])
 (.cond (.t 13)
  (.seq (.region [⟨some 4, .mv (.c (.int .i64 1)), none⟩])
  .ret)
  .skip))
 (.seq (.seq (.region [⟨some 14, .mv (.t 0), none⟩,
  ⟨some 15, .mv (.t 1), none⟩,
  ⟨some 16, .bin .lss (.t 14) (.t 15), none⟩])
 (.cond (.t 16)
  (.seq (.region [⟨some 4, .mv (.c (.int .i64 (-1))), none⟩])
  .ret)
  .skip))
 (.seq (.seq (.region [⟨some 17, .mv (.t 0), none⟩,
  ⟨some 18, .mv (.t 1), none⟩,
  ⟨some 19, .bin .gtr (.t 17) (.t 18), none⟩])
 (.cond (.t 19)
  (.seq (.region [⟨some 4, .mv (.c (.int .i64 1)), none⟩])
  .ret)
  .skip))
 (.seq (.region [⟨some 4, .mv (.c (.int .i64 0)), none⟩])
 .ret))))))))
def zgf : Lay := ⟨20, [], false⟩
def zc1 : List LRes := [.t 4]
def znh : LFn := ⟨2, zgf, zk4, zc1⟩
theorem zmt : k9 Try.prog [] 51 = some znh := by kernel_rfl
theorem zmi : Y8 Try.prog 51 := ⟨_, Try.func51, rfl, rfl⟩
noncomputable def ym (m : Option Nat) (a0 : Int) (a1 : Int) : Option Int :=
 (we m a0).bind fun v1 =>
 (we m a1).bind fun v2 =>
 if v1 = true then
  if v2 = true then
   some 0
  else
   some (-1)
 else
  if v2 = true then
   some 1
  else
   if (decide (a0 < a1)) = true then
    some (-1)
   else
    if (decide (a0 > a1)) = true then
     some 1
    else
     some 0
def zq7 (a0 : Int) (a1 : Int) (o : Int) : Exit → Env → AHeap → Nat → Prop := Xg zc1 (wu (.int .i64 o))
theorem zbt {a0 : Int} {a1 : Int} {m : Option Nat} {o : Int} (h : ym m a0 a1 = some o) : LWp Try.prog zgf 0 zk4 (zq7 a0 a1 o) (qx 0 [.int .i64 a0, .int .i64 a1]) [] 0 := by
 unfold ym at h
 refine zl ?_
 refine y8 ?_
 refine zl ?_
 refine y8 ?_
 obtain ⟨v1, h1, h⟩ := bind_some h
 refine PFn.call (zkg h1) (And.intro (Vw.same _ rfl) trivial) ?_
 refine zl ?_
 refine y8 ?_
 obtain ⟨v2, h2, h⟩ := bind_some h
 refine PFn.call (zkg h2) (And.intro (Vw.same _ rfl) trivial) ?_
 show Q5 _ _ _ [(10, .bool v2), (9, .int .i64 a1), (5, .bool v1), (8, .bool v1), (7, .int .i64 a0), (4, .int .i64 0), (0, .int .i64 a0), (1, .int .i64 a1)] _ _
 refine zl ?_
 refine zl ?_
 refine y8 ?_
 refine LWp.sim (e := [(0, .int .i64 a0), (1, .int .i64 a1), (6, .bool v2), (11, .bool v1)]) (L := []) (n := 0) ?_ ?_
 ·exact jh (M := []) rfl (And.intro (Vw.same _ rfl) (And.intro (Vw.same _ rfl) (And.intro (Vw.same _ rfl) (And.intro (Vw.same _ rfl) trivial)))) trivial
 refine w5 (v := v1) rfl trivial (fun h3 => ?_) (fun h3 => ?_)
 ·have h := q7 h3 h
  refine zl ?_
  refine zl ?_
  refine y8 ?_
  refine w5 (v := v2) rfl trivial (fun h4 => ?_) (fun h4 => ?_)
  ·have h := q7 h4 h
   refine zl ?_
   refine y8 ?_
   refine Ze ?_
   cases h
   exact And.intro trivial (And.intro rfl (Vw.same _ rfl))
  ·have h := qq h4 h
   refine w7 ?_
   refine zl ?_
   refine y8 ?_
   refine Ze ?_
   cases h
   exact And.intro trivial (And.intro rfl (Vw.same _ rfl))
 ·have h := qq h3 h
  refine w7 ?_
  refine zl ?_
  refine zl ?_
  refine y8 ?_
  refine w5 (v := v2) rfl trivial (fun h5 => ?_) (fun h5 => ?_)
  ·have h := q7 h5 h
   refine zl ?_
   refine y8 ?_
   refine Ze ?_
   cases h
   exact And.intro trivial (And.intro rfl (Vw.same _ rfl))
  ·have h := qq h5 h
   refine w7 ?_
   refine zl ?_
   refine zl ?_
   refine y8 ?_
   refine w5 (v := (decide (a0 < a1))) rfl trivial (fun h6 => ?_) (fun h6 => ?_)
   ·have h := q7 h6 h
    refine zl ?_
    refine y8 ?_
    refine Ze ?_
    cases h
    exact And.intro trivial (And.intro rfl (Vw.same _ rfl))
   ·have h := qq h6 h
    refine w7 ?_
    refine zl ?_
    refine zl ?_
    refine y8 ?_
    refine w5 (v := (decide (a0 > a1))) rfl trivial (fun h7 => ?_) (fun h7 => ?_)
    ·have h := q7 h7 h
     refine zl ?_
     refine y8 ?_
     refine LWp.sim (e := [(4, .int .i64 1)]) (L := []) (n := 0) ?_ ?_
     ·exact jh (M := []) rfl (And.intro (Vw.same _ rfl) trivial) trivial
     refine Ze ?_
     cases h
     exact And.intro trivial (And.intro rfl (Vw.same _ rfl))
    ·have h := qq h7 h
     refine w7 ?_
     refine zl ?_
     refine y8 ?_
     refine LWp.sim (e := [(4, .int .i64 0)]) (L := []) (n := 0) ?_ ?_
     ·exact jh (M := []) rfl (And.intro (Vw.same _ rfl) trivial) trivial
     refine Ze ?_
     cases h
     exact And.intro trivial (And.intro rfl (Vw.same _ rfl))
theorem z12 {a0 : Int} {a1 : Int} {m : Option Nat} {o : Int} (h : ym m a0 a1 = some o) : PFn Try.prog 51 [.int .i64 a0, .int .i64 a1] (.int .i64 o) := PFn.ofFnW (L := znh) zmt zmi (Nat.le_of_ble_eq_true rfl) rfl (zbt h)
def zcd : LCode := (.seq (.region [⟨some 9, .bin .lss (.t 8) (.t 7), none⟩])
 (.seq (.cond (.t 9)
  .skip
  (.exit 0))
 (.seq (.block 1
  (.seq (.region [⟨some 10, .iaddr 1 (.t 6) (.t 8), none⟩,
   ⟨some 11, .load false 1 (.t 10), none⟩,
   ⟨some 5, .mv (.t 11), none⟩])
  (.seq (.region [⟨some 12, .mv (.t 5), none⟩,
   ⟨some 13, .mv (.t 3), none⟩,
   ⟨some 14, .bin .neq (.t 12) (.t 13), none⟩])
  (.cond (.t 14)
   (.seq (.region [⟨some 15, .mv (.t 5), none⟩,
    ⟨some 2, .mv (.t 15), none⟩])
   .ret)
   .skip))))
 (.region [⟨some 16, .bin .add (.t 8) (.c (.int .i64 1)), none⟩,
  ⟨some 8, .mv (.t 16), none⟩]))))
def z7n : LCode := (.seq (.region [⟨some 17, .mv (.t 3), none⟩,
 ⟨some 2, .mv (.t 17), none⟩])
 .ret)
def zjz : LCode := (.seq (.region [⟨some 2, .mv (.c (.int .i64 0)), none⟩])
 (.seq (.region [⟨some 3, .mv (.c (.int .i64 0)), none⟩])
 (.seq (.seq (.region [⟨some 6, .mv (.t 0), none⟩,
  ⟨some 7, .len false (.t 6), none⟩,
  ⟨some 8, .mv (.c (.int .i64 0)), none⟩])
 (.block 0
  (.loop
   zcd)))
 z7n)))
def Xr : Lay := ⟨18, [], false⟩
def zee : List LRes := [.t 2]
def znb : LFn := ⟨1, Xr, zjz, zee⟩
theorem zl2 : k9 Try.prog [] 50 = some znb := by kernel_rfl
theorem zks : Y8 Try.prog 50 := ⟨_, Try.func50, rfl, rfl⟩
def zj6 (a0 : List Int) (o : Int) : Exit → Env → AHeap → Nat → Prop := Xg zee (wu (.int .i64 o))
def z0y (a0 : List Int) (s : Int) : Env := [(3, .int .i64 0), (6, .isl 1 (a0.map Y6) false), (7, .int .i64 ((a0.map Y6).length : Int)), (8, .int .i64 s)]
def z4m (a0 : List Int) (s : Int) : AHeap := []
def z7t (a0 : List Int) (o : Int) : Exit → Env → AHeap → Nat → Prop := (yv 0 (uv Try.prog Xr 0 z7n (zj6 a0 o)))
noncomputable def vu (m : Option Nat) : Option Int :=
 some 0
noncomputable def zr (m : Option Nat) (a0 : List Int) (v1 : Int) : Option (Int ⊕ Int) :=
 if (decide (v1 < ((a0.map Y6).length : Int))) = true then
  if (0 : Int) ≤ v1 ∧ v1 < ((a0.map Y6).length : Int) then
  if ((a0.getD v1.toNat default) != 0) = true then
   Option.map Sum.inr (
    some (a0.getD v1.toNat default))
  else
   some (.inl (W (v1 + 1)))
  else none
 else
  Option.map Sum.inr (
   vu m)
noncomputable def vp (m : Option Nat) (a0 : List Int) (v1 : Int) : Option Int := u5 m (fun (s : Int) => zr m a0 s) v1
theorem zdc {a0 : List Int} {m : Option Nat} {o : Int} (h : vu m = some o) :
 LWp Try.prog Xr 0 z7n (zj6 a0 o) [(3, .int .i64 0)] [] 0 := by
 unfold vu at h
 refine zl ?_
 refine y8 ?_
 refine Ze ?_
 cases h
 exact And.intro trivial (And.intro rfl (Vw.same _ rfl))
theorem zay {a0 : List Int} {v1 : Int} {m : Option Nat} {o : Int ⊕ Int} (h : zr m a0 v1 = some o) :
 LWp Try.prog Xr 0 zcd (wj 0 0 (z0y a0) (z4m a0) (z7t a0) o) [(3, .int .i64 0), (6, .isl 1 (a0.map Y6) false), (7, .int .i64 ((a0.map Y6).length : Int)), (8, .int .i64 v1)] [] 0 := by
 unfold zr at h
 refine zl ?_
 refine y8 ?_
 refine zl ?_
 refine w5 (v := (decide (v1 < ((a0.map Y6).length : Int)))) rfl trivial (fun h7 => ?_) (fun h7 => ?_)
 ·have h := q7 h7 h
  refine w7 ?_
  refine zl ?_
  refine j8 ?_
  refine zl ?_
  refine y8 ?_
  obtain ⟨h8, h⟩ := y4 h
  refine And.intro h8 ?_
  refine Exists.intro (Y6 (a0.getD v1.toNat default)) (And.intro (jm Y6 _ _ (wx Y6 h8)) (And.intro (And.intro (kw h8) (Nat.le_of_ble_eq_true rfl)) ?_))
  refine zl ?_
  refine y8 ?_
  refine w5 (v := ((a0.getD v1.toNat default) != 0)) rfl trivial (fun h9 => ?_) (fun h9 => ?_)
  ·have h := q7 h9 h
   refine zl ?_
   refine y8 ?_
   refine LWp.sim (e := [(2, .int .i64 (a0.getD v1.toNat default))]) (L := []) (n := 0) ?_ ?_
   ·exact jh (M := []) rfl (And.intro (Vw.same _ rfl) trivial) trivial
   refine Ze ?_
   obtain ⟨o, hq, rfl⟩ := Option.map_eq_some_iff.1 h
   replace h := hq; clear hq
   refine And.intro nofun ?_
   cases h
   exact And.intro trivial (And.intro rfl (Vw.same _ rfl))
  ·have h := qq h9 h
   refine w7 ?_
   refine y8 ?_
   cases h
   exact And.intro rfl (jh (M := []) rfl (And.intro (Vw.same _ rfl) (And.intro (Vw.same _ rfl) (And.intro (Vw.same _ rfl) (And.intro (Vw.same _ rfl) trivial)))) trivial)
 ·have h := qq h7 h
  refine Zp ?_
  obtain ⟨o, hq, rfl⟩ := Option.map_eq_some_iff.1 h
  replace h := hq; clear hq
  refine And.intro nofun ?_
  refine LWp.sim ?_ (zdc h)
  exact jh (M := []) rfl (And.intro (Vw.same _ rfl) trivial) trivial
theorem zg0 {a0 : List Int} {v1 : Int} {m : Option Nat} {o : Int} (h : vp m a0 v1 = some o) :
 LWp Try.prog Xr 0 (.loop zcd) (yv 0 (uv Try.prog Xr 0 z7n (zj6 a0 o))) [(3, .int .i64 0), (6, .isl 1 (a0.map Y6) false), (7, .int .i64 ((a0.map Y6).length : Int)), (8, .int .i64 v1)] [] 0 :=
 j0 (m := m) (s := (v1 : Int)) (r := o) (fun (s : Int) => zr m a0 s) (z0y a0) (z4m a0) (z7t a0) (fun s o h => zay h) h
noncomputable def jt (m : Option Nat) (a0 : List Int) : Option Int :=
 vp m a0 0
theorem zci {a0 : List Int} {m : Option Nat} {o : Int} (h : jt m a0 = some o) : LWp Try.prog Xr 0 zjz (zj6 a0 o) (qx 0 [.isl 1 (a0.map Y6) false]) [] 0 := by
 unfold jt at h
 refine zl ?_
 refine y8 ?_
 refine zl ?_
 refine y8 ?_
 refine zl ?_
 refine zl ?_
 refine y8 ?_
 refine j8 ?_
 refine LWp.sim ?_ (zg0 h)
 exact jh (M := []) rfl (And.intro (Vw.same _ rfl) (And.intro (Vw.same _ rfl) (And.intro (Vw.same _ rfl) (And.intro (Vw.same _ rfl) trivial)))) trivial
theorem zkd {a0 : List Int} {m : Option Nat} {o : Int} (h : jt m a0 = some o) : PFn Try.prog 50 [.isl 1 (a0.map Y6) false] (.int .i64 o) := PFn.ofFnW (L := znb) zl2 zks (Nat.le_of_ble_eq_true rfl) rfl (zci h)
def z8w : LCode := (.seq (.region [⟨some 2, .box (.t 0), none⟩,
 ⟨some 3, .box (.t 1), none⟩,
 ⟨some 4, .mv (.c (.int .i64 0)), none⟩])
 (.seq (.draw [⟨⟨some 5, .faddr 0 (.t 2), none⟩, []⟩,
  ⟨⟨some 6, .load false 1 (.t 5), none⟩, []⟩,
  ⟨⟨some 7, .faddr 0 (.t 3), none⟩, []⟩,
  ⟨⟨some 8, .load false 1 (.t 7), none⟩, []⟩,
  ⟨⟨some 10, .faddr 1 (.t 2), none⟩, []⟩,
  ⟨⟨some 11, .load false 1 (.t 10), none⟩, []⟩,
  ⟨⟨some 12, .faddr 1 (.t 3), none⟩, []⟩,
  ⟨⟨some 13, .load false 1 (.t 12), none⟩, []⟩,
  ⟨⟨some 15, .faddr 2 (.t 2), none⟩, []⟩,
  ⟨⟨some 16, .load false 1 (.t 15), none⟩, []⟩,
  ⟨⟨some 17, .faddr 2 (.t 3), none⟩, []⟩,
  ⟨⟨some 18, .load false 1 (.t 17), none⟩, []⟩,
  ⟨⟨some 9, .call 51 [(.t 6), (.t 8)], none⟩, [5, 7, 9, 11]⟩,
  ⟨⟨some 14, .call 51 [(.t 11), (.t 13)], none⟩, [9, 11]⟩,
  ⟨⟨some 19, .call 51 [(.t 16), (.t 18)], none⟩, []⟩,
  ⟨⟨some 20, .mkSl true 1 [(.int .i64 0)] 3 [(0, (.t 9)), (1, (.t 14)), (2, (.t 19))], none⟩, []⟩,
  ⟨⟨some 21, .call 50 [(.t 20)], none⟩, []⟩,
  ⟨⟨some 4, .mv (.t 21), none⟩, []⟩])
 .ret))
def z4n : Lay := ⟨22, [], false⟩
def z54 : List LRes := [.t 4]
def zfb : LFn := ⟨2, z4n, z8w, z54⟩
theorem zcr : k9 Try.prog [] 39 = some zfb := by kernel_rfl
theorem zdu : Y8 Try.prog 39 := ⟨_, Try.func39, rfl, rfl⟩
noncomputable def yk (m : Option Nat) (a0 : G_QKey) (a1 : G_QKey) : Option Int :=
 (ym m a0.f_Kind a1.f_Kind).bind fun v1 =>
 (ym m a0.f_A a1.f_A).bind fun v2 =>
 (ym m a0.f_B a1.f_B).bind fun v3 =>
 (jt m ([v1, v2, v3] : List Int)).bind fun v4 =>
 some v4
def zkj (a0 : G_QKey) (a1 : G_QKey) (o : Int) : Exit → Env → AHeap → Nat → Prop := Xg z54 (Xy 3 4 (.int .i64 o) [])
theorem z5m {a0 : G_QKey} {a1 : G_QKey} {m : Option Nat} {o : Int} (h : yk m a0 a1 = some o) : LWp Try.prog z4n 3 z8w (zkj a0 a1 o) (qx 0 [.agg [.int .i64 a0.f_Kind, .int .i64 a0.f_A, .int .i64 a0.f_B], .agg [.int .i64 a1.f_Kind, .int .i64 a1.f_A, .int .i64 a1.f_B]]) [] 3 := by
 unfold yk at h
 refine zl ?_
 refine y8 ?_
 refine zl ?_
 refine Uw ?_
 obtain ⟨v1, h1, h⟩ := bind_some h
 refine PFn.call (z12 h1) (And.intro (Vw.same _ rfl) (And.intro (Vw.same _ rfl) trivial)) ?_
 refine And.intro rfl ?_
 refine And.intro rfl ?_
 refine And.intro rfl ?_
 refine And.intro rfl ?_
 obtain ⟨v2, h2, h⟩ := bind_some h
 refine PFn.call (z12 h2) (And.intro (Vw.same _ rfl) (And.intro (Vw.same _ rfl) trivial)) ?_
 refine And.intro rfl ?_
 refine And.intro rfl ?_
 obtain ⟨v3, h3, h⟩ := bind_some h
 refine PFn.call (z12 h3) (And.intro (Vw.same _ rfl) (And.intro (Vw.same _ rfl) trivial)) ?_
 show yd _ _ _ _ _ [(19, .int .i64 v3), (14, .int .i64 v2), (9, .int .i64 v1), (18, .int .i64 a1.f_B), (17, .ptr (4, 0) 0 2), (16, .int .i64 a0.f_B), (15, .ptr (3, 0) 0 2), (13, .int .i64 a1.f_A), (12, .ptr (4, 0) 0 1), (11, .int .i64 a0.f_A), (10, .ptr (3, 0) 0 1), (8, .int .i64 a1.f_Kind), (7, .ptr (4, 0) 0 0), (6, .int .i64 a0.f_Kind), (5, .ptr (3, 0) 0 0), (4, .int .i64 0), (3, .ptr (4, 0) 0 0), (2, .ptr (3, 0) 0 0), (0, .agg [.int .i64 a0.f_Kind, .int .i64 a0.f_A, .int .i64 a0.f_B]), (1, .agg [.int .i64 a1.f_Kind, .int .i64 a1.f_A, .int .i64 a1.f_B])] _ _
 obtain ⟨v4, h4, h⟩ := bind_some h
 refine PFn.call (zkd h4) (And.intro (Vw.islF _ _ _) trivial) ?_
 show yd _ _ _ _ _ [(21, .int .i64 v4), (20, .isl 1 (([v1, v2, v3] : List Int).map Y6) true), (19, .int .i64 v3), (14, .int .i64 v2), (9, .int .i64 v1), (18, .int .i64 a1.f_B), (17, .ptr (4, 0) 0 2), (16, .int .i64 a0.f_B), (15, .ptr (3, 0) 0 2), (13, .int .i64 a1.f_A), (12, .ptr (4, 0) 0 1), (11, .int .i64 a0.f_A), (10, .ptr (3, 0) 0 1), (8, .int .i64 a1.f_Kind), (7, .ptr (4, 0) 0 0), (6, .int .i64 a0.f_Kind), (5, .ptr (3, 0) 0 0), (4, .int .i64 0), (3, .ptr (4, 0) 0 0), (2, .ptr (3, 0) 0 0), (0, .agg [.int .i64 a0.f_Kind, .int .i64 a0.f_A, .int .i64 a0.f_B]), (1, .agg [.int .i64 a1.f_Kind, .int .i64 a1.f_A, .int .i64 a1.f_B])] _ _
 refine LWp.sim (e := [(4, .int .i64 v4)]) (L := []) (n := 3) ?_ ?_
 ·exact jh (M := []) rfl (And.intro (Vw.same _ rfl) trivial) trivial
 refine Ze ?_
 cases h
 exact And.intro trivial (zih (n' := 3) [] [] rfl rfl (Vw.same _ rfl) trivial)
theorem zhq {a0 : G_QKey} {a1 : G_QKey} {m : Option Nat} {o : Int} (h : yk m a0 a1 = some o) : ACalls Try.prog 39 [.agg [.int .i64 a0.f_Kind, .int .i64 a0.f_A, .int .i64 a0.f_B], .agg [.int .i64 a1.f_Kind, .int .i64 a1.f_A, .int .i64 a1.f_B]] [] 3 (vr 4 (.int .i64 o) []) := Xf (L := zfb) zcr zdu (Nat.le_of_ble_eq_true rfl) (z5m h)
def z2e : LCode := (.seq (.seq (.region [⟨some 15, .mv (.t 9), none⟩,
 ⟨some 16, .mv (.t 10), none⟩,
 ⟨some 17, .bin .lss (.t 15) (.t 16), none⟩])
 (.cond (.t 17)
  .skip
  (.exit 0)))
 (.block 1
  (.seq (.region [⟨some 18, .mv (.t 9), none⟩,
   ⟨some 19, .mv (.t 10), none⟩,
   ⟨some 20, .bin .add (.t 18) (.t 19), none⟩,
   ⟨some 21, .conv (.int .u64) (.t 20), none⟩,
   ⟨some 22, .bin .shr (.t 21) (.c (.int .u64 1)), none⟩,
   ⟨some 23, .conv (.int .i64) (.t 22), none⟩,
   ⟨some 11, .mv (.t 23), none⟩])
  (.seq (.draw [⟨⟨some 24, .mv (.t 2), none⟩, []⟩,
   ⟨⟨some 25, .mv (.t 0), none⟩, []⟩,
   ⟨⟨some 26, .mv (.t 11), none⟩, []⟩,
   ⟨⟨some 27, .iaddr 3 (.t 25) (.t 26), none⟩, []⟩,
   ⟨⟨some 28, .load true 3 (.t 27), none⟩, []⟩,
   ⟨⟨some 29, .load true 3 (.t 4), none⟩, []⟩,
   ⟨⟨some 30, .callv (.t 24) [(.t 28), (.t 29)], none⟩, []⟩,
   ⟨⟨some 31, .bin .lss (.t 30) (.c (.int .i64 0)), none⟩, []⟩])
  (.cond (.t 31)
   (.region [⟨some 32, .mv (.t 11), none⟩,
    ⟨some 33, .bin .add (.t 32) (.c (.int .i64 1)), none⟩,
    ⟨some 9, .mv (.t 33), none⟩])
   (.region [⟨some 34, .mv (.t 11), none⟩,
    ⟨some 10, .mv (.t 34), none⟩]))))))
def z7z : LCode := .ret
def Ve : LCode := (.seq (.draw [⟨⟨some 35, .mv (.t 9), none⟩, []⟩,
 ⟨⟨some 36, .mv (.t 9), none⟩, []⟩,
 ⟨⟨some 37, .mv (.t 8), none⟩, []⟩,
 ⟨⟨some 38, .bin .lss (.t 36) (.t 37), none⟩, []⟩,
 ⟨⟨some 39, .mv (.t 38), none⟩, []⟩,
 ⟨⟨some 40, .mv (.t 2), some (39, true)⟩, []⟩,
 ⟨⟨some 41, .mv (.t 0), some (39, true)⟩, []⟩,
 ⟨⟨some 42, .mv (.t 9), some (39, true)⟩, []⟩,
 ⟨⟨some 43, .iaddr 3 (.t 41) (.t 42), some (39, true)⟩, []⟩,
 ⟨⟨some 44, .load true 3 (.t 43), some (39, true)⟩, []⟩,
 ⟨⟨some 45, .load true 3 (.t 4), some (39, true)⟩, []⟩,
 ⟨⟨some 46, .callv (.t 40) [(.t 44), (.t 45)], some (39, true)⟩, []⟩,
 ⟨⟨some 47, .bin .eql (.t 46) (.c (.int .i64 0)), some (39, true)⟩, []⟩,
 ⟨⟨some 48, .pick (.t 39) (.t 47) (.c (.bool false)), none⟩, []⟩,
 ⟨⟨some 6, .mv (.t 35), none⟩, []⟩,
 ⟨⟨some 7, .mv (.t 48), none⟩, []⟩])
 z7z)
def z96 : LCode := (.seq (.region [⟨some 4, .box (.t 1), none⟩,
 ⟨some 6, .mv (.c (.int .i64 0)), none⟩,
 ⟨some 7, .mv (.c (.bool false)), none⟩])
 (.seq (.region [⟨some 12, .mv (.t 0), none⟩,
  ⟨some 13, .len false (.t 12), none⟩,
  ⟨some 8, .mv (.t 13), none⟩])
 (.seq (.region [⟨some 14, .mv (.t 8), none⟩,
  ⟨some 9, .mv (.c (.int .i64 0)), none⟩,
  ⟨some 10, .mv (.t 14), none⟩])
 (.seq (.block 0
  (.loop
   z2e))
 Ve))))
def ul : Lay := ⟨49, [], false⟩
def z49 : List LRes := [.t 6, .t 7]
def zd9 : LFn := ⟨3, ul, z96, z49⟩
theorem zfo : k9 Try.prog [] 46 = some zd9 := by kernel_rfl
theorem zce : Y8 Try.prog 46 := ⟨_, Try.func46, rfl, rfl⟩
def Kq {σ : Type} (Hc : σ → AHeap) (fi0 : Fn) (ff0 fc0 : List AVal) (a0 : G_QKey) (a1 : List G_QKey) (z0 : σ) (o : Int × Bool × σ) : Exit → Env → AHeap → Nat → Prop := Xg z49 (Xy 3 4 (.tup [.int .i64 o.1, .bool o.2.1]) ([((0, 0), .rows 3 (a1.map z6))] ++ up 3 (Hc o.2.2)))
def Wx {σ : Type} (Hc : σ → AHeap) (fi0 : Fn) (ff0 fc0 : List AVal) (a0 : G_QKey) (a1 : List G_QKey) (s : (Int × σ × Int)) : Env := [(0, .msl (0, 0) 3 0 a1.length false), (2, .fn fi0 ff0 fc0), (4, .ptr (4, 0) 0 0), (8, .int .i64 ((a1.length : Nat) : Int)), (9, .int .i64 s.1), (10, .int .i64 s.2.2)]
def Kk {σ : Type} (Hc : σ → AHeap) (fi0 : Fn) (ff0 fc0 : List AVal) (a0 : G_QKey) (a1 : List G_QKey) (s : (Int × σ × Int)) : AHeap := ([((0, 0), .rows 3 (a1.map z6)), ((4, 0), .one [.int .i64 a0.f_Kind, .int .i64 a0.f_A, .int .i64 a0.f_B])] ++ up 3 (Hc s.2.1))
def z0d {σ : Type} (Hc : σ → AHeap) (fi0 : Fn) (ff0 fc0 : List AVal) (a0 : G_QKey) (a1 : List G_QKey) (z0 : σ) (o : (Int × Bool × σ)) : Exit → Env → AHeap → Nat → Prop := (yv 0 (uv Try.prog ul 3 Ve (Kq Hc fi0 ff0 fc0 a0 a1 z0 o)))
noncomputable def yh {σ : Type} (g0 : σ → (G_QKey × G_QKey) → Option (Int × σ)) (m : Option Nat) (a1 : List G_QKey) (v2 : Int) (v8 : Bool) (v9 : σ) : Option (Int × Bool × σ) :=
 some (v2, v8, v9)
noncomputable def qg {σ : Type} (g0 : σ → (G_QKey × G_QKey) → Option (Int × σ)) (m : Option Nat) (a0 : G_QKey) (a1 : List G_QKey) (v2 : Int) (v3 : σ) : Option (Int × Bool × σ) :=
 if (((decide (v2 < ((a1.length : Nat) : Int))) == true) = true → (0 : Int) ≤ v2 ∧ v2 < ((a1.length : Nat) : Int)) then
 if (((decide (v2 < ((a1.length : Nat) : Int))) == true) = true → (0 + v2.toNat) < a1.length) then
 if ((decide (v2 < ((a1.length : Nat) : Int))) == true) = true then
  (g0 v3 ((G_QKey.mk ((a1.getD (0 + v2.toNat) default).f_Kind) ((a1.getD (0 + v2.toNat) default).f_A) ((a1.getD (0 + v2.toNat) default).f_B)), a0)).bind fun v7 =>
  yh g0 m a1 v2 ((decide (v2 < ((a1.length : Nat) : Int))) && (v7.1 == 0)) v7.2
 else
  yh g0 m a1 v2 ((decide (v2 < ((a1.length : Nat) : Int))) && ((0 : Int) == 0)) v3
 else none
 else none
noncomputable def zj {σ : Type} (g0 : σ → (G_QKey × G_QKey) → Option (Int × σ)) (m : Option Nat) (a0 : G_QKey) (a1 : List G_QKey) (v2 : Int) (v3 : σ) (v4 : Int) : Option ((Int × σ × Int) ⊕ (Int × Bool × σ)) :=
 if (decide (v2 < v4)) = true then
  if (0 : Int) ≤ (W ((IntKind.wrap .u64 (W (v2 + v4))).fdiv (2 ^ (min (1 : Int).toNat (IntKind.bits .u64))))) ∧ (W ((IntKind.wrap .u64 (W (v2 + v4))).fdiv (2 ^ (min (1 : Int).toNat (IntKind.bits .u64))))) < ((a1.length : Nat) : Int) then
  if (0 + (W ((IntKind.wrap .u64 (W (v2 + v4))).fdiv (2 ^ (min (1 : Int).toNat (IntKind.bits .u64))))).toNat) < a1.length then
  (g0 v3 ((G_QKey.mk ((a1.getD (0 + (W ((IntKind.wrap .u64 (W (v2 + v4))).fdiv (2 ^ (min (1 : Int).toNat (IntKind.bits .u64))))).toNat) default).f_Kind) ((a1.getD (0 + (W ((IntKind.wrap .u64 (W (v2 + v4))).fdiv (2 ^ (min (1 : Int).toNat (IntKind.bits .u64))))).toNat) default).f_A) ((a1.getD (0 + (W ((IntKind.wrap .u64 (W (v2 + v4))).fdiv (2 ^ (min (1 : Int).toNat (IntKind.bits .u64))))).toNat) default).f_B)), a0)).bind fun v6 =>
  if (decide (v6.1 < 0)) = true then
   some (.inl ((W ((W ((IntKind.wrap .u64 (W (v2 + v4))).fdiv (2 ^ (min (1 : Int).toNat (IntKind.bits .u64))))) + 1)), v6.2, v4))
  else
   some (.inl (v2, v6.2, (W ((IntKind.wrap .u64 (W (v2 + v4))).fdiv (2 ^ (min (1 : Int).toNat (IntKind.bits .u64)))))))
  else none
  else none
 else
  Option.map Sum.inr (
   qg g0 m a0 a1 v2 v3)
noncomputable def zk {σ : Type} (g0 : σ → (G_QKey × G_QKey) → Option (Int × σ)) (m : Option Nat) (a0 : G_QKey) (a1 : List G_QKey) (v2 : Int) (v3 : σ) (v4 : Int) : Option (Int × Bool × σ) := u5 m (fun (s : (Int × σ × Int)) => zj g0 m a0 a1 s.1 s.2.1 s.2.2) (v2, v3, v4)
theorem Ko {σ : Type} {Hc : σ → AHeap} {fi0 : Fn} {ff0 fc0 : List AVal} {g0 : σ → (G_QKey × G_QKey) → Option (Int × σ)} (hg0 : Clo Try.prog fi0 ff0 fc0 Hc (fun (x : (G_QKey × G_QKey)) => [.agg [.int .i64 x.1.f_Kind, .int .i64 x.1.f_A, .int .i64 x.1.f_B], .agg [.int .i64 x.2.f_Kind, .int .i64 x.2.f_A, .int .i64 x.2.f_B]]) (fun (b : Int) => .int .i64 b) g0) {a0 : G_QKey} {z0 : σ} {a1 : List G_QKey} {v2 : Int} {v8 : Bool} {v9 : σ} {m : Option Nat} {o : (Int × Bool × σ)} (h : yh g0 m a1 v2 v8 v9 = some o) :
 LWp Try.prog ul 3 z7z (Kq Hc fi0 ff0 fc0 a0 a1 z0 o) [(6, .int .i64 v2), (7, .bool v8)] ([((0, 0), .rows 3 (a1.map z6))] ++ up 3 (Hc v9)) 4 := by
 unfold yh at h
 refine Ze ?_
 cases h
 exact And.intro trivial (And.intro trivial (zrh (n' := 4) (q := 3) (lit' := [((0, 0), .rows 3 (a1.map z6))]) (hg0.tl _) [] [] rfl rfl (Vw.same _ rfl) (And.intro (And.intro rfl (BVw.enc z6 (fun _ => rfl) _ a1)) trivial)))
theorem z61 {σ : Type} {Hc : σ → AHeap} {fi0 : Fn} {ff0 fc0 : List AVal} {g0 : σ → (G_QKey × G_QKey) → Option (Int × σ)} (hg0 : Clo Try.prog fi0 ff0 fc0 Hc (fun (x : (G_QKey × G_QKey)) => [.agg [.int .i64 x.1.f_Kind, .int .i64 x.1.f_A, .int .i64 x.1.f_B], .agg [.int .i64 x.2.f_Kind, .int .i64 x.2.f_A, .int .i64 x.2.f_B]]) (fun (b : Int) => .int .i64 b) g0) {z0 : σ} {a0 : G_QKey} {a1 : List G_QKey} {v2 : Int} {v3 : σ} {m : Option Nat} {o : (Int × Bool × σ)} (h : qg g0 m a0 a1 v2 v3 = some o) :
 LWp Try.prog ul 3 Ve (Kq Hc fi0 ff0 fc0 a0 a1 z0 o) [(0, .msl (0, 0) 3 0 a1.length false), (2, .fn fi0 ff0 fc0), (4, .ptr (4, 0) 0 0), (8, .int .i64 ((a1.length : Nat) : Int)), (9, .int .i64 v2)] ([((0, 0), .rows 3 (a1.map z6)), ((4, 0), .one [.int .i64 a0.f_Kind, .int .i64 a0.f_A, .int .i64 a0.f_B])] ++ up 3 (Hc v3)) 5 := by
 unfold qg at h
 refine zl ?_
 refine z32 rfl ?_
 obtain ⟨h16, h⟩ := y4 h
 refine And.intro (fun hp => (And.intro (And.intro hp hp) (h16 hp))) ?_
 show Q5 _ _ _ [(43, .cnd ((decide (v2 < ((a1.length : Nat) : Int))) == true) (.ptr (0, 0) (0 + v2.toNat) 0)), (42, .cnd ((decide (v2 < ((a1.length : Nat) : Int))) == true) (.int .i64 v2)), (41, .cnd ((decide (v2 < ((a1.length : Nat) : Int))) == true) (.msl (0, 0) 3 0 a1.length false)), (40, .cnd ((decide (v2 < ((a1.length : Nat) : Int))) == true) (.fn fi0 ff0 fc0)), (39, .bool (decide (v2 < ((a1.length : Nat) : Int)))), (38, .bool (decide (v2 < ((a1.length : Nat) : Int)))), (37, .int .i64 ((a1.length : Nat) : Int)), (36, .int .i64 v2), (35, .int .i64 v2), (0, .msl (0, 0) 3 0 a1.length false), (2, .fn fi0 ff0 fc0), (4, .ptr (4, 0) 0 0), (8, .int .i64 ((a1.length : Nat) : Int)), (9, .int .i64 v2)] _ _
 obtain ⟨h17, h⟩ := y4 h
 refine Exists.intro (z6 (a1.getD (0 + v2.toNat) default)) (And.intro (fun hp => And.intro (jm z6 _ _ (h17 hp)) (And.intro hp (And.intro (zdx z6 (h17 hp)) (Nat.le_of_ble_eq_true rfl)))) ?_)
 refine Or.inr (And.intro (fun h18 => ?_) (fun h19 => ?_))
 ·have h := q7 h18 h
  obtain ⟨v7, h20, h⟩ := bind_some h
  refine And.intro (And.intro h18 (And.intro h18 h18)) ?_
  refine Clo.use (q := 3) (lit := [((0, 0), .rows 3 (a1.map z6)), ((4, 0), .one [.int .i64 a0.f_Kind, .int .i64 a0.f_A, .int .i64 a0.f_B])]) hg0 h20 rfl rfl (And.intro (Vw.same _ rfl) (And.intro (Vw.same _ rfl) trivial)) ?_
  refine And.intro (fun hc => h18) ?_
  show Q5 _ _ _ [(48, .bool ((decide (v2 < ((a1.length : Nat) : Int))) && (v7.1 == 0))), (47, .cnd ((decide (v2 < ((a1.length : Nat) : Int))) == true) (.bool (v7.1 == 0))), (46, .int .i64 v7.1), (45, .cnd ((decide (v2 < ((a1.length : Nat) : Int))) == true) (.agg [.int .i64 a0.f_Kind, .int .i64 a0.f_A, .int .i64 a0.f_B])), (44, .cnd ((decide (v2 < ((a1.length : Nat) : Int))) == true) (.agg [.int .i64 ((a1.getD (0 + v2.toNat) default).f_Kind), .int .i64 ((a1.getD (0 + v2.toNat) default).f_A), .int .i64 ((a1.getD (0 + v2.toNat) default).f_B)])), (43, .cnd ((decide (v2 < ((a1.length : Nat) : Int))) == true) (.ptr (0, 0) (0 + v2.toNat) 0)), (42, .cnd ((decide (v2 < ((a1.length : Nat) : Int))) == true) (.int .i64 v2)), (41, .cnd ((decide (v2 < ((a1.length : Nat) : Int))) == true) (.msl (0, 0) 3 0 a1.length false)), (40, .cnd ((decide (v2 < ((a1.length : Nat) : Int))) == true) (.fn fi0 ff0 fc0)), (39, .bool (decide (v2 < ((a1.length : Nat) : Int)))), (38, .bool (decide (v2 < ((a1.length : Nat) : Int)))), (37, .int .i64 ((a1.length : Nat) : Int)), (36, .int .i64 v2), (35, .int .i64 v2), (0, .msl (0, 0) 3 0 a1.length false), (2, .fn fi0 ff0 fc0), (4, .ptr (4, 0) 0 0), (8, .int .i64 ((a1.length : Nat) : Int)), (9, .int .i64 v2)] _ _
  refine LWp.sim ?_ (Ko hg0 h)
  exact zha (M := []) (lit' := [((0, 0), .rows 3 (a1.map z6)), ((4, 0), .one [.int .i64 a0.f_Kind, .int .i64 a0.f_A, .int .i64 a0.f_B])]) (hg0.tl _) rfl (And.intro (Vw.same _ rfl) (And.intro (Vw.same _ rfl) trivial)) (And.intro (And.intro rfl (BVw.enc z6 (fun _ => rfl) _ a1)) trivial)
 ·have h := qq h19 h
  refine Exists.intro (.cnd ((decide (v2 < ((a1.length : Nat) : Int))) == true) (.int .i64 0)) (And.intro (Or.inr (Exists.intro _ (congrArg (fun q => AVal.cnd q _) h19))) ?_)
  refine And.intro (fun hp => hp) ?_
  refine And.intro (fun hc => (bqt hc)) ?_
  show Q5 _ _ _ [(48, .bool ((decide (v2 < ((a1.length : Nat) : Int))) && ((0 : Int) == 0))), (47, .cnd ((decide (v2 < ((a1.length : Nat) : Int))) == true) (.bool ((0 : Int) == 0))), (46, .cnd ((decide (v2 < ((a1.length : Nat) : Int))) == true) (.int .i64 0)), (45, .cnd ((decide (v2 < ((a1.length : Nat) : Int))) == true) (.agg [.int .i64 a0.f_Kind, .int .i64 a0.f_A, .int .i64 a0.f_B])), (44, .cnd ((decide (v2 < ((a1.length : Nat) : Int))) == true) (.agg [.int .i64 ((a1.getD (0 + v2.toNat) default).f_Kind), .int .i64 ((a1.getD (0 + v2.toNat) default).f_A), .int .i64 ((a1.getD (0 + v2.toNat) default).f_B)])), (43, .cnd ((decide (v2 < ((a1.length : Nat) : Int))) == true) (.ptr (0, 0) (0 + v2.toNat) 0)), (42, .cnd ((decide (v2 < ((a1.length : Nat) : Int))) == true) (.int .i64 v2)), (41, .cnd ((decide (v2 < ((a1.length : Nat) : Int))) == true) (.msl (0, 0) 3 0 a1.length false)), (40, .cnd ((decide (v2 < ((a1.length : Nat) : Int))) == true) (.fn fi0 ff0 fc0)), (39, .bool (decide (v2 < ((a1.length : Nat) : Int)))), (38, .bool (decide (v2 < ((a1.length : Nat) : Int)))), (37, .int .i64 ((a1.length : Nat) : Int)), (36, .int .i64 v2), (35, .int .i64 v2), (0, .msl (0, 0) 3 0 a1.length false), (2, .fn fi0 ff0 fc0), (4, .ptr (4, 0) 0 0), (8, .int .i64 ((a1.length : Nat) : Int)), (9, .int .i64 v2)] _ _
  refine LWp.sim ?_ (Ko hg0 h)
  exact zha (M := []) (lit' := [((0, 0), .rows 3 (a1.map z6)), ((4, 0), .one [.int .i64 a0.f_Kind, .int .i64 a0.f_A, .int .i64 a0.f_B])]) (hg0.tl _) rfl (And.intro (Vw.same _ rfl) (And.intro (Vw.same _ rfl) trivial)) (And.intro (And.intro rfl (BVw.enc z6 (fun _ => rfl) _ a1)) trivial)
theorem z5e {σ : Type} {Hc : σ → AHeap} {fi0 : Fn} {ff0 fc0 : List AVal} {g0 : σ → (G_QKey × G_QKey) → Option (Int × σ)} (hg0 : Clo Try.prog fi0 ff0 fc0 Hc (fun (x : (G_QKey × G_QKey)) => [.agg [.int .i64 x.1.f_Kind, .int .i64 x.1.f_A, .int .i64 x.1.f_B], .agg [.int .i64 x.2.f_Kind, .int .i64 x.2.f_A, .int .i64 x.2.f_B]]) (fun (b : Int) => .int .i64 b) g0) {z0 : σ} {a0 : G_QKey} {a1 : List G_QKey} {v2 : Int} {v3 : σ} {v4 : Int} {m : Option Nat} {o : (Int × σ × Int) ⊕ (Int × Bool × σ)} (h : zj g0 m a0 a1 v2 v3 v4 = some o) :
 LWp Try.prog ul 3 z2e (wj 3 5 (Wx Hc fi0 ff0 fc0 a0 a1) (Kk Hc fi0 ff0 fc0 a0 a1) (z0d Hc fi0 ff0 fc0 a0 a1 z0) o) [(0, .msl (0, 0) 3 0 a1.length false), (2, .fn fi0 ff0 fc0), (4, .ptr (4, 0) 0 0), (8, .int .i64 ((a1.length : Nat) : Int)), (9, .int .i64 v2), (10, .int .i64 v4)] ([((0, 0), .rows 3 (a1.map z6)), ((4, 0), .one [.int .i64 a0.f_Kind, .int .i64 a0.f_A, .int .i64 a0.f_B])] ++ up 3 (Hc v3)) 5 := by
 unfold zj at h
 refine zl ?_
 refine zl ?_
 refine y8 ?_
 refine w5 (v := (decide (v2 < v4))) rfl trivial (fun h11 => ?_) (fun h11 => ?_)
 ·have h := q7 h11 h
  refine w7 ?_
  refine j8 ?_
  refine zl ?_
  refine y8 ?_
  refine And.intro (by decide) ?_
  show Q5 _ _ _ [(22, .int .u64 ((IntKind.wrap .u64 (W (v2 + v4))).fdiv (2 ^ (min (1 : Int).toNat (IntKind.bits .u64))))), (21, .int .u64 (IntKind.wrap .u64 (W (v2 + v4)))), (20, .int .i64 (W (v2 + v4))), (19, .int .i64 v4), (18, .int .i64 v2), (17, .bool (decide (v2 < v4))), (16, .int .i64 v4), (15, .int .i64 v2), (0, .msl (0, 0) 3 0 a1.length false), (2, .fn fi0 ff0 fc0), (4, .ptr (4, 0) 0 0), (8, .int .i64 ((a1.length : Nat) : Int)), (9, .int .i64 v2), (10, .int .i64 v4)] _ _
  refine LWp.sim (e := [(0, .msl (0, 0) 3 0 a1.length false), (2, .fn fi0 ff0 fc0), (4, .ptr (4, 0) 0 0), (8, .int .i64 ((a1.length : Nat) : Int)), (9, .int .i64 v2), (10, .int .i64 v4), (11, .int .i64 (W ((IntKind.wrap .u64 (W (v2 + v4))).fdiv (2 ^ (min (1 : Int).toNat (IntKind.bits .u64))))))]) (L := ([((0, 0), .rows 3 (a1.map z6)), ((4, 0), .one [.int .i64 a0.f_Kind, .int .i64 a0.f_A, .int .i64 a0.f_B])] ++ up 3 (Hc v3))) (n := 5) ?_ ?_
  ·exact zha (M := [((4, 0), (4, 0))]) (lit' := [((0, 0), .rows 3 (a1.map z6)), ((4, 0), .one [.int .i64 a0.f_Kind, .int .i64 a0.f_A, .int .i64 a0.f_B])]) (hg0.tl _) rfl (And.intro (Vw.mslE rfl (by first | rfl | omega | (simp; done) | (simp only [List.length_map, List.length_replicate, Int.toNat_natCast] at *; omega)) rfl) (And.intro (Vw.clo hg0.hf hg0.hc (by decide) (Jj (Zg (n := 5) (q := 3) (lit' := [((0, 0), .rows 3 (a1.map z6)), ((4, 0), .one [.int .i64 a0.f_Kind, .int .i64 a0.f_A, .int .i64 a0.f_B])]) rfl))) (And.intro (Vw.ptr _ _ _ _ rfl) (And.intro (Vw.same _ rfl) (And.intro (Vw.same _ rfl) (And.intro (Vw.same _ rfl) (And.intro (Vw.same _ rfl) trivial))))))) (And.intro (And.intro rfl (BVw.enc z6 (fun _ => rfl) _ a1)) (And.intro (And.intro rfl (BVw.oneL (And.intro (Vw.same _ rfl) (And.intro (Vw.same _ rfl) (And.intro (Vw.same _ rfl) trivial))))) trivial))
  refine zl ?_
  refine z32 rfl ?_
  obtain ⟨h12, h⟩ := y4 h
  refine And.intro h12 ?_
  obtain ⟨h13, h⟩ := y4 h
  refine Exists.intro (z6 (a1.getD (0 + (W ((IntKind.wrap .u64 (W (v2 + v4))).fdiv (2 ^ (min (1 : Int).toNat (IntKind.bits .u64))))).toNat) default)) (And.intro (jm z6 _ _ h13) (And.intro (And.intro (zdx z6 h13) (Nat.le_of_ble_eq_true rfl)) ?_))
  obtain ⟨v6, h14, h⟩ := bind_some h
  refine Clo.use (q := 3) (lit := [((0, 0), .rows 3 (a1.map z6)), ((4, 0), .one [.int .i64 a0.f_Kind, .int .i64 a0.f_A, .int .i64 a0.f_B])]) hg0 h14 rfl rfl (And.intro (Vw.same _ rfl) (And.intro (Vw.same _ rfl) trivial)) ?_
  show Q5 _ _ _ [(30, .int .i64 v6.1), (29, .agg [.int .i64 a0.f_Kind, .int .i64 a0.f_A, .int .i64 a0.f_B]), (28, .agg [.int .i64 ((a1.getD (0 + (W ((IntKind.wrap .u64 (W (v2 + v4))).fdiv (2 ^ (min (1 : Int).toNat (IntKind.bits .u64))))).toNat) default).f_Kind), .int .i64 ((a1.getD (0 + (W ((IntKind.wrap .u64 (W (v2 + v4))).fdiv (2 ^ (min (1 : Int).toNat (IntKind.bits .u64))))).toNat) default).f_A), .int .i64 ((a1.getD (0 + (W ((IntKind.wrap .u64 (W (v2 + v4))).fdiv (2 ^ (min (1 : Int).toNat (IntKind.bits .u64))))).toNat) default).f_B)]), (27, .ptr (0, 0) (0 + (W ((IntKind.wrap .u64 (W (v2 + v4))).fdiv (2 ^ (min (1 : Int).toNat (IntKind.bits .u64))))).toNat) 0), (26, .int .i64 (W ((IntKind.wrap .u64 (W (v2 + v4))).fdiv (2 ^ (min (1 : Int).toNat (IntKind.bits .u64)))))), (25, .msl (0, 0) 3 0 a1.length false), (24, .fn fi0 ff0 fc0), (0, .msl (0, 0) 3 0 a1.length false), (2, .fn fi0 ff0 fc0), (4, .ptr (4, 0) 0 0), (8, .int .i64 ((a1.length : Nat) : Int)), (9, .int .i64 v2), (10, .int .i64 v4), (11, .int .i64 (W ((IntKind.wrap .u64 (W (v2 + v4))).fdiv (2 ^ (min (1 : Int).toNat (IntKind.bits .u64))))))] _ _
  refine LWp.sim (e := [(0, .msl (0, 0) 3 0 a1.length false), (2, .fn fi0 ff0 fc0), (4, .ptr (4, 0) 0 0), (8, .int .i64 ((a1.length : Nat) : Int)), (9, .int .i64 v2), (10, .int .i64 v4), (11, .int .i64 (W ((IntKind.wrap .u64 (W (v2 + v4))).fdiv (2 ^ (min (1 : Int).toNat (IntKind.bits .u64)))))), (31, .bool (decide (v6.1 < 0)))]) (L := ([((0, 0), .rows 3 (a1.map z6)), ((4, 0), .one [.int .i64 a0.f_Kind, .int .i64 a0.f_A, .int .i64 a0.f_B])] ++ up 3 (Hc v6.2))) (n := 5) ?_ ?_
  ·exact zha (M := [((4, 0), (4, 0))]) (lit' := [((0, 0), .rows 3 (a1.map z6)), ((4, 0), .one [.int .i64 a0.f_Kind, .int .i64 a0.f_A, .int .i64 a0.f_B])]) (hg0.tl _) rfl (And.intro (Vw.mslE rfl (by first | rfl | omega | (simp; done) | (simp only [List.length_map, List.length_replicate, Int.toNat_natCast] at *; omega)) rfl) (And.intro (Vw.clo hg0.hf hg0.hc (by decide) (Jj (Zg (n := 5) (q := 5) (lit' := [((0, 0), .rows 3 (a1.map z6)), ((4, 0), .one [.int .i64 a0.f_Kind, .int .i64 a0.f_A, .int .i64 a0.f_B])]) rfl))) (And.intro (Vw.ptr _ _ _ _ rfl) (And.intro (Vw.same _ rfl) (And.intro (Vw.same _ rfl) (And.intro (Vw.same _ rfl) (And.intro (Vw.same _ rfl) (And.intro (Vw.same _ rfl) trivial)))))))) (And.intro (And.intro rfl (BVw.enc z6 (fun _ => rfl) _ a1)) (And.intro (And.intro rfl (BVw.oneL (And.intro (Vw.same _ rfl) (And.intro (Vw.same _ rfl) (And.intro (Vw.same _ rfl) trivial))))) trivial))
  refine w5 (v := (decide (v6.1 < 0))) rfl trivial (fun h15 => ?_) (fun h15 => ?_)
  ·have h := q7 h15 h
   refine y8 ?_
   cases h
   exact And.intro rfl (zha (M := [((4, 0), (4, 0))]) (lit' := [((0, 0), .rows 3 (a1.map z6)), ((4, 0), .one [.int .i64 a0.f_Kind, .int .i64 a0.f_A, .int .i64 a0.f_B])]) (hg0.tl _) rfl (And.intro (Vw.mslE rfl (by first | rfl | omega | (simp; done) | (simp only [List.length_map, List.length_replicate, Int.toNat_natCast] at *; omega)) rfl) (And.intro (Vw.clo hg0.hf hg0.hc (by decide) (Jj (Zg (n := 5) (q := 3) (lit' := [((0, 0), .rows 3 (a1.map z6)), ((4, 0), .one [.int .i64 a0.f_Kind, .int .i64 a0.f_A, .int .i64 a0.f_B])]) rfl))) (And.intro (Vw.ptr _ _ _ _ rfl) (And.intro (Vw.same _ rfl) (And.intro (Vw.same _ rfl) (And.intro (Vw.same _ rfl) trivial)))))) (And.intro (And.intro rfl (BVw.enc z6 (fun _ => rfl) _ a1)) (And.intro (And.intro rfl (BVw.oneL (And.intro (Vw.same _ rfl) (And.intro (Vw.same _ rfl) (And.intro (Vw.same _ rfl) trivial))))) trivial)))
  ·have h := qq h15 h
   refine y8 ?_
   cases h
   exact And.intro rfl (zha (M := [((4, 0), (4, 0))]) (lit' := [((0, 0), .rows 3 (a1.map z6)), ((4, 0), .one [.int .i64 a0.f_Kind, .int .i64 a0.f_A, .int .i64 a0.f_B])]) (hg0.tl _) rfl (And.intro (Vw.mslE rfl (by first | rfl | omega | (simp; done) | (simp only [List.length_map, List.length_replicate, Int.toNat_natCast] at *; omega)) rfl) (And.intro (Vw.clo hg0.hf hg0.hc (by decide) (Jj (Zg (n := 5) (q := 3) (lit' := [((0, 0), .rows 3 (a1.map z6)), ((4, 0), .one [.int .i64 a0.f_Kind, .int .i64 a0.f_A, .int .i64 a0.f_B])]) rfl))) (And.intro (Vw.ptr _ _ _ _ rfl) (And.intro (Vw.same _ rfl) (And.intro (Vw.same _ rfl) (And.intro (Vw.same _ rfl) trivial)))))) (And.intro (And.intro rfl (BVw.enc z6 (fun _ => rfl) _ a1)) (And.intro (And.intro rfl (BVw.oneL (And.intro (Vw.same _ rfl) (And.intro (Vw.same _ rfl) (And.intro (Vw.same _ rfl) trivial))))) trivial)))
 ·have h := qq h11 h
  refine Zp ?_
  obtain ⟨o, hq, rfl⟩ := Option.map_eq_some_iff.1 h
  replace h := hq; clear hq
  refine And.intro nofun ?_
  refine LWp.sim ?_ (z61 hg0 h)
  exact zha (M := [((4, 0), (4, 0))]) (lit' := [((0, 0), .rows 3 (a1.map z6)), ((4, 0), .one [.int .i64 a0.f_Kind, .int .i64 a0.f_A, .int .i64 a0.f_B])]) (hg0.tl _) rfl (And.intro (Vw.mslE rfl (by first | rfl | omega | (simp; done) | (simp only [List.length_map, List.length_replicate, Int.toNat_natCast] at *; omega)) rfl) (And.intro (Vw.clo hg0.hf hg0.hc (by decide) (Jj (Zg (n := 5) (q := 3) (lit' := [((0, 0), .rows 3 (a1.map z6)), ((4, 0), .one [.int .i64 a0.f_Kind, .int .i64 a0.f_A, .int .i64 a0.f_B])]) rfl))) (And.intro (Vw.ptr _ _ _ _ rfl) (And.intro (Vw.same _ rfl) (And.intro (Vw.same _ rfl) trivial))))) (And.intro (And.intro rfl (BVw.enc z6 (fun _ => rfl) _ a1)) (And.intro (And.intro rfl (BVw.oneL (And.intro (Vw.same _ rfl) (And.intro (Vw.same _ rfl) (And.intro (Vw.same _ rfl) trivial))))) trivial))
theorem z5t {σ : Type} {Hc : σ → AHeap} {fi0 : Fn} {ff0 fc0 : List AVal} {g0 : σ → (G_QKey × G_QKey) → Option (Int × σ)} (hg0 : Clo Try.prog fi0 ff0 fc0 Hc (fun (x : (G_QKey × G_QKey)) => [.agg [.int .i64 x.1.f_Kind, .int .i64 x.1.f_A, .int .i64 x.1.f_B], .agg [.int .i64 x.2.f_Kind, .int .i64 x.2.f_A, .int .i64 x.2.f_B]]) (fun (b : Int) => .int .i64 b) g0) {z0 : σ} {a0 : G_QKey} {a1 : List G_QKey} {v2 : Int} {v3 : σ} {v4 : Int} {m : Option Nat} {o : (Int × Bool × σ)} (h : zk g0 m a0 a1 v2 v3 v4 = some o) :
 LWp Try.prog ul 3 (.loop z2e) (yv 0 (uv Try.prog ul 3 Ve (Kq Hc fi0 ff0 fc0 a0 a1 z0 o))) [(0, .msl (0, 0) 3 0 a1.length false), (2, .fn fi0 ff0 fc0), (4, .ptr (4, 0) 0 0), (8, .int .i64 ((a1.length : Nat) : Int)), (9, .int .i64 v2), (10, .int .i64 v4)] ([((0, 0), .rows 3 (a1.map z6)), ((4, 0), .one [.int .i64 a0.f_Kind, .int .i64 a0.f_A, .int .i64 a0.f_B])] ++ up 3 (Hc v3)) 5 :=
 j0 (m := m) (s := ((v2, v3, v4) : (Int × σ × Int))) (r := o) (fun (s : (Int × σ × Int)) => zj g0 m a0 a1 s.1 s.2.1 s.2.2) (Wx Hc fi0 ff0 fc0 a0 a1) (Kk Hc fi0 ff0 fc0 a0 a1) (z0d Hc fi0 ff0 fc0 a0 a1 z0) (fun s o h => z5e hg0 h) h
noncomputable def y5 {σ : Type} (g0 : σ → (G_QKey × G_QKey) → Option (Int × σ)) (m : Option Nat) (a0 : G_QKey) (a1 : List G_QKey) (z0 : σ) : Option (Int × Bool × σ) :=
 zk g0 m a0 a1 0 z0 ((a1.length : Nat) : Int)
theorem z5p {σ : Type} {Hc : σ → AHeap} {fi0 : Fn} {ff0 fc0 : List AVal} {g0 : σ → (G_QKey × G_QKey) → Option (Int × σ)} (hg0 : Clo Try.prog fi0 ff0 fc0 Hc (fun (x : (G_QKey × G_QKey)) => [.agg [.int .i64 x.1.f_Kind, .int .i64 x.1.f_A, .int .i64 x.1.f_B], .agg [.int .i64 x.2.f_Kind, .int .i64 x.2.f_A, .int .i64 x.2.f_B]]) (fun (b : Int) => .int .i64 b) g0) {a0 : G_QKey} {a1 : List G_QKey} {z0 : σ} {m : Option Nat} {o : Int × Bool × σ} (h : y5 g0 m a0 a1 z0 = some o) : LWp Try.prog ul 3 z96 (Kq Hc fi0 ff0 fc0 a0 a1 z0 o) (qx 0 [.msl (0, 0) 3 0 a1.length false, .agg [.int .i64 a0.f_Kind, .int .i64 a0.f_A, .int .i64 a0.f_B], .fn fi0 ff0 fc0]) ([((0, 0), .rows 3 (a1.map z6))] ++ Hc z0) 3 := by
 unfold y5 at h
 refine LWp.sim (e := [(0, .msl (0, 0) 3 0 a1.length false), (1, .agg [.int .i64 a0.f_Kind, .int .i64 a0.f_A, .int .i64 a0.f_B]), (2, .fn fi0 ff0 fc0)]) (L := ([((0, 0), .rows 3 (a1.map z6))] ++ up 3 (Hc z0))) (n := 4) (zoj (T := Hc z0) (e' := qx 0 [.msl (0, 0) 3 0 a1.length false, .agg [.int .i64 a0.f_Kind, .int .i64 a0.f_A, .int .i64 a0.f_B], .fn fi0 ff0 fc0]) (e := [(0, .msl (0, 0) 3 0 a1.length false), (1, .agg [.int .i64 a0.f_Kind, .int .i64 a0.f_A, .int .i64 a0.f_B]), (2, .fn fi0 ff0 fc0)]) (lit' := [((0, 0), .rows 3 (a1.map z6))]) (lit := [((0, 0), .rows 3 (a1.map z6))]) (hg0.tl z0) rfl rfl (And.intro (Vw.mslE rfl (by first | rfl | omega | (simp; done) | (simp only [List.length_map, List.length_replicate, Int.toNat_natCast] at *; omega)) rfl) (And.intro (Vw.same _ rfl) (And.intro (Vw.clo hg0.hf hg0.hc (by decide) (zp4 _)) trivial))) (And.intro (And.intro rfl (BVw.enc z6 (fun _ => rfl) _ a1)) trivial)) ?_
 refine zl ?_
 refine y8 ?_
 refine zl ?_
 refine y8 ?_
 refine zl ?_
 refine y8 ?_
 refine LWp.sim (e := [(0, .msl (0, 0) 3 0 a1.length false), (2, .fn fi0 ff0 fc0), (4, .ptr (4, 0) 0 0), (8, .int .i64 ((a1.length : Nat) : Int)), (9, .int .i64 0), (10, .int .i64 ((a1.length : Nat) : Int))]) (L := ([((0, 0), .rows 3 (a1.map z6)), ((4, 0), .one [.int .i64 a0.f_Kind, .int .i64 a0.f_A, .int .i64 a0.f_B])] ++ up 3 (Hc z0))) (n := 5) ?_ ?_
 ·exact zha (M := [((4, 0), (4, 0))]) (lit' := [((4, 0), .one [.int .i64 a0.f_Kind, .int .i64 a0.f_A, .int .i64 a0.f_B]), ((0, 0), .rows 3 (a1.map z6))]) (hg0.tl _) rfl (And.intro (Vw.mslE rfl (by first | rfl | omega | (simp; done) | (simp only [List.length_map, List.length_replicate, Int.toNat_natCast] at *; omega)) rfl) (And.intro (Vw.clo hg0.hf hg0.hc (by decide) (Jj (Zg (n := 5) (q := 3) (lit' := [((4, 0), .one [.int .i64 a0.f_Kind, .int .i64 a0.f_A, .int .i64 a0.f_B]), ((0, 0), .rows 3 (a1.map z6))]) rfl))) (And.intro (Vw.ptr _ _ _ _ rfl) (And.intro (Vw.same _ rfl) (And.intro (Vw.same _ rfl) (And.intro (Vw.same _ rfl) trivial)))))) (And.intro (And.intro rfl (BVw.enc z6 (fun _ => rfl) _ a1)) (And.intro (And.intro rfl (BVw.oneL (And.intro (Vw.same _ rfl) (And.intro (Vw.same _ rfl) (And.intro (Vw.same _ rfl) trivial))))) trivial))
 refine zl ?_
 refine j8 ?_
 refine LWp.sim ?_ (z5t hg0 h)
 exact zha (M := [((4, 0), (4, 0))]) (lit' := [((0, 0), .rows 3 (a1.map z6)), ((4, 0), .one [.int .i64 a0.f_Kind, .int .i64 a0.f_A, .int .i64 a0.f_B])]) (hg0.tl _) rfl (And.intro (Vw.mslE rfl (by first | rfl | omega | (simp; done) | (simp only [List.length_map, List.length_replicate, Int.toNat_natCast] at *; omega)) rfl) (And.intro (Vw.clo hg0.hf hg0.hc (by decide) (Jj (Zg (n := 5) (q := 3) (lit' := [((0, 0), .rows 3 (a1.map z6)), ((4, 0), .one [.int .i64 a0.f_Kind, .int .i64 a0.f_A, .int .i64 a0.f_B])]) rfl))) (And.intro (Vw.ptr _ _ _ _ rfl) (And.intro (Vw.same _ rfl) (And.intro (Vw.same _ rfl) (And.intro (Vw.same _ rfl) trivial)))))) (And.intro (And.intro rfl (BVw.enc z6 (fun _ => rfl) _ a1)) (And.intro (And.intro rfl (BVw.oneL (And.intro (Vw.same _ rfl) (And.intro (Vw.same _ rfl) (And.intro (Vw.same _ rfl) trivial))))) trivial))
theorem zi8 {σ : Type} {Hc : σ → AHeap} {fi0 : Fn} {ff0 fc0 : List AVal} {g0 : σ → (G_QKey × G_QKey) → Option (Int × σ)} (hg0 : Clo Try.prog fi0 ff0 fc0 Hc (fun (x : (G_QKey × G_QKey)) => [.agg [.int .i64 x.1.f_Kind, .int .i64 x.1.f_A, .int .i64 x.1.f_B], .agg [.int .i64 x.2.f_Kind, .int .i64 x.2.f_A, .int .i64 x.2.f_B]]) (fun (b : Int) => .int .i64 b) g0) {a0 : G_QKey} {a1 : List G_QKey} {z0 : σ} {m : Option Nat} {o : Int × Bool × σ} (h : y5 g0 m a0 a1 z0 = some o) : ACalls Try.prog 46 [.msl (0, 0) 3 0 a1.length false, .agg [.int .i64 a0.f_Kind, .int .i64 a0.f_A, .int .i64 a0.f_B], .fn fi0 ff0 fc0] ([((0, 0), .rows 3 (a1.map z6))] ++ Hc z0) 3 (vr 4 (.tup [.int .i64 o.1, .bool o.2.1]) ([((0, 0), .rows 3 (a1.map z6))] ++ up 3 (Hc o.2.2))) := Xf (L := zd9) zfo zce (Nat.le_of_ble_eq_true rfl) (z5p hg0 h)
def Try.i47_ren : Go.Shelf.Ren := ⟨fun | 22 => 47 | 29 => 52 | 30 => 53 | n => n, fun | 24 => 27 | 9 => 24 | 3 => 3 | 4 => 4 | 0 => 0 | n => n, fun | n => n⟩
theorem Try.i47 : InsL Try.prog Try.i47_ren := {
 mixed := by kernel_rfl
 f22 := ⟨Try.f47.name, Try.func47.trans (congrArg some (by kernel_rfl))⟩
 f29 := ⟨Try.f52.name, Try.func52.trans (congrArg some (by kernel_rfl)), by kernel_rfl, by kernel_rfl, by kernel_rfl⟩
 t0 := Try.underlying0
 a0 := Try.isAgg0
 z0 := Try.sizeOf0
 v0 := Try.zeroValue0
 t3 := Try.underlying3
 a3 := Try.isAgg3
 z3 := Try.sizeOf3
 v3 := Try.zeroValue3
 t4 := Try.underlying4
 a4 := Try.isAgg4
 z4 := Try.sizeOf4
 v4 := Try.zeroValue4
 t24 := Try.underlying27
 a24 := Try.isAgg27
 z24 := Try.sizeOf27
 v24 := Try.zeroValue27 }
def wn (m : Option Nat) (a0 : Int) (a1 : List G_QKey) (a2 : List G_QKey) : Option (List G_QKey) := zpi 24 a2 a0 a1
theorem zbn : Y8 Try.prog 47 := ⟨_, Try.func47, rfl, rfl⟩
theorem zh6 {m : Option Nat} {a0 : Int} {a1 : List G_QKey} {a2 : List G_QKey} {o : List G_QKey} (h : wn m a0 a1 a2 = some o) : ACalls Try.prog 47 [.msl (0, 0) 3 0 a2.length false, .int .i64 a0, .isl 3 (a1.map z6) false] [((0, 0), .rows 3 (a2.map z6))] 3 (vr 4 (.msl (3, 0) 3 0 o.length false) [((3, 0), .rows 3 (o.map z6))]) :=
 z65 (zs := [(.int .i64 0), (.int .i64 0), (.int .i64 0)]) z6 (fun _ => rfl) Try.i47 (by kernel_rfl) (by kernel_rfl) (by kernel_rfl) (by decide) (by decide) (by decide) zbn rfl h _ _
def z97 : LCode := (.seq (.region [⟨some 20, .mv (.t 0), none⟩,
 ⟨some 4, .mv (.t 20), none⟩])
 .ret)
def z98 : LCode := (.seq (.region [⟨some 3, .box (.t 1), none⟩,
 ⟨some 4, .mv (.c (.val (.slice none 0 0))), none⟩])
 (.seq (.seq (.region [⟨some 8, .mv (.t 0), none⟩,
  ⟨some 9, .load true 3 (.t 3), none⟩,
  ⟨some 10, .call 46 [(.t 8), (.t 9), (.c (.fn (.func 39) [] []))], none⟩,
  ⟨some 7, .mv (.t 10), none⟩,
  ⟨some 11, .ext 0 (.t 7), none⟩,
  ⟨some 12, .ext 1 (.t 7), none⟩,
  ⟨some 5, .mv (.t 11), none⟩,
  ⟨some 6, .mv (.t 12), none⟩])
 (.seq (.region [⟨some 13, .mv (.t 6), none⟩,
  ⟨some 14, .un .not (.t 13), none⟩])
 (.cond (.t 14)
  (.region [⟨some 15, .mv (.t 0), none⟩,
   ⟨some 16, .mv (.t 5), none⟩,
   ⟨some 17, .load true 3 (.t 3), none⟩,
   ⟨some 18, .mkSl true 3 [(.int .i64 0), (.int .i64 0), (.int .i64 0)] 1 [(0, (.t 17))], none⟩,
   ⟨some 19, .call 47 [(.t 15), (.t 16), (.t 18)], none⟩,
   ⟨some 0, .mv (.t 19), none⟩])
  .skip)))
 z97))
def Ub : Lay := ⟨21, [], false⟩
def z5f : List LRes := [.t 4]
def zfx : LFn := ⟨2, Ub, z98, z5f⟩
theorem zbl : k9 Try.prog [] 36 = some zfx := by kernel_rfl
theorem zey : Y8 Try.prog 36 := ⟨_, Try.func36, rfl, rfl⟩
noncomputable def jy (m : Option Nat) (v3 : List G_QKey) : Option (List G_QKey) :=
 some v3
def zez (a0 : G_QKey) (a1 : List G_QKey) (o : (List G_QKey)) : Exit → Env → AHeap → Nat → Prop := Xg z5f (Xy 3 4 (.msl (3, 0) 3 0 o.length false) [((3, 0), .rows 3 (o.map z6))])
theorem Ky {a0 : G_QKey} {a1 : List G_QKey} {v3 : List G_QKey} {m : Option Nat} {o : (List G_QKey)} (h : jy m v3 = some o) :
 LWp Try.prog Ub 3 z97 (zez a0 a1 o) [(0, .msl (3, 0) 3 0 v3.length false)] [((3, 0), .rows 3 (v3.map z6))] 4 := by
 unfold jy at h
 refine zl ?_
 refine y8 ?_
 refine Ze ?_
 cases h
 exact And.intro trivial (zih (n' := 4) [((3, 0), (3, 0))] [] rfl rfl (Vw.mslE rfl (by first | rfl | omega | (simp; done) | (simp only [List.length_map, List.length_replicate, Int.toNat_natCast] at *; omega)) rfl) (And.intro (And.intro rfl (BVw.enc z6 (fun _ => rfl) _ v3)) trivial))
noncomputable def yw (m : Option Nat) (a0 : G_QKey) (a1 : List G_QKey) : Option (List G_QKey) :=
 (y5 (fun (s : Unit) (x : (G_QKey × G_QKey)) => (yk m x.1 x.2).map fun o => (o, ())) m a0 a1 ()).bind fun v1 =>
 if (!v1.2.1) = true then
  (wn m v1.1 ([a0] : List G_QKey) a1).bind fun v2 =>
  jy m v2
 else
  jy m a1
theorem z7h {a0 : G_QKey} {a1 : List G_QKey} {m : Option Nat} {o : (List G_QKey)} (h : yw m a0 a1 = some o) : LWp Try.prog Ub 3 z98 (zez a0 a1 o) (qx 0 [.msl (0, 0) 3 0 a1.length false, .agg [.int .i64 a0.f_Kind, .int .i64 a0.f_A, .int .i64 a0.f_B]]) [((0, 0), .rows 3 (a1.map z6))] 3 := by
 unfold yw at h
 refine zl ?_
 refine y8 ?_
 refine zl ?_
 refine zl ?_
 refine y8 ?_
 obtain ⟨v1, h1, h⟩ := bind_some h
 refine Ya (k := 3) (m := 1) (L' := [((0, 0), .rows 3 (a1.map z6))]) (rest := [((3, 0), .one [.int .i64 a0.f_Kind, .int .i64 a0.f_A, .int .i64 a0.f_B])]) (R' := .tup [.int .i64 v1.1, .bool v1.2.1]) [((0, 0), (0, 0))] (zi8 (show Clo Try.prog (.func 39) [] [] (fun (s : Unit) => []) (fun (x : (G_QKey × G_QKey)) => [.agg [.int .i64 x.1.f_Kind, .int .i64 x.1.f_A, .int .i64 x.1.f_B], .agg [.int .i64 x.2.f_Kind, .int .i64 x.2.f_A, .int .i64 x.2.f_B]]) (fun (b : Int) => .int .i64 b) (fun (s : Unit) (x : (G_QKey × G_QKey)) => (yk m x.1 x.2).map fun o => (o, ())) from Clo.mk' (fun s => Tl.lit rfl trivial rfl) rfl rfl (fun _ => rfl) (fun s x o h => by obtain ⟨o1, h1, rfl⟩ := Option.map_eq_some_iff.1 h; exact Exists.intro _ (And.intro (zhq h1) trivial))) h1) rfl rfl rfl (And.intro (Vw.mslE rfl (by first | rfl | omega | (simp; done) | (simp only [List.length_map, List.length_replicate, Int.toNat_natCast] at *; omega)) rfl) (And.intro (Vw.same _ rfl) (And.intro (Vw.same _ rfl) trivial))) (And.intro (h0I (0, 0) rfl rfl (BVw.enc z6 (fun _ => rfl) _ a1)) trivial) (k8 _ rfl) (And.intro rfl (And.intro (Zt z6 (fun _ => rfl) _ _) trivial)) rfl ?_
 show Q5 _ _ _ [(10, .tup [.int .i64 v1.1, .bool v1.2.1]), (9, .agg [.int .i64 a0.f_Kind, .int .i64 a0.f_A, .int .i64 a0.f_B]), (8, .msl (0, 0) 3 0 a1.length false), (4, .val (.slice none 0 0)), (3, .ptr (3, 0) 0 0), (0, .msl (0, 0) 3 0 a1.length false), (1, .agg [.int .i64 a0.f_Kind, .int .i64 a0.f_A, .int .i64 a0.f_B])] _ _
 refine LWp.sim (e := [(0, .msl (3, 0) 3 0 a1.length false), (3, .ptr (4, 0) 0 0), (5, .int .i64 v1.1), (6, .bool v1.2.1)]) (L := [((3, 0), .rows 3 (a1.map z6)), ((4, 0), .one [.int .i64 a0.f_Kind, .int .i64 a0.f_A, .int .i64 a0.f_B])]) (n := 5) ?_ ?_
 ·exact jh (M := [((3, 0), (0, 0)), ((4, 0), (3, 0))]) rfl (And.intro (Vw.mslE rfl (by first | rfl | omega | (simp; done) | (simp only [List.length_map, List.length_replicate, Int.toNat_natCast] at *; omega)) rfl) (And.intro (Vw.ptr _ _ _ _ rfl) (And.intro (Vw.same _ rfl) (And.intro (Vw.same _ rfl) trivial)))) (And.intro (And.intro rfl (BVw.enc z6 (fun _ => rfl) _ a1)) (And.intro (And.intro rfl (BVw.oneL (And.intro (Vw.same _ rfl) (And.intro (Vw.same _ rfl) (And.intro (Vw.same _ rfl) trivial))))) trivial))
 refine zl ?_
 refine y8 ?_
 refine w5 (v := (!v1.2.1)) rfl trivial (fun h2 => ?_) (fun h2 => ?_)
 ·have h := q7 h2 h
  refine y8 ?_
  obtain ⟨v2, h3, h⟩ := bind_some h
  refine Ya (k := 3) (m := 1) (L' := [((5, 0), .rows 3 (v2.map z6))]) (rest := [((4, 0), .one [.int .i64 a0.f_Kind, .int .i64 a0.f_A, .int .i64 a0.f_B])]) (R' := .msl (5, 0) 3 0 v2.length false) [((0, 0), (3, 0))] (zh6 h3) rfl rfl rfl (And.intro (Vw.mslE rfl (by first | rfl | omega | (simp; done) | (simp only [List.length_map, List.length_replicate, Int.toNat_natCast] at *; omega)) rfl) (And.intro (Vw.same _ rfl) (And.intro (Vw.islF _ _ _) trivial))) (And.intro (h0I (3, 0) rfl rfl (BVw.enc z6 (fun _ => rfl) _ a1)) trivial) rfl (And.intro rfl (And.intro (Zt z6 (fun _ => rfl) _ _) trivial)) rfl ?_
  show Q5 _ _ _ [(19, .msl (5, 0) 3 0 v2.length false), (18, .isl 3 (([a0] : List G_QKey).map z6) true), (17, .agg [.int .i64 a0.f_Kind, .int .i64 a0.f_A, .int .i64 a0.f_B]), (16, .int .i64 v1.1), (15, .msl (3, 0) 3 0 a1.length false), (14, .bool (!v1.2.1)), (13, .bool v1.2.1), (0, .msl (3, 0) 3 0 a1.length false), (3, .ptr (4, 0) 0 0), (5, .int .i64 v1.1), (6, .bool v1.2.1)] _ _
  refine LWp.sim ?_ (Ky h)
  exact jh (M := [((3, 0), (5, 0))]) rfl (And.intro (Vw.mslE rfl (by first | rfl | omega | (simp; done) | (simp only [List.length_map, List.length_replicate, Int.toNat_natCast] at *; omega)) rfl) trivial) (And.intro (And.intro rfl (BVw.enc z6 (fun _ => rfl) _ v2)) trivial)
 ·have h := qq h2 h
  refine w7 ?_
  refine LWp.sim ?_ (Ky h)
  exact jh (M := [((3, 0), (3, 0))]) rfl (And.intro (Vw.mslE rfl (by first | rfl | omega | (simp; done) | (simp only [List.length_map, List.length_replicate, Int.toNat_natCast] at *; omega)) rfl) trivial) (And.intro (And.intro rfl (BVw.enc z6 (fun _ => rfl) _ a1)) trivial)
theorem V6 {a0 : G_QKey} {a1 : List G_QKey} {m : Option Nat} {o : (List G_QKey)} (h : yw m a0 a1 = some o) : ACalls Try.prog 36 [.msl (0, 0) 3 0 a1.length false, .agg [.int .i64 a0.f_Kind, .int .i64 a0.f_A, .int .i64 a0.f_B]] [((0, 0), .rows 3 (a1.map z6))] 3 (vr 4 (.msl (3, 0) 3 0 o.length false) [((3, 0), .rows 3 (o.map z6))]) := Xf (L := zfx) zbl zey (Nat.le_of_ble_eq_true rfl) (z7h h)
def z8r : LCode := (.draw [⟨⟨some 43, .mv (.t 5), none⟩, []⟩,
 ⟨⟨some 44, .mv (.t 5), none⟩, []⟩,
 ⟨⟨some 45, .nilck (.t 44), none⟩, []⟩,
 ⟨⟨some 46, .faddr 1 (.t 45), none⟩, []⟩,
 ⟨⟨some 47, .load false 1 (.t 46), none⟩, []⟩,
 ⟨⟨some 48, .load true 3 (.t 8), none⟩, []⟩,
 ⟨⟨some 50, .load true 3 (.t 9), none⟩, []⟩,
 ⟨⟨some 49, .call 36 [(.t 47), (.t 48)], none⟩, [6]⟩,
 ⟨⟨some 51, .call 36 [(.t 49), (.t 50)], none⟩, []⟩,
 ⟨⟨some 52, .nilck (.t 43), none⟩, []⟩,
 ⟨⟨some 53, .faddr 1 (.t 52), none⟩, []⟩,
 ⟨⟨none, .store 1 (.t 53) (.t 51), none⟩, []⟩])
def z7r : LCode := (.seq (.draw [⟨⟨some 30, .mv (.t 5), none⟩, []⟩,
 ⟨⟨some 31, .nilck (.t 30), none⟩, []⟩,
 ⟨⟨some 32, .faddr 0 (.t 31), none⟩, []⟩,
 ⟨⟨some 33, .load false 1 (.t 32), none⟩, []⟩,
 ⟨⟨some 34, .load true 3 (.t 8), none⟩, []⟩,
 ⟨⟨some 35, .mv (.t 5), none⟩, []⟩,
 ⟨⟨some 36, .nilck (.t 35), none⟩, []⟩,
 ⟨⟨some 37, .faddr 0 (.t 36), none⟩, []⟩,
 ⟨⟨some 38, .load false 1 (.t 37), none⟩, []⟩,
 ⟨⟨some 39, .load true 3 (.t 8), none⟩, []⟩,
 ⟨⟨some 40, .mlook [.int, .int, .int] true false false [(.val (.slice none 0 0))] (.t 38) (.t 39), none⟩, []⟩,
 ⟨⟨some 41, .load true 3 (.t 9), none⟩, []⟩,
 ⟨⟨some 42, .call 36 [(.t 40), (.t 41)], none⟩, [3, 4]⟩,
 ⟨⟨none, .mset [.int, .int, .int] true false [(.isl 3 [] true)] (.t 33) (.t 34) (.t 42), none⟩, []⟩])
 z8r)
def z2d : LCode := (.region [⟨some 54, .bin .add (.t 19) (.c (.int .i64 1)), none⟩,
 ⟨some 19, .mv (.t 54), none⟩])
def z2m : LCode := (.seq (.region [⟨some 20, .bin .lss (.t 19) (.t 18), none⟩])
 (.seq (.cond (.t 20)
  .skip
  (.exit 0))
 (.seq (.block 1
  (.seq (.region [⟨some 21, .iaddr 6 (.t 17) (.t 19), none⟩,
   ⟨some 22, .load true 6 (.t 21), none⟩,
   ⟨some 7, .alloc [(.int .i64 0), (.int .i64 0), (.int .i64 0), (.int .i64 0), (.int .i64 0), (.int .i64 0)], none⟩,
   ⟨none, .store 6 (.t 7) (.t 22), none⟩])
  (.seq (.draw [⟨⟨some 23, .faddr 0 (.t 7), none⟩, []⟩,
   ⟨⟨some 24, .load true 3 (.t 23), none⟩, []⟩,
   ⟨⟨some 25, .faddr 3 (.t 7), none⟩, []⟩,
   ⟨⟨some 26, .load true 3 (.t 25), none⟩, []⟩,
   ⟨⟨some 8, .alloc [(.int .i64 0), (.int .i64 0), (.int .i64 0)], none⟩, [1, 3]⟩,
   ⟨⟨some 9, .alloc [(.int .i64 0), (.int .i64 0), (.int .i64 0)], none⟩, [1, 3]⟩,
   ⟨⟨none, .store 3 (.t 8) (.t 24), none⟩, [3]⟩,
   ⟨⟨none, .store 3 (.t 9) (.t 26), none⟩, []⟩])
  (.seq (.seq (.region [⟨some 27, .mv (.t 1), none⟩])
  (.cond (.t 27)
   (.region [⟨some 28, .load true 3 (.t 9), none⟩,
    ⟨some 29, .load true 3 (.t 8), none⟩,
    ⟨none, .store 3 (.t 8) (.t 28), none⟩,
    ⟨none, .store 3 (.t 9) (.t 29), none⟩])
   .skip))
  z7r))))
 z2d)))
def Vg : LCode := (.seq (.region [⟨some 55, .mv (.t 5), none⟩,
 ⟨some 4, .mv (.t 55), none⟩])
 .ret)
def z8j : LCode := (.seq (.region [⟨some 4, .mv (.c (.val (.pointer none))), none⟩])
 (.seq (.region [⟨some 10, .mkmap none, none⟩,
  ⟨some 11, .build [(.val (.map none)), (.isl 3 [] true)] [(0, 1, (.t 10))], none⟩,
  ⟨some 12, .box (.t 11), none⟩,
  ⟨some 5, .mv (.t 12), none⟩])
 (.seq (.seq (.region [⟨some 13, .mv (.t 0), none⟩,
  ⟨some 14, .mv (.t 0), none⟩,
  ⟨some 15, .len false (.t 14), none⟩,
  ⟨some 16, .mnx false [(.t 15), (.c (.int .i64 400))], none⟩,
  ⟨some 17, .slSl 6 (.t 13) none (some (.t 16)) none, none⟩,
  ⟨some 18, .len false (.t 17), none⟩,
  ⟨some 19, .mv (.c (.int .i64 0)), none⟩])
 (.block 0
  (.loop
   z2m)))
 Vg)))
def vq : Lay := ⟨56, [12, 40], false⟩
def z57 : List LRes := [.t 4]
def zej : LFn := ⟨2, vq, z8j, z57⟩
theorem zep : k9 Try.prog [12, 40] 21 = some zej := by kernel_rfl
theorem zbd : Y8 Try.prog 21 := ⟨_, Try.func21, rfl, rfl⟩
def z1x (a0 : List G_QEdge) (a1 : Bool) (o : (List G_QKey) × (List (G_QKey × (List G_QKey)))) : Exit → Env → AHeap → Nat → Prop := Xg z57 (Xy 3 7 (.ptr (3, 0) 0 0) [((3, 0), .one [.map (4, 0), .isl 3 (o.1.map z6) false]), ((4, 0), .amap (o.2.map (em z8 zb)))])
def Zv (a0 : List G_QEdge) (a1 : Bool) (s : (Int × (List (G_QKey × (List G_QKey))) × (List G_QKey))) : Env := [(1, .bool a1), (5, .ptr (3, 0) 0 0), (17, .isl 6 ((a0.take (if 400 < ((a0.map z7).length : Int) then 400 else ((a0.map z7).length : Int)).toNat).map z7) false), (18, .int .i64 (((a0.take (if 400 < ((a0.map z7).length : Int) then 400 else ((a0.map z7).length : Int)).toNat).map z7).length : Int)), (19, .int .i64 s.1)]
def Yt (a0 : List G_QEdge) (a1 : Bool) (s : (Int × (List (G_QKey × (List G_QKey))) × (List G_QKey))) : AHeap := ([((3, 0), .one [.map (4, 0), .msl (5, 0) 3 0 s.2.2.length false]), ((4, 0), .amap (Zn z8 6 3 s.2.1)), ((5, 0), .rows 3 (s.2.2.map z6))] ++ (Y0 6 3 z6 s.2.1 none))
def Qv (a0 : List G_QEdge) (a1 : Bool) (o : ((List G_QKey) × (List (G_QKey × (List G_QKey))))) : Exit → Env → AHeap → Nat → Prop := (yv 0 (uv Try.prog vq 3 Vg (z1x a0 a1 o)))
noncomputable def xw (m : Option Nat) (a0 : List G_QEdge) (a1 : Bool) (v12 : Int) (v14 : List G_QKey) (v26 : Int) (v27 : Int) (v28 : Int) (v29 : Int) (v30 : Int) (v31 : Int) (v34 : List (G_QKey × (List G_QKey))) : Option ((Int × (List (G_QKey × (List G_QKey))) × (List G_QKey)) ⊕ ((List G_QKey) × (List (G_QKey × (List G_QKey))))) :=
 (yw m (G_QKey.mk v26 v27 v28) v14).bind fun v35 =>
 (yw m (G_QKey.mk v29 v30 v31) v35).bind fun v36 =>
 some (.inl ((W (v12 + 1)), v34, v36))
theorem Vr {a0 : List G_QEdge} {a1 : Bool} {v12 : Int} {v14 : List G_QKey} {v26 : Int} {v27 : Int} {v28 : Int} {v29 : Int} {v30 : Int} {v31 : Int} {v34 : List (G_QKey × (List G_QKey))} {m : Option Nat} {o : ((Int × (List (G_QKey × (List G_QKey))) × (List G_QKey)) ⊕ ((List G_QKey) × (List (G_QKey × (List G_QKey)))))} (h : xw m a0 a1 v12 v14 v26 v27 v28 v29 v30 v31 v34 = some o) :
 LWp Try.prog vq 3 z8r (yv 1 (uv Try.prog vq 3 z2d (wj 3 7 (Zv a0 a1) (Yt a0 a1) (Qv a0 a1) o))) [(1, .bool a1), (5, .ptr (3, 0) 0 0), (8, .ptr (4, 0) 0 0), (9, .ptr (5, 0) 0 0), (17, .isl 6 ((a0.take (if 400 < ((a0.map z7).length : Int) then 400 else ((a0.map z7).length : Int)).toNat).map z7) false), (18, .int .i64 (((a0.take (if 400 < ((a0.map z7).length : Int) then 400 else ((a0.map z7).length : Int)).toNat).map z7).length : Int)), (19, .int .i64 v12)] ([((3, 0), .one [.map (6, 0), .msl (7, 0) 3 0 v14.length false]), ((4, 0), .one [.int .i64 v26, .int .i64 v27, .int .i64 v28]), ((5, 0), .one [.int .i64 v29, .int .i64 v30, .int .i64 v31]), ((6, 0), .amap (Zn z8 8 3 v34)), ((7, 0), .rows 3 (v14.map z6))] ++ (Y0 8 3 z6 v34 none)) 9 := by
 unfold xw at h
 refine Uw ?_
 obtain ⟨v35, h24, h⟩ := bind_some h
 refine Ya (k := 3) (m := 1) (L' := [((9, 0), .rows 3 (v35.map z6))]) (rest := ([((3, 0), .one [.map (6, 0), .msl (7, 0) 3 0 v14.length false]), ((4, 0), .one [.int .i64 v26, .int .i64 v27, .int .i64 v28]), ((5, 0), .one [.int .i64 v29, .int .i64 v30, .int .i64 v31]), ((6, 0), .amap (Zn z8 8 3 v34))] ++ (Y0 8 3 z6 v34 none))) (R' := .msl (9, 0) 3 0 v35.length false) [((0, 0), (7, 0))] (V6 h24) rfl rfl rfl (And.intro (Vw.mslE rfl (by first | rfl | omega | (simp; done) | (simp only [List.length_map, List.length_replicate, Int.toNat_natCast] at *; omega)) rfl) (And.intro (Vw.same _ rfl) trivial)) (And.intro (h0I (7, 0) rfl rfl (BVw.enc z6 (fun _ => rfl) _ v14)) trivial) rfl (And.intro rfl (And.intro (Zt z6 (fun _ => rfl) _ _) trivial)) (Q1 (lit := [((3, 0), .one [.map (6, 0), .msl (7, 0) 3 0 v14.length false]), ((4, 0), .one [.int .i64 v26, .int .i64 v27, .int .i64 v28]), ((5, 0), .one [.int .i64 v29, .int .i64 v30, .int .i64 v31]), ((6, 0), .amap (Zn z8 8 3 v34)), ((7, 0), .rows 3 (v14.map z6))]) (T := (Y0 8 3 z6 v34 none)) InQ.baseM (fun _ => rfl) rfl) ?_
 refine And.intro rfl ?_
 obtain ⟨v36, h25, h⟩ := bind_some h
 refine Ya (k := 3) (m := 1) (L' := [((11, 0), .rows 3 (v36.map z6))]) (rest := ([((3, 0), .one [.map (6, 0), .msl (7, 0) 3 0 v14.length false]), ((4, 0), .one [.int .i64 v26, .int .i64 v27, .int .i64 v28]), ((5, 0), .one [.int .i64 v29, .int .i64 v30, .int .i64 v31]), ((6, 0), .amap (Zn z8 8 3 v34))] ++ (Y0 8 3 z6 v34 none))) (R' := .msl (11, 0) 3 0 v36.length false) [((0, 0), (9, 0))] (V6 h25) rfl rfl rfl (And.intro (Vw.mslE rfl (by first | rfl | omega | (simp; done) | (simp only [List.length_map, List.length_replicate, Int.toNat_natCast] at *; omega)) rfl) (And.intro (Vw.same _ rfl) trivial)) (And.intro (h0I (9, 0) rfl rfl (BVw.enc z6 (fun _ => rfl) _ v35)) trivial) rfl (And.intro rfl (And.intro (Zt z6 (fun _ => rfl) _ _) trivial)) (Q1 (lit := [((9, 0), .rows 3 (v35.map z6)), ((3, 0), .one [.map (6, 0), .msl (7, 0) 3 0 v14.length false]), ((4, 0), .one [.int .i64 v26, .int .i64 v27, .int .i64 v28]), ((5, 0), .one [.int .i64 v29, .int .i64 v30, .int .i64 v31]), ((6, 0), .amap (Zn z8 8 3 v34))]) (T := (Y0 8 3 z6 v34 none)) InQ.baseM (fun _ => rfl) rfl) ?_
 show yd _ _ _ _ _ [(51, .msl (11, 0) 3 0 v36.length false), (49, .msl (9, 0) 3 0 v35.length false), (50, .agg [.int .i64 v29, .int .i64 v30, .int .i64 v31]), (48, .agg [.int .i64 v26, .int .i64 v27, .int .i64 v28]), (47, .msl (7, 0) 3 0 v14.length false), (46, .ptr (3, 0) 0 1), (45, .ptr (3, 0) 0 0), (44, .ptr (3, 0) 0 0), (43, .ptr (3, 0) 0 0), (1, .bool a1), (5, .ptr (3, 0) 0 0), (8, .ptr (4, 0) 0 0), (9, .ptr (5, 0) 0 0), (17, .isl 6 ((a0.take (if 400 < ((a0.map z7).length : Int) then 400 else ((a0.map z7).length : Int)).toNat).map z7) false), (18, .int .i64 (((a0.take (if 400 < ((a0.map z7).length : Int) then 400 else ((a0.map z7).length : Int)).toNat).map z7).length : Int)), (19, .int .i64 v12)] _ _
 refine LWp.sim (e := [(1, .bool a1), (5, .ptr (3, 0) 0 0), (17, .isl 6 ((a0.take (if 400 < ((a0.map z7).length : Int) then 400 else ((a0.map z7).length : Int)).toNat).map z7) false), (18, .int .i64 (((a0.take (if 400 < ((a0.map z7).length : Int) then 400 else ((a0.map z7).length : Int)).toNat).map z7).length : Int)), (19, .int .i64 v12)]) (L := ([((3, 0), .one [.map (4, 0), .msl (5, 0) 3 0 v36.length false]), ((4, 0), .amap (Zn z8 6 3 v34)), ((5, 0), .rows 3 (v36.map z6))] ++ (Y0 6 3 z6 v34 none))) (n := 7) ?_ ?_
 ·exact z2f (M := [((3, 0), (3, 0)), ((4, 0), (6, 0)), ((5, 0), (11, 0))]) (lit' := [((11, 0), .rows 3 (v36.map z6)), ((3, 0), .one [.map (6, 0), .msl (11, 0) 3 0 v36.length false]), ((4, 0), .one [.int .i64 v26, .int .i64 v27, .int .i64 v28]), ((5, 0), .one [.int .i64 v29, .int .i64 v30, .int .i64 v31]), ((6, 0), .amap (Zn z8 8 3 v34))]) (T := (Y0 8 3 z6 v34 none)) (q := 8) (q' := 6) wc rfl IsFamM.base (And.intro (Vw.same _ rfl) (And.intro (Vw.ptr _ _ _ _ rfl) (And.intro (Vw.same _ rfl) (And.intro (Vw.same _ rfl) (And.intro (Vw.same _ rfl) trivial))))) (And.intro (And.intro rfl (BVw.oneL (And.intro (Vw.map _ _ rfl) (And.intro (Vw.mslE rfl (by first | rfl | omega | (simp; done) | (simp only [List.length_map, List.length_replicate, Int.toNat_natCast] at *; omega)) rfl) trivial)))) (And.intro (And.intro rfl BVw.entJ) (And.intro (And.intro rfl (BVw.enc z6 (fun _ => rfl) _ v36)) trivial)))
 refine y8 ?_
 cases h
 exact And.intro rfl (z2f (M := [((3, 0), (3, 0)), ((4, 0), (4, 0)), ((5, 0), (5, 0))]) (lit' := [((3, 0), .one [.map (4, 0), .msl (5, 0) 3 0 v36.length false]), ((4, 0), .amap (Zn z8 6 3 v34)), ((5, 0), .rows 3 (v36.map z6))]) (T := (Y0 6 3 z6 v34 none)) (q := 6) (q' := 6) wc rfl IsFamM.base (And.intro (Vw.same _ rfl) (And.intro (Vw.ptr _ _ _ _ rfl) (And.intro (Vw.same _ rfl) (And.intro (Vw.same _ rfl) (And.intro (Vw.same _ rfl) trivial))))) (And.intro (And.intro rfl (BVw.oneL (And.intro (Vw.map _ _ rfl) (And.intro (Vw.mslE rfl (by first | rfl | omega | (simp; done) | (simp only [List.length_map, List.length_replicate, Int.toNat_natCast] at *; omega)) rfl) trivial)))) (And.intro (And.intro rfl BVw.entJ) (And.intro (And.intro rfl (BVw.enc z6 (fun _ => rfl) _ v36)) trivial))))
noncomputable def xu (m : Option Nat) (a0 : List G_QEdge) (a1 : Bool) (v12 : Int) (v13 : List (G_QKey × (List G_QKey))) (v14 : List G_QKey) (v26 : Int) (v27 : Int) (v28 : Int) (v29 : Int) (v30 : Int) (v31 : Int) : Option ((Int × (List (G_QKey × (List G_QKey))) × (List G_QKey)) ⊕ ((List G_QKey) × (List (G_QKey × (List G_QKey))))) :=
 if (lk ze v13 (G_QKey.mk v26 v27 v28)).isSome = true then
  (yw m (G_QKey.mk v29 v30 v31) ((lk ze v13 (G_QKey.mk v26 v27 v28)).getD default)).bind fun v32 =>
  xw m a0 a1 v12 v14 v26 v27 v28 v29 v30 v31 (mp ze v13 (G_QKey.mk v26 v27 v28) v32)
 else
  (yw m (G_QKey.mk v29 v30 v31) ([] : List G_QKey)).bind fun v33 =>
  xw m a0 a1 v12 v14 v26 v27 v28 v29 v30 v31 (mp ze v13 (G_QKey.mk v26 v27 v28) v33)
theorem U0 {a0 : List G_QEdge} {a1 : Bool} {v12 : Int} {v13 : List (G_QKey × (List G_QKey))} {v14 : List G_QKey} {v26 : Int} {v27 : Int} {v28 : Int} {v29 : Int} {v30 : Int} {v31 : Int} {m : Option Nat} {o : ((Int × (List (G_QKey × (List G_QKey))) × (List G_QKey)) ⊕ ((List G_QKey) × (List (G_QKey × (List G_QKey)))))} (h : xu m a0 a1 v12 v13 v14 v26 v27 v28 v29 v30 v31 = some o) :
 LWp Try.prog vq 3 z7r (yv 1 (uv Try.prog vq 3 z2d (wj 3 7 (Zv a0 a1) (Yt a0 a1) (Qv a0 a1) o))) [(1, .bool a1), (5, .ptr (3, 0) 0 0), (8, .ptr (4, 0) 0 0), (9, .ptr (5, 0) 0 0), (17, .isl 6 ((a0.take (if 400 < ((a0.map z7).length : Int) then 400 else ((a0.map z7).length : Int)).toNat).map z7) false), (18, .int .i64 (((a0.take (if 400 < ((a0.map z7).length : Int) then 400 else ((a0.map z7).length : Int)).toNat).map z7).length : Int)), (19, .int .i64 v12)] ([((3, 0), .one [.map (6, 0), .msl (7, 0) 3 0 v14.length false]), ((4, 0), .one [.int .i64 v26, .int .i64 v27, .int .i64 v28]), ((5, 0), .one [.int .i64 v29, .int .i64 v30, .int .i64 v31]), ((6, 0), .amap (Zn z8 8 3 v13)), ((7, 0), .rows 3 (v14.map z6))] ++ (Y0 8 3 z6 v13 none)) 9 := by
 unfold xu at h
 refine zl ?_
 rcases Bool.eq_false_or_eq_true (lk ze v13 (G_QKey.mk v26 v27 v28)).isSome with h21 | h21
 ·have h := q7 h21 h
  refine LWp.sim (e := [(1, .bool a1), (5, .ptr (3, 0) 0 0), (8, .ptr (4, 0) 0 0), (9, .ptr (5, 0) 0 0), (17, .isl 6 ((a0.take (if 400 < ((a0.map z7).length : Int) then 400 else ((a0.map z7).length : Int)).toNat).map z7) false), (18, .int .i64 (((a0.take (if 400 < ((a0.map z7).length : Int) then 400 else ((a0.map z7).length : Int)).toNat).map z7).length : Int)), (19, .int .i64 v12)]) (L := ([((9, 0), .rows 3 (((lk ze v13 (G_QKey.mk v26 v27 v28)).getD default).map z6)), ((3, 0), .one [.map (6, 0), .msl (7, 0) 3 0 v14.length false]), ((4, 0), .one [.int .i64 v26, .int .i64 v27, .int .i64 v28]), ((5, 0), .one [.int .i64 v29, .int .i64 v30, .int .i64 v31]), ((6, 0), .amap (Uo z8 8 3 v13 (uc ze v13 (G_QKey.mk v26 v27 v28)) (G_QKey.mk v26 v27 v28) (.msl (9, 0) 3 0 (((lk ze v13 (G_QKey.mk v26 v27 v28)).getD default).length) false))), ((7, 0), .rows 3 (v14.map z6))] ++ (Y0 8 3 z6 v13 (some (uc ze v13 (G_QKey.mk v26 v27 v28)))))) (n := 10) ?_ ?_
  ·exact zq6 (m := (9, 0)) (i := (uc ze v13 (G_QKey.mk v26 v27 v28))) (M := [((3, 0), (3, 0)), ((4, 0), (4, 0)), ((5, 0), (5, 0)), ((6, 0), (6, 0)), ((7, 0), (7, 0))]) (lit' := [((3, 0), .one [.map (6, 0), .msl (7, 0) 3 0 v14.length false]), ((4, 0), .one [.int .i64 v26, .int .i64 v27, .int .i64 v28]), ((5, 0), .one [.int .i64 v29, .int .i64 v30, .int .i64 v31]), ((6, 0), .amap (Zn z8 8 3 v13)), ((7, 0), .rows 3 (v14.map z6))]) (T := (Y0 8 3 z6 v13 none)) (q := 8) (q' := 8) wc (zlg (zfc (bqt h21))) rfl (by decide) IsFamM.base (And.intro (Vw.same _ rfl) (And.intro (Vw.ptr _ _ _ _ rfl) (And.intro (Vw.ptr _ _ _ _ rfl) (And.intro (Vw.ptr _ _ _ _ rfl) (And.intro (Vw.same _ rfl) (And.intro (Vw.same _ rfl) (And.intro (Vw.same _ rfl) trivial))))))) (And.intro (And.intro rfl (BVw.oneL (And.intro (Vw.map _ _ rfl) (And.intro (Vw.mslE rfl (by first | rfl | omega | (simp; done) | (simp only [List.length_map, List.length_replicate, Int.toNat_natCast] at *; omega)) rfl) trivial)))) (And.intro (And.intro rfl (BVw.oneL (And.intro (Vw.same _ rfl) (And.intro (Vw.same _ rfl) (And.intro (Vw.same _ rfl) trivial))))) (And.intro (And.intro rfl (BVw.oneL (And.intro (Vw.same _ rfl) (And.intro (Vw.same _ rfl) (And.intro (Vw.same _ rfl) trivial))))) (And.intro (And.intro rfl (BVw.entF Jc (zou (zfc (bqt h21))) (by decide) rfl rfl)) (And.intro (And.intro rfl (BVw.enc z6 (fun _ => rfl) _ v14)) trivial)))))
  refine Uw ?_
  refine Exists.intro (.msl (9, 0) 3 0 (((lk ze v13 (G_QKey.mk v26 v27 v28)).getD default).length) false) (And.intro (zfl (ek := z8) jd Jc (zfc (bqt h21))) (And.intro (zd0 (ek := z8) jd Jc (zfc (bqt h21))) ?_))
  obtain ⟨v32, h22, h⟩ := bind_some h
  refine Ya (k := 3) (m := 1) (L' := [((10, 0), .rows 3 (v32.map z6))]) (rest := ([((3, 0), .one [.map (6, 0), .msl (7, 0) 3 0 v14.length false]), ((4, 0), .one [.int .i64 v26, .int .i64 v27, .int .i64 v28]), ((5, 0), .one [.int .i64 v29, .int .i64 v30, .int .i64 v31]), ((6, 0), .amap (Uo z8 8 3 v13 (uc ze v13 (G_QKey.mk v26 v27 v28)) (G_QKey.mk v26 v27 v28) (.msl (9, 0) 3 0 (((lk ze v13 (G_QKey.mk v26 v27 v28)).getD default).length) false))), ((7, 0), .rows 3 (v14.map z6))] ++ (Y0 8 3 z6 v13 (some (uc ze v13 (G_QKey.mk v26 v27 v28)))))) (R' := .msl (10, 0) 3 0 v32.length false) [((0, 0), (9, 0))] (V6 h22) rfl rfl rfl (And.intro (Vw.mslE rfl (by first | rfl | omega | (simp; done) | (simp only [List.length_map, List.length_replicate, Int.toNat_natCast] at *; omega)) rfl) (And.intro (Vw.same _ rfl) trivial)) (And.intro (h0I (9, 0) rfl rfl (BVw.enc z6 (fun _ => rfl) _ ((lk ze v13 (G_QKey.mk v26 v27 v28)).getD default))) trivial) rfl (And.intro rfl (And.intro (Zt z6 (fun _ => rfl) _ _) trivial)) (Q1 (lit := [((9, 0), .rows 3 (((lk ze v13 (G_QKey.mk v26 v27 v28)).getD default).map z6)), ((3, 0), .one [.map (6, 0), .msl (7, 0) 3 0 v14.length false]), ((4, 0), .one [.int .i64 v26, .int .i64 v27, .int .i64 v28]), ((5, 0), .one [.int .i64 v29, .int .i64 v30, .int .i64 v31]), ((6, 0), .amap (Uo z8 8 3 v13 (uc ze v13 (G_QKey.mk v26 v27 v28)) (G_QKey.mk v26 v27 v28) (.msl (9, 0) 3 0 (((lk ze v13 (G_QKey.mk v26 v27 v28)).getD default).length) false))), ((7, 0), .rows 3 (v14.map z6))]) (T := (Y0 8 3 z6 v13 (some (uc ze v13 (G_QKey.mk v26 v27 v28))))) InQ.baseM (fun _ => rfl) rfl) ?_
  refine And.intro rfl ?_
  refine And.intro rfl ?_
  refine Exists.intro (Uo z8 8 3 v13 (uc ze v13 (G_QKey.mk v26 v27 v28)) (G_QKey.mk v26 v27 v28) (.msl (10, 0) 3 0 v32.length false)) (And.intro (zhy (ek := z8) jd Jc (zfc (bqt h21))) ?_)
  refine LWp.sim (e := [(1, .bool a1), (5, .ptr (3, 0) 0 0), (8, .ptr (4, 0) 0 0), (9, .ptr (5, 0) 0 0), (17, .isl 6 ((a0.take (if 400 < ((a0.map z7).length : Int) then 400 else ((a0.map z7).length : Int)).toNat).map z7) false), (18, .int .i64 (((a0.take (if 400 < ((a0.map z7).length : Int) then 400 else ((a0.map z7).length : Int)).toNat).map z7).length : Int)), (19, .int .i64 v12)]) (L := ([((3, 0), .one [.map (6, 0), .msl (7, 0) 3 0 v14.length false]), ((4, 0), .one [.int .i64 v26, .int .i64 v27, .int .i64 v28]), ((5, 0), .one [.int .i64 v29, .int .i64 v30, .int .i64 v31]), ((6, 0), .amap (Zn z8 8 3 (mp ze v13 (G_QKey.mk v26 v27 v28) v32))), ((7, 0), .rows 3 (v14.map z6))] ++ (Y0 8 3 z6 (mp ze v13 (G_QKey.mk v26 v27 v28) v32) none))) (n := 10) ?_ ?_
  ·exact zox (t := (10, 0)) (M := [((3, 0), (3, 0)), ((4, 0), (4, 0)), ((5, 0), (5, 0)), ((6, 0), (6, 0)), ((7, 0), (7, 0))]) (lit' := [((10, 0), .rows 3 (v32.map z6)), ((3, 0), .one [.map (6, 0), .msl (7, 0) 3 0 v14.length false]), ((4, 0), .one [.int .i64 v26, .int .i64 v27, .int .i64 v28]), ((5, 0), .one [.int .i64 v29, .int .i64 v30, .int .i64 v31]), ((6, 0), .amap (Uo z8 8 3 v13 (uc ze v13 (G_QKey.mk v26 v27 v28)) (G_QKey.mk v26 v27 v28) (.msl (10, 0) 3 0 v32.length false))), ((7, 0), .rows 3 (v14.map z6))]) (T := (Y0 8 3 z6 v13 (some (uc ze v13 (G_QKey.mk v26 v27 v28))))) (q := 8) (q' := 8) wc rfl (by decide) rfl IsFamM.base (And.intro (Vw.same _ rfl) (And.intro (Vw.ptr _ _ _ _ rfl) (And.intro (Vw.ptr _ _ _ _ rfl) (And.intro (Vw.ptr _ _ _ _ rfl) (And.intro (Vw.same _ rfl) (And.intro (Vw.same _ rfl) (And.intro (Vw.same _ rfl) trivial))))))) (And.intro (And.intro rfl (BVw.oneL (And.intro (Vw.map _ _ rfl) (And.intro (Vw.mslE rfl (by first | rfl | omega | (simp; done) | (simp only [List.length_map, List.length_replicate, Int.toNat_natCast] at *; omega)) rfl) trivial)))) (And.intro (And.intro rfl (BVw.oneL (And.intro (Vw.same _ rfl) (And.intro (Vw.same _ rfl) (And.intro (Vw.same _ rfl) trivial))))) (And.intro (And.intro rfl (BVw.oneL (And.intro (Vw.same _ rfl) (And.intro (Vw.same _ rfl) (And.intro (Vw.same _ rfl) trivial))))) (And.intro (And.intro rfl (BVw.entU rfl (by first | rfl | omega | (simp; done) | (simp only [List.length_map, List.length_replicate, Int.toNat_natCast] at *; omega)))) (And.intro (And.intro rfl (BVw.enc z6 (fun _ => rfl) _ v14)) trivial)))))
  refine LWp.sim ?_ (Vr h)
  exact z2f (M := [((3, 0), (3, 0)), ((4, 0), (4, 0)), ((5, 0), (5, 0)), ((6, 0), (6, 0)), ((7, 0), (7, 0))]) (lit' := [((3, 0), .one [.map (6, 0), .msl (7, 0) 3 0 v14.length false]), ((4, 0), .one [.int .i64 v26, .int .i64 v27, .int .i64 v28]), ((5, 0), .one [.int .i64 v29, .int .i64 v30, .int .i64 v31]), ((6, 0), .amap (Zn z8 8 3 (mp ze v13 (G_QKey.mk v26 v27 v28) v32))), ((7, 0), .rows 3 (v14.map z6))]) (T := (Y0 8 3 z6 (mp ze v13 (G_QKey.mk v26 v27 v28) v32) none)) (q := 8) (q' := 8) wc rfl IsFamM.base (And.intro (Vw.same _ rfl) (And.intro (Vw.ptr _ _ _ _ rfl) (And.intro (Vw.ptr _ _ _ _ rfl) (And.intro (Vw.ptr _ _ _ _ rfl) (And.intro (Vw.same _ rfl) (And.intro (Vw.same _ rfl) (And.intro (Vw.same _ rfl) trivial))))))) (And.intro (And.intro rfl (BVw.oneL (And.intro (Vw.map _ _ rfl) (And.intro (Vw.mslE rfl (by first | rfl | omega | (simp; done) | (simp only [List.length_map, List.length_replicate, Int.toNat_natCast] at *; omega)) rfl) trivial)))) (And.intro (And.intro rfl (BVw.oneL (And.intro (Vw.same _ rfl) (And.intro (Vw.same _ rfl) (And.intro (Vw.same _ rfl) trivial))))) (And.intro (And.intro rfl (BVw.oneL (And.intro (Vw.same _ rfl) (And.intro (Vw.same _ rfl) (And.intro (Vw.same _ rfl) trivial))))) (And.intro (And.intro rfl BVw.entJ) (And.intro (And.intro rfl (BVw.enc z6 (fun _ => rfl) _ v14)) trivial)))))
 ·have h := qq h21 h
  refine LWp.ghost 3 ?_
  refine Uw ?_
  refine Exists.intro (.val (.slice none 0 0)) (And.intro (zbo (ek := z8) jd rfl (zpz (bqf h21))) (And.intro (zfy (ek := z8) jd (G_QKey.mk v26 v27 v28)) ?_))
  obtain ⟨v33, h23, h⟩ := bind_some h
  refine Ya (k := 3) (m := 1) (L' := [((10, 0), .rows 3 (v33.map z6))]) (rest := ([((3, 0), .one [.map (6, 0), .msl (7, 0) 3 0 v14.length false]), ((4, 0), .one [.int .i64 v26, .int .i64 v27, .int .i64 v28]), ((5, 0), .one [.int .i64 v29, .int .i64 v30, .int .i64 v31]), ((6, 0), .amap (Zn z8 8 3 v13)), ((7, 0), .rows 3 (v14.map z6))] ++ (Y0 8 3 z6 v13 none))) (R' := .msl (10, 0) 3 0 v33.length false) [((0, 0), (9, 0))] (V6 h23) rfl rfl rfl (And.intro (Vw.nilM _ _ _ _ _ _ rfl rfl) (And.intro (Vw.same _ rfl) trivial)) (And.intro (h0I (9, 0) rfl rfl (BVw.enc z6 (fun _ => rfl) _ ([] : List G_QKey))) trivial) rfl (And.intro rfl (And.intro (Zt z6 (fun _ => rfl) _ _) trivial)) (Q1 (lit := [((9, 0), .rows 3 (([] : List G_QKey).map z6)), ((3, 0), .one [.map (6, 0), .msl (7, 0) 3 0 v14.length false]), ((4, 0), .one [.int .i64 v26, .int .i64 v27, .int .i64 v28]), ((5, 0), .one [.int .i64 v29, .int .i64 v30, .int .i64 v31]), ((6, 0), .amap (Zn z8 8 3 v13)), ((7, 0), .rows 3 (v14.map z6))]) (T := (Y0 8 3 z6 v13 none)) InQ.baseM (fun _ => rfl) rfl) ?_
  refine And.intro rfl ?_
  refine And.intro rfl ?_
  refine Exists.intro (Uo z8 8 3 v13 (uc ze v13 (G_QKey.mk v26 v27 v28)) (G_QKey.mk v26 v27 v28) (.msl (10, 0) 3 0 v33.length false)) (And.intro (zif (ek := z8) jd (G_QKey.mk v26 v27 v28)) ?_)
  refine LWp.sim (e := [(1, .bool a1), (5, .ptr (3, 0) 0 0), (8, .ptr (4, 0) 0 0), (9, .ptr (5, 0) 0 0), (17, .isl 6 ((a0.take (if 400 < ((a0.map z7).length : Int) then 400 else ((a0.map z7).length : Int)).toNat).map z7) false), (18, .int .i64 (((a0.take (if 400 < ((a0.map z7).length : Int) then 400 else ((a0.map z7).length : Int)).toNat).map z7).length : Int)), (19, .int .i64 v12)]) (L := ([((3, 0), .one [.map (6, 0), .msl (7, 0) 3 0 v14.length false]), ((4, 0), .one [.int .i64 v26, .int .i64 v27, .int .i64 v28]), ((5, 0), .one [.int .i64 v29, .int .i64 v30, .int .i64 v31]), ((6, 0), .amap (Zn z8 8 3 (mp ze v13 (G_QKey.mk v26 v27 v28) v33))), ((7, 0), .rows 3 (v14.map z6))] ++ (Y0 8 3 z6 (mp ze v13 (G_QKey.mk v26 v27 v28) v33) none))) (n := 10) ?_ ?_
  ·exact zox (t := (10, 0)) (M := [((3, 0), (3, 0)), ((4, 0), (4, 0)), ((5, 0), (5, 0)), ((6, 0), (6, 0)), ((7, 0), (7, 0))]) (lit' := [((10, 0), .rows 3 (v33.map z6)), ((3, 0), .one [.map (6, 0), .msl (7, 0) 3 0 v14.length false]), ((4, 0), .one [.int .i64 v26, .int .i64 v27, .int .i64 v28]), ((5, 0), .one [.int .i64 v29, .int .i64 v30, .int .i64 v31]), ((6, 0), .amap (Uo z8 8 3 v13 (uc ze v13 (G_QKey.mk v26 v27 v28)) (G_QKey.mk v26 v27 v28) (.msl (10, 0) 3 0 v33.length false))), ((7, 0), .rows 3 (v14.map z6))]) (T := (Y0 8 3 z6 v13 none)) (q := 8) (q' := 8) wc rfl (by decide) rfl (IsFamM.hole IsFamM.base) (And.intro (Vw.same _ rfl) (And.intro (Vw.ptr _ _ _ _ rfl) (And.intro (Vw.ptr _ _ _ _ rfl) (And.intro (Vw.ptr _ _ _ _ rfl) (And.intro (Vw.same _ rfl) (And.intro (Vw.same _ rfl) (And.intro (Vw.same _ rfl) trivial))))))) (And.intro (And.intro rfl (BVw.oneL (And.intro (Vw.map _ _ rfl) (And.intro (Vw.mslE rfl (by first | rfl | omega | (simp; done) | (simp only [List.length_map, List.length_replicate, Int.toNat_natCast] at *; omega)) rfl) trivial)))) (And.intro (And.intro rfl (BVw.oneL (And.intro (Vw.same _ rfl) (And.intro (Vw.same _ rfl) (And.intro (Vw.same _ rfl) trivial))))) (And.intro (And.intro rfl (BVw.oneL (And.intro (Vw.same _ rfl) (And.intro (Vw.same _ rfl) (And.intro (Vw.same _ rfl) trivial))))) (And.intro (And.intro rfl (BVw.entU rfl (by first | rfl | omega | (simp; done) | (simp only [List.length_map, List.length_replicate, Int.toNat_natCast] at *; omega)))) (And.intro (And.intro rfl (BVw.enc z6 (fun _ => rfl) _ v14)) trivial)))))
  refine LWp.sim ?_ (Vr h)
  exact z2f (M := [((3, 0), (3, 0)), ((4, 0), (4, 0)), ((5, 0), (5, 0)), ((6, 0), (6, 0)), ((7, 0), (7, 0))]) (lit' := [((3, 0), .one [.map (6, 0), .msl (7, 0) 3 0 v14.length false]), ((4, 0), .one [.int .i64 v26, .int .i64 v27, .int .i64 v28]), ((5, 0), .one [.int .i64 v29, .int .i64 v30, .int .i64 v31]), ((6, 0), .amap (Zn z8 8 3 (mp ze v13 (G_QKey.mk v26 v27 v28) v33))), ((7, 0), .rows 3 (v14.map z6))]) (T := (Y0 8 3 z6 (mp ze v13 (G_QKey.mk v26 v27 v28) v33) none)) (q := 8) (q' := 8) wc rfl IsFamM.base (And.intro (Vw.same _ rfl) (And.intro (Vw.ptr _ _ _ _ rfl) (And.intro (Vw.ptr _ _ _ _ rfl) (And.intro (Vw.ptr _ _ _ _ rfl) (And.intro (Vw.same _ rfl) (And.intro (Vw.same _ rfl) (And.intro (Vw.same _ rfl) trivial))))))) (And.intro (And.intro rfl (BVw.oneL (And.intro (Vw.map _ _ rfl) (And.intro (Vw.mslE rfl (by first | rfl | omega | (simp; done) | (simp only [List.length_map, List.length_replicate, Int.toNat_natCast] at *; omega)) rfl) trivial)))) (And.intro (And.intro rfl (BVw.oneL (And.intro (Vw.same _ rfl) (And.intro (Vw.same _ rfl) (And.intro (Vw.same _ rfl) trivial))))) (And.intro (And.intro rfl (BVw.oneL (And.intro (Vw.same _ rfl) (And.intro (Vw.same _ rfl) (And.intro (Vw.same _ rfl) trivial))))) (And.intro (And.intro rfl BVw.entJ) (And.intro (And.intro rfl (BVw.enc z6 (fun _ => rfl) _ v14)) trivial)))))
noncomputable def wi (m : Option Nat) (v13 : List (G_QKey × (List G_QKey))) (v14 : List G_QKey) : Option ((List G_QKey) × (List (G_QKey × (List G_QKey)))) :=
 some (v14, v13)
noncomputable def qy (m : Option Nat) (a0 : List G_QEdge) (a1 : Bool) (v12 : Int) (v13 : List (G_QKey × (List G_QKey))) (v14 : List G_QKey) : Option ((Int × (List (G_QKey × (List G_QKey))) × (List G_QKey)) ⊕ ((List G_QKey) × (List (G_QKey × (List G_QKey))))) :=
 if (decide (v12 < (((a0.take (if 400 < ((a0.map z7).length : Int) then 400 else ((a0.map z7).length : Int)).toNat).map z7).length : Int))) = true then
  if (0 : Int) ≤ v12 ∧ v12 < (((a0.take (if 400 < ((a0.map z7).length : Int) then 400 else ((a0.map z7).length : Int)).toNat).map z7).length : Int) then
  if a1 = true then
   xu m a0 a1 v12 v13 v14 ((((a0.take (if 400 < ((a0.map z7).length : Int) then 400 else ((a0.map z7).length : Int)).toNat).getD v12.toNat default).f_To).f_Kind) ((((a0.take (if 400 < ((a0.map z7).length : Int) then 400 else ((a0.map z7).length : Int)).toNat).getD v12.toNat default).f_To).f_A) ((((a0.take (if 400 < ((a0.map z7).length : Int) then 400 else ((a0.map z7).length : Int)).toNat).getD v12.toNat default).f_To).f_B) ((((a0.take (if 400 < ((a0.map z7).length : Int) then 400 else ((a0.map z7).length : Int)).toNat).getD v12.toNat default).f_From).f_Kind) ((((a0.take (if 400 < ((a0.map z7).length : Int) then 400 else ((a0.map z7).length : Int)).toNat).getD v12.toNat default).f_From).f_A) ((((a0.take (if 400 < ((a0.map z7).length : Int) then 400 else ((a0.map z7).length : Int)).toNat).getD v12.toNat default).f_From).f_B)
  else
   xu m a0 a1 v12 v13 v14 ((((a0.take (if 400 < ((a0.map z7).length : Int) then 400 else ((a0.map z7).length : Int)).toNat).getD v12.toNat default).f_From).f_Kind) ((((a0.take (if 400 < ((a0.map z7).length : Int) then 400 else ((a0.map z7).length : Int)).toNat).getD v12.toNat default).f_From).f_A) ((((a0.take (if 400 < ((a0.map z7).length : Int) then 400 else ((a0.map z7).length : Int)).toNat).getD v12.toNat default).f_From).f_B) ((((a0.take (if 400 < ((a0.map z7).length : Int) then 400 else ((a0.map z7).length : Int)).toNat).getD v12.toNat default).f_To).f_Kind) ((((a0.take (if 400 < ((a0.map z7).length : Int) then 400 else ((a0.map z7).length : Int)).toNat).getD v12.toNat default).f_To).f_A) ((((a0.take (if 400 < ((a0.map z7).length : Int) then 400 else ((a0.map z7).length : Int)).toNat).getD v12.toNat default).f_To).f_B)
  else none
 else
  Option.map Sum.inr (
   wi m v13 v14)
noncomputable def jo (m : Option Nat) (a0 : List G_QEdge) (a1 : Bool) (v12 : Int) (v13 : List (G_QKey × (List G_QKey))) (v14 : List G_QKey) : Option ((List G_QKey) × (List (G_QKey × (List G_QKey)))) := u5 m (fun (s : (Int × (List (G_QKey × (List G_QKey))) × (List G_QKey))) => qy m a0 a1 s.1 s.2.1 s.2.2) (v12, v13, v14)
theorem z6e {a0 : List G_QEdge} {a1 : Bool} {v13 : List (G_QKey × (List G_QKey))} {v14 : List G_QKey} {m : Option Nat} {o : ((List G_QKey) × (List (G_QKey × (List G_QKey))))} (h : wi m v13 v14 = some o) :
 LWp Try.prog vq 3 Vg (z1x a0 a1 o) [(5, .ptr (3, 0) 0 0)] ([((3, 0), .one [.map (4, 0), .msl (5, 0) 3 0 v14.length false]), ((4, 0), .amap (Zn z8 6 3 v13)), ((5, 0), .rows 3 (v14.map z6))] ++ (Y0 6 3 z6 v13 none)) 7 := by
 unfold wi at h
 refine zl ?_
 refine y8 ?_
 refine Ze ?_
 cases h
 exact And.intro trivial (zri (n' := 7) (q := 6) (lit' := [((3, 0), .one [.map (4, 0), .msl (5, 0) 3 0 v14.length false]), ((4, 0), .amap (Zn z8 6 3 v13)), ((5, 0), .rows 3 (v14.map z6))]) (T := (Y0 6 3 z6 v13 none)) [((3, 0), (3, 0)), ((4, 0), (4, 0))] [(5, 0)] rfl rfl rfl rfl IsFamM.base (Vw.ptr _ _ _ _ rfl) (And.intro (And.intro rfl (BVw.oneL (And.intro (Vw.map _ _ rfl) (And.intro (Vw.frzB z6 Ud (fun h => h) rfl rfl (by first | rfl | omega | (simp; done) | (simp only [List.length_map, List.length_replicate, Int.toNat_natCast] at *; omega))) trivial)))) (And.intro (And.intro rfl (BVw.entZ Ud (fun _ => rfl) (fun _ _ h => IsFamM.app rfl IsFamM.base h nofun))) trivial)))
theorem z30 {a0 : List G_QEdge} {a1 : Bool} {v12 : Int} {v13 : List (G_QKey × (List G_QKey))} {v14 : List G_QKey} {m : Option Nat} {o : (Int × (List (G_QKey × (List G_QKey))) × (List G_QKey)) ⊕ ((List G_QKey) × (List (G_QKey × (List G_QKey))))} (h : qy m a0 a1 v12 v13 v14 = some o) :
 LWp Try.prog vq 3 z2m (wj 3 7 (Zv a0 a1) (Yt a0 a1) (Qv a0 a1) o) [(1, .bool a1), (5, .ptr (3, 0) 0 0), (17, .isl 6 ((a0.take (if 400 < ((a0.map z7).length : Int) then 400 else ((a0.map z7).length : Int)).toNat).map z7) false), (18, .int .i64 (((a0.take (if 400 < ((a0.map z7).length : Int) then 400 else ((a0.map z7).length : Int)).toNat).map z7).length : Int)), (19, .int .i64 v12)] ([((3, 0), .one [.map (4, 0), .msl (5, 0) 3 0 v14.length false]), ((4, 0), .amap (Zn z8 6 3 v13)), ((5, 0), .rows 3 (v14.map z6))] ++ (Y0 6 3 z6 v13 none)) 7 := by
 unfold qy at h
 refine zl ?_
 refine y8 ?_
 refine zl ?_
 refine w5 (v := (decide (v12 < (((a0.take (if 400 < ((a0.map z7).length : Int) then 400 else ((a0.map z7).length : Int)).toNat).map z7).length : Int)))) rfl trivial (fun h18 => ?_) (fun h18 => ?_)
 ·have h := q7 h18 h
  refine w7 ?_
  refine zl ?_
  refine j8 ?_
  refine zl ?_
  refine y8 ?_
  obtain ⟨h19, h⟩ := y4 h
  refine And.intro h19 ?_
  refine Exists.intro (z7 ((a0.take (if 400 < ((a0.map z7).length : Int) then 400 else ((a0.map z7).length : Int)).toNat).getD v12.toNat default)) (And.intro (jm z7 _ _ (wx z7 h19)) (And.intro (And.intro (kw h19) (Nat.le_of_ble_eq_true rfl)) ?_))
  refine zl ?_
  refine Uw ?_
  refine And.intro rfl ?_
  refine And.intro rfl ?_
  refine And.intro rfl ?_
  refine And.intro rfl ?_
  refine And.intro rfl ?_
  refine LWp.sim (e := [(1, .bool a1), (5, .ptr (3, 0) 0 0), (8, .ptr (4, 0) 0 0), (9, .ptr (5, 0) 0 0), (17, .isl 6 ((a0.take (if 400 < ((a0.map z7).length : Int) then 400 else ((a0.map z7).length : Int)).toNat).map z7) false), (18, .int .i64 (((a0.take (if 400 < ((a0.map z7).length : Int) then 400 else ((a0.map z7).length : Int)).toNat).map z7).length : Int)), (19, .int .i64 v12)]) (L := ([((3, 0), .one [.map (6, 0), .msl (7, 0) 3 0 v14.length false]), ((4, 0), .one [.int .i64 ((((a0.take (if 400 < ((a0.map z7).length : Int) then 400 else ((a0.map z7).length : Int)).toNat).getD v12.toNat default).f_From).f_Kind), .int .i64 ((((a0.take (if 400 < ((a0.map z7).length : Int) then 400 else ((a0.map z7).length : Int)).toNat).getD v12.toNat default).f_From).f_A), .int .i64 ((((a0.take (if 400 < ((a0.map z7).length : Int) then 400 else ((a0.map z7).length : Int)).toNat).getD v12.toNat default).f_From).f_B)]), ((5, 0), .one [.int .i64 ((((a0.take (if 400 < ((a0.map z7).length : Int) then 400 else ((a0.map z7).length : Int)).toNat).getD v12.toNat default).f_To).f_Kind), .int .i64 ((((a0.take (if 400 < ((a0.map z7).length : Int) then 400 else ((a0.map z7).length : Int)).toNat).getD v12.toNat default).f_To).f_A), .int .i64 ((((a0.take (if 400 < ((a0.map z7).length : Int) then 400 else ((a0.map z7).length : Int)).toNat).getD v12.toNat default).f_To).f_B)]), ((6, 0), .amap (Zn z8 8 3 v13)), ((7, 0), .rows 3 (v14.map z6))] ++ (Y0 8 3 z6 v13 none))) (n := 9) ?_ ?_
  ·exact z2f (M := [((3, 0), (3, 0)), ((4, 0), (8, 0)), ((5, 0), (9, 0)), ((6, 0), (4, 0)), ((7, 0), (5, 0))]) (lit' := [((9, 0), .one [.int .i64 ((((a0.take (if 400 < ((a0.map z7).length : Int) then 400 else ((a0.map z7).length : Int)).toNat).getD v12.toNat default).f_To).f_Kind), .int .i64 ((((a0.take (if 400 < ((a0.map z7).length : Int) then 400 else ((a0.map z7).length : Int)).toNat).getD v12.toNat default).f_To).f_A), .int .i64 ((((a0.take (if 400 < ((a0.map z7).length : Int) then 400 else ((a0.map z7).length : Int)).toNat).getD v12.toNat default).f_To).f_B)]), ((8, 0), .one [.int .i64 ((((a0.take (if 400 < ((a0.map z7).length : Int) then 400 else ((a0.map z7).length : Int)).toNat).getD v12.toNat default).f_From).f_Kind), .int .i64 ((((a0.take (if 400 < ((a0.map z7).length : Int) then 400 else ((a0.map z7).length : Int)).toNat).getD v12.toNat default).f_From).f_A), .int .i64 ((((a0.take (if 400 < ((a0.map z7).length : Int) then 400 else ((a0.map z7).length : Int)).toNat).getD v12.toNat default).f_From).f_B)]), ((7, 0), .one [.int .i64 ((((a0.take (if 400 < ((a0.map z7).length : Int) then 400 else ((a0.map z7).length : Int)).toNat).getD v12.toNat default).f_From).f_Kind), .int .i64 ((((a0.take (if 400 < ((a0.map z7).length : Int) then 400 else ((a0.map z7).length : Int)).toNat).getD v12.toNat default).f_From).f_A), .int .i64 ((((a0.take (if 400 < ((a0.map z7).length : Int) then 400 else ((a0.map z7).length : Int)).toNat).getD v12.toNat default).f_From).f_B), .int .i64 ((((a0.take (if 400 < ((a0.map z7).length : Int) then 400 else ((a0.map z7).length : Int)).toNat).getD v12.toNat default).f_To).f_Kind), .int .i64 ((((a0.take (if 400 < ((a0.map z7).length : Int) then 400 else ((a0.map z7).length : Int)).toNat).getD v12.toNat default).f_To).f_A), .int .i64 ((((a0.take (if 400 < ((a0.map z7).length : Int) then 400 else ((a0.map z7).length : Int)).toNat).getD v12.toNat default).f_To).f_B)]), ((3, 0), .one [.map (4, 0), .msl (5, 0) 3 0 v14.length false]), ((4, 0), .amap (Zn z8 6 3 v13)), ((5, 0), .rows 3 (v14.map z6))]) (T := (Y0 6 3 z6 v13 none)) (q := 6) (q' := 8) wc rfl IsFamM.base (And.intro (Vw.same _ rfl) (And.intro (Vw.ptr _ _ _ _ rfl) (And.intro (Vw.ptr _ _ _ _ rfl) (And.intro (Vw.ptr _ _ _ _ rfl) (And.intro (Vw.same _ rfl) (And.intro (Vw.same _ rfl) (And.intro (Vw.same _ rfl) trivial))))))) (And.intro (And.intro rfl (BVw.oneL (And.intro (Vw.map _ _ rfl) (And.intro (Vw.mslE rfl (by first | rfl | omega | (simp; done) | (simp only [List.length_map, List.length_replicate, Int.toNat_natCast] at *; omega)) rfl) trivial)))) (And.intro (And.intro rfl (BVw.oneL (And.intro (Vw.same _ rfl) (And.intro (Vw.same _ rfl) (And.intro (Vw.same _ rfl) trivial))))) (And.intro (And.intro rfl (BVw.oneL (And.intro (Vw.same _ rfl) (And.intro (Vw.same _ rfl) (And.intro (Vw.same _ rfl) trivial))))) (And.intro (And.intro rfl BVw.entJ) (And.intro (And.intro rfl (BVw.enc z6 (fun _ => rfl) _ v14)) trivial)))))
  refine zl ?_
  refine zl ?_
  refine y8 ?_
  refine w5 (v := a1) rfl trivial (fun h20 => ?_) (fun h20 => ?_)
  ·have h := q7 h20 h
   refine y8 ?_
   refine LWp.sim ?_ (U0 h)
   exact z2f (M := [((3, 0), (3, 0)), ((4, 0), (4, 0)), ((5, 0), (5, 0)), ((6, 0), (6, 0)), ((7, 0), (7, 0))]) (lit' := [((3, 0), .one [.map (6, 0), .msl (7, 0) 3 0 v14.length false]), ((4, 0), .one [.int .i64 ((((a0.take (if 400 < ((a0.map z7).length : Int) then 400 else ((a0.map z7).length : Int)).toNat).getD v12.toNat default).f_To).f_Kind), .int .i64 ((((a0.take (if 400 < ((a0.map z7).length : Int) then 400 else ((a0.map z7).length : Int)).toNat).getD v12.toNat default).f_To).f_A), .int .i64 ((((a0.take (if 400 < ((a0.map z7).length : Int) then 400 else ((a0.map z7).length : Int)).toNat).getD v12.toNat default).f_To).f_B)]), ((5, 0), .one [.int .i64 ((((a0.take (if 400 < ((a0.map z7).length : Int) then 400 else ((a0.map z7).length : Int)).toNat).getD v12.toNat default).f_From).f_Kind), .int .i64 ((((a0.take (if 400 < ((a0.map z7).length : Int) then 400 else ((a0.map z7).length : Int)).toNat).getD v12.toNat default).f_From).f_A), .int .i64 ((((a0.take (if 400 < ((a0.map z7).length : Int) then 400 else ((a0.map z7).length : Int)).toNat).getD v12.toNat default).f_From).f_B)]), ((6, 0), .amap (Zn z8 8 3 v13)), ((7, 0), .rows 3 (v14.map z6))]) (T := (Y0 8 3 z6 v13 none)) (q := 8) (q' := 8) wc rfl IsFamM.base (And.intro (Vw.same _ rfl) (And.intro (Vw.ptr _ _ _ _ rfl) (And.intro (Vw.ptr _ _ _ _ rfl) (And.intro (Vw.ptr _ _ _ _ rfl) (And.intro (Vw.same _ rfl) (And.intro (Vw.same _ rfl) (And.intro (Vw.same _ rfl) trivial))))))) (And.intro (And.intro rfl (BVw.oneL (And.intro (Vw.map _ _ rfl) (And.intro (Vw.mslE rfl (by first | rfl | omega | (simp; done) | (simp only [List.length_map, List.length_replicate, Int.toNat_natCast] at *; omega)) rfl) trivial)))) (And.intro (And.intro rfl (BVw.oneL (And.intro (Vw.same _ rfl) (And.intro (Vw.same _ rfl) (And.intro (Vw.same _ rfl) trivial))))) (And.intro (And.intro rfl (BVw.oneL (And.intro (Vw.same _ rfl) (And.intro (Vw.same _ rfl) (And.intro (Vw.same _ rfl) trivial))))) (And.intro (And.intro rfl BVw.entJ) (And.intro (And.intro rfl (BVw.enc z6 (fun _ => rfl) _ v14)) trivial)))))
  ·have h := qq h20 h
   refine w7 ?_
   refine LWp.sim ?_ (U0 h)
   exact z2f (M := [((3, 0), (3, 0)), ((4, 0), (4, 0)), ((5, 0), (5, 0)), ((6, 0), (6, 0)), ((7, 0), (7, 0))]) (lit' := [((3, 0), .one [.map (6, 0), .msl (7, 0) 3 0 v14.length false]), ((4, 0), .one [.int .i64 ((((a0.take (if 400 < ((a0.map z7).length : Int) then 400 else ((a0.map z7).length : Int)).toNat).getD v12.toNat default).f_From).f_Kind), .int .i64 ((((a0.take (if 400 < ((a0.map z7).length : Int) then 400 else ((a0.map z7).length : Int)).toNat).getD v12.toNat default).f_From).f_A), .int .i64 ((((a0.take (if 400 < ((a0.map z7).length : Int) then 400 else ((a0.map z7).length : Int)).toNat).getD v12.toNat default).f_From).f_B)]), ((5, 0), .one [.int .i64 ((((a0.take (if 400 < ((a0.map z7).length : Int) then 400 else ((a0.map z7).length : Int)).toNat).getD v12.toNat default).f_To).f_Kind), .int .i64 ((((a0.take (if 400 < ((a0.map z7).length : Int) then 400 else ((a0.map z7).length : Int)).toNat).getD v12.toNat default).f_To).f_A), .int .i64 ((((a0.take (if 400 < ((a0.map z7).length : Int) then 400 else ((a0.map z7).length : Int)).toNat).getD v12.toNat default).f_To).f_B)]), ((6, 0), .amap (Zn z8 8 3 v13)), ((7, 0), .rows 3 (v14.map z6))]) (T := (Y0 8 3 z6 v13 none)) (q := 8) (q' := 8) wc rfl IsFamM.base (And.intro (Vw.same _ rfl) (And.intro (Vw.ptr _ _ _ _ rfl) (And.intro (Vw.ptr _ _ _ _ rfl) (And.intro (Vw.ptr _ _ _ _ rfl) (And.intro (Vw.same _ rfl) (And.intro (Vw.same _ rfl) (And.intro (Vw.same _ rfl) trivial))))))) (And.intro (And.intro rfl (BVw.oneL (And.intro (Vw.map _ _ rfl) (And.intro (Vw.mslE rfl (by first | rfl | omega | (simp; done) | (simp only [List.length_map, List.length_replicate, Int.toNat_natCast] at *; omega)) rfl) trivial)))) (And.intro (And.intro rfl (BVw.oneL (And.intro (Vw.same _ rfl) (And.intro (Vw.same _ rfl) (And.intro (Vw.same _ rfl) trivial))))) (And.intro (And.intro rfl (BVw.oneL (And.intro (Vw.same _ rfl) (And.intro (Vw.same _ rfl) (And.intro (Vw.same _ rfl) trivial))))) (And.intro (And.intro rfl BVw.entJ) (And.intro (And.intro rfl (BVw.enc z6 (fun _ => rfl) _ v14)) trivial)))))
 ·have h := qq h18 h
  refine Zp ?_
  obtain ⟨o, hq, rfl⟩ := Option.map_eq_some_iff.1 h
  replace h := hq; clear hq
  refine And.intro nofun ?_
  refine LWp.sim ?_ (z6e h)
  exact z2f (M := [((3, 0), (3, 0)), ((4, 0), (4, 0)), ((5, 0), (5, 0))]) (lit' := [((3, 0), .one [.map (4, 0), .msl (5, 0) 3 0 v14.length false]), ((4, 0), .amap (Zn z8 6 3 v13)), ((5, 0), .rows 3 (v14.map z6))]) (T := (Y0 6 3 z6 v13 none)) (q := 6) (q' := 6) wc rfl IsFamM.base (And.intro (Vw.ptr _ _ _ _ rfl) trivial) (And.intro (And.intro rfl (BVw.oneL (And.intro (Vw.map _ _ rfl) (And.intro (Vw.mslE rfl (by first | rfl | omega | (simp; done) | (simp only [List.length_map, List.length_replicate, Int.toNat_natCast] at *; omega)) rfl) trivial)))) (And.intro (And.intro rfl BVw.entJ) (And.intro (And.intro rfl (BVw.enc z6 (fun _ => rfl) _ v14)) trivial)))
theorem z6g {a0 : List G_QEdge} {a1 : Bool} {v12 : Int} {v13 : List (G_QKey × (List G_QKey))} {v14 : List G_QKey} {m : Option Nat} {o : ((List G_QKey) × (List (G_QKey × (List G_QKey))))} (h : jo m a0 a1 v12 v13 v14 = some o) :
 LWp Try.prog vq 3 (.loop z2m) (yv 0 (uv Try.prog vq 3 Vg (z1x a0 a1 o))) [(1, .bool a1), (5, .ptr (3, 0) 0 0), (17, .isl 6 ((a0.take (if 400 < ((a0.map z7).length : Int) then 400 else ((a0.map z7).length : Int)).toNat).map z7) false), (18, .int .i64 (((a0.take (if 400 < ((a0.map z7).length : Int) then 400 else ((a0.map z7).length : Int)).toNat).map z7).length : Int)), (19, .int .i64 v12)] ([((3, 0), .one [.map (4, 0), .msl (5, 0) 3 0 v14.length false]), ((4, 0), .amap (Zn z8 6 3 v13)), ((5, 0), .rows 3 (v14.map z6))] ++ (Y0 6 3 z6 v13 none)) 7 :=
 j0 (m := m) (s := ((v12, v13, v14) : (Int × (List (G_QKey × (List G_QKey))) × (List G_QKey)))) (r := o) (fun (s : (Int × (List (G_QKey × (List G_QKey))) × (List G_QKey))) => qy m a0 a1 s.1 s.2.1 s.2.2) (Zv a0 a1) (Yt a0 a1) (Qv a0 a1) (fun s o h => z30 h) h
noncomputable def xi (m : Option Nat) (a0 : List G_QEdge) (a1 : Bool) : Option ((List G_QKey) × (List (G_QKey × (List G_QKey)))) :=
 if (0 : Int) ≤ (if 400 < ((a0.map z7).length : Int) then 400 else ((a0.map z7).length : Int)) ∧ (if 400 < ((a0.map z7).length : Int) then 400 else ((a0.map z7).length : Int)) ≤ ((a0.map z7).length : Int) then
 jo m a0 a1 0 ([] : List (G_QKey × (List G_QKey))) ([] : List G_QKey)
 else none
theorem z5x {a0 : List G_QEdge} {a1 : Bool} {m : Option Nat} {o : (List G_QKey) × (List (G_QKey × (List G_QKey)))} (h : xi m a0 a1 = some o) : LWp Try.prog vq 3 z8j (z1x a0 a1 o) (qx 0 [.isl 6 (a0.map z7) false, .bool a1]) [] 3 := by
 unfold xi at h
 refine zl ?_
 refine y8 ?_
 refine zl ?_
 refine y8 ?_
 refine LWp.ghost 3 ?_
 refine LWp.sim (e := [(0, .isl 6 (a0.map z7) false), (1, .bool a1), (5, .ptr (3, 0) 0 0)]) (L := [((3, 0), .one [.map (4, 0), .msl (5, 0) 3 0 (([] : List G_QKey).length) false]), ((4, 0), .amap []), ((5, 0), .rows 3 (([] : List G_QKey).map z6))]) (n := 6) ?_ ?_
 ·exact jh (M := [((3, 0), (4, 0)), ((4, 0), (3, 0)), ((5, 0), (5, 0))]) rfl (And.intro (Vw.same _ rfl) (And.intro (Vw.same _ rfl) (And.intro (Vw.ptr _ _ _ _ rfl) trivial))) (And.intro (And.intro rfl (BVw.oneL (And.intro (Vw.map _ _ rfl) (And.intro (Vw.islM _ _ _ _ _ _ rfl rfl) trivial)))) (And.intro (And.intro rfl (BVw.amap [] (fun _ h => by cases h))) (And.intro (And.intro rfl (BVw.enc z6 (fun _ => rfl) _ ([] : List G_QKey))) trivial)))
 refine LWp.sim (e := [(0, .isl 6 (a0.map z7) false), (1, .bool a1), (5, .ptr (3, 0) 0 0)]) (L := ([((3, 0), .one [.map (4, 0), .msl (5, 0) 3 0 (([] : List G_QKey).length) false]), ((4, 0), .amap (Zn z8 6 3 ([] : List (G_QKey × (List G_QKey))))), ((5, 0), .rows 3 (([] : List G_QKey).map z6))] ++ (Y0 6 3 z6 ([] : List (G_QKey × (List G_QKey))) none))) (n := 7) ?_ ?_
 ·exact zkn (M := [((3, 0), (3, 0)), ((4, 0), (4, 0)), ((5, 0), (5, 0))]) (lit' := [((3, 0), .one [.map (4, 0), .msl (5, 0) 3 0 (([] : List G_QKey).length) false]), ((4, 0), .amap []), ((5, 0), .rows 3 (([] : List G_QKey).map z6))]) (T := []) (q := 106) (q' := 6) wc rfl (And.intro (Vw.same _ rfl) (And.intro (Vw.same _ rfl) (And.intro (Vw.ptr _ _ _ _ rfl) trivial))) (And.intro (And.intro rfl (BVw.oneL (And.intro (Vw.map _ _ rfl) (And.intro (Vw.mslE rfl (by first | rfl | omega | (simp; done) | (simp only [List.length_map, List.length_replicate, Int.toNat_natCast] at *; omega)) rfl) trivial)))) (And.intro (And.intro rfl BVw.entNew) (And.intro (And.intro rfl (BVw.enc z6 (fun _ => rfl) _ ([] : List G_QKey))) trivial)))
 refine zl ?_
 refine zl ?_
 refine y8 ?_
 obtain ⟨h1, h⟩ := y4 h
 refine Exists.intro (.isl 6 ((a0.take (if 400 < ((a0.map z7).length : Int) then 400 else ((a0.map z7).length : Int)).toNat).map z7) false) (And.intro (zm7 z7 (slB z7 a0 _) rfl) (And.intro (And.intro rfl (And.intro (Int.le_refl _) h1)) ?_))
 refine j8 ?_
 refine LWp.sim ?_ (z6g h)
 exact z2f (M := [((3, 0), (3, 0)), ((4, 0), (4, 0)), ((5, 0), (5, 0))]) (lit' := [((3, 0), .one [.map (4, 0), .msl (5, 0) 3 0 (([] : List G_QKey).length) false]), ((4, 0), .amap (Zn z8 6 3 ([] : List (G_QKey × (List G_QKey))))), ((5, 0), .rows 3 (([] : List G_QKey).map z6))]) (T := (Y0 6 3 z6 ([] : List (G_QKey × (List G_QKey))) none)) (q := 6) (q' := 6) wc rfl IsFamM.base (And.intro (Vw.same _ rfl) (And.intro (Vw.ptr _ _ _ _ rfl) (And.intro (Vw.same _ rfl) (And.intro (Vw.same _ rfl) (And.intro (Vw.same _ rfl) trivial))))) (And.intro (And.intro rfl (BVw.oneL (And.intro (Vw.map _ _ rfl) (And.intro (Vw.mslE rfl (by first | rfl | omega | (simp; done) | (simp only [List.length_map, List.length_replicate, Int.toNat_natCast] at *; omega)) rfl) trivial)))) (And.intro (And.intro rfl BVw.entJ) (And.intro (And.intro rfl (BVw.enc z6 (fun _ => rfl) _ ([] : List G_QKey))) trivial)))
theorem z1m {a0 : List G_QEdge} {a1 : Bool} {m : Option Nat} {o : (List G_QKey) × (List (G_QKey × (List G_QKey)))} (h : xi m a0 a1 = some o) : ACalls Try.prog 21 [.isl 6 (a0.map z7) false, .bool a1] [] 3 (vr 7 (.ptr (3, 0) 0 0) [((3, 0), .one [.map (4, 0), .isl 3 (o.1.map z6) false]), ((4, 0), .amap (o.2.map (em z8 zb)))]) := Xf (L := zej) zep zbd (Nat.le_of_ble_eq_true rfl) (z5x h)
def ws (m : Option Nat) (a0 : List G_QKey) : Option (List G_QKey) := zpk 24 a0
theorem zd7 : Y8 Try.prog 37 := ⟨_, Try.func37, rfl, rfl⟩
theorem zi0 {m : Option Nat} {a0 : List G_QKey} {o : List G_QKey} (h : ws m a0 = some o) : ACalls Try.prog 37 [.isl 3 (a0.map z6) false] [] 3 (vr 4 (.msl (3, 0) 3 0 o.length false) [((3, 0), .rows 3 (o.map z6))]) :=
 z5n (c := 24) (zs := [(.int .i64 0), (.int .i64 0), (.int .i64 0)]) z6 zd7 Try.func37 ⟨_, _, _, _, _, _, _, _, _, _, _, _, _, _, _, _, _, _, _, _, _, _, _, _, _, _, _, _, rfl, rfl, rfl⟩ (by kernel_rfl) (by kernel_rfl) (by kernel_rfl) (by kernel_rfl) (by decide) (by decide) rfl h _
def zka : LCode := (.seq (.region [⟨some 2, .box (.t 0), none⟩,
 ⟨some 3, .box (.t 1), none⟩,
 ⟨some 4, .mv (.c (.int .i64 0)), none⟩])
 (.seq (.draw [⟨⟨some 5, .faddr 0 (.t 2), none⟩, []⟩,
  ⟨⟨some 6, .load false 1 (.t 5), none⟩, []⟩,
  ⟨⟨some 7, .faddr 0 (.t 3), none⟩, []⟩,
  ⟨⟨some 8, .load false 1 (.t 7), none⟩, []⟩,
  ⟨⟨some 10, .faddr 1 (.t 2), none⟩, []⟩,
  ⟨⟨some 11, .load false 1 (.t 10), none⟩, []⟩,
  ⟨⟨some 12, .faddr 1 (.t 3), none⟩, []⟩,
  ⟨⟨some 13, .load false 1 (.t 12), none⟩, []⟩,
  ⟨⟨some 15, .faddr 2 (.t 2), none⟩, []⟩,
  ⟨⟨some 16, .load false 1 (.t 15), none⟩, []⟩,
  ⟨⟨some 17, .faddr 2 (.t 3), none⟩, []⟩,
  ⟨⟨some 18, .load false 1 (.t 17), none⟩, []⟩,
  ⟨⟨some 9, .call 51 [(.t 6), (.t 8)], none⟩, [5, 7, 9, 11]⟩,
  ⟨⟨some 14, .call 51 [(.t 11), (.t 13)], none⟩, [9, 11]⟩,
  ⟨⟨some 19, .call 51 [(.t 16), (.t 18)], none⟩, []⟩,
  ⟨⟨some 20, .mkSl true 1 [(.int .i64 0)] 3 [(0, (.t 9)), (1, (.t 14)), (2, (.t 19))], none⟩, []⟩,
  ⟨⟨some 21, .call 50 [(.t 20)], none⟩, []⟩,
  ⟨⟨some 4, .mv (.t 21), none⟩, []⟩])
 .ret))
def ze3 : Lay := ⟨22, [], false⟩
def zdl : List LRes := [.t 4]
def zoc : LFn := ⟨2, ze3, zka, zdl⟩
theorem zmx : k9 Try.prog [] 39 = some zoc := by kernel_rfl
theorem zl3 : Y8 Try.prog 39 := ⟨_, Try.func39, rfl, rfl⟩
noncomputable def qe (m : Option Nat) (a0 : G_QKey) (a1 : G_QKey) : Option Int :=
 (ym m a0.f_Kind a1.f_Kind).bind fun v1 =>
 (ym m a0.f_A a1.f_A).bind fun v2 =>
 (ym m a0.f_B a1.f_B).bind fun v3 =>
 (jt m ([v1, v2, v3] : List Int)).bind fun v4 =>
 some v4
def zq0 (a0 : G_QKey) (a1 : G_QKey) (o : Int) : Exit → Env → AHeap → Nat → Prop := Xg zdl (wu (.int .i64 o))
theorem zcg {a0 : G_QKey} {a1 : G_QKey} {m : Option Nat} {o : Int} (h : qe m a0 a1 = some o) : LWp Try.prog ze3 0 zka (zq0 a0 a1 o) (qx 0 [.agg [.int .i64 a0.f_Kind, .int .i64 a0.f_A, .int .i64 a0.f_B], .agg [.int .i64 a1.f_Kind, .int .i64 a1.f_A, .int .i64 a1.f_B]]) [] 0 := by
 unfold qe at h
 refine zl ?_
 refine y8 ?_
 refine zl ?_
 refine Uw ?_
 obtain ⟨v1, h1, h⟩ := bind_some h
 refine PFn.call (z12 h1) (And.intro (Vw.same _ rfl) (And.intro (Vw.same _ rfl) trivial)) ?_
 refine And.intro rfl ?_
 refine And.intro rfl ?_
 refine And.intro rfl ?_
 refine And.intro rfl ?_
 obtain ⟨v2, h2, h⟩ := bind_some h
 refine PFn.call (z12 h2) (And.intro (Vw.same _ rfl) (And.intro (Vw.same _ rfl) trivial)) ?_
 refine And.intro rfl ?_
 refine And.intro rfl ?_
 obtain ⟨v3, h3, h⟩ := bind_some h
 refine PFn.call (z12 h3) (And.intro (Vw.same _ rfl) (And.intro (Vw.same _ rfl) trivial)) ?_
 show yd _ _ _ _ _ [(19, .int .i64 v3), (14, .int .i64 v2), (9, .int .i64 v1), (18, .int .i64 a1.f_B), (17, .ptr (1, 0) 0 2), (16, .int .i64 a0.f_B), (15, .ptr (0, 0) 0 2), (13, .int .i64 a1.f_A), (12, .ptr (1, 0) 0 1), (11, .int .i64 a0.f_A), (10, .ptr (0, 0) 0 1), (8, .int .i64 a1.f_Kind), (7, .ptr (1, 0) 0 0), (6, .int .i64 a0.f_Kind), (5, .ptr (0, 0) 0 0), (4, .int .i64 0), (3, .ptr (1, 0) 0 0), (2, .ptr (0, 0) 0 0), (0, .agg [.int .i64 a0.f_Kind, .int .i64 a0.f_A, .int .i64 a0.f_B]), (1, .agg [.int .i64 a1.f_Kind, .int .i64 a1.f_A, .int .i64 a1.f_B])] _ _
 obtain ⟨v4, h4, h⟩ := bind_some h
 refine PFn.call (zkd h4) (And.intro (Vw.islF _ _ _) trivial) ?_
 show yd _ _ _ _ _ [(21, .int .i64 v4), (20, .isl 1 (([v1, v2, v3] : List Int).map Y6) true), (19, .int .i64 v3), (14, .int .i64 v2), (9, .int .i64 v1), (18, .int .i64 a1.f_B), (17, .ptr (1, 0) 0 2), (16, .int .i64 a0.f_B), (15, .ptr (0, 0) 0 2), (13, .int .i64 a1.f_A), (12, .ptr (1, 0) 0 1), (11, .int .i64 a0.f_A), (10, .ptr (0, 0) 0 1), (8, .int .i64 a1.f_Kind), (7, .ptr (1, 0) 0 0), (6, .int .i64 a0.f_Kind), (5, .ptr (0, 0) 0 0), (4, .int .i64 0), (3, .ptr (1, 0) 0 0), (2, .ptr (0, 0) 0 0), (0, .agg [.int .i64 a0.f_Kind, .int .i64 a0.f_A, .int .i64 a0.f_B]), (1, .agg [.int .i64 a1.f_Kind, .int .i64 a1.f_A, .int .i64 a1.f_B])] _ _
 refine LWp.sim (e := [(4, .int .i64 v4)]) (L := []) (n := 0) ?_ ?_
 ·exact jh (M := []) rfl (And.intro (Vw.same _ rfl) trivial) trivial
 refine Ze ?_
 cases h
 exact And.intro trivial (And.intro rfl (Vw.same _ rfl))
theorem zor {a0 : G_QKey} {a1 : G_QKey} {m : Option Nat} {o : Int} (h : qe m a0 a1 = some o) : PFn Try.prog 39 [.agg [.int .i64 a0.f_Kind, .int .i64 a0.f_A, .int .i64 a0.f_B], .agg [.int .i64 a1.f_Kind, .int .i64 a1.f_A, .int .i64 a1.f_B]] (.int .i64 o) := PFn.ofFnW (L := zoc) zmx zl3 (Nat.le_of_ble_eq_true rfl) rfl (zcg h)
theorem zhf {x : Option Int} (h : x.isSome = true) : x = some (x.getD 0) := by
 cases x with
 | none => cases h
 | some v => rfl
theorem z2o (m : Option Nat) (a b : Int) : ∃ r, ym m a b = some r := by
 unfold ym we
 simp only [Option.bind_some]
 repeat' split
 all_goals exact ⟨_, rfl⟩
theorem z2r {b : Int → Option (Int ⊕ Int)} {k : Nat} {s s' : Int} (h : b s = some (.inl s')) : kh b (k + 1) s = kh b k s' := by simp only [kh, h]
theorem z1w {b : Int → Option (Int ⊕ Int)} {k : Nat} {s : Int} {x : Int} (h : b s = some (.inr x)) : kh b (k + 1) s = some x := by simp only [kh, h]
theorem zq9 (a b c : Int) : ∃ r, jt (some 4096) [a, b, c] = some r := by
 have hb : ∀ (i : Nat), i < 3 → zr (some 4096) [a, b, c] (i : Int) = if (([a, b, c].getD i default) != 0) = true then some (.inr ([a, b, c].getD i default)) else some (.inl ((i + 1 : Nat) : Int)) := by
  intro i hi
  unfold zr
  rw [if_pos (by simp; omega), if_pos (by simp; omega)]
  simp only [Int.toNat_natCast]
  split
  ·rfl
  ·have : i = 0 ∨ i = 1 ∨ i = 2 := by omega
   rcases this with rfl | rfl | rfl <;> rfl
 have h3 : zr (some 4096) [a, b, c] ((3 : Nat) : Int) = some (.inr 0) := by
  unfold zr vu
  rw [if_neg (by simp)]; rfl
 have h0 := hb 0 (by omega); have h1 := hb 1 (by omega); have h2 := hb 2 (by omega)
 unfold jt vp
 show ∃ r, kh _ (4095 + 1) ((0 : Nat) : Int) = some r
 split at h0
 ·exact ⟨_, z1w h0⟩
 ·rw [z2r h0]
  show ∃ r, kh _ (4094 + 1) _ = some r
  split at h1
  ·exact ⟨_, z1w h1⟩
  ·rw [z2r h1]
   show ∃ r, kh _ (4093 + 1) _ = some r
   split at h2
   ·exact ⟨_, z1w h2⟩
   ·rw [z2r h2]
    exact ⟨_, z1w (k := 4092) h3⟩
theorem zrj (x y : G_QKey) : (qe (some 4096) x y).isSome = true := by
 obtain ⟨a, h1⟩ := z2o (some 4096) x.f_Kind y.f_Kind
 obtain ⟨b, h2⟩ := z2o (some 4096) x.f_A y.f_A
 obtain ⟨c, h3⟩ := z2o (some 4096) x.f_B y.f_B
 obtain ⟨d, h4⟩ := zq9 a b c
 unfold qe
 rw [h1, Option.bind_some, h2, Option.bind_some, h3, Option.bind_some, h4]
 rfl
noncomputable def z5k (x y : G_QKey) : Int := (qe (some 4096) x y).getD 0
theorem zm3 (x y : G_QKey) : qe (some 4096) x y = some (z5k x y) := by
 have ht := zrj x y
 unfold z5k
 exact (zhf ht)
noncomputable def xm (m : Option Nat) (a0 : List G_QKey) : Option (List G_QKey) := by classical exact if Go.Sort.SWO (Go.Proofs.ltOf z5k) ∧ a0.length < 4611686018427387904 then some (Zo z5k a0) else none
theorem zba : Y8 Try.prog 38 := ⟨_, Try.func38, rfl, rfl⟩
theorem zib {m : Option Nat} {a0 : List G_QKey} {o : List G_QKey} (h : xm m a0 = some o) : ACalls Try.prog 38 [.msl (0, 0) 3 0 a0.length false, .fn (.func 39) [] []] [((0, 0), .rows 3 (a0.map z6))] 3 (vr 3 (.tup []) [((0, 0), .rows 3 (o.map z6))]) := by
 unfold xm at h
 split at h
 ·rename_i hc
  cases h
  exact Vv Try.l38 (by decide) Try.isAgg24 Try.sizeOf24 z6 (fun _ => ⟨rfl, rfl⟩) z5k hc.1 39 (Go.Proofs.enters_of Try.func39 (by kernel_rfl) rfl) (fun x y W => PFn.cmp (e := z6) (fun _ => rfl) (zor (zm3 x y)) W) zba rfl _ hc.2 _
 ·cases h
def z14 : LCode := (.seq (.seq (.region [⟨some 17, .mv (.t 7), none⟩,
 ⟨some 18, .len false (.t 17), none⟩,
 ⟨some 19, .bin .gtr (.t 18) (.c (.int .i64 0)), none⟩])
 (.cond (.t 19)
  .skip
  (.exit 0)))
 (.block 1
  (.seq (.region [⟨some 20, .mv (.t 7), none⟩,
   ⟨some 21, .mv (.t 7), none⟩,
   ⟨some 22, .len false (.t 21), none⟩,
   ⟨some 23, .bin .sub (.t 22) (.c (.int .i64 1)), none⟩,
   ⟨some 24, .iaddr 3 (.t 20) (.t 23), none⟩,
   ⟨some 25, .load true 3 (.t 24), none⟩,
   ⟨some 8, .alloc [(.int .i64 0), (.int .i64 0), (.int .i64 0)], none⟩,
   ⟨none, .store 3 (.t 8) (.t 25), none⟩])
  (.seq (.region [⟨some 26, .mv (.t 7), none⟩,
   ⟨some 27, .mv (.t 7), none⟩,
   ⟨some 28, .len false (.t 27), none⟩,
   ⟨some 29, .bin .sub (.t 28) (.c (.int .i64 1)), none⟩,
   ⟨some 30, .slSl 3 (.t 26) none (some (.t 29)) none, none⟩,
   ⟨some 7, .mv (.t 30), none⟩])
  (.seq (.seq (.region [⟨some 31, .mv (.t 6), none⟩,
   ⟨some 32, .load true 3 (.t 8), none⟩,
   ⟨some 33, .mlook [.int, .int, .int] true false false [(.int .i64 0)] (.t 31) (.t 32), none⟩,
   ⟨some 34, .bin .neq (.t 33) (.c (.int .i64 0)), none⟩])
  (.cond (.t 34)
   (.exit 1)
   .skip))
  (.seq (.region [⟨some 35, .mv (.t 6), none⟩,
   ⟨some 36, .load true 3 (.t 8), none⟩,
   ⟨none, .mset [.int, .int, .int] true false [(.int .i64 0)] (.t 35) (.t 36) (.c (.int .i64 1)), none⟩])
  (.seq (.region [⟨some 37, .mv (.t 5), none⟩,
   ⟨some 38, .load true 3 (.t 8), none⟩,
   ⟨some 39, .mkSl true 3 [(.int .i64 0), (.int .i64 0), (.int .i64 0)] 1 [(0, (.t 38))], none⟩,
   ⟨some 40, .app false 3 24 (.t 37) (.t 39), none⟩,
   ⟨some 5, .mv (.t 40), none⟩])
  (.draw [⟨⟨some 41, .mv (.t 7), none⟩, []⟩,
   ⟨⟨some 42, .mv (.t 0), none⟩, []⟩,
   ⟨⟨some 43, .nilck (.t 42), none⟩, []⟩,
   ⟨⟨some 44, .faddr 0 (.t 43), none⟩, []⟩,
   ⟨⟨some 45, .load false 1 (.t 44), none⟩, []⟩,
   ⟨⟨some 46, .load true 3 (.t 8), none⟩, []⟩,
   ⟨⟨some 47, .mlook [.int, .int, .int] true false false [(.isl 3 [] true)] (.t 45) (.t 46), none⟩, []⟩,
   ⟨⟨some 48, .app false 3 24 (.t 41) (.t 47), none⟩, []⟩,
   ⟨⟨some 7, .mv (.t 48), none⟩, []⟩]))))))))
def Vf : LCode := (.seq (.region [⟨some 49, .mv (.t 5), none⟩,
 ⟨some 50, .call 38 [(.t 49), (.c (.fn (.func 39) [] []))], none⟩])
 (.seq (.region [⟨some 51, .mv (.t 5), none⟩,
  ⟨some 4, .mv (.t 51), none⟩])
 .ret))
def z82 : LCode := (.seq (.region [⟨some 3, .box (.t 1), none⟩,
 ⟨some 4, .mv (.c (.val (.slice none 0 0))), none⟩])
 (.seq (.region [⟨some 5, .mv (.c (.val (.slice none 0 0))), none⟩])
 (.seq (.region [⟨some 9, .mkmap none, none⟩,
  ⟨some 6, .mv (.t 9), none⟩])
 (.seq (.draw [⟨⟨some 10, .mv (.t 0), none⟩, []⟩,
  ⟨⟨some 11, .nilck (.t 10), none⟩, []⟩,
  ⟨⟨some 12, .faddr 0 (.t 11), none⟩, []⟩,
  ⟨⟨some 13, .load false 1 (.t 12), none⟩, []⟩,
  ⟨⟨some 14, .load true 3 (.t 3), none⟩, []⟩,
  ⟨⟨some 15, .mlook [.int, .int, .int] true false false [(.isl 3 [] true)] (.t 13) (.t 14), none⟩, []⟩,
  ⟨⟨some 16, .call 37 [(.t 15)], none⟩, []⟩,
  ⟨⟨some 7, .mv (.t 16), none⟩, []⟩])
 (.seq (.block 0
  (.loop
   z14))
 Vf)))))
def Zk : Lay := ⟨52, [40, 48], false⟩
def z3c : List LRes := [.t 4]
def zdb : LFn := ⟨2, Zk, z82, z3c⟩
theorem zdh : k9 Try.prog [40, 48] 22 = some zdb := by kernel_rfl
theorem zf2 : Y8 Try.prog 22 := ⟨_, Try.func22, rfl, rfl⟩
def z28 (a0 : G_QKey) (a1 : List G_QKey) (a2 : List (G_QKey × (List G_QKey))) (o : (List G_QKey)) : Exit → Env → AHeap → Nat → Prop := Xg z3c (Xy 3 3 (.isl 3 (o.map z6) false) [((0, 0), .one [.map (0, 1), .isl 3 (a1.map z6) false]), ((0, 1), .amap (a2.map (em z8 zb)))])
def Wy (a1 : List G_QKey) (a2 : List (G_QKey × (List G_QKey))) (s : (Nat × (List G_QKey) × (List (G_QKey × Int)) × (List G_QKey))) : Env := [(0, .ptr (0, 0) 0 0), (5, .msl (3, 0) 3 0 s.2.1.length false), (6, .map (4, 0)), (7, .msl (5, 0) 3 0 s.1 false)]
def Uc (a1 : List G_QKey) (a2 : List (G_QKey × (List G_QKey))) (s : (Nat × (List G_QKey) × (List (G_QKey × Int)) × (List G_QKey))) : AHeap := [((0, 0), .one [.map (0, 1), .isl 3 (a1.map z6) false]), ((0, 1), .amap (a2.map (em z8 zb))), ((3, 0), .rows 3 (s.2.1.map z6)), ((4, 0), .amap (s.2.2.1.map (em z8 yb))), ((5, 0), .rows 3 (s.2.2.2.map z6))]
def z0c (a0 : G_QKey) (a1 : List G_QKey) (a2 : List (G_QKey × (List G_QKey))) (o : (List G_QKey)) : Exit → Env → AHeap → Nat → Prop := (yv 0 (uv Try.prog Zk 3 Vf (z28 a0 a1 a2 o)))
noncomputable def qu (m : Option Nat) (a1 : List G_QKey) (a2 : List (G_QKey × (List G_QKey))) (v3 : List G_QKey) : Option (List G_QKey) :=
 (xm m v3).bind fun v6 =>
 if v6.length = v3.length then
 some v6
 else none
noncomputable def zx (m : Option Nat) (a1 : List G_QKey) (a2 : List (G_QKey × (List G_QKey))) (v2 : Nat) (v3 : List G_QKey) (v4 : List (G_QKey × Int)) (v5 : List G_QKey) : Option ((Nat × (List G_QKey) × (List (G_QKey × Int)) × (List G_QKey)) ⊕ (List G_QKey)) :=
 if (decide (((v2 : Nat) : Int) > 0)) = true then
  if (0 : Int) ≤ (W (((v2 : Nat) : Int) - 1)) ∧ (W (((v2 : Nat) : Int) - 1)) < ((v2 : Nat) : Int) then
  if (0 + (W (((v2 : Nat) : Int) - 1)).toNat) < v5.length then
  if (0 : Int) ≤ (W (((v2 : Nat) : Int) - 1)) ∧ (W (((v2 : Nat) : Int) - 1)) ≤ ((v2 : Nat) : Int) then
  if (((lk ze v4 (G_QKey.mk ((v5.getD (0 + (W (((v2 : Nat) : Int) - 1)).toNat) default).f_Kind) ((v5.getD (0 + (W (((v2 : Nat) : Int) - 1)).toNat) default).f_A) ((v5.getD (0 + (W (((v2 : Nat) : Int) - 1)).toNat) default).f_B))).getD 0) != 0) = true then
   some (.inl ((W (((v2 : Nat) : Int) - 1)).toNat, v3, v4, v5))
  else
   if ((v3 ++ ([(G_QKey.mk ((v5.getD (0 + (W (((v2 : Nat) : Int) - 1)).toNat) default).f_Kind) ((v5.getD (0 + (W (((v2 : Nat) : Int) - 1)).toNat) default).f_A) ((v5.getD (0 + (W (((v2 : Nat) : Int) - 1)).toNat) default).f_B))] : List G_QKey)).map z6).length * 24 ≤ 140737488355328 then
   if 0 + (W (((v2 : Nat) : Int) - 1)).toNat ≤ (v5.map z6).length then
   if (((v5.drop 0).take ((W (((v2 : Nat) : Int) - 1)).toNat) ++ ((lk ze a2 (G_QKey.mk ((v5.getD (0 + (W (((v2 : Nat) : Int) - 1)).toNat) default).f_Kind) ((v5.getD (0 + (W (((v2 : Nat) : Int) - 1)).toNat) default).f_A) ((v5.getD (0 + (W (((v2 : Nat) : Int) - 1)).toNat) default).f_B))).getD [])).map z6).length * 24 ≤ 140737488355328 then
   some (.inl ((((v5.drop 0).take ((W (((v2 : Nat) : Int) - 1)).toNat) ++ ((lk ze a2 (G_QKey.mk ((v5.getD (0 + (W (((v2 : Nat) : Int) - 1)).toNat) default).f_Kind) ((v5.getD (0 + (W (((v2 : Nat) : Int) - 1)).toNat) default).f_A) ((v5.getD (0 + (W (((v2 : Nat) : Int) - 1)).toNat) default).f_B))).getD [])).map z6).length, (v3 ++ ([(G_QKey.mk ((v5.getD (0 + (W (((v2 : Nat) : Int) - 1)).toNat) default).f_Kind) ((v5.getD (0 + (W (((v2 : Nat) : Int) - 1)).toNat) default).f_A) ((v5.getD (0 + (W (((v2 : Nat) : Int) - 1)).toNat) default).f_B))] : List G_QKey)), (mp ze v4 (G_QKey.mk ((v5.getD (0 + (W (((v2 : Nat) : Int) - 1)).toNat) default).f_Kind) ((v5.getD (0 + (W (((v2 : Nat) : Int) - 1)).toNat) default).f_A) ((v5.getD (0 + (W (((v2 : Nat) : Int) - 1)).toNat) default).f_B)) 1), ((v5.drop 0).take ((W (((v2 : Nat) : Int) - 1)).toNat) ++ ((lk ze a2 (G_QKey.mk ((v5.getD (0 + (W (((v2 : Nat) : Int) - 1)).toNat) default).f_Kind) ((v5.getD (0 + (W (((v2 : Nat) : Int) - 1)).toNat) default).f_A) ((v5.getD (0 + (W (((v2 : Nat) : Int) - 1)).toNat) default).f_B))).getD []))))
   else none
   else none
   else none
  else none
  else none
  else none
 else
  Option.map Sum.inr (
   qu m a1 a2 v3)
noncomputable def yg (m : Option Nat) (a1 : List G_QKey) (a2 : List (G_QKey × (List G_QKey))) (v2 : Nat) (v3 : List G_QKey) (v4 : List (G_QKey × Int)) (v5 : List G_QKey) : Option (List G_QKey) := u5 m (fun (s : (Nat × (List G_QKey) × (List (G_QKey × Int)) × (List G_QKey))) => zx m a1 a2 s.1 s.2.1 s.2.2.1 s.2.2.2) (v2, v3, v4, v5)
theorem z5o {a0 : G_QKey} {a1 : List G_QKey} {a2 : List (G_QKey × (List G_QKey))} {v3 : List G_QKey} {m : Option Nat} {o : (List G_QKey)} (h : qu m a1 a2 v3 = some o) :
 LWp Try.prog Zk 3 Vf (z28 a0 a1 a2 o) [(5, .msl (3, 0) 3 0 v3.length false)] [((0, 0), .one [.map (0, 1), .isl 3 (a1.map z6) false]), ((0, 1), .amap (a2.map (em z8 zb))), ((3, 0), .rows 3 (v3.map z6))] 4 := by
 unfold qu at h
 refine zl ?_
 refine y8 ?_
 obtain ⟨v6, h26, h⟩ := bind_some h
 refine Ya (k := 3) (m := 0) (L' := [((3, 0), .rows 3 (v6.map z6))]) (rest := [((0, 0), .one [.map (0, 1), .isl 3 (a1.map z6) false]), ((0, 1), .amap (a2.map (em z8 zb)))]) (R' := .tup []) [((0, 0), (3, 0))] (zib h26) rfl rfl rfl (And.intro (Vw.mslE rfl (by first | rfl | omega | (simp; done) | (simp only [List.length_map, List.length_replicate, Int.toNat_natCast] at *; omega)) rfl) (And.intro (Vw.same _ rfl) trivial)) (And.intro (h0I (3, 0) rfl rfl (BVw.enc z6 (fun _ => rfl) _ v3)) trivial) (k8 _ rfl) (And.intro rfl (And.intro (Zt z6 (fun _ => rfl) _ _) trivial)) rfl ?_
 obtain ⟨h27, h⟩ := y4 h
 refine zl ?_
 refine y8 ?_
 refine Ze ?_
 cases h
 exact And.intro trivial (zih (n' := 5) [] [(3, 0)] rfl rfl (Vw.frzB z6 Ud (fun h => h) rfl rfl (by first | rfl | omega | (simp; done) | (simp only [List.length_map, List.length_replicate, Int.toNat_natCast] at *; omega))) (And.intro (And.intro rfl (BVw.oneL (And.intro (Vw.map _ _ rfl) (And.intro (Vw.same _ rfl) trivial)))) (And.intro (And.intro rfl (BVw.ofMap z8 zb zc a2)) trivial)))
theorem z3k {a0 : G_QKey} {a1 : List G_QKey} {a2 : List (G_QKey × (List G_QKey))} {v2 : Nat} {v3 : List G_QKey} {v4 : List (G_QKey × Int)} {v5 : List G_QKey} {m : Option Nat} {o : (Nat × (List G_QKey) × (List (G_QKey × Int)) × (List G_QKey)) ⊕ (List G_QKey)} (h : zx m a1 a2 v2 v3 v4 v5 = some o) :
 LWp Try.prog Zk 3 z14 (wj 3 6 (Wy a1 a2) (Uc a1 a2) (z0c a0 a1 a2) o) [(0, .ptr (0, 0) 0 0), (5, .msl (3, 0) 3 0 v3.length false), (6, .map (4, 0)), (7, .msl (5, 0) 3 0 v2 false)] [((0, 0), .one [.map (0, 1), .isl 3 (a1.map z6) false]), ((0, 1), .amap (a2.map (em z8 zb))), ((3, 0), .rows 3 (v3.map z6)), ((4, 0), .amap (v4.map (em z8 yb))), ((5, 0), .rows 3 (v5.map z6))] 6 := by
 unfold zx at h
 refine zl ?_
 refine zl ?_
 refine y8 ?_
 refine w5 (v := (decide (((v2 : Nat) : Int) > 0))) rfl trivial (fun h18 => ?_) (fun h18 => ?_)
 ·have h := q7 h18 h
  refine w7 ?_
  refine j8 ?_
  refine zl ?_
  refine y8 ?_
  obtain ⟨h19, h⟩ := y4 h
  refine And.intro h19 ?_
  show Q5 _ _ _ [(24, .ptr (5, 0) (0 + (W (((v2 : Nat) : Int) - 1)).toNat) 0), (23, .int .i64 (W (((v2 : Nat) : Int) - 1))), (22, .int .i64 ((v2 : Nat) : Int)), (21, .msl (5, 0) 3 0 v2 false), (20, .msl (5, 0) 3 0 v2 false), (19, .bool (decide (((v2 : Nat) : Int) > 0))), (18, .int .i64 ((v2 : Nat) : Int)), (17, .msl (5, 0) 3 0 v2 false), (0, .ptr (0, 0) 0 0), (5, .msl (3, 0) 3 0 v3.length false), (6, .map (4, 0)), (7, .msl (5, 0) 3 0 v2 false)] _ _
  obtain ⟨h20, h⟩ := y4 h
  refine Exists.intro (z6 (v5.getD (0 + (W (((v2 : Nat) : Int) - 1)).toNat) default)) (And.intro (jm z6 _ _ h20) (And.intro (And.intro (zdx z6 h20) (Nat.le_of_ble_eq_true rfl)) ?_))
  refine LWp.sim (e := [(0, .ptr (0, 0) 0 0), (5, .msl (3, 0) 3 0 v3.length false), (6, .map (4, 0)), (7, .msl (5, 0) 3 0 v2 false), (8, .ptr (6, 0) 0 0)]) (L := [((0, 0), .one [.map (0, 1), .isl 3 (a1.map z6) false]), ((0, 1), .amap (a2.map (em z8 zb))), ((3, 0), .rows 3 (v3.map z6)), ((4, 0), .amap (v4.map (em z8 yb))), ((5, 0), .rows 3 (v5.map z6)), ((6, 0), .one [.int .i64 ((v5.getD (0 + (W (((v2 : Nat) : Int) - 1)).toNat) default).f_Kind), .int .i64 ((v5.getD (0 + (W (((v2 : Nat) : Int) - 1)).toNat) default).f_A), .int .i64 ((v5.getD (0 + (W (((v2 : Nat) : Int) - 1)).toNat) default).f_B)])]) (n := 7) ?_ ?_
  ·exact jh (M := [((3, 0), (3, 0)), ((4, 0), (4, 0)), ((5, 0), (5, 0)), ((6, 0), (6, 0))]) rfl (And.intro (Vw.ptr _ _ _ _ rfl) (And.intro (Vw.mslE rfl (by first | rfl | omega | (simp; done) | (simp only [List.length_map, List.length_replicate, Int.toNat_natCast] at *; omega)) rfl) (And.intro (Vw.map _ _ rfl) (And.intro (Vw.msl _ _ _ _ _ _ rfl) (And.intro (Vw.ptr _ _ _ _ rfl) trivial))))) (And.intro (And.intro rfl (BVw.oneL (And.intro (Vw.map _ _ rfl) (And.intro (Vw.same _ rfl) trivial)))) (And.intro (And.intro rfl (BVw.ofMap z8 zb zc a2)) (And.intro (And.intro rfl (BVw.enc z6 (fun _ => rfl) _ v3)) (And.intro (And.intro rfl (BVw.ofMap z8 yb zo v4)) (And.intro (And.intro rfl (BVw.enc z6 (fun _ => rfl) _ v5)) (And.intro (And.intro rfl (BVw.oneL (And.intro (Vw.same _ rfl) (And.intro (Vw.same _ rfl) (And.intro (Vw.same _ rfl) trivial))))) trivial))))))
  refine zl ?_
  refine y8 ?_
  obtain ⟨h21, h⟩ := y4 h
  refine Exists.intro (.msl (5, 0) 3 0 ((W (((v2 : Nat) : Int) - 1)).toNat) false) (And.intro (by simp) (And.intro (And.intro rfl (And.intro (Int.le_refl _) h21)) ?_))
  refine zl ?_
  refine zl ?_
  refine y8 ?_
  refine Exists.intro (.int .i64 ((lk ze v4 (G_QKey.mk ((v5.getD (0 + (W (((v2 : Nat) : Int) - 1)).toNat) default).f_Kind) ((v5.getD (0 + (W (((v2 : Nat) : Int) - 1)).toNat) default).f_A) ((v5.getD (0 + (W (((v2 : Nat) : Int) - 1)).toNat) default).f_B))).getD 0)) (And.intro (z11 (ek := z8) (ev := yb) (z := 0) jd rfl (G_QKey.mk ((v5.getD (0 + (W (((v2 : Nat) : Int) - 1)).toNat) default).f_Kind) ((v5.getD (0 + (W (((v2 : Nat) : Int) - 1)).toNat) default).f_A) ((v5.getD (0 + (W (((v2 : Nat) : Int) - 1)).toNat) default).f_B)) v4) (And.intro (Z6 (ek := z8) (ev := yb) jd _ _) ?_))
  refine LWp.sim (e := [(0, .ptr (0, 0) 0 0), (5, .msl (3, 0) 3 0 v3.length false), (6, .map (4, 0)), (7, .msl (5, 0) 3 0 ((W (((v2 : Nat) : Int) - 1)).toNat) false), (8, .ptr (6, 0) 0 0), (34, .bool (((lk ze v4 (G_QKey.mk ((v5.getD (0 + (W (((v2 : Nat) : Int) - 1)).toNat) default).f_Kind) ((v5.getD (0 + (W (((v2 : Nat) : Int) - 1)).toNat) default).f_A) ((v5.getD (0 + (W (((v2 : Nat) : Int) - 1)).toNat) default).f_B))).getD 0) != 0))]) (L := [((0, 0), .one [.map (0, 1), .isl 3 (a1.map z6) false]), ((0, 1), .amap (a2.map (em z8 zb))), ((3, 0), .rows 3 (v3.map z6)), ((4, 0), .amap (v4.map (em z8 yb))), ((5, 0), .rows 3 (v5.map z6)), ((6, 0), .one [.int .i64 ((v5.getD (0 + (W (((v2 : Nat) : Int) - 1)).toNat) default).f_Kind), .int .i64 ((v5.getD (0 + (W (((v2 : Nat) : Int) - 1)).toNat) default).f_A), .int .i64 ((v5.getD (0 + (W (((v2 : Nat) : Int) - 1)).toNat) default).f_B)])]) (n := 7) ?_ ?_
  ·exact jh (M := [((3, 0), (3, 0)), ((4, 0), (4, 0)), ((5, 0), (5, 0)), ((6, 0), (6, 0))]) rfl (And.intro (Vw.ptr _ _ _ _ rfl) (And.intro (Vw.mslE rfl (by first | rfl | omega | (simp; done) | (simp only [List.length_map, List.length_replicate, Int.toNat_natCast] at *; omega)) rfl) (And.intro (Vw.map _ _ rfl) (And.intro (Vw.msl _ _ _ _ _ _ rfl) (And.intro (Vw.ptr _ _ _ _ rfl) (And.intro (Vw.same _ rfl) trivial)))))) (And.intro (And.intro rfl (BVw.oneL (And.intro (Vw.map _ _ rfl) (And.intro (Vw.same _ rfl) trivial)))) (And.intro (And.intro rfl (BVw.ofMap z8 zb zc a2)) (And.intro (And.intro rfl (BVw.enc z6 (fun _ => rfl) _ v3)) (And.intro (And.intro rfl (BVw.ofMap z8 yb zo v4)) (And.intro (And.intro rfl (BVw.enc z6 (fun _ => rfl) _ v5)) (And.intro (And.intro rfl (BVw.oneL (And.intro (Vw.same _ rfl) (And.intro (Vw.same _ rfl) (And.intro (Vw.same _ rfl) trivial))))) trivial))))))
  refine w5 (v := (((lk ze v4 (G_QKey.mk ((v5.getD (0 + (W (((v2 : Nat) : Int) - 1)).toNat) default).f_Kind) ((v5.getD (0 + (W (((v2 : Nat) : Int) - 1)).toNat) default).f_A) ((v5.getD (0 + (W (((v2 : Nat) : Int) - 1)).toNat) default).f_B))).getD 0) != 0)) rfl trivial (fun h22 => ?_) (fun h22 => ?_)
  ·have h := q7 h22 h
   refine Zp ?_
   cases h
   exact And.intro rfl (jh (M := [((3, 0), (3, 0)), ((4, 0), (4, 0)), ((5, 0), (5, 0))]) rfl (And.intro (Vw.ptr _ _ _ _ rfl) (And.intro (Vw.mslE rfl (by first | rfl | omega | (simp; done) | (simp only [List.length_map, List.length_replicate, Int.toNat_natCast] at *; omega)) rfl) (And.intro (Vw.map _ _ rfl) (And.intro (Vw.msl _ _ _ _ _ _ rfl) trivial)))) (And.intro (And.intro rfl (BVw.oneL (And.intro (Vw.map _ _ rfl) (And.intro (Vw.same _ rfl) trivial)))) (And.intro (And.intro rfl (BVw.ofMap z8 zb zc a2)) (And.intro (And.intro rfl (BVw.enc z6 (fun _ => rfl) _ v3)) (And.intro (And.intro rfl (BVw.ofMap z8 yb zo v4)) (And.intro (And.intro rfl (BVw.enc z6 (fun _ => rfl) _ v5)) trivial))))))
  ·have h := qq h22 h
   refine w7 ?_
   refine zl ?_
   refine y8 ?_
   refine Exists.intro ((mp ze v4 (G_QKey.mk ((v5.getD (0 + (W (((v2 : Nat) : Int) - 1)).toNat) default).f_Kind) ((v5.getD (0 + (W (((v2 : Nat) : Int) - 1)).toNat) default).f_A) ((v5.getD (0 + (W (((v2 : Nat) : Int) - 1)).toNat) default).f_B)) 1).map (em z8 yb)) (And.intro (z1z (ek := z8) (ev := yb) jd (G_QKey.mk ((v5.getD (0 + (W (((v2 : Nat) : Int) - 1)).toNat) default).f_Kind) ((v5.getD (0 + (W (((v2 : Nat) : Int) - 1)).toNat) default).f_A) ((v5.getD (0 + (W (((v2 : Nat) : Int) - 1)).toNat) default).f_B)) 1 v4) ?_)
   refine zl ?_
   refine y8 ?_
   obtain ⟨h23, h⟩ := y4 h
   refine And.intro (fun h => Bool.noConfusion h) (And.intro (zr7 z6 (by first | rfl | omega | (simp; done) | (simp only [List.length_map, List.length_replicate, Int.toNat_natCast] at *; omega))) (Exists.intro ((v3 ++ ([(G_QKey.mk ((v5.getD (0 + (W (((v2 : Nat) : Int) - 1)).toNat) default).f_Kind) ((v5.getD (0 + (W (((v2 : Nat) : Int) - 1)).toNat) default).f_A) ((v5.getD (0 + (W (((v2 : Nat) : Int) - 1)).toNat) default).f_B))] : List G_QKey)).map z6) (And.intro (zr3 z6 v3 ([(G_QKey.mk ((v5.getD (0 + (W (((v2 : Nat) : Int) - 1)).toNat) default).f_Kind) ((v5.getD (0 + (W (((v2 : Nat) : Int) - 1)).toNat) default).f_A) ((v5.getD (0 + (W (((v2 : Nat) : Int) - 1)).toNat) default).f_B))] : List G_QKey) (by first | rfl | omega | (simp; done) | (simp only [List.length_map, List.length_replicate, Int.toNat_natCast] at *; omega))) (And.intro h23 ?_))))
   refine LWp.sim (e := [(0, .ptr (0, 0) 0 0), (5, .msl (3, 0) 3 0 (((v3 ++ ([(G_QKey.mk ((v5.getD (0 + (W (((v2 : Nat) : Int) - 1)).toNat) default).f_Kind) ((v5.getD (0 + (W (((v2 : Nat) : Int) - 1)).toNat) default).f_A) ((v5.getD (0 + (W (((v2 : Nat) : Int) - 1)).toNat) default).f_B))] : List G_QKey)).map z6).length) false), (6, .map (4, 0)), (7, .msl (5, 0) 3 0 ((W (((v2 : Nat) : Int) - 1)).toNat) false), (8, .ptr (6, 0) 0 0)]) (L := [((0, 0), .one [.map (0, 1), .isl 3 (a1.map z6) false]), ((0, 1), .amap (a2.map (em z8 zb))), ((3, 0), .rows 3 ((v3 ++ ([(G_QKey.mk ((v5.getD (0 + (W (((v2 : Nat) : Int) - 1)).toNat) default).f_Kind) ((v5.getD (0 + (W (((v2 : Nat) : Int) - 1)).toNat) default).f_A) ((v5.getD (0 + (W (((v2 : Nat) : Int) - 1)).toNat) default).f_B))] : List G_QKey)).map z6)), ((4, 0), .amap ((mp ze v4 (G_QKey.mk ((v5.getD (0 + (W (((v2 : Nat) : Int) - 1)).toNat) default).f_Kind) ((v5.getD (0 + (W (((v2 : Nat) : Int) - 1)).toNat) default).f_A) ((v5.getD (0 + (W (((v2 : Nat) : Int) - 1)).toNat) default).f_B)) 1).map (em z8 yb))), ((5, 0), .rows 3 (v5.map z6)), ((6, 0), .one [.int .i64 ((v5.getD (0 + (W (((v2 : Nat) : Int) - 1)).toNat) default).f_Kind), .int .i64 ((v5.getD (0 + (W (((v2 : Nat) : Int) - 1)).toNat) default).f_A), .int .i64 ((v5.getD (0 + (W (((v2 : Nat) : Int) - 1)).toNat) default).f_B)])]) (n := 7) ?_ ?_
   ·exact jh (M := [((3, 0), (7, 0)), ((4, 0), (4, 0)), ((5, 0), (5, 0)), ((6, 0), (6, 0))]) rfl (And.intro (Vw.ptr _ _ _ _ rfl) (And.intro (Vw.mslE rfl (by first | rfl | omega | (simp; done) | (simp only [List.length_map, List.length_replicate, Int.toNat_natCast] at *; omega)) rfl) (And.intro (Vw.map _ _ rfl) (And.intro (Vw.msl _ _ _ _ _ _ rfl) (And.intro (Vw.ptr _ _ _ _ rfl) trivial))))) (And.intro (And.intro rfl (BVw.oneL (And.intro (Vw.map _ _ rfl) (And.intro (Vw.same _ rfl) trivial)))) (And.intro (And.intro rfl (BVw.ofMap z8 zb zc a2)) (And.intro (And.intro rfl (BVw.enc z6 (fun _ => rfl) _ (v3 ++ ([(G_QKey.mk ((v5.getD (0 + (W (((v2 : Nat) : Int) - 1)).toNat) default).f_Kind) ((v5.getD (0 + (W (((v2 : Nat) : Int) - 1)).toNat) default).f_A) ((v5.getD (0 + (W (((v2 : Nat) : Int) - 1)).toNat) default).f_B))] : List G_QKey)))) (And.intro (And.intro rfl (BVw.ofMap z8 yb zo (mp ze v4 (G_QKey.mk ((v5.getD (0 + (W (((v2 : Nat) : Int) - 1)).toNat) default).f_Kind) ((v5.getD (0 + (W (((v2 : Nat) : Int) - 1)).toNat) default).f_A) ((v5.getD (0 + (W (((v2 : Nat) : Int) - 1)).toNat) default).f_B)) 1))) (And.intro (And.intro rfl (BVw.enc z6 (fun _ => rfl) _ v5)) (And.intro (And.intro rfl (BVw.oneL (And.intro (Vw.same _ rfl) (And.intro (Vw.same _ rfl) (And.intro (Vw.same _ rfl) trivial))))) trivial))))))
   refine z32 rfl ?_
   refine Exists.intro (.isl 3 (((lk ze a2 (G_QKey.mk ((v5.getD (0 + (W (((v2 : Nat) : Int) - 1)).toNat) default).f_Kind) ((v5.getD (0 + (W (((v2 : Nat) : Int) - 1)).toNat) default).f_A) ((v5.getD (0 + (W (((v2 : Nat) : Int) - 1)).toNat) default).f_B))).getD []).map z6) false) (And.intro (z11 (ek := z8) (ev := zb) (z := []) jd rfl (G_QKey.mk ((v5.getD (0 + (W (((v2 : Nat) : Int) - 1)).toNat) default).f_Kind) ((v5.getD (0 + (W (((v2 : Nat) : Int) - 1)).toNat) default).f_A) ((v5.getD (0 + (W (((v2 : Nat) : Int) - 1)).toNat) default).f_B)) a2) (And.intro (Z6 (ek := z8) (ev := zb) jd _ _) ?_))
   obtain ⟨h24, h⟩ := y4 h
   obtain ⟨h25, h⟩ := y4 h
   refine And.intro (fun h => Bool.noConfusion h) (And.intro h24 (Exists.intro (((v5.drop 0).take ((W (((v2 : Nat) : Int) - 1)).toNat) ++ ((lk ze a2 (G_QKey.mk ((v5.getD (0 + (W (((v2 : Nat) : Int) - 1)).toNat) default).f_Kind) ((v5.getD (0 + (W (((v2 : Nat) : Int) - 1)).toNat) default).f_A) ((v5.getD (0 + (W (((v2 : Nat) : Int) - 1)).toNat) default).f_B))).getD [])).map z6) (And.intro (zr6 z6 v5 ((lk ze a2 (G_QKey.mk ((v5.getD (0 + (W (((v2 : Nat) : Int) - 1)).toNat) default).f_Kind) ((v5.getD (0 + (W (((v2 : Nat) : Int) - 1)).toNat) default).f_A) ((v5.getD (0 + (W (((v2 : Nat) : Int) - 1)).toNat) default).f_B))).getD []) _ _) (And.intro h25 ?_))))
   cases h
   exact And.intro rfl (jh (M := [((3, 0), (3, 0)), ((4, 0), (4, 0)), ((5, 0), (7, 0))]) rfl (And.intro (Vw.ptr _ _ _ _ rfl) (And.intro (Vw.mslE rfl (by first | rfl | omega | (simp; done) | (simp only [List.length_map, List.length_replicate, Int.toNat_natCast] at *; omega)) rfl) (And.intro (Vw.map _ _ rfl) (And.intro (Vw.mslE rfl (by first | rfl | omega | (simp; done) | (simp only [List.length_map, List.length_replicate, Int.toNat_natCast] at *; omega)) rfl) trivial)))) (And.intro (And.intro rfl (BVw.oneL (And.intro (Vw.map _ _ rfl) (And.intro (Vw.same _ rfl) trivial)))) (And.intro (And.intro rfl (BVw.ofMap z8 zb zc a2)) (And.intro (And.intro rfl (BVw.enc z6 (fun _ => rfl) _ (v3 ++ ([(G_QKey.mk ((v5.getD (0 + (W (((v2 : Nat) : Int) - 1)).toNat) default).f_Kind) ((v5.getD (0 + (W (((v2 : Nat) : Int) - 1)).toNat) default).f_A) ((v5.getD (0 + (W (((v2 : Nat) : Int) - 1)).toNat) default).f_B))] : List G_QKey)))) (And.intro (And.intro rfl (BVw.ofMap z8 yb zo (mp ze v4 (G_QKey.mk ((v5.getD (0 + (W (((v2 : Nat) : Int) - 1)).toNat) default).f_Kind) ((v5.getD (0 + (W (((v2 : Nat) : Int) - 1)).toNat) default).f_A) ((v5.getD (0 + (W (((v2 : Nat) : Int) - 1)).toNat) default).f_B)) 1))) (And.intro (And.intro rfl (BVw.enc z6 (fun _ => rfl) _ ((v5.drop 0).take ((W (((v2 : Nat) : Int) - 1)).toNat) ++ ((lk ze a2 (G_QKey.mk ((v5.getD (0 + (W (((v2 : Nat) : Int) - 1)).toNat) default).f_Kind) ((v5.getD (0 + (W (((v2 : Nat) : Int) - 1)).toNat) default).f_A) ((v5.getD (0 + (W (((v2 : Nat) : Int) - 1)).toNat) default).f_B))).getD [])))) trivial))))))
 ·have h := qq h18 h
  refine Zp ?_
  obtain ⟨o, hq, rfl⟩ := Option.map_eq_some_iff.1 h
  replace h := hq; clear hq
  refine And.intro nofun ?_
  refine LWp.sim ?_ (z5o h)
  exact jh (M := [((3, 0), (3, 0))]) rfl (And.intro (Vw.mslE rfl (by first | rfl | omega | (simp; done) | (simp only [List.length_map, List.length_replicate, Int.toNat_natCast] at *; omega)) rfl) trivial) (And.intro (And.intro rfl (BVw.oneL (And.intro (Vw.map _ _ rfl) (And.intro (Vw.same _ rfl) trivial)))) (And.intro (And.intro rfl (BVw.ofMap z8 zb zc a2)) (And.intro (And.intro rfl (BVw.enc z6 (fun _ => rfl) _ v3)) trivial)))
theorem z62 {a0 : G_QKey} {a1 : List G_QKey} {a2 : List (G_QKey × (List G_QKey))} {v2 : Nat} {v3 : List G_QKey} {v4 : List (G_QKey × Int)} {v5 : List G_QKey} {m : Option Nat} {o : (List G_QKey)} (h : yg m a1 a2 v2 v3 v4 v5 = some o) :
 LWp Try.prog Zk 3 (.loop z14) (yv 0 (uv Try.prog Zk 3 Vf (z28 a0 a1 a2 o))) [(0, .ptr (0, 0) 0 0), (5, .msl (3, 0) 3 0 v3.length false), (6, .map (4, 0)), (7, .msl (5, 0) 3 0 v2 false)] [((0, 0), .one [.map (0, 1), .isl 3 (a1.map z6) false]), ((0, 1), .amap (a2.map (em z8 zb))), ((3, 0), .rows 3 (v3.map z6)), ((4, 0), .amap (v4.map (em z8 yb))), ((5, 0), .rows 3 (v5.map z6))] 6 :=
 j0 (m := m) (s := ((v2, v3, v4, v5) : (Nat × (List G_QKey) × (List (G_QKey × Int)) × (List G_QKey)))) (r := o) (fun (s : (Nat × (List G_QKey) × (List (G_QKey × Int)) × (List G_QKey))) => zx m a1 a2 s.1 s.2.1 s.2.2.1 s.2.2.2) (Wy a1 a2) (Uc a1 a2) (z0c a0 a1 a2) (fun s o h => z3k h) h
noncomputable def zz (m : Option Nat) (a0 : G_QKey) (a1 : List G_QKey) (a2 : List (G_QKey × (List G_QKey))) : Option (List G_QKey) :=
 (ws m ((lk ze a2 a0).getD [])).bind fun v1 =>
 yg m a1 a2 v1.length ([] : List G_QKey) ([] : List (G_QKey × Int)) v1
theorem z7a {a0 : G_QKey} {a1 : List G_QKey} {a2 : List (G_QKey × (List G_QKey))} {m : Option Nat} {o : (List G_QKey)} (h : zz m a0 a1 a2 = some o) : LWp Try.prog Zk 3 z82 (z28 a0 a1 a2 o) (qx 0 [.ptr (0, 0) 0 0, .agg [.int .i64 a0.f_Kind, .int .i64 a0.f_A, .int .i64 a0.f_B]]) [((0, 0), .one [.map (0, 1), .isl 3 (a1.map z6) false]), ((0, 1), .amap (a2.map (em z8 zb)))] 3 := by
 unfold zz at h
 refine zl ?_
 refine LWp.ghost 3 ?_
 refine y8 ?_
 refine LWp.sim (e := [(0, .ptr (0, 0) 0 0), (3, .ptr (3, 0) 0 0)]) (L := [((0, 0), .one [.map (0, 1), .isl 3 (a1.map z6) false]), ((0, 1), .amap (a2.map (em z8 zb))), ((3, 0), .one [.int .i64 a0.f_Kind, .int .i64 a0.f_A, .int .i64 a0.f_B])]) (n := 4) ?_ ?_
 ·exact jh (M := [((3, 0), (4, 0))]) rfl (And.intro (Vw.ptr _ _ _ _ rfl) (And.intro (Vw.ptr _ _ _ _ rfl) trivial)) (And.intro (And.intro rfl (BVw.oneL (And.intro (Vw.map _ _ rfl) (And.intro (Vw.same _ rfl) trivial)))) (And.intro (And.intro rfl (BVw.ofMap z8 zb zc a2)) (And.intro (And.intro rfl (BVw.oneL (And.intro (Vw.same _ rfl) (And.intro (Vw.same _ rfl) (And.intro (Vw.same _ rfl) trivial))))) trivial)))
 refine zl ?_
 refine LWp.ghost 3 ?_
 refine y8 ?_
 refine LWp.sim (e := [(0, .ptr (0, 0) 0 0), (3, .ptr (3, 0) 0 0), (5, .msl (4, 0) 3 0 (([] : List G_QKey).length) false)]) (L := [((0, 0), .one [.map (0, 1), .isl 3 (a1.map z6) false]), ((0, 1), .amap (a2.map (em z8 zb))), ((3, 0), .one [.int .i64 a0.f_Kind, .int .i64 a0.f_A, .int .i64 a0.f_B]), ((4, 0), .rows 3 (([] : List G_QKey).map z6))]) (n := 5) ?_ ?_
 ·exact jh (M := [((3, 0), (3, 0)), ((4, 0), (4, 0))]) rfl (And.intro (Vw.ptr _ _ _ _ rfl) (And.intro (Vw.ptr _ _ _ _ rfl) (And.intro (Vw.nilM _ _ _ _ _ _ rfl rfl) trivial))) (And.intro (And.intro rfl (BVw.oneL (And.intro (Vw.map _ _ rfl) (And.intro (Vw.same _ rfl) trivial)))) (And.intro (And.intro rfl (BVw.ofMap z8 zb zc a2)) (And.intro (And.intro rfl (BVw.oneL (And.intro (Vw.same _ rfl) (And.intro (Vw.same _ rfl) (And.intro (Vw.same _ rfl) trivial))))) (And.intro (And.intro rfl (BVw.enc z6 (fun _ => rfl) _ ([] : List G_QKey))) trivial))))
 refine zl ?_
 refine y8 ?_
 refine zl ?_
 refine z32 rfl ?_
 refine Exists.intro (.isl 3 (((lk ze a2 a0).getD []).map z6) false) (And.intro (z11 (ek := z8) (ev := zb) (z := []) jd rfl a0 a2) (And.intro (Z6 (ek := z8) (ev := zb) jd _ _) ?_))
 obtain ⟨v1, h1, h⟩ := bind_some h
 refine Ya (k := 3) (m := 1) (L' := [((6, 0), .rows 3 (v1.map z6))]) (rest := [((5, 0), .amap (([] : List (G_QKey × Int)).map (em z8 yb))), ((0, 0), .one [.map (0, 1), .isl 3 (a1.map z6) false]), ((0, 1), .amap (a2.map (em z8 zb))), ((3, 0), .one [.int .i64 a0.f_Kind, .int .i64 a0.f_A, .int .i64 a0.f_B]), ((4, 0), .rows 3 (([] : List G_QKey).map z6))]) (R' := .msl (6, 0) 3 0 v1.length false) [] (zi0 h1) rfl rfl rfl (And.intro (Vw.same _ rfl) trivial) trivial rfl (And.intro rfl (And.intro (Zt z6 (fun _ => rfl) _ _) trivial)) rfl ?_
 show Q5 _ _ _ [(16, .msl (6, 0) 3 0 v1.length false), (15, .isl 3 (((lk ze a2 a0).getD []).map z6) false), (14, .agg [.int .i64 a0.f_Kind, .int .i64 a0.f_A, .int .i64 a0.f_B]), (13, .map (0, 1)), (12, .ptr (0, 0) 0 0), (11, .ptr (0, 0) 0 0), (10, .ptr (0, 0) 0 0), (6, .map (5, 0)), (9, .map (5, 0)), (0, .ptr (0, 0) 0 0), (3, .ptr (3, 0) 0 0), (5, .msl (4, 0) 3 0 (([] : List G_QKey).length) false)] _ _
 refine LWp.sim (e := [(0, .ptr (0, 0) 0 0), (5, .msl (3, 0) 3 0 (([] : List G_QKey).length) false), (6, .map (4, 0)), (7, .msl (5, 0) 3 0 v1.length false)]) (L := [((0, 0), .one [.map (0, 1), .isl 3 (a1.map z6) false]), ((0, 1), .amap (a2.map (em z8 zb))), ((3, 0), .rows 3 (([] : List G_QKey).map z6)), ((4, 0), .amap (([] : List (G_QKey × Int)).map (em z8 yb))), ((5, 0), .rows 3 (v1.map z6))]) (n := 6) ?_ ?_
 ·exact jh (M := [((3, 0), (4, 0)), ((4, 0), (5, 0)), ((5, 0), (6, 0))]) rfl (And.intro (Vw.ptr _ _ _ _ rfl) (And.intro (Vw.mslE rfl (by first | rfl | omega | (simp; done) | (simp only [List.length_map, List.length_replicate, Int.toNat_natCast] at *; omega)) rfl) (And.intro (Vw.map _ _ rfl) (And.intro (Vw.mslE rfl (by first | rfl | omega | (simp; done) | (simp only [List.length_map, List.length_replicate, Int.toNat_natCast] at *; omega)) rfl) trivial)))) (And.intro (And.intro rfl (BVw.oneL (And.intro (Vw.map _ _ rfl) (And.intro (Vw.same _ rfl) trivial)))) (And.intro (And.intro rfl (BVw.ofMap z8 zb zc a2)) (And.intro (And.intro rfl (BVw.enc z6 (fun _ => rfl) _ ([] : List G_QKey))) (And.intro (And.intro rfl (BVw.ofMap z8 yb zo ([] : List (G_QKey × Int)))) (And.intro (And.intro rfl (BVw.enc z6 (fun _ => rfl) _ v1)) trivial)))))
 refine zl ?_
 refine j8 ?_
 refine LWp.sim ?_ (z62 h)
 exact jh (M := [((3, 0), (3, 0)), ((4, 0), (4, 0)), ((5, 0), (5, 0))]) rfl (And.intro (Vw.ptr _ _ _ _ rfl) (And.intro (Vw.mslE rfl (by first | rfl | omega | (simp; done) | (simp only [List.length_map, List.length_replicate, Int.toNat_natCast] at *; omega)) rfl) (And.intro (Vw.map _ _ rfl) (And.intro (Vw.mslE rfl (by first | rfl | omega | (simp; done) | (simp only [List.length_map, List.length_replicate, Int.toNat_natCast] at *; omega)) rfl) trivial)))) (And.intro (And.intro rfl (BVw.oneL (And.intro (Vw.map _ _ rfl) (And.intro (Vw.same _ rfl) trivial)))) (And.intro (And.intro rfl (BVw.ofMap z8 zb zc a2)) (And.intro (And.intro rfl (BVw.enc z6 (fun _ => rfl) _ ([] : List G_QKey))) (And.intro (And.intro rfl (BVw.ofMap z8 yb zo ([] : List (G_QKey × Int)))) (And.intro (And.intro rfl (BVw.enc z6 (fun _ => rfl) _ v1)) trivial)))))
theorem z8m {a0 : G_QKey} {a1 : List G_QKey} {a2 : List (G_QKey × (List G_QKey))} {m : Option Nat} {o : (List G_QKey)} (h : zz m a0 a1 a2 = some o) : ACalls Try.prog 22 [.ptr (0, 0) 0 0, .agg [.int .i64 a0.f_Kind, .int .i64 a0.f_A, .int .i64 a0.f_B]] [((0, 0), .one [.map (0, 1), .isl 3 (a1.map z6) false]), ((0, 1), .amap (a2.map (em z8 zb)))] 3 (vr 3 (.isl 3 (o.map z6) false) [((0, 0), .one [.map (0, 1), .isl 3 (a1.map z6) false]), ((0, 1), .amap (a2.map (em z8 zb)))]) := Xf (L := zdb) zdh zf2 (Nat.le_of_ble_eq_true rfl) (z7a h)
def zp7 : LCode := (.seq (.region [⟨some 3, .box (.t 1), none⟩,
 ⟨some 4, .mv (.c (.val (.slice none 0 0))), none⟩])
 (.seq (.draw [⟨⟨some 5, .mv (.t 0), none⟩, []⟩,
  ⟨⟨some 7, .load true 3 (.t 3), none⟩, []⟩,
  ⟨⟨some 6, .call 21 [(.t 5), (.c (.bool false))], none⟩, [1]⟩,
  ⟨⟨some 8, .call 22 [(.t 6), (.t 7)], none⟩, []⟩,
  ⟨⟨some 4, .mv (.t 8), none⟩, []⟩])
 .ret))
def zjv : Lay := ⟨9, [], false⟩
def zk3 : List LRes := [.t 4]
def zqt : LFn := ⟨2, zjv, zp7, zk3⟩
theorem zos : k9 Try.prog [] 9 = some zqt := by kernel_rfl
theorem zno : Y8 Try.prog 9 := ⟨_, Try.func9, rfl, rfl⟩
noncomputable def qo (m : Option Nat) (a0 : List G_QEdge) (a1 : G_QKey) : Option (List G_QKey) :=
 (xi m a0 false).bind fun v1 =>
 (zz m a1 v1.1 v1.2).bind fun v2 =>
 some v2
def zqx (a0 : List G_QEdge) (a1 : G_QKey) (o : (List G_QKey)) : Exit → Env → AHeap → Nat → Prop := Xg zk3 (wu (.isl 3 (o.map z6) false))
theorem zh0 {a0 : List G_QEdge} {a1 : G_QKey} {m : Option Nat} {o : (List G_QKey)} (h : qo m a0 a1 = some o) : LWp Try.prog zjv 0 zp7 (zqx a0 a1 o) (qx 0 [.isl 6 (a0.map z7) false, .agg [.int .i64 a1.f_Kind, .int .i64 a1.f_A, .int .i64 a1.f_B]]) [] 0 := by
 unfold qo at h
 refine zl ?_
 refine y8 ?_
 refine zl ?_
 refine Uw ?_
 obtain ⟨v1, h1, h⟩ := bind_some h
 refine Ya (k := 3) (m := 4) (L' := [((1, 0), .one [.map (2, 0), .isl 3 (v1.1.map z6) false]), ((2, 0), .amap (v1.2.map (em z8 zb)))]) (rest := [((0, 0), .one [.int .i64 a1.f_Kind, .int .i64 a1.f_A, .int .i64 a1.f_B])]) (R' := .ptr (1, 0) 0 0) [] (z1m h1) rfl rfl rfl (And.intro (Vw.same _ rfl) (And.intro (Vw.same _ rfl) trivial)) trivial rfl (And.intro rfl (And.intro rfl (And.intro rfl (And.intro (Zz z8 zb vh zc _) trivial)))) rfl ?_
 refine And.intro rfl ?_
 obtain ⟨v2, h2, h⟩ := bind_some h
 refine Ya (k := 3) (m := 0) (L' := [((1, 0), .one [.map (2, 0), .isl 3 (v1.1.map z6) false]), ((2, 0), .amap (v1.2.map (em z8 zb)))]) (rest := [((0, 0), .one [.int .i64 a1.f_Kind, .int .i64 a1.f_A, .int .i64 a1.f_B])]) (R' := .isl 3 (v2.map z6) false) [((0, 0), (1, 0)), ((0, 1), (2, 0))] (z8m h2) rfl rfl rfl (And.intro (Vw.ptr _ _ _ _ rfl) (And.intro (Vw.same _ rfl) trivial)) (And.intro (h0I (1, 0) rfl rfl (BVw.oneL (And.intro (Vw.map _ _ rfl) (And.intro (Vw.same _ rfl) trivial)))) (And.intro (h0I (2, 0) rfl rfl (BVw.ofMap z8 zb zc v1.2)) trivial)) (k8 _ rfl) (And.intro rfl (And.intro rfl (And.intro rfl (And.intro (Zz z8 zb vh zc _) trivial)))) rfl ?_
 show yd _ _ _ _ _ [(8, .isl 3 (v2.map z6) false), (6, .ptr (1, 0) 0 0), (7, .agg [.int .i64 a1.f_Kind, .int .i64 a1.f_A, .int .i64 a1.f_B]), (5, .isl 6 (a0.map z7) false), (4, .val (.slice none 0 0)), (3, .ptr (0, 0) 0 0), (0, .isl 6 (a0.map z7) false), (1, .agg [.int .i64 a1.f_Kind, .int .i64 a1.f_A, .int .i64 a1.f_B])] _ _
 refine Ze ?_
 cases h
 exact And.intro trivial (And.intro rfl (Vw.same _ rfl))
theorem zpq {a0 : List G_QEdge} {a1 : G_QKey} {m : Option Nat} {o : (List G_QKey)} (h : qo m a0 a1 = some o) : PFn Try.prog 9 [.isl 6 (a0.map z7) false, .agg [.int .i64 a1.f_Kind, .int .i64 a1.f_A, .int .i64 a1.f_B]] (.isl 3 (o.map z6) false) := PFn.ofFnW (L := zqt) zos zno (Nat.le_of_ble_eq_true rfl) rfl (zh0 h)
def zkp : LCode := (.seq (.region [⟨some 15, .bin .lss (.t 14) (.t 13), none⟩])
 (.seq (.cond (.t 15)
  .skip
  (.exit 0))
 (.seq (.block 1
  (.seq (.region [⟨some 16, .mv (.t 14), none⟩,
   ⟨some 17, .iaddr 3 (.t 12) (.t 14), none⟩,
   ⟨some 18, .load true 3 (.t 17), none⟩,
   ⟨some 6, .alloc [(.int .i64 0), (.int .i64 0), (.int .i64 0)], none⟩,
   ⟨some 5, .mv (.t 16), none⟩,
   ⟨none, .store 3 (.t 6) (.t 18), none⟩])
  (.seq (.quiet [⟨some 19, .load true 3 (.t 6), none⟩,
   ⟨some 20, .mv (.t 1), none⟩,
   ⟨some 21, .mv (.t 5), none⟩,
   ⟨some 22, .iaddr 3 (.t 20) (.t 21), none⟩,
   ⟨some 23, .load true 3 (.t 22), none⟩,
   ⟨some 24, .eq true (.agg [.int, .int, .int]) (.t 19) (.t 23), none⟩])
  (.cond (.t 24)
   (.seq (.region [⟨some 4, .mv (.c (.bool false)), none⟩])
   .ret)
   .skip))))
 (.region [⟨some 25, .bin .add (.t 14) (.c (.int .i64 1)), none⟩,
  ⟨some 14, .mv (.t 25), none⟩]))))
def zhv : LCode := (.seq (.region [⟨some 4, .mv (.c (.bool true)), none⟩])
 .ret)
def zo7 : LCode := (.seq (.region [⟨some 4, .mv (.c (.bool false)), none⟩])
 (.seq (.seq (.region [⟨some 7, .mv (.t 0), none⟩,
  ⟨some 8, .len false (.t 7), none⟩,
  ⟨some 9, .mv (.t 1), none⟩,
  ⟨some 10, .len false (.t 9), none⟩,
  ⟨some 11, .bin .neq (.t 8) (.t 10), none⟩])
 (.cond (.t 11)
  (.seq (.region [⟨some 4, .mv (.c (.bool false)), none⟩])
  .ret)
  .skip))
 (.seq (.seq (.region [⟨some 12, .mv (.t 0), none⟩,
  ⟨some 13, .len false (.t 12), none⟩,
  ⟨some 14, .mv (.c (.int .i64 0)), none⟩])
 (.block 0
  (.loop
   zkp)))
 zhv)))
def U3 : Lay := ⟨26, [], false⟩
def zk2 : List LRes := [.t 4]
def zqp : LFn := ⟨2, U3, zo7, zk2⟩
theorem zp1 : k9 Try.prog [] 8 = some zqp := by kernel_rfl
theorem zow : Y8 Try.prog 8 := ⟨_, Try.func8, rfl, rfl⟩
def zpd (a0 : List G_QKey) (a1 : List G_QKey) (o : Bool) : Exit → Env → AHeap → Nat → Prop := Xg zk2 (wu (.bool o))
def z3d (a0 : List G_QKey) (a1 : List G_QKey) (s : Int) : Env := [(1, .isl 3 (a1.map z6) false), (12, .isl 3 (a0.map z6) false), (13, .int .i64 ((a0.map z6).length : Int)), (14, .int .i64 s)]
def z8t (a0 : List G_QKey) (a1 : List G_QKey) (s : Int) : AHeap := []
def zg6 (a0 : List G_QKey) (a1 : List G_QKey) (o : Bool) : Exit → Env → AHeap → Nat → Prop := (yv 0 (uv Try.prog U3 0 zhv (zpd a0 a1 o)))
noncomputable def x3 (m : Option Nat) : Option Bool :=
 some true
noncomputable def y9 (m : Option Nat) (a0 : List G_QKey) (a1 : List G_QKey) (v1 : Int) : Option (Int ⊕ Bool) :=
 if (decide (v1 < ((a0.map z6).length : Int))) = true then
  if (0 : Int) ≤ v1 ∧ v1 < ((a0.map z6).length : Int) then
  if (0 : Int) ≤ v1 ∧ v1 < ((a1.map z6).length : Int) then
  if (!(((a0.getD v1.toNat default).f_Kind == (a1.getD v1.toNat default).f_Kind) && (((a0.getD v1.toNat default).f_A == (a1.getD v1.toNat default).f_A) && (((a0.getD v1.toNat default).f_B == (a1.getD v1.toNat default).f_B) && true)))) = true then
   Option.map Sum.inr (
    some false)
  else
   some (.inl (W (v1 + 1)))
  else none
  else none
 else
  Option.map Sum.inr (
   x3 m)
noncomputable def yy (m : Option Nat) (a0 : List G_QKey) (a1 : List G_QKey) (v1 : Int) : Option Bool := u5 m (fun (s : Int) => y9 m a0 a1 s) v1
theorem zjb {a0 : List G_QKey} {a1 : List G_QKey} {m : Option Nat} {o : Bool} (h : x3 m = some o) :
 LWp Try.prog U3 0 zhv (zpd a0 a1 o) [] [] 0 := by
 unfold x3 at h
 refine zl ?_
 refine y8 ?_
 refine Ze ?_
 cases h
 exact And.intro trivial (And.intro rfl (Vw.same _ rfl))
theorem zf9 {a0 : List G_QKey} {a1 : List G_QKey} {v1 : Int} {m : Option Nat} {o : Int ⊕ Bool} (h : y9 m a0 a1 v1 = some o) :
 LWp Try.prog U3 0 zkp (wj 0 0 (z3d a0 a1) (z8t a0 a1) (zg6 a0 a1) o) [(1, .isl 3 (a1.map z6) false), (12, .isl 3 (a0.map z6) false), (13, .int .i64 ((a0.map z6).length : Int)), (14, .int .i64 v1)] [] 0 := by
 unfold y9 at h
 refine zl ?_
 refine y8 ?_
 refine zl ?_
 refine w5 (v := (decide (v1 < ((a0.map z6).length : Int)))) rfl trivial (fun h10 => ?_) (fun h10 => ?_)
 ·have h := q7 h10 h
  refine w7 ?_
  refine zl ?_
  refine j8 ?_
  refine zl ?_
  refine y8 ?_
  obtain ⟨h11, h⟩ := y4 h
  refine And.intro h11 ?_
  refine Exists.intro (z6 (a0.getD v1.toNat default)) (And.intro (jm z6 _ _ (wx z6 h11)) (And.intro (And.intro (kw h11) (Nat.le_of_ble_eq_true rfl)) ?_))
  refine zl ?_
  refine zco ?_
  obtain ⟨h12, h⟩ := y4 h
  refine And.intro h12 ?_
  show yqs _ _ [(22, .iptr 3 (a1.map z6) v1.toNat 0), (21, .int .i64 v1), (20, .isl 3 (a1.map z6) false), (19, .agg [.int .i64 ((a0.getD v1.toNat default).f_Kind), .int .i64 ((a0.getD v1.toNat default).f_A), .int .i64 ((a0.getD v1.toNat default).f_B)]), (5, .int .i64 v1), (6, .ptr (0, 0) 0 0), (18, .agg [.int .i64 ((a0.getD v1.toNat default).f_Kind), .int .i64 ((a0.getD v1.toNat default).f_A), .int .i64 ((a0.getD v1.toNat default).f_B)]), (17, .iptr 3 (a0.map z6) v1.toNat 0), (16, .int .i64 v1), (15, .bool (decide (v1 < ((a0.map z6).length : Int)))), (1, .isl 3 (a1.map z6) false), (12, .isl 3 (a0.map z6) false), (13, .int .i64 ((a0.map z6).length : Int)), (14, .int .i64 v1)] _ _
  refine Exists.intro (z6 (a1.getD v1.toNat default)) (And.intro (jm z6 _ _ (wx z6 h12)) (And.intro (And.intro (kw h12) (Nat.le_of_ble_eq_true rfl)) ?_))
  refine LWp.sim (e := [(1, .isl 3 (a1.map z6) false), (12, .isl 3 (a0.map z6) false), (13, .int .i64 ((a0.map z6).length : Int)), (14, .int .i64 v1), (24, .bool (!(((a0.getD v1.toNat default).f_Kind == (a1.getD v1.toNat default).f_Kind) && (((a0.getD v1.toNat default).f_A == (a1.getD v1.toNat default).f_A) && (((a0.getD v1.toNat default).f_B == (a1.getD v1.toNat default).f_B) && true)))))]) (L := []) (n := 0) ?_ ?_
  ·exact jh (M := []) rfl (And.intro (Vw.same _ rfl) (And.intro (Vw.same _ rfl) (And.intro (Vw.same _ rfl) (And.intro (Vw.same _ rfl) (And.intro (Vw.same _ rfl) trivial))))) trivial
  refine w5 (v := (!(((a0.getD v1.toNat default).f_Kind == (a1.getD v1.toNat default).f_Kind) && (((a0.getD v1.toNat default).f_A == (a1.getD v1.toNat default).f_A) && (((a0.getD v1.toNat default).f_B == (a1.getD v1.toNat default).f_B) && true))))) rfl trivial (fun h13 => ?_) (fun h13 => ?_)
  ·have h := q7 h13 h
   refine zl ?_
   refine y8 ?_
   refine Ze ?_
   obtain ⟨o, hq, rfl⟩ := Option.map_eq_some_iff.1 h
   replace h := hq; clear hq
   refine And.intro nofun ?_
   cases h
   exact And.intro trivial (And.intro rfl (Vw.same _ rfl))
  ·have h := qq h13 h
   refine w7 ?_
   refine y8 ?_
   cases h
   exact And.intro rfl (jh (M := []) rfl (And.intro (Vw.same _ rfl) (And.intro (Vw.same _ rfl) (And.intro (Vw.same _ rfl) (And.intro (Vw.same _ rfl) trivial)))) trivial)
 ·have h := qq h10 h
  refine Zp ?_
  obtain ⟨o, hq, rfl⟩ := Option.map_eq_some_iff.1 h
  replace h := hq; clear hq
  refine And.intro nofun ?_
  refine LWp.sim ?_ (zjb h)
  exact jh (M := []) rfl trivial trivial
theorem zio {a0 : List G_QKey} {a1 : List G_QKey} {v1 : Int} {m : Option Nat} {o : Bool} (h : yy m a0 a1 v1 = some o) :
 LWp Try.prog U3 0 (.loop zkp) (yv 0 (uv Try.prog U3 0 zhv (zpd a0 a1 o))) [(1, .isl 3 (a1.map z6) false), (12, .isl 3 (a0.map z6) false), (13, .int .i64 ((a0.map z6).length : Int)), (14, .int .i64 v1)] [] 0 :=
 j0 (m := m) (s := (v1 : Int)) (r := o) (fun (s : Int) => y9 m a0 a1 s) (z3d a0 a1) (z8t a0 a1) (zg6 a0 a1) (fun s o h => zf9 h) h
noncomputable def zp (m : Option Nat) (a0 : List G_QKey) (a1 : List G_QKey) : Option Bool :=
 if (((a0.map z6).length : Int) != ((a1.map z6).length : Int)) = true then
  some false
 else
  yy m a0 a1 0
theorem zhm {a0 : List G_QKey} {a1 : List G_QKey} {m : Option Nat} {o : Bool} (h : zp m a0 a1 = some o) : LWp Try.prog U3 0 zo7 (zpd a0 a1 o) (qx 0 [.isl 3 (a0.map z6) false, .isl 3 (a1.map z6) false]) [] 0 := by
 unfold zp at h
 refine zl ?_
 refine y8 ?_
 refine zl ?_
 refine zl ?_
 refine y8 ?_
 refine w5 (v := (((a0.map z6).length : Int) != ((a1.map z6).length : Int))) rfl trivial (fun h1 => ?_) (fun h1 => ?_)
 ·have h := q7 h1 h
  refine zl ?_
  refine y8 ?_
  refine Ze ?_
  cases h
  exact And.intro trivial (And.intro rfl (Vw.same _ rfl))
 ·have h := qq h1 h
  refine w7 ?_
  refine zl ?_
  refine zl ?_
  refine y8 ?_
  refine LWp.sim (e := [(1, .isl 3 (a1.map z6) false), (12, .isl 3 (a0.map z6) false), (13, .int .i64 ((a0.map z6).length : Int)), (14, .int .i64 0)]) (L := []) (n := 0) ?_ ?_
  ·exact jh (M := []) rfl (And.intro (Vw.same _ rfl) (And.intro (Vw.same _ rfl) (And.intro (Vw.same _ rfl) (And.intro (Vw.same _ rfl) trivial)))) trivial
  refine j8 ?_
  refine LWp.sim ?_ (zio h)
  exact jh (M := []) rfl (And.intro (Vw.same _ rfl) (And.intro (Vw.same _ rfl) (And.intro (Vw.same _ rfl) (And.intro (Vw.same _ rfl) trivial)))) trivial
theorem zmq {a0 : List G_QKey} {a1 : List G_QKey} {m : Option Nat} {o : Bool} (h : zp m a0 a1 = some o) : PFn Try.prog 8 [.isl 3 (a0.map z6) false, .isl 3 (a1.map z6) false] (.bool o) := PFn.ofFnW (L := zqp) zp1 zow (Nat.le_of_ble_eq_true rfl) rfl (zhm h)
def zjo : LCode := (.seq (.region [⟨some 3, .box (.t 1), none⟩,
 ⟨some 4, .mv (.c (.val (.slice none 0 0))), none⟩])
 (.seq (.draw [⟨⟨some 5, .mv (.t 0), none⟩, []⟩,
  ⟨⟨some 7, .load true 3 (.t 3), none⟩, []⟩,
  ⟨⟨some 6, .call 21 [(.t 5), (.c (.bool true))], none⟩, [1]⟩,
  ⟨⟨some 8, .call 22 [(.t 6), (.t 7)], none⟩, []⟩,
  ⟨⟨some 4, .mv (.t 8), none⟩, []⟩])
 .ret))
def zed : Lay := ⟨9, [], false⟩
def zf6 : List LRes := [.t 4]
def zp3 : LFn := ⟨2, zed, zjo, zf6⟩
theorem zly : k9 Try.prog [] 11 = some zp3 := by kernel_rfl
theorem zm6 : Y8 Try.prog 11 := ⟨_, Try.func11, rfl, rfl⟩
noncomputable def xa (m : Option Nat) (a0 : List G_QEdge) (a1 : G_QKey) : Option (List G_QKey) :=
 (xi m a0 true).bind fun v1 =>
 (zz m a1 v1.1 v1.2).bind fun v2 =>
 some v2
def zq3 (a0 : List G_QEdge) (a1 : G_QKey) (o : (List G_QKey)) : Exit → Env → AHeap → Nat → Prop := Xg zf6 (wu (.isl 3 (o.map z6) false))
theorem ze2 {a0 : List G_QEdge} {a1 : G_QKey} {m : Option Nat} {o : (List G_QKey)} (h : xa m a0 a1 = some o) : LWp Try.prog zed 0 zjo (zq3 a0 a1 o) (qx 0 [.isl 6 (a0.map z7) false, .agg [.int .i64 a1.f_Kind, .int .i64 a1.f_A, .int .i64 a1.f_B]]) [] 0 := by
 unfold xa at h
 refine zl ?_
 refine y8 ?_
 refine zl ?_
 refine Uw ?_
 obtain ⟨v1, h1, h⟩ := bind_some h
 refine Ya (k := 3) (m := 4) (L' := [((1, 0), .one [.map (2, 0), .isl 3 (v1.1.map z6) false]), ((2, 0), .amap (v1.2.map (em z8 zb)))]) (rest := [((0, 0), .one [.int .i64 a1.f_Kind, .int .i64 a1.f_A, .int .i64 a1.f_B])]) (R' := .ptr (1, 0) 0 0) [] (z1m h1) rfl rfl rfl (And.intro (Vw.same _ rfl) (And.intro (Vw.same _ rfl) trivial)) trivial rfl (And.intro rfl (And.intro rfl (And.intro rfl (And.intro (Zz z8 zb vh zc _) trivial)))) rfl ?_
 refine And.intro rfl ?_
 obtain ⟨v2, h2, h⟩ := bind_some h
 refine Ya (k := 3) (m := 0) (L' := [((1, 0), .one [.map (2, 0), .isl 3 (v1.1.map z6) false]), ((2, 0), .amap (v1.2.map (em z8 zb)))]) (rest := [((0, 0), .one [.int .i64 a1.f_Kind, .int .i64 a1.f_A, .int .i64 a1.f_B])]) (R' := .isl 3 (v2.map z6) false) [((0, 0), (1, 0)), ((0, 1), (2, 0))] (z8m h2) rfl rfl rfl (And.intro (Vw.ptr _ _ _ _ rfl) (And.intro (Vw.same _ rfl) trivial)) (And.intro (h0I (1, 0) rfl rfl (BVw.oneL (And.intro (Vw.map _ _ rfl) (And.intro (Vw.same _ rfl) trivial)))) (And.intro (h0I (2, 0) rfl rfl (BVw.ofMap z8 zb zc v1.2)) trivial)) (k8 _ rfl) (And.intro rfl (And.intro rfl (And.intro rfl (And.intro (Zz z8 zb vh zc _) trivial)))) rfl ?_
 show yd _ _ _ _ _ [(8, .isl 3 (v2.map z6) false), (6, .ptr (1, 0) 0 0), (7, .agg [.int .i64 a1.f_Kind, .int .i64 a1.f_A, .int .i64 a1.f_B]), (5, .isl 6 (a0.map z7) false), (4, .val (.slice none 0 0)), (3, .ptr (0, 0) 0 0), (0, .isl 6 (a0.map z7) false), (1, .agg [.int .i64 a1.f_Kind, .int .i64 a1.f_A, .int .i64 a1.f_B])] _ _
 refine Ze ?_
 cases h
 exact And.intro trivial (And.intro rfl (Vw.same _ rfl))
theorem zna {a0 : List G_QEdge} {a1 : G_QKey} {m : Option Nat} {o : (List G_QKey)} (h : xa m a0 a1 = some o) : PFn Try.prog 11 [.isl 6 (a0.map z7) false, .agg [.int .i64 a1.f_Kind, .int .i64 a1.f_A, .int .i64 a1.f_B]] (.isl 3 (o.map z6) false) := PFn.ofFnW (L := zp3) zly zm6 (Nat.le_of_ble_eq_true rfl) rfl (ze2 h)
def znc : LCode := (.seq (.region [⟨some 0, .mv (.c (.bool false)), none⟩])
 (.seq (.region [⟨some 5, .build [(.int .i64 0), (.int .i64 0), (.int .i64 0)] [(1, 1, (.c (.int .i64 1)))], none⟩,
  ⟨some 6, .build [(.int .i64 0), (.int .i64 0), (.int .i64 0)] [(1, 1, (.c (.int .i64 2)))], none⟩,
  ⟨some 7, .build [(.int .i64 0), (.int .i64 0), (.int .i64 0)] [(1, 1, (.c (.int .i64 3)))], none⟩,
  ⟨some 1, .alloc [(.int .i64 0), (.int .i64 0), (.int .i64 0)], none⟩,
  ⟨some 2, .alloc [(.int .i64 0), (.int .i64 0), (.int .i64 0)], none⟩,
  ⟨some 3, .alloc [(.int .i64 0), (.int .i64 0), (.int .i64 0)], none⟩,
  ⟨none, .store 3 (.t 1) (.t 5), none⟩,
  ⟨none, .store 3 (.t 2) (.t 6), none⟩,
  ⟨none, .store 3 (.t 3) (.t 7), none⟩])
 (.seq (.region [⟨some 8, .load true 3 (.t 3), none⟩,
  ⟨some 9, .load true 3 (.t 2), none⟩,
  ⟨some 10, .build [(.int .i64 0), (.int .i64 0), (.int .i64 0), (.int .i64 0), (.int .i64 0), (.int .i64 0)] [(0, 3, (.t 8)), (3, 3, (.t 9))], none⟩,
  ⟨some 11, .load true 3 (.t 2), none⟩,
  ⟨some 12, .load true 3 (.t 1), none⟩,
  ⟨some 13, .build [(.int .i64 0), (.int .i64 0), (.int .i64 0), (.int .i64 0), (.int .i64 0), (.int .i64 0)] [(0, 3, (.t 11)), (3, 3, (.t 12))], none⟩,
  ⟨some 14, .mkSl true 6 [(.int .i64 0), (.int .i64 0), (.int .i64 0), (.int .i64 0), (.int .i64 0), (.int .i64 0)] 2 [(0, (.t 10)), (1, (.t 13))], none⟩,
  ⟨some 4, .mv (.t 14), none⟩])
 (.seq (.draw [⟨⟨some 15, .mv (.t 4), none⟩, []⟩,
  ⟨⟨some 16, .load true 3 (.t 3), none⟩, []⟩,
  ⟨⟨some 18, .load true 3 (.t 1), none⟩, []⟩,
  ⟨⟨some 19, .load true 3 (.t 2), none⟩, []⟩,
  ⟨⟨some 20, .mkSl true 3 [(.int .i64 0), (.int .i64 0), (.int .i64 0)] 2 [(0, (.t 18)), (1, (.t 19))], none⟩, []⟩,
  ⟨⟨some 17, .call 9 [(.t 15), (.t 16)], none⟩, [2, 3]⟩,
  ⟨⟨some 21, .call 8 [(.t 17), (.t 20)], none⟩, []⟩,
  ⟨⟨some 22, .mv (.t 21), none⟩, []⟩,
  ⟨⟨some 23, .mv (.t 4), some (22, true)⟩, []⟩,
  ⟨⟨some 24, .load true 3 (.t 1), some (22, true)⟩, []⟩,
  ⟨⟨some 26, .load true 3 (.t 2), some (22, true)⟩, []⟩,
  ⟨⟨some 27, .load true 3 (.t 3), some (22, true)⟩, []⟩,
  ⟨⟨some 28, .mkSl true 3 [(.int .i64 0), (.int .i64 0), (.int .i64 0)] 2 [(0, (.t 26)), (1, (.t 27))], some (22, true)⟩, []⟩,
  ⟨⟨some 25, .call 11 [(.t 23), (.t 24)], some (22, true)⟩, [10, 11]⟩,
  ⟨⟨some 29, .call 8 [(.t 25), (.t 28)], some (22, true)⟩, []⟩,
  ⟨⟨some 30, .pick (.t 22) (.t 29) (.c (.bool false)), none⟩, []⟩,
  ⟨⟨some 0, .mv (.t 30), none⟩, []⟩])
 .ret))))
def zjc : Lay := ⟨31, [], false⟩
def zjr : List LRes := [.t 0]
def zqi : LFn := ⟨0, zjc, znc, zjr⟩
theorem znp : k9 Try.prog [] 7 = some zqi := by kernel_rfl
theorem zo6 : Y8 Try.prog 7 := ⟨_, Try.func7, rfl, rfl⟩
noncomputable def y1 (m : Option Nat) : Option Bool :=
 (qo m ([(G_QEdge.mk (G_QKey.mk 0 3 0) (G_QKey.mk 0 2 0)), (G_QEdge.mk (G_QKey.mk 0 2 0) (G_QKey.mk 0 1 0))] : List G_QEdge) (G_QKey.mk 0 3 0)).bind fun v1 =>
 (zp m v1 ([(G_QKey.mk 0 1 0), (G_QKey.mk 0 2 0)] : List G_QKey)).bind fun v2 =>
 (if (v2 == true) = true then xa m ([(G_QEdge.mk (G_QKey.mk 0 3 0) (G_QKey.mk 0 2 0)), (G_QEdge.mk (G_QKey.mk 0 2 0) (G_QKey.mk 0 1 0))] : List G_QEdge) (G_QKey.mk 0 1 0) else some default).bind fun v3 =>
 (if (v2 == true) = true then zp m v3 ([(G_QKey.mk 0 2 0), (G_QKey.mk 0 3 0)] : List G_QKey) else some default).bind fun v4 =>
 some (v2 && v4)
def zqu (o : Bool) : Exit → Env → AHeap → Nat → Prop := Xg zjr (wu (.bool o))
theorem zht {m : Option Nat} {o : Bool} (h : y1 m = some o) : LWp Try.prog zjc 0 znc (zqu o) (qx 0 []) [] 0 := by
 unfold y1 at h
 refine zl ?_
 refine y8 ?_
 refine zl ?_
 refine y8 ?_
 refine LWp.sim (e := [(1, .ptr (0, 0) 0 0), (2, .ptr (1, 0) 0 0), (3, .ptr (2, 0) 0 0)]) (L := [((0, 0), .one [.int .i64 0, .int .i64 1, .int .i64 0]), ((1, 0), .one [.int .i64 0, .int .i64 2, .int .i64 0]), ((2, 0), .one [.int .i64 0, .int .i64 3, .int .i64 0])]) (n := 3) ?_ ?_
 ·exact jh (M := [((0, 0), (0, 0)), ((1, 0), (1, 0)), ((2, 0), (2, 0))]) rfl (And.intro (Vw.ptr _ _ _ _ rfl) (And.intro (Vw.ptr _ _ _ _ rfl) (And.intro (Vw.ptr _ _ _ _ rfl) trivial))) (And.intro (And.intro rfl (BVw.oneL (And.intro (Vw.same _ rfl) (And.intro (Vw.same _ rfl) (And.intro (Vw.same _ rfl) trivial))))) (And.intro (And.intro rfl (BVw.oneL (And.intro (Vw.same _ rfl) (And.intro (Vw.same _ rfl) (And.intro (Vw.same _ rfl) trivial))))) (And.intro (And.intro rfl (BVw.oneL (And.intro (Vw.same _ rfl) (And.intro (Vw.same _ rfl) (And.intro (Vw.same _ rfl) trivial))))) trivial)))
 refine zl ?_
 refine y8 ?_
 refine LWp.sim (e := [(1, .ptr (0, 0) 0 0), (2, .ptr (1, 0) 0 0), (3, .ptr (2, 0) 0 0), (4, .isl 6 (([(G_QEdge.mk (G_QKey.mk 0 3 0) (G_QKey.mk 0 2 0)), (G_QEdge.mk (G_QKey.mk 0 2 0) (G_QKey.mk 0 1 0))] : List G_QEdge).map z7) true)]) (L := [((0, 0), .one [.int .i64 0, .int .i64 1, .int .i64 0]), ((1, 0), .one [.int .i64 0, .int .i64 2, .int .i64 0]), ((2, 0), .one [.int .i64 0, .int .i64 3, .int .i64 0])]) (n := 3) ?_ ?_
 ·exact jh (M := [((0, 0), (0, 0)), ((1, 0), (1, 0)), ((2, 0), (2, 0))]) rfl (And.intro (Vw.ptr _ _ _ _ rfl) (And.intro (Vw.ptr _ _ _ _ rfl) (And.intro (Vw.ptr _ _ _ _ rfl) (And.intro (Vw.same _ rfl) trivial)))) (And.intro (And.intro rfl (BVw.oneL (And.intro (Vw.same _ rfl) (And.intro (Vw.same _ rfl) (And.intro (Vw.same _ rfl) trivial))))) (And.intro (And.intro rfl (BVw.oneL (And.intro (Vw.same _ rfl) (And.intro (Vw.same _ rfl) (And.intro (Vw.same _ rfl) trivial))))) (And.intro (And.intro rfl (BVw.oneL (And.intro (Vw.same _ rfl) (And.intro (Vw.same _ rfl) (And.intro (Vw.same _ rfl) trivial))))) trivial)))
 refine zl ?_
 refine Uw ?_
 obtain ⟨v1, h1, h⟩ := bind_some h
 refine PFn.call (zpq h1) (And.intro (Vw.islF _ _ _) (And.intro (Vw.same _ rfl) trivial)) ?_
 refine And.intro rfl ?_
 refine And.intro rfl ?_
 obtain ⟨v2, h2, h⟩ := bind_some h
 refine PFn.call (zmq h2) (And.intro (Vw.same _ rfl) (And.intro (Vw.islF _ _ _) trivial)) ?_
 show yd _ _ _ _ _ [(21, .bool v2), (17, .isl 3 (v1.map z6) false), (20, .isl 3 (([(G_QKey.mk 0 1 0), (G_QKey.mk 0 2 0)] : List G_QKey).map z6) true), (19, .agg [.int .i64 0, .int .i64 2, .int .i64 0]), (18, .agg [.int .i64 0, .int .i64 1, .int .i64 0]), (16, .agg [.int .i64 0, .int .i64 3, .int .i64 0]), (15, .isl 6 (([(G_QEdge.mk (G_QKey.mk 0 3 0) (G_QKey.mk 0 2 0)), (G_QEdge.mk (G_QKey.mk 0 2 0) (G_QKey.mk 0 1 0))] : List G_QEdge).map z7) true), (1, .ptr (0, 0) 0 0), (2, .ptr (1, 0) 0 0), (3, .ptr (2, 0) 0 0), (4, .isl 6 (([(G_QEdge.mk (G_QKey.mk 0 3 0) (G_QKey.mk 0 2 0)), (G_QEdge.mk (G_QKey.mk 0 2 0) (G_QKey.mk 0 1 0))] : List G_QEdge).map z7) true)] _ _
 refine Or.inl (Exists.intro (.isl 3 (([(G_QKey.mk 0 2 0), (G_QKey.mk 0 3 0)] : List G_QKey).map z6) true) (And.intro (fun hp => And.intro (And.intro hp hp) (And.intro rfl (And.intro rfl rfl))) ?_))
 obtain ⟨v3, h3, h⟩ := bind_some h
 refine Or.inl (Exists.intro (.isl 3 (v3.map z6) false) (And.intro (fun hp => And.intro (And.intro hp hp) (PFn.call (zna (q7 hp h3)) (And.intro (Vw.islF _ _ _) (And.intro (Vw.same _ rfl) trivial)) (And.intro rfl (And.intro rfl rfl)))) ?_))
 refine And.intro (And.intro rfl (fun hp => rfl)) ?_
 refine And.intro (And.intro rfl (fun hp => rfl)) ?_
 obtain ⟨v4, h4, h⟩ := bind_some h
 refine Or.inl (Exists.intro (.bool v4) (And.intro (fun hp => And.intro (And.intro hp hp) (PFn.call (zmq (q7 hp h4)) (And.intro (Vw.same _ rfl) (And.intro (Vw.islF _ _ _) trivial)) (And.intro rfl (And.intro rfl rfl)))) ?_))
 refine And.intro (fun hc => (bqt hc)) ?_
 show yd _ _ _ _ _ [(30, .bool (v2 && v4)), (29, .cnd (v2 == true) (.bool v4)), (25, .cnd (v2 == true) (.isl 3 (v3.map z6) false)), (28, .cnd (v2 == true) (.isl 3 (([(G_QKey.mk 0 2 0), (G_QKey.mk 0 3 0)] : List G_QKey).map z6) true)), (27, .cnd (v2 == true) (.agg [.int .i64 0, .int .i64 3, .int .i64 0])), (26, .cnd (v2 == true) (.agg [.int .i64 0, .int .i64 2, .int .i64 0])), (24, .cnd (v2 == true) (.agg [.int .i64 0, .int .i64 1, .int .i64 0])), (23, .cnd (v2 == true) (.isl 6 (([(G_QEdge.mk (G_QKey.mk 0 3 0) (G_QKey.mk 0 2 0)), (G_QEdge.mk (G_QKey.mk 0 2 0) (G_QKey.mk 0 1 0))] : List G_QEdge).map z7) true)), (22, .bool v2), (21, .bool v2), (17, .isl 3 (v1.map z6) false), (20, .isl 3 (([(G_QKey.mk 0 1 0), (G_QKey.mk 0 2 0)] : List G_QKey).map z6) true), (19, .agg [.int .i64 0, .int .i64 2, .int .i64 0]), (18, .agg [.int .i64 0, .int .i64 1, .int .i64 0]), (16, .agg [.int .i64 0, .int .i64 3, .int .i64 0]), (15, .isl 6 (([(G_QEdge.mk (G_QKey.mk 0 3 0) (G_QKey.mk 0 2 0)), (G_QEdge.mk (G_QKey.mk 0 2 0) (G_QKey.mk 0 1 0))] : List G_QEdge).map z7) true), (1, .ptr (0, 0) 0 0), (2, .ptr (1, 0) 0 0), (3, .ptr (2, 0) 0 0), (4, .isl 6 (([(G_QEdge.mk (G_QKey.mk 0 3 0) (G_QKey.mk 0 2 0)), (G_QEdge.mk (G_QKey.mk 0 2 0) (G_QKey.mk 0 1 0))] : List G_QEdge).map z7) true)] _ _
 refine LWp.sim (e := [(0, .bool (v2 && v4))]) (L := []) (n := 0) ?_ ?_
 ·exact jh (M := []) rfl (And.intro (Vw.same _ rfl) trivial) trivial
 refine Ze ?_
 cases h
 exact And.intro trivial (And.intro rfl (Vw.same _ rfl))
theorem zkv {m : Option Nat} {o : Bool} (h : y1 m = some o) : PFn Try.prog 7 [] (.bool o) := PFn.ofFnW (L := zqi) znp zo6 (Nat.le_of_ble_eq_true rfl) rfl (zht h)
def z7u : LCode := (.seq (.region [⟨some 2, .box (.t 0), none⟩,
 ⟨some 3, .mv (.c (.bool false)), none⟩])
 (.seq (.region [⟨some 4, .load false 1 (.t 1), none⟩,
  ⟨some 5, .load true 3 (.t 2), none⟩,
  ⟨some 6, .mlook [.int, .int, .int] true false false [(.int .i64 0)] (.t 4) (.t 5), none⟩,
  ⟨some 7, .bin .eql (.t 6) (.c (.int .i64 0)), none⟩,
  ⟨some 3, .mv (.t 7), none⟩])
 .ret))
def z4l : Lay := ⟨8, [], false⟩
def z3x : List LRes := [.t 3]
def zeo : LFn := ⟨2, z4l, z7u, z3x⟩
theorem zfg : k9 Try.prog [] 42 = some zeo := by kernel_rfl
theorem zby : Y8 Try.prog 42 := ⟨_, Try.func42, rfl, rfl⟩
noncomputable def jc (m : Option Nat) (a0 : G_QKey) (a1 : List (G_QKey × Int)) : Option Bool :=
 some (((lk ze a1 a0).getD 0) == 0)
def zmj (a0 : G_QKey) (a1 : List (G_QKey × Int)) (o : Bool) : Exit → Env → AHeap → Nat → Prop := Xg z3x (Xy 3 3 (.bool o) [((0, 0), .one [.map (0, 1)]), ((0, 1), .amap (a1.map (em z8 yb)))])
theorem z6i {a0 : G_QKey} {a1 : List (G_QKey × Int)} {m : Option Nat} {o : Bool} (h : jc m a0 a1 = some o) : LWp Try.prog z4l 3 z7u (zmj a0 a1 o) (qx 0 [.agg [.int .i64 a0.f_Kind, .int .i64 a0.f_A, .int .i64 a0.f_B], .ptr (0, 0) 0 0]) [((0, 0), .one [.map (0, 1)]), ((0, 1), .amap (a1.map (em z8 yb)))] 3 := by
 unfold jc at h
 refine zl ?_
 refine y8 ?_
 refine zl ?_
 refine y8 ?_
 refine Exists.intro (.int .i64 ((lk ze a1 a0).getD 0)) (And.intro (z11 (ek := z8) (ev := yb) (z := 0) jd rfl a0 a1) (And.intro (Z6 (ek := z8) (ev := yb) jd _ _) ?_))
 refine Ze ?_
 cases h
 exact And.intro trivial (zih (n' := 4) [] [] rfl rfl (Vw.same _ rfl) (And.intro (And.intro rfl (BVw.oneL (And.intro (Vw.map _ _ rfl) trivial))) (And.intro (And.intro rfl (BVw.ofMap z8 yb zo a1)) trivial)))
theorem zhh {a0 : G_QKey} {a1 : List (G_QKey × Int)} {m : Option Nat} {o : Bool} (h : jc m a0 a1 = some o) : ACalls Try.prog 42 [.agg [.int .i64 a0.f_Kind, .int .i64 a0.f_A, .int .i64 a0.f_B], .ptr (0, 0) 0 0] [((0, 0), .one [.map (0, 1)]), ((0, 1), .amap (a1.map (em z8 yb)))] 3 (vr 3 (.bool o) [((0, 0), .one [.map (0, 1)]), ((0, 1), .amap (a1.map (em z8 yb)))]) := Xf (L := zeo) zfg zby (Nat.le_of_ble_eq_true rfl) (z6i h)
def z1u : LCode := (.seq (.region [⟨some 9, .bin .lss (.t 8) (.t 7), none⟩])
 (.seq (.cond (.t 9)
  .skip
  (.exit 0))
 (.seq (.block 1
  (.seq (.region [⟨some 10, .mv (.t 8), none⟩,
   ⟨some 5, .mv (.t 10), none⟩])
  (.seq (.region [⟨some 11, .mv (.t 1), none⟩,
   ⟨some 12, .mv (.t 0), none⟩,
   ⟨some 13, .mv (.t 5), none⟩,
   ⟨some 14, .iaddr 3 (.t 12) (.t 13), none⟩,
   ⟨some 15, .load true 3 (.t 14), none⟩,
   ⟨some 16, .callv (.t 11) [(.t 15)], none⟩])
  (.cond (.t 16)
   (.seq (.region [⟨some 17, .mv (.t 5), none⟩,
    ⟨some 4, .mv (.t 17), none⟩])
   .ret)
   .skip))))
 (.region [⟨some 18, .bin .add (.t 8) (.c (.int .i64 1)), none⟩,
  ⟨some 8, .mv (.t 18), none⟩]))))
def V9 : LCode := (.seq (.region [⟨some 4, .mv (.c (.int .i64 (-1))), none⟩])
 .ret)
def z7x : LCode := (.seq (.region [⟨some 4, .mv (.c (.int .i64 0)), none⟩])
 (.seq (.seq (.region [⟨some 6, .mv (.t 0), none⟩,
  ⟨some 7, .len false (.t 6), none⟩,
  ⟨some 8, .mv (.c (.int .i64 0)), none⟩])
 (.block 0
  (.loop
   z1u)))
 V9))
def Zh : Lay := ⟨19, [], false⟩
def z3e : List LRes := [.t 4]
def zbz : LFn := ⟨2, Zh, z7x, z3e⟩
theorem zdj : k9 Try.prog [] 25 = some zbz := by kernel_rfl
theorem zge : Y8 Try.prog 25 := ⟨_, Try.func25, rfl, rfl⟩
def z20 (a0 : List G_QKey) (a1 : List (G_QKey × Int)) (o : Int) : Exit → Env → AHeap → Nat → Prop := Xg z3e (Xy 3 3 (.int .i64 o) [((0, 0), .one [.map (0, 1)]), ((0, 1), .amap (a1.map (em z8 yb)))])
def V1 (a0 : List G_QKey) (a1 : List (G_QKey × Int)) (s : Int) : Env := [(0, .isl 3 (a0.map z6) false), (1, .fn (.func 42) [] [.ptr (0, 0) 0 0]), (7, .int .i64 ((a0.map z6).length : Int)), (8, .int .i64 s)]
def Ki (a0 : List G_QKey) (a1 : List (G_QKey × Int)) (s : Int) : AHeap := [((0, 0), .one [.map (0, 1)]), ((0, 1), .amap (a1.map (em z8 yb)))]
def z0t (a0 : List G_QKey) (a1 : List (G_QKey × Int)) (o : Int) : Exit → Env → AHeap → Nat → Prop := (yv 0 (uv Try.prog Zh 3 V9 (z20 a0 a1 o)))
noncomputable def xr (m : Option Nat) (a1 : List (G_QKey × Int)) : Option Int :=
 some (-1)
noncomputable def y7 (m : Option Nat) (a0 : List G_QKey) (a1 : List (G_QKey × Int)) (v2 : Int) : Option (Int ⊕ Int) :=
 if (decide (v2 < ((a0.map z6).length : Int))) = true then
  if (0 : Int) ≤ v2 ∧ v2 < ((a0.map z6).length : Int) then
  (jc m (G_QKey.mk ((a0.getD v2.toNat default).f_Kind) ((a0.getD v2.toNat default).f_A) ((a0.getD v2.toNat default).f_B)) a1).bind fun v4 =>
  if v4 = true then
   Option.map Sum.inr (
    some v2)
  else
   some (.inl (W (v2 + 1)))
  else none
 else
  Option.map Sum.inr (
   xr m a1)
noncomputable def y6 (m : Option Nat) (a0 : List G_QKey) (a1 : List (G_QKey × Int)) (v2 : Int) : Option Int := u5 m (fun (s : Int) => y7 m a0 a1 s) v2
theorem z6w {a0 : List G_QKey} {a1 : List (G_QKey × Int)} {m : Option Nat} {o : Int} (h : xr m a1 = some o) :
 LWp Try.prog Zh 3 V9 (z20 a0 a1 o) [] [((0, 0), .one [.map (0, 1)]), ((0, 1), .amap (a1.map (em z8 yb)))] 3 := by
 unfold xr at h
 refine zl ?_
 refine y8 ?_
 refine Ze ?_
 cases h
 exact And.intro trivial (zih (n' := 3) [] [] rfl rfl (Vw.same _ rfl) (And.intro (And.intro rfl (BVw.oneL (And.intro (Vw.map _ _ rfl) trivial))) (And.intro (And.intro rfl (BVw.ofMap z8 yb zo a1)) trivial)))
theorem z3y {a0 : List G_QKey} {a1 : List (G_QKey × Int)} {v2 : Int} {m : Option Nat} {o : Int ⊕ Int} (h : y7 m a0 a1 v2 = some o) :
 LWp Try.prog Zh 3 z1u (wj 3 3 (V1 a0 a1) (Ki a0 a1) (z0t a0 a1) o) [(0, .isl 3 (a0.map z6) false), (1, .fn (.func 42) [] [.ptr (0, 0) 0 0]), (7, .int .i64 ((a0.map z6).length : Int)), (8, .int .i64 v2)] [((0, 0), .one [.map (0, 1)]), ((0, 1), .amap (a1.map (em z8 yb)))] 3 := by
 unfold y7 at h
 refine zl ?_
 refine y8 ?_
 refine zl ?_
 refine w5 (v := (decide (v2 < ((a0.map z6).length : Int)))) rfl trivial (fun h9 => ?_) (fun h9 => ?_)
 ·have h := q7 h9 h
  refine w7 ?_
  refine zl ?_
  refine j8 ?_
  refine zl ?_
  refine y8 ?_
  refine zl ?_
  refine y8 ?_
  obtain ⟨h10, h⟩ := y4 h
  refine And.intro h10 ?_
  show Q5 _ _ _ [(14, .iptr 3 (a0.map z6) v2.toNat 0), (13, .int .i64 v2), (12, .isl 3 (a0.map z6) false), (11, .fn (.func 42) [] [.ptr (0, 0) 0 0]), (5, .int .i64 v2), (10, .int .i64 v2), (9, .bool (decide (v2 < ((a0.map z6).length : Int)))), (0, .isl 3 (a0.map z6) false), (1, .fn (.func 42) [] [.ptr (0, 0) 0 0]), (7, .int .i64 ((a0.map z6).length : Int)), (8, .int .i64 v2)] _ _
  refine Exists.intro (z6 (a0.getD v2.toNat default)) (And.intro (jm z6 _ _ (wx z6 h10)) (And.intro (And.intro (kw h10) (Nat.le_of_ble_eq_true rfl)) ?_))
  obtain ⟨v4, h11, h⟩ := bind_some h
  refine Ya (k := 3) (m := 0) (L' := [((0, 0), .one [.map (0, 1)]), ((0, 1), .amap (a1.map (em z8 yb)))]) (rest := []) (R' := .bool v4) [((0, 0), (0, 0)), ((0, 1), (0, 1))] (zhh h11) rfl rfl rfl (And.intro (Vw.same _ rfl) (And.intro (Vw.ptr _ _ _ _ rfl) trivial)) (And.intro (h0I (0, 0) rfl rfl (BVw.oneL (And.intro (Vw.map _ _ rfl) trivial))) (And.intro (h0I (0, 1) rfl rfl (BVw.ofMap z8 yb zo a1)) trivial)) (k8 _ rfl) (And.intro rfl (And.intro rfl (And.intro rfl (And.intro (Zz z8 yb vh zo _) trivial)))) rfl ?_
  refine LWp.sim (e := [(0, .isl 3 (a0.map z6) false), (1, .fn (.func 42) [] [.ptr (0, 0) 0 0]), (5, .int .i64 v2), (7, .int .i64 ((a0.map z6).length : Int)), (8, .int .i64 v2), (16, .bool v4)]) (L := [((0, 0), .one [.map (0, 1)]), ((0, 1), .amap (a1.map (em z8 yb)))]) (n := 3) ?_ ?_
  ·exact jh (M := []) rfl (And.intro (Vw.same _ rfl) (And.intro (Vw.fnL trivial (And.intro (Vw.ptr _ _ _ _ rfl) trivial)) (And.intro (Vw.same _ rfl) (And.intro (Vw.same _ rfl) (And.intro (Vw.same _ rfl) (And.intro (Vw.same _ rfl) trivial)))))) (And.intro (And.intro rfl (BVw.oneL (And.intro (Vw.map _ _ rfl) trivial))) (And.intro (And.intro rfl (BVw.ofMap z8 yb zo a1)) trivial))
  refine w5 (v := v4) rfl trivial (fun h12 => ?_) (fun h12 => ?_)
  ·have h := q7 h12 h
   refine zl ?_
   refine y8 ?_
   refine Ze ?_
   obtain ⟨o, hq, rfl⟩ := Option.map_eq_some_iff.1 h
   replace h := hq; clear hq
   refine And.intro nofun ?_
   cases h
   exact And.intro trivial (zih (n' := 3) [] [] rfl rfl (Vw.same _ rfl) (And.intro (And.intro rfl (BVw.oneL (And.intro (Vw.map _ _ rfl) trivial))) (And.intro (And.intro rfl (BVw.ofMap z8 yb zo a1)) trivial)))
  ·have h := qq h12 h
   refine w7 ?_
   refine y8 ?_
   cases h
   exact And.intro rfl (jh (M := []) rfl (And.intro (Vw.same _ rfl) (And.intro (Vw.fnL trivial (And.intro (Vw.ptr _ _ _ _ rfl) trivial)) (And.intro (Vw.same _ rfl) (And.intro (Vw.same _ rfl) trivial)))) (And.intro (And.intro rfl (BVw.oneL (And.intro (Vw.map _ _ rfl) trivial))) (And.intro (And.intro rfl (BVw.ofMap z8 yb zo a1)) trivial)))
 ·have h := qq h9 h
  refine Zp ?_
  obtain ⟨o, hq, rfl⟩ := Option.map_eq_some_iff.1 h
  replace h := hq; clear hq
  refine And.intro nofun ?_
  refine LWp.sim ?_ (z6w h)
  exact jh (M := []) rfl trivial (And.intro (And.intro rfl (BVw.oneL (And.intro (Vw.map _ _ rfl) trivial))) (And.intro (And.intro rfl (BVw.ofMap z8 yb zo a1)) trivial))
theorem z64 {a0 : List G_QKey} {a1 : List (G_QKey × Int)} {v2 : Int} {m : Option Nat} {o : Int} (h : y6 m a0 a1 v2 = some o) :
 LWp Try.prog Zh 3 (.loop z1u) (yv 0 (uv Try.prog Zh 3 V9 (z20 a0 a1 o))) [(0, .isl 3 (a0.map z6) false), (1, .fn (.func 42) [] [.ptr (0, 0) 0 0]), (7, .int .i64 ((a0.map z6).length : Int)), (8, .int .i64 v2)] [((0, 0), .one [.map (0, 1)]), ((0, 1), .amap (a1.map (em z8 yb)))] 3 :=
 j0 (m := m) (s := (v2 : Int)) (r := o) (fun (s : Int) => y7 m a0 a1 s) (V1 a0 a1) (Ki a0 a1) (z0t a0 a1) (fun s o h => z3y h) h
noncomputable def xh (m : Option Nat) (a0 : List G_QKey) (a1 : List (G_QKey × Int)) : Option Int :=
 y6 m a0 a1 0
theorem z68 {a0 : List G_QKey} {a1 : List (G_QKey × Int)} {m : Option Nat} {o : Int} (h : xh m a0 a1 = some o) : LWp Try.prog Zh 3 z7x (z20 a0 a1 o) (qx 0 [.isl 3 (a0.map z6) false, .fn (.func 42) [] [.ptr (0, 0) 0 0]]) [((0, 0), .one [.map (0, 1)]), ((0, 1), .amap (a1.map (em z8 yb)))] 3 := by
 unfold xh at h
 refine zl ?_
 refine y8 ?_
 refine zl ?_
 refine zl ?_
 refine y8 ?_
 refine j8 ?_
 refine LWp.sim ?_ (z64 h)
 exact jh (M := []) rfl (And.intro (Vw.same _ rfl) (And.intro (Vw.fnL trivial (And.intro (Vw.ptr _ _ _ _ rfl) trivial)) (And.intro (Vw.same _ rfl) (And.intro (Vw.same _ rfl) trivial)))) (And.intro (And.intro rfl (BVw.oneL (And.intro (Vw.map _ _ rfl) trivial))) (And.intro (And.intro rfl (BVw.ofMap z8 yb zo a1)) trivial))
theorem zgs {a0 : List G_QKey} {a1 : List (G_QKey × Int)} {m : Option Nat} {o : Int} (h : xh m a0 a1 = some o) : ACalls Try.prog 25 [.isl 3 (a0.map z6) false, .fn (.func 42) [] [.ptr (0, 0) 0 0]] [((0, 0), .one [.map (0, 1)]), ((0, 1), .amap (a1.map (em z8 yb)))] 3 (vr 3 (.int .i64 o) [((0, 0), .one [.map (0, 1)]), ((0, 1), .amap (a1.map (em z8 yb)))]) := Xf (L := zbz) zdj zge (Nat.le_of_ble_eq_true rfl) (z68 h)
def z81 : LCode := (.seq (.region [⟨some 4, .mv (.c (.bool false)), none⟩])
 (.seq (.region [⟨some 5, .mv (.t 0), none⟩,
  ⟨some 6, .mv (.t 1), none⟩,
  ⟨some 7, .call 25 [(.t 5), (.t 6)], none⟩,
  ⟨some 8, .bin .geq (.t 7) (.c (.int .i64 0)), none⟩,
  ⟨some 4, .mv (.t 8), none⟩])
 .ret))
def z3p : Lay := ⟨9, [], false⟩
def z3j : List LRes := [.t 4]
def zdr : LFn := ⟨2, z3p, z81, z3j⟩
theorem zec : k9 Try.prog [] 31 = some zdr := by kernel_rfl
theorem zcu : Y8 Try.prog 31 := ⟨_, Try.func31, rfl, rfl⟩
noncomputable def ql (m : Option Nat) (a0 : List G_QKey) (a1 : List (G_QKey × Int)) : Option Bool :=
 (xh m a0 a1).bind fun v1 =>
 some (decide (v1 ≥ 0))
def zmn (a0 : List G_QKey) (a1 : List (G_QKey × Int)) (o : Bool) : Exit → Env → AHeap → Nat → Prop := Xg z3j (Xy 3 3 (.bool o) [((0, 0), .one [.map (0, 1)]), ((0, 1), .amap (a1.map (em z8 yb)))])
theorem z6x {a0 : List G_QKey} {a1 : List (G_QKey × Int)} {m : Option Nat} {o : Bool} (h : ql m a0 a1 = some o) : LWp Try.prog z3p 3 z81 (zmn a0 a1 o) (qx 0 [.isl 3 (a0.map z6) false, .fn (.func 42) [] [.ptr (0, 0) 0 0]]) [((0, 0), .one [.map (0, 1)]), ((0, 1), .amap (a1.map (em z8 yb)))] 3 := by
 unfold ql at h
 refine zl ?_
 refine y8 ?_
 refine zl ?_
 refine y8 ?_
 obtain ⟨v1, h1, h⟩ := bind_some h
 refine Ya (k := 3) (m := 0) (L' := [((0, 0), .one [.map (0, 1)]), ((0, 1), .amap (a1.map (em z8 yb)))]) (rest := []) (R' := .int .i64 v1) [((0, 0), (0, 0)), ((0, 1), (0, 1))] (zgs h1) rfl rfl rfl (And.intro (Vw.same _ rfl) (And.intro (Vw.fnL trivial (And.intro (Vw.ptr _ _ _ _ rfl) trivial)) trivial)) (And.intro (h0I (0, 0) rfl rfl (BVw.oneL (And.intro (Vw.map _ _ rfl) trivial))) (And.intro (h0I (0, 1) rfl rfl (BVw.ofMap z8 yb zo a1)) trivial)) (k8 _ rfl) (And.intro rfl (And.intro rfl (And.intro rfl (And.intro (Zz z8 yb vh zo _) trivial)))) rfl ?_
 refine Ze ?_
 cases h
 exact And.intro trivial (zih (n' := 4) [] [] rfl rfl (Vw.same _ rfl) (And.intro (And.intro rfl (BVw.oneL (And.intro (Vw.map _ _ rfl) trivial))) (And.intro (And.intro rfl (BVw.ofMap z8 yb zo a1)) trivial)))
theorem zgx {a0 : List G_QKey} {a1 : List (G_QKey × Int)} {m : Option Nat} {o : Bool} (h : ql m a0 a1 = some o) : ACalls Try.prog 31 [.isl 3 (a0.map z6) false, .fn (.func 42) [] [.ptr (0, 0) 0 0]] [((0, 0), .one [.map (0, 1)]), ((0, 1), .amap (a1.map (em z8 yb)))] 3 (vr 3 (.bool o) [((0, 0), .one [.map (0, 1)]), ((0, 1), .amap (a1.map (em z8 yb)))]) := Xf (L := zdr) zec zcu (Nat.le_of_ble_eq_true rfl) (z6x h)
end Go.Proofs.Ytejfgjggcoemeaa
