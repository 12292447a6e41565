/-
  Own text GenA of this claim: what functions of the given program compute, in plain Lean, and the proof; no condition.
-/
import Derived.Test.YtejfgjggcoemeaaChecked
import Derived.Test.YtejfgjggcoemeaaFxN
import Derived.Test.YtejfgjggcoemeaaFxGr
import Derived.Test.YtejfgjggcoemeaaFxMd
import Derived.Test.YtejfgjggcoemeaaFxGm
import Derived.Test.YtejfgjggcoemeaaFxDt
import Derived.Test.YtejfgjggcoemeaaFxSo
import Derived.Test.YtejfgjggcoemeaaLib
import Derived.KernelRfl
namespace Go.Proofs.Ytejfgjggcoemeaa
open Go.Fx
set_option linter.unusedVariables false
structure G_QKey where
 f_Kind : Int
 f_A : Int
 f_B : Int
instance : Inhabited G_QKey := ⟨(G_QKey.mk 0 0 0)⟩
structure G_QEdge where
 f_From : G_QKey
 f_To : G_QKey
instance : Inhabited G_QEdge := ⟨(G_QEdge.mk (G_QKey.mk 0 0 0) (G_QKey.mk 0 0 0))⟩
structure G_boundsError where
 f_x : Int
 f_y : Int
 f_signed : Bool
 f_code : Int
instance : Inhabited G_boundsError := ⟨(G_boundsError.mk 0 0 false 0)⟩
def z7 (x : G_QEdge) : List AVal := [.int .i64 x.f_From.f_Kind, .int .i64 x.f_From.f_A, .int .i64 x.f_From.f_B, .int .i64 x.f_To.f_Kind, .int .i64 x.f_To.f_A, .int .i64 x.f_To.f_B]
def z6 (x : G_QKey) : List AVal := [.int .i64 x.f_Kind, .int .i64 x.f_A, .int .i64 x.f_B]
def Qd (x : List G_QKey) : List AVal := [.isl 3 (x.map z6) false]
def uf (x : Int) : List AVal := [.int .i64 x]
def vg (x : G_boundsError) : List AVal := [.int .i64 x.f_x, .int .i64 x.f_y, .bool x.f_signed, .int .u8 x.f_code]
def zb (x : G_QKey) : AVal := .agg [.int .i64 x.f_Kind, .int .i64 x.f_A, .int .i64 x.f_B]
theorem Y0 (x : G_QKey) : (zb x).nid = true := rfl
def zh (x : List G_QKey) : AVal := .isl 3 (x.map z6) false
theorem yh (x : List G_QKey) : (zh x).nid = true := rfl
def Z3 (x : G_boundsError) : AVal := .agg [.int .i64 x.f_x, .int .i64 x.f_y, .bool x.f_signed, .int .u8 x.f_code]
theorem z5u (x : G_boundsError) : (Z3 x).nid = true := rfl
def u5 (x : Int) : AVal := .int .i64 x
theorem vr (x : Int) : (u5 x).nid = true := rfl
def zx (x y : G_QKey) : Bool := (x.f_Kind == y.f_Kind && (x.f_A == y.f_A && (x.f_B == y.f_B && true)))
theorem xw (x y : G_QKey) : kv [.int, .int, .int] (zb x) (zb y) = some (zx x y) := rfl
def Kq (x y : G_boundsError) : Bool := (x.f_x == y.f_x && (x.f_y == y.f_y && (x.f_signed == y.f_signed && (x.f_code == y.f_code && true))))
theorem z6r (x y : G_boundsError) : kv [.int, .int, .bool, .int] (Z3 x) (Z3 y) = some (Kq x y) := rfl
theorem zgg (x : G_QEdge) : AVal.nid.nidL (z7 x) = true ∧ ∀ y ∈ z7 x, y.imm = some y := ⟨rfl, by simp [z7, AVal.imm]⟩
theorem Ju (x : G_QKey) : AVal.nid.nidL (z6 x) = true ∧ ∀ y ∈ z6 x, y.imm = some y := ⟨rfl, by simp [z6, AVal.imm]⟩
theorem zeb (x : List G_QKey) : AVal.nid.nidL (Qd x) = true ∧ ∀ y ∈ Qd x, y.imm = some y := ⟨rfl, by simp [Qd, AVal.imm]⟩
theorem zim (x : Int) : AVal.nid.nidL (uf x) = true ∧ ∀ y ∈ uf x, y.imm = some y := ⟨rfl, by simp [uf, AVal.imm]⟩
theorem z6q (x : G_boundsError) : AVal.nid.nidL (vg x) = true ∧ ∀ y ∈ vg x, y.imm = some y := ⟨rfl, by simp [vg, AVal.imm]⟩
theorem Qt (x y : G_QKey) (h : zx x y = true) : zb x = zb y := by
 unfold zx at h
 simp only [Bool.and_eq_true, beq_iff_eq, Bool.and_true] at h
 unfold zb
 simp [h]
theorem zep (x : G_QEdge) : AVal.nid.nidL (z7 x) = true := rfl
theorem xi (x : G_QKey) : AVal.nid.nidL (z6 x) = true := rfl
theorem zd3 (x : List G_QKey) : AVal.nid.nidL (Qd x) = true := rfl
theorem zid (x : Int) : AVal.nid.nidL (uf x) = true := rfl
theorem z62 (x : G_boundsError) : AVal.nid.nidL (vg x) = true := rfl
def ze6 : LCode := (.seq (.region [⟨some 2, .mv (.c (.bool false)), none⟩])
 (.seq (.region [⟨some 3, .mv (.t 0), none⟩,
  ⟨some 4, .mv (.t 0), none⟩,
  ⟨some 5, .bin .neq (.t 3) (.t 4), none⟩,
  ⟨some 2, .mv (.t 5), none⟩])
 .ret))
def z7m : Lay := ⟨6, [], false⟩
def z9q : List LRes := [.t 2]
def zgy : LFn := ⟨1, z7m, ze6, z9q⟩
theorem zf1 : wy Try.prog [] 64 = some zgy := by kernel_rfl
theorem zg2 : Yf Try.prog 64 := ⟨_, Try.func64, rfl, rfl⟩
noncomputable def xl (m : Option Nat) (a0 : Int) : Option Bool :=
 some (a0 != a0)
def ziz (a0 : Int) (o : Bool) : Exit → Env → AHeap → Nat → Prop := Wt z9q (jp (.bool o))
theorem za9 {a0 : Int} {m : Option Nat} {o : Bool} (h : xl m a0 = some o) : LWp Try.prog z7m 0 ze6 (ziz a0 o) (qz 0 [.int .i64 a0]) [] 0 := by
 unfold xl at h
 refine yq ?_
 refine qw ?_
 refine yq ?_
 refine qw ?_
 refine Ye ?_
 cases h
 exact And.intro trivial (And.intro rfl (Vw.same _ rfl))
theorem zdz {a0 : Int} {m : Option Nat} {o : Bool} (h : xl m a0 = some o) : PFn Try.prog 64 [.int .i64 a0] (.bool o) := PFn.ofFnW (L := zgy) zf1 zg2 (Nat.le_of_ble_eq_true rfl) rfl (za9 h)
def zdm : LCode := (.seq (.region [⟨some 4, .mv (.c (.int .i64 0)), none⟩])
 (.seq (.region [⟨some 7, .mv (.t 0), none⟩,
  ⟨some 8, .call 64 [(.t 7)], none⟩,
  ⟨some 5, .mv (.t 8), none⟩])
 (.seq (.region [⟨some 9, .mv (.t 1), none⟩,
  ⟨some 10, .call 64 [(.t 9)], none⟩,
  ⟨some 6, .mv (.t 10), none⟩])
 (.seq (.seq (.region [⟨some 11, .mv (.t 5), none⟩])
 (.cond (.t 11)
  (.seq (.seq (.region [⟨some 12, .mv (.t 6), none⟩])
  (.cond (.t 12)
   (.seq (.region [⟨some 4, .mv (.c (.int .i64 0)), none⟩])
   .ret)
   .skip))
  (.seq (.region [⟨some 4, .mv (.c (.int .i64 (-1))), none⟩])
  .ret))
  .skip))
 (.seq (.seq (.region [⟨some 13, .mv (.t 6), none⟩])
 (.cond (.t 13)
  (.seq (.region [⟨some 4, .mv (.c (.int .i64 1)), none⟩])
  .ret)
  .skip))
 (.seq (.seq (.region [⟨some 14, .mv (.t 0), none⟩,
  ⟨some 15, .mv (.t 1), none⟩,
  ⟨some 16, .bin .lss (.t 14) (.t 15), none⟩])
 (.cond (.t 16)
  (.seq (.region [⟨some 4, .mv (.c (.int .i64 (-1))), none⟩])
  .ret)
  .skip))
 (.seq (.seq (.region [⟨some 17, .mv (.t 0), none⟩,
  ⟨some 18, .mv (.t 1), none⟩,
  ⟨some 19, .bin .gtr (.t 17) (.t 18), none⟩])
 (.cond (.t 19)
  (.seq (.region [⟨some 4, .mv (.c (.int .i64 1)), none⟩])
  .ret)
  .skip))
 (.seq (.region [⟨some 4, .mv (.c (.int .i64 0)), none⟩])
 .ret))))))))
def z85 : Lay := ⟨20, [], false⟩
def z8j : List LRes := [.t 4]
def zi0 : LFn := ⟨2, z85, zdm, z8j⟩
theorem zek : wy Try.prog [] 51 = some zi0 := by kernel_rfl
theorem zfr : Yf Try.prog 51 := ⟨_, Try.func51, rfl, rfl⟩
noncomputable def y8 (m : Option Nat) (a0 : Int) (a1 : Int) : Option Int :=
 (xl m a0).bind fun v1 =>
 (xl m a1).bind fun v2 =>
 if v1 = true then
  if v2 = true then
   some 0
  else
   some (-1)
 else
  if v2 = true then
   some 1
  else
   if (decide (a0 < a1)) = true then
    some (-1)
   else
    if (decide (a0 > a1)) = true then
     some 1
    else
     some 0
def zjc (a0 : Int) (a1 : Int) (o : Int) : Exit → Env → AHeap → Nat → Prop := Wt z8j (jp (.int .i64 o))
theorem z7r {a0 : Int} {a1 : Int} {m : Option Nat} {o : Int} (h : y8 m a0 a1 = some o) : LWp Try.prog z85 0 zdm (zjc a0 a1 o) (qz 0 [.int .i64 a0, .int .i64 a1]) [] 0 := by
 unfold y8 at h
 refine yq ?_
 refine qw ?_
 refine yq ?_
 refine qw ?_
 obtain ⟨v1, h1, h⟩ := bind_some h
 refine PFn.call (zdz h1) (And.intro (Vw.same _ rfl) trivial) ?_
 refine yq ?_
 refine qw ?_
 obtain ⟨v2, h2, h⟩ := bind_some h
 refine PFn.call (zdz h2) (And.intro (Vw.same _ rfl) trivial) ?_
 show J8 _ _ _ [(10, .bool v2), (9, .int .i64 a1), (5, .bool v1), (8, .bool v1), (7, .int .i64 a0), (4, .int .i64 0), (0, .int .i64 a0), (1, .int .i64 a1)] _ _
 refine yq ?_
 refine yq ?_
 refine qw ?_
 refine LWp.sim (e := [(0, .int .i64 a0), (1, .int .i64 a1), (6, .bool v2), (11, .bool v1)]) (L := []) (n := 0) ?_ ?_
 ·exact jy (M := []) rfl (And.intro (Vw.same _ rfl) (And.intro (Vw.same _ rfl) (And.intro (Vw.same _ rfl) (And.intro (Vw.same _ rfl) trivial)))) trivial
 refine w7 (v := v1) rfl trivial (fun h3 => ?_) (fun h3 => ?_)
 ·have h := qq h3 h
  refine yq ?_
  refine yq ?_
  refine qw ?_
  refine w7 (v := v2) rfl trivial (fun h4 => ?_) (fun h4 => ?_)
  ·have h := qq h4 h
   refine yq ?_
   refine qw ?_
   refine Ye ?_
   cases h
   exact And.intro trivial (And.intro rfl (Vw.same _ rfl))
  ·have h := xm h4 h
   refine wg ?_
   refine yq ?_
   refine qw ?_
   refine Ye ?_
   cases h
   exact And.intro trivial (And.intro rfl (Vw.same _ rfl))
 ·have h := xm h3 h
  refine wg ?_
  refine yq ?_
  refine yq ?_
  refine qw ?_
  refine w7 (v := v2) rfl trivial (fun h5 => ?_) (fun h5 => ?_)
  ·have h := qq h5 h
   refine yq ?_
   refine qw ?_
   refine Ye ?_
   cases h
   exact And.intro trivial (And.intro rfl (Vw.same _ rfl))
  ·have h := xm h5 h
   refine wg ?_
   refine yq ?_
   refine yq ?_
   refine qw ?_
   refine w7 (v := (decide (a0 < a1))) rfl trivial (fun h6 => ?_) (fun h6 => ?_)
   ·have h := qq h6 h
    refine yq ?_
    refine qw ?_
    refine Ye ?_
    cases h
    exact And.intro trivial (And.intro rfl (Vw.same _ rfl))
   ·have h := xm h6 h
    refine wg ?_
    refine yq ?_
    refine yq ?_
    refine qw ?_
    refine w7 (v := (decide (a0 > a1))) rfl trivial (fun h7 => ?_) (fun h7 => ?_)
    ·have h := qq h7 h
     refine yq ?_
     refine qw ?_
     refine LWp.sim (e := [(4, .int .i64 1)]) (L := []) (n := 0) ?_ ?_
     ·exact jy (M := []) rfl (And.intro (Vw.same _ rfl) trivial) trivial
     refine Ye ?_
     cases h
     exact And.intro trivial (And.intro rfl (Vw.same _ rfl))
    ·have h := xm h7 h
     refine wg ?_
     refine yq ?_
     refine qw ?_
     refine LWp.sim (e := [(4, .int .i64 0)]) (L := []) (n := 0) ?_ ?_
     ·exact jy (M := []) rfl (And.intro (Vw.same _ rfl) trivial) trivial
     refine Ye ?_
     cases h
     exact And.intro trivial (And.intro rfl (Vw.same _ rfl))
theorem K8 {a0 : Int} {a1 : Int} {m : Option Nat} {o : Int} (h : y8 m a0 a1 = some o) : PFn Try.prog 51 [.int .i64 a0, .int .i64 a1] (.int .i64 o) := PFn.ofFnW (L := zi0) zek zfr (Nat.le_of_ble_eq_true rfl) rfl (z7r h)
def z72 : LCode := (.seq (.region [⟨some 9, .bin .lss (.t 8) (.t 7), none⟩])
 (.seq (.cond (.t 9)
  .skip
  (.exit 0))
 (.seq (.block 1
  (.seq (.region [⟨some 10, .iaddr 1 (.t 6) (.t 8), none⟩,
   ⟨some 11, .load false 1 (.t 10), none⟩,
   ⟨some 5, .mv (.t 11), none⟩])
  (.seq (.region [⟨some 12, .mv (.t 5), none⟩,
   ⟨some 13, .mv (.t 3), none⟩,
   ⟨some 14, .bin .neq (.t 12) (.t 13), none⟩])
  (.cond (.t 14)
   (.seq (.region [⟨some 15, .mv (.t 5), none⟩,
    ⟨some 2, .mv (.t 15), none⟩])
   .ret)
   .skip))))
 (.region [⟨some 16, .bin .add (.t 8) (.c (.int .i64 1)), none⟩,
  ⟨some 8, .mv (.t 16), none⟩]))))
def z3x : LCode := (.seq (.region [⟨some 17, .mv (.t 3), none⟩,
 ⟨some 2, .mv (.t 17), none⟩])
 .ret)
def zde : LCode := (.seq (.region [⟨some 2, .mv (.c (.int .i64 0)), none⟩])
 (.seq (.region [⟨some 3, .mv (.c (.int .i64 0)), none⟩])
 (.seq (.seq (.region [⟨some 6, .mv (.t 0), none⟩,
  ⟨some 7, .len false (.t 6), none⟩,
  ⟨some 8, .mv (.c (.int .i64 0)), none⟩])
 (.block 0
  (.loop
   z72)))
 z3x)))
def Ym : Lay := ⟨18, [], false⟩
def zad : List LRes := [.t 2]
def zgu : LFn := ⟨1, Ym, zde, zad⟩
theorem zfs : wy Try.prog [] 50 = some zgu := by kernel_rfl
theorem zg0 : Yf Try.prog 50 := ⟨_, Try.func50, rfl, rfl⟩
def zbt (a0 : List Int) (o : Int) : Exit → Env → AHeap → Nat → Prop := Wt zad (jp (.int .i64 o))
def Kj (a0 : List Int) (s : Int) : Env := [(3, .int .i64 0), (6, .isl 1 (a0.map uf) false), (7, .int .i64 ((a0.map uf).length : Int)), (8, .int .i64 s)]
def z02 (a0 : List Int) (s : Int) : AHeap := []
def z4v (a0 : List Int) (o : Int) : Exit → Env → AHeap → Nat → Prop := (xn 0 (Xf Try.prog Ym 0 z3x (zbt a0 o)))
noncomputable def je (m : Option Nat) : Option Int :=
 some 0
noncomputable def zl (m : Option Nat) (a0 : List Int) (v1 : Int) : Option (Int ⊕ Int) :=
 if (decide (v1 < ((a0.map uf).length : Int))) = true then
  if (0 : Int) ≤ v1 ∧ v1 < ((a0.map uf).length : Int) then
  if ((a0.getD v1.toNat default) != 0) = true then
   Option.map Sum.inr (
    some (a0.getD v1.toNat default))
  else
   some (.inl (W (v1 + 1)))
  else none
 else
  Option.map Sum.inr (
   je m)
noncomputable def jj (m : Option Nat) (a0 : List Int) (v1 : Int) : Option Int := uv m (fun (s : Int) => zl m a0 s) v1
theorem z6y {a0 : List Int} {m : Option Nat} {o : Int} (h : je m = some o) :
 LWp Try.prog Ym 0 z3x (zbt a0 o) [(3, .int .i64 0)] [] 0 := by
 unfold je at h
 refine yq ?_
 refine qw ?_
 refine Ye ?_
 cases h
 exact And.intro trivial (And.intro rfl (Vw.same _ rfl))
theorem z5i {a0 : List Int} {v1 : Int} {m : Option Nat} {o : Int ⊕ Int} (h : zl m a0 v1 = some o) :
 LWp Try.prog Ym 0 z72 (kg 0 0 (Kj a0) (z02 a0) (z4v a0) o) [(3, .int .i64 0), (6, .isl 1 (a0.map uf) false), (7, .int .i64 ((a0.map uf).length : Int)), (8, .int .i64 v1)] [] 0 := by
 unfold zl at h
 refine yq ?_
 refine qw ?_
 refine yq ?_
 refine w7 (v := (decide (v1 < ((a0.map uf).length : Int)))) rfl trivial (fun h7 => ?_) (fun h7 => ?_)
 ·have h := qq h7 h
  refine wg ?_
  refine yq ?_
  refine jm ?_
  refine yq ?_
  refine qw ?_
  obtain ⟨h8, h⟩ := yz h
  refine And.intro h8 ?_
  refine Exists.intro (uf (a0.getD v1.toNat default)) (And.intro (jk uf _ _ (ku uf h8)) (And.intro (And.intro (Yj h8) (Nat.le_of_ble_eq_true rfl)) ?_))
  refine yq ?_
  refine qw ?_
  refine w7 (v := ((a0.getD v1.toNat default) != 0)) rfl trivial (fun h9 => ?_) (fun h9 => ?_)
  ·have h := qq h9 h
   refine yq ?_
   refine qw ?_
   refine LWp.sim (e := [(2, .int .i64 (a0.getD v1.toNat default))]) (L := []) (n := 0) ?_ ?_
   ·exact jy (M := []) rfl (And.intro (Vw.same _ rfl) trivial) trivial
   refine Ye ?_
   obtain ⟨o, hq, rfl⟩ := Option.map_eq_some_iff.1 h
   replace h := hq; clear hq
   refine And.intro nofun ?_
   cases h
   exact And.intro trivial (And.intro rfl (Vw.same _ rfl))
  ·have h := xm h9 h
   refine wg ?_
   refine qw ?_
   cases h
   exact And.intro rfl (jy (M := []) rfl (And.intro (Vw.same _ rfl) (And.intro (Vw.same _ rfl) (And.intro (Vw.same _ rfl) (And.intro (Vw.same _ rfl) trivial)))) trivial)
 ·have h := xm h7 h
  refine Xw ?_
  obtain ⟨o, hq, rfl⟩ := Option.map_eq_some_iff.1 h
  replace h := hq; clear hq
  refine And.intro nofun ?_
  refine LWp.sim ?_ (z6y h)
  exact jy (M := []) rfl (And.intro (Vw.same _ rfl) trivial) trivial
theorem z6v {a0 : List Int} {v1 : Int} {m : Option Nat} {o : Int} (h : jj m a0 v1 = some o) :
 LWp Try.prog Ym 0 (.loop z72) (xn 0 (Xf Try.prog Ym 0 z3x (zbt a0 o))) [(3, .int .i64 0), (6, .isl 1 (a0.map uf) false), (7, .int .i64 ((a0.map uf).length : Int)), (8, .int .i64 v1)] [] 0 :=
 jf (m := m) (s := (v1 : Int)) (r := o) (fun (s : Int) => zl m a0 s) (Kj a0) (z02 a0) (z4v a0) (fun s o h => z5i h) h
noncomputable def xa (m : Option Nat) (a0 : List Int) : Option Int :=
 jj m a0 0
theorem z7u {a0 : List Int} {m : Option Nat} {o : Int} (h : xa m a0 = some o) : LWp Try.prog Ym 0 zde (zbt a0 o) (qz 0 [.isl 1 (a0.map uf) false]) [] 0 := by
 unfold xa at h
 refine yq ?_
 refine qw ?_
 refine yq ?_
 refine qw ?_
 refine yq ?_
 refine yq ?_
 refine qw ?_
 refine jm ?_
 refine LWp.sim ?_ (z6v h)
 exact jy (M := []) rfl (And.intro (Vw.same _ rfl) (And.intro (Vw.same _ rfl) (And.intro (Vw.same _ rfl) (And.intro (Vw.same _ rfl) trivial)))) trivial
theorem zdg {a0 : List Int} {m : Option Nat} {o : Int} (h : xa m a0 = some o) : PFn Try.prog 50 [.isl 1 (a0.map uf) false] (.int .i64 o) := PFn.ofFnW (L := zgu) zfs zg0 (Nat.le_of_ble_eq_true rfl) rfl (z7u h)
def z4k : LCode := (.seq (.region [⟨some 2, .box (.t 0), none⟩,
 ⟨some 3, .box (.t 1), none⟩,
 ⟨some 4, .mv (.c (.int .i64 0)), none⟩])
 (.seq (.draw [⟨⟨some 5, .faddr 0 (.t 2), none⟩, []⟩,
  ⟨⟨some 6, .load false 1 (.t 5), none⟩, []⟩,
  ⟨⟨some 7, .faddr 0 (.t 3), none⟩, []⟩,
  ⟨⟨some 8, .load false 1 (.t 7), none⟩, []⟩,
  ⟨⟨some 10, .faddr 1 (.t 2), none⟩, []⟩,
  ⟨⟨some 11, .load false 1 (.t 10), none⟩, []⟩,
  ⟨⟨some 12, .faddr 1 (.t 3), none⟩, []⟩,
  ⟨⟨some 13, .load false 1 (.t 12), none⟩, []⟩,
  ⟨⟨some 15, .faddr 2 (.t 2), none⟩, []⟩,
  ⟨⟨some 16, .load false 1 (.t 15), none⟩, []⟩,
  ⟨⟨some 17, .faddr 2 (.t 3), none⟩, []⟩,
  ⟨⟨some 18, .load false 1 (.t 17), none⟩, []⟩,
  ⟨⟨some 9, .call 51 [(.t 6), (.t 8)], none⟩, [5, 7, 9, 11]⟩,
  ⟨⟨some 14, .call 51 [(.t 11), (.t 13)], none⟩, [9, 11]⟩,
  ⟨⟨some 19, .call 51 [(.t 16), (.t 18)], none⟩, []⟩,
  ⟨⟨some 20, .mkSl true 1 [(.int .i64 0)] 3 [(0, (.t 9)), (1, (.t 14)), (2, (.t 19))], none⟩, []⟩,
  ⟨⟨some 21, .call 50 [(.t 20)], none⟩, []⟩,
  ⟨⟨some 4, .mv (.t 21), none⟩, []⟩])
 .ret))
def z0x : Lay := ⟨22, [], false⟩
def z0v : List LRes := [.t 4]
def z8f : LFn := ⟨2, z0x, z4k, z0v⟩
theorem z7e : wy Try.prog [] 39 = some z8f := by kernel_rfl
theorem zal : Yf Try.prog 39 := ⟨_, Try.func39, rfl, rfl⟩
noncomputable def y7 (m : Option Nat) (a0 : G_QKey) (a1 : G_QKey) : Option Int :=
 (y8 m a0.f_Kind a1.f_Kind).bind fun v1 =>
 (y8 m a0.f_A a1.f_A).bind fun v2 =>
 (y8 m a0.f_B a1.f_B).bind fun v3 =>
 (xa m ([v1, v2, v3] : List Int)).bind fun v4 =>
 some v4
def zfy (a0 : G_QKey) (a1 : G_QKey) (o : Int) : Exit → Env → AHeap → Nat → Prop := Wt z0v (Vf 3 4 (.int .i64 o) [])
theorem z2g {a0 : G_QKey} {a1 : G_QKey} {m : Option Nat} {o : Int} (h : y7 m a0 a1 = some o) : LWp Try.prog z0x 3 z4k (zfy a0 a1 o) (qz 0 [.agg [.int .i64 a0.f_Kind, .int .i64 a0.f_A, .int .i64 a0.f_B], .agg [.int .i64 a1.f_Kind, .int .i64 a1.f_A, .int .i64 a1.f_B]]) [] 3 := by
 unfold y7 at h
 refine yq ?_
 refine qw ?_
 refine yq ?_
 refine Vb ?_
 obtain ⟨v1, h1, h⟩ := bind_some h
 refine PFn.call (K8 h1) (And.intro (Vw.same _ rfl) (And.intro (Vw.same _ rfl) trivial)) ?_
 refine And.intro rfl ?_
 refine And.intro rfl ?_
 refine And.intro rfl ?_
 refine And.intro rfl ?_
 obtain ⟨v2, h2, h⟩ := bind_some h
 refine PFn.call (K8 h2) (And.intro (Vw.same _ rfl) (And.intro (Vw.same _ rfl) trivial)) ?_
 refine And.intro rfl ?_
 refine And.intro rfl ?_
 obtain ⟨v3, h3, h⟩ := bind_some h
 refine PFn.call (K8 h3) (And.intro (Vw.same _ rfl) (And.intro (Vw.same _ rfl) trivial)) ?_
 show yd _ _ _ _ _ [(19, .int .i64 v3), (14, .int .i64 v2), (9, .int .i64 v1), (18, .int .i64 a1.f_B), (17, .ptr (4, 0) 0 2), (16, .int .i64 a0.f_B), (15, .ptr (3, 0) 0 2), (13, .int .i64 a1.f_A), (12, .ptr (4, 0) 0 1), (11, .int .i64 a0.f_A), (10, .ptr (3, 0) 0 1), (8, .int .i64 a1.f_Kind), (7, .ptr (4, 0) 0 0), (6, .int .i64 a0.f_Kind), (5, .ptr (3, 0) 0 0), (4, .int .i64 0), (3, .ptr (4, 0) 0 0), (2, .ptr (3, 0) 0 0), (0, .agg [.int .i64 a0.f_Kind, .int .i64 a0.f_A, .int .i64 a0.f_B]), (1, .agg [.int .i64 a1.f_Kind, .int .i64 a1.f_A, .int .i64 a1.f_B])] _ _
 obtain ⟨v4, h4, h⟩ := bind_some h
 refine PFn.call (zdg h4) (And.intro (Vw.islF _ _ _) trivial) ?_
 show yd _ _ _ _ _ [(21, .int .i64 v4), (20, .isl 1 (([v1, v2, v3] : List Int).map uf) true), (19, .int .i64 v3), (14, .int .i64 v2), (9, .int .i64 v1), (18, .int .i64 a1.f_B), (17, .ptr (4, 0) 0 2), (16, .int .i64 a0.f_B), (15, .ptr (3, 0) 0 2), (13, .int .i64 a1.f_A), (12, .ptr (4, 0) 0 1), (11, .int .i64 a0.f_A), (10, .ptr (3, 0) 0 1), (8, .int .i64 a1.f_Kind), (7, .ptr (4, 0) 0 0), (6, .int .i64 a0.f_Kind), (5, .ptr (3, 0) 0 0), (4, .int .i64 0), (3, .ptr (4, 0) 0 0), (2, .ptr (3, 0) 0 0), (0, .agg [.int .i64 a0.f_Kind, .int .i64 a0.f_A, .int .i64 a0.f_B]), (1, .agg [.int .i64 a1.f_Kind, .int .i64 a1.f_A, .int .i64 a1.f_B])] _ _
 refine LWp.sim (e := [(4, .int .i64 v4)]) (L := []) (n := 3) ?_ ?_
 ·exact jy (M := []) rfl (And.intro (Vw.same _ rfl) trivial) trivial
 refine Ye ?_
 cases h
 exact And.intro trivial (zj6 (n' := 3) [] [] rfl rfl (Vw.same _ rfl) trivial)
theorem zbh {a0 : G_QKey} {a1 : G_QKey} {m : Option Nat} {o : Int} (h : y7 m a0 a1 = some o) : ACalls Try.prog 39 [.agg [.int .i64 a0.f_Kind, .int .i64 a0.f_A, .int .i64 a0.f_B], .agg [.int .i64 a1.f_Kind, .int .i64 a1.f_A, .int .i64 a1.f_B]] [] 3 (kh 4 (.int .i64 o) []) := z1h (L := z8f) z7e zal (Nat.le_of_ble_eq_true rfl) (z2g h)
def Ug : LCode := (.seq (.seq (.region [⟨some 15, .mv (.t 9), none⟩,
 ⟨some 16, .mv (.t 10), none⟩,
 ⟨some 17, .bin .lss (.t 15) (.t 16), none⟩])
 (.cond (.t 17)
  .skip
  (.exit 0)))
 (.block 1
  (.seq (.region [⟨some 18, .mv (.t 9), none⟩,
   ⟨some 19, .mv (.t 10), none⟩,
   ⟨some 20, .bin .add (.t 18) (.t 19), none⟩,
   ⟨some 21, .conv (.int .u64) (.t 20), none⟩,
   ⟨some 22, .bin .shr (.t 21) (.c (.int .u64 1)), none⟩,
   ⟨some 23, .conv (.int .i64) (.t 22), none⟩,
   ⟨some 11, .mv (.t 23), none⟩])
  (.seq (.draw [⟨⟨some 24, .mv (.t 2), none⟩, []⟩,
   ⟨⟨some 25, .mv (.t 0), none⟩, []⟩,
   ⟨⟨some 26, .mv (.t 11), none⟩, []⟩,
   ⟨⟨some 27, .iaddr 3 (.t 25) (.t 26), none⟩, []⟩,
   ⟨⟨some 28, .load true 3 (.t 27), none⟩, []⟩,
   ⟨⟨some 29, .load true 3 (.t 4), none⟩, []⟩,
   ⟨⟨some 30, .callv (.t 24) [(.t 28), (.t 29)], none⟩, []⟩,
   ⟨⟨some 31, .bin .lss (.t 30) (.c (.int .i64 0)), none⟩, []⟩])
  (.cond (.t 31)
   (.region [⟨some 32, .mv (.t 11), none⟩,
    ⟨some 33, .bin .add (.t 32) (.c (.int .i64 1)), none⟩,
    ⟨some 9, .mv (.t 33), none⟩])
   (.region [⟨some 34, .mv (.t 11), none⟩,
    ⟨some 10, .mv (.t 34), none⟩]))))))
def z4g : LCode := .ret
def Jd : LCode := (.seq (.draw [⟨⟨some 35, .mv (.t 9), none⟩, []⟩,
 ⟨⟨some 36, .mv (.t 9), none⟩, []⟩,
 ⟨⟨some 37, .mv (.t 8), none⟩, []⟩,
 ⟨⟨some 38, .bin .lss (.t 36) (.t 37), none⟩, []⟩,
 ⟨⟨some 39, .mv (.t 38), none⟩, []⟩,
 ⟨⟨some 40, .mv (.t 2), some (39, true)⟩, []⟩,
 ⟨⟨some 41, .mv (.t 0), some (39, true)⟩, []⟩,
 ⟨⟨some 42, .mv (.t 9), some (39, true)⟩, []⟩,
 ⟨⟨some 43, .iaddr 3 (.t 41) (.t 42), some (39, true)⟩, []⟩,
 ⟨⟨some 44, .load true 3 (.t 43), some (39, true)⟩, []⟩,
 ⟨⟨some 45, .load true 3 (.t 4), some (39, true)⟩, []⟩,
 ⟨⟨some 46, .callv (.t 40) [(.t 44), (.t 45)], some (39, true)⟩, []⟩,
 ⟨⟨some 47, .bin .eql (.t 46) (.c (.int .i64 0)), some (39, true)⟩, []⟩,
 ⟨⟨some 48, .pick (.t 39) (.t 47) (.c (.bool false)), none⟩, []⟩,
 ⟨⟨some 6, .mv (.t 35), none⟩, []⟩,
 ⟨⟨some 7, .mv (.t 48), none⟩, []⟩])
 z4g)
def z4f : LCode := (.seq (.region [⟨some 4, .box (.t 1), none⟩,
 ⟨some 6, .mv (.c (.int .i64 0)), none⟩,
 ⟨some 7, .mv (.c (.bool false)), none⟩])
 (.seq (.region [⟨some 12, .mv (.t 0), none⟩,
  ⟨some 13, .len false (.t 12), none⟩,
  ⟨some 8, .mv (.t 13), none⟩])
 (.seq (.region [⟨some 14, .mv (.t 8), none⟩,
  ⟨some 9, .mv (.c (.int .i64 0)), none⟩,
  ⟨some 10, .mv (.t 14), none⟩])
 (.seq (.block 0
  (.loop
   Ug))
 Jd))))
def wv : Lay := ⟨49, [], false⟩
def z1c : List LRes := [.t 6, .t 7]
def z9a : LFn := ⟨3, wv, z4f, z1c⟩
theorem zb4 : wy Try.prog [] 46 = some z9a := by kernel_rfl
theorem z7a : Yf Try.prog 46 := ⟨_, Try.func46, rfl, rfl⟩
def W4 {σ : Type} (Hc : σ → AHeap) (fi0 : Fn) (ff0 fc0 : List AVal) (a0 : G_QKey) (a1 : List G_QKey) (z0 : σ) (o : Int × Bool × σ) : Exit → Env → AHeap → Nat → Prop := Wt z1c (Vf 3 4 (.tup [.int .i64 o.1, .bool o.2.1]) ([((0, 0), .rows 3 (a1.map z6))] ++ up 3 (Hc o.2.2)))
def Xr {σ : Type} (Hc : σ → AHeap) (fi0 : Fn) (ff0 fc0 : List AVal) (a0 : G_QKey) (a1 : List G_QKey) (s : (Int × σ × Int)) : Env := [(0, .msl (0, 0) 3 0 a1.length false), (2, .fn fi0 ff0 fc0), (4, .ptr (4, 0) 0 0), (8, .int .i64 ((a1.length : Nat) : Int)), (9, .int .i64 s.1), (10, .int .i64 s.2.2)]
def Wl {σ : Type} (Hc : σ → AHeap) (fi0 : Fn) (ff0 fc0 : List AVal) (a0 : G_QKey) (a1 : List G_QKey) (s : (Int × σ × Int)) : AHeap := ([((0, 0), .rows 3 (a1.map z6)), ((4, 0), .one [.int .i64 a0.f_Kind, .int .i64 a0.f_A, .int .i64 a0.f_B])] ++ up 3 (Hc s.2.1))
def Kf {σ : Type} (Hc : σ → AHeap) (fi0 : Fn) (ff0 fc0 : List AVal) (a0 : G_QKey) (a1 : List G_QKey) (z0 : σ) (o : (Int × Bool × σ)) : Exit → Env → AHeap → Nat → Prop := (xn 0 (Xf Try.prog wv 3 Jd (W4 Hc fi0 ff0 fc0 a0 a1 z0 o)))
noncomputable def y3 {σ : Type} (g0 : σ → (G_QKey × G_QKey) → Option (Int × σ)) (m : Option Nat) (a1 : List G_QKey) (v2 : Int) (v8 : Bool) (v9 : σ) : Option (Int × Bool × σ) :=
 some (v2, v8, v9)
noncomputable def yl {σ : Type} (g0 : σ → (G_QKey × G_QKey) → Option (Int × σ)) (m : Option Nat) (a0 : G_QKey) (a1 : List G_QKey) (v2 : Int) (v3 : σ) : Option (Int × Bool × σ) :=
 if (((decide (v2 < ((a1.length : Nat) : Int))) == true) = true → (0 : Int) ≤ v2 ∧ v2 < ((a1.length : Nat) : Int)) then
 if (((decide (v2 < ((a1.length : Nat) : Int))) == true) = true → (0 + v2.toNat) < a1.length) then
 if ((decide (v2 < ((a1.length : Nat) : Int))) == true) = true then
  (g0 v3 ((G_QKey.mk ((a1.getD (0 + v2.toNat) default).f_Kind) ((a1.getD (0 + v2.toNat) default).f_A) ((a1.getD (0 + v2.toNat) default).f_B)), a0)).bind fun v7 =>
  y3 g0 m a1 v2 ((decide (v2 < ((a1.length : Nat) : Int))) && (v7.1 == 0)) v7.2
 else
  y3 g0 m a1 v2 ((decide (v2 < ((a1.length : Nat) : Int))) && ((0 : Int) == 0)) v3
 else none
 else none
noncomputable def zd {σ : Type} (g0 : σ → (G_QKey × G_QKey) → Option (Int × σ)) (m : Option Nat) (a0 : G_QKey) (a1 : List G_QKey) (v2 : Int) (v3 : σ) (v4 : Int) : Option ((Int × σ × Int) ⊕ (Int × Bool × σ)) :=
 if (decide (v2 < v4)) = true then
  if (0 : Int) ≤ (W ((IntKind.wrap .u64 (W (v2 + v4))).fdiv (2 ^ (min (1 : Int).toNat (IntKind.bits .u64))))) ∧ (W ((IntKind.wrap .u64 (W (v2 + v4))).fdiv (2 ^ (min (1 : Int).toNat (IntKind.bits .u64))))) < ((a1.length : Nat) : Int) then
  if (0 + (W ((IntKind.wrap .u64 (W (v2 + v4))).fdiv (2 ^ (min (1 : Int).toNat (IntKind.bits .u64))))).toNat) < a1.length then
  (g0 v3 ((G_QKey.mk ((a1.getD (0 + (W ((IntKind.wrap .u64 (W (v2 + v4))).fdiv (2 ^ (min (1 : Int).toNat (IntKind.bits .u64))))).toNat) default).f_Kind) ((a1.getD (0 + (W ((IntKind.wrap .u64 (W (v2 + v4))).fdiv (2 ^ (min (1 : Int).toNat (IntKind.bits .u64))))).toNat) default).f_A) ((a1.getD (0 + (W ((IntKind.wrap .u64 (W (v2 + v4))).fdiv (2 ^ (min (1 : Int).toNat (IntKind.bits .u64))))).toNat) default).f_B)), a0)).bind fun v6 =>
  if (decide (v6.1 < 0)) = true then
   some (.inl ((W ((W ((IntKind.wrap .u64 (W (v2 + v4))).fdiv (2 ^ (min (1 : Int).toNat (IntKind.bits .u64))))) + 1)), v6.2, v4))
  else
   some (.inl (v2, v6.2, (W ((IntKind.wrap .u64 (W (v2 + v4))).fdiv (2 ^ (min (1 : Int).toNat (IntKind.bits .u64)))))))
  else none
  else none
 else
  Option.map Sum.inr (
   yl g0 m a0 a1 v2 v3)
noncomputable def ze {σ : Type} (g0 : σ → (G_QKey × G_QKey) → Option (Int × σ)) (m : Option Nat) (a0 : G_QKey) (a1 : List G_QKey) (v2 : Int) (v3 : σ) (v4 : Int) : Option (Int × Bool × σ) := uv m (fun (s : (Int × σ × Int)) => zd g0 m a0 a1 s.1 s.2.1 s.2.2) (v2, v3, v4)
theorem Wf {σ : Type} {Hc : σ → AHeap} {fi0 : Fn} {ff0 fc0 : List AVal} {g0 : σ → (G_QKey × G_QKey) → Option (Int × σ)} (hg0 : Clo Try.prog fi0 ff0 fc0 Hc (fun (x : (G_QKey × G_QKey)) => [.agg [.int .i64 x.1.f_Kind, .int .i64 x.1.f_A, .int .i64 x.1.f_B], .agg [.int .i64 x.2.f_Kind, .int .i64 x.2.f_A, .int .i64 x.2.f_B]]) (fun (b : Int) => .int .i64 b) g0) {a0 : G_QKey} {z0 : σ} {a1 : List G_QKey} {v2 : Int} {v8 : Bool} {v9 : σ} {m : Option Nat} {o : (Int × Bool × σ)} (h : y3 g0 m a1 v2 v8 v9 = some o) :
 LWp Try.prog wv 3 z4g (W4 Hc fi0 ff0 fc0 a0 a1 z0 o) [(6, .int .i64 v2), (7, .bool v8)] ([((0, 0), .rows 3 (a1.map z6))] ++ up 3 (Hc v9)) 4 := by
 unfold y3 at h
 refine Ye ?_
 cases h
 exact And.intro trivial (And.intro trivial (zka (n' := 4) (q := 3) (lit' := [((0, 0), .rows 3 (a1.map z6))]) (hg0.tl _) [] [] rfl rfl (Vw.same _ rfl) (And.intro (And.intro rfl (BVw.enc z6 (fun _ => rfl) _ a1)) trivial)))
theorem z2h {σ : Type} {Hc : σ → AHeap} {fi0 : Fn} {ff0 fc0 : List AVal} {g0 : σ → (G_QKey × G_QKey) → Option (Int × σ)} (hg0 : Clo Try.prog fi0 ff0 fc0 Hc (fun (x : (G_QKey × G_QKey)) => [.agg [.int .i64 x.1.f_Kind, .int .i64 x.1.f_A, .int .i64 x.1.f_B], .agg [.int .i64 x.2.f_Kind, .int .i64 x.2.f_A, .int .i64 x.2.f_B]]) (fun (b : Int) => .int .i64 b) g0) {z0 : σ} {a0 : G_QKey} {a1 : List G_QKey} {v2 : Int} {v3 : σ} {m : Option Nat} {o : (Int × Bool × σ)} (h : yl g0 m a0 a1 v2 v3 = some o) :
 LWp Try.prog wv 3 Jd (W4 Hc fi0 ff0 fc0 a0 a1 z0 o) [(0, .msl (0, 0) 3 0 a1.length false), (2, .fn fi0 ff0 fc0), (4, .ptr (4, 0) 0 0), (8, .int .i64 ((a1.length : Nat) : Int)), (9, .int .i64 v2)] ([((0, 0), .rows 3 (a1.map z6)), ((4, 0), .one [.int .i64 a0.f_Kind, .int .i64 a0.f_A, .int .i64 a0.f_B])] ++ up 3 (Hc v3)) 5 := by
 unfold yl at h
 refine yq ?_
 refine z6g rfl ?_
 obtain ⟨h16, h⟩ := yz h
 refine And.intro (fun hp => (And.intro (And.intro hp hp) (h16 hp))) ?_
 show J8 _ _ _ [(43, .cnd ((decide (v2 < ((a1.length : Nat) : Int))) == true) (.ptr (0, 0) (0 + v2.toNat) 0)), (42, .cnd ((decide (v2 < ((a1.length : Nat) : Int))) == true) (.int .i64 v2)), (41, .cnd ((decide (v2 < ((a1.length : Nat) : Int))) == true) (.msl (0, 0) 3 0 a1.length false)), (40, .cnd ((decide (v2 < ((a1.length : Nat) : Int))) == true) (.fn fi0 ff0 fc0)), (39, .bool (decide (v2 < ((a1.length : Nat) : Int)))), (38, .bool (decide (v2 < ((a1.length : Nat) : Int)))), (37, .int .i64 ((a1.length : Nat) : Int)), (36, .int .i64 v2), (35, .int .i64 v2), (0, .msl (0, 0) 3 0 a1.length false), (2, .fn fi0 ff0 fc0), (4, .ptr (4, 0) 0 0), (8, .int .i64 ((a1.length : Nat) : Int)), (9, .int .i64 v2)] _ _
 obtain ⟨h17, h⟩ := yz h
 refine Exists.intro (z6 (a1.getD (0 + v2.toNat) default)) (And.intro (fun hp => And.intro (jk z6 _ _ (h17 hp)) (And.intro hp (And.intro (z73 z6 (h17 hp)) (Nat.le_of_ble_eq_true rfl)))) ?_)
 refine Or.inr (And.intro (fun h18 => ?_) (fun h19 => ?_))
 ·have h := qq h18 h
  obtain ⟨v7, h20, h⟩ := bind_some h
  refine And.intro (And.intro h18 (And.intro h18 h18)) ?_
  refine Clo.use (q := 3) (lit := [((0, 0), .rows 3 (a1.map z6)), ((4, 0), .one [.int .i64 a0.f_Kind, .int .i64 a0.f_A, .int .i64 a0.f_B])]) hg0 h20 rfl rfl (And.intro (Vw.same _ rfl) (And.intro (Vw.same _ rfl) trivial)) ?_
  refine And.intro (fun hc => h18) ?_
  show J8 _ _ _ [(48, .bool ((decide (v2 < ((a1.length : Nat) : Int))) && (v7.1 == 0))), (47, .cnd ((decide (v2 < ((a1.length : Nat) : Int))) == true) (.bool (v7.1 == 0))), (46, .int .i64 v7.1), (45, .cnd ((decide (v2 < ((a1.length : Nat) : Int))) == true) (.agg [.int .i64 a0.f_Kind, .int .i64 a0.f_A, .int .i64 a0.f_B])), (44, .cnd ((decide (v2 < ((a1.length : Nat) : Int))) == true) (.agg [.int .i64 ((a1.getD (0 + v2.toNat) default).f_Kind), .int .i64 ((a1.getD (0 + v2.toNat) default).f_A), .int .i64 ((a1.getD (0 + v2.toNat) default).f_B)])), (43, .cnd ((decide (v2 < ((a1.length : Nat) : Int))) == true) (.ptr (0, 0) (0 + v2.toNat) 0)), (42, .cnd ((decide (v2 < ((a1.length : Nat) : Int))) == true) (.int .i64 v2)), (41, .cnd ((decide (v2 < ((a1.length : Nat) : Int))) == true) (.msl (0, 0) 3 0 a1.length false)), (40, .cnd ((decide (v2 < ((a1.length : Nat) : Int))) == true) (.fn fi0 ff0 fc0)), (39, .bool (decide (v2 < ((a1.length : Nat) : Int)))), (38, .bool (decide (v2 < ((a1.length : Nat) : Int)))), (37, .int .i64 ((a1.length : Nat) : Int)), (36, .int .i64 v2), (35, .int .i64 v2), (0, .msl (0, 0) 3 0 a1.length false), (2, .fn fi0 ff0 fc0), (4, .ptr (4, 0) 0 0), (8, .int .i64 ((a1.length : Nat) : Int)), (9, .int .i64 v2)] _ _
  refine LWp.sim ?_ (Wf hg0 h)
  exact zd5 (M := []) (lit' := [((0, 0), .rows 3 (a1.map z6)), ((4, 0), .one [.int .i64 a0.f_Kind, .int .i64 a0.f_A, .int .i64 a0.f_B])]) (hg0.tl _) rfl (And.intro (Vw.same _ rfl) (And.intro (Vw.same _ rfl) trivial)) (And.intro (And.intro rfl (BVw.enc z6 (fun _ => rfl) _ a1)) trivial)
 ·have h := xm h19 h
  refine Exists.intro (.cnd ((decide (v2 < ((a1.length : Nat) : Int))) == true) (.int .i64 0)) (And.intro (Or.inr (Exists.intro _ (congrArg (fun q => AVal.cnd q _) h19))) ?_)
  refine And.intro (fun hp => hp) ?_
  refine And.intro (fun hc => (bqt hc)) ?_
  show J8 _ _ _ [(48, .bool ((decide (v2 < ((a1.length : Nat) : Int))) && ((0 : Int) == 0))), (47, .cnd ((decide (v2 < ((a1.length : Nat) : Int))) == true) (.bool ((0 : Int) == 0))), (46, .cnd ((decide (v2 < ((a1.length : Nat) : Int))) == true) (.int .i64 0)), (45, .cnd ((decide (v2 < ((a1.length : Nat) : Int))) == true) (.agg [.int .i64 a0.f_Kind, .int .i64 a0.f_A, .int .i64 a0.f_B])), (44, .cnd ((decide (v2 < ((a1.length : Nat) : Int))) == true) (.agg [.int .i64 ((a1.getD (0 + v2.toNat) default).f_Kind), .int .i64 ((a1.getD (0 + v2.toNat) default).f_A), .int .i64 ((a1.getD (0 + v2.toNat) default).f_B)])), (43, .cnd ((decide (v2 < ((a1.length : Nat) : Int))) == true) (.ptr (0, 0) (0 + v2.toNat) 0)), (42, .cnd ((decide (v2 < ((a1.length : Nat) : Int))) == true) (.int .i64 v2)), (41, .cnd ((decide (v2 < ((a1.length : Nat) : Int))) == true) (.msl (0, 0) 3 0 a1.length false)), (40, .cnd ((decide (v2 < ((a1.length : Nat) : Int))) == true) (.fn fi0 ff0 fc0)), (39, .bool (decide (v2 < ((a1.length : Nat) : Int)))), (38, .bool (decide (v2 < ((a1.length : Nat) : Int)))), (37, .int .i64 ((a1.length : Nat) : Int)), (36, .int .i64 v2), (35, .int .i64 v2), (0, .msl (0, 0) 3 0 a1.length false), (2, .fn fi0 ff0 fc0), (4, .ptr (4, 0) 0 0), (8, .int .i64 ((a1.length : Nat) : Int)), (9, .int .i64 v2)] _ _
  refine LWp.sim ?_ (Wf hg0 h)
  exact zd5 (M := []) (lit' := [((0, 0), .rows 3 (a1.map z6)), ((4, 0), .one [.int .i64 a0.f_Kind, .int .i64 a0.f_A, .int .i64 a0.f_B])]) (hg0.tl _) rfl (And.intro (Vw.same _ rfl) (And.intro (Vw.same _ rfl) trivial)) (And.intro (And.intro rfl (BVw.enc z6 (fun _ => rfl) _ a1)) trivial)
theorem z11 {σ : Type} {Hc : σ → AHeap} {fi0 : Fn} {ff0 fc0 : List AVal} {g0 : σ → (G_QKey × G_QKey) → Option (Int × σ)} (hg0 : Clo Try.prog fi0 ff0 fc0 Hc (fun (x : (G_QKey × G_QKey)) => [.agg [.int .i64 x.1.f_Kind, .int .i64 x.1.f_A, .int .i64 x.1.f_B], .agg [.int .i64 x.2.f_Kind, .int .i64 x.2.f_A, .int .i64 x.2.f_B]]) (fun (b : Int) => .int .i64 b) g0) {z0 : σ} {a0 : G_QKey} {a1 : List G_QKey} {v2 : Int} {v3 : σ} {v4 : Int} {m : Option Nat} {o : (Int × σ × Int) ⊕ (Int × Bool × σ)} (h : zd g0 m a0 a1 v2 v3 v4 = some o) :
 LWp Try.prog wv 3 Ug (kg 3 5 (Xr Hc fi0 ff0 fc0 a0 a1) (Wl Hc fi0 ff0 fc0 a0 a1) (Kf Hc fi0 ff0 fc0 a0 a1 z0) o) [(0, .msl (0, 0) 3 0 a1.length false), (2, .fn fi0 ff0 fc0), (4, .ptr (4, 0) 0 0), (8, .int .i64 ((a1.length : Nat) : Int)), (9, .int .i64 v2), (10, .int .i64 v4)] ([((0, 0), .rows 3 (a1.map z6)), ((4, 0), .one [.int .i64 a0.f_Kind, .int .i64 a0.f_A, .int .i64 a0.f_B])] ++ up 3 (Hc v3)) 5 := by
 unfold zd at h
 refine yq ?_
 refine yq ?_
 refine qw ?_
 refine w7 (v := (decide (v2 < v4))) rfl trivial (fun h11 => ?_) (fun h11 => ?_)
 ·have h := qq h11 h
  refine wg ?_
  refine jm ?_
  refine yq ?_
  refine qw ?_
  refine And.intro (by decide) ?_
  show J8 _ _ _ [(22, .int .u64 ((IntKind.wrap .u64 (W (v2 + v4))).fdiv (2 ^ (min (1 : Int).toNat (IntKind.bits .u64))))), (21, .int .u64 (IntKind.wrap .u64 (W (v2 + v4)))), (20, .int .i64 (W (v2 + v4))), (19, .int .i64 v4), (18, .int .i64 v2), (17, .bool (decide (v2 < v4))), (16, .int .i64 v4), (15, .int .i64 v2), (0, .msl (0, 0) 3 0 a1.length false), (2, .fn fi0 ff0 fc0), (4, .ptr (4, 0) 0 0), (8, .int .i64 ((a1.length : Nat) : Int)), (9, .int .i64 v2), (10, .int .i64 v4)] _ _
  refine LWp.sim (e := [(0, .msl (0, 0) 3 0 a1.length false), (2, .fn fi0 ff0 fc0), (4, .ptr (4, 0) 0 0), (8, .int .i64 ((a1.length : Nat) : Int)), (9, .int .i64 v2), (10, .int .i64 v4), (11, .int .i64 (W ((IntKind.wrap .u64 (W (v2 + v4))).fdiv (2 ^ (min (1 : Int).toNat (IntKind.bits .u64))))))]) (L := ([((0, 0), .rows 3 (a1.map z6)), ((4, 0), .one [.int .i64 a0.f_Kind, .int .i64 a0.f_A, .int .i64 a0.f_B])] ++ up 3 (Hc v3))) (n := 5) ?_ ?_
  ·exact zd5 (M := [((4, 0), (4, 0))]) (lit' := [((0, 0), .rows 3 (a1.map z6)), ((4, 0), .one [.int .i64 a0.f_Kind, .int .i64 a0.f_A, .int .i64 a0.f_B])]) (hg0.tl _) rfl (And.intro (Vw.mslE rfl (by first | rfl | omega | (simp; done) | (simp only [List.length_map, List.length_replicate, Int.toNat_natCast] at *; omega)) rfl) (And.intro (Vw.clo hg0.hf hg0.hc (by decide) (Qp (vp (n := 5) (q := 3) (lit' := [((0, 0), .rows 3 (a1.map z6)), ((4, 0), .one [.int .i64 a0.f_Kind, .int .i64 a0.f_A, .int .i64 a0.f_B])]) rfl))) (And.intro (Vw.ptr _ _ _ _ rfl) (And.intro (Vw.same _ rfl) (And.intro (Vw.same _ rfl) (And.intro (Vw.same _ rfl) (And.intro (Vw.same _ rfl) trivial))))))) (And.intro (And.intro rfl (BVw.enc z6 (fun _ => rfl) _ a1)) (And.intro (And.intro rfl (BVw.oneL (And.intro (Vw.same _ rfl) (And.intro (Vw.same _ rfl) (And.intro (Vw.same _ rfl) trivial))))) trivial))
  refine yq ?_
  refine z6g rfl ?_
  obtain ⟨h12, h⟩ := yz h
  refine And.intro h12 ?_
  obtain ⟨h13, h⟩ := yz h
  refine Exists.intro (z6 (a1.getD (0 + (W ((IntKind.wrap .u64 (W (v2 + v4))).fdiv (2 ^ (min (1 : Int).toNat (IntKind.bits .u64))))).toNat) default)) (And.intro (jk z6 _ _ h13) (And.intro (And.intro (z73 z6 h13) (Nat.le_of_ble_eq_true rfl)) ?_))
  obtain ⟨v6, h14, h⟩ := bind_some h
  refine Clo.use (q := 3) (lit := [((0, 0), .rows 3 (a1.map z6)), ((4, 0), .one [.int .i64 a0.f_Kind, .int .i64 a0.f_A, .int .i64 a0.f_B])]) hg0 h14 rfl rfl (And.intro (Vw.same _ rfl) (And.intro (Vw.same _ rfl) trivial)) ?_
  show J8 _ _ _ [(30, .int .i64 v6.1), (29, .agg [.int .i64 a0.f_Kind, .int .i64 a0.f_A, .int .i64 a0.f_B]), (28, .agg [.int .i64 ((a1.getD (0 + (W ((IntKind.wrap .u64 (W (v2 + v4))).fdiv (2 ^ (min (1 : Int).toNat (IntKind.bits .u64))))).toNat) default).f_Kind), .int .i64 ((a1.getD (0 + (W ((IntKind.wrap .u64 (W (v2 + v4))).fdiv (2 ^ (min (1 : Int).toNat (IntKind.bits .u64))))).toNat) default).f_A), .int .i64 ((a1.getD (0 + (W ((IntKind.wrap .u64 (W (v2 + v4))).fdiv (2 ^ (min (1 : Int).toNat (IntKind.bits .u64))))).toNat) default).f_B)]), (27, .ptr (0, 0) (0 + (W ((IntKind.wrap .u64 (W (v2 + v4))).fdiv (2 ^ (min (1 : Int).toNat (IntKind.bits .u64))))).toNat) 0), (26, .int .i64 (W ((IntKind.wrap .u64 (W (v2 + v4))).fdiv (2 ^ (min (1 : Int).toNat (IntKind.bits .u64)))))), (25, .msl (0, 0) 3 0 a1.length false), (24, .fn fi0 ff0 fc0), (0, .msl (0, 0) 3 0 a1.length false), (2, .fn fi0 ff0 fc0), (4, .ptr (4, 0) 0 0), (8, .int .i64 ((a1.length : Nat) : Int)), (9, .int .i64 v2), (10, .int .i64 v4), (11, .int .i64 (W ((IntKind.wrap .u64 (W (v2 + v4))).fdiv (2 ^ (min (1 : Int).toNat (IntKind.bits .u64))))))] _ _
  refine LWp.sim (e := [(0, .msl (0, 0) 3 0 a1.length false), (2, .fn fi0 ff0 fc0), (4, .ptr (4, 0) 0 0), (8, .int .i64 ((a1.length : Nat) : Int)), (9, .int .i64 v2), (10, .int .i64 v4), (11, .int .i64 (W ((IntKind.wrap .u64 (W (v2 + v4))).fdiv (2 ^ (min (1 : Int).toNat (IntKind.bits .u64)))))), (31, .bool (decide (v6.1 < 0)))]) (L := ([((0, 0), .rows 3 (a1.map z6)), ((4, 0), .one [.int .i64 a0.f_Kind, .int .i64 a0.f_A, .int .i64 a0.f_B])] ++ up 3 (Hc v6.2))) (n := 5) ?_ ?_
  ·exact zd5 (M := [((4, 0), (4, 0))]) (lit' := [((0, 0), .rows 3 (a1.map z6)), ((4, 0), .one [.int .i64 a0.f_Kind, .int .i64 a0.f_A, .int .i64 a0.f_B])]) (hg0.tl _) rfl (And.intro (Vw.mslE rfl (by first | rfl | omega | (simp; done) | (simp only [List.length_map, List.length_replicate, Int.toNat_natCast] at *; omega)) rfl) (And.intro (Vw.clo hg0.hf hg0.hc (by decide) (Qp (vp (n := 5) (q := 5) (lit' := [((0, 0), .rows 3 (a1.map z6)), ((4, 0), .one [.int .i64 a0.f_Kind, .int .i64 a0.f_A, .int .i64 a0.f_B])]) rfl))) (And.intro (Vw.ptr _ _ _ _ rfl) (And.intro (Vw.same _ rfl) (And.intro (Vw.same _ rfl) (And.intro (Vw.same _ rfl) (And.intro (Vw.same _ rfl) (And.intro (Vw.same _ rfl) trivial)))))))) (And.intro (And.intro rfl (BVw.enc z6 (fun _ => rfl) _ a1)) (And.intro (And.intro rfl (BVw.oneL (And.intro (Vw.same _ rfl) (And.intro (Vw.same _ rfl) (And.intro (Vw.same _ rfl) trivial))))) trivial))
  refine w7 (v := (decide (v6.1 < 0))) rfl trivial (fun h15 => ?_) (fun h15 => ?_)
  ·have h := qq h15 h
   refine qw ?_
   cases h
   exact And.intro rfl (zd5 (M := [((4, 0), (4, 0))]) (lit' := [((0, 0), .rows 3 (a1.map z6)), ((4, 0), .one [.int .i64 a0.f_Kind, .int .i64 a0.f_A, .int .i64 a0.f_B])]) (hg0.tl _) rfl (And.intro (Vw.mslE rfl (by first | rfl | omega | (simp; done) | (simp only [List.length_map, List.length_replicate, Int.toNat_natCast] at *; omega)) rfl) (And.intro (Vw.clo hg0.hf hg0.hc (by decide) (Qp (vp (n := 5) (q := 3) (lit' := [((0, 0), .rows 3 (a1.map z6)), ((4, 0), .one [.int .i64 a0.f_Kind, .int .i64 a0.f_A, .int .i64 a0.f_B])]) rfl))) (And.intro (Vw.ptr _ _ _ _ rfl) (And.intro (Vw.same _ rfl) (And.intro (Vw.same _ rfl) (And.intro (Vw.same _ rfl) trivial)))))) (And.intro (And.intro rfl (BVw.enc z6 (fun _ => rfl) _ a1)) (And.intro (And.intro rfl (BVw.oneL (And.intro (Vw.same _ rfl) (And.intro (Vw.same _ rfl) (And.intro (Vw.same _ rfl) trivial))))) trivial)))
  ·have h := xm h15 h
   refine qw ?_
   cases h
   exact And.intro rfl (zd5 (M := [((4, 0), (4, 0))]) (lit' := [((0, 0), .rows 3 (a1.map z6)), ((4, 0), .one [.int .i64 a0.f_Kind, .int .i64 a0.f_A, .int .i64 a0.f_B])]) (hg0.tl _) rfl (And.intro (Vw.mslE rfl (by first | rfl | omega | (simp; done) | (simp only [List.length_map, List.length_replicate, Int.toNat_natCast] at *; omega)) rfl) (And.intro (Vw.clo hg0.hf hg0.hc (by decide) (Qp (vp (n := 5) (q := 3) (lit' := [((0, 0), .rows 3 (a1.map z6)), ((4, 0), .one [.int .i64 a0.f_Kind, .int .i64 a0.f_A, .int .i64 a0.f_B])]) rfl))) (And.intro (Vw.ptr _ _ _ _ rfl) (And.intro (Vw.same _ rfl) (And.intro (Vw.same _ rfl) (And.intro (Vw.same _ rfl) trivial)))))) (And.intro (And.intro rfl (BVw.enc z6 (fun _ => rfl) _ a1)) (And.intro (And.intro rfl (BVw.oneL (And.intro (Vw.same _ rfl) (And.intro (Vw.same _ rfl) (And.intro (Vw.same _ rfl) trivial))))) trivial)))
 ·have h := xm h11 h
  refine Xw ?_
  obtain ⟨o, hq, rfl⟩ := Option.map_eq_some_iff.1 h
  replace h := hq; clear hq
  refine And.intro nofun ?_
  refine LWp.sim ?_ (z2h hg0 h)
  exact zd5 (M := [((4, 0), (4, 0))]) (lit' := [((0, 0), .rows 3 (a1.map z6)), ((4, 0), .one [.int .i64 a0.f_Kind, .int .i64 a0.f_A, .int .i64 a0.f_B])]) (hg0.tl _) rfl (And.intro (Vw.mslE rfl (by first | rfl | omega | (simp; done) | (simp only [List.length_map, List.length_replicate, Int.toNat_natCast] at *; omega)) rfl) (And.intro (Vw.clo hg0.hf hg0.hc (by decide) (Qp (vp (n := 5) (q := 3) (lit' := [((0, 0), .rows 3 (a1.map z6)), ((4, 0), .one [.int .i64 a0.f_Kind, .int .i64 a0.f_A, .int .i64 a0.f_B])]) rfl))) (And.intro (Vw.ptr _ _ _ _ rfl) (And.intro (Vw.same _ rfl) (And.intro (Vw.same _ rfl) trivial))))) (And.intro (And.intro rfl (BVw.enc z6 (fun _ => rfl) _ a1)) (And.intro (And.intro rfl (BVw.oneL (And.intro (Vw.same _ rfl) (And.intro (Vw.same _ rfl) (And.intro (Vw.same _ rfl) trivial))))) trivial))
theorem z3n {σ : Type} {Hc : σ → AHeap} {fi0 : Fn} {ff0 fc0 : List AVal} {g0 : σ → (G_QKey × G_QKey) → Option (Int × σ)} (hg0 : Clo Try.prog fi0 ff0 fc0 Hc (fun (x : (G_QKey × G_QKey)) => [.agg [.int .i64 x.1.f_Kind, .int .i64 x.1.f_A, .int .i64 x.1.f_B], .agg [.int .i64 x.2.f_Kind, .int .i64 x.2.f_A, .int .i64 x.2.f_B]]) (fun (b : Int) => .int .i64 b) g0) {z0 : σ} {a0 : G_QKey} {a1 : List G_QKey} {v2 : Int} {v3 : σ} {v4 : Int} {m : Option Nat} {o : (Int × Bool × σ)} (h : ze g0 m a0 a1 v2 v3 v4 = some o) :
 LWp Try.prog wv 3 (.loop Ug) (xn 0 (Xf Try.prog wv 3 Jd (W4 Hc fi0 ff0 fc0 a0 a1 z0 o))) [(0, .msl (0, 0) 3 0 a1.length false), (2, .fn fi0 ff0 fc0), (4, .ptr (4, 0) 0 0), (8, .int .i64 ((a1.length : Nat) : Int)), (9, .int .i64 v2), (10, .int .i64 v4)] ([((0, 0), .rows 3 (a1.map z6)), ((4, 0), .one [.int .i64 a0.f_Kind, .int .i64 a0.f_A, .int .i64 a0.f_B])] ++ up 3 (Hc v3)) 5 :=
 jf (m := m) (s := ((v2, v3, v4) : (Int × σ × Int))) (r := o) (fun (s : (Int × σ × Int)) => zd g0 m a0 a1 s.1 s.2.1 s.2.2) (Xr Hc fi0 ff0 fc0 a0 a1) (Wl Hc fi0 ff0 fc0 a0 a1) (Kf Hc fi0 ff0 fc0 a0 a1 z0) (fun s o h => z11 hg0 h) h
noncomputable def zw {σ : Type} (g0 : σ → (G_QKey × G_QKey) → Option (Int × σ)) (m : Option Nat) (a0 : G_QKey) (a1 : List G_QKey) (z0 : σ) : Option (Int × Bool × σ) :=
 ze g0 m a0 a1 0 z0 ((a1.length : Nat) : Int)
theorem z3l {σ : Type} {Hc : σ → AHeap} {fi0 : Fn} {ff0 fc0 : List AVal} {g0 : σ → (G_QKey × G_QKey) → Option (Int × σ)} (hg0 : Clo Try.prog fi0 ff0 fc0 Hc (fun (x : (G_QKey × G_QKey)) => [.agg [.int .i64 x.1.f_Kind, .int .i64 x.1.f_A, .int .i64 x.1.f_B], .agg [.int .i64 x.2.f_Kind, .int .i64 x.2.f_A, .int .i64 x.2.f_B]]) (fun (b : Int) => .int .i64 b) g0) {a0 : G_QKey} {a1 : List G_QKey} {z0 : σ} {m : Option Nat} {o : Int × Bool × σ} (h : zw g0 m a0 a1 z0 = some o) : LWp Try.prog wv 3 z4f (W4 Hc fi0 ff0 fc0 a0 a1 z0 o) (qz 0 [.msl (0, 0) 3 0 a1.length false, .agg [.int .i64 a0.f_Kind, .int .i64 a0.f_A, .int .i64 a0.f_B], .fn fi0 ff0 fc0]) ([((0, 0), .rows 3 (a1.map z6))] ++ Hc z0) 3 := by
 unfold zw at h
 refine LWp.sim (e := [(0, .msl (0, 0) 3 0 a1.length false), (1, .agg [.int .i64 a0.f_Kind, .int .i64 a0.f_A, .int .i64 a0.f_B]), (2, .fn fi0 ff0 fc0)]) (L := ([((0, 0), .rows 3 (a1.map z6))] ++ up 3 (Hc z0))) (n := 4) (zh7 (T := Hc z0) (e' := qz 0 [.msl (0, 0) 3 0 a1.length false, .agg [.int .i64 a0.f_Kind, .int .i64 a0.f_A, .int .i64 a0.f_B], .fn fi0 ff0 fc0]) (e := [(0, .msl (0, 0) 3 0 a1.length false), (1, .agg [.int .i64 a0.f_Kind, .int .i64 a0.f_A, .int .i64 a0.f_B]), (2, .fn fi0 ff0 fc0)]) (lit' := [((0, 0), .rows 3 (a1.map z6))]) (lit := [((0, 0), .rows 3 (a1.map z6))]) (hg0.tl z0) rfl rfl (And.intro (Vw.mslE rfl (by first | rfl | omega | (simp; done) | (simp only [List.length_map, List.length_replicate, Int.toNat_natCast] at *; omega)) rfl) (And.intro (Vw.same _ rfl) (And.intro (Vw.clo hg0.hf hg0.hc (by decide) (zi8 _)) trivial))) (And.intro (And.intro rfl (BVw.enc z6 (fun _ => rfl) _ a1)) trivial)) ?_
 refine yq ?_
 refine qw ?_
 refine yq ?_
 refine qw ?_
 refine yq ?_
 refine qw ?_
 refine LWp.sim (e := [(0, .msl (0, 0) 3 0 a1.length false), (2, .fn fi0 ff0 fc0), (4, .ptr (4, 0) 0 0), (8, .int .i64 ((a1.length : Nat) : Int)), (9, .int .i64 0), (10, .int .i64 ((a1.length : Nat) : Int))]) (L := ([((0, 0), .rows 3 (a1.map z6)), ((4, 0), .one [.int .i64 a0.f_Kind, .int .i64 a0.f_A, .int .i64 a0.f_B])] ++ up 3 (Hc z0))) (n := 5) ?_ ?_
 ·exact zd5 (M := [((4, 0), (4, 0))]) (lit' := [((4, 0), .one [.int .i64 a0.f_Kind, .int .i64 a0.f_A, .int .i64 a0.f_B]), ((0, 0), .rows 3 (a1.map z6))]) (hg0.tl _) rfl (And.intro (Vw.mslE rfl (by first | rfl | omega | (simp; done) | (simp only [List.length_map, List.length_replicate, Int.toNat_natCast] at *; omega)) rfl) (And.intro (Vw.clo hg0.hf hg0.hc (by decide) (Qp (vp (n := 5) (q := 3) (lit' := [((4, 0), .one [.int .i64 a0.f_Kind, .int .i64 a0.f_A, .int .i64 a0.f_B]), ((0, 0), .rows 3 (a1.map z6))]) rfl))) (And.intro (Vw.ptr _ _ _ _ rfl) (And.intro (Vw.same _ rfl) (And.intro (Vw.same _ rfl) (And.intro (Vw.same _ rfl) trivial)))))) (And.intro (And.intro rfl (BVw.enc z6 (fun _ => rfl) _ a1)) (And.intro (And.intro rfl (BVw.oneL (And.intro (Vw.same _ rfl) (And.intro (Vw.same _ rfl) (And.intro (Vw.same _ rfl) trivial))))) trivial))
 refine yq ?_
 refine jm ?_
 refine LWp.sim ?_ (z3n hg0 h)
 exact zd5 (M := [((4, 0), (4, 0))]) (lit' := [((0, 0), .rows 3 (a1.map z6)), ((4, 0), .one [.int .i64 a0.f_Kind, .int .i64 a0.f_A, .int .i64 a0.f_B])]) (hg0.tl _) rfl (And.intro (Vw.mslE rfl (by first | rfl | omega | (simp; done) | (simp only [List.length_map, List.length_replicate, Int.toNat_natCast] at *; omega)) rfl) (And.intro (Vw.clo hg0.hf hg0.hc (by decide) (Qp (vp (n := 5) (q := 3) (lit' := [((0, 0), .rows 3 (a1.map z6)), ((4, 0), .one [.int .i64 a0.f_Kind, .int .i64 a0.f_A, .int .i64 a0.f_B])]) rfl))) (And.intro (Vw.ptr _ _ _ _ rfl) (And.intro (Vw.same _ rfl) (And.intro (Vw.same _ rfl) (And.intro (Vw.same _ rfl) trivial)))))) (And.intro (And.intro rfl (BVw.enc z6 (fun _ => rfl) _ a1)) (And.intro (And.intro rfl (BVw.oneL (And.intro (Vw.same _ rfl) (And.intro (Vw.same _ rfl) (And.intro (Vw.same _ rfl) trivial))))) trivial))
theorem zdd {σ : Type} {Hc : σ → AHeap} {fi0 : Fn} {ff0 fc0 : List AVal} {g0 : σ → (G_QKey × G_QKey) → Option (Int × σ)} (hg0 : Clo Try.prog fi0 ff0 fc0 Hc (fun (x : (G_QKey × G_QKey)) => [.agg [.int .i64 x.1.f_Kind, .int .i64 x.1.f_A, .int .i64 x.1.f_B], .agg [.int .i64 x.2.f_Kind, .int .i64 x.2.f_A, .int .i64 x.2.f_B]]) (fun (b : Int) => .int .i64 b) g0) {a0 : G_QKey} {a1 : List G_QKey} {z0 : σ} {m : Option Nat} {o : Int × Bool × σ} (h : zw g0 m a0 a1 z0 = some o) : ACalls Try.prog 46 [.msl (0, 0) 3 0 a1.length false, .agg [.int .i64 a0.f_Kind, .int .i64 a0.f_A, .int .i64 a0.f_B], .fn fi0 ff0 fc0] ([((0, 0), .rows 3 (a1.map z6))] ++ Hc z0) 3 (kh 4 (.tup [.int .i64 o.1, .bool o.2.1]) ([((0, 0), .rows 3 (a1.map z6))] ++ up 3 (Hc o.2.2))) := z1h (L := z9a) zb4 z7a (Nat.le_of_ble_eq_true rfl) (z3l hg0 h)
def Try.i47_ren : Go.Shelf.Ren := ⟨fun | 22 => 47 | 29 => 52 | 30 => 53 | n => n, fun | 24 => 27 | 9 => 24 | 3 => 3 | 4 => 4 | 0 => 0 | n => n, fun | n => n⟩
theorem Try.i47 : InsL Try.prog Try.i47_ren := {
 mixed := by kernel_rfl
 f22 := ⟨Try.f47.name, Try.func47.trans (congrArg some (by kernel_rfl))⟩
 f29 := ⟨Try.f52.name, Try.func52.trans (congrArg some (by kernel_rfl)), by kernel_rfl, by kernel_rfl, by kernel_rfl⟩
 t0 := Try.underlying0
 a0 := Try.isAgg0
 z0 := Try.sizeOf0
 v0 := Try.zeroValue0
 t3 := Try.underlying3
 a3 := Try.isAgg3
 z3 := Try.sizeOf3
 v3 := Try.zeroValue3
 t4 := Try.underlying4
 a4 := Try.isAgg4
 z4 := Try.sizeOf4
 v4 := Try.zeroValue4
 t24 := Try.underlying27
 a24 := Try.isAgg27
 z24 := Try.sizeOf27
 v24 := Try.zeroValue27 }
def xt (m : Option Nat) (a0 : Int) (a1 : List G_QKey) (a2 : List G_QKey) : Option (List G_QKey) := zip 24 a2 a0 a1
theorem z9i : Yf Try.prog 47 := ⟨_, Try.func47, rfl, rfl⟩
theorem zc1 {m : Option Nat} {a0 : Int} {a1 : List G_QKey} {a2 : List G_QKey} {o : List G_QKey} (h : xt m a0 a1 a2 = some o) : ACalls Try.prog 47 [.msl (0, 0) 3 0 a2.length false, .int .i64 a0, .isl 3 (a1.map z6) false] [((0, 0), .rows 3 (a2.map z6))] 3 (kh 4 (.msl (3, 0) 3 0 o.length false) [((3, 0), .rows 3 (o.map z6))]) :=
 z3p (zs := [(.int .i64 0), (.int .i64 0), (.int .i64 0)]) z6 (fun _ => rfl) Try.i47 (by kernel_rfl) (by kernel_rfl) (by kernel_rfl) (by decide) (by decide) (by decide) z9i rfl h _ _
def z48 : LCode := (.seq (.region [⟨some 20, .mv (.t 0), none⟩,
 ⟨some 4, .mv (.t 20), none⟩])
 .ret)
def z4r : LCode := (.seq (.region [⟨some 3, .box (.t 1), none⟩,
 ⟨some 4, .mv (.c (.val (.slice none 0 0))), none⟩])
 (.seq (.seq (.region [⟨some 8, .mv (.t 0), none⟩,
  ⟨some 9, .load true 3 (.t 3), none⟩,
  ⟨some 10, .call 46 [(.t 8), (.t 9), (.c (.fn (.func 39) [] []))], none⟩,
  ⟨some 7, .mv (.t 10), none⟩,
  ⟨some 11, .ext 0 (.t 7), none⟩,
  ⟨some 12, .ext 1 (.t 7), none⟩,
  ⟨some 5, .mv (.t 11), none⟩,
  ⟨some 6, .mv (.t 12), none⟩])
 (.seq (.region [⟨some 13, .mv (.t 6), none⟩,
  ⟨some 14, .un .not (.t 13), none⟩])
 (.cond (.t 14)
  (.region [⟨some 15, .mv (.t 0), none⟩,
   ⟨some 16, .mv (.t 5), none⟩,
   ⟨some 17, .load true 3 (.t 3), none⟩,
   ⟨some 18, .mkSl true 3 [(.int .i64 0), (.int .i64 0), (.int .i64 0)] 1 [(0, (.t 17))], none⟩,
   ⟨some 19, .call 47 [(.t 15), (.t 16), (.t 18)], none⟩,
   ⟨some 0, .mv (.t 19), none⟩])
  .skip)))
 z48))
def Jw : Lay := ⟨21, [], false⟩
def z0y : List LRes := [.t 4]
def zak : LFn := ⟨2, Jw, z4r, z0y⟩
theorem z75 : wy Try.prog [] 36 = some zak := by kernel_rfl
theorem z9p : Yf Try.prog 36 := ⟨_, Try.func36, rfl, rfl⟩
noncomputable def xe (m : Option Nat) (v3 : List G_QKey) : Option (List G_QKey) :=
 some v3
def z98 (a0 : G_QKey) (a1 : List G_QKey) (o : (List G_QKey)) : Exit → Env → AHeap → Nat → Prop := Wt z0y (Vf 3 4 (.msl (3, 0) 3 0 o.length false) [((3, 0), .rows 3 (o.map z6))])
theorem W5 {a0 : G_QKey} {a1 : List G_QKey} {v3 : List G_QKey} {m : Option Nat} {o : (List G_QKey)} (h : xe m v3 = some o) :
 LWp Try.prog Jw 3 z48 (z98 a0 a1 o) [(0, .msl (3, 0) 3 0 v3.length false)] [((3, 0), .rows 3 (v3.map z6))] 4 := by
 unfold xe at h
 refine yq ?_
 refine qw ?_
 refine Ye ?_
 cases h
 exact And.intro trivial (zj6 (n' := 4) [((3, 0), (3, 0))] [] rfl rfl (Vw.mslE rfl (by first | rfl | omega | (simp; done) | (simp only [List.length_map, List.length_replicate, Int.toNat_natCast] at *; omega)) rfl) (And.intro (And.intro rfl (BVw.enc z6 (fun _ => rfl) _ v3)) trivial))
noncomputable def ye (m : Option Nat) (a0 : G_QKey) (a1 : List G_QKey) : Option (List G_QKey) :=
 (zw (fun (s : Unit) (x : (G_QKey × G_QKey)) => (y7 m x.1 x.2).map fun o => (o, ())) m a0 a1 ()).bind fun v1 =>
 if (!v1.2.1) = true then
  (xt m v1.1 ([a0] : List G_QKey) a1).bind fun v2 =>
  xe m v2
 else
  xe m a1
theorem z2q {a0 : G_QKey} {a1 : List G_QKey} {m : Option Nat} {o : (List G_QKey)} (h : ye m a0 a1 = some o) : LWp Try.prog Jw 3 z4r (z98 a0 a1 o) (qz 0 [.msl (0, 0) 3 0 a1.length false, .agg [.int .i64 a0.f_Kind, .int .i64 a0.f_A, .int .i64 a0.f_B]]) [((0, 0), .rows 3 (a1.map z6))] 3 := by
 unfold ye at h
 refine yq ?_
 refine qw ?_
 refine yq ?_
 refine yq ?_
 refine qw ?_
 obtain ⟨v1, h1, h⟩ := bind_some h
 refine Xt (k := 3) (m := 1) (L' := [((0, 0), .rows 3 (a1.map z6))]) (rest := [((3, 0), .one [.int .i64 a0.f_Kind, .int .i64 a0.f_A, .int .i64 a0.f_B])]) (R' := .tup [.int .i64 v1.1, .bool v1.2.1]) [((0, 0), (0, 0))] (zdd (show Clo Try.prog (.func 39) [] [] (fun (s : Unit) => []) (fun (x : (G_QKey × G_QKey)) => [.agg [.int .i64 x.1.f_Kind, .int .i64 x.1.f_A, .int .i64 x.1.f_B], .agg [.int .i64 x.2.f_Kind, .int .i64 x.2.f_A, .int .i64 x.2.f_B]]) (fun (b : Int) => .int .i64 b) (fun (s : Unit) (x : (G_QKey × G_QKey)) => (y7 m x.1 x.2).map fun o => (o, ())) from Clo.mk' (fun s => Tl.lit rfl trivial rfl) rfl rfl (fun _ => rfl) (fun s x o h => by obtain ⟨o1, h1, rfl⟩ := Option.map_eq_some_iff.1 h; exact Exists.intro _ (And.intro (zbh h1) trivial))) h1) rfl rfl rfl (And.intro (Vw.mslE rfl (by first | rfl | omega | (simp; done) | (simp only [List.length_map, List.length_replicate, Int.toNat_natCast] at *; omega)) rfl) (And.intro (Vw.same _ rfl) (And.intro (Vw.same _ rfl) trivial))) (And.intro (h0I (0, 0) rfl rfl (BVw.enc z6 (fun _ => rfl) _ a1)) trivial) (ut _ rfl) (And.intro rfl (And.intro (kp z6 (fun _ => rfl) _ _) trivial)) rfl ?_
 show J8 _ _ _ [(10, .tup [.int .i64 v1.1, .bool v1.2.1]), (9, .agg [.int .i64 a0.f_Kind, .int .i64 a0.f_A, .int .i64 a0.f_B]), (8, .msl (0, 0) 3 0 a1.length false), (4, .val (.slice none 0 0)), (3, .ptr (3, 0) 0 0), (0, .msl (0, 0) 3 0 a1.length false), (1, .agg [.int .i64 a0.f_Kind, .int .i64 a0.f_A, .int .i64 a0.f_B])] _ _
 refine LWp.sim (e := [(0, .msl (3, 0) 3 0 a1.length false), (3, .ptr (4, 0) 0 0), (5, .int .i64 v1.1), (6, .bool v1.2.1)]) (L := [((3, 0), .rows 3 (a1.map z6)), ((4, 0), .one [.int .i64 a0.f_Kind, .int .i64 a0.f_A, .int .i64 a0.f_B])]) (n := 5) ?_ ?_
 ·exact jy (M := [((3, 0), (0, 0)), ((4, 0), (3, 0))]) rfl (And.intro (Vw.mslE rfl (by first | rfl | omega | (simp; done) | (simp only [List.length_map, List.length_replicate, Int.toNat_natCast] at *; omega)) rfl) (And.intro (Vw.ptr _ _ _ _ rfl) (And.intro (Vw.same _ rfl) (And.intro (Vw.same _ rfl) trivial)))) (And.intro (And.intro rfl (BVw.enc z6 (fun _ => rfl) _ a1)) (And.intro (And.intro rfl (BVw.oneL (And.intro (Vw.same _ rfl) (And.intro (Vw.same _ rfl) (And.intro (Vw.same _ rfl) trivial))))) trivial))
 refine yq ?_
 refine qw ?_
 refine w7 (v := (!v1.2.1)) rfl trivial (fun h2 => ?_) (fun h2 => ?_)
 ·have h := qq h2 h
  refine qw ?_
  obtain ⟨v2, h3, h⟩ := bind_some h
  refine Xt (k := 3) (m := 1) (L' := [((5, 0), .rows 3 (v2.map z6))]) (rest := [((4, 0), .one [.int .i64 a0.f_Kind, .int .i64 a0.f_A, .int .i64 a0.f_B])]) (R' := .msl (5, 0) 3 0 v2.length false) [((0, 0), (3, 0))] (zc1 h3) rfl rfl rfl (And.intro (Vw.mslE rfl (by first | rfl | omega | (simp; done) | (simp only [List.length_map, List.length_replicate, Int.toNat_natCast] at *; omega)) rfl) (And.intro (Vw.same _ rfl) (And.intro (Vw.islF _ _ _) trivial))) (And.intro (h0I (3, 0) rfl rfl (BVw.enc z6 (fun _ => rfl) _ a1)) trivial) rfl (And.intro rfl (And.intro (kp z6 (fun _ => rfl) _ _) trivial)) rfl ?_
  show J8 _ _ _ [(19, .msl (5, 0) 3 0 v2.length false), (18, .isl 3 (([a0] : List G_QKey).map z6) true), (17, .agg [.int .i64 a0.f_Kind, .int .i64 a0.f_A, .int .i64 a0.f_B]), (16, .int .i64 v1.1), (15, .msl (3, 0) 3 0 a1.length false), (14, .bool (!v1.2.1)), (13, .bool v1.2.1), (0, .msl (3, 0) 3 0 a1.length false), (3, .ptr (4, 0) 0 0), (5, .int .i64 v1.1), (6, .bool v1.2.1)] _ _
  refine LWp.sim ?_ (W5 h)
  exact jy (M := [((3, 0), (5, 0))]) rfl (And.intro (Vw.mslE rfl (by first | rfl | omega | (simp; done) | (simp only [List.length_map, List.length_replicate, Int.toNat_natCast] at *; omega)) rfl) trivial) (And.intro (And.intro rfl (BVw.enc z6 (fun _ => rfl) _ v2)) trivial)
 ·have h := xm h2 h
  refine wg ?_
  refine LWp.sim ?_ (W5 h)
  exact jy (M := [((3, 0), (3, 0))]) rfl (And.intro (Vw.mslE rfl (by first | rfl | omega | (simp; done) | (simp only [List.length_map, List.length_replicate, Int.toNat_natCast] at *; omega)) rfl) trivial) (And.intro (And.intro rfl (BVw.enc z6 (fun _ => rfl) _ a1)) trivial)
theorem J3 {a0 : G_QKey} {a1 : List G_QKey} {m : Option Nat} {o : (List G_QKey)} (h : ye m a0 a1 = some o) : ACalls Try.prog 36 [.msl (0, 0) 3 0 a1.length false, .agg [.int .i64 a0.f_Kind, .int .i64 a0.f_A, .int .i64 a0.f_B]] [((0, 0), .rows 3 (a1.map z6))] 3 (kh 4 (.msl (3, 0) 3 0 o.length false) [((3, 0), .rows 3 (o.map z6))]) := z1h (L := zak) z75 z9p (Nat.le_of_ble_eq_true rfl) (z2q h)
def z4u : LCode := (.draw [⟨⟨some 43, .mv (.t 5), none⟩, []⟩,
 ⟨⟨some 44, .mv (.t 5), none⟩, []⟩,
 ⟨⟨some 45, .nilck (.t 44), none⟩, []⟩,
 ⟨⟨some 46, .faddr 1 (.t 45), none⟩, []⟩,
 ⟨⟨some 47, .load false 1 (.t 46), none⟩, []⟩,
 ⟨⟨some 48, .load true 3 (.t 8), none⟩, []⟩,
 ⟨⟨some 50, .load true 3 (.t 9), none⟩, []⟩,
 ⟨⟨some 49, .call 36 [(.t 47), (.t 48)], none⟩, [6]⟩,
 ⟨⟨some 51, .call 36 [(.t 49), (.t 50)], none⟩, []⟩,
 ⟨⟨some 52, .nilck (.t 43), none⟩, []⟩,
 ⟨⟨some 53, .faddr 1 (.t 52), none⟩, []⟩,
 ⟨⟨none, .store 1 (.t 53) (.t 51), none⟩, []⟩])
def z57 : LCode := (.seq (.draw [⟨⟨some 30, .mv (.t 5), none⟩, []⟩,
 ⟨⟨some 31, .nilck (.t 30), none⟩, []⟩,
 ⟨⟨some 32, .faddr 0 (.t 31), none⟩, []⟩,
 ⟨⟨some 33, .load false 1 (.t 32), none⟩, []⟩,
 ⟨⟨some 34, .load true 3 (.t 8), none⟩, []⟩,
 ⟨⟨some 35, .mv (.t 5), none⟩, []⟩,
 ⟨⟨some 36, .nilck (.t 35), none⟩, []⟩,
 ⟨⟨some 37, .faddr 0 (.t 36), none⟩, []⟩,
 ⟨⟨some 38, .load false 1 (.t 37), none⟩, []⟩,
 ⟨⟨some 39, .load true 3 (.t 8), none⟩, []⟩,
 ⟨⟨some 40, .mlook [.int, .int, .int] true false false [(.val (.slice none 0 0))] (.t 38) (.t 39), none⟩, []⟩,
 ⟨⟨some 41, .load true 3 (.t 9), none⟩, []⟩,
 ⟨⟨some 42, .call 36 [(.t 40), (.t 41)], none⟩, [3, 4]⟩,
 ⟨⟨none, .mset [.int, .int, .int] true false [(.isl 3 [] true)] (.t 33) (.t 34) (.t 42), none⟩, []⟩])
 z4u)
def U4 : LCode := (.region [⟨some 54, .bin .add (.t 19) (.c (.int .i64 1)), none⟩,
 ⟨some 19, .mv (.t 54), none⟩])
def Ko : LCode := (.seq (.region [⟨some 20, .bin .lss (.t 19) (.t 18), none⟩])
 (.seq (.cond (.t 20)
  .skip
  (.exit 0))
 (.seq (.block 1
  (.seq (.region [⟨some 21, .iaddr 6 (.t 17) (.t 19), none⟩,
   ⟨some 22, .load true 6 (.t 21), none⟩,
   ⟨some 7, .alloc [(.int .i64 0), (.int .i64 0), (.int .i64 0), (.int .i64 0), (.int .i64 0), (.int .i64 0)], none⟩,
   ⟨none, .store 6 (.t 7) (.t 22), none⟩])
  (.seq (.draw [⟨⟨some 23, .faddr 0 (.t 7), none⟩, []⟩,
   ⟨⟨some 24, .load true 3 (.t 23), none⟩, []⟩,
   ⟨⟨some 25, .faddr 3 (.t 7), none⟩, []⟩,
   ⟨⟨some 26, .load true 3 (.t 25), none⟩, []⟩,
   ⟨⟨some 8, .alloc [(.int .i64 0), (.int .i64 0), (.int .i64 0)], none⟩, [1, 3]⟩,
   ⟨⟨some 9, .alloc [(.int .i64 0), (.int .i64 0), (.int .i64 0)], none⟩, [1, 3]⟩,
   ⟨⟨none, .store 3 (.t 8) (.t 24), none⟩, [3]⟩,
   ⟨⟨none, .store 3 (.t 9) (.t 26), none⟩, []⟩])
  (.seq (.seq (.region [⟨some 27, .mv (.t 1), none⟩])
  (.cond (.t 27)
   (.region [⟨some 28, .load true 3 (.t 9), none⟩,
    ⟨some 29, .load true 3 (.t 8), none⟩,
    ⟨none, .store 3 (.t 8) (.t 28), none⟩,
    ⟨none, .store 3 (.t 9) (.t 29), none⟩])
   .skip))
  z57))))
 U4)))
def J7 : LCode := (.seq (.region [⟨some 55, .mv (.t 5), none⟩,
 ⟨some 4, .mv (.t 55), none⟩])
 .ret)
def z41 : LCode := (.seq (.region [⟨some 4, .mv (.c (.val (.pointer none))), none⟩])
 (.seq (.region [⟨some 10, .mkmap none, none⟩,
  ⟨some 11, .build [(.val (.map none)), (.isl 3 [] true)] [(0, 1, (.t 10))], none⟩,
  ⟨some 12, .box (.t 11), none⟩,
  ⟨some 5, .mv (.t 12), none⟩])
 (.seq (.seq (.region [⟨some 13, .mv (.t 0), none⟩,
  ⟨some 14, .mv (.t 0), none⟩,
  ⟨some 15, .len false (.t 14), none⟩,
  ⟨some 16, .mnx false [(.t 15), (.c (.int .i64 400))], none⟩,
  ⟨some 17, .slSl 6 (.t 13) none (some (.t 16)) none, none⟩,
  ⟨some 18, .len false (.t 17), none⟩,
  ⟨some 19, .mv (.c (.int .i64 0)), none⟩])
 (.block 0
  (.loop
   Ko)))
 J7)))
def ji : Lay := ⟨56, [12, 40], false⟩
def z1v : List LRes := [.t 4]
def zaa : LFn := ⟨2, ji, z41, z1v⟩
theorem zas : wy Try.prog [12, 40] 21 = some zaa := by kernel_rfl
theorem z8o : Yf Try.prog 21 := ⟨_, Try.func21, rfl, rfl⟩
def Kx (a0 : List G_QEdge) (a1 : Bool) (o : (List G_QKey) × (List (G_QKey × (List G_QKey)))) : Exit → Env → AHeap → Nat → Prop := Wt z1v (Vf 3 7 (.ptr (3, 0) 0 0) [((3, 0), .one [.map (4, 0), .isl 3 (o.1.map z6) false]), ((4, 0), .amap (o.2.map (em zb zh)))])
def ko (a0 : List G_QEdge) (a1 : Bool) (s : (Int × (List (G_QKey × (List G_QKey))) × (List G_QKey))) : Env := [(1, .bool a1), (5, .ptr (3, 0) 0 0), (17, .isl 6 ((a0.take (if 400 < ((a0.map z7).length : Int) then 400 else ((a0.map z7).length : Int)).toNat).map z7) false), (18, .int .i64 (((a0.take (if 400 < ((a0.map z7).length : Int) then 400 else ((a0.map z7).length : Int)).toNat).map z7).length : Int)), (19, .int .i64 s.1)]
def uw (a0 : List G_QEdge) (a1 : Bool) (s : (Int × (List (G_QKey × (List G_QKey))) × (List G_QKey))) : AHeap := ([((3, 0), .one [.map (4, 0), .msl (5, 0) 3 0 s.2.2.length false]), ((4, 0), .amap (ke zb 6 3 s.2.1)), ((5, 0), .rows 3 (s.2.2.map z6))] ++ (kw 6 3 z6 s.2.1 none))
def Y4 (a0 : List G_QEdge) (a1 : Bool) (o : ((List G_QKey) × (List (G_QKey × (List G_QKey))))) : Exit → Env → AHeap → Nat → Prop := (xn 0 (Xf Try.prog ji 3 J7 (Kx a0 a1 o)))
noncomputable def qp (m : Option Nat) (a0 : List G_QEdge) (a1 : Bool) (v12 : Int) (v14 : List G_QKey) (v26 : Int) (v27 : Int) (v28 : Int) (v29 : Int) (v30 : Int) (v31 : Int) (v34 : List (G_QKey × (List G_QKey))) : Option ((Int × (List (G_QKey × (List G_QKey))) × (List G_QKey)) ⊕ ((List G_QKey) × (List (G_QKey × (List G_QKey))))) :=
 (ye m (G_QKey.mk v26 v27 v28) v14).bind fun v35 =>
 (ye m (G_QKey.mk v29 v30 v31) v35).bind fun v36 =>
 some (.inl ((W (v12 + 1)), v34, v36))
theorem Jz {a0 : List G_QEdge} {a1 : Bool} {v12 : Int} {v14 : List G_QKey} {v26 : Int} {v27 : Int} {v28 : Int} {v29 : Int} {v30 : Int} {v31 : Int} {v34 : List (G_QKey × (List G_QKey))} {m : Option Nat} {o : ((Int × (List (G_QKey × (List G_QKey))) × (List G_QKey)) ⊕ ((List G_QKey) × (List (G_QKey × (List G_QKey)))))} (h : qp m a0 a1 v12 v14 v26 v27 v28 v29 v30 v31 v34 = some o) :
 LWp Try.prog ji 3 z4u (xn 1 (Xf Try.prog ji 3 U4 (kg 3 7 (ko a0 a1) (uw a0 a1) (Y4 a0 a1) o))) [(1, .bool a1), (5, .ptr (3, 0) 0 0), (8, .ptr (4, 0) 0 0), (9, .ptr (5, 0) 0 0), (17, .isl 6 ((a0.take (if 400 < ((a0.map z7).length : Int) then 400 else ((a0.map z7).length : Int)).toNat).map z7) false), (18, .int .i64 (((a0.take (if 400 < ((a0.map z7).length : Int) then 400 else ((a0.map z7).length : Int)).toNat).map z7).length : Int)), (19, .int .i64 v12)] ([((3, 0), .one [.map (6, 0), .msl (7, 0) 3 0 v14.length false]), ((4, 0), .one [.int .i64 v26, .int .i64 v27, .int .i64 v28]), ((5, 0), .one [.int .i64 v29, .int .i64 v30, .int .i64 v31]), ((6, 0), .amap (ke zb 8 3 v34)), ((7, 0), .rows 3 (v14.map z6))] ++ (kw 8 3 z6 v34 none)) 9 := by
 unfold qp at h
 refine Vb ?_
 obtain ⟨v35, h24, h⟩ := bind_some h
 refine Xt (k := 3) (m := 1) (L' := [((9, 0), .rows 3 (v35.map z6))]) (rest := ([((3, 0), .one [.map (6, 0), .msl (7, 0) 3 0 v14.length false]), ((4, 0), .one [.int .i64 v26, .int .i64 v27, .int .i64 v28]), ((5, 0), .one [.int .i64 v29, .int .i64 v30, .int .i64 v31]), ((6, 0), .amap (ke zb 8 3 v34))] ++ (kw 8 3 z6 v34 none))) (R' := .msl (9, 0) 3 0 v35.length false) [((0, 0), (7, 0))] (J3 h24) rfl rfl rfl (And.intro (Vw.mslE rfl (by first | rfl | omega | (simp; done) | (simp only [List.length_map, List.length_replicate, Int.toNat_natCast] at *; omega)) rfl) (And.intro (Vw.same _ rfl) trivial)) (And.intro (h0I (7, 0) rfl rfl (BVw.enc z6 (fun _ => rfl) _ v14)) trivial) rfl (And.intro rfl (And.intro (kp z6 (fun _ => rfl) _ _) trivial)) (Z1 (lit := [((3, 0), .one [.map (6, 0), .msl (7, 0) 3 0 v14.length false]), ((4, 0), .one [.int .i64 v26, .int .i64 v27, .int .i64 v28]), ((5, 0), .one [.int .i64 v29, .int .i64 v30, .int .i64 v31]), ((6, 0), .amap (ke zb 8 3 v34)), ((7, 0), .rows 3 (v14.map z6))]) (T := (kw 8 3 z6 v34 none)) InQ.baseM (fun _ => rfl) rfl) ?_
 refine And.intro rfl ?_
 obtain ⟨v36, h25, h⟩ := bind_some h
 refine Xt (k := 3) (m := 1) (L' := [((11, 0), .rows 3 (v36.map z6))]) (rest := ([((3, 0), .one [.map (6, 0), .msl (7, 0) 3 0 v14.length false]), ((4, 0), .one [.int .i64 v26, .int .i64 v27, .int .i64 v28]), ((5, 0), .one [.int .i64 v29, .int .i64 v30, .int .i64 v31]), ((6, 0), .amap (ke zb 8 3 v34))] ++ (kw 8 3 z6 v34 none))) (R' := .msl (11, 0) 3 0 v36.length false) [((0, 0), (9, 0))] (J3 h25) rfl rfl rfl (And.intro (Vw.mslE rfl (by first | rfl | omega | (simp; done) | (simp only [List.length_map, List.length_replicate, Int.toNat_natCast] at *; omega)) rfl) (And.intro (Vw.same _ rfl) trivial)) (And.intro (h0I (9, 0) rfl rfl (BVw.enc z6 (fun _ => rfl) _ v35)) trivial) rfl (And.intro rfl (And.intro (kp z6 (fun _ => rfl) _ _) trivial)) (Z1 (lit := [((9, 0), .rows 3 (v35.map z6)), ((3, 0), .one [.map (6, 0), .msl (7, 0) 3 0 v14.length false]), ((4, 0), .one [.int .i64 v26, .int .i64 v27, .int .i64 v28]), ((5, 0), .one [.int .i64 v29, .int .i64 v30, .int .i64 v31]), ((6, 0), .amap (ke zb 8 3 v34))]) (T := (kw 8 3 z6 v34 none)) InQ.baseM (fun _ => rfl) rfl) ?_
 show yd _ _ _ _ _ [(51, .msl (11, 0) 3 0 v36.length false), (49, .msl (9, 0) 3 0 v35.length false), (50, .agg [.int .i64 v29, .int .i64 v30, .int .i64 v31]), (48, .agg [.int .i64 v26, .int .i64 v27, .int .i64 v28]), (47, .msl (7, 0) 3 0 v14.length false), (46, .ptr (3, 0) 0 1), (45, .ptr (3, 0) 0 0), (44, .ptr (3, 0) 0 0), (43, .ptr (3, 0) 0 0), (1, .bool a1), (5, .ptr (3, 0) 0 0), (8, .ptr (4, 0) 0 0), (9, .ptr (5, 0) 0 0), (17, .isl 6 ((a0.take (if 400 < ((a0.map z7).length : Int) then 400 else ((a0.map z7).length : Int)).toNat).map z7) false), (18, .int .i64 (((a0.take (if 400 < ((a0.map z7).length : Int) then 400 else ((a0.map z7).length : Int)).toNat).map z7).length : Int)), (19, .int .i64 v12)] _ _
 refine LWp.sim (e := [(1, .bool a1), (5, .ptr (3, 0) 0 0), (17, .isl 6 ((a0.take (if 400 < ((a0.map z7).length : Int) then 400 else ((a0.map z7).length : Int)).toNat).map z7) false), (18, .int .i64 (((a0.take (if 400 < ((a0.map z7).length : Int) then 400 else ((a0.map z7).length : Int)).toNat).map z7).length : Int)), (19, .int .i64 v12)]) (L := ([((3, 0), .one [.map (4, 0), .msl (5, 0) 3 0 v36.length false]), ((4, 0), .amap (ke zb 6 3 v34)), ((5, 0), .rows 3 (v36.map z6))] ++ (kw 6 3 z6 v34 none))) (n := 7) ?_ ?_
 ·exact U9 (M := [((3, 0), (3, 0)), ((4, 0), (6, 0)), ((5, 0), (11, 0))]) (lit' := [((11, 0), .rows 3 (v36.map z6)), ((3, 0), .one [.map (6, 0), .msl (11, 0) 3 0 v36.length false]), ((4, 0), .one [.int .i64 v26, .int .i64 v27, .int .i64 v28]), ((5, 0), .one [.int .i64 v29, .int .i64 v30, .int .i64 v31]), ((6, 0), .amap (ke zb 8 3 v34))]) (T := (kw 8 3 z6 v34 none)) (q := 8) (q' := 6) xi rfl IsFamM.base (And.intro (Vw.same _ rfl) (And.intro (Vw.ptr _ _ _ _ rfl) (And.intro (Vw.same _ rfl) (And.intro (Vw.same _ rfl) (And.intro (Vw.same _ rfl) trivial))))) (And.intro (And.intro rfl (BVw.oneL (And.intro (Vw.map _ _ rfl) (And.intro (Vw.mslE rfl (by first | rfl | omega | (simp; done) | (simp only [List.length_map, List.length_replicate, Int.toNat_natCast] at *; omega)) rfl) trivial)))) (And.intro (And.intro rfl BVw.entJ) (And.intro (And.intro rfl (BVw.enc z6 (fun _ => rfl) _ v36)) trivial)))
 refine qw ?_
 cases h
 exact And.intro rfl (U9 (M := [((3, 0), (3, 0)), ((4, 0), (4, 0)), ((5, 0), (5, 0))]) (lit' := [((3, 0), .one [.map (4, 0), .msl (5, 0) 3 0 v36.length false]), ((4, 0), .amap (ke zb 6 3 v34)), ((5, 0), .rows 3 (v36.map z6))]) (T := (kw 6 3 z6 v34 none)) (q := 6) (q' := 6) xi rfl IsFamM.base (And.intro (Vw.same _ rfl) (And.intro (Vw.ptr _ _ _ _ rfl) (And.intro (Vw.same _ rfl) (And.intro (Vw.same _ rfl) (And.intro (Vw.same _ rfl) trivial))))) (And.intro (And.intro rfl (BVw.oneL (And.intro (Vw.map _ _ rfl) (And.intro (Vw.mslE rfl (by first | rfl | omega | (simp; done) | (simp only [List.length_map, List.length_replicate, Int.toNat_natCast] at *; omega)) rfl) trivial)))) (And.intro (And.intro rfl BVw.entJ) (And.intro (And.intro rfl (BVw.enc z6 (fun _ => rfl) _ v36)) trivial))))
noncomputable def qo (m : Option Nat) (a0 : List G_QEdge) (a1 : Bool) (v12 : Int) (v13 : List (G_QKey × (List G_QKey))) (v14 : List G_QKey) (v26 : Int) (v27 : Int) (v28 : Int) (v29 : Int) (v30 : Int) (v31 : Int) : Option ((Int × (List (G_QKey × (List G_QKey))) × (List G_QKey)) ⊕ ((List G_QKey) × (List (G_QKey × (List G_QKey))))) :=
 if (lk zx v13 (G_QKey.mk v26 v27 v28)).isSome = true then
  (ye m (G_QKey.mk v29 v30 v31) ((lk zx v13 (G_QKey.mk v26 v27 v28)).getD default)).bind fun v32 =>
  qp m a0 a1 v12 v14 v26 v27 v28 v29 v30 v31 (mp zx v13 (G_QKey.mk v26 v27 v28) v32)
 else
  (ye m (G_QKey.mk v29 v30 v31) ([] : List G_QKey)).bind fun v33 =>
  qp m a0 a1 v12 v14 v26 v27 v28 v29 v30 v31 (mp zx v13 (G_QKey.mk v26 v27 v28) v33)
theorem Wh {a0 : List G_QEdge} {a1 : Bool} {v12 : Int} {v13 : List (G_QKey × (List G_QKey))} {v14 : List G_QKey} {v26 : Int} {v27 : Int} {v28 : Int} {v29 : Int} {v30 : Int} {v31 : Int} {m : Option Nat} {o : ((Int × (List (G_QKey × (List G_QKey))) × (List G_QKey)) ⊕ ((List G_QKey) × (List (G_QKey × (List G_QKey)))))} (h : qo m a0 a1 v12 v13 v14 v26 v27 v28 v29 v30 v31 = some o) :
 LWp Try.prog ji 3 z57 (xn 1 (Xf Try.prog ji 3 U4 (kg 3 7 (ko a0 a1) (uw a0 a1) (Y4 a0 a1) o))) [(1, .bool a1), (5, .ptr (3, 0) 0 0), (8, .ptr (4, 0) 0 0), (9, .ptr (5, 0) 0 0), (17, .isl 6 ((a0.take (if 400 < ((a0.map z7).length : Int) then 400 else ((a0.map z7).length : Int)).toNat).map z7) false), (18, .int .i64 (((a0.take (if 400 < ((a0.map z7).length : Int) then 400 else ((a0.map z7).length : Int)).toNat).map z7).length : Int)), (19, .int .i64 v12)] ([((3, 0), .one [.map (6, 0), .msl (7, 0) 3 0 v14.length false]), ((4, 0), .one [.int .i64 v26, .int .i64 v27, .int .i64 v28]), ((5, 0), .one [.int .i64 v29, .int .i64 v30, .int .i64 v31]), ((6, 0), .amap (ke zb 8 3 v13)), ((7, 0), .rows 3 (v14.map z6))] ++ (kw 8 3 z6 v13 none)) 9 := by
 unfold qo at h
 refine yq ?_
 rcases Bool.eq_false_or_eq_true (lk zx v13 (G_QKey.mk v26 v27 v28)).isSome with h21 | h21
 ·have h := qq h21 h
  refine LWp.sim (e := [(1, .bool a1), (5, .ptr (3, 0) 0 0), (8, .ptr (4, 0) 0 0), (9, .ptr (5, 0) 0 0), (17, .isl 6 ((a0.take (if 400 < ((a0.map z7).length : Int) then 400 else ((a0.map z7).length : Int)).toNat).map z7) false), (18, .int .i64 (((a0.take (if 400 < ((a0.map z7).length : Int) then 400 else ((a0.map z7).length : Int)).toNat).map z7).length : Int)), (19, .int .i64 v12)]) (L := ([((9, 0), .rows 3 (((lk zx v13 (G_QKey.mk v26 v27 v28)).getD default).map z6)), ((3, 0), .one [.map (6, 0), .msl (7, 0) 3 0 v14.length false]), ((4, 0), .one [.int .i64 v26, .int .i64 v27, .int .i64 v28]), ((5, 0), .one [.int .i64 v29, .int .i64 v30, .int .i64 v31]), ((6, 0), .amap (V8 zb 8 3 v13 (wn zx v13 (G_QKey.mk v26 v27 v28)) (G_QKey.mk v26 v27 v28) (.msl (9, 0) 3 0 (((lk zx v13 (G_QKey.mk v26 v27 v28)).getD default).length) false))), ((7, 0), .rows 3 (v14.map z6))] ++ (kw 8 3 z6 v13 (some (wn zx v13 (G_QKey.mk v26 v27 v28)))))) (n := 10) ?_ ?_
  ·exact zj8 (m := (9, 0)) (i := (wn zx v13 (G_QKey.mk v26 v27 v28))) (M := [((3, 0), (3, 0)), ((4, 0), (4, 0)), ((5, 0), (5, 0)), ((6, 0), (6, 0)), ((7, 0), (7, 0))]) (lit' := [((3, 0), .one [.map (6, 0), .msl (7, 0) 3 0 v14.length false]), ((4, 0), .one [.int .i64 v26, .int .i64 v27, .int .i64 v28]), ((5, 0), .one [.int .i64 v29, .int .i64 v30, .int .i64 v31]), ((6, 0), .amap (ke zb 8 3 v13)), ((7, 0), .rows 3 (v14.map z6))]) (T := (kw 8 3 z6 v13 none)) (q := 8) (q' := 8) xi (zfl (z8w (bqt h21))) rfl (by decide) IsFamM.base (And.intro (Vw.same _ rfl) (And.intro (Vw.ptr _ _ _ _ rfl) (And.intro (Vw.ptr _ _ _ _ rfl) (And.intro (Vw.ptr _ _ _ _ rfl) (And.intro (Vw.same _ rfl) (And.intro (Vw.same _ rfl) (And.intro (Vw.same _ rfl) trivial))))))) (And.intro (And.intro rfl (BVw.oneL (And.intro (Vw.map _ _ rfl) (And.intro (Vw.mslE rfl (by first | rfl | omega | (simp; done) | (simp only [List.length_map, List.length_replicate, Int.toNat_natCast] at *; omega)) rfl) trivial)))) (And.intro (And.intro rfl (BVw.oneL (And.intro (Vw.same _ rfl) (And.intro (Vw.same _ rfl) (And.intro (Vw.same _ rfl) trivial))))) (And.intro (And.intro rfl (BVw.oneL (And.intro (Vw.same _ rfl) (And.intro (Vw.same _ rfl) (And.intro (Vw.same _ rfl) trivial))))) (And.intro (And.intro rfl (BVw.entF Qt (zhn (z8w (bqt h21))) (by decide) rfl rfl)) (And.intro (And.intro rfl (BVw.enc z6 (fun _ => rfl) _ v14)) trivial)))))
  refine Vb ?_
  refine Exists.intro (.msl (9, 0) 3 0 (((lk zx v13 (G_QKey.mk v26 v27 v28)).getD default).length) false) (And.intro (z84 (ek := zb) xw Qt (z8w (bqt h21))) (And.intro (za0 (ek := zb) xw Qt (z8w (bqt h21))) ?_))
  obtain ⟨v32, h22, h⟩ := bind_some h
  refine Xt (k := 3) (m := 1) (L' := [((10, 0), .rows 3 (v32.map z6))]) (rest := ([((3, 0), .one [.map (6, 0), .msl (7, 0) 3 0 v14.length false]), ((4, 0), .one [.int .i64 v26, .int .i64 v27, .int .i64 v28]), ((5, 0), .one [.int .i64 v29, .int .i64 v30, .int .i64 v31]), ((6, 0), .amap (V8 zb 8 3 v13 (wn zx v13 (G_QKey.mk v26 v27 v28)) (G_QKey.mk v26 v27 v28) (.msl (9, 0) 3 0 (((lk zx v13 (G_QKey.mk v26 v27 v28)).getD default).length) false))), ((7, 0), .rows 3 (v14.map z6))] ++ (kw 8 3 z6 v13 (some (wn zx v13 (G_QKey.mk v26 v27 v28)))))) (R' := .msl (10, 0) 3 0 v32.length false) [((0, 0), (9, 0))] (J3 h22) rfl rfl rfl (And.intro (Vw.mslE rfl (by first | rfl | omega | (simp; done) | (simp only [List.length_map, List.length_replicate, Int.toNat_natCast] at *; omega)) rfl) (And.intro (Vw.same _ rfl) trivial)) (And.intro (h0I (9, 0) rfl rfl (BVw.enc z6 (fun _ => rfl) _ ((lk zx v13 (G_QKey.mk v26 v27 v28)).getD default))) trivial) rfl (And.intro rfl (And.intro (kp z6 (fun _ => rfl) _ _) trivial)) (Z1 (lit := [((9, 0), .rows 3 (((lk zx v13 (G_QKey.mk v26 v27 v28)).getD default).map z6)), ((3, 0), .one [.map (6, 0), .msl (7, 0) 3 0 v14.length false]), ((4, 0), .one [.int .i64 v26, .int .i64 v27, .int .i64 v28]), ((5, 0), .one [.int .i64 v29, .int .i64 v30, .int .i64 v31]), ((6, 0), .amap (V8 zb 8 3 v13 (wn zx v13 (G_QKey.mk v26 v27 v28)) (G_QKey.mk v26 v27 v28) (.msl (9, 0) 3 0 (((lk zx v13 (G_QKey.mk v26 v27 v28)).getD default).length) false))), ((7, 0), .rows 3 (v14.map z6))]) (T := (kw 8 3 z6 v13 (some (wn zx v13 (G_QKey.mk v26 v27 v28))))) InQ.baseM (fun _ => rfl) rfl) ?_
  refine And.intro rfl ?_
  refine And.intro rfl ?_
  refine Exists.intro (V8 zb 8 3 v13 (wn zx v13 (G_QKey.mk v26 v27 v28)) (G_QKey.mk v26 v27 v28) (.msl (10, 0) 3 0 v32.length false)) (And.intro (zc7 (ek := zb) xw Qt (z8w (bqt h21))) ?_)
  refine LWp.sim (e := [(1, .bool a1), (5, .ptr (3, 0) 0 0), (8, .ptr (4, 0) 0 0), (9, .ptr (5, 0) 0 0), (17, .isl 6 ((a0.take (if 400 < ((a0.map z7).length : Int) then 400 else ((a0.map z7).length : Int)).toNat).map z7) false), (18, .int .i64 (((a0.take (if 400 < ((a0.map z7).length : Int) then 400 else ((a0.map z7).length : Int)).toNat).map z7).length : Int)), (19, .int .i64 v12)]) (L := ([((3, 0), .one [.map (6, 0), .msl (7, 0) 3 0 v14.length false]), ((4, 0), .one [.int .i64 v26, .int .i64 v27, .int .i64 v28]), ((5, 0), .one [.int .i64 v29, .int .i64 v30, .int .i64 v31]), ((6, 0), .amap (ke zb 8 3 (mp zx v13 (G_QKey.mk v26 v27 v28) v32))), ((7, 0), .rows 3 (v14.map z6))] ++ (kw 8 3 z6 (mp zx v13 (G_QKey.mk v26 v27 v28) v32) none))) (n := 10) ?_ ?_
  ·exact zhi (t := (10, 0)) (M := [((3, 0), (3, 0)), ((4, 0), (4, 0)), ((5, 0), (5, 0)), ((6, 0), (6, 0)), ((7, 0), (7, 0))]) (lit' := [((10, 0), .rows 3 (v32.map z6)), ((3, 0), .one [.map (6, 0), .msl (7, 0) 3 0 v14.length false]), ((4, 0), .one [.int .i64 v26, .int .i64 v27, .int .i64 v28]), ((5, 0), .one [.int .i64 v29, .int .i64 v30, .int .i64 v31]), ((6, 0), .amap (V8 zb 8 3 v13 (wn zx v13 (G_QKey.mk v26 v27 v28)) (G_QKey.mk v26 v27 v28) (.msl (10, 0) 3 0 v32.length false))), ((7, 0), .rows 3 (v14.map z6))]) (T := (kw 8 3 z6 v13 (some (wn zx v13 (G_QKey.mk v26 v27 v28))))) (q := 8) (q' := 8) xi rfl (by decide) rfl IsFamM.base (And.intro (Vw.same _ rfl) (And.intro (Vw.ptr _ _ _ _ rfl) (And.intro (Vw.ptr _ _ _ _ rfl) (And.intro (Vw.ptr _ _ _ _ rfl) (And.intro (Vw.same _ rfl) (And.intro (Vw.same _ rfl) (And.intro (Vw.same _ rfl) trivial))))))) (And.intro (And.intro rfl (BVw.oneL (And.intro (Vw.map _ _ rfl) (And.intro (Vw.mslE rfl (by first | rfl | omega | (simp; done) | (simp only [List.length_map, List.length_replicate, Int.toNat_natCast] at *; omega)) rfl) trivial)))) (And.intro (And.intro rfl (BVw.oneL (And.intro (Vw.same _ rfl) (And.intro (Vw.same _ rfl) (And.intro (Vw.same _ rfl) trivial))))) (And.intro (And.intro rfl (BVw.oneL (And.intro (Vw.same _ rfl) (And.intro (Vw.same _ rfl) (And.intro (Vw.same _ rfl) trivial))))) (And.intro (And.intro rfl (BVw.entU rfl (by first | rfl | omega | (simp; done) | (simp only [List.length_map, List.length_replicate, Int.toNat_natCast] at *; omega)))) (And.intro (And.intro rfl (BVw.enc z6 (fun _ => rfl) _ v14)) trivial)))))
  refine LWp.sim ?_ (Jz h)
  exact U9 (M := [((3, 0), (3, 0)), ((4, 0), (4, 0)), ((5, 0), (5, 0)), ((6, 0), (6, 0)), ((7, 0), (7, 0))]) (lit' := [((3, 0), .one [.map (6, 0), .msl (7, 0) 3 0 v14.length false]), ((4, 0), .one [.int .i64 v26, .int .i64 v27, .int .i64 v28]), ((5, 0), .one [.int .i64 v29, .int .i64 v30, .int .i64 v31]), ((6, 0), .amap (ke zb 8 3 (mp zx v13 (G_QKey.mk v26 v27 v28) v32))), ((7, 0), .rows 3 (v14.map z6))]) (T := (kw 8 3 z6 (mp zx v13 (G_QKey.mk v26 v27 v28) v32) none)) (q := 8) (q' := 8) xi rfl IsFamM.base (And.intro (Vw.same _ rfl) (And.intro (Vw.ptr _ _ _ _ rfl) (And.intro (Vw.ptr _ _ _ _ rfl) (And.intro (Vw.ptr _ _ _ _ rfl) (And.intro (Vw.same _ rfl) (And.intro (Vw.same _ rfl) (And.intro (Vw.same _ rfl) trivial))))))) (And.intro (And.intro rfl (BVw.oneL (And.intro (Vw.map _ _ rfl) (And.intro (Vw.mslE rfl (by first | rfl | omega | (simp; done) | (simp only [List.length_map, List.length_replicate, Int.toNat_natCast] at *; omega)) rfl) trivial)))) (And.intro (And.intro rfl (BVw.oneL (And.intro (Vw.same _ rfl) (And.intro (Vw.same _ rfl) (And.intro (Vw.same _ rfl) trivial))))) (And.intro (And.intro rfl (BVw.oneL (And.intro (Vw.same _ rfl) (And.intro (Vw.same _ rfl) (And.intro (Vw.same _ rfl) trivial))))) (And.intro (And.intro rfl BVw.entJ) (And.intro (And.intro rfl (BVw.enc z6 (fun _ => rfl) _ v14)) trivial)))))
 ·have h := xm h21 h
  refine LWp.ghost 3 ?_
  refine Vb ?_
  refine Exists.intro (.val (.slice none 0 0)) (And.intro (zam (ek := zb) xw rfl (zj2 (bqf h21))) (And.intro (z9l (ek := zb) xw (G_QKey.mk v26 v27 v28)) ?_))
  obtain ⟨v33, h23, h⟩ := bind_some h
  refine Xt (k := 3) (m := 1) (L' := [((10, 0), .rows 3 (v33.map z6))]) (rest := ([((3, 0), .one [.map (6, 0), .msl (7, 0) 3 0 v14.length false]), ((4, 0), .one [.int .i64 v26, .int .i64 v27, .int .i64 v28]), ((5, 0), .one [.int .i64 v29, .int .i64 v30, .int .i64 v31]), ((6, 0), .amap (ke zb 8 3 v13)), ((7, 0), .rows 3 (v14.map z6))] ++ (kw 8 3 z6 v13 none))) (R' := .msl (10, 0) 3 0 v33.length false) [((0, 0), (9, 0))] (J3 h23) rfl rfl rfl (And.intro (Vw.nilM _ _ _ _ _ _ rfl rfl) (And.intro (Vw.same _ rfl) trivial)) (And.intro (h0I (9, 0) rfl rfl (BVw.enc z6 (fun _ => rfl) _ ([] : List G_QKey))) trivial) rfl (And.intro rfl (And.intro (kp z6 (fun _ => rfl) _ _) trivial)) (Z1 (lit := [((9, 0), .rows 3 (([] : List G_QKey).map z6)), ((3, 0), .one [.map (6, 0), .msl (7, 0) 3 0 v14.length false]), ((4, 0), .one [.int .i64 v26, .int .i64 v27, .int .i64 v28]), ((5, 0), .one [.int .i64 v29, .int .i64 v30, .int .i64 v31]), ((6, 0), .amap (ke zb 8 3 v13)), ((7, 0), .rows 3 (v14.map z6))]) (T := (kw 8 3 z6 v13 none)) InQ.baseM (fun _ => rfl) rfl) ?_
  refine And.intro rfl ?_
  refine And.intro rfl ?_
  refine Exists.intro (V8 zb 8 3 v13 (wn zx v13 (G_QKey.mk v26 v27 v28)) (G_QKey.mk v26 v27 v28) (.msl (10, 0) 3 0 v33.length false)) (And.intro (zd9 (ek := zb) xw (G_QKey.mk v26 v27 v28)) ?_)
  refine LWp.sim (e := [(1, .bool a1), (5, .ptr (3, 0) 0 0), (8, .ptr (4, 0) 0 0), (9, .ptr (5, 0) 0 0), (17, .isl 6 ((a0.take (if 400 < ((a0.map z7).length : Int) then 400 else ((a0.map z7).length : Int)).toNat).map z7) false), (18, .int .i64 (((a0.take (if 400 < ((a0.map z7).length : Int) then 400 else ((a0.map z7).length : Int)).toNat).map z7).length : Int)), (19, .int .i64 v12)]) (L := ([((3, 0), .one [.map (6, 0), .msl (7, 0) 3 0 v14.length false]), ((4, 0), .one [.int .i64 v26, .int .i64 v27, .int .i64 v28]), ((5, 0), .one [.int .i64 v29, .int .i64 v30, .int .i64 v31]), ((6, 0), .amap (ke zb 8 3 (mp zx v13 (G_QKey.mk v26 v27 v28) v33))), ((7, 0), .rows 3 (v14.map z6))] ++ (kw 8 3 z6 (mp zx v13 (G_QKey.mk v26 v27 v28) v33) none))) (n := 10) ?_ ?_
  ·exact zhi (t := (10, 0)) (M := [((3, 0), (3, 0)), ((4, 0), (4, 0)), ((5, 0), (5, 0)), ((6, 0), (6, 0)), ((7, 0), (7, 0))]) (lit' := [((10, 0), .rows 3 (v33.map z6)), ((3, 0), .one [.map (6, 0), .msl (7, 0) 3 0 v14.length false]), ((4, 0), .one [.int .i64 v26, .int .i64 v27, .int .i64 v28]), ((5, 0), .one [.int .i64 v29, .int .i64 v30, .int .i64 v31]), ((6, 0), .amap (V8 zb 8 3 v13 (wn zx v13 (G_QKey.mk v26 v27 v28)) (G_QKey.mk v26 v27 v28) (.msl (10, 0) 3 0 v33.length false))), ((7, 0), .rows 3 (v14.map z6))]) (T := (kw 8 3 z6 v13 none)) (q := 8) (q' := 8) xi rfl (by decide) rfl (IsFamM.hole IsFamM.base) (And.intro (Vw.same _ rfl) (And.intro (Vw.ptr _ _ _ _ rfl) (And.intro (Vw.ptr _ _ _ _ rfl) (And.intro (Vw.ptr _ _ _ _ rfl) (And.intro (Vw.same _ rfl) (And.intro (Vw.same _ rfl) (And.intro (Vw.same _ rfl) trivial))))))) (And.intro (And.intro rfl (BVw.oneL (And.intro (Vw.map _ _ rfl) (And.intro (Vw.mslE rfl (by first | rfl | omega | (simp; done) | (simp only [List.length_map, List.length_replicate, Int.toNat_natCast] at *; omega)) rfl) trivial)))) (And.intro (And.intro rfl (BVw.oneL (And.intro (Vw.same _ rfl) (And.intro (Vw.same _ rfl) (And.intro (Vw.same _ rfl) trivial))))) (And.intro (And.intro rfl (BVw.oneL (And.intro (Vw.same _ rfl) (And.intro (Vw.same _ rfl) (And.intro (Vw.same _ rfl) trivial))))) (And.intro (And.intro rfl (BVw.entU rfl (by first | rfl | omega | (simp; done) | (simp only [List.length_map, List.length_replicate, Int.toNat_natCast] at *; omega)))) (And.intro (And.intro rfl (BVw.enc z6 (fun _ => rfl) _ v14)) trivial)))))
  refine LWp.sim ?_ (Jz h)
  exact U9 (M := [((3, 0), (3, 0)), ((4, 0), (4, 0)), ((5, 0), (5, 0)), ((6, 0), (6, 0)), ((7, 0), (7, 0))]) (lit' := [((3, 0), .one [.map (6, 0), .msl (7, 0) 3 0 v14.length false]), ((4, 0), .one [.int .i64 v26, .int .i64 v27, .int .i64 v28]), ((5, 0), .one [.int .i64 v29, .int .i64 v30, .int .i64 v31]), ((6, 0), .amap (ke zb 8 3 (mp zx v13 (G_QKey.mk v26 v27 v28) v33))), ((7, 0), .rows 3 (v14.map z6))]) (T := (kw 8 3 z6 (mp zx v13 (G_QKey.mk v26 v27 v28) v33) none)) (q := 8) (q' := 8) xi rfl IsFamM.base (And.intro (Vw.same _ rfl) (And.intro (Vw.ptr _ _ _ _ rfl) (And.intro (Vw.ptr _ _ _ _ rfl) (And.intro (Vw.ptr _ _ _ _ rfl) (And.intro (Vw.same _ rfl) (And.intro (Vw.same _ rfl) (And.intro (Vw.same _ rfl) trivial))))))) (And.intro (And.intro rfl (BVw.oneL (And.intro (Vw.map _ _ rfl) (And.intro (Vw.mslE rfl (by first | rfl | omega | (simp; done) | (simp only [List.length_map, List.length_replicate, Int.toNat_natCast] at *; omega)) rfl) trivial)))) (And.intro (And.intro rfl (BVw.oneL (And.intro (Vw.same _ rfl) (And.intro (Vw.same _ rfl) (And.intro (Vw.same _ rfl) trivial))))) (And.intro (And.intro rfl (BVw.oneL (And.intro (Vw.same _ rfl) (And.intro (Vw.same _ rfl) (And.intro (Vw.same _ rfl) trivial))))) (And.intro (And.intro rfl BVw.entJ) (And.intro (And.intro rfl (BVw.enc z6 (fun _ => rfl) _ v14)) trivial)))))
noncomputable def xp (m : Option Nat) (v13 : List (G_QKey × (List G_QKey))) (v14 : List G_QKey) : Option ((List G_QKey) × (List (G_QKey × (List G_QKey)))) :=
 some (v14, v13)
noncomputable def q8 (m : Option Nat) (a0 : List G_QEdge) (a1 : Bool) (v12 : Int) (v13 : List (G_QKey × (List G_QKey))) (v14 : List G_QKey) : Option ((Int × (List (G_QKey × (List G_QKey))) × (List G_QKey)) ⊕ ((List G_QKey) × (List (G_QKey × (List G_QKey))))) :=
 if (decide (v12 < (((a0.take (if 400 < ((a0.map z7).length : Int) then 400 else ((a0.map z7).length : Int)).toNat).map z7).length : Int))) = true then
  if (0 : Int) ≤ v12 ∧ v12 < (((a0.take (if 400 < ((a0.map z7).length : Int) then 400 else ((a0.map z7).length : Int)).toNat).map z7).length : Int) then
  if a1 = true then
   qo m a0 a1 v12 v13 v14 ((((a0.take (if 400 < ((a0.map z7).length : Int) then 400 else ((a0.map z7).length : Int)).toNat).getD v12.toNat default).f_To).f_Kind) ((((a0.take (if 400 < ((a0.map z7).length : Int) then 400 else ((a0.map z7).length : Int)).toNat).getD v12.toNat default).f_To).f_A) ((((a0.take (if 400 < ((a0.map z7).length : Int) then 400 else ((a0.map z7).length : Int)).toNat).getD v12.toNat default).f_To).f_B) ((((a0.take (if 400 < ((a0.map z7).length : Int) then 400 else ((a0.map z7).length : Int)).toNat).getD v12.toNat default).f_From).f_Kind) ((((a0.take (if 400 < ((a0.map z7).length : Int) then 400 else ((a0.map z7).length : Int)).toNat).getD v12.toNat default).f_From).f_A) ((((a0.take (if 400 < ((a0.map z7).length : Int) then 400 else ((a0.map z7).length : Int)).toNat).getD v12.toNat default).f_From).f_B)
  else
   qo m a0 a1 v12 v13 v14 ((((a0.take (if 400 < ((a0.map z7).length : Int) then 400 else ((a0.map z7).length : Int)).toNat).getD v12.toNat default).f_From).f_Kind) ((((a0.take (if 400 < ((a0.map z7).length : Int) then 400 else ((a0.map z7).length : Int)).toNat).getD v12.toNat default).f_From).f_A) ((((a0.take (if 400 < ((a0.map z7).length : Int) then 400 else ((a0.map z7).length : Int)).toNat).getD v12.toNat default).f_From).f_B) ((((a0.take (if 400 < ((a0.map z7).length : Int) then 400 else ((a0.map z7).length : Int)).toNat).getD v12.toNat default).f_To).f_Kind) ((((a0.take (if 400 < ((a0.map z7).length : Int) then 400 else ((a0.map z7).length : Int)).toNat).getD v12.toNat default).f_To).f_A) ((((a0.take (if 400 < ((a0.map z7).length : Int) then 400 else ((a0.map z7).length : Int)).toNat).getD v12.toNat default).f_To).f_B)
  else none
 else
  Option.map Sum.inr (
   xp m v13 v14)
noncomputable def x7 (m : Option Nat) (a0 : List G_QEdge) (a1 : Bool) (v12 : Int) (v13 : List (G_QKey × (List G_QKey))) (v14 : List G_QKey) : Option ((List G_QKey) × (List (G_QKey × (List G_QKey)))) := uv m (fun (s : (Int × (List (G_QKey × (List G_QKey))) × (List G_QKey))) => q8 m a0 a1 s.1 s.2.1 s.2.2) (v12, v13, v14)
theorem z3g {a0 : List G_QEdge} {a1 : Bool} {v13 : List (G_QKey × (List G_QKey))} {v14 : List G_QKey} {m : Option Nat} {o : ((List G_QKey) × (List (G_QKey × (List G_QKey))))} (h : xp m v13 v14 = some o) :
 LWp Try.prog ji 3 J7 (Kx a0 a1 o) [(5, .ptr (3, 0) 0 0)] ([((3, 0), .one [.map (4, 0), .msl (5, 0) 3 0 v14.length false]), ((4, 0), .amap (ke zb 6 3 v13)), ((5, 0), .rows 3 (v14.map z6))] ++ (kw 6 3 z6 v13 none)) 7 := by
 unfold xp at h
 refine yq ?_
 refine qw ?_
 refine Ye ?_
 cases h
 exact And.intro trivial (zkg (n' := 7) (q := 6) (lit' := [((3, 0), .one [.map (4, 0), .msl (5, 0) 3 0 v14.length false]), ((4, 0), .amap (ke zb 6 3 v13)), ((5, 0), .rows 3 (v14.map z6))]) (T := (kw 6 3 z6 v13 none)) [((3, 0), (3, 0)), ((4, 0), (4, 0))] [(5, 0)] rfl rfl rfl rfl IsFamM.base (Vw.ptr _ _ _ _ rfl) (And.intro (And.intro rfl (BVw.oneL (And.intro (Vw.map _ _ rfl) (And.intro (Vw.frzB z6 Ju (fun h => h) rfl rfl (by first | rfl | omega | (simp; done) | (simp only [List.length_map, List.length_replicate, Int.toNat_natCast] at *; omega))) trivial)))) (And.intro (And.intro rfl (BVw.entZ Ju (fun _ => rfl) (fun _ _ h => IsFamM.app rfl IsFamM.base h nofun))) trivial)))
theorem z0b {a0 : List G_QEdge} {a1 : Bool} {v12 : Int} {v13 : List (G_QKey × (List G_QKey))} {v14 : List G_QKey} {m : Option Nat} {o : (Int × (List (G_QKey × (List G_QKey))) × (List G_QKey)) ⊕ ((List G_QKey) × (List (G_QKey × (List G_QKey))))} (h : q8 m a0 a1 v12 v13 v14 = some o) :
 LWp Try.prog ji 3 Ko (kg 3 7 (ko a0 a1) (uw a0 a1) (Y4 a0 a1) o) [(1, .bool a1), (5, .ptr (3, 0) 0 0), (17, .isl 6 ((a0.take (if 400 < ((a0.map z7).length : Int) then 400 else ((a0.map z7).length : Int)).toNat).map z7) false), (18, .int .i64 (((a0.take (if 400 < ((a0.map z7).length : Int) then 400 else ((a0.map z7).length : Int)).toNat).map z7).length : Int)), (19, .int .i64 v12)] ([((3, 0), .one [.map (4, 0), .msl (5, 0) 3 0 v14.length false]), ((4, 0), .amap (ke zb 6 3 v13)), ((5, 0), .rows 3 (v14.map z6))] ++ (kw 6 3 z6 v13 none)) 7 := by
 unfold q8 at h
 refine yq ?_
 refine qw ?_
 refine yq ?_
 refine w7 (v := (decide (v12 < (((a0.take (if 400 < ((a0.map z7).length : Int) then 400 else ((a0.map z7).length : Int)).toNat).map z7).length : Int)))) rfl trivial (fun h18 => ?_) (fun h18 => ?_)
 ·have h := qq h18 h
  refine wg ?_
  refine yq ?_
  refine jm ?_
  refine yq ?_
  refine qw ?_
  obtain ⟨h19, h⟩ := yz h
  refine And.intro h19 ?_
  refine Exists.intro (z7 ((a0.take (if 400 < ((a0.map z7).length : Int) then 400 else ((a0.map z7).length : Int)).toNat).getD v12.toNat default)) (And.intro (jk z7 _ _ (ku z7 h19)) (And.intro (And.intro (Yj h19) (Nat.le_of_ble_eq_true rfl)) ?_))
  refine yq ?_
  refine Vb ?_
  refine And.intro rfl ?_
  refine And.intro rfl ?_
  refine And.intro rfl ?_
  refine And.intro rfl ?_
  refine And.intro rfl ?_
  refine LWp.sim (e := [(1, .bool a1), (5, .ptr (3, 0) 0 0), (8, .ptr (4, 0) 0 0), (9, .ptr (5, 0) 0 0), (17, .isl 6 ((a0.take (if 400 < ((a0.map z7).length : Int) then 400 else ((a0.map z7).length : Int)).toNat).map z7) false), (18, .int .i64 (((a0.take (if 400 < ((a0.map z7).length : Int) then 400 else ((a0.map z7).length : Int)).toNat).map z7).length : Int)), (19, .int .i64 v12)]) (L := ([((3, 0), .one [.map (6, 0), .msl (7, 0) 3 0 v14.length false]), ((4, 0), .one [.int .i64 ((((a0.take (if 400 < ((a0.map z7).length : Int) then 400 else ((a0.map z7).length : Int)).toNat).getD v12.toNat default).f_From).f_Kind), .int .i64 ((((a0.take (if 400 < ((a0.map z7).length : Int) then 400 else ((a0.map z7).length : Int)).toNat).getD v12.toNat default).f_From).f_A), .int .i64 ((((a0.take (if 400 < ((a0.map z7).length : Int) then 400 else ((a0.map z7).length : Int)).toNat).getD v12.toNat default).f_From).f_B)]), ((5, 0), .one [.int .i64 ((((a0.take (if 400 < ((a0.map z7).length : Int) then 400 else ((a0.map z7).length : Int)).toNat).getD v12.toNat default).f_To).f_Kind), .int .i64 ((((a0.take (if 400 < ((a0.map z7).length : Int) then 400 else ((a0.map z7).length : Int)).toNat).getD v12.toNat default).f_To).f_A), .int .i64 ((((a0.take (if 400 < ((a0.map z7).length : Int) then 400 else ((a0.map z7).length : Int)).toNat).getD v12.toNat default).f_To).f_B)]), ((6, 0), .amap (ke zb 8 3 v13)), ((7, 0), .rows 3 (v14.map z6))] ++ (kw 8 3 z6 v13 none))) (n := 9) ?_ ?_
  ·exact U9 (M := [((3, 0), (3, 0)), ((4, 0), (8, 0)), ((5, 0), (9, 0)), ((6, 0), (4, 0)), ((7, 0), (5, 0))]) (lit' := [((9, 0), .one [.int .i64 ((((a0.take (if 400 < ((a0.map z7).length : Int) then 400 else ((a0.map z7).length : Int)).toNat).getD v12.toNat default).f_To).f_Kind), .int .i64 ((((a0.take (if 400 < ((a0.map z7).length : Int) then 400 else ((a0.map z7).length : Int)).toNat).getD v12.toNat default).f_To).f_A), .int .i64 ((((a0.take (if 400 < ((a0.map z7).length : Int) then 400 else ((a0.map z7).length : Int)).toNat).getD v12.toNat default).f_To).f_B)]), ((8, 0), .one [.int .i64 ((((a0.take (if 400 < ((a0.map z7).length : Int) then 400 else ((a0.map z7).length : Int)).toNat).getD v12.toNat default).f_From).f_Kind), .int .i64 ((((a0.take (if 400 < ((a0.map z7).length : Int) then 400 else ((a0.map z7).length : Int)).toNat).getD v12.toNat default).f_From).f_A), .int .i64 ((((a0.take (if 400 < ((a0.map z7).length : Int) then 400 else ((a0.map z7).length : Int)).toNat).getD v12.toNat default).f_From).f_B)]), ((7, 0), .one [.int .i64 ((((a0.take (if 400 < ((a0.map z7).length : Int) then 400 else ((a0.map z7).length : Int)).toNat).getD v12.toNat default).f_From).f_Kind), .int .i64 ((((a0.take (if 400 < ((a0.map z7).length : Int) then 400 else ((a0.map z7).length : Int)).toNat).getD v12.toNat default).f_From).f_A), .int .i64 ((((a0.take (if 400 < ((a0.map z7).length : Int) then 400 else ((a0.map z7).length : Int)).toNat).getD v12.toNat default).f_From).f_B), .int .i64 ((((a0.take (if 400 < ((a0.map z7).length : Int) then 400 else ((a0.map z7).length : Int)).toNat).getD v12.toNat default).f_To).f_Kind), .int .i64 ((((a0.take (if 400 < ((a0.map z7).length : Int) then 400 else ((a0.map z7).length : Int)).toNat).getD v12.toNat default).f_To).f_A), .int .i64 ((((a0.take (if 400 < ((a0.map z7).length : Int) then 400 else ((a0.map z7).length : Int)).toNat).getD v12.toNat default).f_To).f_B)]), ((3, 0), .one [.map (4, 0), .msl (5, 0) 3 0 v14.length false]), ((4, 0), .amap (ke zb 6 3 v13)), ((5, 0), .rows 3 (v14.map z6))]) (T := (kw 6 3 z6 v13 none)) (q := 6) (q' := 8) xi rfl IsFamM.base (And.intro (Vw.same _ rfl) (And.intro (Vw.ptr _ _ _ _ rfl) (And.intro (Vw.ptr _ _ _ _ rfl) (And.intro (Vw.ptr _ _ _ _ rfl) (And.intro (Vw.same _ rfl) (And.intro (Vw.same _ rfl) (And.intro (Vw.same _ rfl) trivial))))))) (And.intro (And.intro rfl (BVw.oneL (And.intro (Vw.map _ _ rfl) (And.intro (Vw.mslE rfl (by first | rfl | omega | (simp; done) | (simp only [List.length_map, List.length_replicate, Int.toNat_natCast] at *; omega)) rfl) trivial)))) (And.intro (And.intro rfl (BVw.oneL (And.intro (Vw.same _ rfl) (And.intro (Vw.same _ rfl) (And.intro (Vw.same _ rfl) trivial))))) (And.intro (And.intro rfl (BVw.oneL (And.intro (Vw.same _ rfl) (And.intro (Vw.same _ rfl) (And.intro (Vw.same _ rfl) trivial))))) (And.intro (And.intro rfl BVw.entJ) (And.intro (And.intro rfl (BVw.enc z6 (fun _ => rfl) _ v14)) trivial)))))
  refine yq ?_
  refine yq ?_
  refine qw ?_
  refine w7 (v := a1) rfl trivial (fun h20 => ?_) (fun h20 => ?_)
  ·have h := qq h20 h
   refine qw ?_
   refine LWp.sim ?_ (Wh h)
   exact U9 (M := [((3, 0), (3, 0)), ((4, 0), (4, 0)), ((5, 0), (5, 0)), ((6, 0), (6, 0)), ((7, 0), (7, 0))]) (lit' := [((3, 0), .one [.map (6, 0), .msl (7, 0) 3 0 v14.length false]), ((4, 0), .one [.int .i64 ((((a0.take (if 400 < ((a0.map z7).length : Int) then 400 else ((a0.map z7).length : Int)).toNat).getD v12.toNat default).f_To).f_Kind), .int .i64 ((((a0.take (if 400 < ((a0.map z7).length : Int) then 400 else ((a0.map z7).length : Int)).toNat).getD v12.toNat default).f_To).f_A), .int .i64 ((((a0.take (if 400 < ((a0.map z7).length : Int) then 400 else ((a0.map z7).length : Int)).toNat).getD v12.toNat default).f_To).f_B)]), ((5, 0), .one [.int .i64 ((((a0.take (if 400 < ((a0.map z7).length : Int) then 400 else ((a0.map z7).length : Int)).toNat).getD v12.toNat default).f_From).f_Kind), .int .i64 ((((a0.take (if 400 < ((a0.map z7).length : Int) then 400 else ((a0.map z7).length : Int)).toNat).getD v12.toNat default).f_From).f_A), .int .i64 ((((a0.take (if 400 < ((a0.map z7).length : Int) then 400 else ((a0.map z7).length : Int)).toNat).getD v12.toNat default).f_From).f_B)]), ((6, 0), .amap (ke zb 8 3 v13)), ((7, 0), .rows 3 (v14.map z6))]) (T := (kw 8 3 z6 v13 none)) (q := 8) (q' := 8) xi rfl IsFamM.base (And.intro (Vw.same _ rfl) (And.intro (Vw.ptr _ _ _ _ rfl) (And.intro (Vw.ptr _ _ _ _ rfl) (And.intro (Vw.ptr _ _ _ _ rfl) (And.intro (Vw.same _ rfl) (And.intro (Vw.same _ rfl) (And.intro (Vw.same _ rfl) trivial))))))) (And.intro (And.intro rfl (BVw.oneL (And.intro (Vw.map _ _ rfl) (And.intro (Vw.mslE rfl (by first | rfl | omega | (simp; done) | (simp only [List.length_map, List.length_replicate, Int.toNat_natCast] at *; omega)) rfl) trivial)))) (And.intro (And.intro rfl (BVw.oneL (And.intro (Vw.same _ rfl) (And.intro (Vw.same _ rfl) (And.intro (Vw.same _ rfl) trivial))))) (And.intro (And.intro rfl (BVw.oneL (And.intro (Vw.same _ rfl) (And.intro (Vw.same _ rfl) (And.intro (Vw.same _ rfl) trivial))))) (And.intro (And.intro rfl BVw.entJ) (And.intro (And.intro rfl (BVw.enc z6 (fun _ => rfl) _ v14)) trivial)))))
  ·have h := xm h20 h
   refine wg ?_
   refine LWp.sim ?_ (Wh h)
   exact U9 (M := [((3, 0), (3, 0)), ((4, 0), (4, 0)), ((5, 0), (5, 0)), ((6, 0), (6, 0)), ((7, 0), (7, 0))]) (lit' := [((3, 0), .one [.map (6, 0), .msl (7, 0) 3 0 v14.length false]), ((4, 0), .one [.int .i64 ((((a0.take (if 400 < ((a0.map z7).length : Int) then 400 else ((a0.map z7).length : Int)).toNat).getD v12.toNat default).f_From).f_Kind), .int .i64 ((((a0.take (if 400 < ((a0.map z7).length : Int) then 400 else ((a0.map z7).length : Int)).toNat).getD v12.toNat default).f_From).f_A), .int .i64 ((((a0.take (if 400 < ((a0.map z7).length : Int) then 400 else ((a0.map z7).length : Int)).toNat).getD v12.toNat default).f_From).f_B)]), ((5, 0), .one [.int .i64 ((((a0.take (if 400 < ((a0.map z7).length : Int) then 400 else ((a0.map z7).length : Int)).toNat).getD v12.toNat default).f_To).f_Kind), .int .i64 ((((a0.take (if 400 < ((a0.map z7).length : Int) then 400 else ((a0.map z7).length : Int)).toNat).getD v12.toNat default).f_To).f_A), .int .i64 ((((a0.take (if 400 < ((a0.map z7).length : Int) then 400 else ((a0.map z7).length : Int)).toNat).getD v12.toNat default).f_To).f_B)]), ((6, 0), .amap (ke zb 8 3 v13)), ((7, 0), .rows 3 (v14.map z6))]) (T := (kw 8 3 z6 v13 none)) (q := 8) (q' := 8) xi rfl IsFamM.base (And.intro (Vw.same _ rfl) (And.intro (Vw.ptr _ _ _ _ rfl) (And.intro (Vw.ptr _ _ _ _ rfl) (And.intro (Vw.ptr _ _ _ _ rfl) (And.intro (Vw.same _ rfl) (And.intro (Vw.same _ rfl) (And.intro (Vw.same _ rfl) trivial))))))) (And.intro (And.intro rfl (BVw.oneL (And.intro (Vw.map _ _ rfl) (And.intro (Vw.mslE rfl (by first | rfl | omega | (simp; done) | (simp only [List.length_map, List.length_replicate, Int.toNat_natCast] at *; omega)) rfl) trivial)))) (And.intro (And.intro rfl (BVw.oneL (And.intro (Vw.same _ rfl) (And.intro (Vw.same _ rfl) (And.intro (Vw.same _ rfl) trivial))))) (And.intro (And.intro rfl (BVw.oneL (And.intro (Vw.same _ rfl) (And.intro (Vw.same _ rfl) (And.intro (Vw.same _ rfl) trivial))))) (And.intro (And.intro rfl BVw.entJ) (And.intro (And.intro rfl (BVw.enc z6 (fun _ => rfl) _ v14)) trivial)))))
 ·have h := xm h18 h
  refine Xw ?_
  obtain ⟨o, hq, rfl⟩ := Option.map_eq_some_iff.1 h
  replace h := hq; clear hq
  refine And.intro nofun ?_
  refine LWp.sim ?_ (z3g h)
  exact U9 (M := [((3, 0), (3, 0)), ((4, 0), (4, 0)), ((5, 0), (5, 0))]) (lit' := [((3, 0), .one [.map (4, 0), .msl (5, 0) 3 0 v14.length false]), ((4, 0), .amap (ke zb 6 3 v13)), ((5, 0), .rows 3 (v14.map z6))]) (T := (kw 6 3 z6 v13 none)) (q := 6) (q' := 6) xi rfl IsFamM.base (And.intro (Vw.ptr _ _ _ _ rfl) trivial) (And.intro (And.intro rfl (BVw.oneL (And.intro (Vw.map _ _ rfl) (And.intro (Vw.mslE rfl (by first | rfl | omega | (simp; done) | (simp only [List.length_map, List.length_replicate, Int.toNat_natCast] at *; omega)) rfl) trivial)))) (And.intro (And.intro rfl BVw.entJ) (And.intro (And.intro rfl (BVw.enc z6 (fun _ => rfl) _ v14)) trivial)))
theorem z2k {a0 : List G_QEdge} {a1 : Bool} {v12 : Int} {v13 : List (G_QKey × (List G_QKey))} {v14 : List G_QKey} {m : Option Nat} {o : ((List G_QKey) × (List (G_QKey × (List G_QKey))))} (h : x7 m a0 a1 v12 v13 v14 = some o) :
 LWp Try.prog ji 3 (.loop Ko) (xn 0 (Xf Try.prog ji 3 J7 (Kx a0 a1 o))) [(1, .bool a1), (5, .ptr (3, 0) 0 0), (17, .isl 6 ((a0.take (if 400 < ((a0.map z7).length : Int) then 400 else ((a0.map z7).length : Int)).toNat).map z7) false), (18, .int .i64 (((a0.take (if 400 < ((a0.map z7).length : Int) then 400 else ((a0.map z7).length : Int)).toNat).map z7).length : Int)), (19, .int .i64 v12)] ([((3, 0), .one [.map (4, 0), .msl (5, 0) 3 0 v14.length false]), ((4, 0), .amap (ke zb 6 3 v13)), ((5, 0), .rows 3 (v14.map z6))] ++ (kw 6 3 z6 v13 none)) 7 :=
 jf (m := m) (s := ((v12, v13, v14) : (Int × (List (G_QKey × (List G_QKey))) × (List G_QKey)))) (r := o) (fun (s : (Int × (List (G_QKey × (List G_QKey))) × (List G_QKey))) => q8 m a0 a1 s.1 s.2.1 s.2.2) (ko a0 a1) (uw a0 a1) (Y4 a0 a1) (fun s o h => z0b h) h
noncomputable def qr (m : Option Nat) (a0 : List G_QEdge) (a1 : Bool) : Option ((List G_QKey) × (List (G_QKey × (List G_QKey)))) :=
 if (0 : Int) ≤ (if 400 < ((a0.map z7).length : Int) then 400 else ((a0.map z7).length : Int)) ∧ (if 400 < ((a0.map z7).length : Int) then 400 else ((a0.map z7).length : Int)) ≤ ((a0.map z7).length : Int) then
 x7 m a0 a1 0 ([] : List (G_QKey × (List G_QKey))) ([] : List G_QKey)
 else none
theorem z2u {a0 : List G_QEdge} {a1 : Bool} {m : Option Nat} {o : (List G_QKey) × (List (G_QKey × (List G_QKey)))} (h : qr m a0 a1 = some o) : LWp Try.prog ji 3 z41 (Kx a0 a1 o) (qz 0 [.isl 6 (a0.map z7) false, .bool a1]) [] 3 := by
 unfold qr at h
 refine yq ?_
 refine qw ?_
 refine yq ?_
 refine qw ?_
 refine LWp.ghost 3 ?_
 refine LWp.sim (e := [(0, .isl 6 (a0.map z7) false), (1, .bool a1), (5, .ptr (3, 0) 0 0)]) (L := [((3, 0), .one [.map (4, 0), .msl (5, 0) 3 0 (([] : List G_QKey).length) false]), ((4, 0), .amap []), ((5, 0), .rows 3 (([] : List G_QKey).map z6))]) (n := 6) ?_ ?_
 ·exact jy (M := [((3, 0), (4, 0)), ((4, 0), (3, 0)), ((5, 0), (5, 0))]) rfl (And.intro (Vw.same _ rfl) (And.intro (Vw.same _ rfl) (And.intro (Vw.ptr _ _ _ _ rfl) trivial))) (And.intro (And.intro rfl (BVw.oneL (And.intro (Vw.map _ _ rfl) (And.intro (Vw.islM _ _ _ _ _ _ rfl rfl) trivial)))) (And.intro (And.intro rfl (BVw.amap [] (fun _ h => by cases h))) (And.intro (And.intro rfl (BVw.enc z6 (fun _ => rfl) _ ([] : List G_QKey))) trivial)))
 refine LWp.sim (e := [(0, .isl 6 (a0.map z7) false), (1, .bool a1), (5, .ptr (3, 0) 0 0)]) (L := ([((3, 0), .one [.map (4, 0), .msl (5, 0) 3 0 (([] : List G_QKey).length) false]), ((4, 0), .amap (ke zb 6 3 ([] : List (G_QKey × (List G_QKey))))), ((5, 0), .rows 3 (([] : List G_QKey).map z6))] ++ (kw 6 3 z6 ([] : List (G_QKey × (List G_QKey))) none))) (n := 7) ?_ ?_
 ·exact zga (M := [((3, 0), (3, 0)), ((4, 0), (4, 0)), ((5, 0), (5, 0))]) (lit' := [((3, 0), .one [.map (4, 0), .msl (5, 0) 3 0 (([] : List G_QKey).length) false]), ((4, 0), .amap []), ((5, 0), .rows 3 (([] : List G_QKey).map z6))]) (T := []) (q := 106) (q' := 6) xi rfl (And.intro (Vw.same _ rfl) (And.intro (Vw.same _ rfl) (And.intro (Vw.ptr _ _ _ _ rfl) trivial))) (And.intro (And.intro rfl (BVw.oneL (And.intro (Vw.map _ _ rfl) (And.intro (Vw.mslE rfl (by first | rfl | omega | (simp; done) | (simp only [List.length_map, List.length_replicate, Int.toNat_natCast] at *; omega)) rfl) trivial)))) (And.intro (And.intro rfl BVw.entNew) (And.intro (And.intro rfl (BVw.enc z6 (fun _ => rfl) _ ([] : List G_QKey))) trivial)))
 refine yq ?_
 refine yq ?_
 refine qw ?_
 obtain ⟨h1, h⟩ := yz h
 refine Exists.intro (.isl 6 ((a0.take (if 400 < ((a0.map z7).length : Int) then 400 else ((a0.map z7).length : Int)).toNat).map z7) false) (And.intro (zfh z7 (slB z7 a0 _) rfl) (And.intro (And.intro rfl (And.intro (Int.le_refl _) h1)) ?_))
 refine jm ?_
 refine LWp.sim ?_ (z2k h)
 exact U9 (M := [((3, 0), (3, 0)), ((4, 0), (4, 0)), ((5, 0), (5, 0))]) (lit' := [((3, 0), .one [.map (4, 0), .msl (5, 0) 3 0 (([] : List G_QKey).length) false]), ((4, 0), .amap (ke zb 6 3 ([] : List (G_QKey × (List G_QKey))))), ((5, 0), .rows 3 (([] : List G_QKey).map z6))]) (T := (kw 6 3 z6 ([] : List (G_QKey × (List G_QKey))) none)) (q := 6) (q' := 6) xi rfl IsFamM.base (And.intro (Vw.same _ rfl) (And.intro (Vw.ptr _ _ _ _ rfl) (And.intro (Vw.same _ rfl) (And.intro (Vw.same _ rfl) (And.intro (Vw.same _ rfl) trivial))))) (And.intro (And.intro rfl (BVw.oneL (And.intro (Vw.map _ _ rfl) (And.intro (Vw.mslE rfl (by first | rfl | omega | (simp; done) | (simp only [List.length_map, List.length_replicate, Int.toNat_natCast] at *; omega)) rfl) trivial)))) (And.intro (And.intro rfl BVw.entJ) (And.intro (And.intro rfl (BVw.enc z6 (fun _ => rfl) _ ([] : List G_QKey))) trivial)))
theorem z4m {a0 : List G_QEdge} {a1 : Bool} {m : Option Nat} {o : (List G_QKey) × (List (G_QKey × (List G_QKey)))} (h : qr m a0 a1 = some o) : ACalls Try.prog 21 [.isl 6 (a0.map z7) false, .bool a1] [] 3 (kh 7 (.ptr (3, 0) 0 0) [((3, 0), .one [.map (4, 0), .isl 3 (o.1.map z6) false]), ((4, 0), .amap (o.2.map (em zb zh)))]) := z1h (L := zaa) zas z8o (Nat.le_of_ble_eq_true rfl) (z2u h)
def xv (m : Option Nat) (a0 : List G_QKey) : Option (List G_QKey) := zik 24 a0
theorem zat : Yf Try.prog 37 := ⟨_, Try.func37, rfl, rfl⟩
theorem zba {m : Option Nat} {a0 : List G_QKey} {o : List G_QKey} (h : xv m a0 = some o) : ACalls Try.prog 37 [.isl 3 (a0.map z6) false] [] 3 (kh 4 (.msl (3, 0) 3 0 o.length false) [((3, 0), .rows 3 (o.map z6))]) :=
 z29 (c := 24) (zs := [(.int .i64 0), (.int .i64 0), (.int .i64 0)]) z6 zat Try.func37 ⟨_, _, _, _, _, _, _, _, _, _, _, _, _, _, _, _, _, _, _, _, _, _, _, _, _, _, _, _, rfl, rfl, rfl⟩ (by kernel_rfl) (by kernel_rfl) (by kernel_rfl) (by kernel_rfl) (by decide) (by decide) rfl h _
def ze7 : LCode := (.seq (.region [⟨some 2, .box (.t 0), none⟩,
 ⟨some 3, .box (.t 1), none⟩,
 ⟨some 4, .mv (.c (.int .i64 0)), none⟩])
 (.seq (.draw [⟨⟨some 5, .faddr 0 (.t 2), none⟩, []⟩,
  ⟨⟨some 6, .load false 1 (.t 5), none⟩, []⟩,
  ⟨⟨some 7, .faddr 0 (.t 3), none⟩, []⟩,
  ⟨⟨some 8, .load false 1 (.t 7), none⟩, []⟩,
  ⟨⟨some 10, .faddr 1 (.t 2), none⟩, []⟩,
  ⟨⟨some 11, .load false 1 (.t 10), none⟩, []⟩,
  ⟨⟨some 12, .faddr 1 (.t 3), none⟩, []⟩,
  ⟨⟨some 13, .load false 1 (.t 12), none⟩, []⟩,
  ⟨⟨some 15, .faddr 2 (.t 2), none⟩, []⟩,
  ⟨⟨some 16, .load false 1 (.t 15), none⟩, []⟩,
  ⟨⟨some 17, .faddr 2 (.t 3), none⟩, []⟩,
  ⟨⟨some 18, .load false 1 (.t 17), none⟩, []⟩,
  ⟨⟨some 9, .call 51 [(.t 6), (.t 8)], none⟩, [5, 7, 9, 11]⟩,
  ⟨⟨some 14, .call 51 [(.t 11), (.t 13)], none⟩, [9, 11]⟩,
  ⟨⟨some 19, .call 51 [(.t 16), (.t 18)], none⟩, []⟩,
  ⟨⟨some 20, .mkSl true 1 [(.int .i64 0)] 3 [(0, (.t 9)), (1, (.t 14)), (2, (.t 19))], none⟩, []⟩,
  ⟨⟨some 21, .call 50 [(.t 20)], none⟩, []⟩,
  ⟨⟨some 4, .mv (.t 21), none⟩, []⟩])
 .ret))
def z9k : Lay := ⟨22, [], false⟩
def zao : List LRes := [.t 4]
def zhg : LFn := ⟨2, z9k, ze7, zao⟩
theorem zeo : wy Try.prog [] 39 = some zhg := by kernel_rfl
theorem zfw : Yf Try.prog 39 := ⟨_, Try.func39, rfl, rfl⟩
noncomputable def yk (m : Option Nat) (a0 : G_QKey) (a1 : G_QKey) : Option Int :=
 (y8 m a0.f_Kind a1.f_Kind).bind fun v1 =>
 (y8 m a0.f_A a1.f_A).bind fun v2 =>
 (y8 m a0.f_B a1.f_B).bind fun v3 =>
 (xa m ([v1, v2, v3] : List Int)).bind fun v4 =>
 some v4
def zis (a0 : G_QKey) (a1 : G_QKey) (o : Int) : Exit → Env → AHeap → Nat → Prop := Wt zao (jp (.int .i64 o))
theorem z9t {a0 : G_QKey} {a1 : G_QKey} {m : Option Nat} {o : Int} (h : yk m a0 a1 = some o) : LWp Try.prog z9k 0 ze7 (zis a0 a1 o) (qz 0 [.agg [.int .i64 a0.f_Kind, .int .i64 a0.f_A, .int .i64 a0.f_B], .agg [.int .i64 a1.f_Kind, .int .i64 a1.f_A, .int .i64 a1.f_B]]) [] 0 := by
 unfold yk at h
 refine yq ?_
 refine qw ?_
 refine yq ?_
 refine Vb ?_
 obtain ⟨v1, h1, h⟩ := bind_some h
 refine PFn.call (K8 h1) (And.intro (Vw.same _ rfl) (And.intro (Vw.same _ rfl) trivial)) ?_
 refine And.intro rfl ?_
 refine And.intro rfl ?_
 refine And.intro rfl ?_
 refine And.intro rfl ?_
 obtain ⟨v2, h2, h⟩ := bind_some h
 refine PFn.call (K8 h2) (And.intro (Vw.same _ rfl) (And.intro (Vw.same _ rfl) trivial)) ?_
 refine And.intro rfl ?_
 refine And.intro rfl ?_
 obtain ⟨v3, h3, h⟩ := bind_some h
 refine PFn.call (K8 h3) (And.intro (Vw.same _ rfl) (And.intro (Vw.same _ rfl) trivial)) ?_
 show yd _ _ _ _ _ [(19, .int .i64 v3), (14, .int .i64 v2), (9, .int .i64 v1), (18, .int .i64 a1.f_B), (17, .ptr (1, 0) 0 2), (16, .int .i64 a0.f_B), (15, .ptr (0, 0) 0 2), (13, .int .i64 a1.f_A), (12, .ptr (1, 0) 0 1), (11, .int .i64 a0.f_A), (10, .ptr (0, 0) 0 1), (8, .int .i64 a1.f_Kind), (7, .ptr (1, 0) 0 0), (6, .int .i64 a0.f_Kind), (5, .ptr (0, 0) 0 0), (4, .int .i64 0), (3, .ptr (1, 0) 0 0), (2, .ptr (0, 0) 0 0), (0, .agg [.int .i64 a0.f_Kind, .int .i64 a0.f_A, .int .i64 a0.f_B]), (1, .agg [.int .i64 a1.f_Kind, .int .i64 a1.f_A, .int .i64 a1.f_B])] _ _
 obtain ⟨v4, h4, h⟩ := bind_some h
 refine PFn.call (zdg h4) (And.intro (Vw.islF _ _ _) trivial) ?_
 show yd _ _ _ _ _ [(21, .int .i64 v4), (20, .isl 1 (([v1, v2, v3] : List Int).map uf) true), (19, .int .i64 v3), (14, .int .i64 v2), (9, .int .i64 v1), (18, .int .i64 a1.f_B), (17, .ptr (1, 0) 0 2), (16, .int .i64 a0.f_B), (15, .ptr (0, 0) 0 2), (13, .int .i64 a1.f_A), (12, .ptr (1, 0) 0 1), (11, .int .i64 a0.f_A), (10, .ptr (0, 0) 0 1), (8, .int .i64 a1.f_Kind), (7, .ptr (1, 0) 0 0), (6, .int .i64 a0.f_Kind), (5, .ptr (0, 0) 0 0), (4, .int .i64 0), (3, .ptr (1, 0) 0 0), (2, .ptr (0, 0) 0 0), (0, .agg [.int .i64 a0.f_Kind, .int .i64 a0.f_A, .int .i64 a0.f_B]), (1, .agg [.int .i64 a1.f_Kind, .int .i64 a1.f_A, .int .i64 a1.f_B])] _ _
 refine LWp.sim (e := [(4, .int .i64 v4)]) (L := []) (n := 0) ?_ ?_
 ·exact jy (M := []) rfl (And.intro (Vw.same _ rfl) trivial) trivial
 refine Ye ?_
 cases h
 exact And.intro trivial (And.intro rfl (Vw.same _ rfl))
theorem zgm {a0 : G_QKey} {a1 : G_QKey} {m : Option Nat} {o : Int} (h : yk m a0 a1 = some o) : PFn Try.prog 39 [.agg [.int .i64 a0.f_Kind, .int .i64 a0.f_A, .int .i64 a0.f_B], .agg [.int .i64 a1.f_Kind, .int .i64 a1.f_A, .int .i64 a1.f_B]] (.int .i64 o) := PFn.ofFnW (L := zhg) zeo zfw (Nat.le_of_ble_eq_true rfl) rfl (z9t h)
theorem zd2 {x : Option Int} (h : x.isSome = true) : x = some (x.getD 0) := by
 cases x with
 | none => cases h
 | some v => rfl
theorem Ks (m : Option Nat) (a b : Int) : ∃ r, y8 m a b = some r := by
 unfold y8 xl
 simp only [Option.bind_some]
 repeat' split
 all_goals exact ⟨_, rfl⟩
theorem Kt {b : Int → Option (Int ⊕ Int)} {k : Nat} {s s' : Int} (h : b s = some (.inl s')) : jt b (k + 1) s = jt b k s' := by simp only [jt, h]
theorem U1 {b : Int → Option (Int ⊕ Int)} {k : Nat} {s : Int} {x : Int} (h : b s = some (.inr x)) : jt b (k + 1) s = some x := by simp only [jt, h]
theorem zje (a b c : Int) : ∃ r, xa (some 4096) [a, b, c] = some r := by
 have hb : ∀ (i : Nat), i < 3 → zl (some 4096) [a, b, c] (i : Int) = if (([a, b, c].getD i default) != 0) = true then some (.inr ([a, b, c].getD i default)) else some (.inl ((i + 1 : Nat) : Int)) := by
  intro i hi
  unfold zl
  rw [if_pos (by simp; omega), if_pos (by simp; omega)]
  simp only [Int.toNat_natCast]
  split
  ·rfl
  ·have : i = 0 ∨ i = 1 ∨ i = 2 := by omega
   rcases this with rfl | rfl | rfl <;> rfl
 have h3 : zl (some 4096) [a, b, c] ((3 : Nat) : Int) = some (.inr 0) := by
  unfold zl je
  rw [if_neg (by simp)]; rfl
 have h0 := hb 0 (by omega); have h1 := hb 1 (by omega); have h2 := hb 2 (by omega)
 unfold xa jj
 show ∃ r, jt _ (4095 + 1) ((0 : Nat) : Int) = some r
 split at h0
 ·exact ⟨_, U1 h0⟩
 ·rw [Kt h0]
  show ∃ r, jt _ (4094 + 1) _ = some r
  split at h1
  ·exact ⟨_, U1 h1⟩
  ·rw [Kt h1]
   show ∃ r, jt _ (4093 + 1) _ = some r
   split at h2
   ·exact ⟨_, U1 h2⟩
   ·rw [Kt h2]
    exact ⟨_, U1 (k := 4092) h3⟩
theorem zkc (x y : G_QKey) : (yk (some 4096) x y).isSome = true := by
 obtain ⟨a, h1⟩ := Ks (some 4096) x.f_Kind y.f_Kind
 obtain ⟨b, h2⟩ := Ks (some 4096) x.f_A y.f_A
 obtain ⟨c, h3⟩ := Ks (some 4096) x.f_B y.f_B
 obtain ⟨d, h4⟩ := zje a b c
 unfold yk
 rw [h1, Option.bind_some, h2, Option.bind_some, h3, Option.bind_some, h4]
 rfl
noncomputable def z1z (x y : G_QKey) : Int := (yk (some 4096) x y).getD 0
theorem zfv (x y : G_QKey) : yk (some 4096) x y = some (z1z x y) := by
 have ht := zkc x y
 unfold z1z
 exact (zd2 ht)
noncomputable def qm (m : Option Nat) (a0 : List G_QKey) : Option (List G_QKey) := by classical exact if Go.Sort.SWO (Go.Proofs.ltOf z1z) ∧ a0.length < 4611686018427387904 then some (kf z1z a0) else none
theorem zac : Yf Try.prog 38 := ⟨_, Try.func38, rfl, rfl⟩
theorem zcq {m : Option Nat} {a0 : List G_QKey} {o : List G_QKey} (h : qm m a0 = some o) : ACalls Try.prog 38 [.msl (0, 0) 3 0 a0.length false, .fn (.func 39) [] []] [((0, 0), .rows 3 (a0.map z6))] 3 (kh 3 (.tup []) [((0, 0), .rows 3 (o.map z6))]) := by
 unfold qm at h
 split at h
 ·rename_i hc
  cases h
  exact Ws Try.l38 (by decide) Try.isAgg24 Try.sizeOf24 z6 (fun _ => ⟨rfl, rfl⟩) z1z hc.1 39 (Go.Proofs.enters_of Try.func39 (by kernel_rfl) rfl) (fun x y W => PFn.cmp (e := z6) (fun _ => rfl) (zgm (zfv x y)) W) zac rfl _ hc.2 _
 ·cases h
def Ub : LCode := (.seq (.seq (.region [⟨some 17, .mv (.t 7), none⟩,
 ⟨some 18, .len false (.t 17), none⟩,
 ⟨some 19, .bin .gtr (.t 18) (.c (.int .i64 0)), none⟩])
 (.cond (.t 19)
  .skip
  (.exit 0)))
 (.block 1
  (.seq (.region [⟨some 20, .mv (.t 7), none⟩,
   ⟨some 21, .mv (.t 7), none⟩,
   ⟨some 22, .len false (.t 21), none⟩,
   ⟨some 23, .bin .sub (.t 22) (.c (.int .i64 1)), none⟩,
   ⟨some 24, .iaddr 3 (.t 20) (.t 23), none⟩,
   ⟨some 25, .load true 3 (.t 24), none⟩,
   ⟨some 8, .alloc [(.int .i64 0), (.int .i64 0), (.int .i64 0)], none⟩,
   ⟨none, .store 3 (.t 8) (.t 25), none⟩])
  (.seq (.region [⟨some 26, .mv (.t 7), none⟩,
   ⟨some 27, .mv (.t 7), none⟩,
   ⟨some 28, .len false (.t 27), none⟩,
   ⟨some 29, .bin .sub (.t 28) (.c (.int .i64 1)), none⟩,
   ⟨some 30, .slSl 3 (.t 26) none (some (.t 29)) none, none⟩,
   ⟨some 7, .mv (.t 30), none⟩])
  (.seq (.seq (.region [⟨some 31, .mv (.t 6), none⟩,
   ⟨some 32, .load true 3 (.t 8), none⟩,
   ⟨some 33, .mlook [.int, .int, .int] true false false [(.int .i64 0)] (.t 31) (.t 32), none⟩,
   ⟨some 34, .bin .neq (.t 33) (.c (.int .i64 0)), none⟩])
  (.cond (.t 34)
   (.exit 1)
   .skip))
  (.seq (.region [⟨some 35, .mv (.t 6), none⟩,
   ⟨some 36, .load true 3 (.t 8), none⟩,
   ⟨none, .mset [.int, .int, .int] true false [(.int .i64 0)] (.t 35) (.t 36) (.c (.int .i64 1)), none⟩])
  (.seq (.region [⟨some 37, .mv (.t 5), none⟩,
   ⟨some 38, .load true 3 (.t 8), none⟩,
   ⟨some 39, .mkSl true 3 [(.int .i64 0), (.int .i64 0), (.int .i64 0)] 1 [(0, (.t 38))], none⟩,
   ⟨some 40, .app false 3 24 (.t 37) (.t 39), none⟩,
   ⟨some 5, .mv (.t 40), none⟩])
  (.draw [⟨⟨some 41, .mv (.t 7), none⟩, []⟩,
   ⟨⟨some 42, .mv (.t 0), none⟩, []⟩,
   ⟨⟨some 43, .nilck (.t 42), none⟩, []⟩,
   ⟨⟨some 44, .faddr 0 (.t 43), none⟩, []⟩,
   ⟨⟨some 45, .load false 1 (.t 44), none⟩, []⟩,
   ⟨⟨some 46, .load true 3 (.t 8), none⟩, []⟩,
   ⟨⟨some 47, .mlook [.int, .int, .int] true false false [(.isl 3 [] true)] (.t 45) (.t 46), none⟩, []⟩,
   ⟨⟨some 48, .app false 3 24 (.t 41) (.t 47), none⟩, []⟩,
   ⟨⟨some 7, .mv (.t 48), none⟩, []⟩]))))))))
def J6 : LCode := (.seq (.region [⟨some 49, .mv (.t 5), none⟩,
 ⟨some 50, .call 38 [(.t 49), (.c (.fn (.func 39) [] []))], none⟩])
 (.seq (.region [⟨some 51, .mv (.t 5), none⟩,
  ⟨some 4, .mv (.t 51), none⟩])
 .ret))
def z4h : LCode := (.seq (.region [⟨some 3, .box (.t 1), none⟩,
 ⟨some 4, .mv (.c (.val (.slice none 0 0))), none⟩])
 (.seq (.region [⟨some 5, .mv (.c (.val (.slice none 0 0))), none⟩])
 (.seq (.region [⟨some 9, .mkmap none, none⟩,
  ⟨some 6, .mv (.t 9), none⟩])
 (.seq (.draw [⟨⟨some 10, .mv (.t 0), none⟩, []⟩,
  ⟨⟨some 11, .nilck (.t 10), none⟩, []⟩,
  ⟨⟨some 12, .faddr 0 (.t 11), none⟩, []⟩,
  ⟨⟨some 13, .load false 1 (.t 12), none⟩, []⟩,
  ⟨⟨some 14, .load true 3 (.t 3), none⟩, []⟩,
  ⟨⟨some 15, .mlook [.int, .int, .int] true false false [(.isl 3 [] true)] (.t 13) (.t 14), none⟩, []⟩,
  ⟨⟨some 16, .call 37 [(.t 15)], none⟩, []⟩,
  ⟨⟨some 7, .mv (.t 16), none⟩, []⟩])
 (.seq (.block 0
  (.loop
   Ub))
 J6)))))
def kc : Lay := ⟨52, [40, 48], false⟩
def z06 : List LRes := [.t 4]
def z79 : LFn := ⟨2, kc, z4h, z06⟩
theorem za5 : wy Try.prog [40, 48] 22 = some z79 := by kernel_rfl
theorem z9y : Yf Try.prog 22 := ⟨_, Try.func22, rfl, rfl⟩
def U8 (a0 : G_QKey) (a1 : List G_QKey) (a2 : List (G_QKey × (List G_QKey))) (o : (List G_QKey)) : Exit → Env → AHeap → Nat → Prop := Wt z06 (Vf 3 3 (.isl 3 (o.map z6) false) [((0, 0), .one [.map (0, 1), .isl 3 (a1.map z6) false]), ((0, 1), .amap (a2.map (em zb zh)))])
def Xm (a1 : List G_QKey) (a2 : List (G_QKey × (List G_QKey))) (s : (Nat × (List G_QKey) × (List (G_QKey × Int)) × (List G_QKey))) : Env := [(0, .ptr (0, 0) 0 0), (5, .msl (3, 0) 3 0 s.2.1.length false), (6, .map (4, 0)), (7, .msl (5, 0) 3 0 s.1 false)]
def Wv (a1 : List G_QKey) (a2 : List (G_QKey × (List G_QKey))) (s : (Nat × (List G_QKey) × (List (G_QKey × Int)) × (List G_QKey))) : AHeap := [((0, 0), .one [.map (0, 1), .isl 3 (a1.map z6) false]), ((0, 1), .amap (a2.map (em zb zh))), ((3, 0), .rows 3 (s.2.1.map z6)), ((4, 0), .amap (s.2.2.1.map (em zb u5))), ((5, 0), .rows 3 (s.2.2.2.map z6))]
def Vj (a0 : G_QKey) (a1 : List G_QKey) (a2 : List (G_QKey × (List G_QKey))) (o : (List G_QKey)) : Exit → Env → AHeap → Nat → Prop := (xn 0 (Xf Try.prog kc 3 J6 (U8 a0 a1 a2 o)))
noncomputable def yy (m : Option Nat) (a1 : List G_QKey) (a2 : List (G_QKey × (List G_QKey))) (v3 : List G_QKey) : Option (List G_QKey) :=
 (qm m v3).bind fun v6 =>
 if v6.length = v3.length then
 some v6
 else none
noncomputable def zp (m : Option Nat) (a1 : List G_QKey) (a2 : List (G_QKey × (List G_QKey))) (v2 : Nat) (v3 : List G_QKey) (v4 : List (G_QKey × Int)) (v5 : List G_QKey) : Option ((Nat × (List G_QKey) × (List (G_QKey × Int)) × (List G_QKey)) ⊕ (List G_QKey)) :=
 if (decide (((v2 : Nat) : Int) > 0)) = true then
  if (0 : Int) ≤ (W (((v2 : Nat) : Int) - 1)) ∧ (W (((v2 : Nat) : Int) - 1)) < ((v2 : Nat) : Int) then
  if (0 + (W (((v2 : Nat) : Int) - 1)).toNat) < v5.length then
  if (0 : Int) ≤ (W (((v2 : Nat) : Int) - 1)) ∧ (W (((v2 : Nat) : Int) - 1)) ≤ ((v2 : Nat) : Int) then
  if (((lk zx v4 (G_QKey.mk ((v5.getD (0 + (W (((v2 : Nat) : Int) - 1)).toNat) default).f_Kind) ((v5.getD (0 + (W (((v2 : Nat) : Int) - 1)).toNat) default).f_A) ((v5.getD (0 + (W (((v2 : Nat) : Int) - 1)).toNat) default).f_B))).getD 0) != 0) = true then
   some (.inl ((W (((v2 : Nat) : Int) - 1)).toNat, v3, v4, v5))
  else
   if ((v3 ++ ([(G_QKey.mk ((v5.getD (0 + (W (((v2 : Nat) : Int) - 1)).toNat) default).f_Kind) ((v5.getD (0 + (W (((v2 : Nat) : Int) - 1)).toNat) default).f_A) ((v5.getD (0 + (W (((v2 : Nat) : Int) - 1)).toNat) default).f_B))] : List G_QKey)).map z6).length * 24 ≤ 140737488355328 then
   if 0 + (W (((v2 : Nat) : Int) - 1)).toNat ≤ (v5.map z6).length then
   if (((v5.drop 0).take ((W (((v2 : Nat) : Int) - 1)).toNat) ++ ((lk zx a2 (G_QKey.mk ((v5.getD (0 + (W (((v2 : Nat) : Int) - 1)).toNat) default).f_Kind) ((v5.getD (0 + (W (((v2 : Nat) : Int) - 1)).toNat) default).f_A) ((v5.getD (0 + (W (((v2 : Nat) : Int) - 1)).toNat) default).f_B))).getD [])).map z6).length * 24 ≤ 140737488355328 then
   some (.inl ((((v5.drop 0).take ((W (((v2 : Nat) : Int) - 1)).toNat) ++ ((lk zx a2 (G_QKey.mk ((v5.getD (0 + (W (((v2 : Nat) : Int) - 1)).toNat) default).f_Kind) ((v5.getD (0 + (W (((v2 : Nat) : Int) - 1)).toNat) default).f_A) ((v5.getD (0 + (W (((v2 : Nat) : Int) - 1)).toNat) default).f_B))).getD [])).map z6).length, (v3 ++ ([(G_QKey.mk ((v5.getD (0 + (W (((v2 : Nat) : Int) - 1)).toNat) default).f_Kind) ((v5.getD (0 + (W (((v2 : Nat) : Int) - 1)).toNat) default).f_A) ((v5.getD (0 + (W (((v2 : Nat) : Int) - 1)).toNat) default).f_B))] : List G_QKey)), (mp zx v4 (G_QKey.mk ((v5.getD (0 + (W (((v2 : Nat) : Int) - 1)).toNat) default).f_Kind) ((v5.getD (0 + (W (((v2 : Nat) : Int) - 1)).toNat) default).f_A) ((v5.getD (0 + (W (((v2 : Nat) : Int) - 1)).toNat) default).f_B)) 1), ((v5.drop 0).take ((W (((v2 : Nat) : Int) - 1)).toNat) ++ ((lk zx a2 (G_QKey.mk ((v5.getD (0 + (W (((v2 : Nat) : Int) - 1)).toNat) default).f_Kind) ((v5.getD (0 + (W (((v2 : Nat) : Int) - 1)).toNat) default).f_A) ((v5.getD (0 + (W (((v2 : Nat) : Int) - 1)).toNat) default).f_B))).getD []))))
   else none
   else none
   else none
  else none
  else none
  else none
 else
  Option.map Sum.inr (
   yy m a1 a2 v3)
noncomputable def y1 (m : Option Nat) (a1 : List G_QKey) (a2 : List (G_QKey × (List G_QKey))) (v2 : Nat) (v3 : List G_QKey) (v4 : List (G_QKey × Int)) (v5 : List G_QKey) : Option (List G_QKey) := uv m (fun (s : (Nat × (List G_QKey) × (List (G_QKey × Int)) × (List G_QKey))) => zp m a1 a2 s.1 s.2.1 s.2.2.1 s.2.2.2) (v2, v3, v4, v5)
theorem z32 {a0 : G_QKey} {a1 : List G_QKey} {a2 : List (G_QKey × (List G_QKey))} {v3 : List G_QKey} {m : Option Nat} {o : (List G_QKey)} (h : yy m a1 a2 v3 = some o) :
 LWp Try.prog kc 3 J6 (U8 a0 a1 a2 o) [(5, .msl (3, 0) 3 0 v3.length false)] [((0, 0), .one [.map (0, 1), .isl 3 (a1.map z6) false]), ((0, 1), .amap (a2.map (em zb zh))), ((3, 0), .rows 3 (v3.map z6))] 4 := by
 unfold yy at h
 refine yq ?_
 refine qw ?_
 obtain ⟨v6, h26, h⟩ := bind_some h
 refine Xt (k := 3) (m := 0) (L' := [((3, 0), .rows 3 (v6.map z6))]) (rest := [((0, 0), .one [.map (0, 1), .isl 3 (a1.map z6) false]), ((0, 1), .amap (a2.map (em zb zh)))]) (R' := .tup []) [((0, 0), (3, 0))] (zcq h26) rfl rfl rfl (And.intro (Vw.mslE rfl (by first | rfl | omega | (simp; done) | (simp only [List.length_map, List.length_replicate, Int.toNat_natCast] at *; omega)) rfl) (And.intro (Vw.same _ rfl) trivial)) (And.intro (h0I (3, 0) rfl rfl (BVw.enc z6 (fun _ => rfl) _ v3)) trivial) (ut _ rfl) (And.intro rfl (And.intro (kp z6 (fun _ => rfl) _ _) trivial)) rfl ?_
 obtain ⟨h27, h⟩ := yz h
 refine yq ?_
 refine qw ?_
 refine Ye ?_
 cases h
 exact And.intro trivial (zj6 (n' := 5) [] [(3, 0)] rfl rfl (Vw.frzB z6 Ju (fun h => h) rfl rfl (by first | rfl | omega | (simp; done) | (simp only [List.length_map, List.length_replicate, Int.toNat_natCast] at *; omega))) (And.intro (And.intro rfl (BVw.oneL (And.intro (Vw.map _ _ rfl) (And.intro (Vw.same _ rfl) trivial)))) (And.intro (And.intro rfl (BVw.ofMap zb zh yh a2)) trivial)))
theorem z00 {a0 : G_QKey} {a1 : List G_QKey} {a2 : List (G_QKey × (List G_QKey))} {v2 : Nat} {v3 : List G_QKey} {v4 : List (G_QKey × Int)} {v5 : List G_QKey} {m : Option Nat} {o : (Nat × (List G_QKey) × (List (G_QKey × Int)) × (List G_QKey)) ⊕ (List G_QKey)} (h : zp m a1 a2 v2 v3 v4 v5 = some o) :
 LWp Try.prog kc 3 Ub (kg 3 6 (Xm a1 a2) (Wv a1 a2) (Vj a0 a1 a2) o) [(0, .ptr (0, 0) 0 0), (5, .msl (3, 0) 3 0 v3.length false), (6, .map (4, 0)), (7, .msl (5, 0) 3 0 v2 false)] [((0, 0), .one [.map (0, 1), .isl 3 (a1.map z6) false]), ((0, 1), .amap (a2.map (em zb zh))), ((3, 0), .rows 3 (v3.map z6)), ((4, 0), .amap (v4.map (em zb u5))), ((5, 0), .rows 3 (v5.map z6))] 6 := by
 unfold zp at h
 refine yq ?_
 refine yq ?_
 refine qw ?_
 refine w7 (v := (decide (((v2 : Nat) : Int) > 0))) rfl trivial (fun h18 => ?_) (fun h18 => ?_)
 ·have h := qq h18 h
  refine wg ?_
  refine jm ?_
  refine yq ?_
  refine qw ?_
  obtain ⟨h19, h⟩ := yz h
  refine And.intro h19 ?_
  show J8 _ _ _ [(24, .ptr (5, 0) (0 + (W (((v2 : Nat) : Int) - 1)).toNat) 0), (23, .int .i64 (W (((v2 : Nat) : Int) - 1))), (22, .int .i64 ((v2 : Nat) : Int)), (21, .msl (5, 0) 3 0 v2 false), (20, .msl (5, 0) 3 0 v2 false), (19, .bool (decide (((v2 : Nat) : Int) > 0))), (18, .int .i64 ((v2 : Nat) : Int)), (17, .msl (5, 0) 3 0 v2 false), (0, .ptr (0, 0) 0 0), (5, .msl (3, 0) 3 0 v3.length false), (6, .map (4, 0)), (7, .msl (5, 0) 3 0 v2 false)] _ _
  obtain ⟨h20, h⟩ := yz h
  refine Exists.intro (z6 (v5.getD (0 + (W (((v2 : Nat) : Int) - 1)).toNat) default)) (And.intro (jk z6 _ _ h20) (And.intro (And.intro (z73 z6 h20) (Nat.le_of_ble_eq_true rfl)) ?_))
  refine LWp.sim (e := [(0, .ptr (0, 0) 0 0), (5, .msl (3, 0) 3 0 v3.length false), (6, .map (4, 0)), (7, .msl (5, 0) 3 0 v2 false), (8, .ptr (6, 0) 0 0)]) (L := [((0, 0), .one [.map (0, 1), .isl 3 (a1.map z6) false]), ((0, 1), .amap (a2.map (em zb zh))), ((3, 0), .rows 3 (v3.map z6)), ((4, 0), .amap (v4.map (em zb u5))), ((5, 0), .rows 3 (v5.map z6)), ((6, 0), .one [.int .i64 ((v5.getD (0 + (W (((v2 : Nat) : Int) - 1)).toNat) default).f_Kind), .int .i64 ((v5.getD (0 + (W (((v2 : Nat) : Int) - 1)).toNat) default).f_A), .int .i64 ((v5.getD (0 + (W (((v2 : Nat) : Int) - 1)).toNat) default).f_B)])]) (n := 7) ?_ ?_
  ·exact jy (M := [((3, 0), (3, 0)), ((4, 0), (4, 0)), ((5, 0), (5, 0)), ((6, 0), (6, 0))]) rfl (And.intro (Vw.ptr _ _ _ _ rfl) (And.intro (Vw.mslE rfl (by first | rfl | omega | (simp; done) | (simp only [List.length_map, List.length_replicate, Int.toNat_natCast] at *; omega)) rfl) (And.intro (Vw.map _ _ rfl) (And.intro (Vw.msl _ _ _ _ _ _ rfl) (And.intro (Vw.ptr _ _ _ _ rfl) trivial))))) (And.intro (And.intro rfl (BVw.oneL (And.intro (Vw.map _ _ rfl) (And.intro (Vw.same _ rfl) trivial)))) (And.intro (And.intro rfl (BVw.ofMap zb zh yh a2)) (And.intro (And.intro rfl (BVw.enc z6 (fun _ => rfl) _ v3)) (And.intro (And.intro rfl (BVw.ofMap zb u5 vr v4)) (And.intro (And.intro rfl (BVw.enc z6 (fun _ => rfl) _ v5)) (And.intro (And.intro rfl (BVw.oneL (And.intro (Vw.same _ rfl) (And.intro (Vw.same _ rfl) (And.intro (Vw.same _ rfl) trivial))))) trivial))))))
  refine yq ?_
  refine qw ?_
  obtain ⟨h21, h⟩ := yz h
  refine Exists.intro (.msl (5, 0) 3 0 ((W (((v2 : Nat) : Int) - 1)).toNat) false) (And.intro (by simp) (And.intro (And.intro rfl (And.intro (Int.le_refl _) h21)) ?_))
  refine yq ?_
  refine yq ?_
  refine qw ?_
  refine Exists.intro (.int .i64 ((lk zx v4 (G_QKey.mk ((v5.getD (0 + (W (((v2 : Nat) : Int) - 1)).toNat) default).f_Kind) ((v5.getD (0 + (W (((v2 : Nat) : Int) - 1)).toNat) default).f_A) ((v5.getD (0 + (W (((v2 : Nat) : Int) - 1)).toNat) default).f_B))).getD 0)) (And.intro (z8b (ek := zb) (ev := u5) (z := 0) xw rfl (G_QKey.mk ((v5.getD (0 + (W (((v2 : Nat) : Int) - 1)).toNat) default).f_Kind) ((v5.getD (0 + (W (((v2 : Nat) : Int) - 1)).toNat) default).f_A) ((v5.getD (0 + (W (((v2 : Nat) : Int) - 1)).toNat) default).f_B)) v4) (And.intro (X5 (ek := zb) (ev := u5) xw _ _) ?_))
  refine LWp.sim (e := [(0, .ptr (0, 0) 0 0), (5, .msl (3, 0) 3 0 v3.length false), (6, .map (4, 0)), (7, .msl (5, 0) 3 0 ((W (((v2 : Nat) : Int) - 1)).toNat) false), (8, .ptr (6, 0) 0 0), (34, .bool (((lk zx v4 (G_QKey.mk ((v5.getD (0 + (W (((v2 : Nat) : Int) - 1)).toNat) default).f_Kind) ((v5.getD (0 + (W (((v2 : Nat) : Int) - 1)).toNat) default).f_A) ((v5.getD (0 + (W (((v2 : Nat) : Int) - 1)).toNat) default).f_B))).getD 0) != 0))]) (L := [((0, 0), .one [.map (0, 1), .isl 3 (a1.map z6) false]), ((0, 1), .amap (a2.map (em zb zh))), ((3, 0), .rows 3 (v3.map z6)), ((4, 0), .amap (v4.map (em zb u5))), ((5, 0), .rows 3 (v5.map z6)), ((6, 0), .one [.int .i64 ((v5.getD (0 + (W (((v2 : Nat) : Int) - 1)).toNat) default).f_Kind), .int .i64 ((v5.getD (0 + (W (((v2 : Nat) : Int) - 1)).toNat) default).f_A), .int .i64 ((v5.getD (0 + (W (((v2 : Nat) : Int) - 1)).toNat) default).f_B)])]) (n := 7) ?_ ?_
  ·exact jy (M := [((3, 0), (3, 0)), ((4, 0), (4, 0)), ((5, 0), (5, 0)), ((6, 0), (6, 0))]) rfl (And.intro (Vw.ptr _ _ _ _ rfl) (And.intro (Vw.mslE rfl (by first | rfl | omega | (simp; done) | (simp only [List.length_map, List.length_replicate, Int.toNat_natCast] at *; omega)) rfl) (And.intro (Vw.map _ _ rfl) (And.intro (Vw.msl _ _ _ _ _ _ rfl) (And.intro (Vw.ptr _ _ _ _ rfl) (And.intro (Vw.same _ rfl) trivial)))))) (And.intro (And.intro rfl (BVw.oneL (And.intro (Vw.map _ _ rfl) (And.intro (Vw.same _ rfl) trivial)))) (And.intro (And.intro rfl (BVw.ofMap zb zh yh a2)) (And.intro (And.intro rfl (BVw.enc z6 (fun _ => rfl) _ v3)) (And.intro (And.intro rfl (BVw.ofMap zb u5 vr v4)) (And.intro (And.intro rfl (BVw.enc z6 (fun _ => rfl) _ v5)) (And.intro (And.intro rfl (BVw.oneL (And.intro (Vw.same _ rfl) (And.intro (Vw.same _ rfl) (And.intro (Vw.same _ rfl) trivial))))) trivial))))))
  refine w7 (v := (((lk zx v4 (G_QKey.mk ((v5.getD (0 + (W (((v2 : Nat) : Int) - 1)).toNat) default).f_Kind) ((v5.getD (0 + (W (((v2 : Nat) : Int) - 1)).toNat) default).f_A) ((v5.getD (0 + (W (((v2 : Nat) : Int) - 1)).toNat) default).f_B))).getD 0) != 0)) rfl trivial (fun h22 => ?_) (fun h22 => ?_)
  ·have h := qq h22 h
   refine Xw ?_
   cases h
   exact And.intro rfl (jy (M := [((3, 0), (3, 0)), ((4, 0), (4, 0)), ((5, 0), (5, 0))]) rfl (And.intro (Vw.ptr _ _ _ _ rfl) (And.intro (Vw.mslE rfl (by first | rfl | omega | (simp; done) | (simp only [List.length_map, List.length_replicate, Int.toNat_natCast] at *; omega)) rfl) (And.intro (Vw.map _ _ rfl) (And.intro (Vw.msl _ _ _ _ _ _ rfl) trivial)))) (And.intro (And.intro rfl (BVw.oneL (And.intro (Vw.map _ _ rfl) (And.intro (Vw.same _ rfl) trivial)))) (And.intro (And.intro rfl (BVw.ofMap zb zh yh a2)) (And.intro (And.intro rfl (BVw.enc z6 (fun _ => rfl) _ v3)) (And.intro (And.intro rfl (BVw.ofMap zb u5 vr v4)) (And.intro (And.intro rfl (BVw.enc z6 (fun _ => rfl) _ v5)) trivial))))))
  ·have h := xm h22 h
   refine wg ?_
   refine yq ?_
   refine qw ?_
   refine Exists.intro ((mp zx v4 (G_QKey.mk ((v5.getD (0 + (W (((v2 : Nat) : Int) - 1)).toNat) default).f_Kind) ((v5.getD (0 + (W (((v2 : Nat) : Int) - 1)).toNat) default).f_A) ((v5.getD (0 + (W (((v2 : Nat) : Int) - 1)).toNat) default).f_B)) 1).map (em zb u5)) (And.intro (z42 (ek := zb) (ev := u5) xw (G_QKey.mk ((v5.getD (0 + (W (((v2 : Nat) : Int) - 1)).toNat) default).f_Kind) ((v5.getD (0 + (W (((v2 : Nat) : Int) - 1)).toNat) default).f_A) ((v5.getD (0 + (W (((v2 : Nat) : Int) - 1)).toNat) default).f_B)) 1 v4) ?_)
   refine yq ?_
   refine qw ?_
   obtain ⟨h23, h⟩ := yz h
   refine And.intro (fun h => Bool.noConfusion h) (And.intro (zk3 z6 (by first | rfl | omega | (simp; done) | (simp only [List.length_map, List.length_replicate, Int.toNat_natCast] at *; omega))) (Exists.intro ((v3 ++ ([(G_QKey.mk ((v5.getD (0 + (W (((v2 : Nat) : Int) - 1)).toNat) default).f_Kind) ((v5.getD (0 + (W (((v2 : Nat) : Int) - 1)).toNat) default).f_A) ((v5.getD (0 + (W (((v2 : Nat) : Int) - 1)).toNat) default).f_B))] : List G_QKey)).map z6) (And.intro (zjv z6 v3 ([(G_QKey.mk ((v5.getD (0 + (W (((v2 : Nat) : Int) - 1)).toNat) default).f_Kind) ((v5.getD (0 + (W (((v2 : Nat) : Int) - 1)).toNat) default).f_A) ((v5.getD (0 + (W (((v2 : Nat) : Int) - 1)).toNat) default).f_B))] : List G_QKey) (by first | rfl | omega | (simp; done) | (simp only [List.length_map, List.length_replicate, Int.toNat_natCast] at *; omega))) (And.intro h23 ?_))))
   refine LWp.sim (e := [(0, .ptr (0, 0) 0 0), (5, .msl (3, 0) 3 0 (((v3 ++ ([(G_QKey.mk ((v5.getD (0 + (W (((v2 : Nat) : Int) - 1)).toNat) default).f_Kind) ((v5.getD (0 + (W (((v2 : Nat) : Int) - 1)).toNat) default).f_A) ((v5.getD (0 + (W (((v2 : Nat) : Int) - 1)).toNat) default).f_B))] : List G_QKey)).map z6).length) false), (6, .map (4, 0)), (7, .msl (5, 0) 3 0 ((W (((v2 : Nat) : Int) - 1)).toNat) false), (8, .ptr (6, 0) 0 0)]) (L := [((0, 0), .one [.map (0, 1), .isl 3 (a1.map z6) false]), ((0, 1), .amap (a2.map (em zb zh))), ((3, 0), .rows 3 ((v3 ++ ([(G_QKey.mk ((v5.getD (0 + (W (((v2 : Nat) : Int) - 1)).toNat) default).f_Kind) ((v5.getD (0 + (W (((v2 : Nat) : Int) - 1)).toNat) default).f_A) ((v5.getD (0 + (W (((v2 : Nat) : Int) - 1)).toNat) default).f_B))] : List G_QKey)).map z6)), ((4, 0), .amap ((mp zx v4 (G_QKey.mk ((v5.getD (0 + (W (((v2 : Nat) : Int) - 1)).toNat) default).f_Kind) ((v5.getD (0 + (W (((v2 : Nat) : Int) - 1)).toNat) default).f_A) ((v5.getD (0 + (W (((v2 : Nat) : Int) - 1)).toNat) default).f_B)) 1).map (em zb u5))), ((5, 0), .rows 3 (v5.map z6)), ((6, 0), .one [.int .i64 ((v5.getD (0 + (W (((v2 : Nat) : Int) - 1)).toNat) default).f_Kind), .int .i64 ((v5.getD (0 + (W (((v2 : Nat) : Int) - 1)).toNat) default).f_A), .int .i64 ((v5.getD (0 + (W (((v2 : Nat) : Int) - 1)).toNat) default).f_B)])]) (n := 7) ?_ ?_
   ·exact jy (M := [((3, 0), (7, 0)), ((4, 0), (4, 0)), ((5, 0), (5, 0)), ((6, 0), (6, 0))]) rfl (And.intro (Vw.ptr _ _ _ _ rfl) (And.intro (Vw.mslE rfl (by first | rfl | omega | (simp; done) | (simp only [List.length_map, List.length_replicate, Int.toNat_natCast] at *; omega)) rfl) (And.intro (Vw.map _ _ rfl) (And.intro (Vw.msl _ _ _ _ _ _ rfl) (And.intro (Vw.ptr _ _ _ _ rfl) trivial))))) (And.intro (And.intro rfl (BVw.oneL (And.intro (Vw.map _ _ rfl) (And.intro (Vw.same _ rfl) trivial)))) (And.intro (And.intro rfl (BVw.ofMap zb zh yh a2)) (And.intro (And.intro rfl (BVw.enc z6 (fun _ => rfl) _ (v3 ++ ([(G_QKey.mk ((v5.getD (0 + (W (((v2 : Nat) : Int) - 1)).toNat) default).f_Kind) ((v5.getD (0 + (W (((v2 : Nat) : Int) - 1)).toNat) default).f_A) ((v5.getD (0 + (W (((v2 : Nat) : Int) - 1)).toNat) default).f_B))] : List G_QKey)))) (And.intro (And.intro rfl (BVw.ofMap zb u5 vr (mp zx v4 (G_QKey.mk ((v5.getD (0 + (W (((v2 : Nat) : Int) - 1)).toNat) default).f_Kind) ((v5.getD (0 + (W (((v2 : Nat) : Int) - 1)).toNat) default).f_A) ((v5.getD (0 + (W (((v2 : Nat) : Int) - 1)).toNat) default).f_B)) 1))) (And.intro (And.intro rfl (BVw.enc z6 (fun _ => rfl) _ v5)) (And.intro (And.intro rfl (BVw.oneL (And.intro (Vw.same _ rfl) (And.intro (Vw.same _ rfl) (And.intro (Vw.same _ rfl) trivial))))) trivial))))))
   refine z6g rfl ?_
   refine Exists.intro (.isl 3 (((lk zx a2 (G_QKey.mk ((v5.getD (0 + (W (((v2 : Nat) : Int) - 1)).toNat) default).f_Kind) ((v5.getD (0 + (W (((v2 : Nat) : Int) - 1)).toNat) default).f_A) ((v5.getD (0 + (W (((v2 : Nat) : Int) - 1)).toNat) default).f_B))).getD []).map z6) false) (And.intro (z8b (ek := zb) (ev := zh) (z := []) xw rfl (G_QKey.mk ((v5.getD (0 + (W (((v2 : Nat) : Int) - 1)).toNat) default).f_Kind) ((v5.getD (0 + (W (((v2 : Nat) : Int) - 1)).toNat) default).f_A) ((v5.getD (0 + (W (((v2 : Nat) : Int) - 1)).toNat) default).f_B)) a2) (And.intro (X5 (ek := zb) (ev := zh) xw _ _) ?_))
   obtain ⟨h24, h⟩ := yz h
   obtain ⟨h25, h⟩ := yz h
   refine And.intro (fun h => Bool.noConfusion h) (And.intro h24 (Exists.intro (((v5.drop 0).take ((W (((v2 : Nat) : Int) - 1)).toNat) ++ ((lk zx a2 (G_QKey.mk ((v5.getD (0 + (W (((v2 : Nat) : Int) - 1)).toNat) default).f_Kind) ((v5.getD (0 + (W (((v2 : Nat) : Int) - 1)).toNat) default).f_A) ((v5.getD (0 + (W (((v2 : Nat) : Int) - 1)).toNat) default).f_B))).getD [])).map z6) (And.intro (zk0 z6 v5 ((lk zx a2 (G_QKey.mk ((v5.getD (0 + (W (((v2 : Nat) : Int) - 1)).toNat) default).f_Kind) ((v5.getD (0 + (W (((v2 : Nat) : Int) - 1)).toNat) default).f_A) ((v5.getD (0 + (W (((v2 : Nat) : Int) - 1)).toNat) default).f_B))).getD []) _ _) (And.intro h25 ?_))))
   cases h
   exact And.intro rfl (jy (M := [((3, 0), (3, 0)), ((4, 0), (4, 0)), ((5, 0), (7, 0))]) rfl (And.intro (Vw.ptr _ _ _ _ rfl) (And.intro (Vw.mslE rfl (by first | rfl | omega | (simp; done) | (simp only [List.length_map, List.length_replicate, Int.toNat_natCast] at *; omega)) rfl) (And.intro (Vw.map _ _ rfl) (And.intro (Vw.mslE rfl (by first | rfl | omega | (simp; done) | (simp only [List.length_map, List.length_replicate, Int.toNat_natCast] at *; omega)) rfl) trivial)))) (And.intro (And.intro rfl (BVw.oneL (And.intro (Vw.map _ _ rfl) (And.intro (Vw.same _ rfl) trivial)))) (And.intro (And.intro rfl (BVw.ofMap zb zh yh a2)) (And.intro (And.intro rfl (BVw.enc z6 (fun _ => rfl) _ (v3 ++ ([(G_QKey.mk ((v5.getD (0 + (W (((v2 : Nat) : Int) - 1)).toNat) default).f_Kind) ((v5.getD (0 + (W (((v2 : Nat) : Int) - 1)).toNat) default).f_A) ((v5.getD (0 + (W (((v2 : Nat) : Int) - 1)).toNat) default).f_B))] : List G_QKey)))) (And.intro (And.intro rfl (BVw.ofMap zb u5 vr (mp zx v4 (G_QKey.mk ((v5.getD (0 + (W (((v2 : Nat) : Int) - 1)).toNat) default).f_Kind) ((v5.getD (0 + (W (((v2 : Nat) : Int) - 1)).toNat) default).f_A) ((v5.getD (0 + (W (((v2 : Nat) : Int) - 1)).toNat) default).f_B)) 1))) (And.intro (And.intro rfl (BVw.enc z6 (fun _ => rfl) _ ((v5.drop 0).take ((W (((v2 : Nat) : Int) - 1)).toNat) ++ ((lk zx a2 (G_QKey.mk ((v5.getD (0 + (W (((v2 : Nat) : Int) - 1)).toNat) default).f_Kind) ((v5.getD (0 + (W (((v2 : Nat) : Int) - 1)).toNat) default).f_A) ((v5.getD (0 + (W (((v2 : Nat) : Int) - 1)).toNat) default).f_B))).getD [])))) trivial))))))
 ·have h := xm h18 h
  refine Xw ?_
  obtain ⟨o, hq, rfl⟩ := Option.map_eq_some_iff.1 h
  replace h := hq; clear hq
  refine And.intro nofun ?_
  refine LWp.sim ?_ (z32 h)
  exact jy (M := [((3, 0), (3, 0))]) rfl (And.intro (Vw.mslE rfl (by first | rfl | omega | (simp; done) | (simp only [List.length_map, List.length_replicate, Int.toNat_natCast] at *; omega)) rfl) trivial) (And.intro (And.intro rfl (BVw.oneL (And.intro (Vw.map _ _ rfl) (And.intro (Vw.same _ rfl) trivial)))) (And.intro (And.intro rfl (BVw.ofMap zb zh yh a2)) (And.intro (And.intro rfl (BVw.enc z6 (fun _ => rfl) _ v3)) trivial)))
theorem z2o {a0 : G_QKey} {a1 : List G_QKey} {a2 : List (G_QKey × (List G_QKey))} {v2 : Nat} {v3 : List G_QKey} {v4 : List (G_QKey × Int)} {v5 : List G_QKey} {m : Option Nat} {o : (List G_QKey)} (h : y1 m a1 a2 v2 v3 v4 v5 = some o) :
 LWp Try.prog kc 3 (.loop Ub) (xn 0 (Xf Try.prog kc 3 J6 (U8 a0 a1 a2 o))) [(0, .ptr (0, 0) 0 0), (5, .msl (3, 0) 3 0 v3.length false), (6, .map (4, 0)), (7, .msl (5, 0) 3 0 v2 false)] [((0, 0), .one [.map (0, 1), .isl 3 (a1.map z6) false]), ((0, 1), .amap (a2.map (em zb zh))), ((3, 0), .rows 3 (v3.map z6)), ((4, 0), .amap (v4.map (em zb u5))), ((5, 0), .rows 3 (v5.map z6))] 6 :=
 jf (m := m) (s := ((v2, v3, v4, v5) : (Nat × (List G_QKey) × (List (G_QKey × Int)) × (List G_QKey)))) (r := o) (fun (s : (Nat × (List G_QKey) × (List (G_QKey × Int)) × (List G_QKey))) => zp m a1 a2 s.1 s.2.1 s.2.2.1 s.2.2.2) (Xm a1 a2) (Wv a1 a2) (Vj a0 a1 a2) (fun s o h => z00 h) h
noncomputable def zr (m : Option Nat) (a0 : G_QKey) (a1 : List G_QKey) (a2 : List (G_QKey × (List G_QKey))) : Option (List G_QKey) :=
 (xv m ((lk zx a2 a0).getD [])).bind fun v1 =>
 y1 m a1 a2 v1.length ([] : List G_QKey) ([] : List (G_QKey × Int)) v1
theorem z3o {a0 : G_QKey} {a1 : List G_QKey} {a2 : List (G_QKey × (List G_QKey))} {m : Option Nat} {o : (List G_QKey)} (h : zr m a0 a1 a2 = some o) : LWp Try.prog kc 3 z4h (U8 a0 a1 a2 o) (qz 0 [.ptr (0, 0) 0 0, .agg [.int .i64 a0.f_Kind, .int .i64 a0.f_A, .int .i64 a0.f_B]]) [((0, 0), .one [.map (0, 1), .isl 3 (a1.map z6) false]), ((0, 1), .amap (a2.map (em zb zh)))] 3 := by
 unfold zr at h
 refine yq ?_
 refine LWp.ghost 3 ?_
 refine qw ?_
 refine LWp.sim (e := [(0, .ptr (0, 0) 0 0), (3, .ptr (3, 0) 0 0)]) (L := [((0, 0), .one [.map (0, 1), .isl 3 (a1.map z6) false]), ((0, 1), .amap (a2.map (em zb zh))), ((3, 0), .one [.int .i64 a0.f_Kind, .int .i64 a0.f_A, .int .i64 a0.f_B])]) (n := 4) ?_ ?_
 ·exact jy (M := [((3, 0), (4, 0))]) rfl (And.intro (Vw.ptr _ _ _ _ rfl) (And.intro (Vw.ptr _ _ _ _ rfl) trivial)) (And.intro (And.intro rfl (BVw.oneL (And.intro (Vw.map _ _ rfl) (And.intro (Vw.same _ rfl) trivial)))) (And.intro (And.intro rfl (BVw.ofMap zb zh yh a2)) (And.intro (And.intro rfl (BVw.oneL (And.intro (Vw.same _ rfl) (And.intro (Vw.same _ rfl) (And.intro (Vw.same _ rfl) trivial))))) trivial)))
 refine yq ?_
 refine LWp.ghost 3 ?_
 refine qw ?_
 refine LWp.sim (e := [(0, .ptr (0, 0) 0 0), (3, .ptr (3, 0) 0 0), (5, .msl (4, 0) 3 0 (([] : List G_QKey).length) false)]) (L := [((0, 0), .one [.map (0, 1), .isl 3 (a1.map z6) false]), ((0, 1), .amap (a2.map (em zb zh))), ((3, 0), .one [.int .i64 a0.f_Kind, .int .i64 a0.f_A, .int .i64 a0.f_B]), ((4, 0), .rows 3 (([] : List G_QKey).map z6))]) (n := 5) ?_ ?_
 ·exact jy (M := [((3, 0), (3, 0)), ((4, 0), (4, 0))]) rfl (And.intro (Vw.ptr _ _ _ _ rfl) (And.intro (Vw.ptr _ _ _ _ rfl) (And.intro (Vw.nilM _ _ _ _ _ _ rfl rfl) trivial))) (And.intro (And.intro rfl (BVw.oneL (And.intro (Vw.map _ _ rfl) (And.intro (Vw.same _ rfl) trivial)))) (And.intro (And.intro rfl (BVw.ofMap zb zh yh a2)) (And.intro (And.intro rfl (BVw.oneL (And.intro (Vw.same _ rfl) (And.intro (Vw.same _ rfl) (And.intro (Vw.same _ rfl) trivial))))) (And.intro (And.intro rfl (BVw.enc z6 (fun _ => rfl) _ ([] : List G_QKey))) trivial))))
 refine yq ?_
 refine qw ?_
 refine yq ?_
 refine z6g rfl ?_
 refine Exists.intro (.isl 3 (((lk zx a2 a0).getD []).map z6) false) (And.intro (z8b (ek := zb) (ev := zh) (z := []) xw rfl a0 a2) (And.intro (X5 (ek := zb) (ev := zh) xw _ _) ?_))
 obtain ⟨v1, h1, h⟩ := bind_some h
 refine Xt (k := 3) (m := 1) (L' := [((6, 0), .rows 3 (v1.map z6))]) (rest := [((5, 0), .amap (([] : List (G_QKey × Int)).map (em zb u5))), ((0, 0), .one [.map (0, 1), .isl 3 (a1.map z6) false]), ((0, 1), .amap (a2.map (em zb zh))), ((3, 0), .one [.int .i64 a0.f_Kind, .int .i64 a0.f_A, .int .i64 a0.f_B]), ((4, 0), .rows 3 (([] : List G_QKey).map z6))]) (R' := .msl (6, 0) 3 0 v1.length false) [] (zba h1) rfl rfl rfl (And.intro (Vw.same _ rfl) trivial) trivial rfl (And.intro rfl (And.intro (kp z6 (fun _ => rfl) _ _) trivial)) rfl ?_
 show J8 _ _ _ [(16, .msl (6, 0) 3 0 v1.length false), (15, .isl 3 (((lk zx a2 a0).getD []).map z6) false), (14, .agg [.int .i64 a0.f_Kind, .int .i64 a0.f_A, .int .i64 a0.f_B]), (13, .map (0, 1)), (12, .ptr (0, 0) 0 0), (11, .ptr (0, 0) 0 0), (10, .ptr (0, 0) 0 0), (6, .map (5, 0)), (9, .map (5, 0)), (0, .ptr (0, 0) 0 0), (3, .ptr (3, 0) 0 0), (5, .msl (4, 0) 3 0 (([] : List G_QKey).length) false)] _ _
 refine LWp.sim (e := [(0, .ptr (0, 0) 0 0), (5, .msl (3, 0) 3 0 (([] : List G_QKey).length) false), (6, .map (4, 0)), (7, .msl (5, 0) 3 0 v1.length false)]) (L := [((0, 0), .one [.map (0, 1), .isl 3 (a1.map z6) false]), ((0, 1), .amap (a2.map (em zb zh))), ((3, 0), .rows 3 (([] : List G_QKey).map z6)), ((4, 0), .amap (([] : List (G_QKey × Int)).map (em zb u5))), ((5, 0), .rows 3 (v1.map z6))]) (n := 6) ?_ ?_
 ·exact jy (M := [((3, 0), (4, 0)), ((4, 0), (5, 0)), ((5, 0), (6, 0))]) rfl (And.intro (Vw.ptr _ _ _ _ rfl) (And.intro (Vw.mslE rfl (by first | rfl | omega | (simp; done) | (simp only [List.length_map, List.length_replicate, Int.toNat_natCast] at *; omega)) rfl) (And.intro (Vw.map _ _ rfl) (And.intro (Vw.mslE rfl (by first | rfl | omega | (simp; done) | (simp only [List.length_map, List.length_replicate, Int.toNat_natCast] at *; omega)) rfl) trivial)))) (And.intro (And.intro rfl (BVw.oneL (And.intro (Vw.map _ _ rfl) (And.intro (Vw.same _ rfl) trivial)))) (And.intro (And.intro rfl (BVw.ofMap zb zh yh a2)) (And.intro (And.intro rfl (BVw.enc z6 (fun _ => rfl) _ ([] : List G_QKey))) (And.intro (And.intro rfl (BVw.ofMap zb u5 vr ([] : List (G_QKey × Int)))) (And.intro (And.intro rfl (BVw.enc z6 (fun _ => rfl) _ v1)) trivial)))))
 refine yq ?_
 refine jm ?_
 refine LWp.sim ?_ (z2o h)
 exact jy (M := [((3, 0), (3, 0)), ((4, 0), (4, 0)), ((5, 0), (5, 0))]) rfl (And.intro (Vw.ptr _ _ _ _ rfl) (And.intro (Vw.mslE rfl (by first | rfl | omega | (simp; done) | (simp only [List.length_map, List.length_replicate, Int.toNat_natCast] at *; omega)) rfl) (And.intro (Vw.map _ _ rfl) (And.intro (Vw.mslE rfl (by first | rfl | omega | (simp; done) | (simp only [List.length_map, List.length_replicate, Int.toNat_natCast] at *; omega)) rfl) trivial)))) (And.intro (And.intro rfl (BVw.oneL (And.intro (Vw.map _ _ rfl) (And.intro (Vw.same _ rfl) trivial)))) (And.intro (And.intro rfl (BVw.ofMap zb zh yh a2)) (And.intro (And.intro rfl (BVw.enc z6 (fun _ => rfl) _ ([] : List G_QKey))) (And.intro (And.intro rfl (BVw.ofMap zb u5 vr ([] : List (G_QKey × Int)))) (And.intro (And.intro rfl (BVw.enc z6 (fun _ => rfl) _ v1)) trivial)))))
theorem z44 {a0 : G_QKey} {a1 : List G_QKey} {a2 : List (G_QKey × (List G_QKey))} {m : Option Nat} {o : (List G_QKey)} (h : zr m a0 a1 a2 = some o) : ACalls Try.prog 22 [.ptr (0, 0) 0 0, .agg [.int .i64 a0.f_Kind, .int .i64 a0.f_A, .int .i64 a0.f_B]] [((0, 0), .one [.map (0, 1), .isl 3 (a1.map z6) false]), ((0, 1), .amap (a2.map (em zb zh)))] 3 (kh 3 (.isl 3 (o.map z6) false) [((0, 0), .one [.map (0, 1), .isl 3 (a1.map z6) false]), ((0, 1), .amap (a2.map (em zb zh)))]) := z1h (L := z79) za5 z9y (Nat.le_of_ble_eq_true rfl) (z3o h)
def zhr : LCode := (.seq (.region [⟨some 3, .box (.t 1), none⟩,
 ⟨some 4, .mv (.c (.val (.slice none 0 0))), none⟩])
 (.seq (.draw [⟨⟨some 5, .mv (.t 0), none⟩, []⟩,
  ⟨⟨some 7, .load true 3 (.t 3), none⟩, []⟩,
  ⟨⟨some 6, .call 21 [(.t 5), (.c (.bool false))], none⟩, [1]⟩,
  ⟨⟨some 8, .call 22 [(.t 6), (.t 7)], none⟩, []⟩,
  ⟨⟨some 4, .mv (.t 8), none⟩, []⟩])
 .ret))
def zdl : Lay := ⟨9, [], false⟩
def zea : List LRes := [.t 4]
def zjl : LFn := ⟨2, zdl, zhr, zea⟩
theorem zhq : wy Try.prog [] 9 = some zjl := by kernel_rfl
theorem zhj : Yf Try.prog 9 := ⟨_, Try.func9, rfl, rfl⟩
noncomputable def yf (m : Option Nat) (a0 : List G_QEdge) (a1 : G_QKey) : Option (List G_QKey) :=
 (qr m a0 false).bind fun v1 =>
 (zr m a1 v1.1 v1.2).bind fun v2 =>
 some v2
def zkd (a0 : List G_QEdge) (a1 : G_QKey) (o : (List G_QKey)) : Exit → Env → AHeap → Nat → Prop := Wt zea (jp (.isl 3 (o.map z6) false))
theorem zbj {a0 : List G_QEdge} {a1 : G_QKey} {m : Option Nat} {o : (List G_QKey)} (h : yf m a0 a1 = some o) : LWp Try.prog zdl 0 zhr (zkd a0 a1 o) (qz 0 [.isl 6 (a0.map z7) false, .agg [.int .i64 a1.f_Kind, .int .i64 a1.f_A, .int .i64 a1.f_B]]) [] 0 := by
 unfold yf at h
 refine yq ?_
 refine qw ?_
 refine yq ?_
 refine Vb ?_
 obtain ⟨v1, h1, h⟩ := bind_some h
 refine Xt (k := 3) (m := 4) (L' := [((1, 0), .one [.map (2, 0), .isl 3 (v1.1.map z6) false]), ((2, 0), .amap (v1.2.map (em zb zh)))]) (rest := [((0, 0), .one [.int .i64 a1.f_Kind, .int .i64 a1.f_A, .int .i64 a1.f_B])]) (R' := .ptr (1, 0) 0 0) [] (z4m h1) rfl rfl rfl (And.intro (Vw.same _ rfl) (And.intro (Vw.same _ rfl) trivial)) trivial rfl (And.intro rfl (And.intro rfl (And.intro rfl (And.intro (Kw zb zh Y0 yh _) trivial)))) rfl ?_
 refine And.intro rfl ?_
 obtain ⟨v2, h2, h⟩ := bind_some h
 refine Xt (k := 3) (m := 0) (L' := [((1, 0), .one [.map (2, 0), .isl 3 (v1.1.map z6) false]), ((2, 0), .amap (v1.2.map (em zb zh)))]) (rest := [((0, 0), .one [.int .i64 a1.f_Kind, .int .i64 a1.f_A, .int .i64 a1.f_B])]) (R' := .isl 3 (v2.map z6) false) [((0, 0), (1, 0)), ((0, 1), (2, 0))] (z44 h2) rfl rfl rfl (And.intro (Vw.ptr _ _ _ _ rfl) (And.intro (Vw.same _ rfl) trivial)) (And.intro (h0I (1, 0) rfl rfl (BVw.oneL (And.intro (Vw.map _ _ rfl) (And.intro (Vw.same _ rfl) trivial)))) (And.intro (h0I (2, 0) rfl rfl (BVw.ofMap zb zh yh v1.2)) trivial)) (ut _ rfl) (And.intro rfl (And.intro rfl (And.intro rfl (And.intro (Kw zb zh Y0 yh _) trivial)))) rfl ?_
 show yd _ _ _ _ _ [(8, .isl 3 (v2.map z6) false), (6, .ptr (1, 0) 0 0), (7, .agg [.int .i64 a1.f_Kind, .int .i64 a1.f_A, .int .i64 a1.f_B]), (5, .isl 6 (a0.map z7) false), (4, .val (.slice none 0 0)), (3, .ptr (0, 0) 0 0), (0, .isl 6 (a0.map z7) false), (1, .agg [.int .i64 a1.f_Kind, .int .i64 a1.f_A, .int .i64 a1.f_B])] _ _
 refine Ye ?_
 cases h
 exact And.intro trivial (And.intro rfl (Vw.same _ rfl))
theorem zgt {a0 : List G_QEdge} {a1 : G_QKey} {m : Option Nat} {o : (List G_QKey)} (h : yf m a0 a1 = some o) : PFn Try.prog 9 [.isl 6 (a0.map z7) false, .agg [.int .i64 a1.f_Kind, .int .i64 a1.f_A, .int .i64 a1.f_B]] (.isl 3 (o.map z6) false) := PFn.ofFnW (L := zjl) zhq zhj (Nat.le_of_ble_eq_true rfl) rfl (zbj h)
def zg1 : LCode := (.seq (.region [⟨some 15, .bin .lss (.t 14) (.t 13), none⟩])
 (.seq (.cond (.t 15)
  .skip
  (.exit 0))
 (.seq (.block 1
  (.seq (.region [⟨some 16, .mv (.t 14), none⟩,
   ⟨some 17, .iaddr 3 (.t 12) (.t 14), none⟩,
   ⟨some 18, .load true 3 (.t 17), none⟩,
   ⟨some 6, .alloc [(.int .i64 0), (.int .i64 0), (.int .i64 0)], none⟩,
   ⟨some 5, .mv (.t 16), none⟩,
   ⟨none, .store 3 (.t 6) (.t 18), none⟩])
  (.seq (.quiet [⟨some 19, .load true 3 (.t 6), none⟩,
   ⟨some 20, .mv (.t 1), none⟩,
   ⟨some 21, .mv (.t 5), none⟩,
   ⟨some 22, .iaddr 3 (.t 20) (.t 21), none⟩,
   ⟨some 23, .load true 3 (.t 22), none⟩,
   ⟨some 24, .eq true (.agg [.int, .int, .int]) (.t 19) (.t 23), none⟩])
  (.cond (.t 24)
   (.seq (.region [⟨some 4, .mv (.c (.bool false)), none⟩])
   .ret)
   .skip))))
 (.region [⟨some 25, .bin .add (.t 14) (.c (.int .i64 1)), none⟩,
  ⟨some 14, .mv (.t 25), none⟩]))))
def zbp : LCode := (.seq (.region [⟨some 4, .mv (.c (.bool true)), none⟩])
 .ret)
def zia : LCode := (.seq (.region [⟨some 4, .mv (.c (.bool false)), none⟩])
 (.seq (.seq (.region [⟨some 7, .mv (.t 0), none⟩,
  ⟨some 8, .len false (.t 7), none⟩,
  ⟨some 9, .mv (.t 1), none⟩,
  ⟨some 10, .len false (.t 9), none⟩,
  ⟨some 11, .bin .neq (.t 8) (.t 10), none⟩])
 (.cond (.t 11)
  (.seq (.region [⟨some 4, .mv (.c (.bool false)), none⟩])
  .ret)
  .skip))
 (.seq (.seq (.region [⟨some 12, .mv (.t 0), none⟩,
  ⟨some 13, .len false (.t 12), none⟩,
  ⟨some 14, .mv (.c (.int .i64 0)), none⟩])
 (.block 0
  (.loop
   zg1)))
 zbp)))
def Jp : Lay := ⟨26, [], false⟩
def zdp : List LRes := [.t 4]
def zji : LFn := ⟨2, Jp, zia, zdp⟩
theorem zhs : wy Try.prog [] 8 = some zji := by kernel_rfl
theorem zh3 : Yf Try.prog 8 := ⟨_, Try.func8, rfl, rfl⟩
def ziq (a0 : List G_QKey) (a1 : List G_QKey) (o : Bool) : Exit → Env → AHeap → Nat → Prop := Wt zdp (jp (.bool o))
def z0c (a0 : List G_QKey) (a1 : List G_QKey) (s : Int) : Env := [(1, .isl 3 (a1.map z6) false), (12, .isl 3 (a0.map z6) false), (13, .int .i64 ((a0.map z6).length : Int)), (14, .int .i64 s)]
def z4w (a0 : List G_QKey) (a1 : List G_QKey) (s : Int) : AHeap := []
def z7k (a0 : List G_QKey) (a1 : List G_QKey) (o : Bool) : Exit → Env → AHeap → Nat → Prop := (xn 0 (Xf Try.prog Jp 0 zbp (ziq a0 a1 o)))
noncomputable def qb (m : Option Nat) : Option Bool :=
 some true
noncomputable def zy (m : Option Nat) (a0 : List G_QKey) (a1 : List G_QKey) (v1 : Int) : Option (Int ⊕ Bool) :=
 if (decide (v1 < ((a0.map z6).length : Int))) = true then
  if (0 : Int) ≤ v1 ∧ v1 < ((a0.map z6).length : Int) then
  if (0 : Int) ≤ v1 ∧ v1 < ((a1.map z6).length : Int) then
  if (!(((a0.getD v1.toNat default).f_Kind == (a1.getD v1.toNat default).f_Kind) && (((a0.getD v1.toNat default).f_A == (a1.getD v1.toNat default).f_A) && (((a0.getD v1.toNat default).f_B == (a1.getD v1.toNat default).f_B) && true)))) = true then
   Option.map Sum.inr (
    some false)
  else
   some (.inl (W (v1 + 1)))
  else none
  else none
 else
  Option.map Sum.inr (
   qb m)
noncomputable def yg (m : Option Nat) (a0 : List G_QKey) (a1 : List G_QKey) (v1 : Int) : Option Bool := uv m (fun (s : Int) => zy m a0 a1 s) v1
theorem zci {a0 : List G_QKey} {a1 : List G_QKey} {m : Option Nat} {o : Bool} (h : qb m = some o) :
 LWp Try.prog Jp 0 zbp (ziq a0 a1 o) [] [] 0 := by
 unfold qb at h
 refine yq ?_
 refine qw ?_
 refine Ye ?_
 cases h
 exact And.intro trivial (And.intro rfl (Vw.same _ rfl))
theorem z71 {a0 : List G_QKey} {a1 : List G_QKey} {v1 : Int} {m : Option Nat} {o : Int ⊕ Bool} (h : zy m a0 a1 v1 = some o) :
 LWp Try.prog Jp 0 zg1 (kg 0 0 (z0c a0 a1) (z4w a0 a1) (z7k a0 a1) o) [(1, .isl 3 (a1.map z6) false), (12, .isl 3 (a0.map z6) false), (13, .int .i64 ((a0.map z6).length : Int)), (14, .int .i64 v1)] [] 0 := by
 unfold zy at h
 refine yq ?_
 refine qw ?_
 refine yq ?_
 refine w7 (v := (decide (v1 < ((a0.map z6).length : Int)))) rfl trivial (fun h10 => ?_) (fun h10 => ?_)
 ·have h := qq h10 h
  refine wg ?_
  refine yq ?_
  refine jm ?_
  refine yq ?_
  refine qw ?_
  obtain ⟨h11, h⟩ := yz h
  refine And.intro h11 ?_
  refine Exists.intro (z6 (a0.getD v1.toNat default)) (And.intro (jk z6 _ _ (ku z6 h11)) (And.intro (And.intro (Yj h11) (Nat.le_of_ble_eq_true rfl)) ?_))
  refine yq ?_
  refine ze8 ?_
  obtain ⟨h12, h⟩ := yz h
  refine And.intro h12 ?_
  show yqs _ _ [(22, .iptr 3 (a1.map z6) v1.toNat 0), (21, .int .i64 v1), (20, .isl 3 (a1.map z6) false), (19, .agg [.int .i64 ((a0.getD v1.toNat default).f_Kind), .int .i64 ((a0.getD v1.toNat default).f_A), .int .i64 ((a0.getD v1.toNat default).f_B)]), (5, .int .i64 v1), (6, .ptr (0, 0) 0 0), (18, .agg [.int .i64 ((a0.getD v1.toNat default).f_Kind), .int .i64 ((a0.getD v1.toNat default).f_A), .int .i64 ((a0.getD v1.toNat default).f_B)]), (17, .iptr 3 (a0.map z6) v1.toNat 0), (16, .int .i64 v1), (15, .bool (decide (v1 < ((a0.map z6).length : Int)))), (1, .isl 3 (a1.map z6) false), (12, .isl 3 (a0.map z6) false), (13, .int .i64 ((a0.map z6).length : Int)), (14, .int .i64 v1)] _ _
  refine Exists.intro (z6 (a1.getD v1.toNat default)) (And.intro (jk z6 _ _ (ku z6 h12)) (And.intro (And.intro (Yj h12) (Nat.le_of_ble_eq_true rfl)) ?_))
  refine LWp.sim (e := [(1, .isl 3 (a1.map z6) false), (12, .isl 3 (a0.map z6) false), (13, .int .i64 ((a0.map z6).length : Int)), (14, .int .i64 v1), (24, .bool (!(((a0.getD v1.toNat default).f_Kind == (a1.getD v1.toNat default).f_Kind) && (((a0.getD v1.toNat default).f_A == (a1.getD v1.toNat default).f_A) && (((a0.getD v1.toNat default).f_B == (a1.getD v1.toNat default).f_B) && true)))))]) (L := []) (n := 0) ?_ ?_
  ·exact jy (M := []) rfl (And.intro (Vw.same _ rfl) (And.intro (Vw.same _ rfl) (And.intro (Vw.same _ rfl) (And.intro (Vw.same _ rfl) (And.intro (Vw.same _ rfl) trivial))))) trivial
  refine w7 (v := (!(((a0.getD v1.toNat default).f_Kind == (a1.getD v1.toNat default).f_Kind) && (((a0.getD v1.toNat default).f_A == (a1.getD v1.toNat default).f_A) && (((a0.getD v1.toNat default).f_B == (a1.getD v1.toNat default).f_B) && true))))) rfl trivial (fun h13 => ?_) (fun h13 => ?_)
  ·have h := qq h13 h
   refine yq ?_
   refine qw ?_
   refine Ye ?_
   obtain ⟨o, hq, rfl⟩ := Option.map_eq_some_iff.1 h
   replace h := hq; clear hq
   refine And.intro nofun ?_
   cases h
   exact And.intro trivial (And.intro rfl (Vw.same _ rfl))
  ·have h := xm h13 h
   refine wg ?_
   refine qw ?_
   cases h
   exact And.intro rfl (jy (M := []) rfl (And.intro (Vw.same _ rfl) (And.intro (Vw.same _ rfl) (And.intro (Vw.same _ rfl) (And.intro (Vw.same _ rfl) trivial)))) trivial)
 ·have h := xm h10 h
  refine Xw ?_
  obtain ⟨o, hq, rfl⟩ := Option.map_eq_some_iff.1 h
  replace h := hq; clear hq
  refine And.intro nofun ?_
  refine LWp.sim ?_ (zci h)
  exact jy (M := []) rfl trivial trivial
theorem zc6 {a0 : List G_QKey} {a1 : List G_QKey} {v1 : Int} {m : Option Nat} {o : Bool} (h : yg m a0 a1 v1 = some o) :
 LWp Try.prog Jp 0 (.loop zg1) (xn 0 (Xf Try.prog Jp 0 zbp (ziq a0 a1 o))) [(1, .isl 3 (a1.map z6) false), (12, .isl 3 (a0.map z6) false), (13, .int .i64 ((a0.map z6).length : Int)), (14, .int .i64 v1)] [] 0 :=
 jf (m := m) (s := (v1 : Int)) (r := o) (fun (s : Int) => zy m a0 a1 s) (z0c a0 a1) (z4w a0 a1) (z7k a0 a1) (fun s o h => z71 h) h
noncomputable def zf (m : Option Nat) (a0 : List G_QKey) (a1 : List G_QKey) : Option Bool :=
 if (((a0.map z6).length : Int) != ((a1.map z6).length : Int)) = true then
  some false
 else
  yg m a0 a1 0
theorem zbg {a0 : List G_QKey} {a1 : List G_QKey} {m : Option Nat} {o : Bool} (h : zf m a0 a1 = some o) : LWp Try.prog Jp 0 zia (ziq a0 a1 o) (qz 0 [.isl 3 (a0.map z6) false, .isl 3 (a1.map z6) false]) [] 0 := by
 unfold zf at h
 refine yq ?_
 refine qw ?_
 refine yq ?_
 refine yq ?_
 refine qw ?_
 refine w7 (v := (((a0.map z6).length : Int) != ((a1.map z6).length : Int))) rfl trivial (fun h1 => ?_) (fun h1 => ?_)
 ·have h := qq h1 h
  refine yq ?_
  refine qw ?_
  refine Ye ?_
  cases h
  exact And.intro trivial (And.intro rfl (Vw.same _ rfl))
 ·have h := xm h1 h
  refine wg ?_
  refine yq ?_
  refine yq ?_
  refine qw ?_
  refine LWp.sim (e := [(1, .isl 3 (a1.map z6) false), (12, .isl 3 (a0.map z6) false), (13, .int .i64 ((a0.map z6).length : Int)), (14, .int .i64 0)]) (L := []) (n := 0) ?_ ?_
  ·exact jy (M := []) rfl (And.intro (Vw.same _ rfl) (And.intro (Vw.same _ rfl) (And.intro (Vw.same _ rfl) (And.intro (Vw.same _ rfl) trivial)))) trivial
  refine jm ?_
  refine LWp.sim ?_ (zc6 h)
  exact jy (M := []) rfl (And.intro (Vw.same _ rfl) (And.intro (Vw.same _ rfl) (And.intro (Vw.same _ rfl) (And.intro (Vw.same _ rfl) trivial)))) trivial
theorem zd6 {a0 : List G_QKey} {a1 : List G_QKey} {m : Option Nat} {o : Bool} (h : zf m a0 a1 = some o) : PFn Try.prog 8 [.isl 3 (a0.map z6) false, .isl 3 (a1.map z6) false] (.bool o) := PFn.ofFnW (L := zji) zhs zh3 (Nat.le_of_ble_eq_true rfl) rfl (zbg h)
def ze2 : LCode := (.seq (.region [⟨some 3, .box (.t 1), none⟩,
 ⟨some 4, .mv (.c (.val (.slice none 0 0))), none⟩])
 (.seq (.draw [⟨⟨some 5, .mv (.t 0), none⟩, []⟩,
  ⟨⟨some 7, .load true 3 (.t 3), none⟩, []⟩,
  ⟨⟨some 6, .call 21 [(.t 5), (.c (.bool true))], none⟩, [1]⟩,
  ⟨⟨some 8, .call 22 [(.t 6), (.t 7)], none⟩, []⟩,
  ⟨⟨some 4, .mv (.t 8), none⟩, []⟩])
 .ret))
def z90 : Lay := ⟨9, [], false⟩
def z9f : List LRes := [.t 4]
def zhh : LFn := ⟨2, z90, ze2, z9f⟩
theorem zfp : wy Try.prog [] 11 = some zhh := by kernel_rfl
theorem zf2 : Yf Try.prog 11 := ⟨_, Try.func11, rfl, rfl⟩
noncomputable def yr (m : Option Nat) (a0 : List G_QEdge) (a1 : G_QKey) : Option (List G_QKey) :=
 (qr m a0 true).bind fun v1 =>
 (zr m a1 v1.1 v1.2).bind fun v2 =>
 some v2
def zj9 (a0 : List G_QEdge) (a1 : G_QKey) (o : (List G_QKey)) : Exit → Env → AHeap → Nat → Prop := Wt z9f (jp (.isl 3 (o.map z6) false))
theorem z7j {a0 : List G_QEdge} {a1 : G_QKey} {m : Option Nat} {o : (List G_QKey)} (h : yr m a0 a1 = some o) : LWp Try.prog z90 0 ze2 (zj9 a0 a1 o) (qz 0 [.isl 6 (a0.map z7) false, .agg [.int .i64 a1.f_Kind, .int .i64 a1.f_A, .int .i64 a1.f_B]]) [] 0 := by
 unfold yr at h
 refine yq ?_
 refine qw ?_
 refine yq ?_
 refine Vb ?_
 obtain ⟨v1, h1, h⟩ := bind_some h
 refine Xt (k := 3) (m := 4) (L' := [((1, 0), .one [.map (2, 0), .isl 3 (v1.1.map z6) false]), ((2, 0), .amap (v1.2.map (em zb zh)))]) (rest := [((0, 0), .one [.int .i64 a1.f_Kind, .int .i64 a1.f_A, .int .i64 a1.f_B])]) (R' := .ptr (1, 0) 0 0) [] (z4m h1) rfl rfl rfl (And.intro (Vw.same _ rfl) (And.intro (Vw.same _ rfl) trivial)) trivial rfl (And.intro rfl (And.intro rfl (And.intro rfl (And.intro (Kw zb zh Y0 yh _) trivial)))) rfl ?_
 refine And.intro rfl ?_
 obtain ⟨v2, h2, h⟩ := bind_some h
 refine Xt (k := 3) (m := 0) (L' := [((1, 0), .one [.map (2, 0), .isl 3 (v1.1.map z6) false]), ((2, 0), .amap (v1.2.map (em zb zh)))]) (rest := [((0, 0), .one [.int .i64 a1.f_Kind, .int .i64 a1.f_A, .int .i64 a1.f_B])]) (R' := .isl 3 (v2.map z6) false) [((0, 0), (1, 0)), ((0, 1), (2, 0))] (z44 h2) rfl rfl rfl (And.intro (Vw.ptr _ _ _ _ rfl) (And.intro (Vw.same _ rfl) trivial)) (And.intro (h0I (1, 0) rfl rfl (BVw.oneL (And.intro (Vw.map _ _ rfl) (And.intro (Vw.same _ rfl) trivial)))) (And.intro (h0I (2, 0) rfl rfl (BVw.ofMap zb zh yh v1.2)) trivial)) (ut _ rfl) (And.intro rfl (And.intro rfl (And.intro rfl (And.intro (Kw zb zh Y0 yh _) trivial)))) rfl ?_
 show yd _ _ _ _ _ [(8, .isl 3 (v2.map z6) false), (6, .ptr (1, 0) 0 0), (7, .agg [.int .i64 a1.f_Kind, .int .i64 a1.f_A, .int .i64 a1.f_B]), (5, .isl 6 (a0.map z7) false), (4, .val (.slice none 0 0)), (3, .ptr (0, 0) 0 0), (0, .isl 6 (a0.map z7) false), (1, .agg [.int .i64 a1.f_Kind, .int .i64 a1.f_A, .int .i64 a1.f_B])] _ _
 refine Ye ?_
 cases h
 exact And.intro trivial (And.intro rfl (Vw.same _ rfl))
theorem ze4 {a0 : List G_QEdge} {a1 : G_QKey} {m : Option Nat} {o : (List G_QKey)} (h : yr m a0 a1 = some o) : PFn Try.prog 11 [.isl 6 (a0.map z7) false, .agg [.int .i64 a1.f_Kind, .int .i64 a1.f_A, .int .i64 a1.f_B]] (.isl 3 (o.map z6) false) := PFn.ofFnW (L := zhh) zfp zf2 (Nat.le_of_ble_eq_true rfl) rfl (z7j h)
def zgo : LCode := (.seq (.region [⟨some 0, .mv (.c (.bool false)), none⟩])
 (.seq (.region [⟨some 5, .build [(.int .i64 0), (.int .i64 0), (.int .i64 0)] [(1, 1, (.c (.int .i64 1)))], none⟩,
  ⟨some 6, .build [(.int .i64 0), (.int .i64 0), (.int .i64 0)] [(1, 1, (.c (.int .i64 2)))], none⟩,
  ⟨some 7, .build [(.int .i64 0), (.int .i64 0), (.int .i64 0)] [(1, 1, (.c (.int .i64 3)))], none⟩,
  ⟨some 1, .alloc [(.int .i64 0), (.int .i64 0), (.int .i64 0)], none⟩,
  ⟨some 2, .alloc [(.int .i64 0), (.int .i64 0), (.int .i64 0)], none⟩,
  ⟨some 3, .alloc [(.int .i64 0), (.int .i64 0), (.int .i64 0)], none⟩,
  ⟨none, .store 3 (.t 1) (.t 5), none⟩,
  ⟨none, .store 3 (.t 2) (.t 6), none⟩,
  ⟨none, .store 3 (.t 3) (.t 7), none⟩])
 (.seq (.region [⟨some 8, .load true 3 (.t 3), none⟩,
  ⟨some 9, .load true 3 (.t 2), none⟩,
  ⟨some 10, .build [(.int .i64 0), (.int .i64 0), (.int .i64 0), (.int .i64 0), (.int .i64 0), (.int .i64 0)] [(0, 3, (.t 8)), (3, 3, (.t 9))], none⟩,
  ⟨some 11, .load true 3 (.t 2), none⟩,
  ⟨some 12, .load true 3 (.t 1), none⟩,
  ⟨some 13, .build [(.int .i64 0), (.int .i64 0), (.int .i64 0), (.int .i64 0), (.int .i64 0), (.int .i64 0)] [(0, 3, (.t 11)), (3, 3, (.t 12))], none⟩,
  ⟨some 14, .mkSl true 6 [(.int .i64 0), (.int .i64 0), (.int .i64 0), (.int .i64 0), (.int .i64 0), (.int .i64 0)] 2 [(0, (.t 10)), (1, (.t 13))], none⟩,
  ⟨some 4, .mv (.t 14), none⟩])
 (.seq (.draw [⟨⟨some 15, .mv (.t 4), none⟩, []⟩,
  ⟨⟨some 16, .load true 3 (.t 3), none⟩, []⟩,
  ⟨⟨some 18, .load true 3 (.t 1), none⟩, []⟩,
  ⟨⟨some 19, .load true 3 (.t 2), none⟩, []⟩,
  ⟨⟨some 20, .mkSl true 3 [(.int .i64 0), (.int .i64 0), (.int .i64 0)] 2 [(0, (.t 18)), (1, (.t 19))], none⟩, []⟩,
  ⟨⟨some 17, .call 9 [(.t 15), (.t 16)], none⟩, [2, 3]⟩,
  ⟨⟨some 21, .call 8 [(.t 17), (.t 20)], none⟩, []⟩,
  ⟨⟨some 22, .mv (.t 21), none⟩, []⟩,
  ⟨⟨some 23, .mv (.t 4), some (22, true)⟩, []⟩,
  ⟨⟨some 24, .load true 3 (.t 1), some (22, true)⟩, []⟩,
  ⟨⟨some 26, .load true 3 (.t 2), some (22, true)⟩, []⟩,
  ⟨⟨some 27, .load true 3 (.t 3), some (22, true)⟩, []⟩,
  ⟨⟨some 28, .mkSl true 3 [(.int .i64 0), (.int .i64 0), (.int .i64 0)] 2 [(0, (.t 26)), (1, (.t 27))], some (22, true)⟩, []⟩,
  ⟨⟨some 25, .call 11 [(.t 23), (.t 24)], some (22, true)⟩, [10, 11]⟩,
  ⟨⟨some 29, .call 8 [(.t 25), (.t 28)], some (22, true)⟩, []⟩,
  ⟨⟨some 30, .pick (.t 22) (.t 29) (.c (.bool false)), none⟩, []⟩,
  ⟨⟨some 0, .mv (.t 30), none⟩, []⟩])
 .ret))))
def ze1 : Lay := ⟨31, [], false⟩
def zdv : List LRes := [.t 0]
def zjq : LFn := ⟨0, ze1, zgo, zdv⟩
theorem zi5 : wy Try.prog [] 7 = some zjq := by kernel_rfl
theorem zib : Yf Try.prog 7 := ⟨_, Try.func7, rfl, rfl⟩
noncomputable def y5 (m : Option Nat) : Option Bool :=
 (yf m ([(G_QEdge.mk (G_QKey.mk 0 3 0) (G_QKey.mk 0 2 0)), (G_QEdge.mk (G_QKey.mk 0 2 0) (G_QKey.mk 0 1 0))] : List G_QEdge) (G_QKey.mk 0 3 0)).bind fun v1 =>
 (zf m v1 ([(G_QKey.mk 0 1 0), (G_QKey.mk 0 2 0)] : List G_QKey)).bind fun v2 =>
 (if (v2 == true) = true then yr m ([(G_QEdge.mk (G_QKey.mk 0 3 0) (G_QKey.mk 0 2 0)), (G_QEdge.mk (G_QKey.mk 0 2 0) (G_QKey.mk 0 1 0))] : List G_QEdge) (G_QKey.mk 0 1 0) else some default).bind fun v3 =>
 (if (v2 == true) = true then zf m v3 ([(G_QKey.mk 0 2 0), (G_QKey.mk 0 3 0)] : List G_QKey) else some default).bind fun v4 =>
 some (v2 && v4)
def zk8 (o : Bool) : Exit → Env → AHeap → Nat → Prop := Wt zdv (jp (.bool o))
theorem zcg {m : Option Nat} {o : Bool} (h : y5 m = some o) : LWp Try.prog ze1 0 zgo (zk8 o) (qz 0 []) [] 0 := by
 unfold y5 at h
 refine yq ?_
 refine qw ?_
 refine yq ?_
 refine qw ?_
 refine LWp.sim (e := [(1, .ptr (0, 0) 0 0), (2, .ptr (1, 0) 0 0), (3, .ptr (2, 0) 0 0)]) (L := [((0, 0), .one [.int .i64 0, .int .i64 1, .int .i64 0]), ((1, 0), .one [.int .i64 0, .int .i64 2, .int .i64 0]), ((2, 0), .one [.int .i64 0, .int .i64 3, .int .i64 0])]) (n := 3) ?_ ?_
 ·exact jy (M := [((0, 0), (0, 0)), ((1, 0), (1, 0)), ((2, 0), (2, 0))]) rfl (And.intro (Vw.ptr _ _ _ _ rfl) (And.intro (Vw.ptr _ _ _ _ rfl) (And.intro (Vw.ptr _ _ _ _ rfl) trivial))) (And.intro (And.intro rfl (BVw.oneL (And.intro (Vw.same _ rfl) (And.intro (Vw.same _ rfl) (And.intro (Vw.same _ rfl) trivial))))) (And.intro (And.intro rfl (BVw.oneL (And.intro (Vw.same _ rfl) (And.intro (Vw.same _ rfl) (And.intro (Vw.same _ rfl) trivial))))) (And.intro (And.intro rfl (BVw.oneL (And.intro (Vw.same _ rfl) (And.intro (Vw.same _ rfl) (And.intro (Vw.same _ rfl) trivial))))) trivial)))
 refine yq ?_
 refine qw ?_
 refine LWp.sim (e := [(1, .ptr (0, 0) 0 0), (2, .ptr (1, 0) 0 0), (3, .ptr (2, 0) 0 0), (4, .isl 6 (([(G_QEdge.mk (G_QKey.mk 0 3 0) (G_QKey.mk 0 2 0)), (G_QEdge.mk (G_QKey.mk 0 2 0) (G_QKey.mk 0 1 0))] : List G_QEdge).map z7) true)]) (L := [((0, 0), .one [.int .i64 0, .int .i64 1, .int .i64 0]), ((1, 0), .one [.int .i64 0, .int .i64 2, .int .i64 0]), ((2, 0), .one [.int .i64 0, .int .i64 3, .int .i64 0])]) (n := 3) ?_ ?_
 ·exact jy (M := [((0, 0), (0, 0)), ((1, 0), (1, 0)), ((2, 0), (2, 0))]) rfl (And.intro (Vw.ptr _ _ _ _ rfl) (And.intro (Vw.ptr _ _ _ _ rfl) (And.intro (Vw.ptr _ _ _ _ rfl) (And.intro (Vw.same _ rfl) trivial)))) (And.intro (And.intro rfl (BVw.oneL (And.intro (Vw.same _ rfl) (And.intro (Vw.same _ rfl) (And.intro (Vw.same _ rfl) trivial))))) (And.intro (And.intro rfl (BVw.oneL (And.intro (Vw.same _ rfl) (And.intro (Vw.same _ rfl) (And.intro (Vw.same _ rfl) trivial))))) (And.intro (And.intro rfl (BVw.oneL (And.intro (Vw.same _ rfl) (And.intro (Vw.same _ rfl) (And.intro (Vw.same _ rfl) trivial))))) trivial)))
 refine yq ?_
 refine Vb ?_
 obtain ⟨v1, h1, h⟩ := bind_some h
 refine PFn.call (zgt h1) (And.intro (Vw.islF _ _ _) (And.intro (Vw.same _ rfl) trivial)) ?_
 refine And.intro rfl ?_
 refine And.intro rfl ?_
 obtain ⟨v2, h2, h⟩ := bind_some h
 refine PFn.call (zd6 h2) (And.intro (Vw.same _ rfl) (And.intro (Vw.islF _ _ _) trivial)) ?_
 show yd _ _ _ _ _ [(21, .bool v2), (17, .isl 3 (v1.map z6) false), (20, .isl 3 (([(G_QKey.mk 0 1 0), (G_QKey.mk 0 2 0)] : List G_QKey).map z6) true), (19, .agg [.int .i64 0, .int .i64 2, .int .i64 0]), (18, .agg [.int .i64 0, .int .i64 1, .int .i64 0]), (16, .agg [.int .i64 0, .int .i64 3, .int .i64 0]), (15, .isl 6 (([(G_QEdge.mk (G_QKey.mk 0 3 0) (G_QKey.mk 0 2 0)), (G_QEdge.mk (G_QKey.mk 0 2 0) (G_QKey.mk 0 1 0))] : List G_QEdge).map z7) true), (1, .ptr (0, 0) 0 0), (2, .ptr (1, 0) 0 0), (3, .ptr (2, 0) 0 0), (4, .isl 6 (([(G_QEdge.mk (G_QKey.mk 0 3 0) (G_QKey.mk 0 2 0)), (G_QEdge.mk (G_QKey.mk 0 2 0) (G_QKey.mk 0 1 0))] : List G_QEdge).map z7) true)] _ _
 refine Or.inl (Exists.intro (.isl 3 (([(G_QKey.mk 0 2 0), (G_QKey.mk 0 3 0)] : List G_QKey).map z6) true) (And.intro (fun hp => And.intro (And.intro hp hp) (And.intro rfl (And.intro rfl rfl))) ?_))
 obtain ⟨v3, h3, h⟩ := bind_some h
 refine Or.inl (Exists.intro (.isl 3 (v3.map z6) false) (And.intro (fun hp => And.intro (And.intro hp hp) (PFn.call (ze4 (qq hp h3)) (And.intro (Vw.islF _ _ _) (And.intro (Vw.same _ rfl) trivial)) (And.intro rfl (And.intro rfl rfl)))) ?_))
 refine And.intro (And.intro rfl (fun hp => rfl)) ?_
 refine And.intro (And.intro rfl (fun hp => rfl)) ?_
 obtain ⟨v4, h4, h⟩ := bind_some h
 refine Or.inl (Exists.intro (.bool v4) (And.intro (fun hp => And.intro (And.intro hp hp) (PFn.call (zd6 (qq hp h4)) (And.intro (Vw.same _ rfl) (And.intro (Vw.islF _ _ _) trivial)) (And.intro rfl (And.intro rfl rfl)))) ?_))
 refine And.intro (fun hc => (bqt hc)) ?_
 show yd _ _ _ _ _ [(30, .bool (v2 && v4)), (29, .cnd (v2 == true) (.bool v4)), (25, .cnd (v2 == true) (.isl 3 (v3.map z6) false)), (28, .cnd (v2 == true) (.isl 3 (([(G_QKey.mk 0 2 0), (G_QKey.mk 0 3 0)] : List G_QKey).map z6) true)), (27, .cnd (v2 == true) (.agg [.int .i64 0, .int .i64 3, .int .i64 0])), (26, .cnd (v2 == true) (.agg [.int .i64 0, .int .i64 2, .int .i64 0])), (24, .cnd (v2 == true) (.agg [.int .i64 0, .int .i64 1, .int .i64 0])), (23, .cnd (v2 == true) (.isl 6 (([(G_QEdge.mk (G_QKey.mk 0 3 0) (G_QKey.mk 0 2 0)), (G_QEdge.mk (G_QKey.mk 0 2 0) (G_QKey.mk 0 1 0))] : List G_QEdge).map z7) true)), (22, .bool v2), (21, .bool v2), (17, .isl 3 (v1.map z6) false), (20, .isl 3 (([(G_QKey.mk 0 1 0), (G_QKey.mk 0 2 0)] : List G_QKey).map z6) true), (19, .agg [.int .i64 0, .int .i64 2, .int .i64 0]), (18, .agg [.int .i64 0, .int .i64 1, .int .i64 0]), (16, .agg [.int .i64 0, .int .i64 3, .int .i64 0]), (15, .isl 6 (([(G_QEdge.mk (G_QKey.mk 0 3 0) (G_QKey.mk 0 2 0)), (G_QEdge.mk (G_QKey.mk 0 2 0) (G_QKey.mk 0 1 0))] : List G_QEdge).map z7) true), (1, .ptr (0, 0) 0 0), (2, .ptr (1, 0) 0 0), (3, .ptr (2, 0) 0 0), (4, .isl 6 (([(G_QEdge.mk (G_QKey.mk 0 3 0) (G_QKey.mk 0 2 0)), (G_QEdge.mk (G_QKey.mk 0 2 0) (G_QKey.mk 0 1 0))] : List G_QEdge).map z7) true)] _ _
 refine LWp.sim (e := [(0, .bool (v2 && v4))]) (L := []) (n := 0) ?_ ?_
 ·exact jy (M := []) rfl (And.intro (Vw.same _ rfl) trivial) trivial
 refine Ye ?_
 cases h
 exact And.intro trivial (And.intro rfl (Vw.same _ rfl))
theorem zh4 {m : Option Nat} {o : Bool} (h : y5 m = some o) : PFn Try.prog 7 [] (.bool o) := PFn.ofFnW (L := zjq) zi5 zib (Nat.le_of_ble_eq_true rfl) rfl (zcg h)
def za8 : LCode := (.seq (.region [⟨some 10, .bin .lss (.t 9) (.t 8), none⟩])
 (.seq (.cond (.t 10)
  .skip
  (.exit 0))
 (.seq (.block 1
  (.seq (.region [⟨some 11, .mv (.t 9), none⟩,
   ⟨some 12, .iaddr 3 (.t 7) (.t 9), none⟩,
   ⟨some 13, .load true 3 (.t 12), none⟩,
   ⟨some 6, .alloc [(.int .i64 0), (.int .i64 0), (.int .i64 0)], none⟩,
   ⟨some 5, .mv (.t 11), none⟩,
   ⟨none, .store 3 (.t 6) (.t 13), none⟩])
  (.seq (.region [⟨some 14, .load true 3 (.t 3), none⟩,
   ⟨some 15, .load true 3 (.t 6), none⟩,
   ⟨some 16, .eq false (.agg [.int, .int, .int]) (.t 14) (.t 15), none⟩])
  (.cond (.t 16)
   (.seq (.region [⟨some 17, .mv (.t 5), none⟩,
    ⟨some 4, .mv (.t 17), none⟩])
   .ret)
   .skip))))
 (.region [⟨some 18, .bin .add (.t 9) (.c (.int .i64 1)), none⟩,
  ⟨some 9, .mv (.t 18), none⟩]))))
def z56 : LCode := (.seq (.region [⟨some 4, .mv (.c (.int .i64 (-1))), none⟩])
 .ret)
def zdw : LCode := (.seq (.region [⟨some 3, .box (.t 1), none⟩,
 ⟨some 4, .mv (.c (.int .i64 0)), none⟩])
 (.seq (.seq (.region [⟨some 7, .mv (.t 0), none⟩,
  ⟨some 8, .len false (.t 7), none⟩,
  ⟨some 9, .mv (.c (.int .i64 0)), none⟩])
 (.block 0
  (.loop
   za8)))
 z56))
def Yw : Lay := ⟨19, [], false⟩
def z8h : List LRes := [.t 4]
def zhy : LFn := ⟨2, Yw, zdw, z8h⟩
theorem zft : wy Try.prog [] 40 = some zhy := by kernel_rfl
theorem zfc : Yf Try.prog 40 := ⟨_, Try.func40, rfl, rfl⟩
def zd4 (a0 : List G_QKey) (a1 : G_QKey) (o : Int) : Exit → Env → AHeap → Nat → Prop := Wt z8h (jp (.int .i64 o))
def Vm (a0 : List G_QKey) (a1 : G_QKey) (s : Int) : Env := [(3, .ptr (0, 0) 0 0), (7, .isl 3 (a0.map z6) false), (8, .int .i64 ((a0.map z6).length : Int)), (9, .int .i64 s)]
def z0l (a0 : List G_QKey) (a1 : G_QKey) (s : Int) : AHeap := [((0, 0), .one [.int .i64 a1.f_Kind, .int .i64 a1.f_A, .int .i64 a1.f_B])]
def z49 (a0 : List G_QKey) (a1 : G_QKey) (o : Int) : Exit → Env → AHeap → Nat → Prop := (xn 0 (Xf Try.prog Yw 0 z56 (zd4 a0 a1 o)))
noncomputable def qa (m : Option Nat) : Option Int :=
 some (-1)
noncomputable def zk (m : Option Nat) (a0 : List G_QKey) (a1 : G_QKey) (v1 : Int) : Option (Int ⊕ Int) :=
 if (decide (v1 < ((a0.map z6).length : Int))) = true then
  if (0 : Int) ≤ v1 ∧ v1 < ((a0.map z6).length : Int) then
  if ((a1.f_Kind == (a0.getD v1.toNat default).f_Kind) && ((a1.f_A == (a0.getD v1.toNat default).f_A) && ((a1.f_B == (a0.getD v1.toNat default).f_B) && true))) = true then
   Option.map Sum.inr (
    some v1)
  else
   some (.inl (W (v1 + 1)))
  else none
 else
  Option.map Sum.inr (
   qa m)
noncomputable def zz (m : Option Nat) (a0 : List G_QKey) (a1 : G_QKey) (v1 : Int) : Option Int := uv m (fun (s : Int) => zk m a0 a1 s) v1
theorem z6s {a0 : List G_QKey} {a1 : G_QKey} {m : Option Nat} {o : Int} (h : qa m = some o) :
 LWp Try.prog Yw 0 z56 (zd4 a0 a1 o) [] [] 0 := by
 unfold qa at h
 refine yq ?_
 refine qw ?_
 refine Ye ?_
 cases h
 exact And.intro trivial (And.intro rfl (Vw.same _ rfl))
theorem z69 {a0 : List G_QKey} {a1 : G_QKey} {v1 : Int} {m : Option Nat} {o : Int ⊕ Int} (h : zk m a0 a1 v1 = some o) :
 LWp Try.prog Yw 0 za8 (kg 0 1 (Vm a0 a1) (z0l a0 a1) (z49 a0 a1) o) [(3, .ptr (0, 0) 0 0), (7, .isl 3 (a0.map z6) false), (8, .int .i64 ((a0.map z6).length : Int)), (9, .int .i64 v1)] [((0, 0), .one [.int .i64 a1.f_Kind, .int .i64 a1.f_A, .int .i64 a1.f_B])] 1 := by
 unfold zk at h
 refine yq ?_
 refine qw ?_
 refine yq ?_
 refine w7 (v := (decide (v1 < ((a0.map z6).length : Int)))) rfl trivial (fun h7 => ?_) (fun h7 => ?_)
 ·have h := qq h7 h
  refine wg ?_
  refine yq ?_
  refine jm ?_
  refine yq ?_
  refine qw ?_
  obtain ⟨h8, h⟩ := yz h
  refine And.intro h8 ?_
  refine Exists.intro (z6 (a0.getD v1.toNat default)) (And.intro (jk z6 _ _ (ku z6 h8)) (And.intro (And.intro (Yj h8) (Nat.le_of_ble_eq_true rfl)) ?_))
  refine yq ?_
  refine qw ?_
  refine LWp.sim (e := [(3, .ptr (0, 0) 0 0), (5, .int .i64 v1), (7, .isl 3 (a0.map z6) false), (8, .int .i64 ((a0.map z6).length : Int)), (9, .int .i64 v1), (16, .bool ((a1.f_Kind == (a0.getD v1.toNat default).f_Kind) && ((a1.f_A == (a0.getD v1.toNat default).f_A) && ((a1.f_B == (a0.getD v1.toNat default).f_B) && true))))]) (L := [((0, 0), .one [.int .i64 a1.f_Kind, .int .i64 a1.f_A, .int .i64 a1.f_B])]) (n := 1) ?_ ?_
  ·exact jy (M := [((0, 0), (0, 0))]) rfl (And.intro (Vw.ptr _ _ _ _ rfl) (And.intro (Vw.same _ rfl) (And.intro (Vw.same _ rfl) (And.intro (Vw.same _ rfl) (And.intro (Vw.same _ rfl) (And.intro (Vw.same _ rfl) trivial)))))) (And.intro (And.intro rfl (BVw.oneL (And.intro (Vw.same _ rfl) (And.intro (Vw.same _ rfl) (And.intro (Vw.same _ rfl) trivial))))) trivial)
  refine w7 (v := ((a1.f_Kind == (a0.getD v1.toNat default).f_Kind) && ((a1.f_A == (a0.getD v1.toNat default).f_A) && ((a1.f_B == (a0.getD v1.toNat default).f_B) && true)))) rfl trivial (fun h9 => ?_) (fun h9 => ?_)
  ·have h := qq h9 h
   refine yq ?_
   refine qw ?_
   refine Ye ?_
   obtain ⟨o, hq, rfl⟩ := Option.map_eq_some_iff.1 h
   replace h := hq; clear hq
   refine And.intro nofun ?_
   cases h
   exact And.intro trivial (And.intro rfl (Vw.same _ rfl))
  ·have h := xm h9 h
   refine wg ?_
   refine qw ?_
   cases h
   exact And.intro rfl (jy (M := [((0, 0), (0, 0))]) rfl (And.intro (Vw.ptr _ _ _ _ rfl) (And.intro (Vw.same _ rfl) (And.intro (Vw.same _ rfl) (And.intro (Vw.same _ rfl) trivial)))) (And.intro (And.intro rfl (BVw.oneL (And.intro (Vw.same _ rfl) (And.intro (Vw.same _ rfl) (And.intro (Vw.same _ rfl) trivial))))) trivial))
 ·have h := xm h7 h
  refine Xw ?_
  obtain ⟨o, hq, rfl⟩ := Option.map_eq_some_iff.1 h
  replace h := hq; clear hq
  refine And.intro nofun ?_
  refine LWp.sim ?_ (z6s h)
  exact jy (M := []) rfl trivial trivial
theorem z9d {a0 : List G_QKey} {a1 : G_QKey} {v1 : Int} {m : Option Nat} {o : Int} (h : zz m a0 a1 v1 = some o) :
 LWp Try.prog Yw 0 (.loop za8) (xn 0 (Xf Try.prog Yw 0 z56 (zd4 a0 a1 o))) [(3, .ptr (0, 0) 0 0), (7, .isl 3 (a0.map z6) false), (8, .int .i64 ((a0.map z6).length : Int)), (9, .int .i64 v1)] [((0, 0), .one [.int .i64 a1.f_Kind, .int .i64 a1.f_A, .int .i64 a1.f_B])] 1 :=
 jf (m := m) (s := (v1 : Int)) (r := o) (fun (s : Int) => zk m a0 a1 s) (Vm a0 a1) (z0l a0 a1) (z49 a0 a1) (fun s o h => z69 h) h
noncomputable def yt (m : Option Nat) (a0 : List G_QKey) (a1 : G_QKey) : Option Int :=
 zz m a0 a1 0
theorem z8s {a0 : List G_QKey} {a1 : G_QKey} {m : Option Nat} {o : Int} (h : yt m a0 a1 = some o) : LWp Try.prog Yw 0 zdw (zd4 a0 a1 o) (qz 0 [.isl 3 (a0.map z6) false, .agg [.int .i64 a1.f_Kind, .int .i64 a1.f_A, .int .i64 a1.f_B]]) [] 0 := by
 unfold yt at h
 refine yq ?_
 refine qw ?_
 refine yq ?_
 refine yq ?_
 refine qw ?_
 refine jm ?_
 refine LWp.sim ?_ (z9d h)
 exact jy (M := [((0, 0), (0, 0))]) rfl (And.intro (Vw.ptr _ _ _ _ rfl) (And.intro (Vw.same _ rfl) (And.intro (Vw.same _ rfl) (And.intro (Vw.same _ rfl) trivial)))) (And.intro (And.intro rfl (BVw.oneL (And.intro (Vw.same _ rfl) (And.intro (Vw.same _ rfl) (And.intro (Vw.same _ rfl) trivial))))) trivial)
theorem zh0 {a0 : List G_QKey} {a1 : G_QKey} {m : Option Nat} {o : Int} (h : yt m a0 a1 = some o) : PFn Try.prog 40 [.isl 3 (a0.map z6) false, .agg [.int .i64 a1.f_Kind, .int .i64 a1.f_A, .int .i64 a1.f_B]] (.int .i64 o) := PFn.ofFnW (L := zhy) zft zfc (Nat.le_of_ble_eq_true rfl) rfl (z8s h)
def zdi : LCode := (.seq (.region [⟨some 3, .box (.t 1), none⟩,
 ⟨some 4, .mv (.c (.bool false)), none⟩])
 (.seq (.region [⟨some 5, .mv (.t 0), none⟩,
  ⟨some 6, .load true 3 (.t 3), none⟩,
  ⟨some 7, .call 40 [(.t 5), (.t 6)], none⟩,
  ⟨some 8, .bin .geq (.t 7) (.c (.int .i64 0)), none⟩,
  ⟨some 4, .mv (.t 8), none⟩])
 .ret))
def zb3 : Lay := ⟨9, [], false⟩
def z9j : List LRes := [.t 4]
def zie : LFn := ⟨2, zb3, zdi, z9j⟩
theorem zef : wy Try.prog [] 23 = some zie := by kernel_rfl
theorem zf0 : Yf Try.prog 23 := ⟨_, Try.func23, rfl, rfl⟩
noncomputable def zm (m : Option Nat) (a0 : List G_QKey) (a1 : G_QKey) : Option Bool :=
 (yt m a0 a1).bind fun v1 =>
 some (decide (v1 ≥ 0))
def zir (a0 : List G_QKey) (a1 : G_QKey) (o : Bool) : Exit → Env → AHeap → Nat → Prop := Wt z9j (jp (.bool o))
theorem z8r {a0 : List G_QKey} {a1 : G_QKey} {m : Option Nat} {o : Bool} (h : zm m a0 a1 = some o) : LWp Try.prog zb3 0 zdi (zir a0 a1 o) (qz 0 [.isl 3 (a0.map z6) false, .agg [.int .i64 a1.f_Kind, .int .i64 a1.f_A, .int .i64 a1.f_B]]) [] 0 := by
 unfold zm at h
 refine yq ?_
 refine qw ?_
 refine yq ?_
 refine qw ?_
 obtain ⟨v1, h1, h⟩ := bind_some h
 refine PFn.call (zh0 h1) (And.intro (Vw.same _ rfl) (And.intro (Vw.same _ rfl) trivial)) ?_
 show J8 _ _ _ [(7, .int .i64 v1), (6, .agg [.int .i64 a1.f_Kind, .int .i64 a1.f_A, .int .i64 a1.f_B]), (5, .isl 3 (a0.map z6) false), (4, .bool false), (3, .ptr (0, 0) 0 0), (0, .isl 3 (a0.map z6) false), (1, .agg [.int .i64 a1.f_Kind, .int .i64 a1.f_A, .int .i64 a1.f_B])] _ _
 refine Ye ?_
 cases h
 exact And.intro trivial (And.intro rfl (Vw.same _ rfl))
theorem zdr {a0 : List G_QKey} {a1 : G_QKey} {m : Option Nat} {o : Bool} (h : zm m a0 a1 = some o) : PFn Try.prog 23 [.isl 3 (a0.map z6) false, .agg [.int .i64 a1.f_Kind, .int .i64 a1.f_A, .int .i64 a1.f_B]] (.bool o) := PFn.ofFnW (L := zie) zef zf0 (Nat.le_of_ble_eq_true rfl) rfl (z8r h)
def zdq : LCode := (.seq (.region [⟨some 2, .box (.t 0), none⟩,
 ⟨some 3, .box (.t 1), none⟩,
 ⟨some 4, .mv (.c (.bool false)), none⟩])
 (.seq (.seq (.region [⟨some 5, .faddr 0 (.t 2), none⟩,
  ⟨some 6, .load false 1 (.t 5), none⟩,
  ⟨some 7, .faddr 0 (.t 3), none⟩,
  ⟨some 8, .load false 1 (.t 7), none⟩,
  ⟨some 9, .bin .neq (.t 6) (.t 8), none⟩])
 (.cond (.t 9)
  (.seq (.region [⟨some 10, .faddr 0 (.t 2), none⟩,
   ⟨some 11, .load false 1 (.t 10), none⟩,
   ⟨some 12, .faddr 0 (.t 3), none⟩,
   ⟨some 13, .load false 1 (.t 12), none⟩,
   ⟨some 14, .bin .lss (.t 11) (.t 13), none⟩,
   ⟨some 4, .mv (.t 14), none⟩])
  .ret)
  .skip))
 (.seq (.seq (.region [⟨some 15, .faddr 1 (.t 2), none⟩,
  ⟨some 16, .load false 1 (.t 15), none⟩,
  ⟨some 17, .faddr 1 (.t 3), none⟩,
  ⟨some 18, .load false 1 (.t 17), none⟩,
  ⟨some 19, .bin .neq (.t 16) (.t 18), none⟩])
 (.cond (.t 19)
  (.seq (.region [⟨some 20, .faddr 1 (.t 2), none⟩,
   ⟨some 21, .load false 1 (.t 20), none⟩,
   ⟨some 22, .faddr 1 (.t 3), none⟩,
   ⟨some 23, .load false 1 (.t 22), none⟩,
   ⟨some 24, .bin .lss (.t 21) (.t 23), none⟩,
   ⟨some 4, .mv (.t 24), none⟩])
  .ret)
  .skip))
 (.seq (.region [⟨some 25, .faddr 2 (.t 2), none⟩,
  ⟨some 26, .load false 1 (.t 25), none⟩,
  ⟨some 27, .faddr 2 (.t 3), none⟩,
  ⟨some 28, .load false 1 (.t 27), none⟩,
  ⟨some 29, .bin .lss (.t 26) (.t 28), none⟩,
  ⟨some 4, .mv (.t 29), none⟩])
 .ret))))
def z9e : Lay := ⟨30, [], false⟩
def zap : List LRes := [.t 4]
def zgn : LFn := ⟨2, z9e, zdq, zap⟩
theorem zey : wy Try.prog [] 41 = some zgn := by kernel_rfl
theorem zel : Yf Try.prog 41 := ⟨_, Try.func41, rfl, rfl⟩
noncomputable def qh (m : Option Nat) (a0 : G_QKey) (a1 : G_QKey) : Option Bool :=
 if (a0.f_Kind != a1.f_Kind) = true then
  some (decide (a0.f_Kind < a1.f_Kind))
 else
  if (a0.f_A != a1.f_A) = true then
   some (decide (a0.f_A < a1.f_A))
  else
   some (decide (a0.f_B < a1.f_B))
def zjf (a0 : G_QKey) (a1 : G_QKey) (o : Bool) : Exit → Env → AHeap → Nat → Prop := Wt zap (jp (.bool o))
theorem z7x {a0 : G_QKey} {a1 : G_QKey} {m : Option Nat} {o : Bool} (h : qh m a0 a1 = some o) : LWp Try.prog z9e 0 zdq (zjf a0 a1 o) (qz 0 [.agg [.int .i64 a0.f_Kind, .int .i64 a0.f_A, .int .i64 a0.f_B], .agg [.int .i64 a1.f_Kind, .int .i64 a1.f_A, .int .i64 a1.f_B]]) [] 0 := by
 unfold qh at h
 refine yq ?_
 refine qw ?_
 refine yq ?_
 refine yq ?_
 refine qw ?_
 refine LWp.sim (e := [(2, .ptr (0, 0) 0 0), (3, .ptr (1, 0) 0 0), (9, .bool (a0.f_Kind != a1.f_Kind))]) (L := [((0, 0), .one [.int .i64 a0.f_Kind, .int .i64 a0.f_A, .int .i64 a0.f_B]), ((1, 0), .one [.int .i64 a1.f_Kind, .int .i64 a1.f_A, .int .i64 a1.f_B])]) (n := 2) ?_ ?_
 ·exact jy (M := [((0, 0), (0, 0)), ((1, 0), (1, 0))]) rfl (And.intro (Vw.ptr _ _ _ _ rfl) (And.intro (Vw.ptr _ _ _ _ rfl) (And.intro (Vw.same _ rfl) trivial))) (And.intro (And.intro rfl (BVw.oneL (And.intro (Vw.same _ rfl) (And.intro (Vw.same _ rfl) (And.intro (Vw.same _ rfl) trivial))))) (And.intro (And.intro rfl (BVw.oneL (And.intro (Vw.same _ rfl) (And.intro (Vw.same _ rfl) (And.intro (Vw.same _ rfl) trivial))))) trivial))
 refine w7 (v := (a0.f_Kind != a1.f_Kind)) rfl trivial (fun h1 => ?_) (fun h1 => ?_)
 ·have h := qq h1 h
  refine yq ?_
  refine qw ?_
  refine Ye ?_
  cases h
  exact And.intro trivial (And.intro rfl (Vw.same _ rfl))
 ·have h := xm h1 h
  refine wg ?_
  refine yq ?_
  refine yq ?_
  refine qw ?_
  refine w7 (v := (a0.f_A != a1.f_A)) rfl trivial (fun h2 => ?_) (fun h2 => ?_)
  ·have h := qq h2 h
   refine yq ?_
   refine qw ?_
   refine LWp.sim (e := [(4, .bool (decide (a0.f_A < a1.f_A)))]) (L := []) (n := 0) ?_ ?_
   ·exact jy (M := []) rfl (And.intro (Vw.same _ rfl) trivial) trivial
   refine Ye ?_
   cases h
   exact And.intro trivial (And.intro rfl (Vw.same _ rfl))
  ·have h := xm h2 h
   refine wg ?_
   refine yq ?_
   refine qw ?_
   refine LWp.sim (e := [(4, .bool (decide (a0.f_B < a1.f_B)))]) (L := []) (n := 0) ?_ ?_
   ·exact jy (M := []) rfl (And.intro (Vw.same _ rfl) trivial) trivial
   refine Ye ?_
   cases h
   exact And.intro trivial (And.intro rfl (Vw.same _ rfl))
theorem zhk {a0 : G_QKey} {a1 : G_QKey} {m : Option Nat} {o : Bool} (h : qh m a0 a1 = some o) : PFn Try.prog 41 [.agg [.int .i64 a0.f_Kind, .int .i64 a0.f_A, .int .i64 a0.f_B], .agg [.int .i64 a1.f_Kind, .int .i64 a1.f_A, .int .i64 a1.f_B]] (.bool o) := PFn.ofFnW (L := zgn) zey zel (Nat.le_of_ble_eq_true rfl) rfl (z7x h)
end Go.Proofs.Ytejfgjggcoemeaa
