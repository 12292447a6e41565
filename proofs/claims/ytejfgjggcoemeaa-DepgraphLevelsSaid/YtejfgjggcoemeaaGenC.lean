/-
  Own text GenC of this claim: what functions of the given program compute, in plain Lean, and the proof; no condition.
-/
import Derived.Test.YtejfgjggcoemeaaGenB
namespace Go.Proofs.Ytejfgjggcoemeaa
open Go.Fx
set_option linter.unusedVariables false
def zmu : LCode := (.seq (.region [⟨some 45, .bin .lss (.t 44) (.t 43), none⟩])
 (.seq (.cond (.t 45)
  .skip
  (.exit 0))
 (.seq (.block 1
  (.seq (.region [⟨some 46, .mv (.t 44), none⟩,
   ⟨some 6, .mv (.t 46), none⟩])
  (.seq (.draw [⟨⟨some 47, .mv (.t 3), none⟩, []⟩,
   ⟨⟨some 48, .mv (.t 6), none⟩, []⟩,
   ⟨⟨some 49, .iaddr 1 (.t 47) (.t 48), none⟩, []⟩,
   ⟨⟨some 50, .load false 1 (.t 49), none⟩, []⟩,
   ⟨⟨some 51, .mv (.t 5), none⟩, []⟩,
   ⟨⟨some 52, .mv (.t 6), none⟩, []⟩,
   ⟨⟨some 53, .iaddr 1 (.t 51) (.t 52), none⟩, []⟩,
   ⟨⟨some 54, .load false 1 (.t 53), none⟩, []⟩,
   ⟨⟨some 55, .call 8 [(.t 50), (.t 54)], none⟩, []⟩,
   ⟨⟨some 56, .un .not (.t 55), none⟩, []⟩])
  (.cond (.t 56)
   (.seq (.region [⟨some 2, .mv (.c (.bool false)), none⟩])
   .ret)
   .skip))))
 (.region [⟨some 57, .bin .add (.t 44) (.c (.int .i64 1)), none⟩,
  ⟨some 44, .mv (.t 57), none⟩]))))
def zij : LCode := (.seq (.region [⟨some 58, .call 7 [], none⟩,
 ⟨some 2, .mv (.t 58), none⟩])
 .ret)
def zne : LCode := (.seq (.region [⟨some 2, .mv (.c (.bool false)), none⟩])
 (.seq (.seq (.region [⟨some 7, .call 7 [], none⟩,
  ⟨some 8, .un .not (.t 7), none⟩])
 (.cond (.t 8)
  (.seq (.region [⟨some 2, .mv (.c (.bool false)), none⟩])
  .ret)
  .skip))
 (.seq (.region [⟨some 9, .mv (.t 0), none⟩,
  ⟨some 10, .mv (.t 0), none⟩,
  ⟨some 11, .len false (.t 10), none⟩,
  ⟨some 12, .mnx false [(.t 11), (.c (.int .i64 14))], none⟩,
  ⟨some 13, .slSl 6 (.t 9) none (some (.t 12)) none, none⟩,
  ⟨some 0, .mv (.t 13), none⟩])
 (.seq (.region [⟨some 15, .mv (.t 0), none⟩,
  ⟨some 16, .call 16 [(.t 15)], none⟩,
  ⟨some 14, .mv (.t 16), none⟩,
  ⟨some 17, .ext 0 (.t 14), none⟩,
  ⟨some 18, .ext 1 (.t 14), none⟩,
  ⟨some 3, .mv (.t 17), none⟩,
  ⟨some 4, .mv (.t 18), none⟩])
 (.seq (.seq (.region [⟨some 19, .mv (.t 0), none⟩,
  ⟨some 20, .call 14 [(.t 19)], none⟩])
 (.cond (.t 20)
  (.seq (.region [⟨some 21, .call 7 [], none⟩,
   ⟨some 22, .mv (.t 21), none⟩,
   ⟨some 23, .mv (.t 4), some (22, true)⟩,
   ⟨some 24, .bin .eql (.t 23) (.c (.int .i64 8)), some (22, true)⟩,
   ⟨some 25, .pick (.t 22) (.t 24) (.c (.bool false)), none⟩,
   ⟨some 26, .mv (.t 25), none⟩,
   ⟨some 27, .mv (.t 3), some (26, true)⟩,
   ⟨some 28, .len false (.t 27), some (26, true)⟩,
   ⟨some 29, .bin .eql (.t 28) (.c (.int .i64 0)), some (26, true)⟩,
   ⟨some 30, .pick (.t 26) (.t 29) (.c (.bool false)), none⟩,
   ⟨some 2, .mv (.t 30), none⟩])
  .ret)
  .skip))
 (.seq (.region [⟨some 31, .mv (.t 0), none⟩,
  ⟨some 32, .call 17 [(.t 31)], none⟩,
  ⟨some 5, .mv (.t 32), none⟩])
 (.seq (.seq (.region [⟨some 33, .mv (.t 4), none⟩,
  ⟨some 34, .bin .neq (.t 33) (.c (.int .i64 0)), none⟩,
  ⟨some 35, .mv (.t 34), none⟩,
  ⟨some 36, .mv (.t 3), some (35, false)⟩,
  ⟨some 37, .len false (.t 36), some (35, false)⟩,
  ⟨some 38, .mv (.t 5), some (35, false)⟩,
  ⟨some 39, .len false (.t 38), some (35, false)⟩,
  ⟨some 40, .bin .neq (.t 37) (.t 39), some (35, false)⟩,
  ⟨some 41, .pick (.t 35) (.c (.bool true)) (.t 40), none⟩])
 (.cond (.t 41)
  (.seq (.region [⟨some 2, .mv (.c (.bool false)), none⟩])
  .ret)
  .skip))
 (.seq (.seq (.region [⟨some 42, .mv (.t 5), none⟩,
  ⟨some 43, .len false (.t 42), none⟩,
  ⟨some 44, .mv (.c (.int .i64 0)), none⟩])
 (.block 0
  (.loop
   zmu)))
 zij))))))))
def Kc : Lay := ⟨59, [], false⟩
def zk7 : List LRes := [.t 2]
def zqm : LFn := ⟨1, Kc, zne, zk7⟩
theorem zny : k9 Try.prog [] 5 = some zqm := by kernel_rfl
theorem zo2 : Y8 Try.prog 5 := ⟨_, Try.func5, rfl, rfl⟩
def zpj (a0 : List G_QEdge) (o : Bool) : Exit → Env → AHeap → Nat → Prop := Xg zk7 (wu (.bool o))
def z3a (v2 : (List (List G_QKey)) × Int) (v5 : (List (List G_QKey))) (s : Int) : Env := [(3, .isl 1 (v2.1.map za) false), (5, .isl 1 (v5.map za) false), (43, .int .i64 ((v5.map za).length : Int)), (44, .int .i64 s)]
def z7o (v2 : (List (List G_QKey)) × Int) (v5 : (List (List G_QKey))) (s : Int) : AHeap := []
def zde (a0 : List G_QEdge) (o : Bool) : Exit → Env → AHeap → Nat → Prop := (yv 0 (uv Try.prog Kc 0 zij (zpj a0 o)))
noncomputable def x4 (m : Option Nat) : Option Bool :=
 (y1 m).bind fun v10 =>
 some v10
noncomputable def ye (m : Option Nat) (v2 : (List (List G_QKey)) × Int) (v5 : (List (List G_QKey))) (v7 : Int) : Option (Int ⊕ Bool) :=
 if (decide (v7 < ((v5.map za).length : Int))) = true then
  if (0 : Int) ≤ v7 ∧ v7 < ((v2.1.map za).length : Int) then
  if (0 : Int) ≤ v7 ∧ v7 < ((v5.map za).length : Int) then
  (zp m (v2.1.getD v7.toNat default) (v5.getD v7.toNat default)).bind fun v9 =>
  if (!v9) = true then
   Option.map Sum.inr (
    some false)
  else
   some (.inl (W (v7 + 1)))
  else none
  else none
 else
  Option.map Sum.inr (
   x4 m)
noncomputable def yz (m : Option Nat) (v2 : (List (List G_QKey)) × Int) (v5 : (List (List G_QKey))) (v7 : Int) : Option Bool := u5 m (fun (s : Int) => ye m v2 v5 s) v7
theorem zj8 {a0 : List G_QEdge} {m : Option Nat} {o : Bool} (h : x4 m = some o) :
 LWp Try.prog Kc 0 zij (zpj a0 o) [] [] 0 := by
 unfold x4 at h
 refine zl ?_
 refine y8 ?_
 obtain ⟨v10, h25, h⟩ := bind_some h
 refine PFn.call (zkv h25) trivial ?_
 refine Ze ?_
 cases h
 exact And.intro trivial (And.intro rfl (Vw.same _ rfl))
theorem ze1 {a0 : List G_QEdge} {v2 : (List (List G_QKey)) × Int} {v5 : (List (List G_QKey))} {v7 : Int} {m : Option Nat} {o : Int ⊕ Bool} (h : ye m v2 v5 v7 = some o) :
 LWp Try.prog Kc 0 zmu (wj 0 0 (z3a v2 v5) (z7o v2 v5) (zde a0) o) [(3, .isl 1 (v2.1.map za) false), (5, .isl 1 (v5.map za) false), (43, .int .i64 ((v5.map za).length : Int)), (44, .int .i64 v7)] [] 0 := by
 unfold ye at h
 refine zl ?_
 refine y8 ?_
 refine zl ?_
 refine w5 (v := (decide (v7 < ((v5.map za).length : Int)))) rfl trivial (fun h20 => ?_) (fun h20 => ?_)
 ·have h := q7 h20 h
  refine w7 ?_
  refine zl ?_
  refine j8 ?_
  refine zl ?_
  refine y8 ?_
  refine zl ?_
  refine z32 rfl ?_
  obtain ⟨h21, h⟩ := y4 h
  refine And.intro h21 ?_
  show Q5 _ _ _ [(49, .iptr 1 (v2.1.map za) v7.toNat 0), (48, .int .i64 v7), (47, .isl 1 (v2.1.map za) false), (6, .int .i64 v7), (46, .int .i64 v7), (45, .bool (decide (v7 < ((v5.map za).length : Int)))), (3, .isl 1 (v2.1.map za) false), (5, .isl 1 (v5.map za) false), (43, .int .i64 ((v5.map za).length : Int)), (44, .int .i64 v7)] _ _
  refine Exists.intro (za (v2.1.getD v7.toNat default)) (And.intro (jm za _ _ (wx za h21)) (And.intro (And.intro (kw h21) (Nat.le_of_ble_eq_true rfl)) ?_))
  obtain ⟨h22, h⟩ := y4 h
  refine And.intro h22 ?_
  refine Exists.intro (za (v5.getD v7.toNat default)) (And.intro (jm za _ _ (wx za h22)) (And.intro (And.intro (kw h22) (Nat.le_of_ble_eq_true rfl)) ?_))
  obtain ⟨v9, h23, h⟩ := bind_some h
  refine PFn.call (zmq h23) (And.intro (Vw.same _ rfl) (And.intro (Vw.same _ rfl) trivial)) ?_
  show Q5 _ _ _ [(55, .bool v9), (54, .isl 3 ((v5.getD v7.toNat default).map z6) false), (53, .iptr 1 (v5.map za) v7.toNat 0), (52, .int .i64 v7), (51, .isl 1 (v5.map za) false), (50, .isl 3 ((v2.1.getD v7.toNat default).map z6) false), (49, .iptr 1 (v2.1.map za) v7.toNat 0), (48, .int .i64 v7), (47, .isl 1 (v2.1.map za) false), (6, .int .i64 v7), (46, .int .i64 v7), (45, .bool (decide (v7 < ((v5.map za).length : Int)))), (3, .isl 1 (v2.1.map za) false), (5, .isl 1 (v5.map za) false), (43, .int .i64 ((v5.map za).length : Int)), (44, .int .i64 v7)] _ _
  refine LWp.sim (e := [(3, .isl 1 (v2.1.map za) false), (5, .isl 1 (v5.map za) false), (43, .int .i64 ((v5.map za).length : Int)), (44, .int .i64 v7), (56, .bool (!v9))]) (L := []) (n := 0) ?_ ?_
  ·exact jh (M := []) rfl (And.intro (Vw.same _ rfl) (And.intro (Vw.same _ rfl) (And.intro (Vw.same _ rfl) (And.intro (Vw.same _ rfl) (And.intro (Vw.same _ rfl) trivial))))) trivial
  refine w5 (v := (!v9)) rfl trivial (fun h24 => ?_) (fun h24 => ?_)
  ·have h := q7 h24 h
   refine zl ?_
   refine y8 ?_
   refine Ze ?_
   obtain ⟨o, hq, rfl⟩ := Option.map_eq_some_iff.1 h
   replace h := hq; clear hq
   refine And.intro nofun ?_
   cases h
   exact And.intro trivial (And.intro rfl (Vw.same _ rfl))
  ·have h := qq h24 h
   refine w7 ?_
   refine y8 ?_
   cases h
   exact And.intro rfl (jh (M := []) rfl (And.intro (Vw.same _ rfl) (And.intro (Vw.same _ rfl) (And.intro (Vw.same _ rfl) (And.intro (Vw.same _ rfl) trivial)))) trivial)
 ·have h := qq h20 h
  refine Zp ?_
  obtain ⟨o, hq, rfl⟩ := Option.map_eq_some_iff.1 h
  replace h := hq; clear hq
  refine And.intro nofun ?_
  refine LWp.sim ?_ (zj8 h)
  exact jh (M := []) rfl trivial trivial
theorem zh7 {a0 : List G_QEdge} {v2 : (List (List G_QKey)) × Int} {v5 : (List (List G_QKey))} {v7 : Int} {m : Option Nat} {o : Bool} (h : yz m v2 v5 v7 = some o) :
 LWp Try.prog Kc 0 (.loop zmu) (yv 0 (uv Try.prog Kc 0 zij (zpj a0 o))) [(3, .isl 1 (v2.1.map za) false), (5, .isl 1 (v5.map za) false), (43, .int .i64 ((v5.map za).length : Int)), (44, .int .i64 v7)] [] 0 :=
 j0 (m := m) (s := (v7 : Int)) (r := o) (fun (s : Int) => ye m v2 v5 s) (z3a v2 v5) (z7o v2 v5) (zde a0) (fun s o h => ze1 h) h
noncomputable def yr (m : Option Nat) (a0 : List G_QEdge) : Option Bool :=
 (y1 m).bind fun v1 =>
 if (!v1) = true then
  some false
 else
  if (0 : Int) ≤ (if 14 < ((a0.map z7).length : Int) then 14 else ((a0.map z7).length : Int)) ∧ (if 14 < ((a0.map z7).length : Int) then 14 else ((a0.map z7).length : Int)) ≤ ((a0.map z7).length : Int) then
  (wb m (a0.take (if 14 < ((a0.map z7).length : Int) then 14 else ((a0.map z7).length : Int)).toNat)).bind fun v2 =>
  (xv m (a0.take (if 14 < ((a0.map z7).length : Int) then 14 else ((a0.map z7).length : Int)).toNat)).bind fun v3 =>
  if v3 = true then
   (y1 m).bind fun v4 =>
   some ((v4 && (v2.2 == 8)) && (((v2.1.map za).length : Int) == 0))
  else
   (xt m (a0.take (if 14 < ((a0.map z7).length : Int) then 14 else ((a0.map z7).length : Int)).toNat)).bind fun v5 =>
   if ((v2.2 != 0) || (((v2.1.map za).length : Int) != ((v5.map za).length : Int))) = true then
    some false
   else
    yz m v2 v5 0
  else none
theorem zhn {a0 : List G_QEdge} {m : Option Nat} {o : Bool} (h : yr m a0 = some o) : LWp Try.prog Kc 0 zne (zpj a0 o) (qx 0 [.isl 6 (a0.map z7) false]) [] 0 := by
 unfold yr at h
 refine zl ?_
 refine y8 ?_
 refine zl ?_
 refine zl ?_
 refine y8 ?_
 obtain ⟨v1, h1, h⟩ := bind_some h
 refine PFn.call (zkv h1) trivial ?_
 refine w5 (v := (!v1)) rfl trivial (fun h2 => ?_) (fun h2 => ?_)
 ·have h := q7 h2 h
  refine zl ?_
  refine y8 ?_
  refine Ze ?_
  cases h
  exact And.intro trivial (And.intro rfl (Vw.same _ rfl))
 ·have h := qq h2 h
  refine w7 ?_
  refine zl ?_
  refine y8 ?_
  obtain ⟨h3, h⟩ := y4 h
  refine Exists.intro (.isl 6 ((a0.take (if 14 < ((a0.map z7).length : Int) then 14 else ((a0.map z7).length : Int)).toNat).map z7) false) (And.intro (zm7 z7 (slB z7 a0 _) rfl) (And.intro (And.intro rfl (And.intro (Int.le_refl _) h3)) ?_))
  refine LWp.sim (e := [(0, .isl 6 ((a0.take (if 14 < ((a0.map z7).length : Int) then 14 else ((a0.map z7).length : Int)).toNat).map z7) false)]) (L := []) (n := 0) ?_ ?_
  ·exact jh (M := []) rfl (And.intro (Vw.same _ rfl) trivial) trivial
  refine zl ?_
  refine y8 ?_
  obtain ⟨v2, h4, h⟩ := bind_some h
  refine PFn.call (zo0 h4) (And.intro (Vw.same _ rfl) trivial) ?_
  refine zl ?_
  refine zl ?_
  refine y8 ?_
  obtain ⟨v3, h5, h⟩ := bind_some h
  refine PFn.call (zp2 h5) (And.intro (Vw.same _ rfl) trivial) ?_
  show Q5 _ _ _ [(20, .bool v3), (19, .isl 6 ((a0.take (if 14 < ((a0.map z7).length : Int) then 14 else ((a0.map z7).length : Int)).toNat).map z7) false), (4, .int .i64 v2.2), (3, .isl 1 (v2.1.map za) false), (18, .int .i64 v2.2), (17, .isl 1 (v2.1.map za) false), (14, .tup [.isl 1 (v2.1.map za) false, .int .i64 v2.2]), (16, .tup [.isl 1 (v2.1.map za) false, .int .i64 v2.2]), (15, .isl 6 ((a0.take (if 14 < ((a0.map z7).length : Int) then 14 else ((a0.map z7).length : Int)).toNat).map z7) false), (0, .isl 6 ((a0.take (if 14 < ((a0.map z7).length : Int) then 14 else ((a0.map z7).length : Int)).toNat).map z7) false)] _ _
  refine LWp.sim (e := [(0, .isl 6 ((a0.take (if 14 < ((a0.map z7).length : Int) then 14 else ((a0.map z7).length : Int)).toNat).map z7) false), (3, .isl 1 (v2.1.map za) false), (4, .int .i64 v2.2), (20, .bool v3)]) (L := []) (n := 0) ?_ ?_
  ·exact jh (M := []) rfl (And.intro (Vw.same _ rfl) (And.intro (Vw.same _ rfl) (And.intro (Vw.same _ rfl) (And.intro (Vw.same _ rfl) trivial)))) trivial
  refine w5 (v := v3) rfl trivial (fun h6 => ?_) (fun h6 => ?_)
  ·have h := q7 h6 h
   refine zl ?_
   refine y8 ?_
   obtain ⟨v4, h7, h⟩ := bind_some h
   refine PFn.call (zkv h7) trivial ?_
   refine And.intro (fun hp => hp) ?_
   refine And.intro (fun hc => (bqt hc)) ?_
   show Q5 _ _ _ [(25, .bool (v4 && (v2.2 == 8))), (24, .cnd (v4 == true) (.bool (v2.2 == 8))), (23, .cnd (v4 == true) (.int .i64 v2.2)), (22, .bool v4), (21, .bool v4), (0, .isl 6 ((a0.take (if 14 < ((a0.map z7).length : Int) then 14 else ((a0.map z7).length : Int)).toNat).map z7) false), (3, .isl 1 (v2.1.map za) false), (4, .int .i64 v2.2), (20, .bool v3)] _ _
   refine And.intro (fun hp => hp) ?_
   refine And.intro (fun hp => hp) ?_
   refine And.intro (fun hc => (bqt hc)) ?_
   show Q5 _ _ _ [(30, .bool ((v4 && (v2.2 == 8)) && (((v2.1.map za).length : Int) == 0))), (29, .cnd ((v4 && (v2.2 == 8)) == true) (.bool (((v2.1.map za).length : Int) == 0))), (28, .cnd ((v4 && (v2.2 == 8)) == true) (.int .i64 ((v2.1.map za).length : Int))), (27, .cnd ((v4 && (v2.2 == 8)) == true) (.isl 1 (v2.1.map za) false)), (26, .bool (v4 && (v2.2 == 8))), (25, .bool (v4 && (v2.2 == 8))), (24, .cnd (v4 == true) (.bool (v2.2 == 8))), (23, .cnd (v4 == true) (.int .i64 v2.2)), (22, .bool v4), (21, .bool v4), (0, .isl 6 ((a0.take (if 14 < ((a0.map z7).length : Int) then 14 else ((a0.map z7).length : Int)).toNat).map z7) false), (3, .isl 1 (v2.1.map za) false), (4, .int .i64 v2.2), (20, .bool v3)] _ _
   refine LWp.sim (e := [(2, .bool ((v4 && (v2.2 == 8)) && (((v2.1.map za).length : Int) == 0)))]) (L := []) (n := 0) ?_ ?_
   ·exact jh (M := []) rfl (And.intro (Vw.same _ rfl) trivial) trivial
   refine Ze ?_
   cases h
   exact And.intro trivial (And.intro rfl (Vw.same _ rfl))
  ·have h := qq h6 h
   refine w7 ?_
   refine zl ?_
   refine y8 ?_
   obtain ⟨v5, h8, h⟩ := bind_some h
   refine PFn.call (zoo h8) (And.intro (Vw.same _ rfl) trivial) ?_
   refine zl ?_
   refine zl ?_
   refine y8 ?_
   refine And.intro (fun hp => hp) ?_
   show Q5 _ _ _ [(37, .cnd ((v2.2 != 0) == false) (.int .i64 ((v2.1.map za).length : Int))), (36, .cnd ((v2.2 != 0) == false) (.isl 1 (v2.1.map za) false)), (35, .bool (v2.2 != 0)), (34, .bool (v2.2 != 0)), (33, .int .i64 v2.2), (5, .isl 1 (v5.map za) false), (32, .isl 1 (v5.map za) false), (31, .isl 6 ((a0.take (if 14 < ((a0.map z7).length : Int) then 14 else ((a0.map z7).length : Int)).toNat).map z7) false), (0, .isl 6 ((a0.take (if 14 < ((a0.map z7).length : Int) then 14 else ((a0.map z7).length : Int)).toNat).map z7) false), (3, .isl 1 (v2.1.map za) false), (4, .int .i64 v2.2), (20, .bool v3)] _ _
   refine And.intro (fun hp => hp) ?_
   refine And.intro (fun hp => (And.intro hp hp)) ?_
   refine And.intro (fun hc => (bqf hc)) ?_
   refine LWp.sim (e := [(3, .isl 1 (v2.1.map za) false), (5, .isl 1 (v5.map za) false), (41, .bool ((v2.2 != 0) || (((v2.1.map za).length : Int) != ((v5.map za).length : Int))))]) (L := []) (n := 0) ?_ ?_
   ·exact jh (M := []) rfl (And.intro (Vw.same _ rfl) (And.intro (Vw.same _ rfl) (And.intro (Vw.same _ rfl) trivial))) trivial
   refine w5 (v := ((v2.2 != 0) || (((v2.1.map za).length : Int) != ((v5.map za).length : Int)))) rfl trivial (fun h9 => ?_) (fun h9 => ?_)
   ·have h := q7 h9 h
    refine zl ?_
    refine y8 ?_
    refine Ze ?_
    cases h
    exact And.intro trivial (And.intro rfl (Vw.same _ rfl))
   ·have h := qq h9 h
    refine w7 ?_
    refine zl ?_
    refine zl ?_
    refine y8 ?_
    refine j8 ?_
    refine LWp.sim ?_ (zh7 h)
    exact jh (M := []) rfl (And.intro (Vw.same _ rfl) (And.intro (Vw.same _ rfl) (And.intro (Vw.same _ rfl) (And.intro (Vw.same _ rfl) trivial)))) trivial
theorem zps {a0 : List G_QEdge} {m : Option Nat} {o : Bool} (h : yr m a0 = some o) : PFn Try.prog 5 [.isl 6 (a0.map z7) false] (.bool o) := PFn.ofFnW (L := zqm) zny zo2 (Nat.le_of_ble_eq_true rfl) rfl (zhn h)
end Go.Proofs.Ytejfgjggcoemeaa
