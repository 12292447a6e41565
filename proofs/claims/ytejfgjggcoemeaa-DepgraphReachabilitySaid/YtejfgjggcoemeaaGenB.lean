/-
  Own text GenB of this claim: what functions of the given program compute, in plain Lean, and the proof; no condition.
-/
import Derived.Test.YtejfgjggcoemeaaGenA
namespace Go.Proofs.Ytejfgjggcoemeaa
open Go.Fx
set_option linter.unusedVariables false
def zb2 : LCode := (.seq (.seq (.draw [⟨⟨some 13, .mv (.t 6), none⟩, []⟩,
 ⟨⟨some 14, .mv (.t 3), none⟩, []⟩,
 ⟨⟨some 15, .len false (.t 14), none⟩, []⟩,
 ⟨⟨some 16, .bin .lss (.t 13) (.t 15), none⟩, []⟩,
 ⟨⟨some 17, .mv (.t 16), none⟩, []⟩,
 ⟨⟨some 18, .mv (.t 3), some (17, true)⟩, []⟩,
 ⟨⟨some 19, .mv (.t 6), some (17, true)⟩, []⟩,
 ⟨⟨some 20, .iaddr 3 (.t 18) (.t 19), some (17, true)⟩, []⟩,
 ⟨⟨some 21, .load true 3 (.t 20), some (17, true)⟩, []⟩,
 ⟨⟨some 22, .load true 3 (.t 5), some (17, true)⟩, []⟩,
 ⟨⟨some 23, .call 41 [(.t 21), (.t 22)], some (17, true)⟩, []⟩,
 ⟨⟨some 24, .pick (.t 17) (.t 23) (.c (.bool false)), none⟩, []⟩])
 (.cond (.t 24)
  .skip
  (.exit 2)))
 (.block 3
  (.region [⟨some 25, .mv (.t 6), none⟩,
   ⟨some 26, .bin .add (.t 25) (.c (.int .i64 1)), none⟩,
   ⟨some 6, .mv (.t 26), none⟩])))
def z4p : LCode := (.seq (.quiet [⟨some 27, .mv (.t 6), none⟩,
 ⟨some 28, .mv (.t 3), none⟩,
 ⟨some 29, .len false (.t 28), none⟩,
 ⟨some 30, .bin .eql (.t 27) (.t 29), none⟩,
 ⟨some 31, .mv (.t 30), none⟩,
 ⟨some 32, .mv (.t 3), some (31, false)⟩,
 ⟨some 33, .mv (.t 6), some (31, false)⟩,
 ⟨some 34, .iaddr 3 (.t 32) (.t 33), some (31, false)⟩,
 ⟨some 35, .load true 3 (.t 34), some (31, false)⟩,
 ⟨some 36, .load true 3 (.t 5), some (31, false)⟩,
 ⟨some 37, .eq true (.agg [.int, .int, .int]) (.t 35) (.t 36), some (31, false)⟩,
 ⟨some 38, .pick (.t 31) (.c (.bool true)) (.t 37), none⟩])
 (.cond (.t 38)
  (.draw [⟨⟨some 39, .mv (.t 3), none⟩, []⟩,
   ⟨⟨some 40, .mv (.t 6), none⟩, []⟩,
   ⟨⟨some 41, .mv (.t 6), none⟩, []⟩,
   ⟨⟨some 42, .slSl 3 (.t 39) none (some (.t 40)) (some (.t 41)), none⟩, []⟩,
   ⟨⟨some 43, .load true 3 (.t 5), none⟩, []⟩,
   ⟨⟨some 45, .mv (.t 3), none⟩, []⟩,
   ⟨⟨some 46, .mv (.t 6), none⟩, []⟩,
   ⟨⟨some 47, .slSl 3 (.t 45) (some (.t 46)) none none, none⟩, []⟩,
   ⟨⟨some 44, .mkSl true 3 [(.int .i64 0), (.int .i64 0), (.int .i64 0)] 1 [(0, (.t 43))], none⟩, []⟩,
   ⟨⟨some 48, .app true 3 24 (.t 44) (.t 47), none⟩, []⟩,
   ⟨⟨some 49, .app true 3 24 (.t 42) (.t 48), none⟩, []⟩,
   ⟨⟨some 3, .mv (.t 49), none⟩, []⟩])
  .skip))
def z0k : LCode := (.region [⟨some 50, .bin .add (.t 9) (.c (.int .i64 1)), none⟩,
 ⟨some 9, .mv (.t 50), none⟩])
def z87 : LCode := (.seq (.region [⟨some 10, .bin .lss (.t 9) (.t 8), none⟩])
 (.seq (.cond (.t 10)
  .skip
  (.exit 0))
 (.seq (.block 1
  (.seq (.region [⟨some 11, .iaddr 3 (.t 7) (.t 9), none⟩,
   ⟨some 12, .load true 3 (.t 11), none⟩,
   ⟨some 5, .alloc [(.int .i64 0), (.int .i64 0), (.int .i64 0)], none⟩,
   ⟨none, .store 3 (.t 5) (.t 12), none⟩])
  (.seq (.region [⟨some 6, .mv (.c (.int .i64 0)), none⟩])
  (.seq (.block 2
   (.loop
    zb2))
  z4p))))
 z0k)))
def z4e : LCode := (.seq (.region [⟨some 51, .mv (.t 3), none⟩,
 ⟨some 2, .mv (.t 51), none⟩])
 .ret)
def zdt : LCode := (.seq (.region [⟨some 2, .mv (.c (.val (.slice none 0 0))), none⟩])
 (.seq (.region [⟨some 3, .mv (.c (.val (.slice none 0 0))), none⟩])
 (.seq (.seq (.region [⟨some 7, .mv (.t 0), none⟩,
  ⟨some 8, .len false (.t 7), none⟩,
  ⟨some 9, .mv (.c (.int .i64 0)), none⟩])
 (.block 0
  (.loop
   z87)))
 z4e)))
def jn : Lay := ⟨52, [], false⟩
def za2 : List LRes := [.t 2]
def zif : LFn := ⟨1, jn, zdt, za2⟩
theorem zev : wy Try.prog [] 24 = some zif := by kernel_rfl
theorem zet : Yf Try.prog 24 := ⟨_, Try.func24, rfl, rfl⟩
def zbq (a0 : List G_QKey) (o : (List G_QKey)) : Exit → Env → AHeap → Nat → Prop := Wt za2 (jp (.isl 3 (o.map z6) false))
def vo (a0 : List G_QKey) (s : ((List G_QKey) × Int)) : Env := [(3, .osl (0, 0) 3 (s.1.map z6)), (7, .isl 3 (a0.map z6) false), (8, .int .i64 ((a0.map z6).length : Int)), (9, .int .i64 s.2)]
def ua (a0 : List G_QKey) (s : ((List G_QKey) × Int)) : AHeap := [((0, 0), .tok)]
def Y8 (a0 : List G_QKey) (o : (List G_QKey)) : Exit → Env → AHeap → Nat → Prop := (xn 0 (Xf Try.prog jn 0 z4e (zbq a0 o)))
def Vo (a0 : List G_QKey) (v6 : List G_QKey) (v7 : Int) (s : Int) : Env := [(3, .osl (0, 0) 3 (v6.map z6)), (5, .ptr (1, 0) 0 0), (6, .int .i64 s), (7, .isl 3 (a0.map z6) false), (8, .int .i64 ((a0.map z6).length : Int)), (9, .int .i64 v7)]
def z1l (a0 : List G_QKey) (v6 : List G_QKey) (v7 : Int) (s : Int) : AHeap := [((0, 0), .tok), ((1, 0), .one [.int .i64 ((a0.getD v7.toNat default).f_Kind), .int .i64 ((a0.getD v7.toNat default).f_A), .int .i64 ((a0.getD v7.toNat default).f_B)])]
def z4y (a0 : List G_QKey) (o : (((List G_QKey) × Int) ⊕ (List G_QKey))) : Exit → Env → AHeap → Nat → Prop := (xn 2 (Xf Try.prog jn 0 z4p (xn 1 (Xf Try.prog jn 0 z0k (kg 0 1 (vo a0) (ua a0) (Y8 a0) o)))))
noncomputable def qg (m : Option Nat) (a0 : List G_QKey) (v7 : Int) (v17 : List G_QKey) : Option (((List G_QKey) × Int) ⊕ (List G_QKey)) :=
 some (.inl (v17, (W (v7 + 1))))
noncomputable def yn (m : Option Nat) (a0 : List G_QKey) (v6 : List G_QKey) (v7 : Int) (v14 : Int) : Option (((List G_QKey) × Int) ⊕ (List G_QKey)) :=
 if (((v14 == ((v6.map z6).length : Int)) == false) = true → (0 : Int) ≤ v14 ∧ v14 < ((v6.map z6).length : Int)) then
 if ((v14 == ((v6.map z6).length : Int)) || (!(((v6.getD v14.toNat default).f_Kind == (a0.getD v7.toNat default).f_Kind) && (((v6.getD v14.toNat default).f_A == (a0.getD v7.toNat default).f_A) && (((v6.getD v14.toNat default).f_B == (a0.getD v7.toNat default).f_B) && true))))) = true then
  if (0 : Int) ≤ 0 ∧ 0 ≤ v14 ∧ v14 ≤ v14 ∧ v14 ≤ ((v6.map z6).length : Int) then
  if (0 : Int) ≤ v14 ∧ v14 ≤ ((v6.map z6).length : Int) then
  if ((([(G_QKey.mk ((a0.getD v7.toNat default).f_Kind) ((a0.getD v7.toNat default).f_A) ((a0.getD v7.toNat default).f_B))] : List G_QKey) ++ (v6.drop v14.toNat)).map z6).length * 24 ≤ 140737488355328 then
  if (decide (v14 = v14)) = true then
  if (((v6.take v14.toNat) ++ (([(G_QKey.mk ((a0.getD v7.toNat default).f_Kind) ((a0.getD v7.toNat default).f_A) ((a0.getD v7.toNat default).f_B))] : List G_QKey) ++ (v6.drop v14.toNat))).map z6).length * 24 ≤ 140737488355328 then
  qg m a0 v7 ((v6.take v14.toNat) ++ (([(G_QKey.mk ((a0.getD v7.toNat default).f_Kind) ((a0.getD v7.toNat default).f_A) ((a0.getD v7.toNat default).f_B))] : List G_QKey) ++ (v6.drop v14.toNat)))
  else none
  else none
  else none
  else none
  else none
 else
  qg m a0 v7 v6
 else none
noncomputable def ya (m : Option Nat) (a0 : List G_QKey) (v6 : List G_QKey) (v7 : Int) (v14 : Int) : Option (Int ⊕ (((List G_QKey) × Int) ⊕ (List G_QKey))) :=
 if (((decide (v14 < ((v6.map z6).length : Int))) == true) = true → (0 : Int) ≤ v14 ∧ v14 < ((v6.map z6).length : Int)) then
 (if ((decide (v14 < ((v6.map z6).length : Int))) == true) = true then qh m (G_QKey.mk ((v6.getD v14.toNat default).f_Kind) ((v6.getD v14.toNat default).f_A) ((v6.getD v14.toNat default).f_B)) (G_QKey.mk ((a0.getD v7.toNat default).f_Kind) ((a0.getD v7.toNat default).f_A) ((a0.getD v7.toNat default).f_B)) else some default).bind fun v16 =>
 if ((decide (v14 < ((v6.map z6).length : Int))) && v16) = true then
  some (.inl (W (v14 + 1)))
 else
  Option.map Sum.inr (
   yn m a0 v6 v7 v14)
 else none
noncomputable def ym (m : Option Nat) (a0 : List G_QKey) (v6 : List G_QKey) (v7 : Int) (v14 : Int) : Option (((List G_QKey) × Int) ⊕ (List G_QKey)) := uv m (fun (s : Int) => ya m a0 v6 v7 s) v14
theorem z0f {a0 : List G_QKey} {v7 : Int} {v17 : List G_QKey} {m : Option Nat} {o : (((List G_QKey) × Int) ⊕ (List G_QKey))} (h : qg m a0 v7 v17 = some o) :
 LWp Try.prog jn 0 z0k (kg 0 1 (vo a0) (ua a0) (Y8 a0) o) [(3, .osl (0, 0) 3 (v17.map z6)), (7, .isl 3 (a0.map z6) false), (8, .int .i64 ((a0.map z6).length : Int)), (9, .int .i64 v7)] [((0, 0), .tok)] 1 := by
 unfold qg at h
 refine qw ?_
 cases h
 exact And.intro rfl (jy (M := [((0, 0), (0, 0))]) rfl (And.intro (Vw.osl _ _ _ _ rfl) (And.intro (Vw.same _ rfl) (And.intro (Vw.same _ rfl) (And.intro (Vw.same _ rfl) trivial)))) (And.intro (And.intro rfl BVw.tok) trivial))
theorem z6z {a0 : List G_QKey} {v6 : List G_QKey} {v7 : Int} {v14 : Int} {m : Option Nat} {o : (((List G_QKey) × Int) ⊕ (List G_QKey))} (h : yn m a0 v6 v7 v14 = some o) :
 LWp Try.prog jn 0 z4p (xn 1 (Xf Try.prog jn 0 z0k (kg 0 1 (vo a0) (ua a0) (Y8 a0) o))) [(3, .osl (0, 0) 3 (v6.map z6)), (5, .ptr (1, 0) 0 0), (6, .int .i64 v14), (7, .isl 3 (a0.map z6) false), (8, .int .i64 ((a0.map z6).length : Int)), (9, .int .i64 v7)] [((0, 0), .tok), ((1, 0), .one [.int .i64 ((a0.getD v7.toNat default).f_Kind), .int .i64 ((a0.getD v7.toNat default).f_A), .int .i64 ((a0.getD v7.toNat default).f_B)])] 2 := by
 unfold yn at h
 refine yq ?_
 refine ze8 ?_
 obtain ⟨h47, h⟩ := yz h
 refine And.intro (fun hp => (And.intro (And.intro hp hp) (h47 hp))) ?_
 show yqs _ _ [(34, .cnd ((v14 == ((v6.map z6).length : Int)) == false) (.iptr 3 (v6.map z6) v14.toNat 0)), (33, .cnd ((v14 == ((v6.map z6).length : Int)) == false) (.int .i64 v14)), (32, .cnd ((v14 == ((v6.map z6).length : Int)) == false) (.osl (0, 0) 3 (v6.map z6))), (31, .bool (v14 == ((v6.map z6).length : Int))), (30, .bool (v14 == ((v6.map z6).length : Int))), (29, .int .i64 ((v6.map z6).length : Int)), (28, .osl (0, 0) 3 (v6.map z6)), (27, .int .i64 v14), (3, .osl (0, 0) 3 (v6.map z6)), (5, .ptr (1, 0) 0 0), (6, .int .i64 v14), (7, .isl 3 (a0.map z6) false), (8, .int .i64 ((a0.map z6).length : Int)), (9, .int .i64 v7)] _ _
 refine Exists.intro (z6 (v6.getD v14.toNat default)) (And.intro (fun hp => And.intro (jk z6 _ _ (ku z6 (h47 hp))) (And.intro hp (And.intro (Yj (h47 hp)) (Nat.le_of_ble_eq_true rfl)))) ?_)
 refine And.intro (fun hp => (And.intro hp hp)) ?_
 refine And.intro (fun hc => (bqf hc)) ?_
 refine LWp.sim (e := [(3, .osl (0, 0) 3 (v6.map z6)), (5, .ptr (1, 0) 0 0), (6, .int .i64 v14), (7, .isl 3 (a0.map z6) false), (8, .int .i64 ((a0.map z6).length : Int)), (9, .int .i64 v7), (38, .bool ((v14 == ((v6.map z6).length : Int)) || (!(((v6.getD v14.toNat default).f_Kind == (a0.getD v7.toNat default).f_Kind) && (((v6.getD v14.toNat default).f_A == (a0.getD v7.toNat default).f_A) && (((v6.getD v14.toNat default).f_B == (a0.getD v7.toNat default).f_B) && true))))))]) (L := [((0, 0), .tok), ((1, 0), .one [.int .i64 ((a0.getD v7.toNat default).f_Kind), .int .i64 ((a0.getD v7.toNat default).f_A), .int .i64 ((a0.getD v7.toNat default).f_B)])]) (n := 2) ?_ ?_
 ·exact jy (M := [((0, 0), (0, 0)), ((1, 0), (1, 0))]) rfl (And.intro (Vw.osl _ _ _ _ rfl) (And.intro (Vw.ptr _ _ _ _ rfl) (And.intro (Vw.same _ rfl) (And.intro (Vw.same _ rfl) (And.intro (Vw.same _ rfl) (And.intro (Vw.same _ rfl) (And.intro (Vw.same _ rfl) trivial))))))) (And.intro (And.intro rfl BVw.tok) (And.intro (And.intro rfl (BVw.oneL (And.intro (Vw.same _ rfl) (And.intro (Vw.same _ rfl) (And.intro (Vw.same _ rfl) trivial))))) trivial))
 refine w7 (v := ((v14 == ((v6.map z6).length : Int)) || (!(((v6.getD v14.toNat default).f_Kind == (a0.getD v7.toNat default).f_Kind) && (((v6.getD v14.toNat default).f_A == (a0.getD v7.toNat default).f_A) && (((v6.getD v14.toNat default).f_B == (a0.getD v7.toNat default).f_B) && true)))))) rfl trivial (fun h48 => ?_) (fun h48 => ?_)
 ·have h := qq h48 h
  refine z6g rfl ?_
  obtain ⟨h49, h⟩ := yz h
  refine Exists.intro (.isl 3 ((v6.take v14.toNat).map z6) (decide (v14 = v14))) (And.intro (zfh z6 (slB z6 v6 _) rfl) (And.intro (And.intro rfl h49) ?_))
  obtain ⟨h50, h⟩ := yz h
  refine Exists.intro (.osl (0, 0) 3 ((v6.drop v14.toNat).map z6)) (And.intro (zf4 z6 _ _ _ _) (And.intro (And.intro rfl h50) ?_))
  obtain ⟨h51, h⟩ := yz h
  refine Exists.intro ((([(G_QKey.mk ((a0.getD v7.toNat default).f_Kind) ((a0.getD v7.toNat default).f_A) ((a0.getD v7.toNat default).f_B))] : List G_QKey) ++ (v6.drop v14.toNat)).map z6) (And.intro (Ux z6 ([(G_QKey.mk ((a0.getD v7.toNat default).f_Kind) ((a0.getD v7.toNat default).f_A) ((a0.getD v7.toNat default).f_B))] : List G_QKey) (v6.drop v14.toNat)) (And.intro (And.intro rfl h51) ?_))
  obtain ⟨h52, h⟩ := yz h
  obtain ⟨h53, h⟩ := yz h
  refine Exists.intro (((v6.take v14.toNat) ++ (([(G_QKey.mk ((a0.getD v7.toNat default).f_Kind) ((a0.getD v7.toNat default).f_A) ((a0.getD v7.toNat default).f_B))] : List G_QKey) ++ (v6.drop v14.toNat))).map z6) (And.intro (Ux z6 (v6.take v14.toNat) (([(G_QKey.mk ((a0.getD v7.toNat default).f_Kind) ((a0.getD v7.toNat default).f_A) ((a0.getD v7.toNat default).f_B))] : List G_QKey) ++ (v6.drop v14.toNat))) (And.intro (And.intro h52 h53) ?_))
  refine LWp.sim ?_ (z0f h)
  exact jy (M := [((0, 0), (3, 0))]) rfl (And.intro (Vw.osl _ _ _ _ rfl) (And.intro (Vw.same _ rfl) (And.intro (Vw.same _ rfl) (And.intro (Vw.same _ rfl) trivial)))) (And.intro (And.intro rfl BVw.tok) trivial)
 ·have h := xm h48 h
  refine wg ?_
  refine LWp.sim ?_ (z0f h)
  exact jy (M := [((0, 0), (0, 0))]) rfl (And.intro (Vw.osl _ _ _ _ rfl) (And.intro (Vw.same _ rfl) (And.intro (Vw.same _ rfl) (And.intro (Vw.same _ rfl) trivial)))) (And.intro (And.intro rfl BVw.tok) trivial)
theorem z5p {a0 : List G_QKey} {v6 : List G_QKey} {v7 : Int} {v14 : Int} {m : Option Nat} {o : Int ⊕ (((List G_QKey) × Int) ⊕ (List G_QKey))} (h : ya m a0 v6 v7 v14 = some o) :
 LWp Try.prog jn 0 zb2 (kg 0 2 (Vo a0 v6 v7) (z1l a0 v6 v7) (z4y a0) o) [(3, .osl (0, 0) 3 (v6.map z6)), (5, .ptr (1, 0) 0 0), (6, .int .i64 v14), (7, .isl 3 (a0.map z6) false), (8, .int .i64 ((a0.map z6).length : Int)), (9, .int .i64 v7)] [((0, 0), .tok), ((1, 0), .one [.int .i64 ((a0.getD v7.toNat default).f_Kind), .int .i64 ((a0.getD v7.toNat default).f_A), .int .i64 ((a0.getD v7.toNat default).f_B)])] 2 := by
 unfold ya at h
 refine yq ?_
 refine yq ?_
 refine z6g rfl ?_
 obtain ⟨h44, h⟩ := yz h
 refine And.intro (fun hp => (And.intro (And.intro hp hp) (h44 hp))) ?_
 show J8 _ _ _ [(20, .cnd ((decide (v14 < ((v6.map z6).length : Int))) == true) (.iptr 3 (v6.map z6) v14.toNat 0)), (19, .cnd ((decide (v14 < ((v6.map z6).length : Int))) == true) (.int .i64 v14)), (18, .cnd ((decide (v14 < ((v6.map z6).length : Int))) == true) (.osl (0, 0) 3 (v6.map z6))), (17, .bool (decide (v14 < ((v6.map z6).length : Int)))), (16, .bool (decide (v14 < ((v6.map z6).length : Int)))), (15, .int .i64 ((v6.map z6).length : Int)), (14, .osl (0, 0) 3 (v6.map z6)), (13, .int .i64 v14), (3, .osl (0, 0) 3 (v6.map z6)), (5, .ptr (1, 0) 0 0), (6, .int .i64 v14), (7, .isl 3 (a0.map z6) false), (8, .int .i64 ((a0.map z6).length : Int)), (9, .int .i64 v7)] _ _
 refine Exists.intro (z6 (v6.getD v14.toNat default)) (And.intro (fun hp => And.intro (jk z6 _ _ (ku z6 (h44 hp))) (And.intro hp (And.intro (Yj (h44 hp)) (Nat.le_of_ble_eq_true rfl)))) ?_)
 obtain ⟨v16, h45, h⟩ := bind_some h
 refine Or.inl (Exists.intro (.bool v16) (And.intro (fun hp => And.intro (And.intro hp hp) (PFn.call (zhk (qq hp h45)) (And.intro (Vw.same _ rfl) (And.intro (Vw.same _ rfl) trivial)) (And.intro rfl (And.intro rfl rfl)))) ?_))
 refine And.intro (fun hc => (bqt hc)) ?_
 refine LWp.sim (e := [(3, .osl (0, 0) 3 (v6.map z6)), (5, .ptr (1, 0) 0 0), (6, .int .i64 v14), (7, .isl 3 (a0.map z6) false), (8, .int .i64 ((a0.map z6).length : Int)), (9, .int .i64 v7), (24, .bool ((decide (v14 < ((v6.map z6).length : Int))) && v16))]) (L := [((0, 0), .tok), ((1, 0), .one [.int .i64 ((a0.getD v7.toNat default).f_Kind), .int .i64 ((a0.getD v7.toNat default).f_A), .int .i64 ((a0.getD v7.toNat default).f_B)])]) (n := 2) ?_ ?_
 ·exact jy (M := [((0, 0), (0, 0)), ((1, 0), (1, 0))]) rfl (And.intro (Vw.osl _ _ _ _ rfl) (And.intro (Vw.ptr _ _ _ _ rfl) (And.intro (Vw.same _ rfl) (And.intro (Vw.same _ rfl) (And.intro (Vw.same _ rfl) (And.intro (Vw.same _ rfl) (And.intro (Vw.same _ rfl) trivial))))))) (And.intro (And.intro rfl BVw.tok) (And.intro (And.intro rfl (BVw.oneL (And.intro (Vw.same _ rfl) (And.intro (Vw.same _ rfl) (And.intro (Vw.same _ rfl) trivial))))) trivial))
 refine w7 (v := ((decide (v14 < ((v6.map z6).length : Int))) && v16)) rfl trivial (fun h46 => ?_) (fun h46 => ?_)
 ·have h := qq h46 h
  refine wg ?_
  refine jm ?_
  refine qw ?_
  cases h
  exact And.intro rfl (jy (M := [((0, 0), (0, 0)), ((1, 0), (1, 0))]) rfl (And.intro (Vw.osl _ _ _ _ rfl) (And.intro (Vw.ptr _ _ _ _ rfl) (And.intro (Vw.same _ rfl) (And.intro (Vw.same _ rfl) (And.intro (Vw.same _ rfl) (And.intro (Vw.same _ rfl) trivial)))))) (And.intro (And.intro rfl BVw.tok) (And.intro (And.intro rfl (BVw.oneL (And.intro (Vw.same _ rfl) (And.intro (Vw.same _ rfl) (And.intro (Vw.same _ rfl) trivial))))) trivial)))
 ·have h := xm h46 h
  refine Xw ?_
  obtain ⟨o, hq, rfl⟩ := Option.map_eq_some_iff.1 h
  replace h := hq; clear hq
  refine And.intro nofun ?_
  refine LWp.sim ?_ (z6z h)
  exact jy (M := [((0, 0), (0, 0)), ((1, 0), (1, 0))]) rfl (And.intro (Vw.osl _ _ _ _ rfl) (And.intro (Vw.ptr _ _ _ _ rfl) (And.intro (Vw.same _ rfl) (And.intro (Vw.same _ rfl) (And.intro (Vw.same _ rfl) (And.intro (Vw.same _ rfl) trivial)))))) (And.intro (And.intro rfl BVw.tok) (And.intro (And.intro rfl (BVw.oneL (And.intro (Vw.same _ rfl) (And.intro (Vw.same _ rfl) (And.intro (Vw.same _ rfl) trivial))))) trivial))
theorem z8y {a0 : List G_QKey} {v6 : List G_QKey} {v7 : Int} {v14 : Int} {m : Option Nat} {o : (((List G_QKey) × Int) ⊕ (List G_QKey))} (h : ym m a0 v6 v7 v14 = some o) :
 LWp Try.prog jn 0 (.loop zb2) (xn 2 (Xf Try.prog jn 0 z4p (xn 1 (Xf Try.prog jn 0 z0k (kg 0 1 (vo a0) (ua a0) (Y8 a0) o))))) [(3, .osl (0, 0) 3 (v6.map z6)), (5, .ptr (1, 0) 0 0), (6, .int .i64 v14), (7, .isl 3 (a0.map z6) false), (8, .int .i64 ((a0.map z6).length : Int)), (9, .int .i64 v7)] [((0, 0), .tok), ((1, 0), .one [.int .i64 ((a0.getD v7.toNat default).f_Kind), .int .i64 ((a0.getD v7.toNat default).f_A), .int .i64 ((a0.getD v7.toNat default).f_B)])] 2 :=
 jf (m := m) (s := (v14 : Int)) (r := o) (fun (s : Int) => ya m a0 v6 v7 s) (Vo a0 v6 v7) (z1l a0 v6 v7) (z4y a0) (fun s o h => z5p h) h
noncomputable def qx (m : Option Nat) (v6 : List G_QKey) : Option (List G_QKey) :=
 some v6
noncomputable def yp (m : Option Nat) (a0 : List G_QKey) (v6 : List G_QKey) (v7 : Int) : Option (((List G_QKey) × Int) ⊕ (List G_QKey)) :=
 if (decide (v7 < ((a0.map z6).length : Int))) = true then
  if (0 : Int) ≤ v7 ∧ v7 < ((a0.map z6).length : Int) then
  ym m a0 v6 v7 0
  else none
 else
  Option.map Sum.inr (
   qx m v6)
noncomputable def qd (m : Option Nat) (a0 : List G_QKey) (v6 : List G_QKey) (v7 : Int) : Option (List G_QKey) := uv m (fun (s : ((List G_QKey) × Int)) => yp m a0 s.1 s.2) (v6, v7)
theorem z7b {a0 : List G_QKey} {v6 : List G_QKey} {m : Option Nat} {o : (List G_QKey)} (h : qx m v6 = some o) :
 LWp Try.prog jn 0 z4e (zbq a0 o) [(3, .osl (0, 0) 3 (v6.map z6))] [((0, 0), .tok)] 1 := by
 unfold qx at h
 refine yq ?_
 refine qw ?_
 refine Ye ?_
 cases h
 exact And.intro trivial (And.intro rfl (Vw.oslI _ _ _))
theorem z5w {a0 : List G_QKey} {v6 : List G_QKey} {v7 : Int} {m : Option Nat} {o : ((List G_QKey) × Int) ⊕ (List G_QKey)} (h : yp m a0 v6 v7 = some o) :
 LWp Try.prog jn 0 z87 (kg 0 1 (vo a0) (ua a0) (Y8 a0) o) [(3, .osl (0, 0) 3 (v6.map z6)), (7, .isl 3 (a0.map z6) false), (8, .int .i64 ((a0.map z6).length : Int)), (9, .int .i64 v7)] [((0, 0), .tok)] 1 := by
 unfold yp at h
 refine yq ?_
 refine qw ?_
 refine yq ?_
 refine w7 (v := (decide (v7 < ((a0.map z6).length : Int)))) rfl trivial (fun h36 => ?_) (fun h36 => ?_)
 ·have h := qq h36 h
  refine wg ?_
  refine yq ?_
  refine jm ?_
  refine yq ?_
  refine qw ?_
  obtain ⟨h37, h⟩ := yz h
  refine And.intro h37 ?_
  refine Exists.intro (z6 (a0.getD v7.toNat default)) (And.intro (jk z6 _ _ (ku z6 h37)) (And.intro (And.intro (Yj h37) (Nat.le_of_ble_eq_true rfl)) ?_))
  refine yq ?_
  refine qw ?_
  refine yq ?_
  refine jm ?_
  refine LWp.sim ?_ (z8y h)
  exact jy (M := [((0, 0), (0, 0)), ((1, 0), (1, 0))]) rfl (And.intro (Vw.osl _ _ _ _ rfl) (And.intro (Vw.ptr _ _ _ _ rfl) (And.intro (Vw.same _ rfl) (And.intro (Vw.same _ rfl) (And.intro (Vw.same _ rfl) (And.intro (Vw.same _ rfl) trivial)))))) (And.intro (And.intro rfl BVw.tok) (And.intro (And.intro rfl (BVw.oneL (And.intro (Vw.same _ rfl) (And.intro (Vw.same _ rfl) (And.intro (Vw.same _ rfl) trivial))))) trivial))
 ·have h := xm h36 h
  refine Xw ?_
  obtain ⟨o, hq, rfl⟩ := Option.map_eq_some_iff.1 h
  replace h := hq; clear hq
  refine And.intro nofun ?_
  refine LWp.sim ?_ (z7b h)
  exact jy (M := [((0, 0), (0, 0))]) rfl (And.intro (Vw.osl _ _ _ _ rfl) trivial) (And.intro (And.intro rfl BVw.tok) trivial)
theorem z8i {a0 : List G_QKey} {v6 : List G_QKey} {v7 : Int} {m : Option Nat} {o : (List G_QKey)} (h : qd m a0 v6 v7 = some o) :
 LWp Try.prog jn 0 (.loop z87) (xn 0 (Xf Try.prog jn 0 z4e (zbq a0 o))) [(3, .osl (0, 0) 3 (v6.map z6)), (7, .isl 3 (a0.map z6) false), (8, .int .i64 ((a0.map z6).length : Int)), (9, .int .i64 v7)] [((0, 0), .tok)] 1 :=
 jf (m := m) (s := ((v6, v7) : ((List G_QKey) × Int))) (r := o) (fun (s : ((List G_QKey) × Int)) => yp m a0 s.1 s.2) (vo a0) (ua a0) (Y8 a0) (fun s o h => z5w h) h
noncomputable def qu (m : Option Nat) (a0 : List G_QKey) : Option (List G_QKey) :=
 qd m a0 [] 0
theorem z9n {a0 : List G_QKey} {m : Option Nat} {o : (List G_QKey)} (h : qu m a0 = some o) : LWp Try.prog jn 0 zdt (zbq a0 o) (qz 0 [.isl 3 (a0.map z6) false]) [] 0 := by
 unfold qu at h
 refine yq ?_
 refine qw ?_
 refine yq ?_
 refine qw ?_
 refine yq ?_
 refine yq ?_
 refine qw ?_
 refine jm ?_
 refine LWp.sim ?_ (z8i h)
 exact jy (M := []) rfl (And.intro (Vw.nilO _ _ (by decide)) (And.intro (Vw.same _ rfl) (And.intro (Vw.same _ rfl) (And.intro (Vw.same _ rfl) trivial)))) (And.intro (And.intro rfl (And.intro (by decide) (by decide))) trivial)
theorem zic {a0 : List G_QKey} {m : Option Nat} {o : (List G_QKey)} (h : qu m a0 = some o) : PFn Try.prog 24 [.isl 3 (a0.map z6) false] (.isl 3 (o.map z6) false) := PFn.ofFnW (L := zif) zev zet (Nat.le_of_ble_eq_true rfl) rfl (z9n h)
def zec : LCode := (.region [⟨some 38, .bin .add (.t 12) (.c (.int .i64 1)), none⟩,
 ⟨some 12, .mv (.t 38), none⟩])
def z7c : LCode := (.seq (.region [⟨some 13, .bin .lss (.t 12) (.t 11), none⟩])
 (.seq (.cond (.t 13)
  .skip
  (.exit 2))
 (.seq (.block 3
  (.seq (.region [⟨some 14, .iaddr 6 (.t 10) (.t 12), none⟩,
   ⟨some 15, .load true 6 (.t 14), none⟩,
   ⟨some 8, .alloc [(.int .i64 0), (.int .i64 0), (.int .i64 0), (.int .i64 0), (.int .i64 0), (.int .i64 0)], none⟩,
   ⟨none, .store 6 (.t 8) (.t 15), none⟩])
  (.seq (.region [⟨some 16, .faddr 0 (.t 8), none⟩,
   ⟨some 17, .load true 3 (.t 16), none⟩,
   ⟨some 18, .load true 3 (.t 3), none⟩,
   ⟨some 19, .eq false (.agg [.int, .int, .int]) (.t 17) (.t 18), none⟩,
   ⟨some 20, .mv (.t 19), none⟩,
   ⟨some 21, .mv (.t 5), some (20, false)⟩,
   ⟨some 22, .faddr 0 (.t 8), some (20, false)⟩,
   ⟨some 23, .load true 3 (.t 22), some (20, false)⟩,
   ⟨some 24, .call 23 [(.t 21), (.t 23)], some (20, false)⟩,
   ⟨some 25, .pick (.t 20) (.c (.bool true)) (.t 24), none⟩,
   ⟨some 26, .mv (.t 25), none⟩,
   ⟨some 27, .mv (.t 5), some (26, true)⟩,
   ⟨some 28, .faddr 3 (.t 8), some (26, true)⟩,
   ⟨some 29, .load true 3 (.t 28), some (26, true)⟩,
   ⟨some 30, .call 23 [(.t 27), (.t 29)], some (26, true)⟩,
   ⟨some 31, .un .not (.t 30), some (26, true)⟩,
   ⟨some 32, .pick (.t 26) (.t 31) (.c (.bool false)), none⟩])
  (.cond (.t 32)
   (.seq (.region [⟨some 33, .mv (.t 5), none⟩,
    ⟨some 34, .faddr 3 (.t 8), none⟩,
    ⟨some 35, .load true 3 (.t 34), none⟩,
    ⟨some 36, .mkSl true 3 [(.int .i64 0), (.int .i64 0), (.int .i64 0)] 1 [(0, (.t 35))], none⟩,
    ⟨some 37, .app true 3 24 (.t 33) (.t 36), none⟩,
    ⟨some 5, .mv (.t 37), none⟩])
   (.region [⟨some 6, .mv (.c (.bool true)), none⟩]))
   .skip))))
 zec)))
def z83 : LCode := (.seq (.seq (.region [⟨some 9, .mv (.t 6), none⟩])
 (.cond (.t 9)
  .skip
  (.exit 0)))
 (.block 1
  (.seq (.region [⟨some 6, .mv (.c (.bool false)), none⟩])
  (.seq (.region [⟨some 10, .mv (.t 0), none⟩,
   ⟨some 11, .len false (.t 10), none⟩,
   ⟨some 12, .mv (.c (.int .i64 0)), none⟩])
  (.block 2
   (.loop
    z7c))))))
def z3z : LCode := (.seq (.region [⟨some 39, .mv (.t 5), none⟩,
 ⟨some 40, .call 24 [(.t 39)], none⟩,
 ⟨some 4, .mv (.t 40), none⟩])
 .ret)
def zdu : LCode := (.seq (.region [⟨some 3, .box (.t 1), none⟩,
 ⟨some 4, .mv (.c (.val (.slice none 0 0))), none⟩])
 (.seq (.region [⟨some 5, .mv (.c (.val (.slice none 0 0))), none⟩])
 (.seq (.seq (.region [⟨some 6, .mv (.c (.bool true)), none⟩])
 (.block 0
  (.loop
   z83)))
 z3z)))
def kr : Lay := ⟨41, [], false⟩
def z7h : List LRes := [.t 4]
def zgx : LFn := ⟨2, kr, zdu, z7h⟩
theorem zgb : wy Try.prog [] 10 = some zgx := by kernel_rfl
theorem zei : Yf Try.prog 10 := ⟨_, Try.func10, rfl, rfl⟩
def zcf (a0 : List G_QEdge) (a1 : G_QKey) (o : (List G_QKey)) : Exit → Env → AHeap → Nat → Prop := Wt z7h (jp (.isl 3 (o.map z6) false))
def Y3 (a0 : List G_QEdge) (a1 : G_QKey) (s : ((List G_QKey) × Bool)) : Env := [(0, .isl 6 (a0.map z7) false), (3, .ptr (0, 0) 0 0), (5, .osl (1, 0) 3 (s.1.map z6)), (6, .bool s.2)]
def Qf (a0 : List G_QEdge) (a1 : G_QKey) (s : ((List G_QKey) × Bool)) : AHeap := [((0, 0), .one [.int .i64 a1.f_Kind, .int .i64 a1.f_A, .int .i64 a1.f_B]), ((1, 0), .tok)]
def J1 (a0 : List G_QEdge) (a1 : G_QKey) (o : (List G_QKey)) : Exit → Env → AHeap → Nat → Prop := (xn 0 (Xf Try.prog kr 0 z3z (zcf a0 a1 o)))
def Xd (a0 : List G_QEdge) (a1 : G_QKey) (s : ((List G_QKey) × Bool × Int)) : Env := [(0, .isl 6 (a0.map z7) false), (3, .ptr (0, 0) 0 0), (5, .osl (1, 0) 3 (s.1.map z6)), (6, .bool s.2.1), (10, .isl 6 (a0.map z7) false), (11, .int .i64 ((a0.map z7).length : Int)), (12, .int .i64 s.2.2)]
def Jn (a0 : List G_QEdge) (a1 : G_QKey) (s : ((List G_QKey) × Bool × Int)) : AHeap := [((0, 0), .one [.int .i64 a1.f_Kind, .int .i64 a1.f_A, .int .i64 a1.f_B]), ((1, 0), .tok)]
def U0 (a0 : List G_QEdge) (a1 : G_QKey) (o : (((List G_QKey) × Bool) ⊕ (List G_QKey))) : Exit → Env → AHeap → Nat → Prop := (xn 2 (xn 1 (kg 0 2 (Y3 a0 a1) (Qf a0 a1) (J1 a0 a1) o)))
noncomputable def q9 (m : Option Nat) (a0 : List G_QEdge) (a1 : G_QKey) (v39 : Int) (v46 : List G_QKey) (v47 : Bool) : Option (((List G_QKey) × Bool × Int) ⊕ (((List G_QKey) × Bool) ⊕ (List G_QKey))) :=
 some (.inl (v46, v47, (W (v39 + 1))))
theorem z07 {a0 : List G_QEdge} {a1 : G_QKey} {v39 : Int} {v46 : List G_QKey} {v47 : Bool} {m : Option Nat} {o : (((List G_QKey) × Bool × Int) ⊕ (((List G_QKey) × Bool) ⊕ (List G_QKey)))} (h : q9 m a0 a1 v39 v46 v47 = some o) :
 LWp Try.prog kr 0 zec (kg 0 2 (Xd a0 a1) (Jn a0 a1) (U0 a0 a1) o) [(0, .isl 6 (a0.map z7) false), (3, .ptr (0, 0) 0 0), (5, .osl (1, 0) 3 (v46.map z6)), (6, .bool v47), (10, .isl 6 (a0.map z7) false), (11, .int .i64 ((a0.map z7).length : Int)), (12, .int .i64 v39)] [((0, 0), .one [.int .i64 a1.f_Kind, .int .i64 a1.f_A, .int .i64 a1.f_B]), ((1, 0), .tok)] 2 := by
 unfold q9 at h
 refine qw ?_
 cases h
 exact And.intro rfl (jy (M := [((0, 0), (0, 0)), ((1, 0), (1, 0))]) rfl (And.intro (Vw.same _ rfl) (And.intro (Vw.ptr _ _ _ _ rfl) (And.intro (Vw.osl _ _ _ _ rfl) (And.intro (Vw.same _ rfl) (And.intro (Vw.same _ rfl) (And.intro (Vw.same _ rfl) (And.intro (Vw.same _ rfl) trivial))))))) (And.intro (And.intro rfl (BVw.oneL (And.intro (Vw.same _ rfl) (And.intro (Vw.same _ rfl) (And.intro (Vw.same _ rfl) trivial))))) (And.intro (And.intro rfl BVw.tok) trivial)))
noncomputable def y6 (m : Option Nat) (a0 : List G_QEdge) (a1 : G_QKey) (v37 : List G_QKey) (v38 : Bool) (v39 : Int) : Option (((List G_QKey) × Bool × Int) ⊕ (((List G_QKey) × Bool) ⊕ (List G_QKey))) :=
 if (decide (v39 < ((a0.map z7).length : Int))) = true then
  if (0 : Int) ≤ v39 ∧ v39 < ((a0.map z7).length : Int) then
  (if (((((a0.getD v39.toNat default).f_From).f_Kind == a1.f_Kind) && ((((a0.getD v39.toNat default).f_From).f_A == a1.f_A) && ((((a0.getD v39.toNat default).f_From).f_B == a1.f_B) && true))) == false) = true then zm m v37 (G_QKey.mk (((a0.getD v39.toNat default).f_From).f_Kind) (((a0.getD v39.toNat default).f_From).f_A) (((a0.getD v39.toNat default).f_From).f_B)) else some default).bind fun v44 =>
  (if ((((((a0.getD v39.toNat default).f_From).f_Kind == a1.f_Kind) && ((((a0.getD v39.toNat default).f_From).f_A == a1.f_A) && ((((a0.getD v39.toNat default).f_From).f_B == a1.f_B) && true))) || v44) == true) = true then zm m v37 (G_QKey.mk (((a0.getD v39.toNat default).f_To).f_Kind) (((a0.getD v39.toNat default).f_To).f_A) (((a0.getD v39.toNat default).f_To).f_B)) else some default).bind fun v45 =>
  if ((((((a0.getD v39.toNat default).f_From).f_Kind == a1.f_Kind) && ((((a0.getD v39.toNat default).f_From).f_A == a1.f_A) && ((((a0.getD v39.toNat default).f_From).f_B == a1.f_B) && true))) || v44) && (!v45)) = true then
   if ((v37 ++ ([(G_QKey.mk (((a0.getD v39.toNat default).f_To).f_Kind) (((a0.getD v39.toNat default).f_To).f_A) (((a0.getD v39.toNat default).f_To).f_B))] : List G_QKey)).map z6).length * 24 ≤ 140737488355328 then
   q9 m a0 a1 v39 (v37 ++ ([(G_QKey.mk (((a0.getD v39.toNat default).f_To).f_Kind) (((a0.getD v39.toNat default).f_To).f_A) (((a0.getD v39.toNat default).f_To).f_B))] : List G_QKey)) true
   else none
  else
   q9 m a0 a1 v39 v37 v38
  else none
 else
  Option.map Sum.inr (
   some (.inl (v37, v38)))
noncomputable def yj (m : Option Nat) (a0 : List G_QEdge) (a1 : G_QKey) (v37 : List G_QKey) (v38 : Bool) (v39 : Int) : Option (((List G_QKey) × Bool) ⊕ (List G_QKey)) := uv m (fun (s : ((List G_QKey) × Bool × Int)) => y6 m a0 a1 s.1 s.2.1 s.2.2) (v37, v38, v39)
theorem z5n {a0 : List G_QEdge} {a1 : G_QKey} {v37 : List G_QKey} {v38 : Bool} {v39 : Int} {m : Option Nat} {o : ((List G_QKey) × Bool × Int) ⊕ (((List G_QKey) × Bool) ⊕ (List G_QKey))} (h : y6 m a0 a1 v37 v38 v39 = some o) :
 LWp Try.prog kr 0 z7c (kg 0 2 (Xd a0 a1) (Jn a0 a1) (U0 a0 a1) o) [(0, .isl 6 (a0.map z7) false), (3, .ptr (0, 0) 0 0), (5, .osl (1, 0) 3 (v37.map z6)), (6, .bool v38), (10, .isl 6 (a0.map z7) false), (11, .int .i64 ((a0.map z7).length : Int)), (12, .int .i64 v39)] [((0, 0), .one [.int .i64 a1.f_Kind, .int .i64 a1.f_A, .int .i64 a1.f_B]), ((1, 0), .tok)] 2 := by
 unfold y6 at h
 refine yq ?_
 refine qw ?_
 refine yq ?_
 refine w7 (v := (decide (v39 < ((a0.map z7).length : Int)))) rfl trivial (fun h51 => ?_) (fun h51 => ?_)
 ·have h := qq h51 h
  refine wg ?_
  refine yq ?_
  refine jm ?_
  refine yq ?_
  refine qw ?_
  obtain ⟨h52, h⟩ := yz h
  refine And.intro h52 ?_
  refine Exists.intro (z7 (a0.getD v39.toNat default)) (And.intro (jk z7 _ _ (ku z7 h52)) (And.intro (And.intro (Yj h52) (Nat.le_of_ble_eq_true rfl)) ?_))
  refine yq ?_
  refine qw ?_
  refine And.intro (fun hp => hp) ?_
  show J8 _ _ _ [(23, .cnd (((((a0.getD v39.toNat default).f_From).f_Kind == a1.f_Kind) && ((((a0.getD v39.toNat default).f_From).f_A == a1.f_A) && ((((a0.getD v39.toNat default).f_From).f_B == a1.f_B) && true))) == false) (.agg [.int .i64 (((a0.getD v39.toNat default).f_From).f_Kind), .int .i64 (((a0.getD v39.toNat default).f_From).f_A), .int .i64 (((a0.getD v39.toNat default).f_From).f_B)])), (22, .cnd (((((a0.getD v39.toNat default).f_From).f_Kind == a1.f_Kind) && ((((a0.getD v39.toNat default).f_From).f_A == a1.f_A) && ((((a0.getD v39.toNat default).f_From).f_B == a1.f_B) && true))) == false) (.ptr (2, 0) 0 0)), (21, .cnd (((((a0.getD v39.toNat default).f_From).f_Kind == a1.f_Kind) && ((((a0.getD v39.toNat default).f_From).f_A == a1.f_A) && ((((a0.getD v39.toNat default).f_From).f_B == a1.f_B) && true))) == false) (.osl (1, 0) 3 (v37.map z6))), (20, .bool ((((a0.getD v39.toNat default).f_From).f_Kind == a1.f_Kind) && ((((a0.getD v39.toNat default).f_From).f_A == a1.f_A) && ((((a0.getD v39.toNat default).f_From).f_B == a1.f_B) && true)))), (19, .bool ((((a0.getD v39.toNat default).f_From).f_Kind == a1.f_Kind) && ((((a0.getD v39.toNat default).f_From).f_A == a1.f_A) && ((((a0.getD v39.toNat default).f_From).f_B == a1.f_B) && true)))), (18, .agg [.int .i64 a1.f_Kind, .int .i64 a1.f_A, .int .i64 a1.f_B]), (17, .agg [.int .i64 (((a0.getD v39.toNat default).f_From).f_Kind), .int .i64 (((a0.getD v39.toNat default).f_From).f_A), .int .i64 (((a0.getD v39.toNat default).f_From).f_B)]), (16, .ptr (2, 0) 0 0), (8, .ptr (2, 0) 0 0), (15, .agg [.int .i64 (((a0.getD v39.toNat default).f_From).f_Kind), .int .i64 (((a0.getD v39.toNat default).f_From).f_A), .int .i64 (((a0.getD v39.toNat default).f_From).f_B), .int .i64 (((a0.getD v39.toNat default).f_To).f_Kind), .int .i64 (((a0.getD v39.toNat default).f_To).f_A), .int .i64 (((a0.getD v39.toNat default).f_To).f_B)]), (14, .iptr 6 (a0.map z7) v39.toNat 0), (13, .bool (decide (v39 < ((a0.map z7).length : Int)))), (0, .isl 6 (a0.map z7) false), (3, .ptr (0, 0) 0 0), (5, .osl (1, 0) 3 (v37.map z6)), (6, .bool v38), (10, .isl 6 (a0.map z7) false), (11, .int .i64 ((a0.map z7).length : Int)), (12, .int .i64 v39)] _ _
  obtain ⟨v44, h53, h⟩ := bind_some h
  refine Or.inl (Exists.intro (.bool v44) (And.intro (fun hp => And.intro (And.intro hp hp) (PFn.call (zdr (qq hp h53)) (And.intro (Vw.oslI _ _ _) (And.intro (Vw.same _ rfl) trivial)) (And.intro rfl (And.intro rfl rfl)))) ?_))
  refine And.intro (fun hc => (bqf hc)) ?_
  refine And.intro (fun hp => hp) ?_
  show J8 _ _ _ [(29, .cnd ((((((a0.getD v39.toNat default).f_From).f_Kind == a1.f_Kind) && ((((a0.getD v39.toNat default).f_From).f_A == a1.f_A) && ((((a0.getD v39.toNat default).f_From).f_B == a1.f_B) && true))) || v44) == true) (.agg [.int .i64 (((a0.getD v39.toNat default).f_To).f_Kind), .int .i64 (((a0.getD v39.toNat default).f_To).f_A), .int .i64 (((a0.getD v39.toNat default).f_To).f_B)])), (28, .cnd ((((((a0.getD v39.toNat default).f_From).f_Kind == a1.f_Kind) && ((((a0.getD v39.toNat default).f_From).f_A == a1.f_A) && ((((a0.getD v39.toNat default).f_From).f_B == a1.f_B) && true))) || v44) == true) (.ptr (2, 0) 0 3)), (27, .cnd ((((((a0.getD v39.toNat default).f_From).f_Kind == a1.f_Kind) && ((((a0.getD v39.toNat default).f_From).f_A == a1.f_A) && ((((a0.getD v39.toNat default).f_From).f_B == a1.f_B) && true))) || v44) == true) (.osl (1, 0) 3 (v37.map z6))), (26, .bool (((((a0.getD v39.toNat default).f_From).f_Kind == a1.f_Kind) && ((((a0.getD v39.toNat default).f_From).f_A == a1.f_A) && ((((a0.getD v39.toNat default).f_From).f_B == a1.f_B) && true))) || v44)), (25, .bool (((((a0.getD v39.toNat default).f_From).f_Kind == a1.f_Kind) && ((((a0.getD v39.toNat default).f_From).f_A == a1.f_A) && ((((a0.getD v39.toNat default).f_From).f_B == a1.f_B) && true))) || v44)), (24, .cnd (((((a0.getD v39.toNat default).f_From).f_Kind == a1.f_Kind) && ((((a0.getD v39.toNat default).f_From).f_A == a1.f_A) && ((((a0.getD v39.toNat default).f_From).f_B == a1.f_B) && true))) == false) (.bool v44)), (23, .cnd (((((a0.getD v39.toNat default).f_From).f_Kind == a1.f_Kind) && ((((a0.getD v39.toNat default).f_From).f_A == a1.f_A) && ((((a0.getD v39.toNat default).f_From).f_B == a1.f_B) && true))) == false) (.agg [.int .i64 (((a0.getD v39.toNat default).f_From).f_Kind), .int .i64 (((a0.getD v39.toNat default).f_From).f_A), .int .i64 (((a0.getD v39.toNat default).f_From).f_B)])), (22, .cnd (((((a0.getD v39.toNat default).f_From).f_Kind == a1.f_Kind) && ((((a0.getD v39.toNat default).f_From).f_A == a1.f_A) && ((((a0.getD v39.toNat default).f_From).f_B == a1.f_B) && true))) == false) (.ptr (2, 0) 0 0)), (21, .cnd (((((a0.getD v39.toNat default).f_From).f_Kind == a1.f_Kind) && ((((a0.getD v39.toNat default).f_From).f_A == a1.f_A) && ((((a0.getD v39.toNat default).f_From).f_B == a1.f_B) && true))) == false) (.osl (1, 0) 3 (v37.map z6))), (20, .bool ((((a0.getD v39.toNat default).f_From).f_Kind == a1.f_Kind) && ((((a0.getD v39.toNat default).f_From).f_A == a1.f_A) && ((((a0.getD v39.toNat default).f_From).f_B == a1.f_B) && true)))), (19, .bool ((((a0.getD v39.toNat default).f_From).f_Kind == a1.f_Kind) && ((((a0.getD v39.toNat default).f_From).f_A == a1.f_A) && ((((a0.getD v39.toNat default).f_From).f_B == a1.f_B) && true)))), (18, .agg [.int .i64 a1.f_Kind, .int .i64 a1.f_A, .int .i64 a1.f_B]), (17, .agg [.int .i64 (((a0.getD v39.toNat default).f_From).f_Kind), .int .i64 (((a0.getD v39.toNat default).f_From).f_A), .int .i64 (((a0.getD v39.toNat default).f_From).f_B)]), (16, .ptr (2, 0) 0 0), (8, .ptr (2, 0) 0 0), (15, .agg [.int .i64 (((a0.getD v39.toNat default).f_From).f_Kind), .int .i64 (((a0.getD v39.toNat default).f_From).f_A), .int .i64 (((a0.getD v39.toNat default).f_From).f_B), .int .i64 (((a0.getD v39.toNat default).f_To).f_Kind), .int .i64 (((a0.getD v39.toNat default).f_To).f_A), .int .i64 (((a0.getD v39.toNat default).f_To).f_B)]), (14, .iptr 6 (a0.map z7) v39.toNat 0), (13, .bool (decide (v39 < ((a0.map z7).length : Int)))), (0, .isl 6 (a0.map z7) false), (3, .ptr (0, 0) 0 0), (5, .osl (1, 0) 3 (v37.map z6)), (6, .bool v38), (10, .isl 6 (a0.map z7) false), (11, .int .i64 ((a0.map z7).length : Int)), (12, .int .i64 v39)] _ _
  obtain ⟨v45, h54, h⟩ := bind_some h
  refine Or.inl (Exists.intro (.bool v45) (And.intro (fun hp => And.intro (And.intro hp hp) (PFn.call (zdr (qq hp h54)) (And.intro (Vw.oslI _ _ _) (And.intro (Vw.same _ rfl) trivial)) (And.intro rfl (And.intro rfl rfl)))) ?_))
  refine And.intro (fun hp => hp) ?_
  refine And.intro (fun hc => (bqt hc)) ?_
  refine LWp.sim (e := [(0, .isl 6 (a0.map z7) false), (3, .ptr (0, 0) 0 0), (5, .osl (1, 0) 3 (v37.map z6)), (6, .bool v38), (8, .ptr (2, 0) 0 0), (10, .isl 6 (a0.map z7) false), (11, .int .i64 ((a0.map z7).length : Int)), (12, .int .i64 v39), (32, .bool ((((((a0.getD v39.toNat default).f_From).f_Kind == a1.f_Kind) && ((((a0.getD v39.toNat default).f_From).f_A == a1.f_A) && ((((a0.getD v39.toNat default).f_From).f_B == a1.f_B) && true))) || v44) && (!v45)))]) (L := [((0, 0), .one [.int .i64 a1.f_Kind, .int .i64 a1.f_A, .int .i64 a1.f_B]), ((1, 0), .tok), ((2, 0), .one [.int .i64 (((a0.getD v39.toNat default).f_From).f_Kind), .int .i64 (((a0.getD v39.toNat default).f_From).f_A), .int .i64 (((a0.getD v39.toNat default).f_From).f_B), .int .i64 (((a0.getD v39.toNat default).f_To).f_Kind), .int .i64 (((a0.getD v39.toNat default).f_To).f_A), .int .i64 (((a0.getD v39.toNat default).f_To).f_B)])]) (n := 3) ?_ ?_
  ·exact jy (M := [((0, 0), (0, 0)), ((1, 0), (1, 0)), ((2, 0), (2, 0))]) rfl (And.intro (Vw.same _ rfl) (And.intro (Vw.ptr _ _ _ _ rfl) (And.intro (Vw.osl _ _ _ _ rfl) (And.intro (Vw.same _ rfl) (And.intro (Vw.ptr _ _ _ _ rfl) (And.intro (Vw.same _ rfl) (And.intro (Vw.same _ rfl) (And.intro (Vw.same _ rfl) (And.intro (Vw.same _ rfl) trivial))))))))) (And.intro (And.intro rfl (BVw.oneL (And.intro (Vw.same _ rfl) (And.intro (Vw.same _ rfl) (And.intro (Vw.same _ rfl) trivial))))) (And.intro (And.intro rfl BVw.tok) (And.intro (And.intro rfl (BVw.oneL (And.intro (Vw.same _ rfl) (And.intro (Vw.same _ rfl) (And.intro (Vw.same _ rfl) (And.intro (Vw.same _ rfl) (And.intro (Vw.same _ rfl) (And.intro (Vw.same _ rfl) trivial)))))))) trivial)))
  refine w7 (v := ((((((a0.getD v39.toNat default).f_From).f_Kind == a1.f_Kind) && ((((a0.getD v39.toNat default).f_From).f_A == a1.f_A) && ((((a0.getD v39.toNat default).f_From).f_B == a1.f_B) && true))) || v44) && (!v45))) rfl trivial (fun h55 => ?_) (fun h55 => ?_)
  ·have h := qq h55 h
   refine yq ?_
   refine qw ?_
   obtain ⟨h56, h⟩ := yz h
   refine Exists.intro ((v37 ++ ([(G_QKey.mk (((a0.getD v39.toNat default).f_To).f_Kind) (((a0.getD v39.toNat default).f_To).f_A) (((a0.getD v39.toNat default).f_To).f_B))] : List G_QKey)).map z6) (And.intro (Ux z6 v37 ([(G_QKey.mk (((a0.getD v39.toNat default).f_To).f_Kind) (((a0.getD v39.toNat default).f_To).f_A) (((a0.getD v39.toNat default).f_To).f_B))] : List G_QKey)) (And.intro h56 ?_))
   refine qw ?_
   refine LWp.sim ?_ (z07 h)
   exact jy (M := [((0, 0), (0, 0)), ((1, 0), (3, 0))]) rfl (And.intro (Vw.same _ rfl) (And.intro (Vw.ptr _ _ _ _ rfl) (And.intro (Vw.osl _ _ _ _ rfl) (And.intro (Vw.same _ rfl) (And.intro (Vw.same _ rfl) (And.intro (Vw.same _ rfl) (And.intro (Vw.same _ rfl) trivial))))))) (And.intro (And.intro rfl (BVw.oneL (And.intro (Vw.same _ rfl) (And.intro (Vw.same _ rfl) (And.intro (Vw.same _ rfl) trivial))))) (And.intro (And.intro rfl BVw.tok) trivial))
  ·have h := xm h55 h
   refine wg ?_
   refine LWp.sim ?_ (z07 h)
   exact jy (M := [((0, 0), (0, 0)), ((1, 0), (1, 0))]) rfl (And.intro (Vw.same _ rfl) (And.intro (Vw.ptr _ _ _ _ rfl) (And.intro (Vw.osl _ _ _ _ rfl) (And.intro (Vw.same _ rfl) (And.intro (Vw.same _ rfl) (And.intro (Vw.same _ rfl) (And.intro (Vw.same _ rfl) trivial))))))) (And.intro (And.intro rfl (BVw.oneL (And.intro (Vw.same _ rfl) (And.intro (Vw.same _ rfl) (And.intro (Vw.same _ rfl) trivial))))) (And.intro (And.intro rfl BVw.tok) trivial))
 ·have h := xm h51 h
  refine Xw ?_
  obtain ⟨o, hq, rfl⟩ := Option.map_eq_some_iff.1 h
  replace h := hq; clear hq
  refine And.intro nofun ?_
  cases h
  exact And.intro rfl (jy (M := [((0, 0), (0, 0)), ((1, 0), (1, 0))]) rfl (And.intro (Vw.same _ rfl) (And.intro (Vw.ptr _ _ _ _ rfl) (And.intro (Vw.osl _ _ _ _ rfl) (And.intro (Vw.same _ rfl) trivial)))) (And.intro (And.intro rfl (BVw.oneL (And.intro (Vw.same _ rfl) (And.intro (Vw.same _ rfl) (And.intro (Vw.same _ rfl) trivial))))) (And.intro (And.intro rfl BVw.tok) trivial)))
theorem zav {a0 : List G_QEdge} {a1 : G_QKey} {v37 : List G_QKey} {v38 : Bool} {v39 : Int} {m : Option Nat} {o : (((List G_QKey) × Bool) ⊕ (List G_QKey))} (h : yj m a0 a1 v37 v38 v39 = some o) :
 LWp Try.prog kr 0 (.loop z7c) (xn 2 (xn 1 (kg 0 2 (Y3 a0 a1) (Qf a0 a1) (J1 a0 a1) o))) [(0, .isl 6 (a0.map z7) false), (3, .ptr (0, 0) 0 0), (5, .osl (1, 0) 3 (v37.map z6)), (6, .bool v38), (10, .isl 6 (a0.map z7) false), (11, .int .i64 ((a0.map z7).length : Int)), (12, .int .i64 v39)] [((0, 0), .one [.int .i64 a1.f_Kind, .int .i64 a1.f_A, .int .i64 a1.f_B]), ((1, 0), .tok)] 2 :=
 jf (m := m) (s := ((v37, v38, v39) : ((List G_QKey) × Bool × Int))) (r := o) (fun (s : ((List G_QKey) × Bool × Int)) => y6 m a0 a1 s.1 s.2.1 s.2.2) (Xd a0 a1) (Jn a0 a1) (U0 a0 a1) (fun s o h => z5n h) h
noncomputable def yx (m : Option Nat) (v16 : List G_QKey) : Option (List G_QKey) :=
 (qu m v16).bind fun v48 =>
 some v48
noncomputable def zj (m : Option Nat) (a0 : List G_QEdge) (a1 : G_QKey) (v16 : List G_QKey) (v17 : Bool) : Option (((List G_QKey) × Bool) ⊕ (List G_QKey)) :=
 if v17 = true then
  yj m a0 a1 v16 false 0
 else
  Option.map Sum.inr (
   yx m v16)
noncomputable def yi (m : Option Nat) (a0 : List G_QEdge) (a1 : G_QKey) (v16 : List G_QKey) (v17 : Bool) : Option (List G_QKey) := uv m (fun (s : ((List G_QKey) × Bool)) => zj m a0 a1 s.1 s.2) (v16, v17)
theorem z67 {a0 : List G_QEdge} {a1 : G_QKey} {v16 : List G_QKey} {m : Option Nat} {o : (List G_QKey)} (h : yx m v16 = some o) :
 LWp Try.prog kr 0 z3z (zcf a0 a1 o) [(5, .osl (0, 0) 3 (v16.map z6))] [((0, 0), .tok)] 1 := by
 unfold yx at h
 refine yq ?_
 refine qw ?_
 obtain ⟨v48, h57, h⟩ := bind_some h
 refine PFn.call (zic h57) (And.intro (Vw.oslI _ _ _) trivial) ?_
 refine Ye ?_
 cases h
 exact And.intro trivial (And.intro rfl (Vw.same _ rfl))
theorem z6h {a0 : List G_QEdge} {a1 : G_QKey} {v16 : List G_QKey} {v17 : Bool} {m : Option Nat} {o : ((List G_QKey) × Bool) ⊕ (List G_QKey)} (h : zj m a0 a1 v16 v17 = some o) :
 LWp Try.prog kr 0 z83 (kg 0 2 (Y3 a0 a1) (Qf a0 a1) (J1 a0 a1) o) [(0, .isl 6 (a0.map z7) false), (3, .ptr (0, 0) 0 0), (5, .osl (1, 0) 3 (v16.map z6)), (6, .bool v17)] [((0, 0), .one [.int .i64 a1.f_Kind, .int .i64 a1.f_A, .int .i64 a1.f_B]), ((1, 0), .tok)] 2 := by
 unfold zj at h
 refine yq ?_
 refine yq ?_
 refine qw ?_
 refine w7 (v := v17) rfl trivial (fun h38 => ?_) (fun h38 => ?_)
 ·have h := qq h38 h
  refine wg ?_
  refine jm ?_
  refine yq ?_
  refine qw ?_
  refine yq ?_
  refine qw ?_
  refine jm ?_
  refine LWp.sim ?_ (zav h)
  exact jy (M := [((0, 0), (0, 0)), ((1, 0), (1, 0))]) rfl (And.intro (Vw.same _ rfl) (And.intro (Vw.ptr _ _ _ _ rfl) (And.intro (Vw.osl _ _ _ _ rfl) (And.intro (Vw.same _ rfl) (And.intro (Vw.same _ rfl) (And.intro (Vw.same _ rfl) (And.intro (Vw.same _ rfl) trivial))))))) (And.intro (And.intro rfl (BVw.oneL (And.intro (Vw.same _ rfl) (And.intro (Vw.same _ rfl) (And.intro (Vw.same _ rfl) trivial))))) (And.intro (And.intro rfl BVw.tok) trivial))
 ·have h := xm h38 h
  refine Xw ?_
  obtain ⟨o, hq, rfl⟩ := Option.map_eq_some_iff.1 h
  replace h := hq; clear hq
  refine And.intro nofun ?_
  refine LWp.sim ?_ (z67 h)
  exact jy (M := [((0, 0), (1, 0))]) rfl (And.intro (Vw.osl _ _ _ _ rfl) trivial) (And.intro (And.intro rfl BVw.tok) trivial)
theorem z82 {a0 : List G_QEdge} {a1 : G_QKey} {v16 : List G_QKey} {v17 : Bool} {m : Option Nat} {o : (List G_QKey)} (h : yi m a0 a1 v16 v17 = some o) :
 LWp Try.prog kr 0 (.loop z83) (xn 0 (Xf Try.prog kr 0 z3z (zcf a0 a1 o))) [(0, .isl 6 (a0.map z7) false), (3, .ptr (0, 0) 0 0), (5, .osl (1, 0) 3 (v16.map z6)), (6, .bool v17)] [((0, 0), .one [.int .i64 a1.f_Kind, .int .i64 a1.f_A, .int .i64 a1.f_B]), ((1, 0), .tok)] 2 :=
 jf (m := m) (s := ((v16, v17) : ((List G_QKey) × Bool))) (r := o) (fun (s : ((List G_QKey) × Bool)) => zj m a0 a1 s.1 s.2) (Y3 a0 a1) (Qf a0 a1) (J1 a0 a1) (fun s o h => z6h h) h
noncomputable def q7 (m : Option Nat) (a0 : List G_QEdge) (a1 : G_QKey) : Option (List G_QKey) :=
 yi m a0 a1 [] true
theorem z95 {a0 : List G_QEdge} {a1 : G_QKey} {m : Option Nat} {o : (List G_QKey)} (h : q7 m a0 a1 = some o) : LWp Try.prog kr 0 zdu (zcf a0 a1 o) (qz 0 [.isl 6 (a0.map z7) false, .agg [.int .i64 a1.f_Kind, .int .i64 a1.f_A, .int .i64 a1.f_B]]) [] 0 := by
 unfold q7 at h
 refine yq ?_
 refine qw ?_
 refine yq ?_
 refine qw ?_
 refine yq ?_
 refine yq ?_
 refine qw ?_
 refine jm ?_
 refine LWp.sim ?_ (z82 h)
 exact jy (M := [((0, 0), (0, 0))]) rfl (And.intro (Vw.same _ rfl) (And.intro (Vw.ptr _ _ _ _ rfl) (And.intro (Vw.nilO _ _ (by decide)) (And.intro (Vw.same _ rfl) trivial)))) (And.intro (And.intro rfl (BVw.oneL (And.intro (Vw.same _ rfl) (And.intro (Vw.same _ rfl) (And.intro (Vw.same _ rfl) trivial))))) (And.intro (And.intro rfl (And.intro (by decide) (by decide))) trivial))
theorem zdk {a0 : List G_QEdge} {a1 : G_QKey} {m : Option Nat} {o : (List G_QKey)} (h : q7 m a0 a1 = some o) : PFn Try.prog 10 [.isl 6 (a0.map z7) false, .agg [.int .i64 a1.f_Kind, .int .i64 a1.f_A, .int .i64 a1.f_B]] (.isl 3 (o.map z6) false) := PFn.ofFnW (L := zgx) zgb zei (Nat.le_of_ble_eq_true rfl) rfl (z95 h)
def z7d : LCode := (.seq (.region [⟨some 9, .bin .lss (.t 8) (.t 7), none⟩])
 (.seq (.cond (.t 9)
  .skip
  (.exit 0))
 (.seq (.block 1
  (.seq (.region [⟨some 10, .iaddr 6 (.t 6) (.t 8), none⟩,
   ⟨some 11, .load true 6 (.t 10), none⟩,
   ⟨some 5, .alloc [(.int .i64 0), (.int .i64 0), (.int .i64 0), (.int .i64 0), (.int .i64 0), (.int .i64 0)], none⟩,
   ⟨none, .store 6 (.t 5) (.t 11), none⟩])
  (.region [⟨some 12, .mv (.t 3), none⟩,
   ⟨some 13, .faddr 3 (.t 5), none⟩,
   ⟨some 14, .load true 3 (.t 13), none⟩,
   ⟨some 15, .faddr 0 (.t 5), none⟩,
   ⟨some 16, .load true 3 (.t 15), none⟩,
   ⟨some 17, .build [(.int .i64 0), (.int .i64 0), (.int .i64 0), (.int .i64 0), (.int .i64 0), (.int .i64 0)] [(0, 3, (.t 14)), (3, 3, (.t 16))], none⟩,
   ⟨some 18, .mkSl true 6 [(.int .i64 0), (.int .i64 0), (.int .i64 0), (.int .i64 0), (.int .i64 0), (.int .i64 0)] 1 [(0, (.t 17))], none⟩,
   ⟨some 19, .app true 6 48 (.t 12) (.t 18), none⟩,
   ⟨some 3, .mv (.t 19), none⟩])))
 (.region [⟨some 20, .bin .add (.t 8) (.c (.int .i64 1)), none⟩,
  ⟨some 8, .mv (.t 20), none⟩]))))
def z52 : LCode := (.seq (.region [⟨some 21, .mv (.t 3), none⟩,
 ⟨some 2, .mv (.t 21), none⟩])
 .ret)
def ze3 : LCode := (.seq (.region [⟨some 2, .mv (.c (.val (.slice none 0 0))), none⟩])
 (.seq (.region [⟨some 3, .mv (.c (.val (.slice none 0 0))), none⟩])
 (.seq (.seq (.region [⟨some 6, .mv (.t 0), none⟩,
  ⟨some 7, .len false (.t 6), none⟩,
  ⟨some 8, .mv (.c (.int .i64 0)), none⟩])
 (.block 0
  (.loop
   z7d)))
 z52)))
def Yx : Lay := ⟨22, [], false⟩
def z8a : List LRes := [.t 2]
def zhz : LFn := ⟨1, Yx, ze3, z8a⟩
theorem zg9 : wy Try.prog [] 12 = some zhz := by kernel_rfl
theorem zfd : Yf Try.prog 12 := ⟨_, Try.func12, rfl, rfl⟩
def zbf (a0 : List G_QEdge) (o : (List G_QEdge)) : Exit → Env → AHeap → Nat → Prop := Wt z8a (jp (.isl 6 (o.map z7) false))
def Kd (a0 : List G_QEdge) (s : ((List G_QEdge) × Int)) : Env := [(3, .osl (0, 0) 6 (s.1.map z7)), (6, .isl 6 (a0.map z7) false), (7, .int .i64 ((a0.map z7).length : Int)), (8, .int .i64 s.2)]
def z1i (a0 : List G_QEdge) (s : ((List G_QEdge) × Int)) : AHeap := [((0, 0), .tok)]
def z4o (a0 : List G_QEdge) (o : (List G_QEdge)) : Exit → Env → AHeap → Nat → Prop := (xn 0 (Xf Try.prog Yx 0 z52 (zbf a0 o)))
noncomputable def x3 (m : Option Nat) (v1 : List G_QEdge) : Option (List G_QEdge) :=
 some v1
noncomputable def yu (m : Option Nat) (a0 : List G_QEdge) (v1 : List G_QEdge) (v2 : Int) : Option (((List G_QEdge) × Int) ⊕ (List G_QEdge)) :=
 if (decide (v2 < ((a0.map z7).length : Int))) = true then
  if (0 : Int) ≤ v2 ∧ v2 < ((a0.map z7).length : Int) then
  if ((v1 ++ ([(G_QEdge.mk (G_QKey.mk (((a0.getD v2.toNat default).f_To).f_Kind) (((a0.getD v2.toNat default).f_To).f_A) (((a0.getD v2.toNat default).f_To).f_B)) (G_QKey.mk (((a0.getD v2.toNat default).f_From).f_Kind) (((a0.getD v2.toNat default).f_From).f_A) (((a0.getD v2.toNat default).f_From).f_B)))] : List G_QEdge)).map z7).length * 48 ≤ 140737488355328 then
  some (.inl ((v1 ++ ([(G_QEdge.mk (G_QKey.mk (((a0.getD v2.toNat default).f_To).f_Kind) (((a0.getD v2.toNat default).f_To).f_A) (((a0.getD v2.toNat default).f_To).f_B)) (G_QKey.mk (((a0.getD v2.toNat default).f_From).f_Kind) (((a0.getD v2.toNat default).f_From).f_A) (((a0.getD v2.toNat default).f_From).f_B)))] : List G_QEdge)), (W (v2 + 1))))
  else none
  else none
 else
  Option.map Sum.inr (
   x3 m v1)
noncomputable def ql (m : Option Nat) (a0 : List G_QEdge) (v1 : List G_QEdge) (v2 : Int) : Option (List G_QEdge) := uv m (fun (s : ((List G_QEdge) × Int)) => yu m a0 s.1 s.2) (v1, v2)
theorem zb0 {a0 : List G_QEdge} {v1 : List G_QEdge} {m : Option Nat} {o : (List G_QEdge)} (h : x3 m v1 = some o) :
 LWp Try.prog Yx 0 z52 (zbf a0 o) [(3, .osl (0, 0) 6 (v1.map z7))] [((0, 0), .tok)] 1 := by
 unfold x3 at h
 refine yq ?_
 refine qw ?_
 refine Ye ?_
 cases h
 exact And.intro trivial (And.intro rfl (Vw.oslI _ _ _))
theorem z6l {a0 : List G_QEdge} {v1 : List G_QEdge} {v2 : Int} {m : Option Nat} {o : ((List G_QEdge) × Int) ⊕ (List G_QEdge)} (h : yu m a0 v1 v2 = some o) :
 LWp Try.prog Yx 0 z7d (kg 0 1 (Kd a0) (z1i a0) (z4o a0) o) [(3, .osl (0, 0) 6 (v1.map z7)), (6, .isl 6 (a0.map z7) false), (7, .int .i64 ((a0.map z7).length : Int)), (8, .int .i64 v2)] [((0, 0), .tok)] 1 := by
 unfold yu at h
 refine yq ?_
 refine qw ?_
 refine yq ?_
 refine w7 (v := (decide (v2 < ((a0.map z7).length : Int)))) rfl trivial (fun h7 => ?_) (fun h7 => ?_)
 ·have h := qq h7 h
  refine wg ?_
  refine yq ?_
  refine jm ?_
  refine yq ?_
  refine qw ?_
  obtain ⟨h8, h⟩ := yz h
  refine And.intro h8 ?_
  refine Exists.intro (z7 (a0.getD v2.toNat default)) (And.intro (jk z7 _ _ (ku z7 h8)) (And.intro (And.intro (Yj h8) (Nat.le_of_ble_eq_true rfl)) ?_))
  refine qw ?_
  obtain ⟨h9, h⟩ := yz h
  refine Exists.intro ((v1 ++ ([(G_QEdge.mk (G_QKey.mk (((a0.getD v2.toNat default).f_To).f_Kind) (((a0.getD v2.toNat default).f_To).f_A) (((a0.getD v2.toNat default).f_To).f_B)) (G_QKey.mk (((a0.getD v2.toNat default).f_From).f_Kind) (((a0.getD v2.toNat default).f_From).f_A) (((a0.getD v2.toNat default).f_From).f_B)))] : List G_QEdge)).map z7) (And.intro (Ux z7 v1 ([(G_QEdge.mk (G_QKey.mk (((a0.getD v2.toNat default).f_To).f_Kind) (((a0.getD v2.toNat default).f_To).f_A) (((a0.getD v2.toNat default).f_To).f_B)) (G_QKey.mk (((a0.getD v2.toNat default).f_From).f_Kind) (((a0.getD v2.toNat default).f_From).f_A) (((a0.getD v2.toNat default).f_From).f_B)))] : List G_QEdge)) (And.intro h9 ?_))
  refine LWp.sim (e := [(3, .osl (0, 0) 6 ((v1 ++ ([(G_QEdge.mk (G_QKey.mk (((a0.getD v2.toNat default).f_To).f_Kind) (((a0.getD v2.toNat default).f_To).f_A) (((a0.getD v2.toNat default).f_To).f_B)) (G_QKey.mk (((a0.getD v2.toNat default).f_From).f_Kind) (((a0.getD v2.toNat default).f_From).f_A) (((a0.getD v2.toNat default).f_From).f_B)))] : List G_QEdge)).map z7)), (6, .isl 6 (a0.map z7) false), (7, .int .i64 ((a0.map z7).length : Int)), (8, .int .i64 v2)]) (L := [((0, 0), .tok)]) (n := 1) ?_ ?_
  ·exact jy (M := [((0, 0), (2, 0))]) rfl (And.intro (Vw.osl _ _ _ _ rfl) (And.intro (Vw.same _ rfl) (And.intro (Vw.same _ rfl) (And.intro (Vw.same _ rfl) trivial)))) (And.intro (And.intro rfl BVw.tok) trivial)
  refine qw ?_
  cases h
  exact And.intro rfl (jy (M := [((0, 0), (0, 0))]) rfl (And.intro (Vw.osl _ _ _ _ rfl) (And.intro (Vw.same _ rfl) (And.intro (Vw.same _ rfl) (And.intro (Vw.same _ rfl) trivial)))) (And.intro (And.intro rfl BVw.tok) trivial))
 ·have h := xm h7 h
  refine Xw ?_
  obtain ⟨o, hq, rfl⟩ := Option.map_eq_some_iff.1 h
  replace h := hq; clear hq
  refine And.intro nofun ?_
  refine LWp.sim ?_ (zb0 h)
  exact jy (M := [((0, 0), (0, 0))]) rfl (And.intro (Vw.osl _ _ _ _ rfl) trivial) (And.intro (And.intro rfl BVw.tok) trivial)
theorem z8x {a0 : List G_QEdge} {v1 : List G_QEdge} {v2 : Int} {m : Option Nat} {o : (List G_QEdge)} (h : ql m a0 v1 v2 = some o) :
 LWp Try.prog Yx 0 (.loop z7d) (xn 0 (Xf Try.prog Yx 0 z52 (zbf a0 o))) [(3, .osl (0, 0) 6 (v1.map z7)), (6, .isl 6 (a0.map z7) false), (7, .int .i64 ((a0.map z7).length : Int)), (8, .int .i64 v2)] [((0, 0), .tok)] 1 :=
 jf (m := m) (s := ((v1, v2) : ((List G_QEdge) × Int))) (r := o) (fun (s : ((List G_QEdge) × Int)) => yu m a0 s.1 s.2) (Kd a0) (z1i a0) (z4o a0) (fun s o h => z6l h) h
noncomputable def qi (m : Option Nat) (a0 : List G_QEdge) : Option (List G_QEdge) :=
 ql m a0 [] 0
theorem z9u {a0 : List G_QEdge} {m : Option Nat} {o : (List G_QEdge)} (h : qi m a0 = some o) : LWp Try.prog Yx 0 ze3 (zbf a0 o) (qz 0 [.isl 6 (a0.map z7) false]) [] 0 := by
 unfold qi at h
 refine yq ?_
 refine qw ?_
 refine yq ?_
 refine qw ?_
 refine yq ?_
 refine yq ?_
 refine qw ?_
 refine jm ?_
 refine LWp.sim ?_ (z8x h)
 exact jy (M := []) rfl (And.intro (Vw.nilO _ _ (by decide)) (And.intro (Vw.same _ rfl) (And.intro (Vw.same _ rfl) (And.intro (Vw.same _ rfl) trivial)))) (And.intro (And.intro rfl (And.intro (by decide) (by decide))) trivial)
theorem zhc {a0 : List G_QEdge} {m : Option Nat} {o : (List G_QEdge)} (h : qi m a0 = some o) : PFn Try.prog 12 [.isl 6 (a0.map z7) false] (.isl 6 (o.map z7) false) := PFn.ofFnW (L := zhz) zg9 zfd (Nat.le_of_ble_eq_true rfl) rfl (z9u h)
def zgr : LCode := (.seq (.region [⟨some 3, .box (.t 1), none⟩,
 ⟨some 4, .mv (.c (.bool false)), none⟩])
 (.seq (.seq (.region [⟨some 5, .call 7 [], none⟩,
  ⟨some 6, .un .not (.t 5), none⟩])
 (.cond (.t 6)
  (.seq (.region [⟨some 4, .mv (.c (.bool false)), none⟩])
  .ret)
  .skip))
 (.seq (.region [⟨some 7, .mv (.t 0), none⟩,
  ⟨some 8, .mv (.t 0), none⟩,
  ⟨some 9, .len false (.t 8), none⟩,
  ⟨some 10, .mnx false [(.t 9), (.c (.int .i64 30))], none⟩,
  ⟨some 11, .slSl 6 (.t 7) none (some (.t 10)) none, none⟩,
  ⟨some 0, .mv (.t 11), none⟩])
 (.seq (.draw [⟨⟨some 12, .call 7 [], none⟩, []⟩,
  ⟨⟨some 13, .mv (.t 12), none⟩, []⟩,
  ⟨⟨some 14, .mv (.t 0), some (13, true)⟩, []⟩,
  ⟨⟨some 15, .load true 3 (.t 3), some (13, true)⟩, []⟩,
  ⟨⟨some 17, .mv (.t 0), some (13, true)⟩, []⟩,
  ⟨⟨some 18, .load true 3 (.t 3), some (13, true)⟩, []⟩,
  ⟨⟨some 16, .call 9 [(.t 14), (.t 15)], some (13, true)⟩, [5]⟩,
  ⟨⟨some 19, .call 10 [(.t 17), (.t 18)], some (13, true)⟩, []⟩,
  ⟨⟨some 20, .call 8 [(.t 16), (.t 19)], some (13, true)⟩, []⟩,
  ⟨⟨some 21, .pick (.t 13) (.t 20) (.c (.bool false)), none⟩, []⟩,
  ⟨⟨some 22, .mv (.t 21), none⟩, []⟩,
  ⟨⟨some 23, .mv (.t 0), some (22, true)⟩, []⟩,
  ⟨⟨some 24, .load true 3 (.t 3), some (22, true)⟩, []⟩,
  ⟨⟨some 26, .mv (.t 0), some (22, true)⟩, []⟩,
  ⟨⟨some 28, .load true 3 (.t 3), some (22, true)⟩, []⟩,
  ⟨⟨some 25, .call 11 [(.t 23), (.t 24)], some (22, true)⟩, [14]⟩,
  ⟨⟨some 27, .call 12 [(.t 26)], some (22, true)⟩, [14]⟩,
  ⟨⟨some 29, .call 10 [(.t 27), (.t 28)], some (22, true)⟩, []⟩,
  ⟨⟨some 30, .call 8 [(.t 25), (.t 29)], some (22, true)⟩, []⟩,
  ⟨⟨some 31, .pick (.t 22) (.t 30) (.c (.bool false)), none⟩, []⟩,
  ⟨⟨some 4, .mv (.t 31), none⟩, []⟩])
 .ret))))
def ze5 : Lay := ⟨32, [], false⟩
def ze0 : List LRes := [.t 4]
def zjk : LFn := ⟨2, ze5, zgr, ze0⟩
theorem zgl : wy Try.prog [] 3 = some zjk := by kernel_rfl
theorem zho : Yf Try.prog 3 := ⟨_, Try.func3, rfl, rfl⟩
noncomputable def zq (m : Option Nat) (a0 : List G_QEdge) (a1 : G_QKey) : Option Bool :=
 (y5 m).bind fun v1 =>
 if (!v1) = true then
  some false
 else
  if (0 : Int) ≤ (if 30 < ((a0.map z7).length : Int) then 30 else ((a0.map z7).length : Int)) ∧ (if 30 < ((a0.map z7).length : Int) then 30 else ((a0.map z7).length : Int)) ≤ ((a0.map z7).length : Int) then
  (y5 m).bind fun v2 =>
  (if (v2 == true) = true then yf m (a0.take (if 30 < ((a0.map z7).length : Int) then 30 else ((a0.map z7).length : Int)).toNat) a1 else some default).bind fun v3 =>
  (if (v2 == true) = true then q7 m (a0.take (if 30 < ((a0.map z7).length : Int) then 30 else ((a0.map z7).length : Int)).toNat) a1 else some default).bind fun v4 =>
  (if (v2 == true) = true then zf m v3 v4 else some default).bind fun v5 =>
  (if ((v2 && v5) == true) = true then yr m (a0.take (if 30 < ((a0.map z7).length : Int) then 30 else ((a0.map z7).length : Int)).toNat) a1 else some default).bind fun v6 =>
  (if ((v2 && v5) == true) = true then qi m (a0.take (if 30 < ((a0.map z7).length : Int) then 30 else ((a0.map z7).length : Int)).toNat) else some default).bind fun v7 =>
  (if ((v2 && v5) == true) = true then q7 m v7 a1 else some default).bind fun v8 =>
  (if ((v2 && v5) == true) = true then zf m v6 v8 else some default).bind fun v9 =>
  some ((v2 && v5) && v9)
  else none
def zjy (a0 : List G_QEdge) (a1 : G_QKey) (o : Bool) : Exit → Env → AHeap → Nat → Prop := Wt ze0 (jp (.bool o))
theorem zcz {a0 : List G_QEdge} {a1 : G_QKey} {m : Option Nat} {o : Bool} (h : zq m a0 a1 = some o) : LWp Try.prog ze5 0 zgr (zjy a0 a1 o) (qz 0 [.isl 6 (a0.map z7) false, .agg [.int .i64 a1.f_Kind, .int .i64 a1.f_A, .int .i64 a1.f_B]]) [] 0 := by
 unfold zq at h
 refine yq ?_
 refine qw ?_
 refine yq ?_
 refine yq ?_
 refine qw ?_
 obtain ⟨v1, h1, h⟩ := bind_some h
 refine PFn.call (zh4 h1) trivial ?_
 refine w7 (v := (!v1)) rfl trivial (fun h2 => ?_) (fun h2 => ?_)
 ·have h := qq h2 h
  refine yq ?_
  refine qw ?_
  refine Ye ?_
  cases h
  exact And.intro trivial (And.intro rfl (Vw.same _ rfl))
 ·have h := xm h2 h
  refine wg ?_
  refine yq ?_
  refine qw ?_
  obtain ⟨h3, h⟩ := yz h
  refine Exists.intro (.isl 6 ((a0.take (if 30 < ((a0.map z7).length : Int) then 30 else ((a0.map z7).length : Int)).toNat).map z7) false) (And.intro (zfh z7 (slB z7 a0 _) rfl) (And.intro (And.intro rfl (And.intro (Int.le_refl _) h3)) ?_))
  refine LWp.sim (e := [(0, .isl 6 ((a0.take (if 30 < ((a0.map z7).length : Int) then 30 else ((a0.map z7).length : Int)).toNat).map z7) false), (3, .ptr (0, 0) 0 0)]) (L := [((0, 0), .one [.int .i64 a1.f_Kind, .int .i64 a1.f_A, .int .i64 a1.f_B])]) (n := 1) ?_ ?_
  ·exact jy (M := [((0, 0), (0, 0))]) rfl (And.intro (Vw.same _ rfl) (And.intro (Vw.ptr _ _ _ _ rfl) trivial)) (And.intro (And.intro rfl (BVw.oneL (And.intro (Vw.same _ rfl) (And.intro (Vw.same _ rfl) (And.intro (Vw.same _ rfl) trivial))))) trivial)
  refine yq ?_
  refine Vb ?_
  obtain ⟨v2, h4, h⟩ := bind_some h
  refine PFn.call (zh4 h4) trivial ?_
  obtain ⟨v3, h5, h⟩ := bind_some h
  refine Or.inl (Exists.intro (.isl 3 (v3.map z6) false) (And.intro (fun hp => And.intro (And.intro hp hp) (PFn.call (zgt (qq hp h5)) (And.intro (Vw.same _ rfl) (And.intro (Vw.same _ rfl) trivial)) (And.intro rfl (And.intro rfl rfl)))) ?_))
  refine And.intro (And.intro rfl (fun hp => rfl)) ?_
  obtain ⟨v4, h6, h⟩ := bind_some h
  refine Or.inl (Exists.intro (.isl 3 (v4.map z6) false) (And.intro (fun hp => And.intro (And.intro hp hp) (PFn.call (zdk (qq hp h6)) (And.intro (Vw.same _ rfl) (And.intro (Vw.same _ rfl) trivial)) (And.intro rfl (And.intro rfl rfl)))) ?_))
  obtain ⟨v5, h7, h⟩ := bind_some h
  refine Or.inl (Exists.intro (.bool v5) (And.intro (fun hp => And.intro (And.intro hp hp) (PFn.call (zd6 (qq hp h7)) (And.intro (Vw.same _ rfl) (And.intro (Vw.same _ rfl) trivial)) (And.intro rfl (And.intro rfl rfl)))) ?_))
  refine And.intro (fun hc => (bqt hc)) ?_
  show yd _ _ _ _ _ [(21, .bool (v2 && v5)), (20, .cnd (v2 == true) (.bool v5)), (19, .cnd (v2 == true) (.isl 3 (v4.map z6) false)), (16, .cnd (v2 == true) (.isl 3 (v3.map z6) false)), (18, .cnd (v2 == true) (.agg [.int .i64 a1.f_Kind, .int .i64 a1.f_A, .int .i64 a1.f_B])), (17, .cnd (v2 == true) (.isl 6 ((a0.take (if 30 < ((a0.map z7).length : Int) then 30 else ((a0.map z7).length : Int)).toNat).map z7) false)), (15, .cnd (v2 == true) (.agg [.int .i64 a1.f_Kind, .int .i64 a1.f_A, .int .i64 a1.f_B])), (14, .cnd (v2 == true) (.isl 6 ((a0.take (if 30 < ((a0.map z7).length : Int) then 30 else ((a0.map z7).length : Int)).toNat).map z7) false)), (13, .bool v2), (12, .bool v2), (0, .isl 6 ((a0.take (if 30 < ((a0.map z7).length : Int) then 30 else ((a0.map z7).length : Int)).toNat).map z7) false), (3, .ptr (0, 0) 0 0)] _ _
  obtain ⟨v6, h8, h⟩ := bind_some h
  refine Or.inl (Exists.intro (.isl 3 (v6.map z6) false) (And.intro (fun hp => And.intro (And.intro hp hp) (PFn.call (ze4 (qq hp h8)) (And.intro (Vw.same _ rfl) (And.intro (Vw.same _ rfl) trivial)) (And.intro rfl (And.intro rfl rfl)))) ?_))
  refine And.intro (And.intro rfl (fun hp => rfl)) ?_
  obtain ⟨v7, h9, h⟩ := bind_some h
  refine Or.inl (Exists.intro (.isl 6 (v7.map z7) false) (And.intro (fun hp => And.intro hp (PFn.call (zhc (qq hp h9)) (And.intro (Vw.same _ rfl) trivial) (And.intro rfl (And.intro rfl rfl)))) ?_))
  refine And.intro (And.intro rfl (fun hp => rfl)) ?_
  obtain ⟨v8, h10, h⟩ := bind_some h
  refine Or.inl (Exists.intro (.isl 3 (v8.map z6) false) (And.intro (fun hp => And.intro (And.intro hp hp) (PFn.call (zdk (qq hp h10)) (And.intro (Vw.same _ rfl) (And.intro (Vw.same _ rfl) trivial)) (And.intro rfl (And.intro rfl rfl)))) ?_))
  obtain ⟨v9, h11, h⟩ := bind_some h
  refine Or.inl (Exists.intro (.bool v9) (And.intro (fun hp => And.intro (And.intro hp hp) (PFn.call (zd6 (qq hp h11)) (And.intro (Vw.same _ rfl) (And.intro (Vw.same _ rfl) trivial)) (And.intro rfl (And.intro rfl rfl)))) ?_))
  refine And.intro (fun hc => (bqt hc)) ?_
  show yd _ _ _ _ _ [(31, .bool ((v2 && v5) && v9)), (30, .cnd ((v2 && v5) == true) (.bool v9)), (29, .cnd ((v2 && v5) == true) (.isl 3 (v8.map z6) false)), (27, .cnd ((v2 && v5) == true) (.isl 6 (v7.map z7) false)), (25, .cnd ((v2 && v5) == true) (.isl 3 (v6.map z6) false)), (28, .cnd ((v2 && v5) == true) (.agg [.int .i64 a1.f_Kind, .int .i64 a1.f_A, .int .i64 a1.f_B])), (26, .cnd ((v2 && v5) == true) (.isl 6 ((a0.take (if 30 < ((a0.map z7).length : Int) then 30 else ((a0.map z7).length : Int)).toNat).map z7) false)), (24, .cnd ((v2 && v5) == true) (.agg [.int .i64 a1.f_Kind, .int .i64 a1.f_A, .int .i64 a1.f_B])), (23, .cnd ((v2 && v5) == true) (.isl 6 ((a0.take (if 30 < ((a0.map z7).length : Int) then 30 else ((a0.map z7).length : Int)).toNat).map z7) false)), (22, .bool (v2 && v5)), (21, .bool (v2 && v5)), (20, .cnd (v2 == true) (.bool v5)), (19, .cnd (v2 == true) (.isl 3 (v4.map z6) false)), (16, .cnd (v2 == true) (.isl 3 (v3.map z6) false)), (18, .cnd (v2 == true) (.agg [.int .i64 a1.f_Kind, .int .i64 a1.f_A, .int .i64 a1.f_B])), (17, .cnd (v2 == true) (.isl 6 ((a0.take (if 30 < ((a0.map z7).length : Int) then 30 else ((a0.map z7).length : Int)).toNat).map z7) false)), (15, .cnd (v2 == true) (.agg [.int .i64 a1.f_Kind, .int .i64 a1.f_A, .int .i64 a1.f_B])), (14, .cnd (v2 == true) (.isl 6 ((a0.take (if 30 < ((a0.map z7).length : Int) then 30 else ((a0.map z7).length : Int)).toNat).map z7) false)), (13, .bool v2), (12, .bool v2), (0, .isl 6 ((a0.take (if 30 < ((a0.map z7).length : Int) then 30 else ((a0.map z7).length : Int)).toNat).map z7) false), (3, .ptr (0, 0) 0 0)] _ _
  refine LWp.sim (e := [(4, .bool ((v2 && v5) && v9))]) (L := []) (n := 0) ?_ ?_
  ·exact jy (M := []) rfl (And.intro (Vw.same _ rfl) trivial) trivial
  refine Ye ?_
  cases h
  exact And.intro trivial (And.intro rfl (Vw.same _ rfl))
theorem zix {a0 : List G_QEdge} {a1 : G_QKey} {m : Option Nat} {o : Bool} (h : zq m a0 a1 = some o) : PFn Try.prog 3 [.isl 6 (a0.map z7) false, .agg [.int .i64 a1.f_Kind, .int .i64 a1.f_A, .int .i64 a1.f_B]] (.bool o) := PFn.ofFnW (L := zjk) zgl zho (Nat.le_of_ble_eq_true rfl) rfl (zcz h)
end Go.Proofs.Ytejfgjggcoemeaa
