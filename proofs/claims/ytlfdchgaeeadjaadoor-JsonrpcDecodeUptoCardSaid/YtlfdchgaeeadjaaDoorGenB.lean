/-
  Own text GenB of this claim: what functions of the given program compute, in plain Lean, and the proof; no condition.
-/
import Derived.Test.YtlfdchgaeeadjaaDoorGenA
namespace Go.Proofs.YtlfdchgaeeadjaaDoor
open Go.Fx
set_option linter.unusedVariables false
set_option maxHeartbeats 4000000
def z9n : LCode := (.seq (.seq (.region [Qm 42 5,
 Qm 43 42,
 Qn 44 6 (43, true),
 Qe 45 4 2 (43, true),
 Qk 46 1 45 (43, true),
 Qg 47 (.len false (.t 46)) (43, true),
 Qg 48 (.bin .lss (.t 44) (.t 47)) (43, true),
 Qp 49 43 48])
 (.cond (.t 49)
  .skip
  (.exit 0)))
 (.seq (.block 1
  (.draw [⟨Qf 52 4 2, []⟩,
   ⟨Ql 53 1 52, []⟩,
   ⟨Qm 54 6, []⟩,
   ⟨Qo 55 (.iaddr 5 (.t 53) (.t 54)), []⟩,
   ⟨Qt 56 5 55, []⟩,
   ⟨Qf 57 4 3, []⟩,
   ⟨Ql 58 1 57, []⟩,
   ⟨Qm 59 6, []⟩,
   ⟨Qo 60 (.iaddr 5 (.t 58) (.t 59)), []⟩,
   ⟨Qt 61 5 60, []⟩,
   ⟨Qo 62 (.call 9 [(.t 56), (.t 61)]), []⟩,
   ⟨Qm 5 62, []⟩]))
 (.region [Qm 50 6,
  Qo 51 (.bin .add (.t 50) (.c (i6 1))),
  Qm 6 51])))
def z4h : LCode := (.seq (.region [Qm 63 5,
 Qm 4 63])
 .ret)
def zjw : LCode := (.seq (.region [Qo 2 (.box (.t 0)),
 Qo 3 (.box (.t 1)),
 Qb 4])
 (.seq (.region [Qf 7 0 2,
  Ql 8 1 7,
  Qf 9 0 3,
  Ql 10 1 9,
  Qo 11 (.bin .eql (.t 8) (.t 10)),
  Qm 12 11,
  Qe 13 1 2 (12, true),
  Qk 14 1 13 (12, true),
  Qe 15 1 3 (12, true),
  Qk 16 1 15 (12, true),
  Qg 17 (.bin .eql (.t 14) (.t 16)) (12, true),
  Qp 18 12 17,
  Qm 19 18,
  Qe 20 2 2 (19, true),
  Qk 21 1 20 (19, true),
  Qe 22 2 3 (19, true),
  Qk 23 1 22 (19, true),
  Qg 24 (.bin .eql (.t 21) (.t 23)) (19, true),
  Qp 25 19 24,
  Qm 26 25,
  Qe 27 3 2 (26, true),
  Qk 28 1 27 (26, true),
  Qe 29 3 3 (26, true),
  Qk 30 1 29 (26, true),
  Qg 31 (.call 32 [(.t 28), (.t 30)]) (26, true),
  Qp 32 26 31,
  Qm 33 32,
  Qe 34 4 2 (33, true),
  Qk 35 1 34 (33, true),
  Qg 36 (.len false (.t 35)) (33, true),
  Qe 37 4 3 (33, true),
  Qk 38 1 37 (33, true),
  Qg 39 (.len false (.t 38)) (33, true),
  Qg 40 (.bin .eql (.t 36) (.t 39)) (33, true),
  Qp 41 33 40,
  Qm 5 41])
 (.seq (.seq (.region [Qi 6 0])
 (.block 0
  (.loop
   z9n)))
 z4h)))
def Xd : Lay := ⟨64, [], false⟩
def zbm : List LRes := [.t 4]
def zrk : LFn := ⟨2, Xd, zjw, zbm⟩
theorem zov : w9 Tryd.prog [] 9 = some zrk := by kernel_rfl
theorem zo3 : uk Tryd.prog 9 := ⟨_, Tryd.func9, rfl, rfl⟩
def zbv (a0 : GJ) (a1 : GJ) (o : Bool) : Exit → Env → AHeap → Nat → Prop := Zq zbm (Wg 3 3 (.bool o) [])
def z1r (a0 : GJ) (a1 : GJ) (s : (Bool × Int)) : Env := [(2, .ptr (3, 0) 0 0), (3, .ptr (4, 0) 0 0), (5, .bool s.1), (6, i6 s.2)]
def z2j (a0 : GJ) (a1 : GJ) (s : (Bool × Int)) : AHeap := [((3, 0), .one (z6 a0)), ((4, 0), .one (z6 a1))]
def z7k (a0 : GJ) (a1 : GJ) (o : Bool) : Exit → Env → AHeap → Nat → Prop := (xn 0 (X5 Tryd.prog Xd 3 z4h (zbv a0 a1 o)))
noncomputable def qy (rec7 : GJ → GJ → Option Bool) (m : Option Nat) (v5 : Bool) : Option Bool :=
 some v5
noncomputable def zq (rec7 : GJ → GJ → Option Bool) (m : Option Nat) (a0 : GJ) (a1 : GJ) (v5 : Bool) (v6 : Int) : Option ((Bool × Int) ⊕ Bool) :=
 if (v5 && (decide (v6 < ((a0.fE.map z8).length : Int)))) = true then
  if (0 : Int) ≤ v6 ∧ v6 < ((a0.fE.map z8).length : Int) then
  ((kq (a0.fE.getD v6.toNat default))).bind fun v10 =>
  if (0 : Int) ≤ v6 ∧ v6 < ((a1.fE.map z8).length : Int) then
  ((kq (a1.fE.getD v6.toNat default))).bind fun v11 =>
  (rec7 v10 v11).bind fun v12 =>
  some (.inl (v12, (W (v6 + 1))))
  else none
  else none
 else
  Option.map Sum.inr (
   qy rec7 m v5)
noncomputable def zr (rec7 : GJ → GJ → Option Bool) (m : Option Nat) (a0 : GJ) (a1 : GJ) (v5 : Bool) (v6 : Int) : Option Bool := Zu m (fun (s : (Bool × Int)) => zq rec7 m a0 a1 s.1 s.2) (v5, v6)
abbrev Hr7 (rec7 : GJ → GJ → Option Bool) : Prop := ∀ {a0 : GJ} {a1 : GJ} {o : Bool}, rec7 a0 a1 = some o → ACalls Tryd.prog 9 [.agg (z6 a0), .agg (z6 a1)] [] 3 (ki 3 (.bool o) [])
theorem zf6 {rec7 : GJ → GJ → Option Bool} (hrec7 : Hr7 rec7) {a0 : GJ} {a1 : GJ} {v5 : Bool} {m : Option Nat} {o : Bool} (h : qy rec7 m v5 = some o) :
 LWp Tryd.prog Xd 3 z4h (zbv a0 a1 o) [(5, .bool v5)] [] 3 := by
 unfold qy at h
 refine za (ze ?_)
 refine wh ?_
 cases h
 exact AI TT (z49 (n' := 3) [] [] rfl rfl (VS rfl) TT)
theorem zb1 {rec7 : GJ → GJ → Option Bool} (hrec7 : Hr7 rec7) {a0 : GJ} {a1 : GJ} {v5 : Bool} {v6 : Int} {m : Option Nat} {o : (Bool × Int) ⊕ Bool} (h : zq rec7 m a0 a1 v5 v6 = some o) :
 LWp Tryd.prog Xd 3 z9n (Zf 3 5 (z1r a0 a1) (z2j a0 a1) (z7k a0 a1) o) [(2, .ptr (3, 0) 0 0), (3, .ptr (4, 0) 0 0), (5, .bool v5), (6, i6 v6)] [((3, 0), .one (z6 a0)), ((4, 0), .one (z6 a1))] 5 := by
 unfold zq at h
 refine za ?_
 refine za (ze ?_)
 refine AI (fun hp => hp) ?_
 refine AI (fun hp => hp) ?_
 refine AI (fun hp => (AI hp hp)) ?_
 refine AI (fun hc => (bqt hc)) ?_
 refine LWp.sim (e := [(2, .ptr (3, 0) 0 0), (3, .ptr (4, 0) 0 0), (5, .bool v5), (6, i6 v6), (49, .bool (v5 && (decide (v6 < ((a0.fE.map z8).length : Int)))))]) (L := [((3, 0), .one (z6 a0)), ((4, 0), .one (z6 a1))]) (n := 5) ?_ ?_
 ·exact yp (M := [((3, 0), (3, 0)), ((4, 0), (4, 0))]) rfl (SP rfl (SP rfl (S2 rfl rfl (AI (VS rfl) TT)))) (AI (AI rfl (OL rfl)) (AI (AI rfl (OL rfl)) TT))
 refine yt (v := (v5 && (decide (v6 < ((a0.fE.map z8).length : Int))))) rfl TT (fun h14 => ?_) (fun h14 => ?_)
 ·have h := zf h14 h
  refine xq ?_
  refine za ?_
  refine xw ?_
  refine zve rfl ?_
  obtain ⟨h15, h⟩ := qj h
  refine AI h15 ?_
  obtain ⟨v10, h16, h⟩ := bind_some h
  refine EX (z6 v10) (AI (j1 (wy z8 h15) h16) (AI (AI (vw h15) (NB rfl)) ?_))
  obtain ⟨h17, h⟩ := qj h
  refine AI h17 ?_
  obtain ⟨v11, h18, h⟩ := bind_some h
  refine EX (z6 v11) (AI (j1 (wy z8 h17) h18) (AI (AI (vw h17) (NB rfl)) ?_))
  obtain ⟨v12, h19, h⟩ := bind_some h
  refine Xw (k := 3) (m := 0) (L' := []) (rest := [((3, 0), .one (z6 a0)), ((4, 0), .one (z6 a1))]) (R' := .bool v12) [] (hrec7 h19) rfl rfl rfl (S2 rfl rfl TT) TT (vj _ rfl) TT rfl ?_
  refine LWp.sim (e := [(2, .ptr (3, 0) 0 0), (3, .ptr (4, 0) 0 0), (5, .bool v12), (6, i6 v6)]) (L := [((3, 0), .one (z6 a0)), ((4, 0), .one (z6 a1))]) (n := 5) ?_ ?_
  ·exact yp (M := [((3, 0), (3, 0)), ((4, 0), (4, 0))]) rfl (SP rfl (SP rfl (S2 rfl rfl TT))) (AI (AI rfl (OL rfl)) (AI (AI rfl (OL rfl)) TT))
  refine ze ?_
  cases h
  exact AI rfl (yp (M := [((3, 0), (3, 0)), ((4, 0), (4, 0))]) rfl (SP rfl (SP rfl (S2 rfl rfl TT))) (AI (AI rfl (OL rfl)) (AI (AI rfl (OL rfl)) TT)))
 ·have h := zp h14 h
  refine Xm ?_
  obtain ⟨o, hq, rfl⟩ := Option.map_eq_some_iff.1 h
  replace h := hq; clear hq
  refine AI nofun ?_
  refine LWp.sim ?_ (zf6 hrec7 h)
  exact yp (M := []) rfl (AI (VS rfl) TT) TT
theorem zee {rec7 : GJ → GJ → Option Bool} (hrec7 : Hr7 rec7) {a0 : GJ} {a1 : GJ} {v5 : Bool} {v6 : Int} {m : Option Nat} {o : Bool} (h : zr rec7 m a0 a1 v5 v6 = some o) :
 LWp Tryd.prog Xd 3 (.loop z9n) (xn 0 (X5 Tryd.prog Xd 3 z4h (zbv a0 a1 o))) [(2, .ptr (3, 0) 0 0), (3, .ptr (4, 0) 0 0), (5, .bool v5), (6, i6 v6)] [((3, 0), .one (z6 a0)), ((4, 0), .one (z6 a1))] 5 :=
 w8 (m := m) (s := ((v5, v6) : (Bool × Int))) (r := o) (fun (s : (Bool × Int)) => zq rec7 m a0 a1 s.1 s.2) (z1r a0 a1) (z2j a0 a1) (z7k a0 a1) (fun s o h => zb1 hrec7 h) h
noncomputable def zj (rec7 : GJ → GJ → Option Bool) (m : Option Nat) (a0 : GJ) (a1 : GJ) : Option Bool :=
 (if ((((a0.fK == a1.fK) && (a0.fN == a1.fN)) && (a0.fT == a1.fT)) == true) = true then ya m a0.fA a1.fA else some default).bind fun v1 =>
 zr rec7 m a0 a1 (((((a0.fK == a1.fK) && (a0.fN == a1.fN)) && (a0.fT == a1.fT)) && v1) && (((a0.fE.map z8).length : Int) == ((a1.fE.map z8).length : Int))) 0
theorem zet {rec7 : GJ → GJ → Option Bool} (hrec7 : Hr7 rec7) {a0 : GJ} {a1 : GJ} {m : Option Nat} {o : Bool} (h : zj rec7 m a0 a1 = some o) : LWp Tryd.prog Xd 3 zjw (zbv a0 a1 o) (y5 0 [.agg (z6 a0), .agg (z6 a1)]) [] 3 := by
 unfold zj at h
 refine za (ze ?_)
 refine za (ze ?_)
 refine AI (fun hp => hp) ?_
 refine AI (fun hp => hp) ?_
 refine AI (fun hp => (AI hp hp)) ?_
 refine AI (fun hc => (bqt hc)) ?_
 refine AI (fun hp => hp) ?_
 refine AI (fun hp => hp) ?_
 refine AI (fun hp => (AI hp hp)) ?_
 refine AI (fun hc => (bqt hc)) ?_
 refine AI (fun hp => hp) ?_
 refine AI (fun hp => hp) ?_
 obtain ⟨v1, h1, h⟩ := bind_some h
 refine Or.inl (EX (.bool v1) (AI (fun hp => AI (AI hp hp) (PFn.call (zyd (zf hp h1)) (S2 rfl rfl TT) (AI rfl (AI rfl rfl)))) ?_))
 refine AI (fun hc => (bqt hc)) ?_
 refine AI (fun hp => hp) ?_
 refine AI (fun hp => hp) ?_
 refine AI (fun hp => hp) ?_
 refine AI (fun hp => hp) ?_
 refine AI (fun hp => (AI hp hp)) ?_
 refine AI (fun hc => (bqt hc)) ?_
 refine LWp.sim (e := [(2, .ptr (3, 0) 0 0), (3, .ptr (4, 0) 0 0), (5, .bool (((((a0.fK == a1.fK) && (a0.fN == a1.fN)) && (a0.fT == a1.fT)) && v1) && (((a0.fE.map z8).length : Int) == ((a1.fE.map z8).length : Int))))]) (L := [((3, 0), .one (z6 a0)), ((4, 0), .one (z6 a1))]) (n := 5) ?_ ?_
 ·exact yp (M := [((3, 0), (3, 0)), ((4, 0), (4, 0))]) rfl (SP rfl (SP rfl (AI (VS rfl) TT))) (AI (AI rfl (OL rfl)) (AI (AI rfl (OL rfl)) TT))
 refine za ?_
 refine za (ze ?_)
 refine xw ?_
 refine LWp.sim ?_ (zee hrec7 h)
 exact yp (M := [((3, 0), (3, 0)), ((4, 0), (4, 0))]) rfl (SP rfl (SP rfl (S2 rfl rfl TT))) (AI (AI rfl (OL rfl)) (AI (AI rfl (OL rfl)) TT))
theorem znq {rec7 : GJ → GJ → Option Bool} (hrec7 : Hr7 rec7) {a0 : GJ} {a1 : GJ} {m : Option Nat} {o : Bool} (h : zj rec7 m a0 a1 = some o) : ACalls Tryd.prog 9 [.agg (z6 a0), .agg (z6 a1)] [] 3 (ki 3 (.bool o) []) := Xx (L := zrk) zov zo3 (NB rfl) (zet hrec7 h)
noncomputable def yf (m : Option Nat) : Nat → GJ → GJ → Option Bool
 | 0 => fun _ _ => none
 | k + 1 => zj (yf m k) m
noncomputable def ye (m : Option Nat) (a0 : GJ) (a1 : GJ) : Option Bool := zeo m (fun k => yf m k a0 a1)
theorem zdm {m : Option Nat} : ∀ (k : Nat) {a0 : GJ} {a1 : GJ} {o : Bool}, yf m k a0 a1 = some o → ACalls Tryd.prog 9 [.agg (z6 a0), .agg (z6 a1)] [] 3 (ki 3 (.bool o) [])
 | 0, _, _, _, h => nomatch h
 | k + 1, _, _, _, h => znq (fun h => zdm k h) h
theorem zcz {a0 : GJ} {a1 : GJ} {m : Option Nat} {o : Bool} (h : ye m a0 a1 = some o) : ACalls Tryd.prog 9 [.agg (z6 a0), .agg (z6 a1)] [] 3 (ki 3 (.bool o) []) := (Zs h).elim fun k h => zdm k h
noncomputable def jl (m : Option Nat) (a0 : GJ) (a1 : GJ) : Option Bool := zj (ye m) m a0 a1
theorem y0k {a0 : GJ} {a1 : GJ} {m : Option Nat} {o : Bool} (h : jl m a0 a1 = some o) : PFn Tryd.prog 9 [.agg (z6 a0), .agg (z6 a1)] (.bool o) :=
 ⟨rfl, _, Xw (k := 3) (m := 0) (L' := []) (rest := []) (R' := .bool o) [] (znq zcz h) rfl rfl rfl (S2 rfl rfl TT) TT (vj _ rfl) TT rfl ⟨rfl, rfl, rfl⟩⟩
def zqw : LCode := (.seq (.region [Qo 2 (.box (.t 0)),
 Qo 3 (.box (.t 1)),
 Qb 4])
 (.seq (.region [Qf 5 0 2,
  Ql 6 1 5,
  Qf 7 0 3,
  Ql 8 1 7,
  Qo 9 (.bin .eql (.t 6) (.t 8)),
  Qm 10 9,
  Qe 11 1 2 (10, true),
  Qk 12 1 11 (10, true),
  Qe 13 1 3 (10, true),
  Qk 14 1 13 (10, true),
  Qg 15 (.bin .eql (.t 12) (.t 14)) (10, true),
  Qp 16 10 15,
  Qm 17 16,
  Qe 18 2 2 (17, true),
  Qk 19 1 18 (17, true),
  Qe 20 2 3 (17, true),
  Qk 21 1 20 (17, true),
  Qg 22 (.bin .eql (.t 19) (.t 21)) (17, true),
  Qp 23 17 22,
  Qm 24 23,
  Qe 25 3 2 (24, true),
  Qk 26 1 25 (24, true),
  Qe 27 3 3 (24, true),
  Qk 28 1 27 (24, true),
  Qg 29 (.bin .eql (.t 26) (.t 28)) (24, true),
  Qp 30 24 29,
  Qm 31 30,
  Qe 32 4 2 (31, true),
  Qg 33 (.load true 5 (.t 32)) (31, true),
  Qe 34 4 3 (31, true),
  Qg 35 (.load true 5 (.t 34)) (31, true),
  Qg 36 (.call 9 [(.t 33), (.t 35)]) (31, true),
  Qp 37 31 36,
  Qm 4 37])
 .ret))
def zfy : Lay := ⟨38, [], false⟩
def zkq : List LRes := [.t 4]
def zzp : LFn := ⟨2, zfy, zqw, zkq⟩
theorem zw3 : w9 Tryd.prog [] 12 = some zzp := by kernel_rfl
theorem zt2 : uk Tryd.prog 12 := ⟨_, Tryd.func12, rfl, rfl⟩
noncomputable def zx (m : Option Nat) (a0 : GM) (a1 : GM) : Option Bool :=
 (if (((((a0.fK == a1.fK) && (a0.fI == a1.fI)) && (a0.fC == a1.fC)) && (a0.fM == a1.fM)) == true) = true then jl m (GJ.mk a0.fB.fK a0.fB.fN a0.fB.fT a0.fB.fA a0.fB.fE) (GJ.mk a1.fB.fK a1.fB.fN a1.fB.fT a1.fB.fA a1.fB.fE) else some default).bind fun v1 =>
 some (((((a0.fK == a1.fK) && (a0.fI == a1.fI)) && (a0.fC == a1.fC)) && (a0.fM == a1.fM)) && v1)
def y1d (a0 : GM) (a1 : GM) (o : Bool) : Exit → Env → AHeap → Nat → Prop := Zq zkq (x8 (.bool o))
theorem zn3 {a0 : GM} {a1 : GM} {m : Option Nat} {o : Bool} (h : zx m a0 a1 = some o) : LWp Tryd.prog zfy 0 zqw (y1d a0 a1 o) (y5 0 [.agg [i6 a0.fK, i6 a0.fI, i6 a0.fC, .str a0.fM, i6 a0.fB.fK, i6 a0.fB.fN, .str a0.fB.fT, .isl 1 (a0.fB.fA.map z7) false, .isl 5 (a0.fB.fE.map z8) false], .agg [i6 a1.fK, i6 a1.fI, i6 a1.fC, .str a1.fM, i6 a1.fB.fK, i6 a1.fB.fN, .str a1.fB.fT, .isl 1 (a1.fB.fA.map z7) false, .isl 5 (a1.fB.fE.map z8) false]]) [] 0 := by
 unfold zx at h
 refine za (ze ?_)
 refine za (ze ?_)
 refine AI (fun hp => hp) ?_
 refine AI (fun hp => hp) ?_
 refine AI (fun hp => (AI hp hp)) ?_
 refine AI (fun hc => (bqt hc)) ?_
 refine AI (fun hp => hp) ?_
 refine AI (fun hp => hp) ?_
 refine AI (fun hp => (AI hp hp)) ?_
 refine AI (fun hc => (bqt hc)) ?_
 refine AI (fun hp => hp) ?_
 refine AI (fun hp => hp) ?_
 refine AI (fun hp => (AI hp hp)) ?_
 refine AI (fun hc => (bqt hc)) ?_
 refine AI (fun hp => hp) ?_
 refine AI (fun hp => hp) ?_
 obtain ⟨v1, h1, h⟩ := bind_some h
 refine Or.inl (EX (.bool v1) (AI (fun hp => AI (AI hp hp) (PFn.call (y0k (zf hp h1)) (S2 rfl rfl TT) (AI rfl (AI rfl rfl)))) ?_))
 refine AI (fun hc => (bqt hc)) ?_
 refine LWp.sim (e := [(4, .bool (((((a0.fK == a1.fK) && (a0.fI == a1.fI)) && (a0.fC == a1.fC)) && (a0.fM == a1.fM)) && v1))]) (L := []) (n := 0) ?_ ?_
 ·exact yp (M := []) rfl (AI (VS rfl) TT) TT
 refine wh ?_
 cases h
 exact AI TT (AI rfl (VS rfl))
theorem zs4 {a0 : GM} {a1 : GM} {m : Option Nat} {o : Bool} (h : zx m a0 a1 = some o) : PFn Tryd.prog 12 [.agg [i6 a0.fK, i6 a0.fI, i6 a0.fC, .str a0.fM, i6 a0.fB.fK, i6 a0.fB.fN, .str a0.fB.fT, .isl 1 (a0.fB.fA.map z7) false, .isl 5 (a0.fB.fE.map z8) false], .agg [i6 a1.fK, i6 a1.fI, i6 a1.fC, .str a1.fM, i6 a1.fB.fK, i6 a1.fB.fN, .str a1.fB.fT, .isl 1 (a1.fB.fA.map z7) false, .isl 5 (a1.fB.fE.map z8) false]] (.bool o) := PFn.ofFnW (L := zzp) zw3 zt2 (NB rfl) rfl (zn3 h)
def zrg : LCode := (.seq (.region [Qo 2 (.box (.t 0)),
 Qo 4 (.alloc [(i6 0), (i6 0), (.str []), (.isl 1 [] true), (.isl 5 [] true)]),
 Qb 5])
 (.seq (.seq (.region [Qf 7 3 2,
  Ql 8 1 7,
  Qm 9 1,
  Qo 10 (.call 64 [(.t 8), (.t 9)]),
  Qm 6 10])
 (.seq (.region [Qf 11 0 2,
  Ql 12 1 11,
  Qo 13 (.bin .eql (.t 12) (.c (i6 5))),
  Qm 14 13,
  Qn 15 6 (14, true),
  Qg 16 (.bin .geq (.t 15) (.c (i6 0))) (14, true),
  Qp 17 14 16,
  Qm 18 17,
  Qn 19 6 (18, true),
  Qe 20 4 2 (18, true),
  Qk 21 1 20 (18, true),
  Qg 22 (.len false (.t 21)) (18, true),
  Qg 23 (.bin .lss (.t 19) (.t 22)) (18, true),
  Qp 24 18 23])
 (.cond (.t 24)
  (.seq (.region [Qf 25 4 2,
   Ql 26 1 25,
   Qm 27 6,
   Qo 28 (.iaddr 5 (.t 26) (.t 27)),
   Qt 29 5 28,
   ⟨none, .store 5 (.t 4) (.t 29), none⟩,
   Qo 5 (.mv (.c (.bool true)))])
  .ret)
  .skip)))
 (.seq (.region [Qo 30 (.build [(i6 0), (i6 0), (.str []), (.isl 1 [] true), (.isl 5 [] true)] []),
  ⟨none, .store 5 (.t 4) (.t 30), none⟩,
  Qb 5])
 .ret)))
def zm6 : Lay := ⟨31, [], false⟩
def znl : List LRes := [.cell 4 true 5, .t 5]
def zyn : LFn := ⟨2, zm6, zrg, znl⟩
theorem ztb : w9 Tryd.prog [] 39 = some zyn := by kernel_rfl
theorem zvd : uk Tryd.prog 39 := ⟨_, Tryd.func39, rfl, rfl⟩
noncomputable def zz (m : Option Nat) (a0 : GJ) (a1 : List UInt8) : Option (GJ × Bool) :=
 (q8 m a0.fA a1).bind fun v1 =>
 if (((a0.fK == 5) && (decide (v1 ≥ 0))) && (decide (v1 < ((a0.fE.map z8).length : Int)))) = true then
  if (0 : Int) ≤ v1 ∧ v1 < ((a0.fE.map z8).length : Int) then
  ((kq (a0.fE.getD v1.toNat default))).bind fun v2 =>
  some (v2, true)
  else none
 else
  some ((GJ.mk 0 0 [] [] []), false)
def y0o (a0 : GJ) (a1 : List UInt8) (o : GJ × Bool) : Exit → Env → AHeap → Nat → Prop := Zq znl (x8 (.tup [.agg (z6 o.1), .bool o.2]))
theorem zmt {a0 : GJ} {a1 : List UInt8} {m : Option Nat} {o : GJ × Bool} (h : zz m a0 a1 = some o) : LWp Tryd.prog zm6 0 zrg (y0o a0 a1 o) (y5 0 [.agg (z6 a0), .str a1]) [] 0 := by
 unfold zz at h
 refine za (ze ?_)
 refine za ?_
 refine za (ze ?_)
 obtain ⟨v1, h1, h⟩ := bind_some h
 refine PFn.call (zrs h1) (S2 rfl rfl TT) ?_
 refine LWp.sim (e := [(2, .ptr (0, 0) 0 0), (4, .ptr (1, 0) 0 0), (6, i6 v1)]) (L := [((0, 0), .one (z6 a0)), ((1, 0), .one [i6 0, i6 0, .str [], .isl 1 (([] : List (List UInt8)).map z7) true, .isl 5 (([] : List (List AVal)).map z8) true])]) (n := 2) ?_ ?_
 ·exact yp (M := [((0, 0), (0, 0)), ((1, 0), (1, 0))]) rfl (SP rfl (SP rfl (AI (VS rfl) TT))) (AI (AI rfl (OL rfl)) (AI (AI rfl (OL rfl)) TT))
 refine za (ze ?_)
 refine AI (fun hp => hp) ?_
 refine AI (fun hc => (bqt hc)) ?_
 refine AI (fun hp => hp) ?_
 refine AI (fun hp => hp) ?_
 refine AI (fun hp => (AI hp hp)) ?_
 refine AI (fun hc => (bqt hc)) ?_
 refine LWp.sim (e := [(2, .ptr (0, 0) 0 0), (4, .ptr (1, 0) 0 0), (6, i6 v1), (24, .bool (((a0.fK == 5) && (decide (v1 ≥ 0))) && (decide (v1 < ((a0.fE.map z8).length : Int)))))]) (L := [((0, 0), .one (z6 a0)), ((1, 0), .one [i6 0, i6 0, .str [], .isl 1 (([] : List (List UInt8)).map z7) true, .isl 5 (([] : List (List AVal)).map z8) true])]) (n := 2) ?_ ?_
 ·exact yp (M := [((0, 0), (0, 0)), ((1, 0), (1, 0))]) rfl (SP rfl (SP rfl (S2 rfl rfl TT))) (AI (AI rfl (OL rfl)) (AI (AI rfl (OL rfl)) TT))
 refine yt (v := (((a0.fK == 5) && (decide (v1 ≥ 0))) && (decide (v1 < ((a0.fE.map z8).length : Int))))) rfl TT (fun h2 => ?_) (fun h2 => ?_)
 ·have h := zf h2 h
  refine za (ze ?_)
  obtain ⟨h3, h⟩ := qj h
  refine AI h3 ?_
  obtain ⟨v2, h4, h⟩ := bind_some h
  refine EX (z6 v2) (AI (j1 (wy z8 h3) h4) (AI (AI (vw h3) (NB rfl)) ?_))
  refine wh ?_
  cases h
  exact AI (AI TT (AI rfl (NB rfl))) (AI TT (AI rfl (VS rfl)))
 ·have h := zp h2 h
  refine xq ?_
  refine za (ze ?_)
  refine wh ?_
  cases h
  exact AI (AI TT (AI rfl (NB rfl))) (AI TT (AI rfl (Vw.tupL (AI (Vw.aggL (S2 rfl rfl (AI (VS rfl) (AI (Vw.islF _ _ _) (AI (Vw.islF _ _ _) TT))))) (AI (VS rfl) TT)))))
theorem Ky {a0 : GJ} {a1 : List UInt8} {m : Option Nat} {o : GJ × Bool} (h : zz m a0 a1 = some o) : PFn Tryd.prog 39 [.agg (z6 a0), .str a1] (.tup [.agg (z6 o.1), .bool o.2]) := PFn.ofFnW (L := zyn) ztb zvd (NB rfl) rfl (zmt h)
def zs5 : LCode := (.seq (.region [Qb 4])
 (.seq (.region [Qm 5 0,
  Qo 6 (.len true (.t 5)),
  Qm 7 1,
  Qo 8 (.bin .geq (.t 6) (.t 7)),
  Qm 9 8,
  Qn 10 0 (9, true),
  Qg 11 (.len true (.t 10)) (9, true),
  Qg 12 (.bin .leq (.t 11) (.c (i6 60))) (9, true),
  Qp 13 9 12,
  Qm 14 13,
  Qn 15 0 (14, true),
  Qg 16 (.call 62 [(.t 15)]) (14, true),
  Qp 17 14 16,
  Qm 4 17])
 .ret))
def zkg : Lay := ⟨18, [], false⟩
def zn1 : List LRes := [.t 4]
def zxm : LFn := ⟨2, zkg, zs5, zn1⟩
theorem zt1 : w9 Tryd.prog [] 45 = some zxm := by kernel_rfl
theorem ztq : uk Tryd.prog 45 := ⟨_, Tryd.func45, rfl, rfl⟩
noncomputable def qa (m : Option Nat) (a0 : List UInt8) (a1 : Int) : Option Bool :=
 (if (((decide ((a0.length : Int) ≥ a1)) && (decide ((a0.length : Int) ≤ 60))) == true) = true then qb m a0 else some default).bind fun v1 =>
 some (((decide ((a0.length : Int) ≥ a1)) && (decide ((a0.length : Int) ≤ 60))) && v1)
def y11 (a0 : List UInt8) (a1 : Int) (o : Bool) : Exit → Env → AHeap → Nat → Prop := Zq zn1 (x8 (.bool o))
theorem zhj {a0 : List UInt8} {a1 : Int} {m : Option Nat} {o : Bool} (h : qa m a0 a1 = some o) : LWp Tryd.prog zkg 0 zs5 (y11 a0 a1 o) (y5 0 [.str a0, i6 a1]) [] 0 := by
 unfold qa at h
 refine za (ze ?_)
 refine za (ze ?_)
 refine AI (fun hp => hp) ?_
 refine AI (fun hp => hp) ?_
 refine AI (fun hc => (bqt hc)) ?_
 obtain ⟨v1, h1, h⟩ := bind_some h
 refine Or.inl (EX (.bool v1) (AI (fun hp => AI hp (PFn.call (zia (zf hp h1)) (AI (VS rfl) TT) (AI rfl (AI rfl rfl)))) ?_))
 refine AI (fun hc => (bqt hc)) ?_
 refine LWp.sim (e := [(4, .bool (((decide ((a0.length : Int) ≥ a1)) && (decide ((a0.length : Int) ≤ 60))) && v1))]) (L := []) (n := 0) ?_ ?_
 ·exact yp (M := []) rfl (AI (VS rfl) TT) TT
 refine wh ?_
 cases h
 exact AI TT (AI rfl (VS rfl))
theorem zh4 {a0 : List UInt8} {a1 : Int} {m : Option Nat} {o : Bool} (h : qa m a0 a1 = some o) : PFn Tryd.prog 45 [.str a0, i6 a1] (.bool o) := PFn.ofFnW (L := zxm) zt1 ztq (NB rfl) rfl (zhj h)
def zr0 : LCode := (.seq (.region [Qo 1 (.box (.t 0)),
 Qb 2])
 (.seq (.region [Qt 3 5 1,
  Qo 4 (.build [(i6 0), (i6 0), (.str []), (.isl 1 [] true), (.isl 5 [] true)] []),
  Qo 5 (.call 9 [(.t 3), (.t 4)]),
  Qm 2 5])
 .ret))
def zgq : Lay := ⟨6, [], false⟩
def zn4 : List LRes := [.t 2]
def zyi : LFn := ⟨1, zgq, zr0, zn4⟩
theorem zu3 : w9 Tryd.prog [] 55 = some zyi := by kernel_rfl
theorem zt9 : uk Tryd.prog 55 := ⟨_, Tryd.func55, rfl, rfl⟩
noncomputable def qc (m : Option Nat) (a0 : GJ) : Option Bool :=
 (ye m a0 (GJ.mk 0 0 [] [] [])).bind fun v1 =>
 some v1
def y0j (a0 : GJ) (o : Bool) : Exit → Env → AHeap → Nat → Prop := Zq zn4 (x8 (.bool o))
theorem zlb {a0 : GJ} {m : Option Nat} {o : Bool} (h : qc m a0 = some o) : LWp Tryd.prog zgq 0 zr0 (y0j a0 o) (y5 0 [.agg (z6 a0)]) [] 0 := by
 unfold qc at h
 refine za (ze ?_)
 refine za (ze ?_)
 obtain ⟨v1, h1, h⟩ := bind_some h
 refine Xw (k := 3) (m := 0) (L' := []) (rest := [((0, 0), .one (z6 a0))]) (R' := .bool v1) [] (zcz h1) rfl rfl rfl (AI (VS rfl) (AI (Vw.aggL (S2 rfl rfl (AI (VS rfl) (AI (Vw.islF _ _ _) (AI (Vw.islF _ _ _) TT))))) TT)) TT (vj _ rfl) TT rfl ?_
 refine wh ?_
 cases h
 exact AI TT (AI rfl (VS rfl))
theorem zrw {a0 : GJ} {m : Option Nat} {o : Bool} (h : qc m a0 = some o) : PFn Tryd.prog 55 [.agg (z6 a0)] (.bool o) := PFn.ofFnW (L := zyi) zu3 zt9 (NB rfl) rfl (zlb h)
def zqz : LCode := (.seq (.region [Qo 1 (.box (.t 0)),
 Qb 2])
 (.seq (.region [Qf 4 1 1,
  Ql 5 1 4,
  Qo 6 (.bin .geq (.t 5) (.c (i6 0))),
  Qm 7 6,
  Qe 8 1 1 (7, true),
  Qk 9 1 8 (7, true),
  Qg 10 (.bin .leq (.t 9) (.c (i6 2147483647))) (7, true),
  Qp 11 7 10,
  Qm 3 11])
 (.seq (.seq (.region [Qf 12 0 1,
  Ql 13 1 12])
 (.block 0
  (.seq (.region [Qo 15 (.bin .eql (.t 13) (.c (i6 1))),
   Qm 14 15])
  (.cond (.t 14)
   (.seq (.region [Qm 16 3,
    Qm 17 16,
    Qe 18 2 1 (17, true),
    Qk 19 1 18 (17, true),
    Qg 20 (.bin .eql (.t 19) (.c (i6 0))) (17, true),
    Qp 21 17 20,
    Qm 22 21,
    Qe 23 3 1 (22, true),
    Qk 24 1 23 (22, true),
    Qg 25 (.call 45 [(.t 24), (.c (i6 1))]) (22, true),
    Qp 26 22 25,
    Qm 2 26])
   .ret)
   (.seq (.region [Qo 28 (.bin .eql (.t 13) (.c (i6 2))),
    Qm 27 28])
   (.cond (.t 27)
    (.seq (.region [Qf 29 1 1,
     Ql 30 1 29,
     Qo 31 (.bin .eql (.t 30) (.c (i6 0))),
     Qm 32 31,
     Qe 33 2 1 (32, true),
     Qk 34 1 33 (32, true),
     Qg 35 (.bin .eql (.t 34) (.c (i6 0))) (32, true),
     Qp 36 32 35,
     Qm 37 36,
     Qe 38 3 1 (37, true),
     Qk 39 1 38 (37, true),
     Qg 40 (.call 45 [(.t 39), (.c (i6 1))]) (37, true),
     Qp 41 37 40,
     Qm 42 41,
     Qe 43 3 1 (42, true),
     Qk 44 1 43 (42, true),
     Qg 45 (.bin .neq (.t 44) (.c (.str [36, 47, 99, 97, 110, 99, 101, 108]))) (42, true),
     Qp 46 42 45,
     Qm 2 46])
    .ret)
    (.seq (.region [Qo 48 (.bin .eql (.t 13) (.c (i6 3))),
     Qm 47 48])
    (.cond (.t 47)
     (.seq (.region [Qm 49 3,
      Qm 50 49,
      Qe 51 2 1 (50, true),
      Qk 52 1 51 (50, true),
      Qg 53 (.bin .eql (.t 52) (.c (i6 0))) (50, true),
      Qp 54 50 53,
      Qm 55 54,
      Qe 56 3 1 (55, true),
      Qk 57 1 56 (55, true),
      Qg 58 (.bin .eql (.t 57) (.c (.str []))) (55, true),
      Qp 59 55 58,
      Qm 2 59])
     .ret)
     (.seq (.region [Qo 61 (.bin .eql (.t 13) (.c (i6 4))),
      Qm 60 61])
     (.cond (.t 60)
      (.seq (.region [Qm 62 3,
       Qm 63 62,
       Qe 64 2 1 (63, true),
       Qk 65 1 64 (63, true),
       Qg 66 (.bin .geq (.t 65) (.c (i6 1))) (63, true),
       Qp 67 63 66,
       Qm 68 67,
       Qe 69 2 1 (68, true),
       Qk 70 1 69 (68, true),
       Qg 71 (.bin .leq (.t 70) (.c (i6 99))) (68, true),
       Qp 72 68 71,
       Qm 73 72,
       Qe 74 3 1 (73, true),
       Qk 75 1 74 (73, true),
       Qg 76 (.call 45 [(.t 75), (.c (i6 0))]) (73, true),
       Qp 77 73 76,
       Qm 78 77,
       Qe 79 4 1 (78, true),
       Qg 80 (.load true 5 (.t 79)) (78, true),
       Qg 81 (.call 55 [(.t 80)]) (78, true),
       Qp 82 78 81,
       Qm 2 82])
      .ret)
      .skip))))))))))
 (.seq (.region [Qm 83 3,
  Qm 84 83,
  Qe 85 2 1 (84, true),
  Qk 86 1 85 (84, true),
  Qg 87 (.bin .eql (.t 86) (.c (i6 0))) (84, true),
  Qp 88 84 87,
  Qm 89 88,
  Qe 90 3 1 (89, true),
  Qk 91 1 90 (89, true),
  Qg 92 (.bin .eql (.t 91) (.c (.str []))) (89, true),
  Qp 93 89 92,
  Qm 94 93,
  Qe 95 4 1 (94, true),
  Qg 96 (.load true 5 (.t 95)) (94, true),
  Qg 97 (.call 55 [(.t 96)]) (94, true),
  Qp 98 94 97,
  Qm 2 98])
 .ret))))
def zh7 : Lay := ⟨99, [], false⟩
def zng : List LRes := [.t 2]
def zzn : LFn := ⟨1, zh7, zqz, zng⟩
theorem zsu : w9 Tryd.prog [] 30 = some zzn := by kernel_rfl
theorem zsw : uk Tryd.prog 30 := ⟨_, Tryd.func30, rfl, rfl⟩
noncomputable def yv (m : Option Nat) (a0 : GM) : Option Bool :=
 if (a0.fK == 1) = true then
  (if ((((decide (a0.fI ≥ 0)) && (decide (a0.fI ≤ 2147483647))) && (a0.fC == 0)) == true) = true then qa m a0.fM 1 else some default).bind fun v1 =>
  some ((((decide (a0.fI ≥ 0)) && (decide (a0.fI ≤ 2147483647))) && (a0.fC == 0)) && v1)
 else
  if (a0.fK == 2) = true then
   (if (((a0.fI == 0) && (a0.fC == 0)) == true) = true then qa m a0.fM 1 else some default).bind fun v2 =>
   some ((((a0.fI == 0) && (a0.fC == 0)) && v2) && (!(a0.fM == ([36, 47, 99, 97, 110, 99, 101, 108] : List UInt8))))
  else
   if (a0.fK == 3) = true then
    some ((((decide (a0.fI ≥ 0)) && (decide (a0.fI ≤ 2147483647))) && (a0.fC == 0)) && (a0.fM == ([] : List UInt8)))
   else
    if (a0.fK == 4) = true then
     (if (((((decide (a0.fI ≥ 0)) && (decide (a0.fI ≤ 2147483647))) && (decide (a0.fC ≥ 1))) && (decide (a0.fC ≤ 99))) == true) = true then qa m a0.fM 0 else some default).bind fun v3 =>
     (if ((((((decide (a0.fI ≥ 0)) && (decide (a0.fI ≤ 2147483647))) && (decide (a0.fC ≥ 1))) && (decide (a0.fC ≤ 99))) && v3) == true) = true then qc m (GJ.mk a0.fB.fK a0.fB.fN a0.fB.fT a0.fB.fA a0.fB.fE) else some default).bind fun v4 =>
     some ((((((decide (a0.fI ≥ 0)) && (decide (a0.fI ≤ 2147483647))) && (decide (a0.fC ≥ 1))) && (decide (a0.fC ≤ 99))) && v3) && v4)
    else
     (if (((((decide (a0.fI ≥ 0)) && (decide (a0.fI ≤ 2147483647))) && (a0.fC == 0)) && (a0.fM == ([] : List UInt8))) == true) = true then qc m (GJ.mk a0.fB.fK a0.fB.fN a0.fB.fT a0.fB.fA a0.fB.fE) else some default).bind fun v5 =>
     some (((((decide (a0.fI ≥ 0)) && (decide (a0.fI ≤ 2147483647))) && (a0.fC == 0)) && (a0.fM == ([] : List UInt8))) && v5)
def y0r (a0 : GM) (o : Bool) : Exit → Env → AHeap → Nat → Prop := Zq zng (x8 (.bool o))
theorem zgx {a0 : GM} {m : Option Nat} {o : Bool} (h : yv m a0 = some o) : LWp Tryd.prog zh7 0 zqz (y0r a0 o) (y5 0 [.agg [i6 a0.fK, i6 a0.fI, i6 a0.fC, .str a0.fM, i6 a0.fB.fK, i6 a0.fB.fN, .str a0.fB.fT, .isl 1 (a0.fB.fA.map z7) false, .isl 5 (a0.fB.fE.map z8) false]]) [] 0 := by
 unfold yv at h
 refine za (ze ?_)
 refine za (ze ?_)
 refine AI (fun hp => hp) ?_
 refine AI (fun hp => hp) ?_
 refine AI (fun hc => (bqt hc)) ?_
 refine LWp.sim (e := [(1, .ptr (0, 0) 0 0), (3, .bool ((decide (a0.fI ≥ 0)) && (decide (a0.fI ≤ 2147483647))))]) (L := [((0, 0), .one [i6 a0.fK, i6 a0.fI, i6 a0.fC, .str a0.fM, i6 a0.fB.fK, i6 a0.fB.fN, .str a0.fB.fT, .isl 1 (a0.fB.fA.map z7) false, .isl 5 (a0.fB.fE.map z8) false])]) (n := 1) ?_ ?_
 ·exact yp (M := [((0, 0), (0, 0))]) rfl (SP rfl (AI (VS rfl) TT)) (AI (AI rfl (OL rfl)) TT)
 refine za ?_
 refine za (ze ?_)
 refine xw ?_
 refine za (ze ?_)
 refine yt (v := (a0.fK == 1)) rfl TT (fun h1 => ?_) (fun h1 => ?_)
 ·have h := zf h1 h
  refine za (ze ?_)
  refine AI (fun hp => hp) ?_
  refine AI (fun hp => hp) ?_
  refine AI (fun hc => (bqt hc)) ?_
  refine AI (fun hp => hp) ?_
  obtain ⟨v1, h2, h⟩ := bind_some h
  refine Or.inl (EX (.bool v1) (AI (fun hp => AI hp (PFn.call (zh4 (zf hp h2)) (S2 rfl rfl TT) (AI rfl (AI rfl rfl)))) ?_))
  refine AI (fun hc => (bqt hc)) ?_
  refine LWp.sim (e := [(2, .bool ((((decide (a0.fI ≥ 0)) && (decide (a0.fI ≤ 2147483647))) && (a0.fC == 0)) && v1))]) (L := []) (n := 0) ?_ ?_
  ·exact yp (M := []) rfl (AI (VS rfl) TT) TT
  refine wh ?_
  cases h
  exact AI TT (AI rfl (VS rfl))
 ·have h := zp h1 h
  refine za (ze ?_)
  refine yt (v := (a0.fK == 2)) rfl TT (fun h3 => ?_) (fun h3 => ?_)
  ·have h := zf h3 h
   refine za (ze ?_)
   refine AI (fun hp => hp) ?_
   refine AI (fun hp => hp) ?_
   refine AI (fun hc => (bqt hc)) ?_
   refine AI (fun hp => hp) ?_
   obtain ⟨v2, h4, h⟩ := bind_some h
   refine Or.inl (EX (.bool v2) (AI (fun hp => AI hp (PFn.call (zh4 (zf hp h4)) (S2 rfl rfl TT) (AI rfl (AI rfl rfl)))) ?_))
   refine AI (fun hc => (bqt hc)) ?_
   refine AI (fun hp => hp) ?_
   refine AI (fun hp => hp) ?_
   refine AI (fun hc => (bqt hc)) ?_
   refine LWp.sim (e := [(2, .bool ((((a0.fI == 0) && (a0.fC == 0)) && v2) && (!(a0.fM == ([36, 47, 99, 97, 110, 99, 101, 108] : List UInt8)))))]) (L := []) (n := 0) ?_ ?_
   ·exact yp (M := []) rfl (AI (VS rfl) TT) TT
   refine wh ?_
   cases h
   exact AI TT (AI rfl (VS rfl))
  ·have h := zp h3 h
   refine za (ze ?_)
   refine LWp.sim (e := [(1, .ptr (0, 0) 0 0), (3, .bool ((decide (a0.fI ≥ 0)) && (decide (a0.fI ≤ 2147483647)))), (13, i6 a0.fK), (47, .bool (a0.fK == 3))]) (L := [((0, 0), .one [i6 a0.fK, i6 a0.fI, i6 a0.fC, .str a0.fM, i6 a0.fB.fK, i6 a0.fB.fN, .str a0.fB.fT, .isl 1 (a0.fB.fA.map z7) false, .isl 5 (a0.fB.fE.map z8) false])]) (n := 1) ?_ ?_
   ·exact yp (M := [((0, 0), (0, 0))]) rfl (SP rfl (S2 rfl rfl (AI (VS rfl) TT))) (AI (AI rfl (OL rfl)) TT)
   refine yt (v := (a0.fK == 3)) rfl TT (fun h5 => ?_) (fun h5 => ?_)
   ·have h := zf h5 h
    refine za (ze ?_)
    refine AI (fun hp => hp) ?_
    refine AI (fun hp => hp) ?_
    refine AI (fun hc => (bqt hc)) ?_
    refine AI (fun hp => hp) ?_
    refine AI (fun hp => hp) ?_
    refine AI (fun hc => (bqt hc)) ?_
    refine LWp.sim (e := [(2, .bool ((((decide (a0.fI ≥ 0)) && (decide (a0.fI ≤ 2147483647))) && (a0.fC == 0)) && (a0.fM == ([] : List UInt8))))]) (L := []) (n := 0) ?_ ?_
    ·exact yp (M := []) rfl (AI (VS rfl) TT) TT
    refine wh ?_
    cases h
    exact AI TT (AI rfl (VS rfl))
   ·have h := zp h5 h
    refine za (ze ?_)
    refine yt (v := (a0.fK == 4)) rfl TT (fun h6 => ?_) (fun h6 => ?_)
    ·have h := zf h6 h
     refine za (ze ?_)
     refine AI (fun hp => hp) ?_
     refine AI (fun hp => hp) ?_
     refine AI (fun hc => (bqt hc)) ?_
     refine AI (fun hp => hp) ?_
     refine AI (fun hp => hp) ?_
     refine AI (fun hc => (bqt hc)) ?_
     refine AI (fun hp => hp) ?_
     obtain ⟨v3, h7, h⟩ := bind_some h
     refine Or.inl (EX (.bool v3) (AI (fun hp => AI hp (PFn.call (zh4 (zf hp h7)) (S2 rfl rfl TT) (AI rfl (AI rfl rfl)))) ?_))
     refine AI (fun hc => (bqt hc)) ?_
     refine AI (fun hp => hp) ?_
     obtain ⟨v4, h8, h⟩ := bind_some h
     refine Or.inl (EX (.bool v4) (AI (fun hp => AI hp (PFn.call (zrw (zf hp h8)) (AI (VS rfl) TT) (AI rfl (AI rfl rfl)))) ?_))
     refine AI (fun hc => (bqt hc)) ?_
     refine LWp.sim (e := [(2, .bool ((((((decide (a0.fI ≥ 0)) && (decide (a0.fI ≤ 2147483647))) && (decide (a0.fC ≥ 1))) && (decide (a0.fC ≤ 99))) && v3) && v4))]) (L := []) (n := 0) ?_ ?_
     ·exact yp (M := []) rfl (AI (VS rfl) TT) TT
     refine wh ?_
     cases h
     exact AI TT (AI rfl (VS rfl))
    ·have h := zp h6 h
     refine xq ?_
     refine za (ze ?_)
     refine AI (fun hp => hp) ?_
     refine AI (fun hp => hp) ?_
     refine AI (fun hc => (bqt hc)) ?_
     refine AI (fun hp => hp) ?_
     refine AI (fun hp => hp) ?_
     refine AI (fun hc => (bqt hc)) ?_
     refine AI (fun hp => hp) ?_
     obtain ⟨v5, h9, h⟩ := bind_some h
     refine Or.inl (EX (.bool v5) (AI (fun hp => AI hp (PFn.call (zrw (zf hp h9)) (AI (VS rfl) TT) (AI rfl (AI rfl rfl)))) ?_))
     refine AI (fun hc => (bqt hc)) ?_
     refine LWp.sim (e := [(2, .bool (((((decide (a0.fI ≥ 0)) && (decide (a0.fI ≤ 2147483647))) && (a0.fC == 0)) && (a0.fM == ([] : List UInt8))) && v5))]) (L := []) (n := 0) ?_ ?_
     ·exact yp (M := []) rfl (AI (VS rfl) TT) TT
     refine wh ?_
     cases h
     exact AI TT (AI rfl (VS rfl))
theorem zxw {a0 : GM} {m : Option Nat} {o : Bool} (h : yv m a0 = some o) : PFn Tryd.prog 30 [.agg [i6 a0.fK, i6 a0.fI, i6 a0.fC, .str a0.fM, i6 a0.fB.fK, i6 a0.fB.fN, .str a0.fB.fT, .isl 1 (a0.fB.fA.map z7) false, .isl 5 (a0.fB.fE.map z8) false]] (.bool o) := PFn.ofFnW (L := zzn) zsu zsw (NB rfl) rfl (zgx h)
def zqd : LCode := (.seq (.region [Qo 2 (.alloc [(i6 0), (i6 0), (.str []), (.isl 1 [] true), (.isl 5 [] true)])])
 (.seq (.region [Qm 3 0,
  Qo 4 (.build [(i6 0), (i6 0), (.str []), (.isl 1 [] true), (.isl 5 [] true)] [(0, 1, (.c (i6 2))), (1, 1, (.t 3))]),
  ⟨none, .store 5 (.t 2) (.t 4), none⟩])
 .ret))
def zlx : Lay := ⟨5, [], false⟩
def zmd : List LRes := [.cell 2 true 5]
def zxh : LFn := ⟨1, zlx, zqd, zmd⟩
theorem zw5 : w9 Tryd.prog [] 57 = some zxh := by kernel_rfl
theorem zsm : uk Tryd.prog 57 := ⟨_, Tryd.func57, rfl, rfl⟩
noncomputable def q6 (m : Option Nat) (a0 : Int) : Option GJ :=
 some (GJ.mk 2 a0 ([] : List UInt8) ([] : List (List UInt8)) ([] : List (List AVal)))
def y0q (a0 : Int) (o : GJ) : Exit → Env → AHeap → Nat → Prop := Zq zmd (x8 (.agg (z6 o)))
theorem zm0 {a0 : Int} {m : Option Nat} {o : GJ} (h : q6 m a0 = some o) : LWp Tryd.prog zlx 0 zqd (y0q a0 o) (y5 0 [i6 a0]) [] 0 := by
 unfold q6 at h
 refine za (ze ?_)
 refine za (ze ?_)
 refine wh ?_
 cases h
 exact AI (AI TT (AI rfl (NB rfl))) (AI rfl (Vw.aggL (S2 rfl rfl (AI (VS rfl) (AI (Vw.islF _ _ _) (AI (Vw.islF _ _ _) TT))))))
theorem z8u {a0 : Int} {m : Option Nat} {o : GJ} (h : q6 m a0 = some o) : PFn Tryd.prog 57 [i6 a0] (.agg (z6 o)) := PFn.ofFnW (L := zxh) zw5 zsm (NB rfl) rfl (zm0 h)
def zqk : LCode := (.seq (.region [Qo 2 (.alloc [(i6 0), (i6 0), (.str []), (.isl 1 [] true), (.isl 5 [] true)])])
 (.seq (.region [Qm 3 0,
  Qo 4 (.build [(i6 0), (i6 0), (.str []), (.isl 1 [] true), (.isl 5 [] true)] [(0, 1, (.c (i6 3))), (2, 1, (.t 3))]),
  ⟨none, .store 5 (.t 2) (.t 4), none⟩])
 .ret))
def zge : Lay := ⟨5, [], false⟩
def znr : List LRes := [.cell 2 true 5]
def zy9 : LFn := ⟨1, zge, zqk, znr⟩
theorem zse : w9 Tryd.prog [] 58 = some zy9 := by kernel_rfl
theorem zvf : uk Tryd.prog 58 := ⟨_, Tryd.func58, rfl, rfl⟩
noncomputable def xv (m : Option Nat) (a0 : List UInt8) : Option GJ :=
 some (GJ.mk 3 0 a0 ([] : List (List UInt8)) ([] : List (List AVal)))
def y0g (a0 : List UInt8) (o : GJ) : Exit → Env → AHeap → Nat → Prop := Zq znr (x8 (.agg (z6 o)))
theorem zk2 {a0 : List UInt8} {m : Option Nat} {o : GJ} (h : xv m a0 = some o) : LWp Tryd.prog zge 0 zqk (y0g a0 o) (y5 0 [.str a0]) [] 0 := by
 unfold xv at h
 refine za (ze ?_)
 refine za (ze ?_)
 refine wh ?_
 cases h
 exact AI (AI TT (AI rfl (NB rfl))) (AI rfl (Vw.aggL (S2 rfl rfl (AI (VS rfl) (AI (Vw.islF _ _ _) (AI (Vw.islF _ _ _) TT))))))
theorem zc3 {a0 : List UInt8} {m : Option Nat} {o : GJ} (h : xv m a0 = some o) : PFn Tryd.prog 58 [.str a0] (.agg (z6 o)) := PFn.ofFnW (L := zy9) zse zvf (NB rfl) rfl (zk2 h)
def zrd : LCode := (.seq (.region [Qo 4 (.box (.t 1)),
 Qo 5 (.box (.t 2)),
 Qo 6 (.alloc [(i6 0), (i6 0), (.str []), (.isl 1 [] true), (.isl 5 [] true)])])
 (.seq (.draw [⟨Qm 7 0, []⟩,
  ⟨Qf 9 3 5, []⟩,
  ⟨Ql 10 1 9, []⟩,
  ⟨Qt 12 5 4, []⟩,
  ⟨Qf 14 4 5, []⟩,
  ⟨Ql 15 1 14, []⟩,
  ⟨Qo 8 (.mkSl true 1 [(.str [])] 1 [(0, (.t 7))]), []⟩,
  ⟨Qo 13 (.mkSl true 5 [(i6 0), (i6 0), (.str []), (.isl 1 [] true), (.isl 5 [] true)] 1 [(0, (.t 12))]), []⟩,
  ⟨Qo 11 (.app true 1 16 (.t 8) (.t 10)), [3, 5]⟩,
  ⟨Qo 16 (.app true 5 80 (.t 13) (.t 15)), []⟩,
  ⟨Qo 17 (.build [(i6 0), (i6 0), (.str []), (.isl 1 [] true), (.isl 5 [] true)] [(0, 1, (.c (i6 5))), (3, 1, (.t 11)), (4, 1, (.t 16))]), []⟩,
  ⟨⟨none, .store 5 (.t 6) (.t 17), none⟩, []⟩])
 .ret))
def zhk : Lay := ⟨18, [], false⟩
def zhy : List LRes := [.cell 6 true 5]
def zzb : LFn := ⟨3, zhk, zrd, zhy⟩
theorem zt0 : w9 Tryd.prog [] 56 = some zzb := by kernel_rfl
theorem zuf : uk Tryd.prog 56 := ⟨_, Tryd.func56, rfl, rfl⟩
noncomputable def zb (m : Option Nat) (a0 : List UInt8) (a1 : GJ) (a2 : GJ) : Option GJ :=
 if ((([a0] : List (List UInt8)) ++ a2.fA).map z7).length * 16 ≤ 140737488355328 then
 if ((([z6 a1] : List (List AVal)) ++ a2.fE).map z8).length * 80 ≤ 140737488355328 then
 some (GJ.mk 5 0 ([] : List UInt8) (([a0] : List (List UInt8)) ++ a2.fA) (([z6 a1] : List (List AVal)) ++ a2.fE))
 else none
 else none
def y0h (a0 : List UInt8) (a1 : GJ) (a2 : GJ) (o : GJ) : Exit → Env → AHeap → Nat → Prop := Zq zhy (x8 (.agg (z6 o)))
theorem zmq {a0 : List UInt8} {a1 : GJ} {a2 : GJ} {m : Option Nat} {o : GJ} (h : zb m a0 a1 a2 = some o) : LWp Tryd.prog zhk 0 zrd (y0h a0 a1 a2 o) (y5 0 [.str a0, .agg (z6 a1), .agg (z6 a2)]) [] 0 := by
 unfold zb at h
 refine za (ze ?_)
 refine za ?_
 refine Xv ?_
 obtain ⟨h1, h⟩ := qj h
 refine EX ((([a0] : List (List UInt8)) ++ a2.fA).map z7) (AI (z0p z7 ([a0] : List (List UInt8)) a2.fA) (AI (AI rfl h1) ?_))
 refine AI rfl ?_
 refine AI rfl ?_
 obtain ⟨h2, h⟩ := qj h
 refine EX ((([z6 a1] : List (List AVal)) ++ a2.fE).map z8) (AI (z0p z8 ([z6 a1] : List (List AVal)) a2.fE) (AI (AI rfl h2) ?_))
 refine LWp.sim (e := [(6, .ptr (0, 0) 0 0)]) (L := [((0, 0), .one [i6 5, i6 0, .str [], .osl (1, 0) 1 ((([a0] : List (List UInt8)) ++ a2.fA).map z7), .osl (2, 0) 5 ((([z6 a1] : List (List AVal)) ++ a2.fE).map z8)]), ((1, 0), .tok), ((2, 0), .tok)]) (n := 3) ?_ ?_
 ·exact yp (M := [((0, 0), (2, 0)), ((1, 0), (3, 0)), ((2, 0), (4, 0))]) rfl (SP rfl TT) (AI (AI rfl (BVw.oneL (S2 rfl rfl (AI (VS rfl) (AI (Vw.osl _ _ _ _ rfl) (AI (Vw.osl _ _ _ _ rfl) TT)))))) (AI (AI rfl BVw.tok) (AI (AI rfl BVw.tok) TT)))
 refine wh ?_
 cases h
 exact AI (AI TT (AI rfl (NB rfl))) (AI rfl (Vw.aggL (S2 rfl rfl (AI (VS rfl) (AI (Vw.oslI _ _ _) (AI (Vw.oslI _ _ _) TT))))))
theorem Q5 {a0 : List UInt8} {a1 : GJ} {a2 : GJ} {m : Option Nat} {o : GJ} (h : zb m a0 a1 a2 = some o) : PFn Tryd.prog 56 [.str a0, .agg (z6 a1), .agg (z6 a2)] (.agg (z6 o)) := PFn.ofFnW (L := zzb) zt0 zuf (NB rfl) rfl (zmq h)
def zqe : LCode := (.seq (.region [Qo 1 (.box (.t 0)),
 Qo 2 (.alloc [(i6 0), (i6 0), (.str []), (.isl 1 [] true), (.isl 5 [] true)])])
 (.seq (.region [Qo 4 (.build [(i6 0), (i6 0), (.str []), (.isl 1 [] true), (.isl 5 [] true)] []),
  Qo 3 (.alloc [(i6 0), (i6 0), (.str []), (.isl 1 [] true), (.isl 5 [] true)]),
  ⟨none, .store 5 (.t 3) (.t 4), none⟩])
 (.seq (.seq (.region [Qf 5 0 1,
  Ql 6 1 5])
 (.block 0
  (.seq (.region [Qo 8 (.bin .eql (.t 6) (.c (i6 1))),
   Qm 7 8])
  (.cond (.t 7)
   (.seq (.draw [⟨Qf 9 1 1, []⟩,
    ⟨Ql 10 1 9, []⟩,
    ⟨Qf 12 3 1, []⟩,
    ⟨Ql 13 1 12, []⟩,
    ⟨Qf 15 4 1, []⟩,
    ⟨Qt 16 5 15, []⟩,
    ⟨Qt 17 5 3, []⟩,
    ⟨Qc 11 57 10, [3, 5, 6]⟩,
    ⟨Qc 14 58 13, [5, 6]⟩,
    ⟨Qo 18 (.call 56 [(.c (.str [112, 97, 114, 97, 109, 115])), (.t 16), (.t 17)]), []⟩,
    ⟨Qo 19 (.call 56 [(.c (.str [109, 101, 116, 104, 111, 100])), (.t 14), (.t 18)]), []⟩,
    ⟨Qo 20 (.call 56 [(.c (.str [105, 100])), (.t 11), (.t 19)]), []⟩,
    ⟨⟨none, .store 5 (.t 2) (.t 20), none⟩, []⟩])
   .ret)
   (.seq (.region [Qo 22 (.bin .eql (.t 6) (.c (i6 2))),
    Qm 21 22])
   (.cond (.t 21)
    (.seq (.draw [⟨Qf 23 3 1, []⟩,
     ⟨Ql 24 1 23, []⟩,
     ⟨Qf 26 4 1, []⟩,
     ⟨Qt 27 5 26, []⟩,
     ⟨Qt 28 5 3, []⟩,
     ⟨Qc 25 58 24, [3, 4]⟩,
     ⟨Qo 29 (.call 56 [(.c (.str [112, 97, 114, 97, 109, 115])), (.t 27), (.t 28)]), []⟩,
     ⟨Qo 30 (.call 56 [(.c (.str [109, 101, 116, 104, 111, 100])), (.t 25), (.t 29)]), []⟩,
     ⟨⟨none, .store 5 (.t 2) (.t 30), none⟩, []⟩])
    .ret)
    (.seq (.region [Qo 32 (.bin .eql (.t 6) (.c (i6 3))),
     Qm 31 32])
    (.cond (.t 31)
     (.seq (.draw [⟨Qf 33 1 1, []⟩,
      ⟨Ql 34 1 33, []⟩,
      ⟨Qf 36 4 1, []⟩,
      ⟨Qt 37 5 36, []⟩,
      ⟨Qt 38 5 3, []⟩,
      ⟨Qc 35 57 34, [3, 4]⟩,
      ⟨Qo 39 (.call 56 [(.c (.str [114, 101, 115, 117, 108, 116])), (.t 37), (.t 38)]), []⟩,
      ⟨Qo 40 (.call 56 [(.c (.str [105, 100])), (.t 35), (.t 39)]), []⟩,
      ⟨⟨none, .store 5 (.t 2) (.t 40), none⟩, []⟩])
     .ret)
     (.seq (.region [Qo 42 (.bin .eql (.t 6) (.c (i6 4))),
      Qm 41 42])
     (.cond (.t 41)
      (.seq (.draw [⟨Qf 43 1 1, []⟩,
       ⟨Ql 44 1 43, []⟩,
       ⟨Qf 46 2 1, []⟩,
       ⟨Ql 47 1 46, []⟩,
       ⟨Qf 49 3 1, []⟩,
       ⟨Ql 50 1 49, []⟩,
       ⟨Qt 52 5 3, []⟩,
       ⟨Qt 55 5 3, []⟩,
       ⟨Qc 45 57 44, [3, 5, 6, 7]⟩,
       ⟨Qc 48 57 47, [5, 6, 7]⟩,
       ⟨Qc 51 58 50, [6, 7]⟩,
       ⟨Qo 53 (.call 56 [(.c (.str [109, 101, 115, 115, 97, 103, 101])), (.t 51), (.t 52)]), [7]⟩,
       ⟨Qo 54 (.call 56 [(.c (.str [99, 111, 100, 101])), (.t 48), (.t 53)]), [7]⟩,
       ⟨Qo 56 (.call 56 [(.c (.str [101, 114, 114, 111, 114])), (.t 54), (.t 55)]), []⟩,
       ⟨Qo 57 (.call 56 [(.c (.str [105, 100])), (.t 45), (.t 56)]), []⟩,
       ⟨⟨none, .store 5 (.t 2) (.t 57), none⟩, []⟩])
      .ret)
      .skip))))))))))
 (.seq (.draw [⟨Qf 59 1 1, []⟩,
  ⟨Ql 60 1 59, []⟩,
  ⟨Qt 62 5 3, []⟩,
  ⟨Qt 64 5 3, []⟩,
  ⟨Qo 58 (.call 58 [(.c (.str [36, 47, 99, 97, 110, 99, 101, 108]))]), [1, 2, 3]⟩,
  ⟨Qc 61 57 60, [2, 3]⟩,
  ⟨Qo 63 (.call 56 [(.c (.str [105, 100])), (.t 61), (.t 62)]), [3]⟩,
  ⟨Qo 65 (.call 56 [(.c (.str [112, 97, 114, 97, 109, 115])), (.t 63), (.t 64)]), []⟩,
  ⟨Qo 66 (.call 56 [(.c (.str [109, 101, 116, 104, 111, 100])), (.t 58), (.t 65)]), []⟩,
  ⟨⟨none, .store 5 (.t 2) (.t 66), none⟩, []⟩])
 .ret))))
def zm5 : Lay := ⟨67, [], false⟩
def zjp : List LRes := [.cell 2 true 5]
def zye : LFn := ⟨1, zm5, zqe, zjp⟩
theorem zts : w9 Tryd.prog [] 31 = some zye := by kernel_rfl
theorem zum : uk Tryd.prog 31 := ⟨_, Tryd.func31, rfl, rfl⟩
noncomputable def ym (m : Option Nat) (a0 : GM) : Option GJ :=
 if (a0.fK == 1) = true then
  (q6 m a0.fI).bind fun v1 =>
  (xv m a0.fM).bind fun v2 =>
  (zb m ([112, 97, 114, 97, 109, 115] : List UInt8) (GJ.mk a0.fB.fK a0.fB.fN a0.fB.fT a0.fB.fA a0.fB.fE) (GJ.mk 0 0 [] [] [])).bind fun v3 =>
  (zb m ([109, 101, 116, 104, 111, 100] : List UInt8) v2 v3).bind fun v4 =>
  (zb m ([105, 100] : List UInt8) v1 v4).bind fun v5 =>
  some v5
 else
  if (a0.fK == 2) = true then
   (xv m a0.fM).bind fun v6 =>
   (zb m ([112, 97, 114, 97, 109, 115] : List UInt8) (GJ.mk a0.fB.fK a0.fB.fN a0.fB.fT a0.fB.fA a0.fB.fE) (GJ.mk 0 0 [] [] [])).bind fun v7 =>
   (zb m ([109, 101, 116, 104, 111, 100] : List UInt8) v6 v7).bind fun v8 =>
   some v8
  else
   if (a0.fK == 3) = true then
    (q6 m a0.fI).bind fun v9 =>
    (zb m ([114, 101, 115, 117, 108, 116] : List UInt8) (GJ.mk a0.fB.fK a0.fB.fN a0.fB.fT a0.fB.fA a0.fB.fE) (GJ.mk 0 0 [] [] [])).bind fun v10 =>
    (zb m ([105, 100] : List UInt8) v9 v10).bind fun v11 =>
    some v11
   else
    if (a0.fK == 4) = true then
     (q6 m a0.fI).bind fun v12 =>
     (q6 m a0.fC).bind fun v13 =>
     (xv m a0.fM).bind fun v14 =>
     (zb m ([109, 101, 115, 115, 97, 103, 101] : List UInt8) v14 (GJ.mk 0 0 [] [] [])).bind fun v15 =>
     (zb m ([99, 111, 100, 101] : List UInt8) v13 v15).bind fun v16 =>
     (zb m ([101, 114, 114, 111, 114] : List UInt8) v16 (GJ.mk 0 0 [] [] [])).bind fun v17 =>
     (zb m ([105, 100] : List UInt8) v12 v17).bind fun v18 =>
     some v18
    else
     (xv m ([36, 47, 99, 97, 110, 99, 101, 108] : List UInt8)).bind fun v19 =>
     (q6 m a0.fI).bind fun v20 =>
     (zb m ([105, 100] : List UInt8) v20 (GJ.mk 0 0 [] [] [])).bind fun v21 =>
     (zb m ([112, 97, 114, 97, 109, 115] : List UInt8) v21 (GJ.mk 0 0 [] [] [])).bind fun v22 =>
     (zb m ([109, 101, 116, 104, 111, 100] : List UInt8) v19 v22).bind fun v23 =>
     some v23
def y12 (a0 : GM) (o : GJ) : Exit → Env → AHeap → Nat → Prop := Zq zjp (x8 (.agg (z6 o)))
set_option maxHeartbeats 4000000 in
theorem zfz {a0 : GM} {m : Option Nat} {o : GJ} (h : ym m a0 = some o) : LWp Tryd.prog zm5 0 zqe (y12 a0 o) (y5 0 [.agg [i6 a0.fK, i6 a0.fI, i6 a0.fC, .str a0.fM, i6 a0.fB.fK, i6 a0.fB.fN, .str a0.fB.fT, .isl 1 (a0.fB.fA.map z7) false, .isl 5 (a0.fB.fE.map z8) false]]) [] 0 := by
 unfold ym at h
 refine za (ze ?_)
 refine za (ze ?_)
 refine za ?_
 refine za (ze ?_)
 refine xw ?_
 refine za (ze ?_)
 refine LWp.sim (e := [(1, .ptr (0, 0) 0 0), (2, .ptr (1, 0) 0 0), (3, .ptr (2, 0) 0 0), (6, i6 a0.fK), (7, .bool (a0.fK == 1))]) (L := [((0, 0), .one [i6 a0.fK, i6 a0.fI, i6 a0.fC, .str a0.fM, i6 a0.fB.fK, i6 a0.fB.fN, .str a0.fB.fT, .isl 1 (a0.fB.fA.map z7) false, .isl 5 (a0.fB.fE.map z8) false]), ((1, 0), .one [i6 0, i6 0, .str [], .isl 1 (([] : List (List UInt8)).map z7) true, .isl 5 (([] : List (List AVal)).map z8) true]), ((2, 0), .one [i6 0, i6 0, .str [], .isl 1 (([] : List (List UInt8)).map z7) true, .isl 5 (([] : List (List AVal)).map z8) true])]) (n := 3) ?_ ?_
 ·exact yp (M := [((0, 0), (0, 0)), ((1, 0), (1, 0)), ((2, 0), (2, 0))]) rfl (SP rfl (SP rfl (SP rfl (S2 rfl rfl TT)))) (AI (AI rfl (OL rfl)) (AI (AI rfl (OL rfl)) (AI (AI rfl (OL rfl)) TT)))
 refine yt (v := (a0.fK == 1)) rfl TT (fun h1 => ?_) (fun h1 => ?_)
 ·have h := zf h1 h
  refine za ?_
  refine Xv ?_
  obtain ⟨v1, h2, h⟩ := bind_some h
  refine PFn.call (z8u h2) (AI (VS rfl) TT) ?_
  refine AI rfl ?_
  refine AI rfl ?_
  refine AI rfl ?_
  obtain ⟨v2, h3, h⟩ := bind_some h
  refine PFn.call (zc3 h3) (AI (VS rfl) TT) ?_
  refine AI rfl ?_
  refine AI rfl ?_
  obtain ⟨v3, h4, h⟩ := bind_some h
  refine PFn.call (Q5 h4) (S2 rfl rfl (AI (Vw.aggL (S2 rfl rfl (AI (VS rfl) (AI (Vw.islF _ _ _) (AI (Vw.islF _ _ _) TT))))) TT)) ?_
  obtain ⟨v4, h5, h⟩ := bind_some h
  refine PFn.call (Q5 h5) (S2 rfl rfl (AI (VS rfl) TT)) ?_
  obtain ⟨v5, h6, h⟩ := bind_some h
  refine PFn.call (Q5 h6) (S2 rfl rfl (AI (VS rfl) TT)) ?_
  refine LWp.sim (e := [(2, .ptr (0, 0) 0 0)]) (L := [((0, 0), .one (z6 v5))]) (n := 1) ?_ ?_
  ·exact yp (M := [((0, 0), (1, 0))]) rfl (SP rfl TT) (AI (AI rfl (OL rfl)) TT)
  refine wh ?_
  cases h
  exact AI (AI TT (AI rfl (NB rfl))) (AI rfl (VS rfl))
 ·have h := zp h1 h
  refine za (ze ?_)
  refine yt (v := (a0.fK == 2)) rfl TT (fun h7 => ?_) (fun h7 => ?_)
  ·have h := zf h7 h
   refine za ?_
   refine Xv ?_
   obtain ⟨v6, h8, h⟩ := bind_some h
   refine PFn.call (zc3 h8) (AI (VS rfl) TT) ?_
   refine AI rfl ?_
   refine AI rfl ?_
   obtain ⟨v7, h9, h⟩ := bind_some h
   refine PFn.call (Q5 h9) (S2 rfl rfl (AI (Vw.aggL (S2 rfl rfl (AI (VS rfl) (AI (Vw.islF _ _ _) (AI (Vw.islF _ _ _) TT))))) TT)) ?_
   obtain ⟨v8, h10, h⟩ := bind_some h
   refine PFn.call (Q5 h10) (S2 rfl rfl (AI (VS rfl) TT)) ?_
   refine LWp.sim (e := [(2, .ptr (0, 0) 0 0)]) (L := [((0, 0), .one (z6 v8))]) (n := 1) ?_ ?_
   ·exact yp (M := [((0, 0), (1, 0))]) rfl (SP rfl TT) (AI (AI rfl (OL rfl)) TT)
   refine wh ?_
   cases h
   exact AI (AI TT (AI rfl (NB rfl))) (AI rfl (VS rfl))
  ·have h := zp h7 h
   refine za (ze ?_)
   refine yt (v := (a0.fK == 3)) rfl TT (fun h11 => ?_) (fun h11 => ?_)
   ·have h := zf h11 h
    refine za ?_
    refine Xv ?_
    obtain ⟨v9, h12, h⟩ := bind_some h
    refine PFn.call (z8u h12) (AI (VS rfl) TT) ?_
    refine AI rfl ?_
    refine AI rfl ?_
    obtain ⟨v10, h13, h⟩ := bind_some h
    refine PFn.call (Q5 h13) (S2 rfl rfl (AI (Vw.aggL (S2 rfl rfl (AI (VS rfl) (AI (Vw.islF _ _ _) (AI (Vw.islF _ _ _) TT))))) TT)) ?_
    obtain ⟨v11, h14, h⟩ := bind_some h
    refine PFn.call (Q5 h14) (S2 rfl rfl (AI (VS rfl) TT)) ?_
    refine LWp.sim (e := [(2, .ptr (0, 0) 0 0)]) (L := [((0, 0), .one (z6 v11))]) (n := 1) ?_ ?_
    ·exact yp (M := [((0, 0), (1, 0))]) rfl (SP rfl TT) (AI (AI rfl (OL rfl)) TT)
    refine wh ?_
    cases h
    exact AI (AI TT (AI rfl (NB rfl))) (AI rfl (VS rfl))
   ·have h := zp h11 h
    refine za (ze ?_)
    refine yt (v := (a0.fK == 4)) rfl TT (fun h15 => ?_) (fun h15 => ?_)
    ·have h := zf h15 h
     refine za ?_
     refine Xv ?_
     obtain ⟨v12, h16, h⟩ := bind_some h
     refine PFn.call (z8u h16) (AI (VS rfl) TT) ?_
     refine AI rfl ?_
     refine AI rfl ?_
     refine AI rfl ?_
     refine AI rfl ?_
     obtain ⟨v13, h17, h⟩ := bind_some h
     refine PFn.call (z8u h17) (AI (VS rfl) TT) ?_
     refine AI rfl ?_
     refine AI rfl ?_
     refine AI rfl ?_
     obtain ⟨v14, h18, h⟩ := bind_some h
     refine PFn.call (zc3 h18) (AI (VS rfl) TT) ?_
     refine AI rfl ?_
     refine AI rfl ?_
     obtain ⟨v15, h19, h⟩ := bind_some h
     refine PFn.call (Q5 h19) (S2 rfl rfl (AI (Vw.aggL (S2 rfl rfl (AI (VS rfl) (AI (Vw.islF _ _ _) (AI (Vw.islF _ _ _) TT))))) TT)) ?_
     refine AI rfl ?_
     obtain ⟨v16, h20, h⟩ := bind_some h
     refine PFn.call (Q5 h20) (S2 rfl rfl (AI (VS rfl) TT)) ?_
     refine AI rfl ?_
     obtain ⟨v17, h21, h⟩ := bind_some h
     refine PFn.call (Q5 h21) (S2 rfl rfl (AI (Vw.aggL (S2 rfl rfl (AI (VS rfl) (AI (Vw.islF _ _ _) (AI (Vw.islF _ _ _) TT))))) TT)) ?_
     obtain ⟨v18, h22, h⟩ := bind_some h
     refine PFn.call (Q5 h22) (S2 rfl rfl (AI (VS rfl) TT)) ?_
     refine LWp.sim (e := [(2, .ptr (0, 0) 0 0)]) (L := [((0, 0), .one (z6 v18))]) (n := 1) ?_ ?_
     ·exact yp (M := [((0, 0), (1, 0))]) rfl (SP rfl TT) (AI (AI rfl (OL rfl)) TT)
     refine wh ?_
     cases h
     exact AI (AI TT (AI rfl (NB rfl))) (AI rfl (VS rfl))
    ·have h := zp h15 h
     refine xq ?_
     refine za ?_
     refine Xv ?_
     obtain ⟨v19, h23, h⟩ := bind_some h
     refine PFn.call (zc3 h23) (AI (VS rfl) TT) ?_
     refine AI rfl ?_
     refine AI rfl ?_
     refine AI rfl ?_
     obtain ⟨v20, h24, h⟩ := bind_some h
     refine PFn.call (z8u h24) (AI (VS rfl) TT) ?_
     refine AI rfl ?_
     refine AI rfl ?_
     obtain ⟨v21, h25, h⟩ := bind_some h
     refine PFn.call (Q5 h25) (S2 rfl rfl (AI (Vw.aggL (S2 rfl rfl (AI (VS rfl) (AI (Vw.islF _ _ _) (AI (Vw.islF _ _ _) TT))))) TT)) ?_
     refine AI rfl ?_
     obtain ⟨v22, h26, h⟩ := bind_some h
     refine PFn.call (Q5 h26) (S2 rfl rfl (AI (Vw.aggL (S2 rfl rfl (AI (VS rfl) (AI (Vw.islF _ _ _) (AI (Vw.islF _ _ _) TT))))) TT)) ?_
     obtain ⟨v23, h27, h⟩ := bind_some h
     refine PFn.call (Q5 h27) (S2 rfl rfl (AI (VS rfl) TT)) ?_
     refine LWp.sim (e := [(2, .ptr (0, 0) 0 0)]) (L := [((0, 0), .one (z6 v23))]) (n := 1) ?_ ?_
     ·exact yp (M := [((0, 0), (1, 0))]) rfl (SP rfl TT) (AI (AI rfl (OL rfl)) TT)
     refine wh ?_
     cases h
     exact AI (AI TT (AI rfl (NB rfl))) (AI rfl (VS rfl))
theorem zyv {a0 : GM} {m : Option Nat} {o : GJ} (h : ym m a0 = some o) : PFn Tryd.prog 31 [.agg [i6 a0.fK, i6 a0.fI, i6 a0.fC, .str a0.fM, i6 a0.fB.fK, i6 a0.fB.fN, .str a0.fB.fT, .isl 1 (a0.fB.fA.map z7) false, .isl 5 (a0.fB.fE.map z8) false]] (.agg (z6 o)) := PFn.ofFnW (L := zye) zts zum (NB rfl) rfl (zfz h)
def zz9 : LCode := (.seq (.region [Qo 1 (.box (.t 0)),
 Qo 2 (.alloc [(i6 0), (i6 0), (.str []), (.isl 1 [] true), (.isl 5 [] true)]),
 Qi 3 0])
 (.seq (.seq (.region [Qf 7 0 1,
  Ql 8 1 7,
  Qo 9 (.bin .lss (.t 8) (.c (i6 1))),
  Qm 10 9,
  Qe 11 0 1 (10, false),
  Qk 12 1 11 (10, false),
  Qg 13 (.bin .gtr (.t 12) (.c (i6 5))) (10, false),
  Qo 14 (.pick (.t 10) (.c (.bool true)) (.t 13))])
 (.cond (.t 14)
  (.seq (.region [Qo 15 (.build [(i6 0), (i6 0), (.str []), (.isl 1 [] true), (.isl 5 [] true)] []),
   ⟨none, .store 5 (.t 2) (.t 15), none⟩,
   Qi 3 7])
  .ret)
  .skip))
 (.seq (.seq (.region [Qt 16 9 1,
  Qc 17 30 16,
  Qo 18 (.un .not (.t 17))])
 (.cond (.t 18)
  (.seq (.region [Qo 19 (.build [(i6 0), (i6 0), (.str []), (.isl 1 [] true), (.isl 5 [] true)] []),
   ⟨none, .store 5 (.t 2) (.t 19), none⟩,
   Qi 3 3])
  .ret)
  .skip))
 (.seq (.seq (.region [Qf 20 4 1,
  Qt 21 5 20,
  Qc 22 11 21,
  Qm 4 22])
 (.seq (.region [Qm 23 4,
  Qo 24 (.bin .neq (.t 23) (.c (i6 0)))])
 (.cond (.t 24)
  (.seq (.region [Qo 25 (.build [(i6 0), (i6 0), (.str []), (.isl 1 [] true), (.isl 5 [] true)] []),
   Qm 26 4,
   ⟨none, .store 5 (.t 2) (.t 25), none⟩,
   Qm 3 26])
  .ret)
  .skip)))
 (.seq (.region [Qt 27 9 1,
  Qc 28 31 27,
  Qo 5 (.alloc [(i6 0), (i6 0), (.str []), (.isl 1 [] true), (.isl 5 [] true)]),
  ⟨none, .store 5 (.t 5) (.t 28), none⟩])
 (.seq (.seq (.region [Qt 29 5 5,
  Qc 30 11 29,
  Qm 6 30])
 (.seq (.region [Qm 31 6,
  Qo 32 (.bin .neq (.t 31) (.c (i6 0)))])
 (.cond (.t 32)
  (.seq (.region [Qo 33 (.build [(i6 0), (i6 0), (.str []), (.isl 1 [] true), (.isl 5 [] true)] []),
   Qm 34 6,
   ⟨none, .store 5 (.t 2) (.t 33), none⟩,
   Qm 3 34])
  .ret)
  .skip)))
 (.seq (.region [Qt 35 5 5,
  ⟨none, .store 5 (.t 2) (.t 35), none⟩,
  Qi 3 0])
 .ret)))))))
def zrt : Lay := ⟨36, [], false⟩
def zr3 : List LRes := [.cell 2 true 5, .t 3]
def y1r : LFn := ⟨1, zrt, zz9, zr3⟩
theorem zxs : w9 Tryd.prog [] 8 = some y1r := by kernel_rfl
theorem zxu : uk Tryd.prog 8 := ⟨_, Tryd.func8, rfl, rfl⟩
noncomputable def yn (m : Option Nat) (a0 : GM) : Option (GJ × Int) :=
 if ((decide (a0.fK < 1)) || (decide (a0.fK > 5))) = true then
  some ((GJ.mk 0 0 [] [] []), 7)
 else
  (yv m (GM.mk a0.fK a0.fI a0.fC a0.fM (GJ.mk a0.fB.fK a0.fB.fN a0.fB.fT a0.fB.fA a0.fB.fE))).bind fun v1 =>
  if (!v1) = true then
   some ((GJ.mk 0 0 [] [] []), 3)
  else
   (yh m (GJ.mk a0.fB.fK a0.fB.fN a0.fB.fT a0.fB.fA a0.fB.fE)).bind fun v2 =>
   if (v2 != 0) = true then
    some ((GJ.mk 0 0 [] [] []), v2)
   else
    (ym m (GM.mk a0.fK a0.fI a0.fC a0.fM (GJ.mk a0.fB.fK a0.fB.fN a0.fB.fT a0.fB.fA a0.fB.fE))).bind fun v3 =>
    (yh m v3).bind fun v4 =>
    if (v4 != 0) = true then
     some ((GJ.mk 0 0 [] [] []), v4)
    else
     some (v3, 0)
def y2a (a0 : GM) (o : GJ × Int) : Exit → Env → AHeap → Nat → Prop := Zq zr3 (x8 (.tup [.agg (z6 o.1), i6 o.2]))
theorem zpk {a0 : GM} {m : Option Nat} {o : GJ × Int} (h : yn m a0 = some o) : LWp Tryd.prog zrt 0 zz9 (y2a a0 o) (y5 0 [.agg [i6 a0.fK, i6 a0.fI, i6 a0.fC, .str a0.fM, i6 a0.fB.fK, i6 a0.fB.fN, .str a0.fB.fT, .isl 1 (a0.fB.fA.map z7) false, .isl 5 (a0.fB.fE.map z8) false]]) [] 0 := by
 unfold yn at h
 refine za (ze ?_)
 refine za ?_
 refine za (ze ?_)
 refine AI (fun hp => hp) ?_
 refine AI (fun hp => hp) ?_
 refine AI (fun hc => (bqf hc)) ?_
 refine LWp.sim (e := [(1, .ptr (0, 0) 0 0), (2, .ptr (1, 0) 0 0), (14, .bool ((decide (a0.fK < 1)) || (decide (a0.fK > 5))))]) (L := [((0, 0), .one [i6 a0.fK, i6 a0.fI, i6 a0.fC, .str a0.fM, i6 a0.fB.fK, i6 a0.fB.fN, .str a0.fB.fT, .isl 1 (a0.fB.fA.map z7) false, .isl 5 (a0.fB.fE.map z8) false]), ((1, 0), .one [i6 0, i6 0, .str [], .isl 1 (([] : List (List UInt8)).map z7) true, .isl 5 (([] : List (List AVal)).map z8) true])]) (n := 2) ?_ ?_
 ·exact yp (M := [((0, 0), (0, 0)), ((1, 0), (1, 0))]) rfl (SP rfl (SP rfl (AI (VS rfl) TT))) (AI (AI rfl (OL rfl)) (AI (AI rfl (OL rfl)) TT))
 refine yt (v := ((decide (a0.fK < 1)) || (decide (a0.fK > 5)))) rfl TT (fun h1 => ?_) (fun h1 => ?_)
 ·have h := zf h1 h
  refine za (ze ?_)
  refine wh ?_
  cases h
  exact AI (AI TT (AI rfl (NB rfl))) (AI TT (AI rfl (Vw.tupL (AI (Vw.aggL (S2 rfl rfl (AI (VS rfl) (AI (Vw.islF _ _ _) (AI (Vw.islF _ _ _) TT))))) (AI (VS rfl) TT)))))
 ·have h := zp h1 h
  refine xq ?_
  refine za ?_
  refine za (ze ?_)
  obtain ⟨v1, h2, h⟩ := bind_some h
  refine PFn.call (zxw h2) (AI (VS rfl) TT) ?_
  refine yt (v := (!v1)) rfl TT (fun h3 => ?_) (fun h3 => ?_)
  ·have h := zf h3 h
   refine za (ze ?_)
   refine wh ?_
   cases h
   exact AI (AI TT (AI rfl (NB rfl))) (AI TT (AI rfl (Vw.tupL (AI (Vw.aggL (S2 rfl rfl (AI (VS rfl) (AI (Vw.islF _ _ _) (AI (Vw.islF _ _ _) TT))))) (AI (VS rfl) TT)))))
  ·have h := zp h3 h
   refine xq ?_
   refine za ?_
   refine za (ze ?_)
   obtain ⟨v2, h4, h⟩ := bind_some h
   refine PFn.call (zgi h4) (AI (VS rfl) TT) ?_
   refine za (ze ?_)
   refine LWp.sim (e := [(1, .ptr (0, 0) 0 0), (2, .ptr (1, 0) 0 0), (4, i6 v2), (24, .bool (v2 != 0))]) (L := [((0, 0), .one [i6 a0.fK, i6 a0.fI, i6 a0.fC, .str a0.fM, i6 a0.fB.fK, i6 a0.fB.fN, .str a0.fB.fT, .isl 1 (a0.fB.fA.map z7) false, .isl 5 (a0.fB.fE.map z8) false]), ((1, 0), .one [i6 0, i6 0, .str [], .isl 1 (([] : List (List UInt8)).map z7) true, .isl 5 (([] : List (List AVal)).map z8) true])]) (n := 2) ?_ ?_
   ·exact yp (M := [((0, 0), (0, 0)), ((1, 0), (1, 0))]) rfl (SP rfl (SP rfl (S2 rfl rfl TT))) (AI (AI rfl (OL rfl)) (AI (AI rfl (OL rfl)) TT))
   refine yt (v := (v2 != 0)) rfl TT (fun h5 => ?_) (fun h5 => ?_)
   ·have h := zf h5 h
    refine za (ze ?_)
    refine wh ?_
    cases h
    exact AI (AI TT (AI rfl (NB rfl))) (AI TT (AI rfl (Vw.tupL (AI (Vw.aggL (S2 rfl rfl (AI (VS rfl) (AI (Vw.islF _ _ _) (AI (Vw.islF _ _ _) TT))))) (AI (VS rfl) TT)))))
   ·have h := zp h5 h
    refine xq ?_
    refine za (ze ?_)
    obtain ⟨v3, h6, h⟩ := bind_some h
    refine PFn.call (zyv h6) (AI (VS rfl) TT) ?_
    refine za ?_
    refine za (ze ?_)
    obtain ⟨v4, h7, h⟩ := bind_some h
    refine PFn.call (zgi h7) (AI (VS rfl) TT) ?_
    refine za (ze ?_)
    refine LWp.sim (e := [(2, .ptr (0, 0) 0 0), (5, .ptr (1, 0) 0 0), (6, i6 v4), (32, .bool (v4 != 0))]) (L := [((0, 0), .one [i6 0, i6 0, .str [], .isl 1 (([] : List (List UInt8)).map z7) true, .isl 5 (([] : List (List AVal)).map z8) true]), ((1, 0), .one (z6 v3))]) (n := 2) ?_ ?_
    ·exact yp (M := [((0, 0), (1, 0)), ((1, 0), (2, 0))]) rfl (SP rfl (SP rfl (S2 rfl rfl TT))) (AI (AI rfl (OL rfl)) (AI (AI rfl (OL rfl)) TT))
    refine yt (v := (v4 != 0)) rfl TT (fun h8 => ?_) (fun h8 => ?_)
    ·have h := zf h8 h
     refine za (ze ?_)
     refine wh ?_
     cases h
     exact AI (AI TT (AI rfl (NB rfl))) (AI TT (AI rfl (Vw.tupL (AI (Vw.aggL (S2 rfl rfl (AI (VS rfl) (AI (Vw.islF _ _ _) (AI (Vw.islF _ _ _) TT))))) (AI (VS rfl) TT)))))
    ·have h := zp h8 h
     refine xq ?_
     refine za (ze ?_)
     refine wh ?_
     cases h
     exact AI (AI TT (AI rfl (NB rfl))) (AI TT (AI rfl (VS rfl)))
theorem y18 {a0 : GM} {m : Option Nat} {o : GJ × Int} (h : yn m a0 = some o) : PFn Tryd.prog 8 [.agg [i6 a0.fK, i6 a0.fI, i6 a0.fC, .str a0.fM, i6 a0.fB.fK, i6 a0.fB.fN, .str a0.fB.fT, .isl 1 (a0.fB.fA.map z7) false, .isl 5 (a0.fB.fE.map z8) false]] (.tup [.agg (z6 o.1), i6 o.2]) := PFn.ofFnW (L := y1r) zxs zxu (NB rfl) rfl (zpk h)
def zre : LCode := (.seq (.region [Qf 86 0 14,
 ⟨none, .store 1 (.t 86) (.c (i6 2)), none⟩])
 (.seq (.region [Qm 87 5])
 (.cond (.t 87)
  (.seq (.region [Qf 88 0 14,
   ⟨none, .store 1 (.t 88) (.c (i6 1)), none⟩])
  (.region [Qm 89 15,
   Qo 90 (.bin .sub (.t 89) (.c (i6 1))),
   Qm 15 90]))
  (.seq (.region [Qf 91 2 6,
   Ql 92 1 91,
   Qo 93 (.bin .eql (.t 92) (.c (.str [36, 47, 99, 97, 110, 99, 101, 108])))])
  (.cond (.t 93)
   (.seq (.region [Qt 95 5 8,
    Qo 96 (.call 39 [(.t 95), (.c (.str [105, 100]))]),
    Qm 94 96,
    Qo 97 (.ext 0 (.t 94)),
    Qo 98 (.ext 1 (.t 94)),
    Qo 17 (.alloc [(i6 0), (i6 0), (.str []), (.isl 1 [] true), (.isl 5 [] true)]),
    ⟨none, .store 5 (.t 17) (.t 97), none⟩,
    Qm 18 98])
   (.seq (.region [Qm 99 16,
    Qm 100 99,
    Qe 101 0 8 (100, true),
    Qk 102 1 101 (100, true),
    Qg 103 (.bin .eql (.t 102) (.c (i6 5))) (100, true),
    Qp 104 100 103,
    Qm 105 104,
    Qe 106 3 8 (105, true),
    Qk 107 1 106 (105, true),
    Qg 108 (.len false (.t 107)) (105, true),
    Qg 109 (.bin .eql (.t 108) (.c (i6 1))) (105, true),
    Qp 110 105 109,
    Qm 111 110,
    Qn 112 18 (111, true),
    Qp 113 111 112,
    Qm 114 113,
    Qe 115 0 17 (114, true),
    Qk 116 1 115 (114, true),
    Qg 117 (.bin .eql (.t 116) (.c (i6 2))) (114, true),
    Qp 118 114 117,
    Qm 16 118])
   (.region [Qf 119 1 17,
    Ql 120 1 119,
    Qo 121 (.build [(i6 0), (i6 0), (i6 0), (.str []), (i6 0), (i6 0), (.str []), (.isl 1 [] true), (.isl 5 [] true)] [(0, 1, (.c (i6 5))), (1, 1, (.t 120))]),
    ⟨none, .store 9 (.t 14) (.t 121), none⟩])))
   .skip)))))
def zgs : LCode := (.seq (.seq (.region [Qt 186 9 14,
 Qc 187 8 186,
 Qm 185 187,
 Qo 188 (.ext 0 (.t 185)),
 Qo 189 (.ext 1 (.t 185)),
 Qo 23 (.alloc [(i6 0), (i6 0), (.str []), (.isl 1 [] true), (.isl 5 [] true)]),
 ⟨none, .store 5 (.t 23) (.t 188), none⟩,
 Qm 24 189])
 (.seq (.region [Qm 190 16,
  Qo 191 (.un .not (.t 190)),
  Qm 192 191,
  Qn 193 15 (192, false),
  Qg 194 (.bin .neq (.t 193) (.c (i6 0))) (192, false),
  Qo 195 (.pick (.t 192) (.c (.bool true)) (.t 194)),
  Qm 196 195,
  Qn 197 24 (196, false),
  Qg 198 (.bin .neq (.t 197) (.c (i6 0))) (196, false),
  Qo 199 (.pick (.t 196) (.c (.bool true)) (.t 198))])
 (.cond (.t 199)
  (.seq (.region [Qo 200 (.build [(i6 0), (i6 0), (i6 0), (.str []), (i6 0), (i6 0), (.str []), (.isl 1 [] true), (.isl 5 [] true)] []),
   ⟨none, .store 9 (.t 2) (.t 200), none⟩,
   Qi 3 3])
  .ret)
  .skip)))
 (.seq (.region [Qt 201 9 14,
  ⟨none, .store 9 (.t 2) (.t 201), none⟩,
  Qi 3 0])
 .ret))
def zry : LCode := (.seq (.region [Qo 1 (.box (.t 0)),
 Qo 2 (.alloc [(i6 0), (i6 0), (i6 0), (.str []), (i6 0), (i6 0), (.str []), (.isl 1 [] true), (.isl 5 [] true)]),
 Qi 3 0])
 (.seq (.region [Qt 26 5 1,
  Qo 27 (.call 39 [(.t 26), (.c (.str [105, 100]))]),
  Qm 25 27,
  Qo 28 (.ext 0 (.t 25)),
  Qo 29 (.ext 1 (.t 25)),
  Qo 4 (.alloc [(i6 0), (i6 0), (.str []), (.isl 1 [] true), (.isl 5 [] true)]),
  ⟨none, .store 5 (.t 4) (.t 28), none⟩,
  Qm 5 29])
 (.seq (.region [Qt 31 5 1,
  Qo 32 (.call 39 [(.t 31), (.c (.str [109, 101, 116, 104, 111, 100]))]),
  Qm 30 32,
  Qo 33 (.ext 0 (.t 30)),
  Qo 34 (.ext 1 (.t 30)),
  Qo 6 (.alloc [(i6 0), (i6 0), (.str []), (.isl 1 [] true), (.isl 5 [] true)]),
  ⟨none, .store 5 (.t 6) (.t 33), none⟩,
  Qm 7 34])
 (.seq (.region [Qt 36 5 1,
  Qo 37 (.call 39 [(.t 36), (.c (.str [112, 97, 114, 97, 109, 115]))]),
  Qm 35 37,
  Qo 38 (.ext 0 (.t 35)),
  Qo 39 (.ext 1 (.t 35)),
  Qo 8 (.alloc [(i6 0), (i6 0), (.str []), (.isl 1 [] true), (.isl 5 [] true)]),
  ⟨none, .store 5 (.t 8) (.t 38), none⟩,
  Qm 9 39])
 (.seq (.region [Qt 41 5 1,
  Qo 42 (.call 39 [(.t 41), (.c (.str [114, 101, 115, 117, 108, 116]))]),
  Qm 40 42,
  Qo 43 (.ext 0 (.t 40)),
  Qo 44 (.ext 1 (.t 40)),
  Qo 10 (.alloc [(i6 0), (i6 0), (.str []), (.isl 1 [] true), (.isl 5 [] true)]),
  ⟨none, .store 5 (.t 10) (.t 43), none⟩,
  Qm 11 44])
 (.seq (.region [Qt 46 5 1,
  Qo 47 (.call 39 [(.t 46), (.c (.str [101, 114, 114, 111, 114]))]),
  Qm 45 47,
  Qo 48 (.ext 0 (.t 45)),
  Qo 49 (.ext 1 (.t 45)),
  Qo 12 (.alloc [(i6 0), (i6 0), (.str []), (.isl 1 [] true), (.isl 5 [] true)]),
  ⟨none, .store 5 (.t 12) (.t 48), none⟩,
  Qm 13 49])
 (.seq (.region [Qf 50 1 4,
  Ql 51 1 50,
  Qo 52 (.build [(i6 0), (i6 0), (i6 0), (.str []), (i6 0), (i6 0), (.str []), (.isl 1 [] true), (.isl 5 [] true)] [(1, 1, (.t 51))]),
  Qo 14 (.alloc [(i6 0), (i6 0), (i6 0), (.str []), (i6 0), (i6 0), (.str []), (.isl 1 [] true), (.isl 5 [] true)]),
  ⟨none, .store 9 (.t 14) (.t 52), none⟩])
 (.seq (.region [Qf 53 3 1,
  Ql 54 1 53,
  Qo 55 (.len false (.t 54)),
  Qm 15 55])
 (.seq (.region [Qf 56 0 1,
  Ql 57 1 56,
  Qo 58 (.bin .eql (.t 57) (.c (i6 5))),
  Qm 59 58,
  Qn 60 5 (59, true),
  Qg 61 (.un .not (.t 60)) (59, true),
  Qn 62 61 (59, true),
  Qe 63 0 4 (62, false),
  Qk 64 1 63 (62, false),
  Qg 65 (.bin .eql (.t 64) (.c (i6 2))) (62, false),
  Qg 66 (.pick (.t 62) (.c (.bool true)) (.t 65)) (59, true),
  Qp 67 59 66,
  Qm 16 67])
 (.seq (.block 0
  (.seq (.region [Qm 69 7,
   Qm 68 69])
  (.cond (.t 68)
   (.seq (.draw [⟨Qf 70 2 6, []⟩,
    ⟨Ql 71 1 70, []⟩,
    ⟨Qt 72 5 8, []⟩,
    ⟨Qf 73 3 14, []⟩,
    ⟨⟨none, .store 1 (.t 73) (.t 71), none⟩, [2]⟩,
    ⟨Qf 74 4 14, []⟩,
    ⟨⟨none, .store 5 (.t 74) (.t 72), none⟩, []⟩])
   (.seq (.region [Qm 75 16,
    Qm 76 75,
    Qe 77 0 6 (76, true),
    Qk 78 1 77 (76, true),
    Qg 79 (.bin .eql (.t 78) (.c (i6 3))) (76, true),
    Qp 80 76 79,
    Qm 16 80])
   (.seq (.region [Qm 81 15,
    Qo 82 (.bin .sub (.t 81) (.c (i6 1))),
    Qm 15 82])
   (.seq (.seq (.region [Qm 83 9])
   (.cond (.t 83)
    (.region [Qm 84 15,
     Qo 85 (.bin .sub (.t 84) (.c (i6 1))),
     Qm 15 85])
    .skip))
   zre))))
   (.seq (.region [Qm 123 11,
    Qm 122 123])
   (.cond (.t 122)
    (.seq (.draw [⟨Qt 124 5 10, []⟩,
     ⟨Qf 125 0 14, []⟩,
     ⟨⟨none, .store 1 (.t 125) (.c (i6 3)), none⟩, [0]⟩,
     ⟨Qf 126 4 14, []⟩,
     ⟨⟨none, .store 5 (.t 126) (.t 124), none⟩, []⟩])
    (.seq (.region [Qm 127 16,
     Qm 128 127,
     Qn 129 5 (128, true),
     Qp 130 128 129,
     Qm 16 130])
    (.region [Qm 131 15,
     Qo 132 (.bin .sub (.t 131) (.c (i6 2))),
     Qm 15 132])))
    (.seq (.region [Qm 134 13,
     Qm 133 134])
    (.cond (.t 133)
     (.seq (.region [Qt 136 5 12,
      Qo 137 (.call 39 [(.t 136), (.c (.str [99, 111, 100, 101]))]),
      Qm 135 137,
      Qo 138 (.ext 0 (.t 135)),
      Qo 139 (.ext 1 (.t 135)),
      Qo 19 (.alloc [(i6 0), (i6 0), (.str []), (.isl 1 [] true), (.isl 5 [] true)]),
      ⟨none, .store 5 (.t 19) (.t 138), none⟩,
      Qm 20 139])
     (.seq (.region [Qt 141 5 12,
      Qo 142 (.call 39 [(.t 141), (.c (.str [109, 101, 115, 115, 97, 103, 101]))]),
      Qm 140 142,
      Qo 143 (.ext 0 (.t 140)),
      Qo 144 (.ext 1 (.t 140)),
      Qo 21 (.alloc [(i6 0), (i6 0), (.str []), (.isl 1 [] true), (.isl 5 [] true)]),
      ⟨none, .store 5 (.t 21) (.t 143), none⟩,
      Qm 22 144])
     (.seq (.draw [⟨Qf 145 1 19, []⟩,
      ⟨Ql 146 1 145, []⟩,
      ⟨Qf 147 2 21, []⟩,
      ⟨Ql 148 1 147, []⟩,
      ⟨Qf 149 0 14, []⟩,
      ⟨⟨none, .store 1 (.t 149) (.c (i6 4)), none⟩, [1, 3]⟩,
      ⟨Qf 150 2 14, []⟩,
      ⟨⟨none, .store 1 (.t 150) (.t 146), none⟩, [3]⟩,
      ⟨Qf 151 3 14, []⟩,
      ⟨⟨none, .store 1 (.t 151) (.t 148), none⟩, []⟩])
     (.seq (.region [Qm 152 16,
      Qm 153 152,
      Qn 154 5 (153, true),
      Qp 155 153 154,
      Qm 156 155,
      Qe 157 0 12 (156, true),
      Qk 158 1 157 (156, true),
      Qg 159 (.bin .eql (.t 158) (.c (i6 5))) (156, true),
      Qp 160 156 159,
      Qm 161 160,
      Qe 162 3 12 (161, true),
      Qk 163 1 162 (161, true),
      Qg 164 (.len false (.t 163)) (161, true),
      Qg 165 (.bin .eql (.t 164) (.c (i6 2))) (161, true),
      Qp 166 161 165,
      Qm 167 166,
      Qn 168 20 (167, true),
      Qp 169 167 168,
      Qm 170 169,
      Qe 171 0 19 (170, true),
      Qk 172 1 171 (170, true),
      Qg 173 (.bin .eql (.t 172) (.c (i6 2))) (170, true),
      Qp 174 170 173,
      Qm 175 174,
      Qn 176 22 (175, true),
      Qp 177 175 176,
      Qm 178 177,
      Qe 179 0 21 (178, true),
      Qk 180 1 179 (178, true),
      Qg 181 (.bin .eql (.t 180) (.c (i6 3))) (178, true),
      Qp 182 178 181,
      Qm 16 182])
     (.region [Qm 183 15,
      Qo 184 (.bin .sub (.t 183) (.c (i6 2))),
      Qm 15 184])))))
     (.region [Qb 16]))))))))
 zgs))))))))))
def z11 : Lay := ⟨202, [], false⟩
def zg1 : List LRes := [.cell 2 true 9, .t 3]
def zxe : LFn := ⟨1, z11, zry, zg1⟩
theorem zty : w9 Tryd.prog [] 13 = some zxe := by kernel_rfl
theorem ztg : uk Tryd.prog 13 := ⟨_, Tryd.func13, rfl, rfl⟩
noncomputable def zl (m : Option Nat) (v10 : Int) (v11 : Bool) (v12 : Int) (v13 : Int) (v14 : List UInt8) (v15 : Int) (v16 : Int) (v17 : List UInt8) (v18 : List (List UInt8)) (v19 : List (List AVal)) (v20 : Int) : Option (GM × Int) :=
 (yn m (GM.mk v12 v13 v20 v14 (GJ.mk v15 v16 v17 v18 v19))).bind fun v21 =>
 if (((!v11) || (v10 != 0)) || (v21.2 != 0)) = true then
  some ((GM.mk 0 0 0 ([] : List UInt8) (GJ.mk 0 0 [] [] [])), 3)
 else
  some ((GM.mk v12 v13 v20 v14 (GJ.mk v15 v16 v17 v18 v19)), 0)
noncomputable def zm (m : Option Nat) (a0 : GJ) (v1 : GJ × Bool) (v2 : GJ × Bool) (v3 : GJ × Bool) (v6 : Int) : Option (GM × Int) :=
 if v1.2 = true then
  zl m (W (v6 - 1)) (((a0.fK == 5) && ((!v1.2) || (v1.1.fK == 2))) && (v2.1.fK == 3)) 1 v1.1.fN v2.1.fT v3.1.fK v3.1.fN v3.1.fT v3.1.fA v3.1.fE 0
 else
  if (v2.1.fT == ([36, 47, 99, 97, 110, 99, 101, 108] : List UInt8)) = true then
   (zz m (GJ.mk v3.1.fK v3.1.fN v3.1.fT v3.1.fA v3.1.fE) ([105, 100] : List UInt8)).bind fun v7 =>
   zl m v6 (((((((a0.fK == 5) && ((!v1.2) || (v1.1.fK == 2))) && (v2.1.fK == 3)) && (v3.1.fK == 5)) && (((v3.1.fA.map z7).length : Int) == 1)) && v7.2) && (v7.1.fK == 2)) 5 v7.1.fN ([] : List UInt8) 0 0 ([] : List UInt8) ([] : List (List UInt8)) ([] : List (List AVal)) 0
  else
   zl m v6 (((a0.fK == 5) && ((!v1.2) || (v1.1.fK == 2))) && (v2.1.fK == 3)) 2 v1.1.fN v2.1.fT v3.1.fK v3.1.fN v3.1.fT v3.1.fA v3.1.fE 0
def zwa (a0 : GJ) (o : GM × Int) : Exit → Env → AHeap → Nat → Prop := Zq zg1 (x8 (.tup [.agg [i6 o.1.fK, i6 o.1.fI, i6 o.1.fC, .str o.1.fM, i6 o.1.fB.fK, i6 o.1.fB.fN, .str o.1.fB.fT, .isl 1 (o.1.fB.fA.map z7) false, .isl 5 (o.1.fB.fE.map z8) false], i6 o.2]))
theorem X3 {a0 : GJ} {v10 : Int} {v11 : Bool} {v12 : Int} {v13 : Int} {v14 : List UInt8} {v15 : Int} {v16 : Int} {v17 : List UInt8} {v18 : List (List UInt8)} {v19 : List (List AVal)} {v20 : Int} {m : Option Nat} {o : (GM × Int)} (h : zl m v10 v11 v12 v13 v14 v15 v16 v17 v18 v19 v20 = some o) :
 LWp Tryd.prog z11 0 zgs (zwa a0 o) [(2, .ptr (0, 0) 0 0), (14, .ptr (1, 0) 0 0), (15, i6 v10), (16, .bool v11)] [((0, 0), .one [i6 0, i6 0, i6 0, .str [], i6 0, i6 0, .str [], .isl 1 (([] : List (List UInt8)).map z7) true, .isl 5 (([] : List (List AVal)).map z8) true]), ((1, 0), .one [i6 v12, i6 v13, i6 v20, .str v14, i6 v15, i6 v16, .str v17, .isl 1 (v18.map z7) false, .isl 5 (v19.map z8) false])] 2 := by
 unfold zl at h
 refine za ?_
 refine za (ze ?_)
 obtain ⟨v21, h15, h⟩ := bind_some h
 refine PFn.call (y18 h15) (AI (VS rfl) TT) ?_
 refine LWp.sim (e := [(2, .ptr (0, 0) 0 0), (14, .ptr (1, 0) 0 0), (15, i6 v10), (16, .bool v11), (24, i6 v21.2)]) (L := [((0, 0), .one [i6 0, i6 0, i6 0, .str [], i6 0, i6 0, .str [], .isl 1 (([] : List (List UInt8)).map z7) true, .isl 5 (([] : List (List AVal)).map z8) true]), ((1, 0), .one [i6 v12, i6 v13, i6 v20, .str v14, i6 v15, i6 v16, .str v17, .isl 1 (v18.map z7) false, .isl 5 (v19.map z8) false])]) (n := 2) ?_ ?_
 ·exact yp (M := [((0, 0), (0, 0)), ((1, 0), (1, 0))]) rfl (SP rfl (SP rfl (S2 rfl rfl (AI (VS rfl) TT)))) (AI (AI rfl (OL rfl)) (AI (AI rfl (OL rfl)) TT))
 refine za (ze ?_)
 refine AI (fun hp => hp) ?_
 refine AI (fun hc => (bqf hc)) ?_
 refine AI (fun hp => hp) ?_
 refine AI (fun hc => (bqf hc)) ?_
 refine LWp.sim (e := [(2, .ptr (0, 0) 0 0), (14, .ptr (1, 0) 0 0), (199, .bool (((!v11) || (v10 != 0)) || (v21.2 != 0)))]) (L := [((0, 0), .one [i6 0, i6 0, i6 0, .str [], i6 0, i6 0, .str [], .isl 1 (([] : List (List UInt8)).map z7) true, .isl 5 (([] : List (List AVal)).map z8) true]), ((1, 0), .one [i6 v12, i6 v13, i6 v20, .str v14, i6 v15, i6 v16, .str v17, .isl 1 (v18.map z7) false, .isl 5 (v19.map z8) false])]) (n := 2) ?_ ?_
 ·exact yp (M := [((0, 0), (0, 0)), ((1, 0), (1, 0))]) rfl (SP rfl (SP rfl (AI (VS rfl) TT))) (AI (AI rfl (OL rfl)) (AI (AI rfl (OL rfl)) TT))
 refine yt (v := (((!v11) || (v10 != 0)) || (v21.2 != 0))) rfl TT (fun h16 => ?_) (fun h16 => ?_)
 ·have h := zf h16 h
  refine za (ze ?_)
  refine wh ?_
  cases h
  exact AI (AI TT (AI rfl (NB rfl))) (AI TT (AI rfl (Vw.tupL (AI (Vw.aggL (S4 rfl rfl rfl rfl (S2 rfl rfl (AI (VS rfl) (AI (Vw.islF _ _ _) (AI (Vw.islF _ _ _) TT)))))) (AI (VS rfl) TT)))))
 ·have h := zp h16 h
  refine xq ?_
  refine za (ze ?_)
  refine wh ?_
  cases h
  exact AI (AI TT (AI rfl (NB rfl))) (AI TT (AI rfl (VS rfl)))
theorem z6u {a0 : GJ} {v1 : GJ × Bool} {v2 : GJ × Bool} {v3 : GJ × Bool} {v6 : Int} {m : Option Nat} {o : (GM × Int)} (h : zm m a0 v1 v2 v3 v6 = some o) :
 LWp Tryd.prog z11 0 zre (xn 0 (X5 Tryd.prog z11 0 zgs (zwa a0 o))) [(2, .ptr (0, 0) 0 0), (5, .bool v1.2), (6, .ptr (1, 0) 0 0), (8, .ptr (2, 0) 0 0), (14, .ptr (3, 0) 0 0), (15, i6 v6), (16, .bool (((a0.fK == 5) && ((!v1.2) || (v1.1.fK == 2))) && (v2.1.fK == 3)))] [((0, 0), .one [i6 0, i6 0, i6 0, .str [], i6 0, i6 0, .str [], .isl 1 (([] : List (List UInt8)).map z7) true, .isl 5 (([] : List (List AVal)).map z8) true]), ((1, 0), .one (z6 v2.1)), ((2, 0), .one (z6 v3.1)), ((3, 0), .one [i6 0, i6 v1.1.fN, i6 0, .str v2.1.fT, i6 v3.1.fK, i6 v3.1.fN, .str v3.1.fT, .isl 1 (v3.1.fA.map z7) false, .isl 5 (v3.1.fE.map z8) false])] 4 := by
 unfold zm at h
 refine za (ze ?_)
 refine za (ze ?_)
 refine yt (v := v1.2) rfl TT (fun h8 => ?_) (fun h8 => ?_)
 ·have h := zf h8 h
  refine za (ze ?_)
  refine ze ?_
  refine LWp.sim ?_ (X3 h)
  exact yp (M := [((0, 0), (0, 0)), ((1, 0), (3, 0))]) rfl (SP rfl (SP rfl (S2 rfl rfl TT))) (AI (AI rfl (OL rfl)) (AI (AI rfl (OL rfl)) TT))
 ·have h := zp h8 h
  refine za (ze ?_)
  refine yt (v := (v2.1.fT == ([36, 47, 99, 97, 110, 99, 101, 108] : List UInt8))) rfl TT (fun h9 => ?_) (fun h9 => ?_)
  ·have h := zf h9 h
   refine za (ze ?_)
   obtain ⟨v7, h10, h⟩ := bind_some h
   refine PFn.call (Ky h10) (S2 rfl rfl TT) ?_
   refine LWp.sim (e := [(2, .ptr (0, 0) 0 0), (8, .ptr (1, 0) 0 0), (14, .ptr (2, 0) 0 0), (15, i6 v6), (16, .bool (((a0.fK == 5) && ((!v1.2) || (v1.1.fK == 2))) && (v2.1.fK == 3))), (17, .ptr (3, 0) 0 0), (18, .bool v7.2)]) (L := [((0, 0), .one [i6 0, i6 0, i6 0, .str [], i6 0, i6 0, .str [], .isl 1 (([] : List (List UInt8)).map z7) true, .isl 5 (([] : List (List AVal)).map z8) true]), ((1, 0), .one (z6 v3.1)), ((2, 0), .one [i6 2, i6 v1.1.fN, i6 0, .str v2.1.fT, i6 v3.1.fK, i6 v3.1.fN, .str v3.1.fT, .isl 1 (v3.1.fA.map z7) false, .isl 5 (v3.1.fE.map z8) false]), ((3, 0), .one (z6 v7.1))]) (n := 4) ?_ ?_
   ·exact yp (M := [((0, 0), (0, 0)), ((1, 0), (2, 0)), ((2, 0), (3, 0)), ((3, 0), (4, 0))]) rfl (SP rfl (SP rfl (SP rfl (S2 rfl rfl (SP rfl (AI (VS rfl) TT)))))) (AI (AI rfl (OL rfl)) (AI (AI rfl (OL rfl)) (AI (AI rfl (OL rfl)) (AI (AI rfl (OL rfl)) TT))))
   refine za (ze ?_)
   refine AI (fun hp => hp) ?_
   refine AI (fun hp => hp) ?_
   refine AI (fun hc => (bqt hc)) ?_
   refine AI (fun hp => hp) ?_
   refine AI (fun hp => hp) ?_
   refine AI (fun hp => hp) ?_
   refine AI (fun hc => (bqt hc)) ?_
   refine AI (fun hc => (bqt hc)) ?_
   refine AI (fun hp => hp) ?_
   refine AI (fun hp => hp) ?_
   refine AI (fun hc => (bqt hc)) ?_
   refine LWp.sim (e := [(2, .ptr (0, 0) 0 0), (14, .ptr (1, 0) 0 0), (15, i6 v6), (16, .bool (((((((a0.fK == 5) && ((!v1.2) || (v1.1.fK == 2))) && (v2.1.fK == 3)) && (v3.1.fK == 5)) && (((v3.1.fA.map z7).length : Int) == 1)) && v7.2) && (v7.1.fK == 2))), (17, .ptr (2, 0) 0 0)]) (L := [((0, 0), .one [i6 0, i6 0, i6 0, .str [], i6 0, i6 0, .str [], .isl 1 (([] : List (List UInt8)).map z7) true, .isl 5 (([] : List (List AVal)).map z8) true]), ((1, 0), .one [i6 2, i6 v1.1.fN, i6 0, .str v2.1.fT, i6 v3.1.fK, i6 v3.1.fN, .str v3.1.fT, .isl 1 (v3.1.fA.map z7) false, .isl 5 (v3.1.fE.map z8) false]), ((2, 0), .one (z6 v7.1))]) (n := 3) ?_ ?_
   ·exact yp (M := [((0, 0), (0, 0)), ((1, 0), (2, 0)), ((2, 0), (3, 0))]) rfl (SP rfl (SP rfl (S2 rfl rfl (SP rfl TT)))) (AI (AI rfl (OL rfl)) (AI (AI rfl (OL rfl)) (AI (AI rfl (OL rfl)) TT)))
   refine ze ?_
   refine LWp.sim ?_ (X3 h)
   exact yp (M := [((0, 0), (0, 0)), ((1, 0), (1, 0))]) rfl (SP rfl (SP rfl (S2 rfl rfl TT))) (AI (AI rfl (OL rfl)) (AI (AI rfl (BVw.oneL (S4 rfl rfl rfl rfl (S2 rfl rfl (AI (VS rfl) (AI (Vw.islF _ _ _) (AI (Vw.islF _ _ _) TT))))))) TT))
  ·have h := zp h9 h
   refine xq ?_
   refine LWp.sim ?_ (X3 h)
   exact yp (M := [((0, 0), (0, 0)), ((1, 0), (3, 0))]) rfl (SP rfl (SP rfl (S2 rfl rfl TT))) (AI (AI rfl (OL rfl)) (AI (AI rfl (OL rfl)) TT))
noncomputable def qm (m : Option Nat) (a0 : GJ) : Option (GM × Int) :=
 (zz m a0 ([105, 100] : List UInt8)).bind fun v1 =>
 (zz m a0 ([109, 101, 116, 104, 111, 100] : List UInt8)).bind fun v2 =>
 (zz m a0 ([112, 97, 114, 97, 109, 115] : List UInt8)).bind fun v3 =>
 (zz m a0 ([114, 101, 115, 117, 108, 116] : List UInt8)).bind fun v4 =>
 (zz m a0 ([101, 114, 114, 111, 114] : List UInt8)).bind fun v5 =>
 if v2.2 = true then
  if v3.2 = true then
   zm m a0 v1 v2 v3 (W ((W (((a0.fA.map z7).length : Int) - 1)) - 1))
  else
   zm m a0 v1 v2 v3 (W (((a0.fA.map z7).length : Int) - 1))
 else
  if v4.2 = true then
   zl m (W (((a0.fA.map z7).length : Int) - 2)) (((a0.fK == 5) && ((!v1.2) || (v1.1.fK == 2))) && v1.2) 3 v1.1.fN ([] : List UInt8) v4.1.fK v4.1.fN v4.1.fT v4.1.fA v4.1.fE 0
  else
   if v5.2 = true then
    (zz m (GJ.mk v5.1.fK v5.1.fN v5.1.fT v5.1.fA v5.1.fE) ([99, 111, 100, 101] : List UInt8)).bind fun v8 =>
    (zz m (GJ.mk v5.1.fK v5.1.fN v5.1.fT v5.1.fA v5.1.fE) ([109, 101, 115, 115, 97, 103, 101] : List UInt8)).bind fun v9 =>
    zl m (W (((a0.fA.map z7).length : Int) - 2)) (((((((((a0.fK == 5) && ((!v1.2) || (v1.1.fK == 2))) && v1.2) && (v5.1.fK == 5)) && (((v5.1.fA.map z7).length : Int) == 2)) && v8.2) && (v8.1.fK == 2)) && v9.2) && (v9.1.fK == 3)) 4 v1.1.fN v9.1.fT 0 0 ([] : List UInt8) ([] : List (List UInt8)) ([] : List (List AVal)) v8.1.fN
   else
    zl m ((a0.fA.map z7).length : Int) false 0 v1.1.fN ([] : List UInt8) 0 0 ([] : List UInt8) ([] : List (List UInt8)) ([] : List (List AVal)) 0
set_option maxHeartbeats 4000000 in
theorem zg7 {a0 : GJ} {m : Option Nat} {o : GM × Int} (h : qm m a0 = some o) : LWp Tryd.prog z11 0 zry (zwa a0 o) (y5 0 [.agg (z6 a0)]) [] 0 := by
 unfold qm at h
 refine za (ze ?_)
 refine za (ze ?_)
 obtain ⟨v1, h1, h⟩ := bind_some h
 refine PFn.call (Ky h1) (S2 rfl rfl TT) ?_
 refine LWp.sim (e := [(1, .ptr (0, 0) 0 0), (2, .ptr (1, 0) 0 0), (4, .ptr (2, 0) 0 0), (5, .bool v1.2)]) (L := [((0, 0), .one (z6 a0)), ((1, 0), .one [i6 0, i6 0, i6 0, .str [], i6 0, i6 0, .str [], .isl 1 (([] : List (List UInt8)).map z7) true, .isl 5 (([] : List (List AVal)).map z8) true]), ((2, 0), .one (z6 v1.1))]) (n := 3) ?_ ?_
 ·exact yp (M := [((0, 0), (0, 0)), ((1, 0), (1, 0)), ((2, 0), (2, 0))]) rfl (SP rfl (SP rfl (SP rfl (AI (VS rfl) TT)))) (AI (AI rfl (OL rfl)) (AI (AI rfl (OL rfl)) (AI (AI rfl (OL rfl)) TT)))
 refine za (ze ?_)
 obtain ⟨v2, h2, h⟩ := bind_some h
 refine PFn.call (Ky h2) (S2 rfl rfl TT) ?_
 refine LWp.sim (e := [(1, .ptr (0, 0) 0 0), (2, .ptr (1, 0) 0 0), (4, .ptr (2, 0) 0 0), (5, .bool v1.2), (6, .ptr (3, 0) 0 0), (7, .bool v2.2)]) (L := [((0, 0), .one (z6 a0)), ((1, 0), .one [i6 0, i6 0, i6 0, .str [], i6 0, i6 0, .str [], .isl 1 (([] : List (List UInt8)).map z7) true, .isl 5 (([] : List (List AVal)).map z8) true]), ((2, 0), .one (z6 v1.1)), ((3, 0), .one (z6 v2.1))]) (n := 4) ?_ ?_
 ·exact yp (M := [((0, 0), (0, 0)), ((1, 0), (1, 0)), ((2, 0), (2, 0)), ((3, 0), (3, 0))]) rfl (SP rfl (SP rfl (SP rfl (AI (VS rfl) (SP rfl (AI (VS rfl) TT)))))) (AI (AI rfl (OL rfl)) (AI (AI rfl (OL rfl)) (AI (AI rfl (OL rfl)) (AI (AI rfl (OL rfl)) TT))))
 refine za (ze ?_)
 obtain ⟨v3, h3, h⟩ := bind_some h
 refine PFn.call (Ky h3) (S2 rfl rfl TT) ?_
 refine LWp.sim (e := [(1, .ptr (0, 0) 0 0), (2, .ptr (1, 0) 0 0), (4, .ptr (2, 0) 0 0), (5, .bool v1.2), (6, .ptr (3, 0) 0 0), (7, .bool v2.2), (8, .ptr (4, 0) 0 0), (9, .bool v3.2)]) (L := [((0, 0), .one (z6 a0)), ((1, 0), .one [i6 0, i6 0, i6 0, .str [], i6 0, i6 0, .str [], .isl 1 (([] : List (List UInt8)).map z7) true, .isl 5 (([] : List (List AVal)).map z8) true]), ((2, 0), .one (z6 v1.1)), ((3, 0), .one (z6 v2.1)), ((4, 0), .one (z6 v3.1))]) (n := 5) ?_ ?_
 ·exact yp (M := [((0, 0), (0, 0)), ((1, 0), (1, 0)), ((2, 0), (2, 0)), ((3, 0), (3, 0)), ((4, 0), (4, 0))]) rfl (SP rfl (SP rfl (SP rfl (AI (VS rfl) (SP rfl (AI (VS rfl) (SP rfl (AI (VS rfl) TT)))))))) (AI (AI rfl (OL rfl)) (AI (AI rfl (OL rfl)) (AI (AI rfl (OL rfl)) (AI (AI rfl (OL rfl)) (AI (AI rfl (OL rfl)) TT)))))
 refine za (ze ?_)
 obtain ⟨v4, h4, h⟩ := bind_some h
 refine PFn.call (Ky h4) (S2 rfl rfl TT) ?_
 refine LWp.sim (e := [(1, .ptr (0, 0) 0 0), (2, .ptr (1, 0) 0 0), (4, .ptr (2, 0) 0 0), (5, .bool v1.2), (6, .ptr (3, 0) 0 0), (7, .bool v2.2), (8, .ptr (4, 0) 0 0), (9, .bool v3.2), (10, .ptr (5, 0) 0 0), (11, .bool v4.2)]) (L := [((0, 0), .one (z6 a0)), ((1, 0), .one [i6 0, i6 0, i6 0, .str [], i6 0, i6 0, .str [], .isl 1 (([] : List (List UInt8)).map z7) true, .isl 5 (([] : List (List AVal)).map z8) true]), ((2, 0), .one (z6 v1.1)), ((3, 0), .one (z6 v2.1)), ((4, 0), .one (z6 v3.1)), ((5, 0), .one (z6 v4.1))]) (n := 6) ?_ ?_
 ·exact yp (M := [((0, 0), (0, 0)), ((1, 0), (1, 0)), ((2, 0), (2, 0)), ((3, 0), (3, 0)), ((4, 0), (4, 0)), ((5, 0), (5, 0))]) rfl (SP rfl (SP rfl (SP rfl (AI (VS rfl) (SP rfl (AI (VS rfl) (SP rfl (AI (VS rfl) (SP rfl (AI (VS rfl) TT)))))))))) (AI (AI rfl (OL rfl)) (AI (AI rfl (OL rfl)) (AI (AI rfl (OL rfl)) (AI (AI rfl (OL rfl)) (AI (AI rfl (OL rfl)) (AI (AI rfl (OL rfl)) TT))))))
 refine za (ze ?_)
 obtain ⟨v5, h5, h⟩ := bind_some h
 refine PFn.call (Ky h5) (S2 rfl rfl TT) ?_
 refine LWp.sim (e := [(1, .ptr (0, 0) 0 0), (2, .ptr (1, 0) 0 0), (4, .ptr (2, 0) 0 0), (5, .bool v1.2), (6, .ptr (3, 0) 0 0), (7, .bool v2.2), (8, .ptr (4, 0) 0 0), (9, .bool v3.2), (10, .ptr (5, 0) 0 0), (11, .bool v4.2), (12, .ptr (6, 0) 0 0), (13, .bool v5.2)]) (L := [((0, 0), .one (z6 a0)), ((1, 0), .one [i6 0, i6 0, i6 0, .str [], i6 0, i6 0, .str [], .isl 1 (([] : List (List UInt8)).map z7) true, .isl 5 (([] : List (List AVal)).map z8) true]), ((2, 0), .one (z6 v1.1)), ((3, 0), .one (z6 v2.1)), ((4, 0), .one (z6 v3.1)), ((5, 0), .one (z6 v4.1)), ((6, 0), .one (z6 v5.1))]) (n := 7) ?_ ?_
 ·exact yp (M := [((0, 0), (0, 0)), ((1, 0), (1, 0)), ((2, 0), (2, 0)), ((3, 0), (3, 0)), ((4, 0), (4, 0)), ((5, 0), (5, 0)), ((6, 0), (6, 0))]) rfl (SP rfl (SP rfl (SP rfl (AI (VS rfl) (SP rfl (AI (VS rfl) (SP rfl (AI (VS rfl) (SP rfl (AI (VS rfl) (SP rfl (AI (VS rfl) TT)))))))))))) (AI (AI rfl (OL rfl)) (AI (AI rfl (OL rfl)) (AI (AI rfl (OL rfl)) (AI (AI rfl (OL rfl)) (AI (AI rfl (OL rfl)) (AI (AI rfl (OL rfl)) (AI (AI rfl (OL rfl)) TT)))))))
 refine za (ze ?_)
 refine za (ze ?_)
 refine LWp.sim (e := [(1, .ptr (0, 0) 0 0), (2, .ptr (1, 0) 0 0), (4, .ptr (2, 0) 0 0), (5, .bool v1.2), (6, .ptr (3, 0) 0 0), (7, .bool v2.2), (8, .ptr (4, 0) 0 0), (9, .bool v3.2), (10, .ptr (5, 0) 0 0), (11, .bool v4.2), (12, .ptr (6, 0) 0 0), (13, .bool v5.2), (14, .ptr (7, 0) 0 0), (15, i6 ((a0.fA.map z7).length : Int))]) (L := [((0, 0), .one (z6 a0)), ((1, 0), .one [i6 0, i6 0, i6 0, .str [], i6 0, i6 0, .str [], .isl 1 (([] : List (List UInt8)).map z7) true, .isl 5 (([] : List (List AVal)).map z8) true]), ((2, 0), .one (z6 v1.1)), ((3, 0), .one (z6 v2.1)), ((4, 0), .one (z6 v3.1)), ((5, 0), .one (z6 v4.1)), ((6, 0), .one (z6 v5.1)), ((7, 0), .one [i6 0, i6 v1.1.fN, i6 0, .str [], i6 0, i6 0, .str [], .isl 1 (([] : List (List UInt8)).map z7) true, .isl 5 (([] : List (List AVal)).map z8) true])]) (n := 8) ?_ ?_
 ·exact yp (M := [((0, 0), (0, 0)), ((1, 0), (1, 0)), ((2, 0), (2, 0)), ((3, 0), (3, 0)), ((4, 0), (4, 0)), ((5, 0), (5, 0)), ((6, 0), (6, 0)), ((7, 0), (7, 0))]) rfl (SP rfl (SP rfl (SP rfl (AI (VS rfl) (SP rfl (AI (VS rfl) (SP rfl (AI (VS rfl) (SP rfl (AI (VS rfl) (SP rfl (AI (VS rfl) (SP rfl (AI (VS rfl) TT)))))))))))))) (AI (AI rfl (OL rfl)) (AI (AI rfl (OL rfl)) (AI (AI rfl (OL rfl)) (AI (AI rfl (OL rfl)) (AI (AI rfl (OL rfl)) (AI (AI rfl (OL rfl)) (AI (AI rfl (OL rfl)) (AI (AI rfl (OL rfl)) TT))))))))
 refine za (ze ?_)
 refine AI (fun hp => hp) ?_
 refine AI (fun hp => hp) ?_
 refine AI (fun hp => hp) ?_
 refine AI (fun hp => hp) ?_
 refine AI (fun hp => (AI hp (fun hc => (z2a hp (bqf hc))))) ?_
 refine AI (fun hc => (bqt hc)) ?_
 refine LWp.sim (e := [(2, .ptr (0, 0) 0 0), (5, .bool v1.2), (6, .ptr (1, 0) 0 0), (7, .bool v2.2), (8, .ptr (2, 0) 0 0), (9, .bool v3.2), (10, .ptr (3, 0) 0 0), (11, .bool v4.2), (12, .ptr (4, 0) 0 0), (13, .bool v5.2), (14, .ptr (5, 0) 0 0), (15, i6 ((a0.fA.map z7).length : Int)), (16, .bool ((a0.fK == 5) && ((!v1.2) || (v1.1.fK == 2))))]) (L := [((0, 0), .one [i6 0, i6 0, i6 0, .str [], i6 0, i6 0, .str [], .isl 1 (([] : List (List UInt8)).map z7) true, .isl 5 (([] : List (List AVal)).map z8) true]), ((1, 0), .one (z6 v2.1)), ((2, 0), .one (z6 v3.1)), ((3, 0), .one (z6 v4.1)), ((4, 0), .one (z6 v5.1)), ((5, 0), .one [i6 0, i6 v1.1.fN, i6 0, .str [], i6 0, i6 0, .str [], .isl 1 (([] : List (List UInt8)).map z7) true, .isl 5 (([] : List (List AVal)).map z8) true])]) (n := 6) ?_ ?_
 ·exact yp (M := [((0, 0), (1, 0)), ((1, 0), (3, 0)), ((2, 0), (4, 0)), ((3, 0), (5, 0)), ((4, 0), (6, 0)), ((5, 0), (7, 0))]) rfl (SP rfl (AI (VS rfl) (SP rfl (AI (VS rfl) (SP rfl (AI (VS rfl) (SP rfl (AI (VS rfl) (SP rfl (AI (VS rfl) (SP rfl (S2 rfl rfl TT)))))))))))) (AI (AI rfl (OL rfl)) (AI (AI rfl (OL rfl)) (AI (AI rfl (OL rfl)) (AI (AI rfl (OL rfl)) (AI (AI rfl (OL rfl)) (AI (AI rfl (OL rfl)) TT))))))
 refine za ?_
 refine xw ?_
 refine za (ze ?_)
 refine yt (v := v2.2) rfl TT (fun h6 => ?_) (fun h6 => ?_)
 ·have h := zf h6 h
  refine za ?_
  refine Xv ?_
  refine AI rfl ?_
  refine LWp.sim (e := [(2, .ptr (0, 0) 0 0), (5, .bool v1.2), (6, .ptr (1, 0) 0 0), (8, .ptr (2, 0) 0 0), (9, .bool v3.2), (14, .ptr (3, 0) 0 0), (15, i6 ((a0.fA.map z7).length : Int)), (16, .bool ((a0.fK == 5) && ((!v1.2) || (v1.1.fK == 2))))]) (L := [((0, 0), .one [i6 0, i6 0, i6 0, .str [], i6 0, i6 0, .str [], .isl 1 (([] : List (List UInt8)).map z7) true, .isl 5 (([] : List (List AVal)).map z8) true]), ((1, 0), .one (z6 v2.1)), ((2, 0), .one (z6 v3.1)), ((3, 0), .one [i6 0, i6 v1.1.fN, i6 0, .str v2.1.fT, i6 v3.1.fK, i6 v3.1.fN, .str v3.1.fT, .isl 1 (v3.1.fA.map z7) false, .isl 5 (v3.1.fE.map z8) false])]) (n := 4) ?_ ?_
  ·exact yp (M := [((0, 0), (0, 0)), ((1, 0), (1, 0)), ((2, 0), (2, 0)), ((3, 0), (5, 0))]) rfl (SP rfl (AI (VS rfl) (SP rfl (SP rfl (AI (VS rfl) (SP rfl (S2 rfl rfl TT))))))) (AI (AI rfl (OL rfl)) (AI (AI rfl (OL rfl)) (AI (AI rfl (OL rfl)) (AI (AI rfl (OL rfl)) TT))))
  refine za (ze ?_)
  refine AI (fun hp => hp) ?_
  refine AI (fun hp => hp) ?_
  refine AI (fun hc => (bqt hc)) ?_
  refine za (ze ?_)
  refine LWp.sim (e := [(2, .ptr (0, 0) 0 0), (5, .bool v1.2), (6, .ptr (1, 0) 0 0), (8, .ptr (2, 0) 0 0), (9, .bool v3.2), (14, .ptr (3, 0) 0 0), (15, i6 (W (((a0.fA.map z7).length : Int) - 1))), (16, .bool (((a0.fK == 5) && ((!v1.2) || (v1.1.fK == 2))) && (v2.1.fK == 3)))]) (L := [((0, 0), .one [i6 0, i6 0, i6 0, .str [], i6 0, i6 0, .str [], .isl 1 (([] : List (List UInt8)).map z7) true, .isl 5 (([] : List (List AVal)).map z8) true]), ((1, 0), .one (z6 v2.1)), ((2, 0), .one (z6 v3.1)), ((3, 0), .one [i6 0, i6 v1.1.fN, i6 0, .str v2.1.fT, i6 v3.1.fK, i6 v3.1.fN, .str v3.1.fT, .isl 1 (v3.1.fA.map z7) false, .isl 5 (v3.1.fE.map z8) false])]) (n := 4) ?_ ?_
  ·exact yp (M := [((0, 0), (0, 0)), ((1, 0), (1, 0)), ((2, 0), (2, 0)), ((3, 0), (3, 0))]) rfl (SP rfl (AI (VS rfl) (SP rfl (SP rfl (AI (VS rfl) (SP rfl (S2 rfl rfl TT))))))) (AI (AI rfl (OL rfl)) (AI (AI rfl (OL rfl)) (AI (AI rfl (OL rfl)) (AI (AI rfl (OL rfl)) TT))))
  refine za ?_
  refine za (ze ?_)
  refine yt (v := v3.2) rfl TT (fun h7 => ?_) (fun h7 => ?_)
  ·have h := zf h7 h
   refine ze ?_
   refine LWp.sim ?_ (z6u h)
   exact yp (M := [((0, 0), (0, 0)), ((1, 0), (1, 0)), ((2, 0), (2, 0)), ((3, 0), (3, 0))]) rfl (SP rfl (AI (VS rfl) (SP rfl (SP rfl (SP rfl (S2 rfl rfl TT)))))) (AI (AI rfl (OL rfl)) (AI (AI rfl (OL rfl)) (AI (AI rfl (OL rfl)) (AI (AI rfl (OL rfl)) TT))))
  ·have h := zp h7 h
   refine xq ?_
   refine LWp.sim ?_ (z6u h)
   exact yp (M := [((0, 0), (0, 0)), ((1, 0), (1, 0)), ((2, 0), (2, 0)), ((3, 0), (3, 0))]) rfl (SP rfl (AI (VS rfl) (SP rfl (SP rfl (SP rfl (S2 rfl rfl TT)))))) (AI (AI rfl (OL rfl)) (AI (AI rfl (OL rfl)) (AI (AI rfl (OL rfl)) (AI (AI rfl (OL rfl)) TT))))
 ·have h := zp h6 h
  refine za (ze ?_)
  refine yt (v := v4.2) rfl TT (fun h11 => ?_) (fun h11 => ?_)
  ·have h := zf h11 h
   refine za ?_
   refine Xv ?_
   refine AI rfl ?_
   refine LWp.sim (e := [(2, .ptr (0, 0) 0 0), (5, .bool v1.2), (14, .ptr (1, 0) 0 0), (15, i6 ((a0.fA.map z7).length : Int)), (16, .bool ((a0.fK == 5) && ((!v1.2) || (v1.1.fK == 2))))]) (L := [((0, 0), .one [i6 0, i6 0, i6 0, .str [], i6 0, i6 0, .str [], .isl 1 (([] : List (List UInt8)).map z7) true, .isl 5 (([] : List (List AVal)).map z8) true]), ((1, 0), .one [i6 3, i6 v1.1.fN, i6 0, .str [], i6 v4.1.fK, i6 v4.1.fN, .str v4.1.fT, .isl 1 (v4.1.fA.map z7) false, .isl 5 (v4.1.fE.map z8) false])]) (n := 2) ?_ ?_
   ·exact yp (M := [((0, 0), (0, 0)), ((1, 0), (5, 0))]) rfl (SP rfl (AI (VS rfl) (SP rfl (S2 rfl rfl TT)))) (AI (AI rfl (OL rfl)) (AI (AI rfl (OL rfl)) TT))
   refine za (ze ?_)
   refine AI (fun hc => (bqt hc)) ?_
   refine ze ?_
   refine LWp.sim ?_ (X3 h)
   exact yp (M := [((0, 0), (0, 0)), ((1, 0), (1, 0))]) rfl (SP rfl (SP rfl (S2 rfl rfl TT))) (AI (AI rfl (OL rfl)) (AI (AI rfl (OL rfl)) TT))
  ·have h := zp h11 h
   refine za (ze ?_)
   refine yt (v := v5.2) rfl TT (fun h12 => ?_) (fun h12 => ?_)
   ·have h := zf h12 h
    refine za (ze ?_)
    obtain ⟨v8, h13, h⟩ := bind_some h
    refine PFn.call (Ky h13) (S2 rfl rfl TT) ?_
    refine LWp.sim (e := [(2, .ptr (0, 0) 0 0), (5, .bool v1.2), (12, .ptr (1, 0) 0 0), (14, .ptr (2, 0) 0 0), (15, i6 ((a0.fA.map z7).length : Int)), (16, .bool ((a0.fK == 5) && ((!v1.2) || (v1.1.fK == 2)))), (19, .ptr (3, 0) 0 0), (20, .bool v8.2)]) (L := [((0, 0), .one [i6 0, i6 0, i6 0, .str [], i6 0, i6 0, .str [], .isl 1 (([] : List (List UInt8)).map z7) true, .isl 5 (([] : List (List AVal)).map z8) true]), ((1, 0), .one (z6 v5.1)), ((2, 0), .one [i6 0, i6 v1.1.fN, i6 0, .str [], i6 0, i6 0, .str [], .isl 1 (([] : List (List UInt8)).map z7) true, .isl 5 (([] : List (List AVal)).map z8) true]), ((3, 0), .one (z6 v8.1))]) (n := 4) ?_ ?_
    ·exact yp (M := [((0, 0), (0, 0)), ((1, 0), (4, 0)), ((2, 0), (5, 0)), ((3, 0), (6, 0))]) rfl (SP rfl (AI (VS rfl) (SP rfl (SP rfl (S2 rfl rfl (SP rfl (AI (VS rfl) TT))))))) (AI (AI rfl (OL rfl)) (AI (AI rfl (OL rfl)) (AI (AI rfl (OL rfl)) (AI (AI rfl (OL rfl)) TT))))
    refine za (ze ?_)
    obtain ⟨v9, h14, h⟩ := bind_some h
    refine PFn.call (Ky h14) (S2 rfl rfl TT) ?_
    refine LWp.sim (e := [(2, .ptr (0, 0) 0 0), (5, .bool v1.2), (12, .ptr (1, 0) 0 0), (14, .ptr (2, 0) 0 0), (15, i6 ((a0.fA.map z7).length : Int)), (16, .bool ((a0.fK == 5) && ((!v1.2) || (v1.1.fK == 2)))), (19, .ptr (3, 0) 0 0), (20, .bool v8.2), (21, .ptr (4, 0) 0 0), (22, .bool v9.2)]) (L := [((0, 0), .one [i6 0, i6 0, i6 0, .str [], i6 0, i6 0, .str [], .isl 1 (([] : List (List UInt8)).map z7) true, .isl 5 (([] : List (List AVal)).map z8) true]), ((1, 0), .one (z6 v5.1)), ((2, 0), .one [i6 0, i6 v1.1.fN, i6 0, .str [], i6 0, i6 0, .str [], .isl 1 (([] : List (List UInt8)).map z7) true, .isl 5 (([] : List (List AVal)).map z8) true]), ((3, 0), .one (z6 v8.1)), ((4, 0), .one (z6 v9.1))]) (n := 5) ?_ ?_
    ·exact yp (M := [((0, 0), (0, 0)), ((1, 0), (1, 0)), ((2, 0), (2, 0)), ((3, 0), (3, 0)), ((4, 0), (4, 0))]) rfl (SP rfl (AI (VS rfl) (SP rfl (SP rfl (S2 rfl rfl (SP rfl (AI (VS rfl) (SP rfl (AI (VS rfl) TT))))))))) (AI (AI rfl (OL rfl)) (AI (AI rfl (OL rfl)) (AI (AI rfl (OL rfl)) (AI (AI rfl (OL rfl)) (AI (AI rfl (OL rfl)) TT)))))
    refine za ?_
    refine Xv ?_
    refine AI rfl ?_
    refine AI rfl ?_
    refine AI rfl ?_
    refine LWp.sim (e := [(2, .ptr (0, 0) 0 0), (5, .bool v1.2), (12, .ptr (1, 0) 0 0), (14, .ptr (2, 0) 0 0), (15, i6 ((a0.fA.map z7).length : Int)), (16, .bool ((a0.fK == 5) && ((!v1.2) || (v1.1.fK == 2)))), (19, .ptr (3, 0) 0 0), (20, .bool v8.2), (21, .ptr (4, 0) 0 0), (22, .bool v9.2)]) (L := [((0, 0), .one [i6 0, i6 0, i6 0, .str [], i6 0, i6 0, .str [], .isl 1 (([] : List (List UInt8)).map z7) true, .isl 5 (([] : List (List AVal)).map z8) true]), ((1, 0), .one (z6 v5.1)), ((2, 0), .one [i6 4, i6 v1.1.fN, i6 v8.1.fN, .str v9.1.fT, i6 0, i6 0, .str [], .isl 1 (([] : List (List UInt8)).map z7) true, .isl 5 (([] : List (List AVal)).map z8) true]), ((3, 0), .one (z6 v8.1)), ((4, 0), .one (z6 v9.1))]) (n := 5) ?_ ?_
    ·exact yp (M := [((0, 0), (0, 0)), ((1, 0), (1, 0)), ((2, 0), (2, 0)), ((3, 0), (3, 0)), ((4, 0), (4, 0))]) rfl (SP rfl (AI (VS rfl) (SP rfl (SP rfl (S2 rfl rfl (SP rfl (AI (VS rfl) (SP rfl (AI (VS rfl) TT))))))))) (AI (AI rfl (OL rfl)) (AI (AI rfl (OL rfl)) (AI (AI rfl (OL rfl)) (AI (AI rfl (OL rfl)) (AI (AI rfl (OL rfl)) TT)))))
    refine za (ze ?_)
    refine AI (fun hc => (bqt hc)) ?_
    refine AI (fun hp => hp) ?_
    refine AI (fun hp => hp) ?_
    refine AI (fun hc => (bqt hc)) ?_
    refine AI (fun hp => hp) ?_
    refine AI (fun hp => hp) ?_
    refine AI (fun hp => hp) ?_
    refine AI (fun hc => (bqt hc)) ?_
    refine AI (fun hc => (bqt hc)) ?_
    refine AI (fun hp => hp) ?_
    refine AI (fun hp => hp) ?_
    refine AI (fun hc => (bqt hc)) ?_
    refine AI (fun hc => (bqt hc)) ?_
    refine AI (fun hp => hp) ?_
    refine AI (fun hp => hp) ?_
    refine AI (fun hc => (bqt hc)) ?_
    refine LWp.sim (e := [(2, .ptr (0, 0) 0 0), (14, .ptr (1, 0) 0 0), (15, i6 ((a0.fA.map z7).length : Int)), (16, .bool (((((((((a0.fK == 5) && ((!v1.2) || (v1.1.fK == 2))) && v1.2) && (v5.1.fK == 5)) && (((v5.1.fA.map z7).length : Int) == 2)) && v8.2) && (v8.1.fK == 2)) && v9.2) && (v9.1.fK == 3)))]) (L := [((0, 0), .one [i6 0, i6 0, i6 0, .str [], i6 0, i6 0, .str [], .isl 1 (([] : List (List UInt8)).map z7) true, .isl 5 (([] : List (List AVal)).map z8) true]), ((1, 0), .one [i6 4, i6 v1.1.fN, i6 v8.1.fN, .str v9.1.fT, i6 0, i6 0, .str [], .isl 1 (([] : List (List UInt8)).map z7) true, .isl 5 (([] : List (List AVal)).map z8) true])]) (n := 2) ?_ ?_
    ·exact yp (M := [((0, 0), (0, 0)), ((1, 0), (2, 0))]) rfl (SP rfl (SP rfl (S2 rfl rfl TT))) (AI (AI rfl (OL rfl)) (AI (AI rfl (OL rfl)) TT))
    refine ze ?_
    refine LWp.sim ?_ (X3 h)
    exact yp (M := [((0, 0), (0, 0)), ((1, 0), (1, 0))]) rfl (SP rfl (SP rfl (S2 rfl rfl TT))) (AI (AI rfl (OL rfl)) (AI (AI rfl (BVw.oneL (S4 rfl rfl rfl rfl (S2 rfl rfl (AI (VS rfl) (AI (Vw.islF _ _ _) (AI (Vw.islF _ _ _) TT))))))) TT))
   ·have h := zp h12 h
    refine ze ?_
    refine LWp.sim ?_ (X3 h)
    exact yp (M := [((0, 0), (0, 0)), ((1, 0), (5, 0))]) rfl (SP rfl (SP rfl (S2 rfl rfl TT))) (AI (AI rfl (OL rfl)) (AI (AI rfl (BVw.oneL (S4 rfl rfl rfl rfl (S2 rfl rfl (AI (VS rfl) (AI (Vw.islF _ _ _) (AI (Vw.islF _ _ _) TT))))))) TT))
theorem zyo {a0 : GJ} {m : Option Nat} {o : GM × Int} (h : qm m a0 = some o) : PFn Tryd.prog 13 [.agg (z6 a0)] (.tup [.agg [i6 o.1.fK, i6 o.1.fI, i6 o.1.fC, .str o.1.fM, i6 o.1.fB.fK, i6 o.1.fB.fN, .str o.1.fB.fT, .isl 1 (o.1.fB.fA.map z7) false, .isl 5 (o.1.fB.fE.map z8) false], i6 o.2]) := PFn.ofFnW (L := zxe) zty ztg (NB rfl) rfl (zg7 h)
def zxc : LCode := (.seq (.region [Qo 1 (.box (.t 0)),
 Qb 2])
 (.seq (.seq (.region [Qo 7 (.call 6 []),
  Qo 8 (.un .not (.t 7))])
 (.cond (.t 8)
  (.seq (.region [Qb 2])
  .ret)
  .skip))
 (.seq (.region [Qt 10 5 1,
  Qc 11 10 10,
  Qm 9 11,
  Qo 12 (.ext 0 (.t 9)),
  Qo 13 (.ext 1 (.t 9)),
  Qo 3 (.alloc [(i6 0), (i6 0), (i6 0), (.str []), (i6 0), (i6 0), (.str []), (.isl 1 [] true), (.isl 5 [] true)]),
  ⟨none, .store 9 (.t 3) (.t 12), none⟩,
  Qm 4 13])
 (.seq (.seq (.region [Qt 14 5 1,
  Qc 15 11 14,
  Qo 16 (.bin .neq (.t 15) (.c (i6 0)))])
 (.cond (.t 16)
  (.seq (.region [Qo 17 (.call 6 []),
   Qm 18 17,
   Qn 19 4 (18, true),
   Qg 20 (.bin .eql (.t 19) (.c (i6 3))) (18, true),
   Qp 21 18 20,
   Qm 22 21,
   Qg 23 (.load true 9 (.t 3)) (22, true),
   Qg 24 (.build [(i6 0), (i6 0), (i6 0), (.str []), (i6 0), (i6 0), (.str []), (.isl 1 [] true), (.isl 5 [] true)] []) (22, true),
   Qg 25 (.call 12 [(.t 23), (.t 24)]) (22, true),
   Qp 26 22 25,
   Qm 2 26])
  .ret)
  .skip))
 (.seq (.region [Qt 28 5 1,
  Qc 29 13 28,
  Qm 27 29,
  Qo 30 (.ext 0 (.t 27)),
  Qo 31 (.ext 1 (.t 27)),
  Qo 5 (.alloc [(i6 0), (i6 0), (i6 0), (.str []), (i6 0), (i6 0), (.str []), (.isl 1 [] true), (.isl 5 [] true)]),
  ⟨none, .store 9 (.t 5) (.t 30), none⟩,
  Qm 6 31])
 (.seq (.region [Qo 32 (.call 6 []),
  Qm 33 32,
  Qn 34 4 (33, true),
  Qn 35 6 (33, true),
  Qg 36 (.bin .eql (.t 34) (.t 35)) (33, true),
  Qp 37 33 36,
  Qm 38 37,
  Qg 39 (.load true 9 (.t 3)) (38, true),
  Qg 40 (.load true 9 (.t 5)) (38, true),
  Qg 41 (.call 12 [(.t 39), (.t 40)]) (38, true),
  Qp 42 38 41,
  Qm 2 42])
 .ret))))))
def zqv : Lay := ⟨43, [], false⟩
def zqu : List LRes := [.t 2]
def y1u : LFn := ⟨1, zqv, zxc, zqu⟩
theorem zzi : w9 Tryd.prog [] 4 = some y1u := by kernel_rfl
theorem zze : uk Tryd.prog 4 := ⟨_, Tryd.func4, rfl, rfl⟩
noncomputable def xb (m : Option Nat) (a0 : GJ) : Option Bool :=
 (x4 (some 4096)).bind fun v1 =>
 if (!v1) = true then
  some false
 else
  (vo m a0).bind fun v2 =>
  (yh m a0).bind fun v3 =>
  if (v3 != 0) = true then
   (x4 (some 4096)).bind fun v4 =>
   (if ((v4 && (v2.2 == 3)) == true) = true then zx m (GM.mk v2.1.fK v2.1.fI v2.1.fC v2.1.fM (GJ.mk v2.1.fB.fK v2.1.fB.fN v2.1.fB.fT v2.1.fB.fA v2.1.fB.fE)) (GM.mk 0 0 0 ([] : List UInt8) (GJ.mk 0 0 [] [] [])) else some default).bind fun v5 =>
   some ((v4 && (v2.2 == 3)) && v5)
  else
   (qm m a0).bind fun v6 =>
   (x4 (some 4096)).bind fun v7 =>
   (if ((v7 && (v2.2 == v6.2)) == true) = true then zx m (GM.mk v2.1.fK v2.1.fI v2.1.fC v2.1.fM (GJ.mk v2.1.fB.fK v2.1.fB.fN v2.1.fB.fT v2.1.fB.fA v2.1.fB.fE)) (GM.mk v6.1.fK v6.1.fI v6.1.fC v6.1.fM (GJ.mk v6.1.fB.fK v6.1.fB.fN v6.1.fB.fT v6.1.fB.fA v6.1.fB.fE)) else some default).bind fun v8 =>
   some ((v7 && (v2.2 == v6.2)) && v8)
def y1z (a0 : GJ) (o : Bool) : Exit → Env → AHeap → Nat → Prop := Zq zqu (x8 (.bool o))
theorem zor {a0 : GJ} {m : Option Nat} {o : Bool} (h : xb m a0 = some o) : LWp Tryd.prog zqv 0 zxc (y1z a0 o) (y5 0 [.agg (z6 a0)]) [] 0 := by
 unfold xb at h
 refine za (ze ?_)
 refine za ?_
 refine za (ze ?_)
 obtain ⟨v1, h1, h⟩ := bind_some h
 refine PFn.call (ztc h1) TT ?_
 refine yt (v := (!v1)) rfl TT (fun h2 => ?_) (fun h2 => ?_)
 ·have h := zf h2 h
  refine za (ze ?_)
  refine wh ?_
  cases h
  exact AI TT (AI rfl (VS rfl))
 ·have h := zp h2 h
  refine xq ?_
  refine za (ze ?_)
  obtain ⟨v2, h3, h⟩ := bind_some h
  refine PFn.call (zyp h3) (AI (VS rfl) TT) ?_
  refine LWp.sim (e := [(1, .ptr (0, 0) 0 0), (3, .ptr (1, 0) 0 0), (4, i6 v2.2)]) (L := [((0, 0), .one (z6 a0)), ((1, 0), .one [i6 v2.1.fK, i6 v2.1.fI, i6 v2.1.fC, .str v2.1.fM, i6 v2.1.fB.fK, i6 v2.1.fB.fN, .str v2.1.fB.fT, .isl 1 (v2.1.fB.fA.map z7) false, .isl 5 (v2.1.fB.fE.map z8) false])]) (n := 2) ?_ ?_
  ·exact yp (M := [((0, 0), (0, 0)), ((1, 0), (1, 0))]) rfl (SP rfl (SP rfl (AI (VS rfl) TT))) (AI (AI rfl (OL rfl)) (AI (AI rfl (OL rfl)) TT))
  refine za ?_
  refine za (ze ?_)
  obtain ⟨v3, h4, h⟩ := bind_some h
  refine PFn.call (zgi h4) (AI (VS rfl) TT) ?_
  refine yt (v := (v3 != 0)) rfl TT (fun h5 => ?_) (fun h5 => ?_)
  ·have h := zf h5 h
   refine za (ze ?_)
   obtain ⟨v4, h6, h⟩ := bind_some h
   refine PFn.call (ztc h6) TT ?_
   refine AI (fun hp => hp) ?_
   refine AI (fun hc => (bqt hc)) ?_
   obtain ⟨v5, h7, h⟩ := bind_some h
   refine Or.inl (EX (.bool v5) (AI (fun hp => AI (AI hp hp) (PFn.call (zs4 (zf hp h7)) (AI (VS rfl) (AI (Vw.aggL (S4 rfl rfl rfl rfl (S2 rfl rfl (AI (VS rfl) (AI (Vw.islF _ _ _) (AI (Vw.islF _ _ _) TT)))))) TT)) (AI rfl (AI rfl rfl)))) ?_))
   refine AI (fun hc => (bqt hc)) ?_
   refine LWp.sim (e := [(2, .bool ((v4 && (v2.2 == 3)) && v5))]) (L := []) (n := 0) ?_ ?_
   ·exact yp (M := []) rfl (AI (VS rfl) TT) TT
   refine wh ?_
   cases h
   exact AI TT (AI rfl (VS rfl))
  ·have h := zp h5 h
   refine xq ?_
   refine za (ze ?_)
   obtain ⟨v6, h8, h⟩ := bind_some h
   refine PFn.call (zyo h8) (AI (VS rfl) TT) ?_
   refine LWp.sim (e := [(3, .ptr (0, 0) 0 0), (4, i6 v2.2), (5, .ptr (1, 0) 0 0), (6, i6 v6.2)]) (L := [((0, 0), .one [i6 v2.1.fK, i6 v2.1.fI, i6 v2.1.fC, .str v2.1.fM, i6 v2.1.fB.fK, i6 v2.1.fB.fN, .str v2.1.fB.fT, .isl 1 (v2.1.fB.fA.map z7) false, .isl 5 (v2.1.fB.fE.map z8) false]), ((1, 0), .one [i6 v6.1.fK, i6 v6.1.fI, i6 v6.1.fC, .str v6.1.fM, i6 v6.1.fB.fK, i6 v6.1.fB.fN, .str v6.1.fB.fT, .isl 1 (v6.1.fB.fA.map z7) false, .isl 5 (v6.1.fB.fE.map z8) false])]) (n := 2) ?_ ?_
   ·exact yp (M := [((0, 0), (1, 0)), ((1, 0), (2, 0))]) rfl (SP rfl (AI (VS rfl) (SP rfl (AI (VS rfl) TT)))) (AI (AI rfl (OL rfl)) (AI (AI rfl (OL rfl)) TT))
   refine za (ze ?_)
   obtain ⟨v7, h9, h⟩ := bind_some h
   refine PFn.call (ztc h9) TT ?_
   refine AI (fun hp => (AI hp hp)) ?_
   refine AI (fun hc => (bqt hc)) ?_
   obtain ⟨v8, h10, h⟩ := bind_some h
   refine Or.inl (EX (.bool v8) (AI (fun hp => AI (AI hp hp) (PFn.call (zs4 (zf hp h10)) (S2 rfl rfl TT) (AI rfl (AI rfl rfl)))) ?_))
   refine AI (fun hc => (bqt hc)) ?_
   refine LWp.sim (e := [(2, .bool ((v7 && (v2.2 == v6.2)) && v8))]) (L := []) (n := 0) ?_ ?_
   ·exact yp (M := []) rfl (AI (VS rfl) TT) TT
   refine wh ?_
   cases h
   exact AI TT (AI rfl (VS rfl))
theorem y13 {a0 : GJ} {m : Option Nat} {o : Bool} (h : xb m a0 = some o) : PFn Tryd.prog 4 [.agg (z6 a0)] (.bool o) := PFn.ofFnW (L := y1u) zzi zze (NB rfl) rfl (zor h)
end Go.Proofs.YtlfdchgaeeadjaaDoor
