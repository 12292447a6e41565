/-
  Own text GenB of this claim: what functions of the given program compute, in plain Lean, and the proof; no condition.
-/
import Derived.Test.YtejfgjggcoemeaaGenA
namespace Go.Proofs.Ytejfgjggcoemeaa
open Go.Fx
set_option linter.unusedVariables false
def z80 : LCode := (.seq (.region [⟨some 4, .box (.t 1), none⟩,
 ⟨some 5, .box (.t 2), none⟩,
 ⟨some 6, .mv (.c (.bool false)), none⟩])
 (.seq (.region [⟨some 8, .mkfn (.func 42) [] [(.t 5)], none⟩,
  ⟨some 7, .mv (.t 8), none⟩])
 (.seq (.draw [⟨⟨some 9, .load false 1 (.t 5), none⟩, []⟩,
  ⟨⟨some 10, .load true 3 (.t 4), none⟩, []⟩,
  ⟨⟨some 11, .mlook [.int, .int, .int] true false false [(.int .i64 0)] (.t 9) (.t 10), none⟩, []⟩,
  ⟨⟨some 12, .bin .eql (.t 11) (.c (.int .i64 0)), none⟩, []⟩,
  ⟨⟨some 13, .mv (.t 12), none⟩, []⟩,
  ⟨⟨some 14, .mv (.t 0), some (13, true)⟩, []⟩,
  ⟨⟨some 15, .nilck (.t 14), some (13, true)⟩, []⟩,
  ⟨⟨some 16, .faddr 0 (.t 15), some (13, true)⟩, []⟩,
  ⟨⟨some 17, .load false 1 (.t 16), some (13, true)⟩, []⟩,
  ⟨⟨some 18, .load true 3 (.t 4), some (13, true)⟩, []⟩,
  ⟨⟨some 19, .mlook [.int, .int, .int] true false false [(.isl 3 [] true)] (.t 17) (.t 18), some (13, true)⟩, []⟩,
  ⟨⟨some 20, .mv (.t 7), some (13, true)⟩, []⟩,
  ⟨⟨some 21, .call 31 [(.t 19), (.t 20)], some (13, true)⟩, []⟩,
  ⟨⟨some 22, .un .not (.t 21), some (13, true)⟩, []⟩,
  ⟨⟨some 23, .pick (.t 13) (.t 22) (.c (.bool false)), none⟩, []⟩,
  ⟨⟨some 6, .mv (.t 23), none⟩, []⟩])
 .ret)))
def z4x : Lay := ⟨24, [], false⟩
def z56 : List LRes := [.t 6]
def zcz : LFn := ⟨3, z4x, z80, z56⟩
theorem zes : k9 Try.prog [] 27 = some zcz := by kernel_rfl
theorem zfm : Y8 Try.prog 27 := ⟨_, Try.func27, rfl, rfl⟩
noncomputable def xx (m : Option Nat) (a0 : G_QKey) (a1 : List G_QKey) (a2 : List (G_QKey × Int)) (a3 : List (G_QKey × (List G_QKey))) : Option Bool :=
 (if ((((lk ze a2 a0).getD 0) == 0) == true) = true then ql m ((lk ze a3 a0).getD []) a2 else some default).bind fun v1 =>
 some ((((lk ze a2 a0).getD 0) == 0) && (!v1))
def zmo (a0 : G_QKey) (a1 : List G_QKey) (a2 : List (G_QKey × Int)) (a3 : List (G_QKey × (List G_QKey))) (o : Bool) : Exit → Env → AHeap → Nat → Prop := Xg z56 (Xy 3 3 (.bool o) [((0, 0), .one [.map (0, 2), .isl 3 (a1.map z6) false]), ((0, 1), .amap (a2.map (em z8 yb))), ((0, 2), .amap (a3.map (em z8 zb)))])
theorem z7i {a0 : G_QKey} {a1 : List G_QKey} {a2 : List (G_QKey × Int)} {a3 : List (G_QKey × (List G_QKey))} {m : Option Nat} {o : Bool} (h : xx m a0 a1 a2 a3 = some o) : LWp Try.prog z4x 3 z80 (zmo a0 a1 a2 a3 o) (qx 0 [.ptr (0, 0) 0 0, .agg [.int .i64 a0.f_Kind, .int .i64 a0.f_A, .int .i64 a0.f_B], .map (0, 1)]) [((0, 0), .one [.map (0, 2), .isl 3 (a1.map z6) false]), ((0, 1), .amap (a2.map (em z8 yb))), ((0, 2), .amap (a3.map (em z8 zb)))] 3 := by
 unfold xx at h
 refine zl ?_
 refine y8 ?_
 refine zl ?_
 refine y8 ?_
 refine zl ?_
 refine z32 rfl ?_
 refine Exists.intro (.int .i64 ((lk ze a2 a0).getD 0)) (And.intro (z11 (ek := z8) (ev := yb) (z := 0) jd rfl a0 a2) (And.intro (Z6 (ek := z8) (ev := yb) jd _ _) ?_))
 refine And.intro (fun hp => hp) ?_
 show Q5 _ _ _ [(15, .cnd ((((lk ze a2 a0).getD 0) == 0) == true) (.ptr (0, 0) 0 0)), (14, .cnd ((((lk ze a2 a0).getD 0) == 0) == true) (.ptr (0, 0) 0 0)), (13, .bool (((lk ze a2 a0).getD 0) == 0)), (12, .bool (((lk ze a2 a0).getD 0) == 0)), (11, .int .i64 ((lk ze a2 a0).getD 0)), (10, .agg [.int .i64 a0.f_Kind, .int .i64 a0.f_A, .int .i64 a0.f_B]), (9, .map (0, 1)), (7, .fn (.func 42) [] [.ptr (4, 0) 0 0]), (8, .fn (.func 42) [] [.ptr (4, 0) 0 0]), (6, .bool false), (5, .ptr (4, 0) 0 0), (4, .ptr (3, 0) 0 0), (0, .ptr (0, 0) 0 0), (1, .agg [.int .i64 a0.f_Kind, .int .i64 a0.f_A, .int .i64 a0.f_B]), (2, .map (0, 1))] _ _
 refine And.intro (fun hp => hp) ?_
 refine And.intro (fun hp => hp) ?_
 refine Exists.intro (.isl 3 (((lk ze a3 a0).getD []).map z6) false) (And.intro (fun hp => And.intro (z11 (ek := z8) (ev := zb) (z := []) jd rfl a0 a3) (And.intro (And.intro hp hp) (Z6 (ek := z8) (ev := zb) jd _ _))) ?_)
 obtain ⟨v1, h1, h⟩ := bind_some h
 refine Or.inl (Exists.intro (.bool v1) (And.intro (fun hp => And.intro (And.intro hp hp) (ACalls.same rfl (Ya (k := 3) (m := 0) (L' := [((4, 0), .one [.map (0, 1)]), ((0, 1), .amap (a2.map (em z8 yb)))]) (rest := [((3, 0), .one [.int .i64 a0.f_Kind, .int .i64 a0.f_A, .int .i64 a0.f_B]), ((0, 0), .one [.map (0, 2), .isl 3 (a1.map z6) false]), ((0, 2), .amap (a3.map (em z8 zb)))]) (R' := .bool v1) [((0, 0), (4, 0)), ((0, 1), (0, 1))] (zgx (q7 hp h1)) rfl rfl rfl (And.intro (Vw.same _ rfl) (And.intro (Vw.fnL trivial (And.intro (Vw.ptr _ _ _ _ rfl) trivial)) trivial)) (And.intro (h0I (4, 0) rfl rfl (BVw.oneL (And.intro (Vw.map _ _ rfl) trivial))) (And.intro (h0I (0, 1) rfl rfl (BVw.ofMap z8 yb zo a2)) trivial)) (k8 _ rfl) (And.intro rfl (And.intro rfl (And.intro rfl (And.intro (Zz z8 yb vh zo _) trivial)))) rfl (And.intro rfl (HeapTo.get (And.intro (And.intro rfl (BVw.oneL (And.intro (Vw.map _ _ rfl) trivial))) (And.intro (And.intro rfl (BVw.oneL (And.intro (Vw.same _ rfl) (And.intro (Vw.same _ rfl) (And.intro (Vw.same _ rfl) trivial))))) (And.intro (And.intro rfl (BVw.oneL (And.intro (Vw.map _ _ rfl) (And.intro (Vw.same _ rfl) trivial)))) (And.intro (And.intro rfl (BVw.ofMap z8 yb zo a2)) (And.intro (And.intro rfl (BVw.ofMap z8 zb zc a3)) trivial)))))))))) ?_))
 refine And.intro (fun hp => hp) ?_
 show Q5 _ _ _ [(22, .cnd ((((lk ze a2 a0).getD 0) == 0) == true) (.bool (!v1))), (21, .cnd ((((lk ze a2 a0).getD 0) == 0) == true) (.bool v1)), (20, .cnd ((((lk ze a2 a0).getD 0) == 0) == true) (.fn (.func 42) [] [.ptr (4, 0) 0 0])), (19, .cnd ((((lk ze a2 a0).getD 0) == 0) == true) (.isl 3 (((lk ze a3 a0).getD []).map z6) false)), (18, .cnd ((((lk ze a2 a0).getD 0) == 0) == true) (.agg [.int .i64 a0.f_Kind, .int .i64 a0.f_A, .int .i64 a0.f_B])), (17, .cnd ((((lk ze a2 a0).getD 0) == 0) == true) (.map (0, 2))), (16, .cnd ((((lk ze a2 a0).getD 0) == 0) == true) (.ptr (0, 0) 0 0)), (15, .cnd ((((lk ze a2 a0).getD 0) == 0) == true) (.ptr (0, 0) 0 0)), (14, .cnd ((((lk ze a2 a0).getD 0) == 0) == true) (.ptr (0, 0) 0 0)), (13, .bool (((lk ze a2 a0).getD 0) == 0)), (12, .bool (((lk ze a2 a0).getD 0) == 0)), (11, .int .i64 ((lk ze a2 a0).getD 0)), (10, .agg [.int .i64 a0.f_Kind, .int .i64 a0.f_A, .int .i64 a0.f_B]), (9, .map (0, 1)), (7, .fn (.func 42) [] [.ptr (4, 0) 0 0]), (8, .fn (.func 42) [] [.ptr (4, 0) 0 0]), (6, .bool false), (5, .ptr (4, 0) 0 0), (4, .ptr (3, 0) 0 0), (0, .ptr (0, 0) 0 0), (1, .agg [.int .i64 a0.f_Kind, .int .i64 a0.f_A, .int .i64 a0.f_B]), (2, .map (0, 1))] _ _
 refine And.intro (fun hc => (bqt hc)) ?_
 refine LWp.sim (e := [(6, .bool ((((lk ze a2 a0).getD 0) == 0) && (!v1)))]) (L := [((0, 0), .one [.map (0, 2), .isl 3 (a1.map z6) false]), ((0, 1), .amap (a2.map (em z8 yb))), ((0, 2), .amap (a3.map (em z8 zb)))]) (n := 3) ?_ ?_
 ·exact jh (M := []) rfl (And.intro (Vw.same _ rfl) trivial) (And.intro (And.intro rfl (BVw.oneL (And.intro (Vw.map _ _ rfl) (And.intro (Vw.same _ rfl) trivial)))) (And.intro (And.intro rfl (BVw.ofMap z8 yb zo a2)) (And.intro (And.intro rfl (BVw.ofMap z8 zb zc a3)) trivial)))
 refine Ze ?_
 cases h
 exact And.intro trivial (zih (n' := 3) [] [] rfl rfl (Vw.same _ rfl) (And.intro (And.intro rfl (BVw.oneL (And.intro (Vw.map _ _ rfl) (And.intro (Vw.same _ rfl) trivial)))) (And.intro (And.intro rfl (BVw.ofMap z8 yb zo a2)) (And.intro (And.intro rfl (BVw.ofMap z8 zb zc a3)) trivial))))
theorem zid {a0 : G_QKey} {a1 : List G_QKey} {a2 : List (G_QKey × Int)} {a3 : List (G_QKey × (List G_QKey))} {m : Option Nat} {o : Bool} (h : xx m a0 a1 a2 a3 = some o) : ACalls Try.prog 27 [.ptr (0, 0) 0 0, .agg [.int .i64 a0.f_Kind, .int .i64 a0.f_A, .int .i64 a0.f_B], .map (0, 1)] [((0, 0), .one [.map (0, 2), .isl 3 (a1.map z6) false]), ((0, 1), .amap (a2.map (em z8 yb))), ((0, 2), .amap (a3.map (em z8 zb)))] 3 (vr 3 (.bool o) [((0, 0), .one [.map (0, 2), .isl 3 (a1.map z6) false]), ((0, 1), .amap (a2.map (em z8 yb))), ((0, 2), .amap (a3.map (em z8 zb)))]) := Xf (L := zcz) zes zfm (Nat.le_of_ble_eq_true rfl) (z7i h)
def zk6 : LCode := (.region [⟨some 40, .bin .add (.t 28) (.c (.int .i64 1)), none⟩,
 ⟨some 28, .mv (.t 40), none⟩])
def zc8 : LCode := (.seq (.region [⟨some 29, .bin .lss (.t 28) (.t 27), none⟩])
 (.seq (.cond (.t 29)
  .skip
  (.exit 2))
 (.seq (.block 3
  (.seq (.region [⟨some 30, .iaddr 3 (.t 26) (.t 28), none⟩,
   ⟨some 31, .load true 3 (.t 30), none⟩,
   ⟨some 9, .alloc [(.int .i64 0), (.int .i64 0), (.int .i64 0)], none⟩,
   ⟨none, .store 3 (.t 9) (.t 31), none⟩])
  (.seq (.region [⟨some 32, .mv (.t 4), none⟩,
   ⟨some 33, .load true 3 (.t 9), none⟩,
   ⟨some 34, .mv (.t 5), none⟩,
   ⟨some 35, .call 27 [(.t 32), (.t 33), (.t 34)], none⟩])
  (.cond (.t 35)
   (.region [⟨some 36, .mv (.t 7), none⟩,
    ⟨some 37, .load true 3 (.t 9), none⟩,
    ⟨some 38, .mkSl true 3 [(.int .i64 0), (.int .i64 0), (.int .i64 0)] 1 [(0, (.t 37))], none⟩,
    ⟨some 39, .app true 3 24 (.t 36) (.t 38), none⟩,
    ⟨some 7, .mv (.t 39), none⟩])
   .skip))))
 zk6)))
def zf0 : LCode := (.seq (.region [⟨some 47, .bin .lss (.t 46) (.t 45), none⟩])
 (.seq (.cond (.t 47)
  .skip
  (.exit 4))
 (.seq (.block 5
  (.seq (.region [⟨some 48, .iaddr 3 (.t 44) (.t 46), none⟩,
   ⟨some 49, .load true 3 (.t 48), none⟩,
   ⟨some 11, .alloc [(.int .i64 0), (.int .i64 0), (.int .i64 0)], none⟩,
   ⟨none, .store 3 (.t 11) (.t 49), none⟩])
  (.region [⟨some 50, .mv (.t 5), none⟩,
   ⟨some 51, .load true 3 (.t 11), none⟩,
   ⟨none, .mset [.int, .int, .int] true false [(.int .i64 0)] (.t 50) (.t 51) (.c (.int .i64 1)), none⟩])))
 (.region [⟨some 52, .bin .add (.t 46) (.c (.int .i64 1)), none⟩,
  ⟨some 46, .mv (.t 52), none⟩]))))
def z89 : LCode := (.region [⟨some 53, .mv (.t 6), none⟩,
 ⟨some 54, .mv (.t 7), none⟩,
 ⟨some 55, .mkSl true 1 [(.isl 3 [] true)] 1 [(0, (.t 54))], none⟩,
 ⟨some 56, .app true 1 24 (.t 53) (.t 55), none⟩,
 ⟨some 6, .mv (.t 56), none⟩])
def z8y : LCode := (.seq (.seq (.region [⟨some 41, .mv (.t 7), none⟩,
 ⟨some 42, .len false (.t 41), none⟩,
 ⟨some 43, .bin .eql (.t 42) (.c (.int .i64 0)), none⟩])
 (.cond (.t 43)
  (.seq (.region [⟨some 2, .mv (.c (.val (.slice none 0 0))), none⟩,
   ⟨some 3, .mv (.c (.int .i64 8)), none⟩])
  .ret)
  .skip))
 (.seq (.seq (.region [⟨some 44, .mv (.t 7), none⟩,
  ⟨some 45, .len false (.t 44), none⟩,
  ⟨some 46, .mv (.c (.int .i64 0)), none⟩])
 (.block 4
  (.loop
   zf0)))
 z89))
def zbr : LCode := (.seq (.seq (.quiet [⟨some 15, .mv (.t 5), none⟩,
 ⟨some 16, .mlen (.t 15), none⟩,
 ⟨some 17, .mv (.t 4), none⟩,
 ⟨some 18, .nilck (.t 17), none⟩,
 ⟨some 19, .faddr 1 (.t 18), none⟩,
 ⟨some 20, .load false 1 (.t 19), none⟩,
 ⟨some 21, .len false (.t 20), none⟩,
 ⟨some 22, .bin .lss (.t 16) (.t 21), none⟩])
 (.cond (.t 22)
  .skip
  (.exit 0)))
 (.block 1
  (.seq (.region [⟨some 7, .mv (.c (.val (.slice none 0 0))), none⟩])
  (.seq (.seq (.region [⟨some 23, .mv (.t 4), none⟩,
   ⟨some 24, .nilck (.t 23), none⟩,
   ⟨some 25, .faddr 1 (.t 24), none⟩,
   ⟨some 26, .load false 1 (.t 25), none⟩,
   ⟨some 27, .len false (.t 26), none⟩,
   ⟨some 28, .mv (.c (.int .i64 0)), none⟩])
  (.block 2
   (.loop
    zc8)))
  z8y))))
def z91 : LCode := (.seq (.region [⟨some 57, .mv (.t 6), none⟩,
 ⟨some 2, .mv (.t 57), none⟩,
 ⟨some 3, .mv (.c (.int .i64 0)), none⟩])
 .ret)
def zjd : LCode := (.seq (.region [⟨some 2, .mv (.c (.val (.slice none 0 0))), none⟩,
 ⟨some 3, .mv (.c (.int .i64 0)), none⟩])
 (.seq (.region [⟨some 12, .mv (.t 0), none⟩,
  ⟨some 13, .call 21 [(.t 12), (.c (.bool false))], none⟩,
  ⟨some 4, .mv (.t 13), none⟩])
 (.seq (.region [⟨some 14, .mkmap none, none⟩,
  ⟨some 5, .mv (.t 14), none⟩])
 (.seq (.region [⟨some 6, .mv (.c (.val (.slice none 0 0))), none⟩])
 (.seq (.block 0
  (.loop
   zbr))
 z91)))))
def vl : Lay := ⟨58, [], false⟩
def zg5 : List LRes := [.t 2, .t 3]
def zol : LFn := ⟨1, vl, zjd, zg5⟩
theorem zm5 : k9 Try.prog [] 16 = some zol := by kernel_rfl
theorem zkt : Y8 Try.prog 16 := ⟨_, Try.func16, rfl, rfl⟩
def zic (a0 : List G_QEdge) (o : (List (List G_QKey)) × Int) : Exit → Env → AHeap → Nat → Prop := Xg zg5 (wu (.tup [.isl 1 (o.1.map za) false, .int .i64 o.2]))
def kp (v1 : (List G_QKey) × (List (G_QKey × (List G_QKey)))) (s : ((List (List G_QKey)) × (List (G_QKey × Int)))) : Env := [(4, .ptr (0, 0) 0 0), (5, .map (1, 0)), (6, .osl (2, 0) 1 (s.1.map za))]
def um (v1 : (List G_QKey) × (List (G_QKey × (List G_QKey)))) (s : ((List (List G_QKey)) × (List (G_QKey × Int)))) : AHeap := [((0, 0), .one [.map (3, 0), .isl 3 (v1.1.map z6) false]), ((1, 0), .amap (s.2.map (em z8 yb))), ((2, 0), .tok), ((3, 0), .amap (v1.2.map (em z8 zb)))]
def Zq (a0 : List G_QEdge) (o : ((List (List G_QKey)) × Int)) : Exit → Env → AHeap → Nat → Prop := (yv 0 (uv Try.prog vl 0 z91 (zic a0 o)))
def Wf (v1 : (List G_QKey) × (List (G_QKey × (List G_QKey)))) (v12 : List (List G_QKey)) (v13 : List (G_QKey × Int)) (s : ((List G_QKey) × Int)) : Env := [(4, .ptr (0, 0) 0 0), (5, .map (1, 0)), (6, .osl (2, 0) 1 (v12.map za)), (7, .osl (3, 0) 3 (s.1.map z6)), (26, .isl 3 (v1.1.map z6) false), (27, .int .i64 ((v1.1.map z6).length : Int)), (28, .int .i64 s.2)]
def Kv (v1 : (List G_QKey) × (List (G_QKey × (List G_QKey)))) (v12 : List (List G_QKey)) (v13 : List (G_QKey × Int)) (s : ((List G_QKey) × Int)) : AHeap := [((0, 0), .one [.map (4, 0), .isl 3 (v1.1.map z6) false]), ((1, 0), .amap (v13.map (em z8 yb))), ((2, 0), .tok), ((3, 0), .tok), ((4, 0), .amap (v1.2.map (em z8 zb)))]
def z13 (a0 : List G_QEdge) (v1 : (List G_QKey) × (List (G_QKey × (List G_QKey)))) (o : (((List (List G_QKey)) × (List (G_QKey × Int))) ⊕ ((List (List G_QKey)) × Int))) : Exit → Env → AHeap → Nat → Prop := (yv 2 (uv Try.prog vl 0 z8y (yv 1 (wj 0 4 (kp v1) (um v1) (Zq a0) o))))
noncomputable def js (m : Option Nat) (v1 : (List G_QKey) × (List (G_QKey × (List G_QKey)))) (v12 : List (List G_QKey)) (v13 : List (G_QKey × Int)) (v27 : Int) (v31 : List G_QKey) : Option (((List G_QKey) × Int) ⊕ (((List (List G_QKey)) × (List (G_QKey × Int))) ⊕ ((List (List G_QKey)) × Int))) :=
 some (.inl (v31, (W (v27 + 1))))
theorem z0h {a0 : List G_QEdge} {v1 : (List G_QKey) × (List (G_QKey × (List G_QKey)))} {v12 : List (List G_QKey)} {v13 : List (G_QKey × Int)} {v27 : Int} {v31 : List G_QKey} {m : Option Nat} {o : (((List G_QKey) × Int) ⊕ (((List (List G_QKey)) × (List (G_QKey × Int))) ⊕ ((List (List G_QKey)) × Int)))} (h : js m v1 v12 v13 v27 v31 = some o) :
 LWp Try.prog vl 0 zk6 (wj 0 5 (Wf v1 v12 v13) (Kv v1 v12 v13) (z13 a0 v1) o) [(4, .ptr (0, 0) 0 0), (5, .map (1, 0)), (6, .osl (2, 0) 1 (v12.map za)), (7, .osl (3, 0) 3 (v31.map z6)), (26, .isl 3 (v1.1.map z6) false), (27, .int .i64 ((v1.1.map z6).length : Int)), (28, .int .i64 v27)] [((0, 0), .one [.map (4, 0), .isl 3 (v1.1.map z6) false]), ((1, 0), .amap (v13.map (em z8 yb))), ((2, 0), .tok), ((3, 0), .tok), ((4, 0), .amap (v1.2.map (em z8 zb)))] 5 := by
 unfold js at h
 refine y8 ?_
 cases h
 exact And.intro rfl (jh (M := [((0, 0), (0, 0)), ((1, 0), (1, 0)), ((2, 0), (2, 0)), ((3, 0), (3, 0)), ((4, 0), (4, 0))]) rfl (And.intro (Vw.ptr _ _ _ _ rfl) (And.intro (Vw.map _ _ rfl) (And.intro (Vw.osl _ _ _ _ rfl) (And.intro (Vw.osl _ _ _ _ rfl) (And.intro (Vw.same _ rfl) (And.intro (Vw.same _ rfl) (And.intro (Vw.same _ rfl) trivial))))))) (And.intro (And.intro rfl (BVw.oneL (And.intro (Vw.map _ _ rfl) (And.intro (Vw.same _ rfl) trivial)))) (And.intro (And.intro rfl (BVw.ofMap z8 yb zo v13)) (And.intro (And.intro rfl BVw.tok) (And.intro (And.intro rfl BVw.tok) (And.intro (And.intro rfl (BVw.ofMap z8 zb zc v1.2)) trivial))))))
noncomputable def jq (m : Option Nat) (v1 : (List G_QKey) × (List (G_QKey × (List G_QKey)))) (v12 : List (List G_QKey)) (v26 : List G_QKey) (v33 : List (G_QKey × Int)) : Option (((List (List G_QKey)) × (List (G_QKey × Int))) ⊕ ((List (List G_QKey)) × Int)) :=
 if ((v12 ++ ([v26] : List (List G_QKey))).map za).length * 24 ≤ 140737488355328 then
 some (.inl ((v12 ++ ([v26] : List (List G_QKey))), v33))
 else none
noncomputable def jg (m : Option Nat) (v1 : (List G_QKey) × (List (G_QKey × (List G_QKey)))) (v12 : List (List G_QKey)) (v26 : List G_QKey) (v32 : Int) (v33 : List (G_QKey × Int)) : Option ((Int × (List (G_QKey × Int))) ⊕ (((List (List G_QKey)) × (List (G_QKey × Int))) ⊕ ((List (List G_QKey)) × Int))) :=
 if (decide (v32 < ((v26.map z6).length : Int))) = true then
  if (0 : Int) ≤ v32 ∧ v32 < ((v26.map z6).length : Int) then
  some (.inl ((W (v32 + 1)), (mp ze v33 (G_QKey.mk ((v26.getD v32.toNat default).f_Kind) ((v26.getD v32.toNat default).f_A) ((v26.getD v32.toNat default).f_B)) 1)))
  else none
 else
  Option.map Sum.inr (
   jq m v1 v12 v26 v33)
noncomputable def w6 (m : Option Nat) (v1 : (List G_QKey) × (List (G_QKey × (List G_QKey)))) (v12 : List (List G_QKey)) (v26 : List G_QKey) (v32 : Int) (v33 : List (G_QKey × Int)) : Option (((List (List G_QKey)) × (List (G_QKey × Int))) ⊕ ((List (List G_QKey)) × Int)) := u5 m (fun (s : (Int × (List (G_QKey × Int)))) => jg m v1 v12 v26 s.1 s.2) (v32, v33)
noncomputable def xb (m : Option Nat) (v1 : (List G_QKey) × (List (G_QKey × (List G_QKey)))) (v12 : List (List G_QKey)) (v13 : List (G_QKey × Int)) (v26 : List G_QKey) : Option (((List (List G_QKey)) × (List (G_QKey × Int))) ⊕ ((List (List G_QKey)) × Int)) :=
 if (((v26.map z6).length : Int) == 0) = true then
  Option.map Sum.inr (
   some ([], 8))
 else
  w6 m v1 v12 v26 0 v13
noncomputable def xq (m : Option Nat) (v1 : (List G_QKey) × (List (G_QKey × (List G_QKey)))) (v12 : List (List G_QKey)) (v13 : List (G_QKey × Int)) (v26 : List G_QKey) (v27 : Int) : Option (((List G_QKey) × Int) ⊕ (((List (List G_QKey)) × (List (G_QKey × Int))) ⊕ ((List (List G_QKey)) × Int))) :=
 if (decide (v27 < ((v1.1.map z6).length : Int))) = true then
  if (0 : Int) ≤ v27 ∧ v27 < ((v1.1.map z6).length : Int) then
  (xx m (G_QKey.mk ((v1.1.getD v27.toNat default).f_Kind) ((v1.1.getD v27.toNat default).f_A) ((v1.1.getD v27.toNat default).f_B)) v1.1 v13 v1.2).bind fun v30 =>
  if v30 = true then
   if ((v26 ++ ([(G_QKey.mk ((v1.1.getD v27.toNat default).f_Kind) ((v1.1.getD v27.toNat default).f_A) ((v1.1.getD v27.toNat default).f_B))] : List G_QKey)).map z6).length * 24 ≤ 140737488355328 then
   js m v1 v12 v13 v27 (v26 ++ ([(G_QKey.mk ((v1.1.getD v27.toNat default).f_Kind) ((v1.1.getD v27.toNat default).f_A) ((v1.1.getD v27.toNat default).f_B))] : List G_QKey))
   else none
  else
   js m v1 v12 v13 v27 v26
  else none
 else
  Option.map Sum.inr (
   xb m v1 v12 v13 v26)
noncomputable def jz (m : Option Nat) (v1 : (List G_QKey) × (List (G_QKey × (List G_QKey)))) (v12 : List (List G_QKey)) (v13 : List (G_QKey × Int)) (v26 : List G_QKey) (v27 : Int) : Option (((List (List G_QKey)) × (List (G_QKey × Int))) ⊕ ((List (List G_QKey)) × Int)) := u5 m (fun (s : ((List G_QKey) × Int)) => xq m v1 v12 v13 s.1 s.2) (v26, v27)
def z0o (v1 : (List G_QKey) × (List (G_QKey × (List G_QKey)))) (v12 : List (List G_QKey)) (v26 : List G_QKey) (s : (Int × (List (G_QKey × Int)))) : Env := [(4, .ptr (0, 0) 0 0), (5, .map (1, 0)), (6, .osl (2, 0) 1 (v12.map za)), (7, .osl (3, 0) 3 (v26.map z6)), (44, .osl (3, 0) 3 (v26.map z6)), (45, .int .i64 ((v26.map z6).length : Int)), (46, .int .i64 s.1)]
def z4z (v1 : (List G_QKey) × (List (G_QKey × (List G_QKey)))) (v12 : List (List G_QKey)) (v26 : List G_QKey) (s : (Int × (List (G_QKey × Int)))) : AHeap := [((0, 0), .one [.map (4, 0), .isl 3 (v1.1.map z6) false]), ((1, 0), .amap (s.2.map (em z8 yb))), ((2, 0), .tok), ((3, 0), .tok), ((4, 0), .amap (v1.2.map (em z8 zb)))]
def z8p (a0 : List G_QEdge) (v1 : (List G_QKey) × (List (G_QKey × (List G_QKey)))) (o : (((List (List G_QKey)) × (List (G_QKey × Int))) ⊕ ((List (List G_QKey)) × Int))) : Exit → Env → AHeap → Nat → Prop := (yv 4 (uv Try.prog vl 0 z89 (yv 1 (wj 0 4 (kp v1) (um v1) (Zq a0) o))))
theorem zah {a0 : List G_QEdge} {v1 : (List G_QKey) × (List (G_QKey × (List G_QKey)))} {v12 : List (List G_QKey)} {v26 : List G_QKey} {v33 : List (G_QKey × Int)} {m : Option Nat} {o : (((List (List G_QKey)) × (List (G_QKey × Int))) ⊕ ((List (List G_QKey)) × Int))} (h : jq m v1 v12 v26 v33 = some o) :
 LWp Try.prog vl 0 z89 (yv 1 (wj 0 4 (kp v1) (um v1) (Zq a0) o)) [(4, .ptr (0, 0) 0 0), (5, .map (1, 0)), (6, .osl (2, 0) 1 (v12.map za)), (7, .osl (3, 0) 3 (v26.map z6))] [((0, 0), .one [.map (4, 0), .isl 3 (v1.1.map z6) false]), ((1, 0), .amap (v33.map (em z8 yb))), ((2, 0), .tok), ((3, 0), .tok), ((4, 0), .amap (v1.2.map (em z8 zb)))] 5 := by
 unfold jq at h
 refine y8 ?_
 obtain ⟨h73, h⟩ := y4 h
 refine Exists.intro ((v12 ++ ([v26] : List (List G_QKey))).map za) (And.intro (Qg za v12 ([v26] : List (List G_QKey))) (And.intro h73 ?_))
 cases h
 exact And.intro rfl (jh (M := [((0, 0), (0, 0)), ((1, 0), (1, 0)), ((2, 0), (5, 0)), ((3, 0), (4, 0))]) rfl (And.intro (Vw.ptr _ _ _ _ rfl) (And.intro (Vw.map _ _ rfl) (And.intro (Vw.osl _ _ _ _ rfl) trivial))) (And.intro (And.intro rfl (BVw.oneL (And.intro (Vw.map _ _ rfl) (And.intro (Vw.same _ rfl) trivial)))) (And.intro (And.intro rfl (BVw.ofMap z8 yb zo v33)) (And.intro (And.intro rfl BVw.tok) (And.intro (And.intro rfl (BVw.ofMap z8 zb zc v1.2)) trivial)))))
theorem zaa {a0 : List G_QEdge} {v1 : (List G_QKey) × (List (G_QKey × (List G_QKey)))} {v12 : List (List G_QKey)} {v26 : List G_QKey} {v32 : Int} {v33 : List (G_QKey × Int)} {m : Option Nat} {o : (Int × (List (G_QKey × Int))) ⊕ (((List (List G_QKey)) × (List (G_QKey × Int))) ⊕ ((List (List G_QKey)) × Int))} (h : jg m v1 v12 v26 v32 v33 = some o) :
 LWp Try.prog vl 0 zf0 (wj 0 5 (z0o v1 v12 v26) (z4z v1 v12 v26) (z8p a0 v1) o) [(4, .ptr (0, 0) 0 0), (5, .map (1, 0)), (6, .osl (2, 0) 1 (v12.map za)), (7, .osl (3, 0) 3 (v26.map z6)), (44, .osl (3, 0) 3 (v26.map z6)), (45, .int .i64 ((v26.map z6).length : Int)), (46, .int .i64 v32)] [((0, 0), .one [.map (4, 0), .isl 3 (v1.1.map z6) false]), ((1, 0), .amap (v33.map (em z8 yb))), ((2, 0), .tok), ((3, 0), .tok), ((4, 0), .amap (v1.2.map (em z8 zb)))] 5 := by
 unfold jg at h
 refine zl ?_
 refine y8 ?_
 refine zl ?_
 refine w5 (v := (decide (v32 < ((v26.map z6).length : Int)))) rfl trivial (fun h71 => ?_) (fun h71 => ?_)
 ·have h := q7 h71 h
  refine w7 ?_
  refine zl ?_
  refine j8 ?_
  refine zl ?_
  refine y8 ?_
  obtain ⟨h72, h⟩ := y4 h
  refine And.intro h72 ?_
  refine Exists.intro (z6 (v26.getD v32.toNat default)) (And.intro (jm z6 _ _ (wx z6 h72)) (And.intro (And.intro (kw h72) (Nat.le_of_ble_eq_true rfl)) ?_))
  refine y8 ?_
  refine Exists.intro ((mp ze v33 (G_QKey.mk ((v26.getD v32.toNat default).f_Kind) ((v26.getD v32.toNat default).f_A) ((v26.getD v32.toNat default).f_B)) 1).map (em z8 yb)) (And.intro (z1z (ek := z8) (ev := yb) jd (G_QKey.mk ((v26.getD v32.toNat default).f_Kind) ((v26.getD v32.toNat default).f_A) ((v26.getD v32.toNat default).f_B)) 1 v33) ?_)
  refine LWp.sim (e := [(4, .ptr (0, 0) 0 0), (5, .map (1, 0)), (6, .osl (2, 0) 1 (v12.map za)), (7, .osl (3, 0) 3 (v26.map z6)), (44, .osl (3, 0) 3 (v26.map z6)), (45, .int .i64 ((v26.map z6).length : Int)), (46, .int .i64 v32)]) (L := [((0, 0), .one [.map (4, 0), .isl 3 (v1.1.map z6) false]), ((1, 0), .amap ((mp ze v33 (G_QKey.mk ((v26.getD v32.toNat default).f_Kind) ((v26.getD v32.toNat default).f_A) ((v26.getD v32.toNat default).f_B)) 1).map (em z8 yb))), ((2, 0), .tok), ((3, 0), .tok), ((4, 0), .amap (v1.2.map (em z8 zb)))]) (n := 5) ?_ ?_
  ·exact jh (M := [((0, 0), (0, 0)), ((1, 0), (1, 0)), ((2, 0), (2, 0)), ((3, 0), (3, 0)), ((4, 0), (4, 0))]) rfl (And.intro (Vw.ptr _ _ _ _ rfl) (And.intro (Vw.map _ _ rfl) (And.intro (Vw.osl _ _ _ _ rfl) (And.intro (Vw.osl _ _ _ _ rfl) (And.intro (Vw.osl _ _ _ _ rfl) (And.intro (Vw.same _ rfl) (And.intro (Vw.same _ rfl) trivial))))))) (And.intro (And.intro rfl (BVw.oneL (And.intro (Vw.map _ _ rfl) (And.intro (Vw.same _ rfl) trivial)))) (And.intro (And.intro rfl (BVw.ofMap z8 yb zo (mp ze v33 (G_QKey.mk ((v26.getD v32.toNat default).f_Kind) ((v26.getD v32.toNat default).f_A) ((v26.getD v32.toNat default).f_B)) 1))) (And.intro (And.intro rfl BVw.tok) (And.intro (And.intro rfl BVw.tok) (And.intro (And.intro rfl (BVw.ofMap z8 zb zc v1.2)) trivial)))))
  refine y8 ?_
  cases h
  exact And.intro rfl (jh (M := [((0, 0), (0, 0)), ((1, 0), (1, 0)), ((2, 0), (2, 0)), ((3, 0), (3, 0)), ((4, 0), (4, 0))]) rfl (And.intro (Vw.ptr _ _ _ _ rfl) (And.intro (Vw.map _ _ rfl) (And.intro (Vw.osl _ _ _ _ rfl) (And.intro (Vw.osl _ _ _ _ rfl) (And.intro (Vw.osl _ _ _ _ rfl) (And.intro (Vw.same _ rfl) (And.intro (Vw.same _ rfl) trivial))))))) (And.intro (And.intro rfl (BVw.oneL (And.intro (Vw.map _ _ rfl) (And.intro (Vw.same _ rfl) trivial)))) (And.intro (And.intro rfl (BVw.ofMap z8 yb zo (mp ze v33 (G_QKey.mk ((v26.getD v32.toNat default).f_Kind) ((v26.getD v32.toNat default).f_A) ((v26.getD v32.toNat default).f_B)) 1))) (And.intro (And.intro rfl BVw.tok) (And.intro (And.intro rfl BVw.tok) (And.intro (And.intro rfl (BVw.ofMap z8 zb zc v1.2)) trivial))))))
 ·have h := qq h71 h
  refine Zp ?_
  obtain ⟨o, hq, rfl⟩ := Option.map_eq_some_iff.1 h
  replace h := hq; clear hq
  refine And.intro nofun ?_
  refine LWp.sim ?_ (zah h)
  exact jh (M := [((0, 0), (0, 0)), ((1, 0), (1, 0)), ((2, 0), (2, 0)), ((3, 0), (3, 0)), ((4, 0), (4, 0))]) rfl (And.intro (Vw.ptr _ _ _ _ rfl) (And.intro (Vw.map _ _ rfl) (And.intro (Vw.osl _ _ _ _ rfl) (And.intro (Vw.osl _ _ _ _ rfl) trivial)))) (And.intro (And.intro rfl (BVw.oneL (And.intro (Vw.map _ _ rfl) (And.intro (Vw.same _ rfl) trivial)))) (And.intro (And.intro rfl (BVw.ofMap z8 yb zo v33)) (And.intro (And.intro rfl BVw.tok) (And.intro (And.intro rfl BVw.tok) (And.intro (And.intro rfl (BVw.ofMap z8 zb zc v1.2)) trivial)))))
theorem zfe {a0 : List G_QEdge} {v1 : (List G_QKey) × (List (G_QKey × (List G_QKey)))} {v12 : List (List G_QKey)} {v26 : List G_QKey} {v32 : Int} {v33 : List (G_QKey × Int)} {m : Option Nat} {o : (((List (List G_QKey)) × (List (G_QKey × Int))) ⊕ ((List (List G_QKey)) × Int))} (h : w6 m v1 v12 v26 v32 v33 = some o) :
 LWp Try.prog vl 0 (.loop zf0) (yv 4 (uv Try.prog vl 0 z89 (yv 1 (wj 0 4 (kp v1) (um v1) (Zq a0) o)))) [(4, .ptr (0, 0) 0 0), (5, .map (1, 0)), (6, .osl (2, 0) 1 (v12.map za)), (7, .osl (3, 0) 3 (v26.map z6)), (44, .osl (3, 0) 3 (v26.map z6)), (45, .int .i64 ((v26.map z6).length : Int)), (46, .int .i64 v32)] [((0, 0), .one [.map (4, 0), .isl 3 (v1.1.map z6) false]), ((1, 0), .amap (v33.map (em z8 yb))), ((2, 0), .tok), ((3, 0), .tok), ((4, 0), .amap (v1.2.map (em z8 zb)))] 5 :=
 j0 (m := m) (s := ((v32, v33) : (Int × (List (G_QKey × Int))))) (r := o) (fun (s : (Int × (List (G_QKey × Int)))) => jg m v1 v12 v26 s.1 s.2) (z0o v1 v12 v26) (z4z v1 v12 v26) (z8p a0 v1) (fun s o h => zaa h) h
theorem z9u {a0 : List G_QEdge} {v1 : (List G_QKey) × (List (G_QKey × (List G_QKey)))} {v12 : List (List G_QKey)} {v13 : List (G_QKey × Int)} {v26 : List G_QKey} {m : Option Nat} {o : (((List (List G_QKey)) × (List (G_QKey × Int))) ⊕ ((List (List G_QKey)) × Int))} (h : xb m v1 v12 v13 v26 = some o) :
 LWp Try.prog vl 0 z8y (yv 1 (wj 0 4 (kp v1) (um v1) (Zq a0) o)) [(4, .ptr (0, 0) 0 0), (5, .map (1, 0)), (6, .osl (2, 0) 1 (v12.map za)), (7, .osl (3, 0) 3 (v26.map z6))] [((0, 0), .one [.map (4, 0), .isl 3 (v1.1.map z6) false]), ((1, 0), .amap (v13.map (em z8 yb))), ((2, 0), .tok), ((3, 0), .tok), ((4, 0), .amap (v1.2.map (em z8 zb)))] 5 := by
 unfold xb at h
 refine zl ?_
 refine zl ?_
 refine y8 ?_
 refine w5 (v := (((v26.map z6).length : Int) == 0)) rfl trivial (fun h66 => ?_) (fun h66 => ?_)
 ·have h := q7 h66 h
  refine zl ?_
  refine y8 ?_
  refine Ze ?_
  obtain ⟨o, hq, rfl⟩ := Option.map_eq_some_iff.1 h
  replace h := hq; clear hq
  refine And.intro nofun ?_
  cases h
  exact And.intro trivial (And.intro trivial (And.intro rfl (Vw.tupL (And.intro (Vw.nilI _ _) (And.intro (Vw.same _ rfl) trivial)))))
 ·have h := qq h66 h
  refine w7 ?_
  refine zl ?_
  refine zl ?_
  refine y8 ?_
  refine j8 ?_
  refine LWp.sim ?_ (zfe h)
  exact jh (M := [((0, 0), (0, 0)), ((1, 0), (1, 0)), ((2, 0), (2, 0)), ((3, 0), (3, 0)), ((4, 0), (4, 0))]) rfl (And.intro (Vw.ptr _ _ _ _ rfl) (And.intro (Vw.map _ _ rfl) (And.intro (Vw.osl _ _ _ _ rfl) (And.intro (Vw.osl _ _ _ _ rfl) (And.intro (Vw.osl _ _ _ _ rfl) (And.intro (Vw.same _ rfl) (And.intro (Vw.same _ rfl) trivial))))))) (And.intro (And.intro rfl (BVw.oneL (And.intro (Vw.map _ _ rfl) (And.intro (Vw.same _ rfl) trivial)))) (And.intro (And.intro rfl (BVw.ofMap z8 yb zo v13)) (And.intro (And.intro rfl BVw.tok) (And.intro (And.intro rfl BVw.tok) (And.intro (And.intro rfl (BVw.ofMap z8 zb zc v1.2)) trivial)))))
theorem z9z {a0 : List G_QEdge} {v1 : (List G_QKey) × (List (G_QKey × (List G_QKey)))} {v12 : List (List G_QKey)} {v13 : List (G_QKey × Int)} {v26 : List G_QKey} {v27 : Int} {m : Option Nat} {o : ((List G_QKey) × Int) ⊕ (((List (List G_QKey)) × (List (G_QKey × Int))) ⊕ ((List (List G_QKey)) × Int))} (h : xq m v1 v12 v13 v26 v27 = some o) :
 LWp Try.prog vl 0 zc8 (wj 0 5 (Wf v1 v12 v13) (Kv v1 v12 v13) (z13 a0 v1) o) [(4, .ptr (0, 0) 0 0), (5, .map (1, 0)), (6, .osl (2, 0) 1 (v12.map za)), (7, .osl (3, 0) 3 (v26.map z6)), (26, .isl 3 (v1.1.map z6) false), (27, .int .i64 ((v1.1.map z6).length : Int)), (28, .int .i64 v27)] [((0, 0), .one [.map (4, 0), .isl 3 (v1.1.map z6) false]), ((1, 0), .amap (v13.map (em z8 yb))), ((2, 0), .tok), ((3, 0), .tok), ((4, 0), .amap (v1.2.map (em z8 zb)))] 5 := by
 unfold xq at h
 refine zl ?_
 refine y8 ?_
 refine zl ?_
 refine w5 (v := (decide (v27 < ((v1.1.map z6).length : Int)))) rfl trivial (fun h61 => ?_) (fun h61 => ?_)
 ·have h := q7 h61 h
  refine w7 ?_
  refine zl ?_
  refine j8 ?_
  refine zl ?_
  refine y8 ?_
  obtain ⟨h62, h⟩ := y4 h
  refine And.intro h62 ?_
  refine Exists.intro (z6 (v1.1.getD v27.toNat default)) (And.intro (jm z6 _ _ (wx z6 h62)) (And.intro (And.intro (kw h62) (Nat.le_of_ble_eq_true rfl)) ?_))
  refine zl ?_
  refine y8 ?_
  obtain ⟨v30, h63, h⟩ := bind_some h
  refine Ya (k := 3) (m := 0) (L' := [((0, 0), .one [.map (4, 0), .isl 3 (v1.1.map z6) false]), ((1, 0), .amap (v13.map (em z8 yb))), ((4, 0), .amap (v1.2.map (em z8 zb)))]) (rest := [((5, 0), .one [.int .i64 ((v1.1.getD v27.toNat default).f_Kind), .int .i64 ((v1.1.getD v27.toNat default).f_A), .int .i64 ((v1.1.getD v27.toNat default).f_B)]), ((2, 0), .tok), ((3, 0), .tok)]) (R' := .bool v30) [((0, 0), (0, 0)), ((0, 1), (1, 0)), ((0, 2), (4, 0))] (zid h63) rfl rfl rfl (And.intro (Vw.ptr _ _ _ _ rfl) (And.intro (Vw.same _ rfl) (And.intro (Vw.map _ _ rfl) trivial))) (And.intro (h0I (0, 0) rfl rfl (BVw.oneL (And.intro (Vw.map _ _ rfl) (And.intro (Vw.same _ rfl) trivial)))) (And.intro (h0I (1, 0) rfl rfl (BVw.ofMap z8 yb zo v13)) (And.intro (h0I (4, 0) rfl rfl (BVw.ofMap z8 zb zc v1.2)) trivial))) (k8 _ rfl) (And.intro rfl (And.intro rfl (And.intro rfl (And.intro (Zz z8 yb vh zo _) (And.intro rfl (And.intro (Zz z8 zb vh zc _) trivial)))))) rfl ?_
  show Q5 _ _ _ [(35, .bool v30), (34, .map (1, 0)), (33, .agg [.int .i64 ((v1.1.getD v27.toNat default).f_Kind), .int .i64 ((v1.1.getD v27.toNat default).f_A), .int .i64 ((v1.1.getD v27.toNat default).f_B)]), (32, .ptr (0, 0) 0 0), (9, .ptr (5, 0) 0 0), (31, .agg [.int .i64 ((v1.1.getD v27.toNat default).f_Kind), .int .i64 ((v1.1.getD v27.toNat default).f_A), .int .i64 ((v1.1.getD v27.toNat default).f_B)]), (30, .iptr 3 (v1.1.map z6) v27.toNat 0), (29, .bool (decide (v27 < ((v1.1.map z6).length : Int)))), (4, .ptr (0, 0) 0 0), (5, .map (1, 0)), (6, .osl (2, 0) 1 (v12.map za)), (7, .osl (3, 0) 3 (v26.map z6)), (26, .isl 3 (v1.1.map z6) false), (27, .int .i64 ((v1.1.map z6).length : Int)), (28, .int .i64 v27)] _ _
  refine LWp.sim (e := [(4, .ptr (0, 0) 0 0), (5, .map (1, 0)), (6, .osl (2, 0) 1 (v12.map za)), (7, .osl (3, 0) 3 (v26.map z6)), (9, .ptr (4, 0) 0 0), (26, .isl 3 (v1.1.map z6) false), (27, .int .i64 ((v1.1.map z6).length : Int)), (28, .int .i64 v27), (35, .bool v30)]) (L := [((0, 0), .one [.map (5, 0), .isl 3 (v1.1.map z6) false]), ((1, 0), .amap (v13.map (em z8 yb))), ((2, 0), .tok), ((3, 0), .tok), ((4, 0), .one [.int .i64 ((v1.1.getD v27.toNat default).f_Kind), .int .i64 ((v1.1.getD v27.toNat default).f_A), .int .i64 ((v1.1.getD v27.toNat default).f_B)]), ((5, 0), .amap (v1.2.map (em z8 zb)))]) (n := 6) ?_ ?_
  ·exact jh (M := [((0, 0), (0, 0)), ((1, 0), (1, 0)), ((2, 0), (2, 0)), ((3, 0), (3, 0)), ((4, 0), (5, 0)), ((5, 0), (4, 0))]) rfl (And.intro (Vw.ptr _ _ _ _ rfl) (And.intro (Vw.map _ _ rfl) (And.intro (Vw.osl _ _ _ _ rfl) (And.intro (Vw.osl _ _ _ _ rfl) (And.intro (Vw.ptr _ _ _ _ rfl) (And.intro (Vw.same _ rfl) (And.intro (Vw.same _ rfl) (And.intro (Vw.same _ rfl) (And.intro (Vw.same _ rfl) trivial))))))))) (And.intro (And.intro rfl (BVw.oneL (And.intro (Vw.map _ _ rfl) (And.intro (Vw.same _ rfl) trivial)))) (And.intro (And.intro rfl (BVw.ofMap z8 yb zo v13)) (And.intro (And.intro rfl BVw.tok) (And.intro (And.intro rfl BVw.tok) (And.intro (And.intro rfl (BVw.oneL (And.intro (Vw.same _ rfl) (And.intro (Vw.same _ rfl) (And.intro (Vw.same _ rfl) trivial))))) (And.intro (And.intro rfl (BVw.ofMap z8 zb zc v1.2)) trivial))))))
  refine w5 (v := v30) rfl trivial (fun h64 => ?_) (fun h64 => ?_)
  ·have h := q7 h64 h
   refine y8 ?_
   obtain ⟨h65, h⟩ := y4 h
   refine Exists.intro ((v26 ++ ([(G_QKey.mk ((v1.1.getD v27.toNat default).f_Kind) ((v1.1.getD v27.toNat default).f_A) ((v1.1.getD v27.toNat default).f_B))] : List G_QKey)).map z6) (And.intro (Qg z6 v26 ([(G_QKey.mk ((v1.1.getD v27.toNat default).f_Kind) ((v1.1.getD v27.toNat default).f_A) ((v1.1.getD v27.toNat default).f_B))] : List G_QKey)) (And.intro h65 ?_))
   refine LWp.sim ?_ (z0h h)
   exact jh (M := [((0, 0), (0, 0)), ((1, 0), (1, 0)), ((2, 0), (2, 0)), ((3, 0), (6, 0)), ((4, 0), (5, 0))]) rfl (And.intro (Vw.ptr _ _ _ _ rfl) (And.intro (Vw.map _ _ rfl) (And.intro (Vw.osl _ _ _ _ rfl) (And.intro (Vw.osl _ _ _ _ rfl) (And.intro (Vw.same _ rfl) (And.intro (Vw.same _ rfl) (And.intro (Vw.same _ rfl) trivial))))))) (And.intro (And.intro rfl (BVw.oneL (And.intro (Vw.map _ _ rfl) (And.intro (Vw.same _ rfl) trivial)))) (And.intro (And.intro rfl (BVw.ofMap z8 yb zo v13)) (And.intro (And.intro rfl BVw.tok) (And.intro (And.intro rfl BVw.tok) (And.intro (And.intro rfl (BVw.ofMap z8 zb zc v1.2)) trivial)))))
  ·have h := qq h64 h
   refine w7 ?_
   refine LWp.sim ?_ (z0h h)
   exact jh (M := [((0, 0), (0, 0)), ((1, 0), (1, 0)), ((2, 0), (2, 0)), ((3, 0), (3, 0)), ((4, 0), (5, 0))]) rfl (And.intro (Vw.ptr _ _ _ _ rfl) (And.intro (Vw.map _ _ rfl) (And.intro (Vw.osl _ _ _ _ rfl) (And.intro (Vw.osl _ _ _ _ rfl) (And.intro (Vw.same _ rfl) (And.intro (Vw.same _ rfl) (And.intro (Vw.same _ rfl) trivial))))))) (And.intro (And.intro rfl (BVw.oneL (And.intro (Vw.map _ _ rfl) (And.intro (Vw.same _ rfl) trivial)))) (And.intro (And.intro rfl (BVw.ofMap z8 yb zo v13)) (And.intro (And.intro rfl BVw.tok) (And.intro (And.intro rfl BVw.tok) (And.intro (And.intro rfl (BVw.ofMap z8 zb zc v1.2)) trivial)))))
 ·have h := qq h61 h
  refine Zp ?_
  obtain ⟨o, hq, rfl⟩ := Option.map_eq_some_iff.1 h
  replace h := hq; clear hq
  refine And.intro nofun ?_
  refine LWp.sim ?_ (z9u h)
  exact jh (M := [((0, 0), (0, 0)), ((1, 0), (1, 0)), ((2, 0), (2, 0)), ((3, 0), (3, 0)), ((4, 0), (4, 0))]) rfl (And.intro (Vw.ptr _ _ _ _ rfl) (And.intro (Vw.map _ _ rfl) (And.intro (Vw.osl _ _ _ _ rfl) (And.intro (Vw.osl _ _ _ _ rfl) trivial)))) (And.intro (And.intro rfl (BVw.oneL (And.intro (Vw.map _ _ rfl) (And.intro (Vw.same _ rfl) trivial)))) (And.intro (And.intro rfl (BVw.ofMap z8 yb zo v13)) (And.intro (And.intro rfl BVw.tok) (And.intro (And.intro rfl BVw.tok) (And.intro (And.intro rfl (BVw.ofMap z8 zb zc v1.2)) trivial)))))
theorem zfd {a0 : List G_QEdge} {v1 : (List G_QKey) × (List (G_QKey × (List G_QKey)))} {v12 : List (List G_QKey)} {v13 : List (G_QKey × Int)} {v26 : List G_QKey} {v27 : Int} {m : Option Nat} {o : (((List (List G_QKey)) × (List (G_QKey × Int))) ⊕ ((List (List G_QKey)) × Int))} (h : jz m v1 v12 v13 v26 v27 = some o) :
 LWp Try.prog vl 0 (.loop zc8) (yv 2 (uv Try.prog vl 0 z8y (yv 1 (wj 0 4 (kp v1) (um v1) (Zq a0) o)))) [(4, .ptr (0, 0) 0 0), (5, .map (1, 0)), (6, .osl (2, 0) 1 (v12.map za)), (7, .osl (3, 0) 3 (v26.map z6)), (26, .isl 3 (v1.1.map z6) false), (27, .int .i64 ((v1.1.map z6).length : Int)), (28, .int .i64 v27)] [((0, 0), .one [.map (4, 0), .isl 3 (v1.1.map z6) false]), ((1, 0), .amap (v13.map (em z8 yb))), ((2, 0), .tok), ((3, 0), .tok), ((4, 0), .amap (v1.2.map (em z8 zb)))] 5 :=
 j0 (m := m) (s := ((v26, v27) : ((List G_QKey) × Int))) (r := o) (fun (s : ((List G_QKey) × Int)) => xq m v1 v12 v13 s.1 s.2) (Wf v1 v12 v13) (Kv v1 v12 v13) (z13 a0 v1) (fun s o h => z9z h) h
noncomputable def wk (m : Option Nat) (v12 : List (List G_QKey)) : Option ((List (List G_QKey)) × Int) :=
 some (v12, 0)
noncomputable def qh (m : Option Nat) (v1 : (List G_QKey) × (List (G_QKey × (List G_QKey)))) (v12 : List (List G_QKey)) (v13 : List (G_QKey × Int)) : Option (((List (List G_QKey)) × (List (G_QKey × Int))) ⊕ ((List (List G_QKey)) × Int)) :=
 if (decide (((v13.map (em z8 yb)).length : Int) < ((v1.1.map z6).length : Int))) = true then
  jz m v1 v12 v13 [] 0
 else
  Option.map Sum.inr (
   wk m v12)
noncomputable def yi (m : Option Nat) (v1 : (List G_QKey) × (List (G_QKey × (List G_QKey)))) (v12 : List (List G_QKey)) (v13 : List (G_QKey × Int)) : Option ((List (List G_QKey)) × Int) := u5 m (fun (s : ((List (List G_QKey)) × (List (G_QKey × Int)))) => qh m v1 s.1 s.2) (v12, v13)
theorem z9j {a0 : List G_QEdge} {v12 : List (List G_QKey)} {m : Option Nat} {o : ((List (List G_QKey)) × Int)} (h : wk m v12 = some o) :
 LWp Try.prog vl 0 z91 (zic a0 o) [(6, .osl (0, 0) 1 (v12.map za))] [((0, 0), .tok)] 1 := by
 unfold wk at h
 refine zl ?_
 refine y8 ?_
 refine Ze ?_
 cases h
 exact And.intro trivial (And.intro trivial (And.intro rfl (Vw.tupL (And.intro (Vw.oslI _ _ _) (And.intro (Vw.same _ rfl) trivial)))))
theorem zb1 {a0 : List G_QEdge} {v1 : (List G_QKey) × (List (G_QKey × (List G_QKey)))} {v12 : List (List G_QKey)} {v13 : List (G_QKey × Int)} {m : Option Nat} {o : ((List (List G_QKey)) × (List (G_QKey × Int))) ⊕ ((List (List G_QKey)) × Int)} (h : qh m v1 v12 v13 = some o) :
 LWp Try.prog vl 0 zbr (wj 0 4 (kp v1) (um v1) (Zq a0) o) [(4, .ptr (0, 0) 0 0), (5, .map (1, 0)), (6, .osl (2, 0) 1 (v12.map za))] [((0, 0), .one [.map (3, 0), .isl 3 (v1.1.map z6) false]), ((1, 0), .amap (v13.map (em z8 yb))), ((2, 0), .tok), ((3, 0), .amap (v1.2.map (em z8 zb)))] 4 := by
 unfold qh at h
 refine zl ?_
 refine zl ?_
 refine zco ?_
 refine LWp.sim (e := [(4, .ptr (0, 0) 0 0), (5, .map (1, 0)), (6, .osl (2, 0) 1 (v12.map za)), (22, .bool (decide (((v13.map (em z8 yb)).length : Int) < ((v1.1.map z6).length : Int))))]) (L := [((0, 0), .one [.map (3, 0), .isl 3 (v1.1.map z6) false]), ((1, 0), .amap (v13.map (em z8 yb))), ((2, 0), .tok), ((3, 0), .amap (v1.2.map (em z8 zb)))]) (n := 4) ?_ ?_
 ·exact jh (M := [((0, 0), (0, 0)), ((1, 0), (1, 0)), ((2, 0), (2, 0)), ((3, 0), (3, 0))]) rfl (And.intro (Vw.ptr _ _ _ _ rfl) (And.intro (Vw.map _ _ rfl) (And.intro (Vw.osl _ _ _ _ rfl) (And.intro (Vw.same _ rfl) trivial)))) (And.intro (And.intro rfl (BVw.oneL (And.intro (Vw.map _ _ rfl) (And.intro (Vw.same _ rfl) trivial)))) (And.intro (And.intro rfl (BVw.ofMap z8 yb zo v13)) (And.intro (And.intro rfl BVw.tok) (And.intro (And.intro rfl (BVw.ofMap z8 zb zc v1.2)) trivial))))
 refine w5 (v := (decide (((v13.map (em z8 yb)).length : Int) < ((v1.1.map z6).length : Int)))) rfl trivial (fun h50 => ?_) (fun h50 => ?_)
 ·have h := q7 h50 h
  refine w7 ?_
  refine j8 ?_
  refine zl ?_
  refine y8 ?_
  refine zl ?_
  refine zl ?_
  refine y8 ?_
  refine j8 ?_
  refine LWp.sim ?_ (zfd h)
  exact jh (M := [((0, 0), (0, 0)), ((1, 0), (1, 0)), ((2, 0), (2, 0)), ((4, 0), (3, 0))]) rfl (And.intro (Vw.ptr _ _ _ _ rfl) (And.intro (Vw.map _ _ rfl) (And.intro (Vw.osl _ _ _ _ rfl) (And.intro (Vw.nilO _ _ (by decide)) (And.intro (Vw.same _ rfl) (And.intro (Vw.same _ rfl) (And.intro (Vw.same _ rfl) trivial))))))) (And.intro (And.intro rfl (BVw.oneL (And.intro (Vw.map _ _ rfl) (And.intro (Vw.same _ rfl) trivial)))) (And.intro (And.intro rfl (BVw.ofMap z8 yb zo v13)) (And.intro (And.intro rfl BVw.tok) (And.intro (And.intro rfl (And.intro (by decide) (by decide))) (And.intro (And.intro rfl (BVw.ofMap z8 zb zc v1.2)) trivial)))))
 ·have h := qq h50 h
  refine Zp ?_
  obtain ⟨o, hq, rfl⟩ := Option.map_eq_some_iff.1 h
  replace h := hq; clear hq
  refine And.intro nofun ?_
  refine LWp.sim ?_ (z9j h)
  exact jh (M := [((0, 0), (2, 0))]) rfl (And.intro (Vw.osl _ _ _ _ rfl) trivial) (And.intro (And.intro rfl BVw.tok) trivial)
theorem zcj {a0 : List G_QEdge} {v1 : (List G_QKey) × (List (G_QKey × (List G_QKey)))} {v12 : List (List G_QKey)} {v13 : List (G_QKey × Int)} {m : Option Nat} {o : ((List (List G_QKey)) × Int)} (h : yi m v1 v12 v13 = some o) :
 LWp Try.prog vl 0 (.loop zbr) (yv 0 (uv Try.prog vl 0 z91 (zic a0 o))) [(4, .ptr (0, 0) 0 0), (5, .map (1, 0)), (6, .osl (2, 0) 1 (v12.map za))] [((0, 0), .one [.map (3, 0), .isl 3 (v1.1.map z6) false]), ((1, 0), .amap (v13.map (em z8 yb))), ((2, 0), .tok), ((3, 0), .amap (v1.2.map (em z8 zb)))] 4 :=
 j0 (m := m) (s := ((v12, v13) : ((List (List G_QKey)) × (List (G_QKey × Int))))) (r := o) (fun (s : ((List (List G_QKey)) × (List (G_QKey × Int)))) => qh m v1 s.1 s.2) (kp v1) (um v1) (Zq a0) (fun s o h => zb1 h) h
noncomputable def wb (m : Option Nat) (a0 : List G_QEdge) : Option ((List (List G_QKey)) × Int) :=
 (xi m a0 false).bind fun v1 =>
 yi m v1 [] ([] : List (G_QKey × Int))
theorem zeu {a0 : List G_QEdge} {m : Option Nat} {o : (List (List G_QKey)) × Int} (h : wb m a0 = some o) : LWp Try.prog vl 0 zjd (zic a0 o) (qx 0 [.isl 6 (a0.map z7) false]) [] 0 := by
 unfold wb at h
 refine zl ?_
 refine y8 ?_
 refine zl ?_
 refine y8 ?_
 obtain ⟨v1, h1, h⟩ := bind_some h
 refine Ya (k := 3) (m := 4) (L' := [((0, 0), .one [.map (1, 0), .isl 3 (v1.1.map z6) false]), ((1, 0), .amap (v1.2.map (em z8 zb)))]) (rest := []) (R' := .ptr (0, 0) 0 0) [] (z1m h1) rfl rfl rfl (And.intro (Vw.same _ rfl) (And.intro (Vw.same _ rfl) trivial)) trivial rfl (And.intro rfl (And.intro rfl (And.intro rfl (And.intro (Zz z8 zb vh zc _) trivial)))) rfl ?_
 refine zl ?_
 refine y8 ?_
 refine zl ?_
 refine y8 ?_
 refine LWp.sim (e := [(4, .ptr (0, 0) 0 0), (5, .map (1, 0)), (6, .val (.slice none 0 0))]) (L := [((0, 0), .one [.map (2, 0), .isl 3 (v1.1.map z6) false]), ((1, 0), .amap (([] : List (G_QKey × Int)).map (em z8 yb))), ((2, 0), .amap (v1.2.map (em z8 zb)))]) (n := 3) ?_ ?_
 ·exact jh (M := [((0, 0), (0, 0)), ((1, 0), (5, 0)), ((2, 0), (1, 0))]) rfl (And.intro (Vw.ptr _ _ _ _ rfl) (And.intro (Vw.map _ _ rfl) (And.intro (Vw.same _ rfl) trivial))) (And.intro (And.intro rfl (BVw.oneL (And.intro (Vw.map _ _ rfl) (And.intro (Vw.same _ rfl) trivial)))) (And.intro (And.intro rfl (BVw.ofMap z8 yb zo ([] : List (G_QKey × Int)))) (And.intro (And.intro rfl (BVw.ofMap z8 zb zc v1.2)) trivial)))
 refine zl ?_
 refine j8 ?_
 refine LWp.sim ?_ (zcj h)
 exact jh (M := [((0, 0), (0, 0)), ((1, 0), (1, 0)), ((3, 0), (2, 0))]) rfl (And.intro (Vw.ptr _ _ _ _ rfl) (And.intro (Vw.map _ _ rfl) (And.intro (Vw.nilO _ _ (by decide)) trivial))) (And.intro (And.intro rfl (BVw.oneL (And.intro (Vw.map _ _ rfl) (And.intro (Vw.same _ rfl) trivial)))) (And.intro (And.intro rfl (BVw.ofMap z8 yb zo ([] : List (G_QKey × Int)))) (And.intro (And.intro rfl (And.intro (by decide) (by decide))) (And.intro (And.intro rfl (BVw.ofMap z8 zb zc v1.2)) trivial))))
theorem zo0 {a0 : List G_QEdge} {m : Option Nat} {o : (List (List G_QKey)) × Int} (h : wb m a0 = some o) : PFn Try.prog 16 [.isl 6 (a0.map z7) false] (.tup [.isl 1 (o.1.map za) false, .int .i64 o.2]) := PFn.ofFnW (L := zol) zm5 zkt (Nat.le_of_ble_eq_true rfl) rfl (zeu h)
def zk1 : LCode := (.seq (.region [⟨some 2, .box (.t 0), none⟩,
 ⟨some 3, .box (.t 1), none⟩,
 ⟨some 4, .mv (.c (.bool false)), none⟩])
 (.seq (.seq (.region [⟨some 5, .faddr 0 (.t 2), none⟩,
  ⟨some 6, .load false 1 (.t 5), none⟩,
  ⟨some 7, .faddr 0 (.t 3), none⟩,
  ⟨some 8, .load false 1 (.t 7), none⟩,
  ⟨some 9, .bin .neq (.t 6) (.t 8), none⟩])
 (.cond (.t 9)
  (.seq (.region [⟨some 10, .faddr 0 (.t 2), none⟩,
   ⟨some 11, .load false 1 (.t 10), none⟩,
   ⟨some 12, .faddr 0 (.t 3), none⟩,
   ⟨some 13, .load false 1 (.t 12), none⟩,
   ⟨some 14, .bin .lss (.t 11) (.t 13), none⟩,
   ⟨some 4, .mv (.t 14), none⟩])
  .ret)
  .skip))
 (.seq (.seq (.region [⟨some 15, .faddr 1 (.t 2), none⟩,
  ⟨some 16, .load false 1 (.t 15), none⟩,
  ⟨some 17, .faddr 1 (.t 3), none⟩,
  ⟨some 18, .load false 1 (.t 17), none⟩,
  ⟨some 19, .bin .neq (.t 16) (.t 18), none⟩])
 (.cond (.t 19)
  (.seq (.region [⟨some 20, .faddr 1 (.t 2), none⟩,
   ⟨some 21, .load false 1 (.t 20), none⟩,
   ⟨some 22, .faddr 1 (.t 3), none⟩,
   ⟨some 23, .load false 1 (.t 22), none⟩,
   ⟨some 24, .bin .lss (.t 21) (.t 23), none⟩,
   ⟨some 4, .mv (.t 24), none⟩])
  .ret)
  .skip))
 (.seq (.region [⟨some 25, .faddr 2 (.t 2), none⟩,
  ⟨some 26, .load false 1 (.t 25), none⟩,
  ⟨some 27, .faddr 2 (.t 3), none⟩,
  ⟨some 28, .load false 1 (.t 27), none⟩,
  ⟨some 29, .bin .lss (.t 26) (.t 28), none⟩,
  ⟨some 4, .mv (.t 29), none⟩])
 .ret))))
def zfk : Lay := ⟨30, [], false⟩
def ze6 : List LRes := [.t 4]
def zop : LFn := ⟨2, zfk, zk1, ze6⟩
theorem zlo : k9 Try.prog [] 41 = some zop := by kernel_rfl
theorem zlx : Y8 Try.prog 41 := ⟨_, Try.func41, rfl, rfl⟩
noncomputable def xj (m : Option Nat) (a0 : G_QKey) (a1 : G_QKey) : Option Bool :=
 if (a0.f_Kind != a1.f_Kind) = true then
  some (decide (a0.f_Kind < a1.f_Kind))
 else
  if (a0.f_A != a1.f_A) = true then
   some (decide (a0.f_A < a1.f_A))
  else
   some (decide (a0.f_B < a1.f_B))
def zpo (a0 : G_QKey) (a1 : G_QKey) (o : Bool) : Exit → Env → AHeap → Nat → Prop := Xg ze6 (wu (.bool o))
theorem zf1 {a0 : G_QKey} {a1 : G_QKey} {m : Option Nat} {o : Bool} (h : xj m a0 a1 = some o) : LWp Try.prog zfk 0 zk1 (zpo a0 a1 o) (qx 0 [.agg [.int .i64 a0.f_Kind, .int .i64 a0.f_A, .int .i64 a0.f_B], .agg [.int .i64 a1.f_Kind, .int .i64 a1.f_A, .int .i64 a1.f_B]]) [] 0 := by
 unfold xj at h
 refine zl ?_
 refine y8 ?_
 refine zl ?_
 refine zl ?_
 refine y8 ?_
 refine LWp.sim (e := [(2, .ptr (0, 0) 0 0), (3, .ptr (1, 0) 0 0), (9, .bool (a0.f_Kind != a1.f_Kind))]) (L := [((0, 0), .one [.int .i64 a0.f_Kind, .int .i64 a0.f_A, .int .i64 a0.f_B]), ((1, 0), .one [.int .i64 a1.f_Kind, .int .i64 a1.f_A, .int .i64 a1.f_B])]) (n := 2) ?_ ?_
 ·exact jh (M := [((0, 0), (0, 0)), ((1, 0), (1, 0))]) rfl (And.intro (Vw.ptr _ _ _ _ rfl) (And.intro (Vw.ptr _ _ _ _ rfl) (And.intro (Vw.same _ rfl) trivial))) (And.intro (And.intro rfl (BVw.oneL (And.intro (Vw.same _ rfl) (And.intro (Vw.same _ rfl) (And.intro (Vw.same _ rfl) trivial))))) (And.intro (And.intro rfl (BVw.oneL (And.intro (Vw.same _ rfl) (And.intro (Vw.same _ rfl) (And.intro (Vw.same _ rfl) trivial))))) trivial))
 refine w5 (v := (a0.f_Kind != a1.f_Kind)) rfl trivial (fun h1 => ?_) (fun h1 => ?_)
 ·have h := q7 h1 h
  refine zl ?_
  refine y8 ?_
  refine Ze ?_
  cases h
  exact And.intro trivial (And.intro rfl (Vw.same _ rfl))
 ·have h := qq h1 h
  refine w7 ?_
  refine zl ?_
  refine zl ?_
  refine y8 ?_
  refine w5 (v := (a0.f_A != a1.f_A)) rfl trivial (fun h2 => ?_) (fun h2 => ?_)
  ·have h := q7 h2 h
   refine zl ?_
   refine y8 ?_
   refine LWp.sim (e := [(4, .bool (decide (a0.f_A < a1.f_A)))]) (L := []) (n := 0) ?_ ?_
   ·exact jh (M := []) rfl (And.intro (Vw.same _ rfl) trivial) trivial
   refine Ze ?_
   cases h
   exact And.intro trivial (And.intro rfl (Vw.same _ rfl))
  ·have h := qq h2 h
   refine w7 ?_
   refine zl ?_
   refine y8 ?_
   refine LWp.sim (e := [(4, .bool (decide (a0.f_B < a1.f_B)))]) (L := []) (n := 0) ?_ ?_
   ·exact jh (M := []) rfl (And.intro (Vw.same _ rfl) trivial) trivial
   refine Ze ?_
   cases h
   exact And.intro trivial (And.intro rfl (Vw.same _ rfl))
theorem zo8 {a0 : G_QKey} {a1 : G_QKey} {m : Option Nat} {o : Bool} (h : xj m a0 a1 = some o) : PFn Try.prog 41 [.agg [.int .i64 a0.f_Kind, .int .i64 a0.f_A, .int .i64 a0.f_B], .agg [.int .i64 a1.f_Kind, .int .i64 a1.f_A, .int .i64 a1.f_B]] (.bool o) := PFn.ofFnW (L := zop) zlo zlx (Nat.le_of_ble_eq_true rfl) rfl (zf1 h)
def zbx : LCode := (.seq (.seq (.draw [⟨⟨some 13, .mv (.t 6), none⟩, []⟩,
 ⟨⟨some 14, .mv (.t 3), none⟩, []⟩,
 ⟨⟨some 15, .len false (.t 14), none⟩, []⟩,
 ⟨⟨some 16, .bin .lss (.t 13) (.t 15), none⟩, []⟩,
 ⟨⟨some 17, .mv (.t 16), none⟩, []⟩,
 ⟨⟨some 18, .mv (.t 3), some (17, true)⟩, []⟩,
 ⟨⟨some 19, .mv (.t 6), some (17, true)⟩, []⟩,
 ⟨⟨some 20, .iaddr 3 (.t 18) (.t 19), some (17, true)⟩, []⟩,
 ⟨⟨some 21, .load true 3 (.t 20), some (17, true)⟩, []⟩,
 ⟨⟨some 22, .load true 3 (.t 5), some (17, true)⟩, []⟩,
 ⟨⟨some 23, .call 41 [(.t 21), (.t 22)], some (17, true)⟩, []⟩,
 ⟨⟨some 24, .pick (.t 17) (.t 23) (.c (.bool false)), none⟩, []⟩])
 (.cond (.t 24)
  .skip
  (.exit 2)))
 (.block 3
  (.region [⟨some 25, .mv (.t 6), none⟩,
   ⟨some 26, .bin .add (.t 25) (.c (.int .i64 1)), none⟩,
   ⟨some 6, .mv (.t 26), none⟩])))
def z99 : LCode := (.seq (.quiet [⟨some 27, .mv (.t 6), none⟩,
 ⟨some 28, .mv (.t 3), none⟩,
 ⟨some 29, .len false (.t 28), none⟩,
 ⟨some 30, .bin .eql (.t 27) (.t 29), none⟩,
 ⟨some 31, .mv (.t 30), none⟩,
 ⟨some 32, .mv (.t 3), some (31, false)⟩,
 ⟨some 33, .mv (.t 6), some (31, false)⟩,
 ⟨some 34, .iaddr 3 (.t 32) (.t 33), some (31, false)⟩,
 ⟨some 35, .load true 3 (.t 34), some (31, false)⟩,
 ⟨some 36, .load true 3 (.t 5), some (31, false)⟩,
 ⟨some 37, .eq true (.agg [.int, .int, .int]) (.t 35) (.t 36), some (31, false)⟩,
 ⟨some 38, .pick (.t 31) (.c (.bool true)) (.t 37), none⟩])
 (.cond (.t 38)
  (.draw [⟨⟨some 39, .mv (.t 3), none⟩, []⟩,
   ⟨⟨some 40, .mv (.t 6), none⟩, []⟩,
   ⟨⟨some 41, .mv (.t 6), none⟩, []⟩,
   ⟨⟨some 42, .slSl 3 (.t 39) none (some (.t 40)) (some (.t 41)), none⟩, []⟩,
   ⟨⟨some 43, .load true 3 (.t 5), none⟩, []⟩,
   ⟨⟨some 45, .mv (.t 3), none⟩, []⟩,
   ⟨⟨some 46, .mv (.t 6), none⟩, []⟩,
   ⟨⟨some 47, .slSl 3 (.t 45) (some (.t 46)) none none, none⟩, []⟩,
   ⟨⟨some 44, .mkSl true 3 [(.int .i64 0), (.int .i64 0), (.int .i64 0)] 1 [(0, (.t 43))], none⟩, []⟩,
   ⟨⟨some 48, .app true 3 24 (.t 44) (.t 47), none⟩, []⟩,
   ⟨⟨some 49, .app true 3 24 (.t 42) (.t 48), none⟩, []⟩,
   ⟨⟨some 3, .mv (.t 49), none⟩, []⟩])
  .skip))
def z5b : LCode := (.region [⟨some 50, .bin .add (.t 9) (.c (.int .i64 1)), none⟩,
 ⟨some 9, .mv (.t 50), none⟩])
def zem : LCode := (.seq (.region [⟨some 10, .bin .lss (.t 9) (.t 8), none⟩])
 (.seq (.cond (.t 10)
  .skip
  (.exit 0))
 (.seq (.block 1
  (.seq (.region [⟨some 11, .iaddr 3 (.t 7) (.t 9), none⟩,
   ⟨some 12, .load true 3 (.t 11), none⟩,
   ⟨some 5, .alloc [(.int .i64 0), (.int .i64 0), (.int .i64 0)], none⟩,
   ⟨none, .store 3 (.t 5) (.t 12), none⟩])
  (.seq (.region [⟨some 6, .mv (.c (.int .i64 0)), none⟩])
  (.seq (.block 2
   (.loop
    zbx))
  z99))))
 z5b)))
def z9a : LCode := (.seq (.region [⟨some 51, .mv (.t 3), none⟩,
 ⟨some 2, .mv (.t 51), none⟩])
 .ret)
def zjx : LCode := (.seq (.region [⟨some 2, .mv (.c (.val (.slice none 0 0))), none⟩])
 (.seq (.region [⟨some 3, .mv (.c (.val (.slice none 0 0))), none⟩])
 (.seq (.seq (.region [⟨some 7, .mv (.t 0), none⟩,
  ⟨some 8, .len false (.t 7), none⟩,
  ⟨some 9, .mv (.c (.int .i64 0)), none⟩])
 (.block 0
  (.loop
   zem)))
 z9a)))
def kc : Lay := ⟨52, [], false⟩
def zfs : List LRes := [.t 2]
def zp5 : LFn := ⟨1, kc, zjx, zfs⟩
theorem zkk : k9 Try.prog [] 24 = some zp5 := by kernel_rfl
theorem zmh : Y8 Try.prog 24 := ⟨_, Try.func24, rfl, rfl⟩
def zh9 (a0 : List G_QKey) (o : (List G_QKey)) : Exit → Env → AHeap → Nat → Prop := Xg zfs (wu (.isl 3 (o.map z6) false))
def Z5 (a0 : List G_QKey) (s : ((List G_QKey) × Int)) : Env := [(3, .osl (0, 0) 3 (s.1.map z6)), (7, .isl 3 (a0.map z6) false), (8, .int .i64 ((a0.map z6).length : Int)), (9, .int .i64 s.2)]
def Yc (a0 : List G_QKey) (s : ((List G_QKey) × Int)) : AHeap := [((0, 0), .tok)]
def X7 (a0 : List G_QKey) (o : (List G_QKey)) : Exit → Env → AHeap → Nat → Prop := (yv 0 (uv Try.prog kc 0 z9a (zh9 a0 o)))
def z0f (a0 : List G_QKey) (v6 : List G_QKey) (v7 : Int) (s : Int) : Env := [(3, .osl (0, 0) 3 (v6.map z6)), (5, .ptr (1, 0) 0 0), (6, .int .i64 s), (7, .isl 3 (a0.map z6) false), (8, .int .i64 ((a0.map z6).length : Int)), (9, .int .i64 v7)]
def z4g (a0 : List G_QKey) (v6 : List G_QKey) (v7 : Int) (s : Int) : AHeap := [((0, 0), .tok), ((1, 0), .one [.int .i64 ((a0.getD v7.toNat default).f_Kind), .int .i64 ((a0.getD v7.toNat default).f_A), .int .i64 ((a0.getD v7.toNat default).f_B)])]
def z8l (a0 : List G_QKey) (o : (((List G_QKey) × Int) ⊕ (List G_QKey))) : Exit → Env → AHeap → Nat → Prop := (yv 2 (uv Try.prog kc 0 z99 (yv 1 (uv Try.prog kc 0 z5b (wj 0 1 (Z5 a0) (Yc a0) (X7 a0) o)))))
noncomputable def xe (m : Option Nat) (a0 : List G_QKey) (v7 : Int) (v17 : List G_QKey) : Option (((List G_QKey) × Int) ⊕ (List G_QKey)) :=
 some (.inl (v17, (W (v7 + 1))))
noncomputable def qk (m : Option Nat) (a0 : List G_QKey) (v6 : List G_QKey) (v7 : Int) (v14 : Int) : Option (((List G_QKey) × Int) ⊕ (List G_QKey)) :=
 if (((v14 == ((v6.map z6).length : Int)) == false) = true → (0 : Int) ≤ v14 ∧ v14 < ((v6.map z6).length : Int)) then
 if ((v14 == ((v6.map z6).length : Int)) || (!(((v6.getD v14.toNat default).f_Kind == (a0.getD v7.toNat default).f_Kind) && (((v6.getD v14.toNat default).f_A == (a0.getD v7.toNat default).f_A) && (((v6.getD v14.toNat default).f_B == (a0.getD v7.toNat default).f_B) && true))))) = true then
  if (0 : Int) ≤ 0 ∧ 0 ≤ v14 ∧ v14 ≤ v14 ∧ v14 ≤ ((v6.map z6).length : Int) then
  if (0 : Int) ≤ v14 ∧ v14 ≤ ((v6.map z6).length : Int) then
  if ((([(G_QKey.mk ((a0.getD v7.toNat default).f_Kind) ((a0.getD v7.toNat default).f_A) ((a0.getD v7.toNat default).f_B))] : List G_QKey) ++ (v6.drop v14.toNat)).map z6).length * 24 ≤ 140737488355328 then
  if (decide (v14 = v14)) = true then
  if (((v6.take v14.toNat) ++ (([(G_QKey.mk ((a0.getD v7.toNat default).f_Kind) ((a0.getD v7.toNat default).f_A) ((a0.getD v7.toNat default).f_B))] : List G_QKey) ++ (v6.drop v14.toNat))).map z6).length * 24 ≤ 140737488355328 then
  xe m a0 v7 ((v6.take v14.toNat) ++ (([(G_QKey.mk ((a0.getD v7.toNat default).f_Kind) ((a0.getD v7.toNat default).f_A) ((a0.getD v7.toNat default).f_B))] : List G_QKey) ++ (v6.drop v14.toNat)))
  else none
  else none
  else none
  else none
  else none
 else
  xe m a0 v7 v6
 else none
noncomputable def yn (m : Option Nat) (a0 : List G_QKey) (v6 : List G_QKey) (v7 : Int) (v14 : Int) : Option (Int ⊕ (((List G_QKey) × Int) ⊕ (List G_QKey))) :=
 if (((decide (v14 < ((v6.map z6).length : Int))) == true) = true → (0 : Int) ≤ v14 ∧ v14 < ((v6.map z6).length : Int)) then
 (if ((decide (v14 < ((v6.map z6).length : Int))) == true) = true then xj m (G_QKey.mk ((v6.getD v14.toNat default).f_Kind) ((v6.getD v14.toNat default).f_A) ((v6.getD v14.toNat default).f_B)) (G_QKey.mk ((a0.getD v7.toNat default).f_Kind) ((a0.getD v7.toNat default).f_A) ((a0.getD v7.toNat default).f_B)) else some default).bind fun v16 =>
 if ((decide (v14 < ((v6.map z6).length : Int))) && v16) = true then
  some (.inl (W (v14 + 1)))
 else
  Option.map Sum.inr (
   qk m a0 v6 v7 v14)
 else none
noncomputable def qi (m : Option Nat) (a0 : List G_QKey) (v6 : List G_QKey) (v7 : Int) (v14 : Int) : Option (((List G_QKey) × Int) ⊕ (List G_QKey)) := u5 m (fun (s : Int) => yn m a0 v6 v7 s) v14
theorem z3w {a0 : List G_QKey} {v7 : Int} {v17 : List G_QKey} {m : Option Nat} {o : (((List G_QKey) × Int) ⊕ (List G_QKey))} (h : xe m a0 v7 v17 = some o) :
 LWp Try.prog kc 0 z5b (wj 0 1 (Z5 a0) (Yc a0) (X7 a0) o) [(3, .osl (0, 0) 3 (v17.map z6)), (7, .isl 3 (a0.map z6) false), (8, .int .i64 ((a0.map z6).length : Int)), (9, .int .i64 v7)] [((0, 0), .tok)] 1 := by
 unfold xe at h
 refine y8 ?_
 cases h
 exact And.intro rfl (jh (M := [((0, 0), (0, 0))]) rfl (And.intro (Vw.osl _ _ _ _ rfl) (And.intro (Vw.same _ rfl) (And.intro (Vw.same _ rfl) (And.intro (Vw.same _ rfl) trivial)))) (And.intro (And.intro rfl BVw.tok) trivial))
theorem zbv {a0 : List G_QKey} {v6 : List G_QKey} {v7 : Int} {v14 : Int} {m : Option Nat} {o : (((List G_QKey) × Int) ⊕ (List G_QKey))} (h : qk m a0 v6 v7 v14 = some o) :
 LWp Try.prog kc 0 z99 (yv 1 (uv Try.prog kc 0 z5b (wj 0 1 (Z5 a0) (Yc a0) (X7 a0) o))) [(3, .osl (0, 0) 3 (v6.map z6)), (5, .ptr (1, 0) 0 0), (6, .int .i64 v14), (7, .isl 3 (a0.map z6) false), (8, .int .i64 ((a0.map z6).length : Int)), (9, .int .i64 v7)] [((0, 0), .tok), ((1, 0), .one [.int .i64 ((a0.getD v7.toNat default).f_Kind), .int .i64 ((a0.getD v7.toNat default).f_A), .int .i64 ((a0.getD v7.toNat default).f_B)])] 2 := by
 unfold qk at h
 refine zl ?_
 refine zco ?_
 obtain ⟨h47, h⟩ := y4 h
 refine And.intro (fun hp => (And.intro (And.intro hp hp) (h47 hp))) ?_
 show yqs _ _ [(34, .cnd ((v14 == ((v6.map z6).length : Int)) == false) (.iptr 3 (v6.map z6) v14.toNat 0)), (33, .cnd ((v14 == ((v6.map z6).length : Int)) == false) (.int .i64 v14)), (32, .cnd ((v14 == ((v6.map z6).length : Int)) == false) (.osl (0, 0) 3 (v6.map z6))), (31, .bool (v14 == ((v6.map z6).length : Int))), (30, .bool (v14 == ((v6.map z6).length : Int))), (29, .int .i64 ((v6.map z6).length : Int)), (28, .osl (0, 0) 3 (v6.map z6)), (27, .int .i64 v14), (3, .osl (0, 0) 3 (v6.map z6)), (5, .ptr (1, 0) 0 0), (6, .int .i64 v14), (7, .isl 3 (a0.map z6) false), (8, .int .i64 ((a0.map z6).length : Int)), (9, .int .i64 v7)] _ _
 refine Exists.intro (z6 (v6.getD v14.toNat default)) (And.intro (fun hp => And.intro (jm z6 _ _ (wx z6 (h47 hp))) (And.intro hp (And.intro (kw (h47 hp)) (Nat.le_of_ble_eq_true rfl)))) ?_)
 refine And.intro (fun hp => (And.intro hp hp)) ?_
 refine And.intro (fun hc => (bqf hc)) ?_
 refine LWp.sim (e := [(3, .osl (0, 0) 3 (v6.map z6)), (5, .ptr (1, 0) 0 0), (6, .int .i64 v14), (7, .isl 3 (a0.map z6) false), (8, .int .i64 ((a0.map z6).length : Int)), (9, .int .i64 v7), (38, .bool ((v14 == ((v6.map z6).length : Int)) || (!(((v6.getD v14.toNat default).f_Kind == (a0.getD v7.toNat default).f_Kind) && (((v6.getD v14.toNat default).f_A == (a0.getD v7.toNat default).f_A) && (((v6.getD v14.toNat default).f_B == (a0.getD v7.toNat default).f_B) && true))))))]) (L := [((0, 0), .tok), ((1, 0), .one [.int .i64 ((a0.getD v7.toNat default).f_Kind), .int .i64 ((a0.getD v7.toNat default).f_A), .int .i64 ((a0.getD v7.toNat default).f_B)])]) (n := 2) ?_ ?_
 ·exact jh (M := [((0, 0), (0, 0)), ((1, 0), (1, 0))]) rfl (And.intro (Vw.osl _ _ _ _ rfl) (And.intro (Vw.ptr _ _ _ _ rfl) (And.intro (Vw.same _ rfl) (And.intro (Vw.same _ rfl) (And.intro (Vw.same _ rfl) (And.intro (Vw.same _ rfl) (And.intro (Vw.same _ rfl) trivial))))))) (And.intro (And.intro rfl BVw.tok) (And.intro (And.intro rfl (BVw.oneL (And.intro (Vw.same _ rfl) (And.intro (Vw.same _ rfl) (And.intro (Vw.same _ rfl) trivial))))) trivial))
 refine w5 (v := ((v14 == ((v6.map z6).length : Int)) || (!(((v6.getD v14.toNat default).f_Kind == (a0.getD v7.toNat default).f_Kind) && (((v6.getD v14.toNat default).f_A == (a0.getD v7.toNat default).f_A) && (((v6.getD v14.toNat default).f_B == (a0.getD v7.toNat default).f_B) && true)))))) rfl trivial (fun h48 => ?_) (fun h48 => ?_)
 ·have h := q7 h48 h
  refine z32 rfl ?_
  obtain ⟨h49, h⟩ := y4 h
  refine Exists.intro (.isl 3 ((v6.take v14.toNat).map z6) (decide (v14 = v14))) (And.intro (zm7 z6 (slB z6 v6 _) rfl) (And.intro (And.intro rfl h49) ?_))
  obtain ⟨h50, h⟩ := y4 h
  refine Exists.intro (.osl (0, 0) 3 ((v6.drop v14.toNat).map z6)) (And.intro (zl9 z6 _ _ _ _) (And.intro (And.intro rfl h50) ?_))
  obtain ⟨h51, h⟩ := y4 h
  refine Exists.intro ((([(G_QKey.mk ((a0.getD v7.toNat default).f_Kind) ((a0.getD v7.toNat default).f_A) ((a0.getD v7.toNat default).f_B))] : List G_QKey) ++ (v6.drop v14.toNat)).map z6) (And.intro (Qg z6 ([(G_QKey.mk ((a0.getD v7.toNat default).f_Kind) ((a0.getD v7.toNat default).f_A) ((a0.getD v7.toNat default).f_B))] : List G_QKey) (v6.drop v14.toNat)) (And.intro (And.intro rfl h51) ?_))
  obtain ⟨h52, h⟩ := y4 h
  obtain ⟨h53, h⟩ := y4 h
  refine Exists.intro (((v6.take v14.toNat) ++ (([(G_QKey.mk ((a0.getD v7.toNat default).f_Kind) ((a0.getD v7.toNat default).f_A) ((a0.getD v7.toNat default).f_B))] : List G_QKey) ++ (v6.drop v14.toNat))).map z6) (And.intro (Qg z6 (v6.take v14.toNat) (([(G_QKey.mk ((a0.getD v7.toNat default).f_Kind) ((a0.getD v7.toNat default).f_A) ((a0.getD v7.toNat default).f_B))] : List G_QKey) ++ (v6.drop v14.toNat))) (And.intro (And.intro h52 h53) ?_))
  refine LWp.sim ?_ (z3w h)
  exact jh (M := [((0, 0), (3, 0))]) rfl (And.intro (Vw.osl _ _ _ _ rfl) (And.intro (Vw.same _ rfl) (And.intro (Vw.same _ rfl) (And.intro (Vw.same _ rfl) trivial)))) (And.intro (And.intro rfl BVw.tok) trivial)
 ·have h := qq h48 h
  refine w7 ?_
  refine LWp.sim ?_ (z3w h)
  exact jh (M := [((0, 0), (0, 0))]) rfl (And.intro (Vw.osl _ _ _ _ rfl) (And.intro (Vw.same _ rfl) (And.intro (Vw.same _ rfl) (And.intro (Vw.same _ rfl) trivial)))) (And.intro (And.intro rfl BVw.tok) trivial)
theorem zb0 {a0 : List G_QKey} {v6 : List G_QKey} {v7 : Int} {v14 : Int} {m : Option Nat} {o : Int ⊕ (((List G_QKey) × Int) ⊕ (List G_QKey))} (h : yn m a0 v6 v7 v14 = some o) :
 LWp Try.prog kc 0 zbx (wj 0 2 (z0f a0 v6 v7) (z4g a0 v6 v7) (z8l a0) o) [(3, .osl (0, 0) 3 (v6.map z6)), (5, .ptr (1, 0) 0 0), (6, .int .i64 v14), (7, .isl 3 (a0.map z6) false), (8, .int .i64 ((a0.map z6).length : Int)), (9, .int .i64 v7)] [((0, 0), .tok), ((1, 0), .one [.int .i64 ((a0.getD v7.toNat default).f_Kind), .int .i64 ((a0.getD v7.toNat default).f_A), .int .i64 ((a0.getD v7.toNat default).f_B)])] 2 := by
 unfold yn at h
 refine zl ?_
 refine zl ?_
 refine z32 rfl ?_
 obtain ⟨h44, h⟩ := y4 h
 refine And.intro (fun hp => (And.intro (And.intro hp hp) (h44 hp))) ?_
 show Q5 _ _ _ [(20, .cnd ((decide (v14 < ((v6.map z6).length : Int))) == true) (.iptr 3 (v6.map z6) v14.toNat 0)), (19, .cnd ((decide (v14 < ((v6.map z6).length : Int))) == true) (.int .i64 v14)), (18, .cnd ((decide (v14 < ((v6.map z6).length : Int))) == true) (.osl (0, 0) 3 (v6.map z6))), (17, .bool (decide (v14 < ((v6.map z6).length : Int)))), (16, .bool (decide (v14 < ((v6.map z6).length : Int)))), (15, .int .i64 ((v6.map z6).length : Int)), (14, .osl (0, 0) 3 (v6.map z6)), (13, .int .i64 v14), (3, .osl (0, 0) 3 (v6.map z6)), (5, .ptr (1, 0) 0 0), (6, .int .i64 v14), (7, .isl 3 (a0.map z6) false), (8, .int .i64 ((a0.map z6).length : Int)), (9, .int .i64 v7)] _ _
 refine Exists.intro (z6 (v6.getD v14.toNat default)) (And.intro (fun hp => And.intro (jm z6 _ _ (wx z6 (h44 hp))) (And.intro hp (And.intro (kw (h44 hp)) (Nat.le_of_ble_eq_true rfl)))) ?_)
 obtain ⟨v16, h45, h⟩ := bind_some h
 refine Or.inl (Exists.intro (.bool v16) (And.intro (fun hp => And.intro (And.intro hp hp) (PFn.call (zo8 (q7 hp h45)) (And.intro (Vw.same _ rfl) (And.intro (Vw.same _ rfl) trivial)) (And.intro rfl (And.intro rfl rfl)))) ?_))
 refine And.intro (fun hc => (bqt hc)) ?_
 refine LWp.sim (e := [(3, .osl (0, 0) 3 (v6.map z6)), (5, .ptr (1, 0) 0 0), (6, .int .i64 v14), (7, .isl 3 (a0.map z6) false), (8, .int .i64 ((a0.map z6).length : Int)), (9, .int .i64 v7), (24, .bool ((decide (v14 < ((v6.map z6).length : Int))) && v16))]) (L := [((0, 0), .tok), ((1, 0), .one [.int .i64 ((a0.getD v7.toNat default).f_Kind), .int .i64 ((a0.getD v7.toNat default).f_A), .int .i64 ((a0.getD v7.toNat default).f_B)])]) (n := 2) ?_ ?_
 ·exact jh (M := [((0, 0), (0, 0)), ((1, 0), (1, 0))]) rfl (And.intro (Vw.osl _ _ _ _ rfl) (And.intro (Vw.ptr _ _ _ _ rfl) (And.intro (Vw.same _ rfl) (And.intro (Vw.same _ rfl) (And.intro (Vw.same _ rfl) (And.intro (Vw.same _ rfl) (And.intro (Vw.same _ rfl) trivial))))))) (And.intro (And.intro rfl BVw.tok) (And.intro (And.intro rfl (BVw.oneL (And.intro (Vw.same _ rfl) (And.intro (Vw.same _ rfl) (And.intro (Vw.same _ rfl) trivial))))) trivial))
 refine w5 (v := ((decide (v14 < ((v6.map z6).length : Int))) && v16)) rfl trivial (fun h46 => ?_) (fun h46 => ?_)
 ·have h := q7 h46 h
  refine w7 ?_
  refine j8 ?_
  refine y8 ?_
  cases h
  exact And.intro rfl (jh (M := [((0, 0), (0, 0)), ((1, 0), (1, 0))]) rfl (And.intro (Vw.osl _ _ _ _ rfl) (And.intro (Vw.ptr _ _ _ _ rfl) (And.intro (Vw.same _ rfl) (And.intro (Vw.same _ rfl) (And.intro (Vw.same _ rfl) (And.intro (Vw.same _ rfl) trivial)))))) (And.intro (And.intro rfl BVw.tok) (And.intro (And.intro rfl (BVw.oneL (And.intro (Vw.same _ rfl) (And.intro (Vw.same _ rfl) (And.intro (Vw.same _ rfl) trivial))))) trivial)))
 ·have h := qq h46 h
  refine Zp ?_
  obtain ⟨o, hq, rfl⟩ := Option.map_eq_some_iff.1 h
  replace h := hq; clear hq
  refine And.intro nofun ?_
  refine LWp.sim ?_ (zbv h)
  exact jh (M := [((0, 0), (0, 0)), ((1, 0), (1, 0))]) rfl (And.intro (Vw.osl _ _ _ _ rfl) (And.intro (Vw.ptr _ _ _ _ rfl) (And.intro (Vw.same _ rfl) (And.intro (Vw.same _ rfl) (And.intro (Vw.same _ rfl) (And.intro (Vw.same _ rfl) trivial)))))) (And.intro (And.intro rfl BVw.tok) (And.intro (And.intro rfl (BVw.oneL (And.intro (Vw.same _ rfl) (And.intro (Vw.same _ rfl) (And.intro (Vw.same _ rfl) trivial))))) trivial))
theorem zb5 {a0 : List G_QKey} {v6 : List G_QKey} {v7 : Int} {v14 : Int} {m : Option Nat} {o : (((List G_QKey) × Int) ⊕ (List G_QKey))} (h : qi m a0 v6 v7 v14 = some o) :
 LWp Try.prog kc 0 (.loop zbx) (yv 2 (uv Try.prog kc 0 z99 (yv 1 (uv Try.prog kc 0 z5b (wj 0 1 (Z5 a0) (Yc a0) (X7 a0) o))))) [(3, .osl (0, 0) 3 (v6.map z6)), (5, .ptr (1, 0) 0 0), (6, .int .i64 v14), (7, .isl 3 (a0.map z6) false), (8, .int .i64 ((a0.map z6).length : Int)), (9, .int .i64 v7)] [((0, 0), .tok), ((1, 0), .one [.int .i64 ((a0.getD v7.toNat default).f_Kind), .int .i64 ((a0.getD v7.toNat default).f_A), .int .i64 ((a0.getD v7.toNat default).f_B)])] 2 :=
 j0 (m := m) (s := (v14 : Int)) (r := o) (fun (s : Int) => yn m a0 v6 v7 s) (z0f a0 v6 v7) (z4g a0 v6 v7) (z8l a0) (fun s o h => zb0 h) h
noncomputable def jf (m : Option Nat) (v6 : List G_QKey) : Option (List G_QKey) :=
 some v6
noncomputable def qj (m : Option Nat) (a0 : List G_QKey) (v6 : List G_QKey) (v7 : Int) : Option (((List G_QKey) × Int) ⊕ (List G_QKey)) :=
 if (decide (v7 < ((a0.map z6).length : Int))) = true then
  if (0 : Int) ≤ v7 ∧ v7 < ((a0.map z6).length : Int) then
  qi m a0 v6 v7 0
  else none
 else
  Option.map Sum.inr (
   jf m v6)
noncomputable def xc (m : Option Nat) (a0 : List G_QKey) (v6 : List G_QKey) (v7 : Int) : Option (List G_QKey) := u5 m (fun (s : ((List G_QKey) × Int)) => qj m a0 s.1 s.2) (v6, v7)
theorem zdz {a0 : List G_QKey} {v6 : List G_QKey} {m : Option Nat} {o : (List G_QKey)} (h : jf m v6 = some o) :
 LWp Try.prog kc 0 z9a (zh9 a0 o) [(3, .osl (0, 0) 3 (v6.map z6))] [((0, 0), .tok)] 1 := by
 unfold jf at h
 refine zl ?_
 refine y8 ?_
 refine Ze ?_
 cases h
 exact And.intro trivial (And.intro rfl (Vw.oslI _ _ _))
theorem zao {a0 : List G_QKey} {v6 : List G_QKey} {v7 : Int} {m : Option Nat} {o : ((List G_QKey) × Int) ⊕ (List G_QKey)} (h : qj m a0 v6 v7 = some o) :
 LWp Try.prog kc 0 zem (wj 0 1 (Z5 a0) (Yc a0) (X7 a0) o) [(3, .osl (0, 0) 3 (v6.map z6)), (7, .isl 3 (a0.map z6) false), (8, .int .i64 ((a0.map z6).length : Int)), (9, .int .i64 v7)] [((0, 0), .tok)] 1 := by
 unfold qj at h
 refine zl ?_
 refine y8 ?_
 refine zl ?_
 refine w5 (v := (decide (v7 < ((a0.map z6).length : Int)))) rfl trivial (fun h36 => ?_) (fun h36 => ?_)
 ·have h := q7 h36 h
  refine w7 ?_
  refine zl ?_
  refine j8 ?_
  refine zl ?_
  refine y8 ?_
  obtain ⟨h37, h⟩ := y4 h
  refine And.intro h37 ?_
  refine Exists.intro (z6 (a0.getD v7.toNat default)) (And.intro (jm z6 _ _ (wx z6 h37)) (And.intro (And.intro (kw h37) (Nat.le_of_ble_eq_true rfl)) ?_))
  refine zl ?_
  refine y8 ?_
  refine zl ?_
  refine j8 ?_
  refine LWp.sim ?_ (zb5 h)
  exact jh (M := [((0, 0), (0, 0)), ((1, 0), (1, 0))]) rfl (And.intro (Vw.osl _ _ _ _ rfl) (And.intro (Vw.ptr _ _ _ _ rfl) (And.intro (Vw.same _ rfl) (And.intro (Vw.same _ rfl) (And.intro (Vw.same _ rfl) (And.intro (Vw.same _ rfl) trivial)))))) (And.intro (And.intro rfl BVw.tok) (And.intro (And.intro rfl (BVw.oneL (And.intro (Vw.same _ rfl) (And.intro (Vw.same _ rfl) (And.intro (Vw.same _ rfl) trivial))))) trivial))
 ·have h := qq h36 h
  refine Zp ?_
  obtain ⟨o, hq, rfl⟩ := Option.map_eq_some_iff.1 h
  replace h := hq; clear hq
  refine And.intro nofun ?_
  refine LWp.sim ?_ (zdz h)
  exact jh (M := [((0, 0), (0, 0))]) rfl (And.intro (Vw.osl _ _ _ _ rfl) trivial) (And.intro (And.intro rfl BVw.tok) trivial)
theorem zcw {a0 : List G_QKey} {v6 : List G_QKey} {v7 : Int} {m : Option Nat} {o : (List G_QKey)} (h : xc m a0 v6 v7 = some o) :
 LWp Try.prog kc 0 (.loop zem) (yv 0 (uv Try.prog kc 0 z9a (zh9 a0 o))) [(3, .osl (0, 0) 3 (v6.map z6)), (7, .isl 3 (a0.map z6) false), (8, .int .i64 ((a0.map z6).length : Int)), (9, .int .i64 v7)] [((0, 0), .tok)] 1 :=
 j0 (m := m) (s := ((v6, v7) : ((List G_QKey) × Int))) (r := o) (fun (s : ((List G_QKey) × Int)) => qj m a0 s.1 s.2) (Z5 a0) (Yc a0) (X7 a0) (fun s o h => zao h) h
noncomputable def x7 (m : Option Nat) (a0 : List G_QKey) : Option (List G_QKey) :=
 xc m a0 [] 0
theorem zek {a0 : List G_QKey} {m : Option Nat} {o : (List G_QKey)} (h : x7 m a0 = some o) : LWp Try.prog kc 0 zjx (zh9 a0 o) (qx 0 [.isl 3 (a0.map z6) false]) [] 0 := by
 unfold x7 at h
 refine zl ?_
 refine y8 ?_
 refine zl ?_
 refine y8 ?_
 refine zl ?_
 refine zl ?_
 refine y8 ?_
 refine j8 ?_
 refine LWp.sim ?_ (zcw h)
 exact jh (M := []) rfl (And.intro (Vw.nilO _ _ (by decide)) (And.intro (Vw.same _ rfl) (And.intro (Vw.same _ rfl) (And.intro (Vw.same _ rfl) trivial)))) (And.intro (And.intro rfl (And.intro (by decide) (by decide))) trivial)
theorem zjk {a0 : List G_QKey} {m : Option Nat} {o : (List G_QKey)} (h : x7 m a0 = some o) : PFn Try.prog 24 [.isl 3 (a0.map z6) false] (.isl 3 (o.map z6) false) := PFn.ofFnW (L := zp5) zkk zmh (Nat.le_of_ble_eq_true rfl) rfl (zek h)
def zd6 : LCode := (.seq (.region [⟨some 9, .bin .lss (.t 8) (.t 7), none⟩])
 (.seq (.cond (.t 9)
  .skip
  (.exit 0))
 (.seq (.block 1
  (.seq (.region [⟨some 10, .iaddr 6 (.t 6) (.t 8), none⟩,
   ⟨some 11, .load true 6 (.t 10), none⟩,
   ⟨some 5, .alloc [(.int .i64 0), (.int .i64 0), (.int .i64 0), (.int .i64 0), (.int .i64 0), (.int .i64 0)], none⟩,
   ⟨none, .store 6 (.t 5) (.t 11), none⟩])
  (.region [⟨some 12, .mv (.t 3), none⟩,
   ⟨some 13, .faddr 0 (.t 5), none⟩,
   ⟨some 14, .load true 3 (.t 13), none⟩,
   ⟨some 15, .faddr 3 (.t 5), none⟩,
   ⟨some 16, .load true 3 (.t 15), none⟩,
   ⟨some 17, .mkSl true 3 [(.int .i64 0), (.int .i64 0), (.int .i64 0)] 2 [(0, (.t 14)), (1, (.t 16))], none⟩,
   ⟨some 18, .app true 3 24 (.t 12) (.t 17), none⟩,
   ⟨some 3, .mv (.t 18), none⟩])))
 (.region [⟨some 19, .bin .add (.t 8) (.c (.int .i64 1)), none⟩,
  ⟨some 8, .mv (.t 19), none⟩]))))
def z7l : LCode := (.seq (.region [⟨some 20, .mv (.t 3), none⟩,
 ⟨some 21, .call 24 [(.t 20)], none⟩,
 ⟨some 2, .mv (.t 21), none⟩])
 .ret)
def zjw : LCode := (.seq (.region [⟨some 2, .mv (.c (.val (.slice none 0 0))), none⟩])
 (.seq (.region [⟨some 3, .mv (.c (.val (.slice none 0 0))), none⟩])
 (.seq (.seq (.region [⟨some 6, .mv (.t 0), none⟩,
  ⟨some 7, .len false (.t 6), none⟩,
  ⟨some 8, .mv (.c (.int .i64 0)), none⟩])
 (.block 0
  (.loop
   zd6)))
 z7l)))
def Xv : Lay := ⟨22, [], false⟩
def zbm : List LRes := [.t 2]
def zov : LFn := ⟨1, Xv, zjw, zbm⟩
theorem zms : k9 Try.prog [] 28 = some zov := by kernel_rfl
theorem zle : Y8 Try.prog 28 := ⟨_, Try.func28, rfl, rfl⟩
def zhk (a0 : List G_QEdge) (o : (List G_QKey)) : Exit → Env → AHeap → Nat → Prop := Xg zbm (wu (.isl 3 (o.map z6) false))
def z0l (a0 : List G_QEdge) (s : ((List G_QKey) × Int)) : Env := [(3, .osl (0, 0) 3 (s.1.map z6)), (6, .isl 6 (a0.map z7) false), (7, .int .i64 ((a0.map z7).length : Int)), (8, .int .i64 s.2)]
def z36 (a0 : List G_QEdge) (s : ((List G_QKey) × Int)) : AHeap := [((0, 0), .tok)]
def z7y (a0 : List G_QEdge) (o : (List G_QKey)) : Exit → Env → AHeap → Nat → Prop := (yv 0 (uv Try.prog Xv 0 z7l (zhk a0 o)))
noncomputable def jb (m : Option Nat) (v1 : List G_QKey) : Option (List G_QKey) :=
 (x7 m v1).bind fun v3 =>
 some v3
noncomputable def x8 (m : Option Nat) (a0 : List G_QEdge) (v1 : List G_QKey) (v2 : Int) : Option (((List G_QKey) × Int) ⊕ (List G_QKey)) :=
 if (decide (v2 < ((a0.map z7).length : Int))) = true then
  if (0 : Int) ≤ v2 ∧ v2 < ((a0.map z7).length : Int) then
  if ((v1 ++ ([(G_QKey.mk (((a0.getD v2.toNat default).f_From).f_Kind) (((a0.getD v2.toNat default).f_From).f_A) (((a0.getD v2.toNat default).f_From).f_B)), (G_QKey.mk (((a0.getD v2.toNat default).f_To).f_Kind) (((a0.getD v2.toNat default).f_To).f_A) (((a0.getD v2.toNat default).f_To).f_B))] : List G_QKey)).map z6).length * 24 ≤ 140737488355328 then
  some (.inl ((v1 ++ ([(G_QKey.mk (((a0.getD v2.toNat default).f_From).f_Kind) (((a0.getD v2.toNat default).f_From).f_A) (((a0.getD v2.toNat default).f_From).f_B)), (G_QKey.mk (((a0.getD v2.toNat default).f_To).f_Kind) (((a0.getD v2.toNat default).f_To).f_A) (((a0.getD v2.toNat default).f_To).f_B))] : List G_QKey)), (W (v2 + 1))))
  else none
  else none
 else
  Option.map Sum.inr (
   jb m v1)
noncomputable def ja (m : Option Nat) (a0 : List G_QEdge) (v1 : List G_QKey) (v2 : Int) : Option (List G_QKey) := u5 m (fun (s : ((List G_QKey) × Int)) => x8 m a0 s.1 s.2) (v1, v2)
theorem zfn {a0 : List G_QEdge} {v1 : List G_QKey} {m : Option Nat} {o : (List G_QKey)} (h : jb m v1 = some o) :
 LWp Try.prog Xv 0 z7l (zhk a0 o) [(3, .osl (0, 0) 3 (v1.map z6))] [((0, 0), .tok)] 1 := by
 unfold jb at h
 refine zl ?_
 refine y8 ?_
 obtain ⟨v3, h10, h⟩ := bind_some h
 refine PFn.call (zjk h10) (And.intro (Vw.oslI _ _ _) trivial) ?_
 refine Ze ?_
 cases h
 exact And.intro trivial (And.intro rfl (Vw.same _ rfl))
theorem z9x {a0 : List G_QEdge} {v1 : List G_QKey} {v2 : Int} {m : Option Nat} {o : ((List G_QKey) × Int) ⊕ (List G_QKey)} (h : x8 m a0 v1 v2 = some o) :
 LWp Try.prog Xv 0 zd6 (wj 0 1 (z0l a0) (z36 a0) (z7y a0) o) [(3, .osl (0, 0) 3 (v1.map z6)), (6, .isl 6 (a0.map z7) false), (7, .int .i64 ((a0.map z7).length : Int)), (8, .int .i64 v2)] [((0, 0), .tok)] 1 := by
 unfold x8 at h
 refine zl ?_
 refine y8 ?_
 refine zl ?_
 refine w5 (v := (decide (v2 < ((a0.map z7).length : Int)))) rfl trivial (fun h7 => ?_) (fun h7 => ?_)
 ·have h := q7 h7 h
  refine w7 ?_
  refine zl ?_
  refine j8 ?_
  refine zl ?_
  refine y8 ?_
  obtain ⟨h8, h⟩ := y4 h
  refine And.intro h8 ?_
  refine Exists.intro (z7 (a0.getD v2.toNat default)) (And.intro (jm z7 _ _ (wx z7 h8)) (And.intro (And.intro (kw h8) (Nat.le_of_ble_eq_true rfl)) ?_))
  refine y8 ?_
  obtain ⟨h9, h⟩ := y4 h
  refine Exists.intro ((v1 ++ ([(G_QKey.mk (((a0.getD v2.toNat default).f_From).f_Kind) (((a0.getD v2.toNat default).f_From).f_A) (((a0.getD v2.toNat default).f_From).f_B)), (G_QKey.mk (((a0.getD v2.toNat default).f_To).f_Kind) (((a0.getD v2.toNat default).f_To).f_A) (((a0.getD v2.toNat default).f_To).f_B))] : List G_QKey)).map z6) (And.intro (Qg z6 v1 ([(G_QKey.mk (((a0.getD v2.toNat default).f_From).f_Kind) (((a0.getD v2.toNat default).f_From).f_A) (((a0.getD v2.toNat default).f_From).f_B)), (G_QKey.mk (((a0.getD v2.toNat default).f_To).f_Kind) (((a0.getD v2.toNat default).f_To).f_A) (((a0.getD v2.toNat default).f_To).f_B))] : List G_QKey)) (And.intro h9 ?_))
  refine LWp.sim (e := [(3, .osl (0, 0) 3 ((v1 ++ ([(G_QKey.mk (((a0.getD v2.toNat default).f_From).f_Kind) (((a0.getD v2.toNat default).f_From).f_A) (((a0.getD v2.toNat default).f_From).f_B)), (G_QKey.mk (((a0.getD v2.toNat default).f_To).f_Kind) (((a0.getD v2.toNat default).f_To).f_A) (((a0.getD v2.toNat default).f_To).f_B))] : List G_QKey)).map z6)), (6, .isl 6 (a0.map z7) false), (7, .int .i64 ((a0.map z7).length : Int)), (8, .int .i64 v2)]) (L := [((0, 0), .tok)]) (n := 1) ?_ ?_
  ·exact jh (M := [((0, 0), (2, 0))]) rfl (And.intro (Vw.osl _ _ _ _ rfl) (And.intro (Vw.same _ rfl) (And.intro (Vw.same _ rfl) (And.intro (Vw.same _ rfl) trivial)))) (And.intro (And.intro rfl BVw.tok) trivial)
  refine y8 ?_
  cases h
  exact And.intro rfl (jh (M := [((0, 0), (0, 0))]) rfl (And.intro (Vw.osl _ _ _ _ rfl) (And.intro (Vw.same _ rfl) (And.intro (Vw.same _ rfl) (And.intro (Vw.same _ rfl) trivial)))) (And.intro (And.intro rfl BVw.tok) trivial))
 ·have h := qq h7 h
  refine Zp ?_
  obtain ⟨o, hq, rfl⟩ := Option.map_eq_some_iff.1 h
  replace h := hq; clear hq
  refine And.intro nofun ?_
  refine LWp.sim ?_ (zfn h)
  exact jh (M := [((0, 0), (0, 0))]) rfl (And.intro (Vw.osl _ _ _ _ rfl) trivial) (And.intro (And.intro rfl BVw.tok) trivial)
theorem zen {a0 : List G_QEdge} {v1 : List G_QKey} {v2 : Int} {m : Option Nat} {o : (List G_QKey)} (h : ja m a0 v1 v2 = some o) :
 LWp Try.prog Xv 0 (.loop zd6) (yv 0 (uv Try.prog Xv 0 z7l (zhk a0 o))) [(3, .osl (0, 0) 3 (v1.map z6)), (6, .isl 6 (a0.map z7) false), (7, .int .i64 ((a0.map z7).length : Int)), (8, .int .i64 v2)] [((0, 0), .tok)] 1 :=
 j0 (m := m) (s := ((v1, v2) : ((List G_QKey) × Int))) (r := o) (fun (s : ((List G_QKey) × Int)) => x8 m a0 s.1 s.2) (z0l a0) (z36 a0) (z7y a0) (fun s o h => z9x h) h
noncomputable def xg (m : Option Nat) (a0 : List G_QEdge) : Option (List G_QKey) :=
 ja m a0 [] 0
theorem zbu {a0 : List G_QEdge} {m : Option Nat} {o : (List G_QKey)} (h : xg m a0 = some o) : LWp Try.prog Xv 0 zjw (zhk a0 o) (qx 0 [.isl 6 (a0.map z7) false]) [] 0 := by
 unfold xg at h
 refine zl ?_
 refine y8 ?_
 refine zl ?_
 refine y8 ?_
 refine zl ?_
 refine zl ?_
 refine y8 ?_
 refine j8 ?_
 refine LWp.sim ?_ (zen h)
 exact jh (M := []) rfl (And.intro (Vw.nilO _ _ (by decide)) (And.intro (Vw.same _ rfl) (And.intro (Vw.same _ rfl) (And.intro (Vw.same _ rfl) trivial)))) (And.intro (And.intro rfl (And.intro (by decide) (by decide))) trivial)
theorem zjp {a0 : List G_QEdge} {m : Option Nat} {o : (List G_QKey)} (h : xg m a0 = some o) : PFn Try.prog 28 [.isl 6 (a0.map z7) false] (.isl 3 (o.map z6) false) := PFn.ofFnW (L := zov) zms zle (Nat.le_of_ble_eq_true rfl) rfl (zbu h)
def zcv : LCode := (.seq (.region [⟨some 10, .bin .lss (.t 9) (.t 8), none⟩])
 (.seq (.cond (.t 10)
  .skip
  (.exit 0))
 (.seq (.block 1
  (.seq (.region [⟨some 11, .mv (.t 9), none⟩,
   ⟨some 12, .iaddr 3 (.t 7) (.t 9), none⟩,
   ⟨some 13, .load true 3 (.t 12), none⟩,
   ⟨some 6, .alloc [(.int .i64 0), (.int .i64 0), (.int .i64 0)], none⟩,
   ⟨some 5, .mv (.t 11), none⟩,
   ⟨none, .store 3 (.t 6) (.t 13), none⟩])
  (.seq (.region [⟨some 14, .load true 3 (.t 3), none⟩,
   ⟨some 15, .load true 3 (.t 6), none⟩,
   ⟨some 16, .eq false (.agg [.int, .int, .int]) (.t 14) (.t 15), none⟩])
  (.cond (.t 16)
   (.seq (.region [⟨some 17, .mv (.t 5), none⟩,
    ⟨some 4, .mv (.t 17), none⟩])
   .ret)
   .skip))))
 (.region [⟨some 18, .bin .add (.t 9) (.c (.int .i64 1)), none⟩,
  ⟨some 9, .mv (.t 18), none⟩]))))
def z83 : LCode := (.seq (.region [⟨some 4, .mv (.c (.int .i64 (-1))), none⟩])
 .ret)
def zke : LCode := (.seq (.region [⟨some 3, .box (.t 1), none⟩,
 ⟨some 4, .mv (.c (.int .i64 0)), none⟩])
 (.seq (.seq (.region [⟨some 7, .mv (.t 0), none⟩,
  ⟨some 8, .len false (.t 7), none⟩,
  ⟨some 9, .mv (.c (.int .i64 0)), none⟩])
 (.block 0
  (.loop
   zcv)))
 z83))
def J2 : Lay := ⟨19, [], false⟩
def ze5 : List LRes := [.t 4]
def znn : LFn := ⟨2, J2, zke, ze5⟩
theorem zmb : k9 Try.prog [] 40 = some znn := by kernel_rfl
theorem zmz : Y8 Try.prog 40 := ⟨_, Try.func40, rfl, rfl⟩
def zhw (a0 : List G_QKey) (a1 : G_QKey) (o : Int) : Exit → Env → AHeap → Nat → Prop := Xg ze5 (wu (.int .i64 o))
def z0n (a0 : List G_QKey) (a1 : G_QKey) (s : Int) : Env := [(3, .ptr (0, 0) 0 0), (7, .isl 3 (a0.map z6) false), (8, .int .i64 ((a0.map z6).length : Int)), (9, .int .i64 s)]
def z3t (a0 : List G_QKey) (a1 : G_QKey) (s : Int) : AHeap := [((0, 0), .one [.int .i64 a1.f_Kind, .int .i64 a1.f_A, .int .i64 a1.f_B])]
def z9b (a0 : List G_QKey) (a1 : G_QKey) (o : Int) : Exit → Env → AHeap → Nat → Prop := (yv 0 (uv Try.prog J2 0 z83 (zhw a0 a1 o)))
noncomputable def x5 (m : Option Nat) : Option Int :=
 some (-1)
noncomputable def zu (m : Option Nat) (a0 : List G_QKey) (a1 : G_QKey) (v1 : Int) : Option (Int ⊕ Int) :=
 if (decide (v1 < ((a0.map z6).length : Int))) = true then
  if (0 : Int) ≤ v1 ∧ v1 < ((a0.map z6).length : Int) then
  if ((a1.f_Kind == (a0.getD v1.toNat default).f_Kind) && ((a1.f_A == (a0.getD v1.toNat default).f_A) && ((a1.f_B == (a0.getD v1.toNat default).f_B) && true))) = true then
   Option.map Sum.inr (
    some v1)
  else
   some (.inl (W (v1 + 1)))
  else none
 else
  Option.map Sum.inr (
   x5 m)
noncomputable def ya (m : Option Nat) (a0 : List G_QKey) (a1 : G_QKey) (v1 : Int) : Option Int := u5 m (fun (s : Int) => zu m a0 a1 s) v1
theorem zb9 {a0 : List G_QKey} {a1 : G_QKey} {m : Option Nat} {o : Int} (h : x5 m = some o) :
 LWp Try.prog J2 0 z83 (zhw a0 a1 o) [] [] 0 := by
 unfold x5 at h
 refine zl ?_
 refine y8 ?_
 refine Ze ?_
 cases h
 exact And.intro trivial (And.intro rfl (Vw.same _ rfl))
theorem zaq {a0 : List G_QKey} {a1 : G_QKey} {v1 : Int} {m : Option Nat} {o : Int ⊕ Int} (h : zu m a0 a1 v1 = some o) :
 LWp Try.prog J2 0 zcv (wj 0 1 (z0n a0 a1) (z3t a0 a1) (z9b a0 a1) o) [(3, .ptr (0, 0) 0 0), (7, .isl 3 (a0.map z6) false), (8, .int .i64 ((a0.map z6).length : Int)), (9, .int .i64 v1)] [((0, 0), .one [.int .i64 a1.f_Kind, .int .i64 a1.f_A, .int .i64 a1.f_B])] 1 := by
 unfold zu at h
 refine zl ?_
 refine y8 ?_
 refine zl ?_
 refine w5 (v := (decide (v1 < ((a0.map z6).length : Int)))) rfl trivial (fun h7 => ?_) (fun h7 => ?_)
 ·have h := q7 h7 h
  refine w7 ?_
  refine zl ?_
  refine j8 ?_
  refine zl ?_
  refine y8 ?_
  obtain ⟨h8, h⟩ := y4 h
  refine And.intro h8 ?_
  refine Exists.intro (z6 (a0.getD v1.toNat default)) (And.intro (jm z6 _ _ (wx z6 h8)) (And.intro (And.intro (kw h8) (Nat.le_of_ble_eq_true rfl)) ?_))
  refine zl ?_
  refine y8 ?_
  refine LWp.sim (e := [(3, .ptr (0, 0) 0 0), (5, .int .i64 v1), (7, .isl 3 (a0.map z6) false), (8, .int .i64 ((a0.map z6).length : Int)), (9, .int .i64 v1), (16, .bool ((a1.f_Kind == (a0.getD v1.toNat default).f_Kind) && ((a1.f_A == (a0.getD v1.toNat default).f_A) && ((a1.f_B == (a0.getD v1.toNat default).f_B) && true))))]) (L := [((0, 0), .one [.int .i64 a1.f_Kind, .int .i64 a1.f_A, .int .i64 a1.f_B])]) (n := 1) ?_ ?_
  ·exact jh (M := [((0, 0), (0, 0))]) rfl (And.intro (Vw.ptr _ _ _ _ rfl) (And.intro (Vw.same _ rfl) (And.intro (Vw.same _ rfl) (And.intro (Vw.same _ rfl) (And.intro (Vw.same _ rfl) (And.intro (Vw.same _ rfl) trivial)))))) (And.intro (And.intro rfl (BVw.oneL (And.intro (Vw.same _ rfl) (And.intro (Vw.same _ rfl) (And.intro (Vw.same _ rfl) trivial))))) trivial)
  refine w5 (v := ((a1.f_Kind == (a0.getD v1.toNat default).f_Kind) && ((a1.f_A == (a0.getD v1.toNat default).f_A) && ((a1.f_B == (a0.getD v1.toNat default).f_B) && true)))) rfl trivial (fun h9 => ?_) (fun h9 => ?_)
  ·have h := q7 h9 h
   refine zl ?_
   refine y8 ?_
   refine Ze ?_
   obtain ⟨o, hq, rfl⟩ := Option.map_eq_some_iff.1 h
   replace h := hq; clear hq
   refine And.intro nofun ?_
   cases h
   exact And.intro trivial (And.intro rfl (Vw.same _ rfl))
  ·have h := qq h9 h
   refine w7 ?_
   refine y8 ?_
   cases h
   exact And.intro rfl (jh (M := [((0, 0), (0, 0))]) rfl (And.intro (Vw.ptr _ _ _ _ rfl) (And.intro (Vw.same _ rfl) (And.intro (Vw.same _ rfl) (And.intro (Vw.same _ rfl) trivial)))) (And.intro (And.intro rfl (BVw.oneL (And.intro (Vw.same _ rfl) (And.intro (Vw.same _ rfl) (And.intro (Vw.same _ rfl) trivial))))) trivial))
 ·have h := qq h7 h
  refine Zp ?_
  obtain ⟨o, hq, rfl⟩ := Option.map_eq_some_iff.1 h
  replace h := hq; clear hq
  refine And.intro nofun ?_
  refine LWp.sim ?_ (zb9 h)
  exact jh (M := []) rfl trivial trivial
theorem zcs {a0 : List G_QKey} {a1 : G_QKey} {v1 : Int} {m : Option Nat} {o : Int} (h : ya m a0 a1 v1 = some o) :
 LWp Try.prog J2 0 (.loop zcv) (yv 0 (uv Try.prog J2 0 z83 (zhw a0 a1 o))) [(3, .ptr (0, 0) 0 0), (7, .isl 3 (a0.map z6) false), (8, .int .i64 ((a0.map z6).length : Int)), (9, .int .i64 v1)] [((0, 0), .one [.int .i64 a1.f_Kind, .int .i64 a1.f_A, .int .i64 a1.f_B])] 1 :=
 j0 (m := m) (s := (v1 : Int)) (r := o) (fun (s : Int) => zu m a0 a1 s) (z0n a0 a1) (z3t a0 a1) (z9b a0 a1) (fun s o h => zaq h) h
noncomputable def qm (m : Option Nat) (a0 : List G_QKey) (a1 : G_QKey) : Option Int :=
 ya m a0 a1 0
theorem zga {a0 : List G_QKey} {a1 : G_QKey} {m : Option Nat} {o : Int} (h : qm m a0 a1 = some o) : LWp Try.prog J2 0 zke (zhw a0 a1 o) (qx 0 [.isl 3 (a0.map z6) false, .agg [.int .i64 a1.f_Kind, .int .i64 a1.f_A, .int .i64 a1.f_B]]) [] 0 := by
 unfold qm at h
 refine zl ?_
 refine y8 ?_
 refine zl ?_
 refine zl ?_
 refine y8 ?_
 refine j8 ?_
 refine LWp.sim ?_ (zcs h)
 exact jh (M := [((0, 0), (0, 0))]) rfl (And.intro (Vw.ptr _ _ _ _ rfl) (And.intro (Vw.same _ rfl) (And.intro (Vw.same _ rfl) (And.intro (Vw.same _ rfl) trivial)))) (And.intro (And.intro rfl (BVw.oneL (And.intro (Vw.same _ rfl) (And.intro (Vw.same _ rfl) (And.intro (Vw.same _ rfl) trivial))))) trivial)
theorem znf {a0 : List G_QKey} {a1 : G_QKey} {m : Option Nat} {o : Int} (h : qm m a0 a1 = some o) : PFn Try.prog 40 [.isl 3 (a0.map z6) false, .agg [.int .i64 a1.f_Kind, .int .i64 a1.f_A, .int .i64 a1.f_B]] (.int .i64 o) := PFn.ofFnW (L := znn) zmb zmz (Nat.le_of_ble_eq_true rfl) rfl (zga h)
def zkc : LCode := (.seq (.region [⟨some 3, .box (.t 1), none⟩,
 ⟨some 4, .mv (.c (.bool false)), none⟩])
 (.seq (.region [⟨some 5, .mv (.t 0), none⟩,
  ⟨some 6, .load true 3 (.t 3), none⟩,
  ⟨some 7, .call 40 [(.t 5), (.t 6)], none⟩,
  ⟨some 8, .bin .geq (.t 7) (.c (.int .i64 0)), none⟩,
  ⟨some 4, .mv (.t 8), none⟩])
 .ret))
def zbh : Lay := ⟨9, [], false⟩
def zds : List LRes := [.t 4]
def zod : LFn := ⟨2, zbh, zkc, zds⟩
theorem zmf : k9 Try.prog [] 23 = some zod := by kernel_rfl
theorem zm8 : Y8 Try.prog 23 := ⟨_, Try.func23, rfl, rfl⟩
noncomputable def zm (m : Option Nat) (a0 : List G_QKey) (a1 : G_QKey) : Option Bool :=
 (qm m a0 a1).bind fun v1 =>
 some (decide (v1 ≥ 0))
def zpu (a0 : List G_QKey) (a1 : G_QKey) (o : Bool) : Exit → Env → AHeap → Nat → Prop := Xg zds (wu (.bool o))
theorem zbp {a0 : List G_QKey} {a1 : G_QKey} {m : Option Nat} {o : Bool} (h : zm m a0 a1 = some o) : LWp Try.prog zbh 0 zkc (zpu a0 a1 o) (qx 0 [.isl 3 (a0.map z6) false, .agg [.int .i64 a1.f_Kind, .int .i64 a1.f_A, .int .i64 a1.f_B]]) [] 0 := by
 unfold zm at h
 refine zl ?_
 refine y8 ?_
 refine zl ?_
 refine y8 ?_
 obtain ⟨v1, h1, h⟩ := bind_some h
 refine PFn.call (znf h1) (And.intro (Vw.same _ rfl) (And.intro (Vw.same _ rfl) trivial)) ?_
 show Q5 _ _ _ [(7, .int .i64 v1), (6, .agg [.int .i64 a1.f_Kind, .int .i64 a1.f_A, .int .i64 a1.f_B]), (5, .isl 3 (a0.map z6) false), (4, .bool false), (3, .ptr (0, 0) 0 0), (0, .isl 3 (a0.map z6) false), (1, .agg [.int .i64 a1.f_Kind, .int .i64 a1.f_A, .int .i64 a1.f_B])] _ _
 refine Ze ?_
 cases h
 exact And.intro trivial (And.intro rfl (Vw.same _ rfl))
theorem zbc {a0 : List G_QKey} {a1 : G_QKey} {m : Option Nat} {o : Bool} (h : zm m a0 a1 = some o) : PFn Try.prog 23 [.isl 3 (a0.map z6) false, .agg [.int .i64 a1.f_Kind, .int .i64 a1.f_A, .int .i64 a1.f_B]] (.bool o) := PFn.ofFnW (L := zod) zmf zm8 (Nat.le_of_ble_eq_true rfl) rfl (zbp h)
def zjf : LCode := (.region [⟨some 38, .bin .add (.t 12) (.c (.int .i64 1)), none⟩,
 ⟨some 12, .mv (.t 38), none⟩])
def zbk : LCode := (.seq (.region [⟨some 13, .bin .lss (.t 12) (.t 11), none⟩])
 (.seq (.cond (.t 13)
  .skip
  (.exit 2))
 (.seq (.block 3
  (.seq (.region [⟨some 14, .iaddr 6 (.t 10) (.t 12), none⟩,
   ⟨some 15, .load true 6 (.t 14), none⟩,
   ⟨some 8, .alloc [(.int .i64 0), (.int .i64 0), (.int .i64 0), (.int .i64 0), (.int .i64 0), (.int .i64 0)], none⟩,
   ⟨none, .store 6 (.t 8) (.t 15), none⟩])
  (.seq (.region [⟨some 16, .faddr 0 (.t 8), none⟩,
   ⟨some 17, .load true 3 (.t 16), none⟩,
   ⟨some 18, .load true 3 (.t 3), none⟩,
   ⟨some 19, .eq false (.agg [.int, .int, .int]) (.t 17) (.t 18), none⟩,
   ⟨some 20, .mv (.t 19), none⟩,
   ⟨some 21, .mv (.t 5), some (20, false)⟩,
   ⟨some 22, .faddr 0 (.t 8), some (20, false)⟩,
   ⟨some 23, .load true 3 (.t 22), some (20, false)⟩,
   ⟨some 24, .call 23 [(.t 21), (.t 23)], some (20, false)⟩,
   ⟨some 25, .pick (.t 20) (.c (.bool true)) (.t 24), none⟩,
   ⟨some 26, .mv (.t 25), none⟩,
   ⟨some 27, .mv (.t 5), some (26, true)⟩,
   ⟨some 28, .faddr 3 (.t 8), some (26, true)⟩,
   ⟨some 29, .load true 3 (.t 28), some (26, true)⟩,
   ⟨some 30, .call 23 [(.t 27), (.t 29)], some (26, true)⟩,
   ⟨some 31, .un .not (.t 30), some (26, true)⟩,
   ⟨some 32, .pick (.t 26) (.t 31) (.c (.bool false)), none⟩])
  (.cond (.t 32)
   (.seq (.region [⟨some 33, .mv (.t 5), none⟩,
    ⟨some 34, .faddr 3 (.t 8), none⟩,
    ⟨some 35, .load true 3 (.t 34), none⟩,
    ⟨some 36, .mkSl true 3 [(.int .i64 0), (.int .i64 0), (.int .i64 0)] 1 [(0, (.t 35))], none⟩,
    ⟨some 37, .app true 3 24 (.t 33) (.t 36), none⟩,
    ⟨some 5, .mv (.t 37), none⟩])
   (.region [⟨some 6, .mv (.c (.bool true)), none⟩]))
   .skip))))
 zjf)))
def zbe : LCode := (.seq (.seq (.region [⟨some 9, .mv (.t 6), none⟩])
 (.cond (.t 9)
  .skip
  (.exit 0)))
 (.block 1
  (.seq (.region [⟨some 6, .mv (.c (.bool false)), none⟩])
  (.seq (.region [⟨some 10, .mv (.t 0), none⟩,
   ⟨some 11, .len false (.t 10), none⟩,
   ⟨some 12, .mv (.c (.int .i64 0)), none⟩])
  (.block 2
   (.loop
    zbk))))))
def z8q : LCode := (.seq (.region [⟨some 39, .mv (.t 5), none⟩,
 ⟨some 40, .call 24 [(.t 39)], none⟩,
 ⟨some 4, .mv (.t 40), none⟩])
 .ret)
def zjs : LCode := (.seq (.region [⟨some 3, .box (.t 1), none⟩,
 ⟨some 4, .mv (.c (.val (.slice none 0 0))), none⟩])
 (.seq (.region [⟨some 5, .mv (.c (.val (.slice none 0 0))), none⟩])
 (.seq (.seq (.region [⟨some 6, .mv (.c (.bool true)), none⟩])
 (.block 0
  (.loop
   zbe)))
 z8q)))
def Y1 : Lay := ⟨41, [], false⟩
def zg1 : List LRes := [.t 4]
def znz : LFn := ⟨2, Y1, zjs, zg1⟩
theorem zl7 : k9 Try.prog [] 10 = some znz := by kernel_rfl
theorem zkr : Y8 Try.prog 10 := ⟨_, Try.func10, rfl, rfl⟩
def zhg (a0 : List G_QEdge) (a1 : G_QKey) (o : (List G_QKey)) : Exit → Env → AHeap → Nat → Prop := Xg zg1 (wu (.isl 3 (o.map z6) false))
def Qw (a0 : List G_QEdge) (a1 : G_QKey) (s : ((List G_QKey) × Bool)) : Env := [(0, .isl 6 (a0.map z7) false), (3, .ptr (0, 0) 0 0), (5, .osl (1, 0) 3 (s.1.map z6)), (6, .bool s.2)]
def J9 (a0 : List G_QEdge) (a1 : G_QKey) (s : ((List G_QKey) × Bool)) : AHeap := [((0, 0), .one [.int .i64 a1.f_Kind, .int .i64 a1.f_A, .int .i64 a1.f_B]), ((1, 0), .tok)]
def V8 (a0 : List G_QEdge) (a1 : G_QKey) (o : (List G_QKey)) : Exit → Env → AHeap → Nat → Prop := (yv 0 (uv Try.prog Y1 0 z8q (zhg a0 a1 o)))
def Wj (a0 : List G_QEdge) (a1 : G_QKey) (s : ((List G_QKey) × Bool × Int)) : Env := [(0, .isl 6 (a0.map z7) false), (3, .ptr (0, 0) 0 0), (5, .osl (1, 0) 3 (s.1.map z6)), (6, .bool s.2.1), (10, .isl 6 (a0.map z7) false), (11, .int .i64 ((a0.map z7).length : Int)), (12, .int .i64 s.2.2)]
def Vu (a0 : List G_QEdge) (a1 : G_QKey) (s : ((List G_QKey) × Bool × Int)) : AHeap := [((0, 0), .one [.int .i64 a1.f_Kind, .int .i64 a1.f_A, .int .i64 a1.f_B]), ((1, 0), .tok)]
def z1v (a0 : List G_QEdge) (a1 : G_QKey) (o : (((List G_QKey) × Bool) ⊕ (List G_QKey))) : Exit → Env → AHeap → Nat → Prop := (yv 2 (yv 1 (wj 0 2 (Qw a0 a1) (J9 a0 a1) (V8 a0 a1) o)))
noncomputable def x6 (m : Option Nat) (a0 : List G_QEdge) (a1 : G_QKey) (v39 : Int) (v46 : List G_QKey) (v47 : Bool) : Option (((List G_QKey) × Bool × Int) ⊕ (((List G_QKey) × Bool) ⊕ (List G_QKey))) :=
 some (.inl (v46, v47, (W (v39 + 1))))
theorem z4r {a0 : List G_QEdge} {a1 : G_QKey} {v39 : Int} {v46 : List G_QKey} {v47 : Bool} {m : Option Nat} {o : (((List G_QKey) × Bool × Int) ⊕ (((List G_QKey) × Bool) ⊕ (List G_QKey)))} (h : x6 m a0 a1 v39 v46 v47 = some o) :
 LWp Try.prog Y1 0 zjf (wj 0 2 (Wj a0 a1) (Vu a0 a1) (z1v a0 a1) o) [(0, .isl 6 (a0.map z7) false), (3, .ptr (0, 0) 0 0), (5, .osl (1, 0) 3 (v46.map z6)), (6, .bool v47), (10, .isl 6 (a0.map z7) false), (11, .int .i64 ((a0.map z7).length : Int)), (12, .int .i64 v39)] [((0, 0), .one [.int .i64 a1.f_Kind, .int .i64 a1.f_A, .int .i64 a1.f_B]), ((1, 0), .tok)] 2 := by
 unfold x6 at h
 refine y8 ?_
 cases h
 exact And.intro rfl (jh (M := [((0, 0), (0, 0)), ((1, 0), (1, 0))]) rfl (And.intro (Vw.same _ rfl) (And.intro (Vw.ptr _ _ _ _ rfl) (And.intro (Vw.osl _ _ _ _ rfl) (And.intro (Vw.same _ rfl) (And.intro (Vw.same _ rfl) (And.intro (Vw.same _ rfl) (And.intro (Vw.same _ rfl) trivial))))))) (And.intro (And.intro rfl (BVw.oneL (And.intro (Vw.same _ rfl) (And.intro (Vw.same _ rfl) (And.intro (Vw.same _ rfl) trivial))))) (And.intro (And.intro rfl BVw.tok) trivial)))
noncomputable def yl (m : Option Nat) (a0 : List G_QEdge) (a1 : G_QKey) (v37 : List G_QKey) (v38 : Bool) (v39 : Int) : Option (((List G_QKey) × Bool × Int) ⊕ (((List G_QKey) × Bool) ⊕ (List G_QKey))) :=
 if (decide (v39 < ((a0.map z7).length : Int))) = true then
  if (0 : Int) ≤ v39 ∧ v39 < ((a0.map z7).length : Int) then
  (if (((((a0.getD v39.toNat default).f_From).f_Kind == a1.f_Kind) && ((((a0.getD v39.toNat default).f_From).f_A == a1.f_A) && ((((a0.getD v39.toNat default).f_From).f_B == a1.f_B) && true))) == false) = true then zm m v37 (G_QKey.mk (((a0.getD v39.toNat default).f_From).f_Kind) (((a0.getD v39.toNat default).f_From).f_A) (((a0.getD v39.toNat default).f_From).f_B)) else some default).bind fun v44 =>
  (if ((((((a0.getD v39.toNat default).f_From).f_Kind == a1.f_Kind) && ((((a0.getD v39.toNat default).f_From).f_A == a1.f_A) && ((((a0.getD v39.toNat default).f_From).f_B == a1.f_B) && true))) || v44) == true) = true then zm m v37 (G_QKey.mk (((a0.getD v39.toNat default).f_To).f_Kind) (((a0.getD v39.toNat default).f_To).f_A) (((a0.getD v39.toNat default).f_To).f_B)) else some default).bind fun v45 =>
  if ((((((a0.getD v39.toNat default).f_From).f_Kind == a1.f_Kind) && ((((a0.getD v39.toNat default).f_From).f_A == a1.f_A) && ((((a0.getD v39.toNat default).f_From).f_B == a1.f_B) && true))) || v44) && (!v45)) = true then
   if ((v37 ++ ([(G_QKey.mk (((a0.getD v39.toNat default).f_To).f_Kind) (((a0.getD v39.toNat default).f_To).f_A) (((a0.getD v39.toNat default).f_To).f_B))] : List G_QKey)).map z6).length * 24 ≤ 140737488355328 then
   x6 m a0 a1 v39 (v37 ++ ([(G_QKey.mk (((a0.getD v39.toNat default).f_To).f_Kind) (((a0.getD v39.toNat default).f_To).f_A) (((a0.getD v39.toNat default).f_To).f_B))] : List G_QKey)) true
   else none
  else
   x6 m a0 a1 v39 v37 v38
  else none
 else
  Option.map Sum.inr (
   some (.inl (v37, v38)))
noncomputable def qd (m : Option Nat) (a0 : List G_QEdge) (a1 : G_QKey) (v37 : List G_QKey) (v38 : Bool) (v39 : Int) : Option (((List G_QKey) × Bool) ⊕ (List G_QKey)) := u5 m (fun (s : ((List G_QKey) × Bool × Int)) => yl m a0 a1 s.1 s.2.1 s.2.2) (v37, v38, v39)
theorem zaf {a0 : List G_QEdge} {a1 : G_QKey} {v37 : List G_QKey} {v38 : Bool} {v39 : Int} {m : Option Nat} {o : ((List G_QKey) × Bool × Int) ⊕ (((List G_QKey) × Bool) ⊕ (List G_QKey))} (h : yl m a0 a1 v37 v38 v39 = some o) :
 LWp Try.prog Y1 0 zbk (wj 0 2 (Wj a0 a1) (Vu a0 a1) (z1v a0 a1) o) [(0, .isl 6 (a0.map z7) false), (3, .ptr (0, 0) 0 0), (5, .osl (1, 0) 3 (v37.map z6)), (6, .bool v38), (10, .isl 6 (a0.map z7) false), (11, .int .i64 ((a0.map z7).length : Int)), (12, .int .i64 v39)] [((0, 0), .one [.int .i64 a1.f_Kind, .int .i64 a1.f_A, .int .i64 a1.f_B]), ((1, 0), .tok)] 2 := by
 unfold yl at h
 refine zl ?_
 refine y8 ?_
 refine zl ?_
 refine w5 (v := (decide (v39 < ((a0.map z7).length : Int)))) rfl trivial (fun h51 => ?_) (fun h51 => ?_)
 ·have h := q7 h51 h
  refine w7 ?_
  refine zl ?_
  refine j8 ?_
  refine zl ?_
  refine y8 ?_
  obtain ⟨h52, h⟩ := y4 h
  refine And.intro h52 ?_
  refine Exists.intro (z7 (a0.getD v39.toNat default)) (And.intro (jm z7 _ _ (wx z7 h52)) (And.intro (And.intro (kw h52) (Nat.le_of_ble_eq_true rfl)) ?_))
  refine zl ?_
  refine y8 ?_
  refine And.intro (fun hp => hp) ?_
  show Q5 _ _ _ [(23, .cnd (((((a0.getD v39.toNat default).f_From).f_Kind == a1.f_Kind) && ((((a0.getD v39.toNat default).f_From).f_A == a1.f_A) && ((((a0.getD v39.toNat default).f_From).f_B == a1.f_B) && true))) == false) (.agg [.int .i64 (((a0.getD v39.toNat default).f_From).f_Kind), .int .i64 (((a0.getD v39.toNat default).f_From).f_A), .int .i64 (((a0.getD v39.toNat default).f_From).f_B)])), (22, .cnd (((((a0.getD v39.toNat default).f_From).f_Kind == a1.f_Kind) && ((((a0.getD v39.toNat default).f_From).f_A == a1.f_A) && ((((a0.getD v39.toNat default).f_From).f_B == a1.f_B) && true))) == false) (.ptr (2, 0) 0 0)), (21, .cnd (((((a0.getD v39.toNat default).f_From).f_Kind == a1.f_Kind) && ((((a0.getD v39.toNat default).f_From).f_A == a1.f_A) && ((((a0.getD v39.toNat default).f_From).f_B == a1.f_B) && true))) == false) (.osl (1, 0) 3 (v37.map z6))), (20, .bool ((((a0.getD v39.toNat default).f_From).f_Kind == a1.f_Kind) && ((((a0.getD v39.toNat default).f_From).f_A == a1.f_A) && ((((a0.getD v39.toNat default).f_From).f_B == a1.f_B) && true)))), (19, .bool ((((a0.getD v39.toNat default).f_From).f_Kind == a1.f_Kind) && ((((a0.getD v39.toNat default).f_From).f_A == a1.f_A) && ((((a0.getD v39.toNat default).f_From).f_B == a1.f_B) && true)))), (18, .agg [.int .i64 a1.f_Kind, .int .i64 a1.f_A, .int .i64 a1.f_B]), (17, .agg [.int .i64 (((a0.getD v39.toNat default).f_From).f_Kind), .int .i64 (((a0.getD v39.toNat default).f_From).f_A), .int .i64 (((a0.getD v39.toNat default).f_From).f_B)]), (16, .ptr (2, 0) 0 0), (8, .ptr (2, 0) 0 0), (15, .agg [.int .i64 (((a0.getD v39.toNat default).f_From).f_Kind), .int .i64 (((a0.getD v39.toNat default).f_From).f_A), .int .i64 (((a0.getD v39.toNat default).f_From).f_B), .int .i64 (((a0.getD v39.toNat default).f_To).f_Kind), .int .i64 (((a0.getD v39.toNat default).f_To).f_A), .int .i64 (((a0.getD v39.toNat default).f_To).f_B)]), (14, .iptr 6 (a0.map z7) v39.toNat 0), (13, .bool (decide (v39 < ((a0.map z7).length : Int)))), (0, .isl 6 (a0.map z7) false), (3, .ptr (0, 0) 0 0), (5, .osl (1, 0) 3 (v37.map z6)), (6, .bool v38), (10, .isl 6 (a0.map z7) false), (11, .int .i64 ((a0.map z7).length : Int)), (12, .int .i64 v39)] _ _
  obtain ⟨v44, h53, h⟩ := bind_some h
  refine Or.inl (Exists.intro (.bool v44) (And.intro (fun hp => And.intro (And.intro hp hp) (PFn.call (zbc (q7 hp h53)) (And.intro (Vw.oslI _ _ _) (And.intro (Vw.same _ rfl) trivial)) (And.intro rfl (And.intro rfl rfl)))) ?_))
  refine And.intro (fun hc => (bqf hc)) ?_
  refine And.intro (fun hp => hp) ?_
  show Q5 _ _ _ [(29, .cnd ((((((a0.getD v39.toNat default).f_From).f_Kind == a1.f_Kind) && ((((a0.getD v39.toNat default).f_From).f_A == a1.f_A) && ((((a0.getD v39.toNat default).f_From).f_B == a1.f_B) && true))) || v44) == true) (.agg [.int .i64 (((a0.getD v39.toNat default).f_To).f_Kind), .int .i64 (((a0.getD v39.toNat default).f_To).f_A), .int .i64 (((a0.getD v39.toNat default).f_To).f_B)])), (28, .cnd ((((((a0.getD v39.toNat default).f_From).f_Kind == a1.f_Kind) && ((((a0.getD v39.toNat default).f_From).f_A == a1.f_A) && ((((a0.getD v39.toNat default).f_From).f_B == a1.f_B) && true))) || v44) == true) (.ptr (2, 0) 0 3)), (27, .cnd ((((((a0.getD v39.toNat default).f_From).f_Kind == a1.f_Kind) && ((((a0.getD v39.toNat default).f_From).f_A == a1.f_A) && ((((a0.getD v39.toNat default).f_From).f_B == a1.f_B) && true))) || v44) == true) (.osl (1, 0) 3 (v37.map z6))), (26, .bool (((((a0.getD v39.toNat default).f_From).f_Kind == a1.f_Kind) && ((((a0.getD v39.toNat default).f_From).f_A == a1.f_A) && ((((a0.getD v39.toNat default).f_From).f_B == a1.f_B) && true))) || v44)), (25, .bool (((((a0.getD v39.toNat default).f_From).f_Kind == a1.f_Kind) && ((((a0.getD v39.toNat default).f_From).f_A == a1.f_A) && ((((a0.getD v39.toNat default).f_From).f_B == a1.f_B) && true))) || v44)), (24, .cnd (((((a0.getD v39.toNat default).f_From).f_Kind == a1.f_Kind) && ((((a0.getD v39.toNat default).f_From).f_A == a1.f_A) && ((((a0.getD v39.toNat default).f_From).f_B == a1.f_B) && true))) == false) (.bool v44)), (23, .cnd (((((a0.getD v39.toNat default).f_From).f_Kind == a1.f_Kind) && ((((a0.getD v39.toNat default).f_From).f_A == a1.f_A) && ((((a0.getD v39.toNat default).f_From).f_B == a1.f_B) && true))) == false) (.agg [.int .i64 (((a0.getD v39.toNat default).f_From).f_Kind), .int .i64 (((a0.getD v39.toNat default).f_From).f_A), .int .i64 (((a0.getD v39.toNat default).f_From).f_B)])), (22, .cnd (((((a0.getD v39.toNat default).f_From).f_Kind == a1.f_Kind) && ((((a0.getD v39.toNat default).f_From).f_A == a1.f_A) && ((((a0.getD v39.toNat default).f_From).f_B == a1.f_B) && true))) == false) (.ptr (2, 0) 0 0)), (21, .cnd (((((a0.getD v39.toNat default).f_From).f_Kind == a1.f_Kind) && ((((a0.getD v39.toNat default).f_From).f_A == a1.f_A) && ((((a0.getD v39.toNat default).f_From).f_B == a1.f_B) && true))) == false) (.osl (1, 0) 3 (v37.map z6))), (20, .bool ((((a0.getD v39.toNat default).f_From).f_Kind == a1.f_Kind) && ((((a0.getD v39.toNat default).f_From).f_A == a1.f_A) && ((((a0.getD v39.toNat default).f_From).f_B == a1.f_B) && true)))), (19, .bool ((((a0.getD v39.toNat default).f_From).f_Kind == a1.f_Kind) && ((((a0.getD v39.toNat default).f_From).f_A == a1.f_A) && ((((a0.getD v39.toNat default).f_From).f_B == a1.f_B) && true)))), (18, .agg [.int .i64 a1.f_Kind, .int .i64 a1.f_A, .int .i64 a1.f_B]), (17, .agg [.int .i64 (((a0.getD v39.toNat default).f_From).f_Kind), .int .i64 (((a0.getD v39.toNat default).f_From).f_A), .int .i64 (((a0.getD v39.toNat default).f_From).f_B)]), (16, .ptr (2, 0) 0 0), (8, .ptr (2, 0) 0 0), (15, .agg [.int .i64 (((a0.getD v39.toNat default).f_From).f_Kind), .int .i64 (((a0.getD v39.toNat default).f_From).f_A), .int .i64 (((a0.getD v39.toNat default).f_From).f_B), .int .i64 (((a0.getD v39.toNat default).f_To).f_Kind), .int .i64 (((a0.getD v39.toNat default).f_To).f_A), .int .i64 (((a0.getD v39.toNat default).f_To).f_B)]), (14, .iptr 6 (a0.map z7) v39.toNat 0), (13, .bool (decide (v39 < ((a0.map z7).length : Int)))), (0, .isl 6 (a0.map z7) false), (3, .ptr (0, 0) 0 0), (5, .osl (1, 0) 3 (v37.map z6)), (6, .bool v38), (10, .isl 6 (a0.map z7) false), (11, .int .i64 ((a0.map z7).length : Int)), (12, .int .i64 v39)] _ _
  obtain ⟨v45, h54, h⟩ := bind_some h
  refine Or.inl (Exists.intro (.bool v45) (And.intro (fun hp => And.intro (And.intro hp hp) (PFn.call (zbc (q7 hp h54)) (And.intro (Vw.oslI _ _ _) (And.intro (Vw.same _ rfl) trivial)) (And.intro rfl (And.intro rfl rfl)))) ?_))
  refine And.intro (fun hp => hp) ?_
  refine And.intro (fun hc => (bqt hc)) ?_
  refine LWp.sim (e := [(0, .isl 6 (a0.map z7) false), (3, .ptr (0, 0) 0 0), (5, .osl (1, 0) 3 (v37.map z6)), (6, .bool v38), (8, .ptr (2, 0) 0 0), (10, .isl 6 (a0.map z7) false), (11, .int .i64 ((a0.map z7).length : Int)), (12, .int .i64 v39), (32, .bool ((((((a0.getD v39.toNat default).f_From).f_Kind == a1.f_Kind) && ((((a0.getD v39.toNat default).f_From).f_A == a1.f_A) && ((((a0.getD v39.toNat default).f_From).f_B == a1.f_B) && true))) || v44) && (!v45)))]) (L := [((0, 0), .one [.int .i64 a1.f_Kind, .int .i64 a1.f_A, .int .i64 a1.f_B]), ((1, 0), .tok), ((2, 0), .one [.int .i64 (((a0.getD v39.toNat default).f_From).f_Kind), .int .i64 (((a0.getD v39.toNat default).f_From).f_A), .int .i64 (((a0.getD v39.toNat default).f_From).f_B), .int .i64 (((a0.getD v39.toNat default).f_To).f_Kind), .int .i64 (((a0.getD v39.toNat default).f_To).f_A), .int .i64 (((a0.getD v39.toNat default).f_To).f_B)])]) (n := 3) ?_ ?_
  ·exact jh (M := [((0, 0), (0, 0)), ((1, 0), (1, 0)), ((2, 0), (2, 0))]) rfl (And.intro (Vw.same _ rfl) (And.intro (Vw.ptr _ _ _ _ rfl) (And.intro (Vw.osl _ _ _ _ rfl) (And.intro (Vw.same _ rfl) (And.intro (Vw.ptr _ _ _ _ rfl) (And.intro (Vw.same _ rfl) (And.intro (Vw.same _ rfl) (And.intro (Vw.same _ rfl) (And.intro (Vw.same _ rfl) trivial))))))))) (And.intro (And.intro rfl (BVw.oneL (And.intro (Vw.same _ rfl) (And.intro (Vw.same _ rfl) (And.intro (Vw.same _ rfl) trivial))))) (And.intro (And.intro rfl BVw.tok) (And.intro (And.intro rfl (BVw.oneL (And.intro (Vw.same _ rfl) (And.intro (Vw.same _ rfl) (And.intro (Vw.same _ rfl) (And.intro (Vw.same _ rfl) (And.intro (Vw.same _ rfl) (And.intro (Vw.same _ rfl) trivial)))))))) trivial)))
  refine w5 (v := ((((((a0.getD v39.toNat default).f_From).f_Kind == a1.f_Kind) && ((((a0.getD v39.toNat default).f_From).f_A == a1.f_A) && ((((a0.getD v39.toNat default).f_From).f_B == a1.f_B) && true))) || v44) && (!v45))) rfl trivial (fun h55 => ?_) (fun h55 => ?_)
  ·have h := q7 h55 h
   refine zl ?_
   refine y8 ?_
   obtain ⟨h56, h⟩ := y4 h
   refine Exists.intro ((v37 ++ ([(G_QKey.mk (((a0.getD v39.toNat default).f_To).f_Kind) (((a0.getD v39.toNat default).f_To).f_A) (((a0.getD v39.toNat default).f_To).f_B))] : List G_QKey)).map z6) (And.intro (Qg z6 v37 ([(G_QKey.mk (((a0.getD v39.toNat default).f_To).f_Kind) (((a0.getD v39.toNat default).f_To).f_A) (((a0.getD v39.toNat default).f_To).f_B))] : List G_QKey)) (And.intro h56 ?_))
   refine y8 ?_
   refine LWp.sim ?_ (z4r h)
   exact jh (M := [((0, 0), (0, 0)), ((1, 0), (3, 0))]) rfl (And.intro (Vw.same _ rfl) (And.intro (Vw.ptr _ _ _ _ rfl) (And.intro (Vw.osl _ _ _ _ rfl) (And.intro (Vw.same _ rfl) (And.intro (Vw.same _ rfl) (And.intro (Vw.same _ rfl) (And.intro (Vw.same _ rfl) trivial))))))) (And.intro (And.intro rfl (BVw.oneL (And.intro (Vw.same _ rfl) (And.intro (Vw.same _ rfl) (And.intro (Vw.same _ rfl) trivial))))) (And.intro (And.intro rfl BVw.tok) trivial))
  ·have h := qq h55 h
   refine w7 ?_
   refine LWp.sim ?_ (z4r h)
   exact jh (M := [((0, 0), (0, 0)), ((1, 0), (1, 0))]) rfl (And.intro (Vw.same _ rfl) (And.intro (Vw.ptr _ _ _ _ rfl) (And.intro (Vw.osl _ _ _ _ rfl) (And.intro (Vw.same _ rfl) (And.intro (Vw.same _ rfl) (And.intro (Vw.same _ rfl) (And.intro (Vw.same _ rfl) trivial))))))) (And.intro (And.intro rfl (BVw.oneL (And.intro (Vw.same _ rfl) (And.intro (Vw.same _ rfl) (And.intro (Vw.same _ rfl) trivial))))) (And.intro (And.intro rfl BVw.tok) trivial))
 ·have h := qq h51 h
  refine Zp ?_
  obtain ⟨o, hq, rfl⟩ := Option.map_eq_some_iff.1 h
  replace h := hq; clear hq
  refine And.intro nofun ?_
  cases h
  exact And.intro rfl (jh (M := [((0, 0), (0, 0)), ((1, 0), (1, 0))]) rfl (And.intro (Vw.same _ rfl) (And.intro (Vw.ptr _ _ _ _ rfl) (And.intro (Vw.osl _ _ _ _ rfl) (And.intro (Vw.same _ rfl) trivial)))) (And.intro (And.intro rfl (BVw.oneL (And.intro (Vw.same _ rfl) (And.intro (Vw.same _ rfl) (And.intro (Vw.same _ rfl) trivial))))) (And.intro (And.intro rfl BVw.tok) trivial)))
theorem zd5 {a0 : List G_QEdge} {a1 : G_QKey} {v37 : List G_QKey} {v38 : Bool} {v39 : Int} {m : Option Nat} {o : (((List G_QKey) × Bool) ⊕ (List G_QKey))} (h : qd m a0 a1 v37 v38 v39 = some o) :
 LWp Try.prog Y1 0 (.loop zbk) (yv 2 (yv 1 (wj 0 2 (Qw a0 a1) (J9 a0 a1) (V8 a0 a1) o))) [(0, .isl 6 (a0.map z7) false), (3, .ptr (0, 0) 0 0), (5, .osl (1, 0) 3 (v37.map z6)), (6, .bool v38), (10, .isl 6 (a0.map z7) false), (11, .int .i64 ((a0.map z7).length : Int)), (12, .int .i64 v39)] [((0, 0), .one [.int .i64 a1.f_Kind, .int .i64 a1.f_A, .int .i64 a1.f_B]), ((1, 0), .tok)] 2 :=
 j0 (m := m) (s := ((v37, v38, v39) : ((List G_QKey) × Bool × Int))) (r := o) (fun (s : ((List G_QKey) × Bool × Int)) => yl m a0 a1 s.1 s.2.1 s.2.2) (Wj a0 a1) (Vu a0 a1) (z1v a0 a1) (fun s o h => zaf h) h
noncomputable def qt (m : Option Nat) (v16 : List G_QKey) : Option (List G_QKey) :=
 (x7 m v16).bind fun v48 =>
 some v48
noncomputable def zn (m : Option Nat) (a0 : List G_QEdge) (a1 : G_QKey) (v16 : List G_QKey) (v17 : Bool) : Option (((List G_QKey) × Bool) ⊕ (List G_QKey)) :=
 if v17 = true then
  qd m a0 a1 v16 false 0
 else
  Option.map Sum.inr (
   qt m v16)
noncomputable def qb (m : Option Nat) (a0 : List G_QEdge) (a1 : G_QKey) (v16 : List G_QKey) (v17 : Bool) : Option (List G_QKey) := u5 m (fun (s : ((List G_QKey) × Bool)) => zn m a0 a1 s.1 s.2) (v16, v17)
theorem z9s {a0 : List G_QEdge} {a1 : G_QKey} {v16 : List G_QKey} {m : Option Nat} {o : (List G_QKey)} (h : qt m v16 = some o) :
 LWp Try.prog Y1 0 z8q (zhg a0 a1 o) [(5, .osl (0, 0) 3 (v16.map z6))] [((0, 0), .tok)] 1 := by
 unfold qt at h
 refine zl ?_
 refine y8 ?_
 obtain ⟨v48, h57, h⟩ := bind_some h
 refine PFn.call (zjk h57) (And.intro (Vw.oslI _ _ _) trivial) ?_
 refine Ze ?_
 cases h
 exact And.intro trivial (And.intro rfl (Vw.same _ rfl))
theorem z9k {a0 : List G_QEdge} {a1 : G_QKey} {v16 : List G_QKey} {v17 : Bool} {m : Option Nat} {o : ((List G_QKey) × Bool) ⊕ (List G_QKey)} (h : zn m a0 a1 v16 v17 = some o) :
 LWp Try.prog Y1 0 zbe (wj 0 2 (Qw a0 a1) (J9 a0 a1) (V8 a0 a1) o) [(0, .isl 6 (a0.map z7) false), (3, .ptr (0, 0) 0 0), (5, .osl (1, 0) 3 (v16.map z6)), (6, .bool v17)] [((0, 0), .one [.int .i64 a1.f_Kind, .int .i64 a1.f_A, .int .i64 a1.f_B]), ((1, 0), .tok)] 2 := by
 unfold zn at h
 refine zl ?_
 refine zl ?_
 refine y8 ?_
 refine w5 (v := v17) rfl trivial (fun h38 => ?_) (fun h38 => ?_)
 ·have h := q7 h38 h
  refine w7 ?_
  refine j8 ?_
  refine zl ?_
  refine y8 ?_
  refine zl ?_
  refine y8 ?_
  refine j8 ?_
  refine LWp.sim ?_ (zd5 h)
  exact jh (M := [((0, 0), (0, 0)), ((1, 0), (1, 0))]) rfl (And.intro (Vw.same _ rfl) (And.intro (Vw.ptr _ _ _ _ rfl) (And.intro (Vw.osl _ _ _ _ rfl) (And.intro (Vw.same _ rfl) (And.intro (Vw.same _ rfl) (And.intro (Vw.same _ rfl) (And.intro (Vw.same _ rfl) trivial))))))) (And.intro (And.intro rfl (BVw.oneL (And.intro (Vw.same _ rfl) (And.intro (Vw.same _ rfl) (And.intro (Vw.same _ rfl) trivial))))) (And.intro (And.intro rfl BVw.tok) trivial))
 ·have h := qq h38 h
  refine Zp ?_
  obtain ⟨o, hq, rfl⟩ := Option.map_eq_some_iff.1 h
  replace h := hq; clear hq
  refine And.intro nofun ?_
  refine LWp.sim ?_ (z9s h)
  exact jh (M := [((0, 0), (1, 0))]) rfl (And.intro (Vw.osl _ _ _ _ rfl) trivial) (And.intro (And.intro rfl BVw.tok) trivial)
theorem zgh {a0 : List G_QEdge} {a1 : G_QKey} {v16 : List G_QKey} {v17 : Bool} {m : Option Nat} {o : (List G_QKey)} (h : qb m a0 a1 v16 v17 = some o) :
 LWp Try.prog Y1 0 (.loop zbe) (yv 0 (uv Try.prog Y1 0 z8q (zhg a0 a1 o))) [(0, .isl 6 (a0.map z7) false), (3, .ptr (0, 0) 0 0), (5, .osl (1, 0) 3 (v16.map z6)), (6, .bool v17)] [((0, 0), .one [.int .i64 a1.f_Kind, .int .i64 a1.f_A, .int .i64 a1.f_B]), ((1, 0), .tok)] 2 :=
 j0 (m := m) (s := ((v16, v17) : ((List G_QKey) × Bool))) (r := o) (fun (s : ((List G_QKey) × Bool)) => zn m a0 a1 s.1 s.2) (Qw a0 a1) (J9 a0 a1) (V8 a0 a1) (fun s o h => z9k h) h
noncomputable def xz (m : Option Nat) (a0 : List G_QEdge) (a1 : G_QKey) : Option (List G_QKey) :=
 qb m a0 a1 [] true
theorem zdg {a0 : List G_QEdge} {a1 : G_QKey} {m : Option Nat} {o : (List G_QKey)} (h : xz m a0 a1 = some o) : LWp Try.prog Y1 0 zjs (zhg a0 a1 o) (qx 0 [.isl 6 (a0.map z7) false, .agg [.int .i64 a1.f_Kind, .int .i64 a1.f_A, .int .i64 a1.f_B]]) [] 0 := by
 unfold xz at h
 refine zl ?_
 refine y8 ?_
 refine zl ?_
 refine y8 ?_
 refine zl ?_
 refine zl ?_
 refine y8 ?_
 refine j8 ?_
 refine LWp.sim ?_ (zgh h)
 exact jh (M := [((0, 0), (0, 0))]) rfl (And.intro (Vw.same _ rfl) (And.intro (Vw.ptr _ _ _ _ rfl) (And.intro (Vw.nilO _ _ (by decide)) (And.intro (Vw.same _ rfl) trivial)))) (And.intro (And.intro rfl (BVw.oneL (And.intro (Vw.same _ rfl) (And.intro (Vw.same _ rfl) (And.intro (Vw.same _ rfl) trivial))))) (And.intro (And.intro rfl (And.intro (by decide) (by decide))) trivial))
theorem zp0 {a0 : List G_QEdge} {a1 : G_QKey} {m : Option Nat} {o : (List G_QKey)} (h : xz m a0 a1 = some o) : PFn Try.prog 10 [.isl 6 (a0.map z7) false, .agg [.int .i64 a1.f_Kind, .int .i64 a1.f_A, .int .i64 a1.f_B]] (.isl 3 (o.map z6) false) := PFn.ofFnW (L := znz) zl7 zkr (Nat.le_of_ble_eq_true rfl) rfl (zdg h)
def zch : LCode := (.seq (.region [⟨some 9, .bin .lss (.t 8) (.t 7), none⟩])
 (.seq (.cond (.t 9)
  .skip
  (.exit 0))
 (.seq (.block 1
  (.seq (.region [⟨some 10, .iaddr 3 (.t 6) (.t 8), none⟩,
   ⟨some 11, .load true 3 (.t 10), none⟩,
   ⟨some 4, .alloc [(.int .i64 0), (.int .i64 0), (.int .i64 0)], none⟩,
   ⟨none, .store 3 (.t 4) (.t 11), none⟩])
  (.seq (.draw [⟨⟨some 12, .mv (.t 0), none⟩, []⟩,
   ⟨⟨some 13, .load true 3 (.t 4), none⟩, []⟩,
   ⟨⟨some 15, .load true 3 (.t 4), none⟩, []⟩,
   ⟨⟨some 14, .call 10 [(.t 12), (.t 13)], none⟩, [2]⟩,
   ⟨⟨some 16, .call 23 [(.t 14), (.t 15)], none⟩, []⟩])
  (.cond (.t 16)
   (.seq (.region [⟨some 2, .mv (.c (.bool true)), none⟩])
   .ret)
   .skip))))
 (.region [⟨some 17, .bin .add (.t 8) (.c (.int .i64 1)), none⟩,
  ⟨some 8, .mv (.t 17), none⟩]))))
def z7p : LCode := (.seq (.region [⟨some 2, .mv (.c (.bool false)), none⟩])
 .ret)
def zkb : LCode := (.seq (.region [⟨some 2, .mv (.c (.bool false)), none⟩])
 (.seq (.seq (.region [⟨some 5, .mv (.t 0), none⟩,
  ⟨some 6, .call 28 [(.t 5)], none⟩,
  ⟨some 7, .len false (.t 6), none⟩,
  ⟨some 8, .mv (.c (.int .i64 0)), none⟩])
 (.block 0
  (.loop
   zch)))
 z7p))
def Xu : Lay := ⟨18, [], false⟩
def zfp : List LRes := [.t 2]
def zot : LFn := ⟨1, Xu, zkb, zfp⟩
theorem zko : k9 Try.prog [] 14 = some zot := by kernel_rfl
theorem zlm : Y8 Try.prog 14 := ⟨_, Try.func14, rfl, rfl⟩
def zgt (a0 : List G_QEdge) (o : Bool) : Exit → Env → AHeap → Nat → Prop := Xg zfp (wu (.bool o))
def z10 (a0 : List G_QEdge) (v1 : (List G_QKey)) (s : Int) : Env := [(0, .isl 6 (a0.map z7) false), (6, .isl 3 (v1.map z6) false), (7, .int .i64 ((v1.map z6).length : Int)), (8, .int .i64 s)]
def z3f (a0 : List G_QEdge) (v1 : (List G_QKey)) (s : Int) : AHeap := []
def z9d (a0 : List G_QEdge) (o : Bool) : Exit → Env → AHeap → Nat → Prop := (yv 0 (uv Try.prog Xu 0 z7p (zgt a0 o)))
noncomputable def jp (m : Option Nat) : Option Bool :=
 some false
noncomputable def qa (m : Option Nat) (a0 : List G_QEdge) (v1 : (List G_QKey)) (v4 : Int) : Option (Int ⊕ Bool) :=
 if (decide (v4 < ((v1.map z6).length : Int))) = true then
  if (0 : Int) ≤ v4 ∧ v4 < ((v1.map z6).length : Int) then
  (xz m a0 (G_QKey.mk ((v1.getD v4.toNat default).f_Kind) ((v1.getD v4.toNat default).f_A) ((v1.getD v4.toNat default).f_B))).bind fun v7 =>
  (zm m v7 (G_QKey.mk ((v1.getD v4.toNat default).f_Kind) ((v1.getD v4.toNat default).f_A) ((v1.getD v4.toNat default).f_B))).bind fun v8 =>
  if v8 = true then
   Option.map Sum.inr (
    some true)
  else
   some (.inl (W (v4 + 1)))
  else none
 else
  Option.map Sum.inr (
   jp m)
noncomputable def qw (m : Option Nat) (a0 : List G_QEdge) (v1 : (List G_QKey)) (v4 : Int) : Option Bool := u5 m (fun (s : Int) => qa m a0 v1 s) v4
theorem zea {a0 : List G_QEdge} {m : Option Nat} {o : Bool} (h : jp m = some o) :
 LWp Try.prog Xu 0 z7p (zgt a0 o) [] [] 0 := by
 unfold jp at h
 refine zl ?_
 refine y8 ?_
 refine Ze ?_
 cases h
 exact And.intro trivial (And.intro rfl (Vw.same _ rfl))
theorem za6 {a0 : List G_QEdge} {v1 : (List G_QKey)} {v4 : Int} {m : Option Nat} {o : Int ⊕ Bool} (h : qa m a0 v1 v4 = some o) :
 LWp Try.prog Xu 0 zch (wj 0 0 (z10 a0 v1) (z3f a0 v1) (z9d a0) o) [(0, .isl 6 (a0.map z7) false), (6, .isl 3 (v1.map z6) false), (7, .int .i64 ((v1.map z6).length : Int)), (8, .int .i64 v4)] [] 0 := by
 unfold qa at h
 refine zl ?_
 refine y8 ?_
 refine zl ?_
 refine w5 (v := (decide (v4 < ((v1.map z6).length : Int)))) rfl trivial (fun h12 => ?_) (fun h12 => ?_)
 ·have h := q7 h12 h
  refine w7 ?_
  refine zl ?_
  refine j8 ?_
  refine zl ?_
  refine y8 ?_
  obtain ⟨h13, h⟩ := y4 h
  refine And.intro h13 ?_
  refine Exists.intro (z6 (v1.getD v4.toNat default)) (And.intro (jm z6 _ _ (wx z6 h13)) (And.intro (And.intro (kw h13) (Nat.le_of_ble_eq_true rfl)) ?_))
  refine zl ?_
  refine Uw ?_
  obtain ⟨v7, h14, h⟩ := bind_some h
  refine PFn.call (zp0 h14) (And.intro (Vw.same _ rfl) (And.intro (Vw.same _ rfl) trivial)) ?_
  refine And.intro rfl ?_
  obtain ⟨v8, h15, h⟩ := bind_some h
  refine PFn.call (zbc h15) (And.intro (Vw.same _ rfl) (And.intro (Vw.same _ rfl) trivial)) ?_
  show yd _ _ _ _ _ [(16, .bool v8), (14, .isl 3 (v7.map z6) false), (15, .agg [.int .i64 ((v1.getD v4.toNat default).f_Kind), .int .i64 ((v1.getD v4.toNat default).f_A), .int .i64 ((v1.getD v4.toNat default).f_B)]), (13, .agg [.int .i64 ((v1.getD v4.toNat default).f_Kind), .int .i64 ((v1.getD v4.toNat default).f_A), .int .i64 ((v1.getD v4.toNat default).f_B)]), (12, .isl 6 (a0.map z7) false), (4, .ptr (0, 0) 0 0), (11, .agg [.int .i64 ((v1.getD v4.toNat default).f_Kind), .int .i64 ((v1.getD v4.toNat default).f_A), .int .i64 ((v1.getD v4.toNat default).f_B)]), (10, .iptr 3 (v1.map z6) v4.toNat 0), (9, .bool (decide (v4 < ((v1.map z6).length : Int)))), (0, .isl 6 (a0.map z7) false), (6, .isl 3 (v1.map z6) false), (7, .int .i64 ((v1.map z6).length : Int)), (8, .int .i64 v4)] _ _
  refine LWp.sim (e := [(0, .isl 6 (a0.map z7) false), (6, .isl 3 (v1.map z6) false), (7, .int .i64 ((v1.map z6).length : Int)), (8, .int .i64 v4), (16, .bool v8)]) (L := []) (n := 0) ?_ ?_
  ·exact jh (M := []) rfl (And.intro (Vw.same _ rfl) (And.intro (Vw.same _ rfl) (And.intro (Vw.same _ rfl) (And.intro (Vw.same _ rfl) (And.intro (Vw.same _ rfl) trivial))))) trivial
  refine w5 (v := v8) rfl trivial (fun h16 => ?_) (fun h16 => ?_)
  ·have h := q7 h16 h
   refine zl ?_
   refine y8 ?_
   refine Ze ?_
   obtain ⟨o, hq, rfl⟩ := Option.map_eq_some_iff.1 h
   replace h := hq; clear hq
   refine And.intro nofun ?_
   cases h
   exact And.intro trivial (And.intro rfl (Vw.same _ rfl))
  ·have h := qq h16 h
   refine w7 ?_
   refine y8 ?_
   cases h
   exact And.intro rfl (jh (M := []) rfl (And.intro (Vw.same _ rfl) (And.intro (Vw.same _ rfl) (And.intro (Vw.same _ rfl) (And.intro (Vw.same _ rfl) trivial)))) trivial)
 ·have h := qq h12 h
  refine Zp ?_
  obtain ⟨o, hq, rfl⟩ := Option.map_eq_some_iff.1 h
  replace h := hq; clear hq
  refine And.intro nofun ?_
  refine LWp.sim ?_ (zea h)
  exact jh (M := []) rfl trivial trivial
theorem zdm {a0 : List G_QEdge} {v1 : (List G_QKey)} {v4 : Int} {m : Option Nat} {o : Bool} (h : qw m a0 v1 v4 = some o) :
 LWp Try.prog Xu 0 (.loop zch) (yv 0 (uv Try.prog Xu 0 z7p (zgt a0 o))) [(0, .isl 6 (a0.map z7) false), (6, .isl 3 (v1.map z6) false), (7, .int .i64 ((v1.map z6).length : Int)), (8, .int .i64 v4)] [] 0 :=
 j0 (m := m) (s := (v4 : Int)) (r := o) (fun (s : Int) => qa m a0 v1 s) (z10 a0 v1) (z3f a0 v1) (z9d a0) (fun s o h => za6 h) h
noncomputable def xv (m : Option Nat) (a0 : List G_QEdge) : Option Bool :=
 (xg m a0).bind fun v1 =>
 qw m a0 v1 0
theorem zbw {a0 : List G_QEdge} {m : Option Nat} {o : Bool} (h : xv m a0 = some o) : LWp Try.prog Xu 0 zkb (zgt a0 o) (qx 0 [.isl 6 (a0.map z7) false]) [] 0 := by
 unfold xv at h
 refine zl ?_
 refine y8 ?_
 refine zl ?_
 refine zl ?_
 refine y8 ?_
 obtain ⟨v1, h1, h⟩ := bind_some h
 refine PFn.call (zjp h1) (And.intro (Vw.same _ rfl) trivial) ?_
 refine j8 ?_
 refine LWp.sim ?_ (zdm h)
 exact jh (M := []) rfl (And.intro (Vw.same _ rfl) (And.intro (Vw.same _ rfl) (And.intro (Vw.same _ rfl) (And.intro (Vw.same _ rfl) trivial)))) trivial
theorem zp2 {a0 : List G_QEdge} {m : Option Nat} {o : Bool} (h : xv m a0 = some o) : PFn Try.prog 14 [.isl 6 (a0.map z7) false] (.bool o) := PFn.ofFnW (L := zot) zko zlm (Nat.le_of_ble_eq_true rfl) rfl (zbw h)
def z8s : LCode := (.region [⟨some 25, .bin .add (.t 10) (.c (.int .i64 1)), none⟩,
 ⟨some 10, .mv (.t 25), none⟩])
def z2b : LCode := (.seq (.region [⟨some 11, .bin .lss (.t 10) (.t 9), none⟩])
 (.seq (.cond (.t 11)
  .skip
  (.exit 0))
 (.seq (.block 1
  (.seq (.region [⟨some 12, .iaddr 6 (.t 8) (.t 10), none⟩,
   ⟨some 13, .load true 6 (.t 12), none⟩,
   ⟨some 7, .alloc [(.int .i64 0), (.int .i64 0), (.int .i64 0), (.int .i64 0), (.int .i64 0), (.int .i64 0)], none⟩,
   ⟨none, .store 6 (.t 7) (.t 13), none⟩])
  (.seq (.region [⟨some 14, .faddr 0 (.t 7), none⟩,
   ⟨some 15, .load true 3 (.t 14), none⟩,
   ⟨some 16, .load true 3 (.t 3), none⟩,
   ⟨some 17, .eq false (.agg [.int, .int, .int]) (.t 15) (.t 16), none⟩])
  (.cond (.t 17)
   (.region [⟨some 18, .mv (.t 5), none⟩,
    ⟨some 19, .mv (.t 0), none⟩,
    ⟨some 20, .faddr 3 (.t 7), none⟩,
    ⟨some 21, .load true 3 (.t 20), none⟩,
    ⟨some 22, .call 30 [(.t 19), (.t 21)], none⟩,
    ⟨some 23, .bin .add (.c (.int .i64 1)) (.t 22), none⟩,
    ⟨some 24, .mnx true [(.t 18), (.t 23)], none⟩,
    ⟨some 5, .mv (.t 24), none⟩])
   .skip))))
 z8s)))
def Vc : LCode := (.seq (.region [⟨some 26, .mv (.t 5), none⟩,
 ⟨some 4, .mv (.t 26), none⟩])
 .ret)
def z8h : LCode := (.seq (.region [⟨some 3, .box (.t 1), none⟩,
 ⟨some 4, .mv (.c (.int .i64 0)), none⟩])
 (.seq (.region [⟨some 5, .mv (.c (.int .i64 0)), none⟩])
 (.seq (.seq (.region [⟨some 8, .mv (.t 0), none⟩,
  ⟨some 9, .len false (.t 8), none⟩,
  ⟨some 10, .mv (.c (.int .i64 0)), none⟩])
 (.block 0
  (.loop
   z2b)))
 Vc)))
def uq : Lay := ⟨27, [], false⟩
def z51 : List LRes := [.t 4]
def zer : LFn := ⟨2, uq, z8h, z51⟩
theorem zfr : k9 Try.prog [] 30 = some zer := by kernel_rfl
theorem zc2 : Y8 Try.prog 30 := ⟨_, Try.func30, rfl, rfl⟩
def z2l (a0 : List G_QEdge) (a1 : G_QKey) (o : Int) : Exit → Env → AHeap → Nat → Prop := Xg z51 (Xy 3 3 (.int .i64 o) [])
def Ql (a0 : List G_QEdge) (a1 : G_QKey) (s : (Int × Int)) : Env := [(0, .isl 6 (a0.map z7) false), (3, .ptr (3, 0) 0 0), (5, .int .i64 s.1), (8, .isl 6 (a0.map z7) false), (9, .int .i64 ((a0.map z7).length : Int)), (10, .int .i64 s.2)]
def Xt (a0 : List G_QEdge) (a1 : G_QKey) (s : (Int × Int)) : AHeap := [((3, 0), .one [.int .i64 a1.f_Kind, .int .i64 a1.f_A, .int .i64 a1.f_B])]
def W7 (a0 : List G_QEdge) (a1 : G_QKey) (o : Int) : Exit → Env → AHeap → Nat → Prop := (yv 0 (uv Try.prog uq 3 Vc (z2l a0 a1 o)))
noncomputable def qv (rec0 : (List G_QEdge) → G_QKey → Option Int) (m : Option Nat) (a0 : List G_QEdge) (a1 : G_QKey) (v4 : Int) (v8 : Int) : Option ((Int × Int) ⊕ Int) :=
 some (.inl (v8, (W (v4 + 1))))
theorem U2 {rec0 : (List G_QEdge) → G_QKey → Option Int} (hrec0 : ∀ {a0 : List G_QEdge} {a1 : G_QKey} {o : Int}, rec0 a0 a1 = some o → ACalls Try.prog 30 [.isl 6 (a0.map z7) false, .agg [.int .i64 a1.f_Kind, .int .i64 a1.f_A, .int .i64 a1.f_B]] [] 3 (vr 3 (.int .i64 o) [])) {a0 : List G_QEdge} {a1 : G_QKey} {v4 : Int} {v8 : Int} {m : Option Nat} {o : ((Int × Int) ⊕ Int)} (h : qv rec0 m a0 a1 v4 v8 = some o) :
 LWp Try.prog uq 3 z8s (wj 3 4 (Ql a0 a1) (Xt a0 a1) (W7 a0 a1) o) [(0, .isl 6 (a0.map z7) false), (3, .ptr (3, 0) 0 0), (5, .int .i64 v8), (8, .isl 6 (a0.map z7) false), (9, .int .i64 ((a0.map z7).length : Int)), (10, .int .i64 v4)] [((3, 0), .one [.int .i64 a1.f_Kind, .int .i64 a1.f_A, .int .i64 a1.f_B])] 4 := by
 unfold qv at h
 refine y8 ?_
 cases h
 exact And.intro rfl (jh (M := [((3, 0), (3, 0))]) rfl (And.intro (Vw.same _ rfl) (And.intro (Vw.ptr _ _ _ _ rfl) (And.intro (Vw.same _ rfl) (And.intro (Vw.same _ rfl) (And.intro (Vw.same _ rfl) (And.intro (Vw.same _ rfl) trivial)))))) (And.intro (And.intro rfl (BVw.oneL (And.intro (Vw.same _ rfl) (And.intro (Vw.same _ rfl) (And.intro (Vw.same _ rfl) trivial))))) trivial))
noncomputable def j7 (rec0 : (List G_QEdge) → G_QKey → Option Int) (m : Option Nat) (v3 : Int) : Option Int :=
 some v3
noncomputable def yf (rec0 : (List G_QEdge) → G_QKey → Option Int) (m : Option Nat) (a0 : List G_QEdge) (a1 : G_QKey) (v3 : Int) (v4 : Int) : Option ((Int × Int) ⊕ Int) :=
 if (decide (v4 < ((a0.map z7).length : Int))) = true then
  if (0 : Int) ≤ v4 ∧ v4 < ((a0.map z7).length : Int) then
  if ((((a0.getD v4.toNat default).f_From).f_Kind == a1.f_Kind) && ((((a0.getD v4.toNat default).f_From).f_A == a1.f_A) && ((((a0.getD v4.toNat default).f_From).f_B == a1.f_B) && true))) = true then
   (rec0 a0 (G_QKey.mk (((a0.getD v4.toNat default).f_To).f_Kind) (((a0.getD v4.toNat default).f_To).f_A) (((a0.getD v4.toNat default).f_To).f_B))).bind fun v7 =>
   qv rec0 m a0 a1 v4 (if (W ((1 : Int) + v7)) > v3 then (W ((1 : Int) + v7)) else v3)
  else
   qv rec0 m a0 a1 v4 v3
  else none
 else
  Option.map Sum.inr (
   j7 rec0 m v3)
noncomputable def zy (rec0 : (List G_QEdge) → G_QKey → Option Int) (m : Option Nat) (a0 : List G_QEdge) (a1 : G_QKey) (v3 : Int) (v4 : Int) : Option Int := u5 m (fun (s : (Int × Int)) => yf rec0 m a0 a1 s.1 s.2) (v3, v4)
theorem z5z {rec0 : (List G_QEdge) → G_QKey → Option Int} (hrec0 : ∀ {a0 : List G_QEdge} {a1 : G_QKey} {o : Int}, rec0 a0 a1 = some o → ACalls Try.prog 30 [.isl 6 (a0.map z7) false, .agg [.int .i64 a1.f_Kind, .int .i64 a1.f_A, .int .i64 a1.f_B]] [] 3 (vr 3 (.int .i64 o) [])) {a0 : List G_QEdge} {a1 : G_QKey} {v3 : Int} {m : Option Nat} {o : Int} (h : j7 rec0 m v3 = some o) :
 LWp Try.prog uq 3 Vc (z2l a0 a1 o) [(5, .int .i64 v3)] [] 3 := by
 unfold j7 at h
 refine zl ?_
 refine y8 ?_
 refine Ze ?_
 cases h
 exact And.intro trivial (zih (n' := 3) [] [] rfl rfl (Vw.same _ rfl) trivial)
theorem z4c {rec0 : (List G_QEdge) → G_QKey → Option Int} (hrec0 : ∀ {a0 : List G_QEdge} {a1 : G_QKey} {o : Int}, rec0 a0 a1 = some o → ACalls Try.prog 30 [.isl 6 (a0.map z7) false, .agg [.int .i64 a1.f_Kind, .int .i64 a1.f_A, .int .i64 a1.f_B]] [] 3 (vr 3 (.int .i64 o) [])) {a0 : List G_QEdge} {a1 : G_QKey} {v3 : Int} {v4 : Int} {m : Option Nat} {o : (Int × Int) ⊕ Int} (h : yf rec0 m a0 a1 v3 v4 = some o) :
 LWp Try.prog uq 3 z2b (wj 3 4 (Ql a0 a1) (Xt a0 a1) (W7 a0 a1) o) [(0, .isl 6 (a0.map z7) false), (3, .ptr (3, 0) 0 0), (5, .int .i64 v3), (8, .isl 6 (a0.map z7) false), (9, .int .i64 ((a0.map z7).length : Int)), (10, .int .i64 v4)] [((3, 0), .one [.int .i64 a1.f_Kind, .int .i64 a1.f_A, .int .i64 a1.f_B])] 4 := by
 unfold yf at h
 refine zl ?_
 refine y8 ?_
 refine zl ?_
 refine w5 (v := (decide (v4 < ((a0.map z7).length : Int)))) rfl trivial (fun h9 => ?_) (fun h9 => ?_)
 ·have h := q7 h9 h
  refine w7 ?_
  refine zl ?_
  refine j8 ?_
  refine zl ?_
  refine y8 ?_
  obtain ⟨h10, h⟩ := y4 h
  refine And.intro h10 ?_
  refine Exists.intro (z7 (a0.getD v4.toNat default)) (And.intro (jm z7 _ _ (wx z7 h10)) (And.intro (And.intro (kw h10) (Nat.le_of_ble_eq_true rfl)) ?_))
  refine zl ?_
  refine y8 ?_
  refine LWp.sim (e := [(0, .isl 6 (a0.map z7) false), (3, .ptr (3, 0) 0 0), (5, .int .i64 v3), (7, .ptr (4, 0) 0 0), (8, .isl 6 (a0.map z7) false), (9, .int .i64 ((a0.map z7).length : Int)), (10, .int .i64 v4), (17, .bool ((((a0.getD v4.toNat default).f_From).f_Kind == a1.f_Kind) && ((((a0.getD v4.toNat default).f_From).f_A == a1.f_A) && ((((a0.getD v4.toNat default).f_From).f_B == a1.f_B) && true))))]) (L := [((3, 0), .one [.int .i64 a1.f_Kind, .int .i64 a1.f_A, .int .i64 a1.f_B]), ((4, 0), .one [.int .i64 (((a0.getD v4.toNat default).f_From).f_Kind), .int .i64 (((a0.getD v4.toNat default).f_From).f_A), .int .i64 (((a0.getD v4.toNat default).f_From).f_B), .int .i64 (((a0.getD v4.toNat default).f_To).f_Kind), .int .i64 (((a0.getD v4.toNat default).f_To).f_A), .int .i64 (((a0.getD v4.toNat default).f_To).f_B)])]) (n := 5) ?_ ?_
  ·exact jh (M := [((3, 0), (3, 0)), ((4, 0), (4, 0))]) rfl (And.intro (Vw.same _ rfl) (And.intro (Vw.ptr _ _ _ _ rfl) (And.intro (Vw.same _ rfl) (And.intro (Vw.ptr _ _ _ _ rfl) (And.intro (Vw.same _ rfl) (And.intro (Vw.same _ rfl) (And.intro (Vw.same _ rfl) (And.intro (Vw.same _ rfl) trivial)))))))) (And.intro (And.intro rfl (BVw.oneL (And.intro (Vw.same _ rfl) (And.intro (Vw.same _ rfl) (And.intro (Vw.same _ rfl) trivial))))) (And.intro (And.intro rfl (BVw.oneL (And.intro (Vw.same _ rfl) (And.intro (Vw.same _ rfl) (And.intro (Vw.same _ rfl) (And.intro (Vw.same _ rfl) (And.intro (Vw.same _ rfl) (And.intro (Vw.same _ rfl) trivial)))))))) trivial))
  refine w5 (v := ((((a0.getD v4.toNat default).f_From).f_Kind == a1.f_Kind) && ((((a0.getD v4.toNat default).f_From).f_A == a1.f_A) && ((((a0.getD v4.toNat default).f_From).f_B == a1.f_B) && true)))) rfl trivial (fun h11 => ?_) (fun h11 => ?_)
  ·have h := q7 h11 h
   refine y8 ?_
   obtain ⟨v7, h12, h⟩ := bind_some h
   refine Ya (k := 3) (m := 0) (L' := []) (rest := [((3, 0), .one [.int .i64 a1.f_Kind, .int .i64 a1.f_A, .int .i64 a1.f_B]), ((4, 0), .one [.int .i64 (((a0.getD v4.toNat default).f_From).f_Kind), .int .i64 (((a0.getD v4.toNat default).f_From).f_A), .int .i64 (((a0.getD v4.toNat default).f_From).f_B), .int .i64 (((a0.getD v4.toNat default).f_To).f_Kind), .int .i64 (((a0.getD v4.toNat default).f_To).f_A), .int .i64 (((a0.getD v4.toNat default).f_To).f_B)])]) (R' := .int .i64 v7) [] (hrec0 h12) rfl rfl rfl (And.intro (Vw.same _ rfl) (And.intro (Vw.same _ rfl) trivial)) trivial (k8 _ rfl) trivial rfl ?_
   show Q5 _ _ _ [(22, .int .i64 v7), (21, .agg [.int .i64 (((a0.getD v4.toNat default).f_To).f_Kind), .int .i64 (((a0.getD v4.toNat default).f_To).f_A), .int .i64 (((a0.getD v4.toNat default).f_To).f_B)]), (20, .ptr (4, 0) 0 3), (19, .isl 6 (a0.map z7) false), (18, .int .i64 v3), (0, .isl 6 (a0.map z7) false), (3, .ptr (3, 0) 0 0), (5, .int .i64 v3), (7, .ptr (4, 0) 0 0), (8, .isl 6 (a0.map z7) false), (9, .int .i64 ((a0.map z7).length : Int)), (10, .int .i64 v4), (17, .bool ((((a0.getD v4.toNat default).f_From).f_Kind == a1.f_Kind) && ((((a0.getD v4.toNat default).f_From).f_A == a1.f_A) && ((((a0.getD v4.toNat default).f_From).f_B == a1.f_B) && true))))] _ _
   refine LWp.sim ?_ (U2 hrec0 h)
   exact jh (M := [((3, 0), (3, 0))]) rfl (And.intro (Vw.same _ rfl) (And.intro (Vw.ptr _ _ _ _ rfl) (And.intro (Vw.same _ rfl) (And.intro (Vw.same _ rfl) (And.intro (Vw.same _ rfl) (And.intro (Vw.same _ rfl) trivial)))))) (And.intro (And.intro rfl (BVw.oneL (And.intro (Vw.same _ rfl) (And.intro (Vw.same _ rfl) (And.intro (Vw.same _ rfl) trivial))))) trivial)
  ·have h := qq h11 h
   refine w7 ?_
   refine LWp.sim ?_ (U2 hrec0 h)
   exact jh (M := [((3, 0), (3, 0))]) rfl (And.intro (Vw.same _ rfl) (And.intro (Vw.ptr _ _ _ _ rfl) (And.intro (Vw.same _ rfl) (And.intro (Vw.same _ rfl) (And.intro (Vw.same _ rfl) (And.intro (Vw.same _ rfl) trivial)))))) (And.intro (And.intro rfl (BVw.oneL (And.intro (Vw.same _ rfl) (And.intro (Vw.same _ rfl) (And.intro (Vw.same _ rfl) trivial))))) trivial)
 ·have h := qq h9 h
  refine Zp ?_
  obtain ⟨o, hq, rfl⟩ := Option.map_eq_some_iff.1 h
  replace h := hq; clear hq
  refine And.intro nofun ?_
  refine LWp.sim ?_ (z5z hrec0 h)
  exact jh (M := []) rfl (And.intro (Vw.same _ rfl) trivial) trivial
theorem z5u {rec0 : (List G_QEdge) → G_QKey → Option Int} (hrec0 : ∀ {a0 : List G_QEdge} {a1 : G_QKey} {o : Int}, rec0 a0 a1 = some o → ACalls Try.prog 30 [.isl 6 (a0.map z7) false, .agg [.int .i64 a1.f_Kind, .int .i64 a1.f_A, .int .i64 a1.f_B]] [] 3 (vr 3 (.int .i64 o) [])) {a0 : List G_QEdge} {a1 : G_QKey} {v3 : Int} {v4 : Int} {m : Option Nat} {o : Int} (h : zy rec0 m a0 a1 v3 v4 = some o) :
 LWp Try.prog uq 3 (.loop z2b) (yv 0 (uv Try.prog uq 3 Vc (z2l a0 a1 o))) [(0, .isl 6 (a0.map z7) false), (3, .ptr (3, 0) 0 0), (5, .int .i64 v3), (8, .isl 6 (a0.map z7) false), (9, .int .i64 ((a0.map z7).length : Int)), (10, .int .i64 v4)] [((3, 0), .one [.int .i64 a1.f_Kind, .int .i64 a1.f_A, .int .i64 a1.f_B])] 4 :=
 j0 (m := m) (s := ((v3, v4) : (Int × Int))) (r := o) (fun (s : (Int × Int)) => yf rec0 m a0 a1 s.1 s.2) (Ql a0 a1) (Xt a0 a1) (W7 a0 a1) (fun s o h => z4c hrec0 h) h
noncomputable def jj (rec0 : (List G_QEdge) → G_QKey → Option Int) (m : Option Nat) (a0 : List G_QEdge) (a1 : G_QKey) : Option Int :=
 zy rec0 m a0 a1 0 0
theorem z5q {rec0 : (List G_QEdge) → G_QKey → Option Int} (hrec0 : ∀ {a0 : List G_QEdge} {a1 : G_QKey} {o : Int}, rec0 a0 a1 = some o → ACalls Try.prog 30 [.isl 6 (a0.map z7) false, .agg [.int .i64 a1.f_Kind, .int .i64 a1.f_A, .int .i64 a1.f_B]] [] 3 (vr 3 (.int .i64 o) [])) {a0 : List G_QEdge} {a1 : G_QKey} {m : Option Nat} {o : Int} (h : jj rec0 m a0 a1 = some o) : LWp Try.prog uq 3 z8h (z2l a0 a1 o) (qx 0 [.isl 6 (a0.map z7) false, .agg [.int .i64 a1.f_Kind, .int .i64 a1.f_A, .int .i64 a1.f_B]]) [] 3 := by
 unfold jj at h
 refine zl ?_
 refine y8 ?_
 refine zl ?_
 refine y8 ?_
 refine zl ?_
 refine zl ?_
 refine y8 ?_
 refine j8 ?_
 refine LWp.sim ?_ (z5u hrec0 h)
 exact jh (M := [((3, 0), (3, 0))]) rfl (And.intro (Vw.same _ rfl) (And.intro (Vw.ptr _ _ _ _ rfl) (And.intro (Vw.same _ rfl) (And.intro (Vw.same _ rfl) (And.intro (Vw.same _ rfl) (And.intro (Vw.same _ rfl) trivial)))))) (And.intro (And.intro rfl (BVw.oneL (And.intro (Vw.same _ rfl) (And.intro (Vw.same _ rfl) (And.intro (Vw.same _ rfl) trivial))))) trivial)
theorem ziw {rec0 : (List G_QEdge) → G_QKey → Option Int} (hrec0 : ∀ {a0 : List G_QEdge} {a1 : G_QKey} {o : Int}, rec0 a0 a1 = some o → ACalls Try.prog 30 [.isl 6 (a0.map z7) false, .agg [.int .i64 a1.f_Kind, .int .i64 a1.f_A, .int .i64 a1.f_B]] [] 3 (vr 3 (.int .i64 o) [])) {a0 : List G_QEdge} {a1 : G_QKey} {m : Option Nat} {o : Int} (h : jj rec0 m a0 a1 = some o) : ACalls Try.prog 30 [.isl 6 (a0.map z7) false, .agg [.int .i64 a1.f_Kind, .int .i64 a1.f_A, .int .i64 a1.f_B]] [] 3 (vr 3 (.int .i64 o) []) := Xf (L := zer) zfr zc2 (Nat.le_of_ble_eq_true rfl) (z5q hrec0 h)
noncomputable def qc (m : Option Nat) : Nat → (List G_QEdge) → G_QKey → Option Int
 | 0 => fun _ _ => none
 | k + 1 => jj (qc m k) m
noncomputable def qz (m : Option Nat) (a0 : List G_QEdge) (a1 : G_QKey) : Option Int := znj m (fun k => qc m k a0 a1)
theorem z3q {m : Option Nat} : ∀ (k : Nat) {a0 : List G_QEdge} {a1 : G_QKey} {o : Int}, qc m k a0 a1 = some o → ACalls Try.prog 30 [.isl 6 (a0.map z7) false, .agg [.int .i64 a1.f_Kind, .int .i64 a1.f_A, .int .i64 a1.f_B]] [] 3 (vr 3 (.int .i64 o) [])
 | 0, _, _, _, h => nomatch h
 | k + 1, _, _, _, h => ziw (fun h => z3q k h) h
theorem z4h {a0 : List G_QEdge} {a1 : G_QKey} {m : Option Nat} {o : Int} (h : qz m a0 a1 = some o) : ACalls Try.prog 30 [.isl 6 (a0.map z7) false, .agg [.int .i64 a1.f_Kind, .int .i64 a1.f_A, .int .i64 a1.f_B]] [] 3 (vr 3 (.int .i64 o) []) := (ze4 h).elim fun k h => z3q k h
def zjl : LCode := (.region [⟨some 25, .bin .add (.t 10) (.c (.int .i64 1)), none⟩,
 ⟨some 10, .mv (.t 25), none⟩])
def zg7 : LCode := (.seq (.region [⟨some 11, .bin .lss (.t 10) (.t 9), none⟩])
 (.seq (.cond (.t 11)
  .skip
  (.exit 0))
 (.seq (.block 1
  (.seq (.region [⟨some 12, .iaddr 6 (.t 8) (.t 10), none⟩,
   ⟨some 13, .load true 6 (.t 12), none⟩,
   ⟨some 7, .alloc [(.int .i64 0), (.int .i64 0), (.int .i64 0), (.int .i64 0), (.int .i64 0), (.int .i64 0)], none⟩,
   ⟨none, .store 6 (.t 7) (.t 13), none⟩])
  (.seq (.region [⟨some 14, .faddr 0 (.t 7), none⟩,
   ⟨some 15, .load true 3 (.t 14), none⟩,
   ⟨some 16, .load true 3 (.t 3), none⟩,
   ⟨some 17, .eq false (.agg [.int, .int, .int]) (.t 15) (.t 16), none⟩])
  (.cond (.t 17)
   (.region [⟨some 18, .mv (.t 5), none⟩,
    ⟨some 19, .mv (.t 0), none⟩,
    ⟨some 20, .faddr 3 (.t 7), none⟩,
    ⟨some 21, .load true 3 (.t 20), none⟩,
    ⟨some 22, .call 30 [(.t 19), (.t 21)], none⟩,
    ⟨some 23, .bin .add (.c (.int .i64 1)) (.t 22), none⟩,
    ⟨some 24, .mnx true [(.t 18), (.t 23)], none⟩,
    ⟨some 5, .mv (.t 24), none⟩])
   .skip))))
 zjl)))
def z84 : LCode := (.seq (.region [⟨some 26, .mv (.t 5), none⟩,
 ⟨some 4, .mv (.t 26), none⟩])
 .ret)
def zk8 : LCode := (.seq (.region [⟨some 3, .box (.t 1), none⟩,
 ⟨some 4, .mv (.c (.int .i64 0)), none⟩])
 (.seq (.region [⟨some 5, .mv (.c (.int .i64 0)), none⟩])
 (.seq (.seq (.region [⟨some 8, .mv (.t 0), none⟩,
  ⟨some 9, .len false (.t 8), none⟩,
  ⟨some 10, .mv (.c (.int .i64 0)), none⟩])
 (.block 0
  (.loop
   zg7)))
 z84)))
def Qc : Lay := ⟨27, [], false⟩
def zb7 : List LRes := [.t 4]
def zp6 : LFn := ⟨2, Qc, zk8, zb7⟩
theorem zm1 : k9 Try.prog [] 30 = some zp6 := by kernel_rfl
theorem zkl : Y8 Try.prog 30 := ⟨_, Try.func30, rfl, rfl⟩
def zi6 (a0 : List G_QEdge) (a1 : G_QKey) (o : Int) : Exit → Env → AHeap → Nat → Prop := Xg zb7 (wu (.int .i64 o))
def W9 (a0 : List G_QEdge) (a1 : G_QKey) (s : (Int × Int)) : Env := [(0, .isl 6 (a0.map z7) false), (3, .ptr (0, 0) 0 0), (5, .int .i64 s.1), (8, .isl 6 (a0.map z7) false), (9, .int .i64 ((a0.map z7).length : Int)), (10, .int .i64 s.2)]
def Kl (a0 : List G_QEdge) (a1 : G_QKey) (s : (Int × Int)) : AHeap := [((0, 0), .one [.int .i64 a1.f_Kind, .int .i64 a1.f_A, .int .i64 a1.f_B])]
def z1h (a0 : List G_QEdge) (a1 : G_QKey) (o : Int) : Exit → Env → AHeap → Nat → Prop := (yv 0 (uv Try.prog Qc 0 z84 (zi6 a0 a1 o)))
noncomputable def jv (m : Option Nat) (a0 : List G_QEdge) (a1 : G_QKey) (v4 : Int) (v8 : Int) : Option ((Int × Int) ⊕ Int) :=
 some (.inl (v8, (W (v4 + 1))))
theorem z35 {a0 : List G_QEdge} {a1 : G_QKey} {v4 : Int} {v8 : Int} {m : Option Nat} {o : ((Int × Int) ⊕ Int)} (h : jv m a0 a1 v4 v8 = some o) :
 LWp Try.prog Qc 0 zjl (wj 0 1 (W9 a0 a1) (Kl a0 a1) (z1h a0 a1) o) [(0, .isl 6 (a0.map z7) false), (3, .ptr (0, 0) 0 0), (5, .int .i64 v8), (8, .isl 6 (a0.map z7) false), (9, .int .i64 ((a0.map z7).length : Int)), (10, .int .i64 v4)] [((0, 0), .one [.int .i64 a1.f_Kind, .int .i64 a1.f_A, .int .i64 a1.f_B])] 1 := by
 unfold jv at h
 refine y8 ?_
 cases h
 exact And.intro rfl (jh (M := [((0, 0), (0, 0))]) rfl (And.intro (Vw.same _ rfl) (And.intro (Vw.ptr _ _ _ _ rfl) (And.intro (Vw.same _ rfl) (And.intro (Vw.same _ rfl) (And.intro (Vw.same _ rfl) (And.intro (Vw.same _ rfl) trivial)))))) (And.intro (And.intro rfl (BVw.oneL (And.intro (Vw.same _ rfl) (And.intro (Vw.same _ rfl) (And.intro (Vw.same _ rfl) trivial))))) trivial))
noncomputable def wq (m : Option Nat) (v3 : Int) : Option Int :=
 some v3
noncomputable def jw (m : Option Nat) (a0 : List G_QEdge) (a1 : G_QKey) (v3 : Int) (v4 : Int) : Option ((Int × Int) ⊕ Int) :=
 if (decide (v4 < ((a0.map z7).length : Int))) = true then
  if (0 : Int) ≤ v4 ∧ v4 < ((a0.map z7).length : Int) then
  if ((((a0.getD v4.toNat default).f_From).f_Kind == a1.f_Kind) && ((((a0.getD v4.toNat default).f_From).f_A == a1.f_A) && ((((a0.getD v4.toNat default).f_From).f_B == a1.f_B) && true))) = true then
   (qz m a0 (G_QKey.mk (((a0.getD v4.toNat default).f_To).f_Kind) (((a0.getD v4.toNat default).f_To).f_A) (((a0.getD v4.toNat default).f_To).f_B))).bind fun v7 =>
   jv m a0 a1 v4 (if (W ((1 : Int) + v7)) > v3 then (W ((1 : Int) + v7)) else v3)
  else
   jv m a0 a1 v4 v3
  else none
 else
  Option.map Sum.inr (
   wq m v3)
noncomputable def kl (m : Option Nat) (a0 : List G_QEdge) (a1 : G_QKey) (v3 : Int) (v4 : Int) : Option Int := u5 m (fun (s : (Int × Int)) => jw m a0 a1 s.1 s.2) (v3, v4)
theorem zc7 {a0 : List G_QEdge} {a1 : G_QKey} {v3 : Int} {m : Option Nat} {o : Int} (h : wq m v3 = some o) :
 LWp Try.prog Qc 0 z84 (zi6 a0 a1 o) [(5, .int .i64 v3)] [] 0 := by
 unfold wq at h
 refine zl ?_
 refine y8 ?_
 refine Ze ?_
 cases h
 exact And.intro trivial (And.intro rfl (Vw.same _ rfl))
theorem z9g {a0 : List G_QEdge} {a1 : G_QKey} {v3 : Int} {v4 : Int} {m : Option Nat} {o : (Int × Int) ⊕ Int} (h : jw m a0 a1 v3 v4 = some o) :
 LWp Try.prog Qc 0 zg7 (wj 0 1 (W9 a0 a1) (Kl a0 a1) (z1h a0 a1) o) [(0, .isl 6 (a0.map z7) false), (3, .ptr (0, 0) 0 0), (5, .int .i64 v3), (8, .isl 6 (a0.map z7) false), (9, .int .i64 ((a0.map z7).length : Int)), (10, .int .i64 v4)] [((0, 0), .one [.int .i64 a1.f_Kind, .int .i64 a1.f_A, .int .i64 a1.f_B])] 1 := by
 unfold jw at h
 refine zl ?_
 refine y8 ?_
 refine zl ?_
 refine w5 (v := (decide (v4 < ((a0.map z7).length : Int)))) rfl trivial (fun h9 => ?_) (fun h9 => ?_)
 ·have h := q7 h9 h
  refine w7 ?_
  refine zl ?_
  refine j8 ?_
  refine zl ?_
  refine y8 ?_
  obtain ⟨h10, h⟩ := y4 h
  refine And.intro h10 ?_
  refine Exists.intro (z7 (a0.getD v4.toNat default)) (And.intro (jm z7 _ _ (wx z7 h10)) (And.intro (And.intro (kw h10) (Nat.le_of_ble_eq_true rfl)) ?_))
  refine zl ?_
  refine y8 ?_
  refine LWp.sim (e := [(0, .isl 6 (a0.map z7) false), (3, .ptr (0, 0) 0 0), (5, .int .i64 v3), (7, .ptr (1, 0) 0 0), (8, .isl 6 (a0.map z7) false), (9, .int .i64 ((a0.map z7).length : Int)), (10, .int .i64 v4), (17, .bool ((((a0.getD v4.toNat default).f_From).f_Kind == a1.f_Kind) && ((((a0.getD v4.toNat default).f_From).f_A == a1.f_A) && ((((a0.getD v4.toNat default).f_From).f_B == a1.f_B) && true))))]) (L := [((0, 0), .one [.int .i64 a1.f_Kind, .int .i64 a1.f_A, .int .i64 a1.f_B]), ((1, 0), .one [.int .i64 (((a0.getD v4.toNat default).f_From).f_Kind), .int .i64 (((a0.getD v4.toNat default).f_From).f_A), .int .i64 (((a0.getD v4.toNat default).f_From).f_B), .int .i64 (((a0.getD v4.toNat default).f_To).f_Kind), .int .i64 (((a0.getD v4.toNat default).f_To).f_A), .int .i64 (((a0.getD v4.toNat default).f_To).f_B)])]) (n := 2) ?_ ?_
  ·exact jh (M := [((0, 0), (0, 0)), ((1, 0), (1, 0))]) rfl (And.intro (Vw.same _ rfl) (And.intro (Vw.ptr _ _ _ _ rfl) (And.intro (Vw.same _ rfl) (And.intro (Vw.ptr _ _ _ _ rfl) (And.intro (Vw.same _ rfl) (And.intro (Vw.same _ rfl) (And.intro (Vw.same _ rfl) (And.intro (Vw.same _ rfl) trivial)))))))) (And.intro (And.intro rfl (BVw.oneL (And.intro (Vw.same _ rfl) (And.intro (Vw.same _ rfl) (And.intro (Vw.same _ rfl) trivial))))) (And.intro (And.intro rfl (BVw.oneL (And.intro (Vw.same _ rfl) (And.intro (Vw.same _ rfl) (And.intro (Vw.same _ rfl) (And.intro (Vw.same _ rfl) (And.intro (Vw.same _ rfl) (And.intro (Vw.same _ rfl) trivial)))))))) trivial))
  refine w5 (v := ((((a0.getD v4.toNat default).f_From).f_Kind == a1.f_Kind) && ((((a0.getD v4.toNat default).f_From).f_A == a1.f_A) && ((((a0.getD v4.toNat default).f_From).f_B == a1.f_B) && true)))) rfl trivial (fun h11 => ?_) (fun h11 => ?_)
  ·have h := q7 h11 h
   refine y8 ?_
   obtain ⟨v7, h12, h⟩ := bind_some h
   refine Ya (k := 3) (m := 0) (L' := []) (rest := [((0, 0), .one [.int .i64 a1.f_Kind, .int .i64 a1.f_A, .int .i64 a1.f_B]), ((1, 0), .one [.int .i64 (((a0.getD v4.toNat default).f_From).f_Kind), .int .i64 (((a0.getD v4.toNat default).f_From).f_A), .int .i64 (((a0.getD v4.toNat default).f_From).f_B), .int .i64 (((a0.getD v4.toNat default).f_To).f_Kind), .int .i64 (((a0.getD v4.toNat default).f_To).f_A), .int .i64 (((a0.getD v4.toNat default).f_To).f_B)])]) (R' := .int .i64 v7) [] (z4h h12) rfl rfl rfl (And.intro (Vw.same _ rfl) (And.intro (Vw.same _ rfl) trivial)) trivial (k8 _ rfl) trivial rfl ?_
   show Q5 _ _ _ [(22, .int .i64 v7), (21, .agg [.int .i64 (((a0.getD v4.toNat default).f_To).f_Kind), .int .i64 (((a0.getD v4.toNat default).f_To).f_A), .int .i64 (((a0.getD v4.toNat default).f_To).f_B)]), (20, .ptr (1, 0) 0 3), (19, .isl 6 (a0.map z7) false), (18, .int .i64 v3), (0, .isl 6 (a0.map z7) false), (3, .ptr (0, 0) 0 0), (5, .int .i64 v3), (7, .ptr (1, 0) 0 0), (8, .isl 6 (a0.map z7) false), (9, .int .i64 ((a0.map z7).length : Int)), (10, .int .i64 v4), (17, .bool ((((a0.getD v4.toNat default).f_From).f_Kind == a1.f_Kind) && ((((a0.getD v4.toNat default).f_From).f_A == a1.f_A) && ((((a0.getD v4.toNat default).f_From).f_B == a1.f_B) && true))))] _ _
   refine LWp.sim ?_ (z35 h)
   exact jh (M := [((0, 0), (0, 0))]) rfl (And.intro (Vw.same _ rfl) (And.intro (Vw.ptr _ _ _ _ rfl) (And.intro (Vw.same _ rfl) (And.intro (Vw.same _ rfl) (And.intro (Vw.same _ rfl) (And.intro (Vw.same _ rfl) trivial)))))) (And.intro (And.intro rfl (BVw.oneL (And.intro (Vw.same _ rfl) (And.intro (Vw.same _ rfl) (And.intro (Vw.same _ rfl) trivial))))) trivial)
  ·have h := qq h11 h
   refine w7 ?_
   refine LWp.sim ?_ (z35 h)
   exact jh (M := [((0, 0), (0, 0))]) rfl (And.intro (Vw.same _ rfl) (And.intro (Vw.ptr _ _ _ _ rfl) (And.intro (Vw.same _ rfl) (And.intro (Vw.same _ rfl) (And.intro (Vw.same _ rfl) (And.intro (Vw.same _ rfl) trivial)))))) (And.intro (And.intro rfl (BVw.oneL (And.intro (Vw.same _ rfl) (And.intro (Vw.same _ rfl) (And.intro (Vw.same _ rfl) trivial))))) trivial)
 ·have h := qq h9 h
  refine Zp ?_
  obtain ⟨o, hq, rfl⟩ := Option.map_eq_some_iff.1 h
  replace h := hq; clear hq
  refine And.intro nofun ?_
  refine LWp.sim ?_ (zc7 h)
  exact jh (M := []) rfl (And.intro (Vw.same _ rfl) trivial) trivial
theorem zf5 {a0 : List G_QEdge} {a1 : G_QKey} {v3 : Int} {v4 : Int} {m : Option Nat} {o : Int} (h : kl m a0 a1 v3 v4 = some o) :
 LWp Try.prog Qc 0 (.loop zg7) (yv 0 (uv Try.prog Qc 0 z84 (zi6 a0 a1 o))) [(0, .isl 6 (a0.map z7) false), (3, .ptr (0, 0) 0 0), (5, .int .i64 v3), (8, .isl 6 (a0.map z7) false), (9, .int .i64 ((a0.map z7).length : Int)), (10, .int .i64 v4)] [((0, 0), .one [.int .i64 a1.f_Kind, .int .i64 a1.f_A, .int .i64 a1.f_B])] 1 :=
 j0 (m := m) (s := ((v3, v4) : (Int × Int))) (r := o) (fun (s : (Int × Int)) => jw m a0 a1 s.1 s.2) (W9 a0 a1) (Kl a0 a1) (z1h a0 a1) (fun s o h => z9g h) h
noncomputable def vt (m : Option Nat) (a0 : List G_QEdge) (a1 : G_QKey) : Option Int :=
 kl m a0 a1 0 0
theorem zck {a0 : List G_QEdge} {a1 : G_QKey} {m : Option Nat} {o : Int} (h : vt m a0 a1 = some o) : LWp Try.prog Qc 0 zk8 (zi6 a0 a1 o) (qx 0 [.isl 6 (a0.map z7) false, .agg [.int .i64 a1.f_Kind, .int .i64 a1.f_A, .int .i64 a1.f_B]]) [] 0 := by
 unfold vt at h
 refine zl ?_
 refine y8 ?_
 refine zl ?_
 refine y8 ?_
 refine zl ?_
 refine zl ?_
 refine y8 ?_
 refine j8 ?_
 refine LWp.sim ?_ (zf5 h)
 exact jh (M := [((0, 0), (0, 0))]) rfl (And.intro (Vw.same _ rfl) (And.intro (Vw.ptr _ _ _ _ rfl) (And.intro (Vw.same _ rfl) (And.intro (Vw.same _ rfl) (And.intro (Vw.same _ rfl) (And.intro (Vw.same _ rfl) trivial)))))) (And.intro (And.intro rfl (BVw.oneL (And.intro (Vw.same _ rfl) (And.intro (Vw.same _ rfl) (And.intro (Vw.same _ rfl) trivial))))) trivial)
theorem zqs {a0 : List G_QEdge} {a1 : G_QKey} {m : Option Nat} {o : Int} (h : vt m a0 a1 = some o) : PFn Try.prog 30 [.isl 6 (a0.map z7) false, .agg [.int .i64 a1.f_Kind, .int .i64 a1.f_A, .int .i64 a1.f_B]] (.int .i64 o) := PFn.ofFnW (L := zp6) zm1 zkl (Nat.le_of_ble_eq_true rfl) rfl (zck h)
def zkf : LCode := (.region [⟨some 31, .bin .add (.t 18) (.c (.int .i64 1)), none⟩,
 ⟨some 18, .mv (.t 31), none⟩])
def zdn : LCode := (.seq (.region [⟨some 19, .bin .lss (.t 18) (.t 17), none⟩])
 (.seq (.cond (.t 19)
  .skip
  (.exit 2))
 (.seq (.block 3
  (.seq (.region [⟨some 20, .iaddr 3 (.t 16) (.t 18), none⟩,
   ⟨some 21, .load true 3 (.t 20), none⟩,
   ⟨some 8, .alloc [(.int .i64 0), (.int .i64 0), (.int .i64 0)], none⟩,
   ⟨none, .store 3 (.t 8) (.t 21), none⟩])
  (.seq (.region [⟨some 22, .mv (.t 0), none⟩,
   ⟨some 23, .load true 3 (.t 8), none⟩,
   ⟨some 24, .call 30 [(.t 22), (.t 23)], none⟩,
   ⟨some 25, .mv (.t 5), none⟩,
   ⟨some 26, .bin .eql (.t 24) (.t 25), none⟩])
  (.cond (.t 26)
   (.region [⟨some 27, .mv (.t 6), none⟩,
    ⟨some 28, .load true 3 (.t 8), none⟩,
    ⟨some 29, .mkSl true 3 [(.int .i64 0), (.int .i64 0), (.int .i64 0)] 1 [(0, (.t 28))], none⟩,
    ⟨some 30, .app true 3 24 (.t 27) (.t 29), none⟩,
    ⟨some 6, .mv (.t 30), none⟩])
   .skip))))
 zkf)))
def z93 : LCode := (.seq (.region [⟨some 32, .mv (.t 6), none⟩,
 ⟨some 33, .len false (.t 32), none⟩,
 ⟨some 34, .bin .gtr (.t 33) (.c (.int .i64 0)), none⟩])
 (.cond (.t 34)
  (.region [⟨some 35, .mv (.t 4), none⟩,
   ⟨some 36, .mv (.t 6), none⟩,
   ⟨some 37, .mkSl true 1 [(.isl 3 [] true)] 1 [(0, (.t 36))], none⟩,
   ⟨some 38, .app true 1 24 (.t 35) (.t 37), none⟩,
   ⟨some 4, .mv (.t 38), none⟩])
  .skip))
def z3n : LCode := (.region [⟨some 39, .bin .add (.t 13) (.c (.int .i64 1)), none⟩,
 ⟨some 13, .mv (.t 39), none⟩])
def zca : LCode := (.seq (.region [⟨some 14, .bin .lss (.t 13) (.t 12), none⟩])
 (.seq (.cond (.t 14)
  .skip
  (.exit 0))
 (.seq (.block 1
  (.seq (.region [⟨some 15, .mv (.t 13), none⟩,
   ⟨some 5, .mv (.t 15), none⟩])
  (.seq (.region [⟨some 6, .mv (.c (.val (.slice none 0 0))), none⟩])
  (.seq (.seq (.region [⟨some 16, .mv (.t 3), none⟩,
   ⟨some 17, .len false (.t 16), none⟩,
   ⟨some 18, .mv (.c (.int .i64 0)), none⟩])
  (.block 2
   (.loop
    zdn)))
  z93))))
 z3n)))
def z8o : LCode := (.seq (.region [⟨some 40, .mv (.t 4), none⟩,
 ⟨some 2, .mv (.t 40), none⟩])
 .ret)
def zjn : LCode := (.seq (.region [⟨some 2, .mv (.c (.val (.slice none 0 0))), none⟩])
 (.seq (.region [⟨some 9, .mv (.t 0), none⟩,
  ⟨some 10, .call 28 [(.t 9)], none⟩,
  ⟨some 3, .mv (.t 10), none⟩])
 (.seq (.region [⟨some 4, .mv (.c (.val (.slice none 0 0))), none⟩])
 (.seq (.seq (.region [⟨some 11, .mv (.t 3), none⟩,
  ⟨some 12, .len false (.t 11), none⟩,
  ⟨some 13, .mv (.c (.int .i64 0)), none⟩])
 (.block 0
  (.loop
   zca)))
 z8o))))
def k6 : Lay := ⟨41, [], false⟩
def zcp : List LRes := [.t 2]
def zog : LFn := ⟨1, k6, zjn, zcp⟩
theorem zlb : k9 Try.prog [] 17 = some zog := by kernel_rfl
theorem zm9 : Y8 Try.prog 17 := ⟨_, Try.func17, rfl, rfl⟩
def zi3 (a0 : List G_QEdge) (o : (List (List G_QKey))) : Exit → Env → AHeap → Nat → Prop := Xg zcp (wu (.isl 1 (o.map za) false))
def Z2 (a0 : List G_QEdge) (v1 : (List G_QKey)) (s : ((List (List G_QKey)) × Int)) : Env := [(0, .isl 6 (a0.map z7) false), (3, .isl 3 (v1.map z6) false), (4, .osl (0, 0) 1 (s.1.map za)), (12, .int .i64 ((v1.map z6).length : Int)), (13, .int .i64 s.2)]
def Yg (a0 : List G_QEdge) (v1 : (List G_QKey)) (s : ((List (List G_QKey)) × Int)) : AHeap := [((0, 0), .tok)]
def Qu (a0 : List G_QEdge) (o : (List (List G_QKey))) : Exit → Env → AHeap → Nat → Prop := (yv 0 (uv Try.prog k6 0 z8o (zi3 a0 o)))
def We (a0 : List G_QEdge) (v1 : (List G_QKey)) (v11 : List (List G_QKey)) (v12 : Int) (s : ((List G_QKey) × Int)) : Env := [(0, .isl 6 (a0.map z7) false), (3, .isl 3 (v1.map z6) false), (4, .osl (0, 0) 1 (v11.map za)), (5, .int .i64 v12), (6, .osl (1, 0) 3 (s.1.map z6)), (12, .int .i64 ((v1.map z6).length : Int)), (13, .int .i64 v12), (16, .isl 3 (v1.map z6) false), (17, .int .i64 ((v1.map z6).length : Int)), (18, .int .i64 s.2)]
def Ke (a0 : List G_QEdge) (v1 : (List G_QKey)) (v11 : List (List G_QKey)) (v12 : Int) (s : ((List G_QKey) × Int)) : AHeap := [((0, 0), .tok), ((1, 0), .tok)]
def z2q (a0 : List G_QEdge) (v1 : (List G_QKey)) (o : (((List (List G_QKey)) × Int) ⊕ (List (List G_QKey)))) : Exit → Env → AHeap → Nat → Prop := (yv 2 (uv Try.prog k6 0 z93 (yv 1 (uv Try.prog k6 0 z3n (wj 0 1 (Z2 a0 v1) (Yg a0 v1) (Qu a0) o)))))
noncomputable def xn (m : Option Nat) (a0 : List G_QEdge) (v1 : (List G_QKey)) (v11 : List (List G_QKey)) (v12 : Int) (v25 : Int) (v29 : List G_QKey) : Option (((List G_QKey) × Int) ⊕ (((List (List G_QKey)) × Int) ⊕ (List (List G_QKey)))) :=
 some (.inl (v29, (W (v25 + 1))))
theorem z0k {a0 : List G_QEdge} {v1 : (List G_QKey)} {v11 : List (List G_QKey)} {v12 : Int} {v25 : Int} {v29 : List G_QKey} {m : Option Nat} {o : (((List G_QKey) × Int) ⊕ (((List (List G_QKey)) × Int) ⊕ (List (List G_QKey))))} (h : xn m a0 v1 v11 v12 v25 v29 = some o) :
 LWp Try.prog k6 0 zkf (wj 0 2 (We a0 v1 v11 v12) (Ke a0 v1 v11 v12) (z2q a0 v1) o) [(0, .isl 6 (a0.map z7) false), (3, .isl 3 (v1.map z6) false), (4, .osl (0, 0) 1 (v11.map za)), (5, .int .i64 v12), (6, .osl (1, 0) 3 (v29.map z6)), (12, .int .i64 ((v1.map z6).length : Int)), (13, .int .i64 v12), (16, .isl 3 (v1.map z6) false), (17, .int .i64 ((v1.map z6).length : Int)), (18, .int .i64 v25)] [((0, 0), .tok), ((1, 0), .tok)] 2 := by
 unfold xn at h
 refine y8 ?_
 cases h
 exact And.intro rfl (jh (M := [((0, 0), (0, 0)), ((1, 0), (1, 0))]) rfl (And.intro (Vw.same _ rfl) (And.intro (Vw.same _ rfl) (And.intro (Vw.osl _ _ _ _ rfl) (And.intro (Vw.same _ rfl) (And.intro (Vw.osl _ _ _ _ rfl) (And.intro (Vw.same _ rfl) (And.intro (Vw.same _ rfl) (And.intro (Vw.same _ rfl) (And.intro (Vw.same _ rfl) (And.intro (Vw.same _ rfl) trivial)))))))))) (And.intro (And.intro rfl BVw.tok) (And.intro (And.intro rfl BVw.tok) trivial)))
noncomputable def xp (m : Option Nat) (a0 : List G_QEdge) (v1 : (List G_QKey)) (v12 : Int) (v30 : List (List G_QKey)) : Option (((List (List G_QKey)) × Int) ⊕ (List (List G_QKey))) :=
 some (.inl (v30, (W (v12 + 1))))
noncomputable def yu (m : Option Nat) (a0 : List G_QEdge) (v1 : (List G_QKey)) (v11 : List (List G_QKey)) (v12 : Int) (v24 : List G_QKey) : Option (((List (List G_QKey)) × Int) ⊕ (List (List G_QKey))) :=
 if (decide (((v24.map z6).length : Int) > 0)) = true then
  if ((v11 ++ ([v24] : List (List G_QKey))).map za).length * 24 ≤ 140737488355328 then
  xp m a0 v1 v12 (v11 ++ ([v24] : List (List G_QKey)))
  else none
 else
  xp m a0 v1 v12 v11
noncomputable def q8 (m : Option Nat) (a0 : List G_QEdge) (v1 : (List G_QKey)) (v11 : List (List G_QKey)) (v12 : Int) (v24 : List G_QKey) (v25 : Int) : Option (((List G_QKey) × Int) ⊕ (((List (List G_QKey)) × Int) ⊕ (List (List G_QKey)))) :=
 if (decide (v25 < ((v1.map z6).length : Int))) = true then
  if (0 : Int) ≤ v25 ∧ v25 < ((v1.map z6).length : Int) then
  (qz m a0 (G_QKey.mk ((v1.getD v25.toNat default).f_Kind) ((v1.getD v25.toNat default).f_A) ((v1.getD v25.toNat default).f_B))).bind fun v28 =>
  if (v28 == v12) = true then
   if ((v24 ++ ([(G_QKey.mk ((v1.getD v25.toNat default).f_Kind) ((v1.getD v25.toNat default).f_A) ((v1.getD v25.toNat default).f_B))] : List G_QKey)).map z6).length * 24 ≤ 140737488355328 then
   xn m a0 v1 v11 v12 v25 (v24 ++ ([(G_QKey.mk ((v1.getD v25.toNat default).f_Kind) ((v1.getD v25.toNat default).f_A) ((v1.getD v25.toNat default).f_B))] : List G_QKey))
   else none
  else
   xn m a0 v1 v11 v12 v25 v24
  else none
 else
  Option.map Sum.inr (
   yu m a0 v1 v11 v12 v24)
noncomputable def xy (m : Option Nat) (a0 : List G_QEdge) (v1 : (List G_QKey)) (v11 : List (List G_QKey)) (v12 : Int) (v24 : List G_QKey) (v25 : Int) : Option (((List (List G_QKey)) × Int) ⊕ (List (List G_QKey))) := u5 m (fun (s : ((List G_QKey) × Int)) => q8 m a0 v1 v11 v12 s.1 s.2) (v24, v25)
theorem Uz {a0 : List G_QEdge} {v1 : (List G_QKey)} {v12 : Int} {v30 : List (List G_QKey)} {m : Option Nat} {o : (((List (List G_QKey)) × Int) ⊕ (List (List G_QKey)))} (h : xp m a0 v1 v12 v30 = some o) :
 LWp Try.prog k6 0 z3n (wj 0 1 (Z2 a0 v1) (Yg a0 v1) (Qu a0) o) [(0, .isl 6 (a0.map z7) false), (3, .isl 3 (v1.map z6) false), (4, .osl (0, 0) 1 (v30.map za)), (12, .int .i64 ((v1.map z6).length : Int)), (13, .int .i64 v12)] [((0, 0), .tok)] 1 := by
 unfold xp at h
 refine y8 ?_
 cases h
 exact And.intro rfl (jh (M := [((0, 0), (0, 0))]) rfl (And.intro (Vw.same _ rfl) (And.intro (Vw.same _ rfl) (And.intro (Vw.osl _ _ _ _ rfl) (And.intro (Vw.same _ rfl) (And.intro (Vw.same _ rfl) trivial))))) (And.intro (And.intro rfl BVw.tok) trivial))
theorem zaw {a0 : List G_QEdge} {v1 : (List G_QKey)} {v11 : List (List G_QKey)} {v12 : Int} {v24 : List G_QKey} {m : Option Nat} {o : (((List (List G_QKey)) × Int) ⊕ (List (List G_QKey)))} (h : yu m a0 v1 v11 v12 v24 = some o) :
 LWp Try.prog k6 0 z93 (yv 1 (uv Try.prog k6 0 z3n (wj 0 1 (Z2 a0 v1) (Yg a0 v1) (Qu a0) o))) [(0, .isl 6 (a0.map z7) false), (3, .isl 3 (v1.map z6) false), (4, .osl (0, 0) 1 (v11.map za)), (6, .osl (1, 0) 3 (v24.map z6)), (12, .int .i64 ((v1.map z6).length : Int)), (13, .int .i64 v12)] [((0, 0), .tok), ((1, 0), .tok)] 2 := by
 unfold yu at h
 refine zl ?_
 refine y8 ?_
 refine w5 (v := (decide (((v24.map z6).length : Int) > 0))) rfl trivial (fun h54 => ?_) (fun h54 => ?_)
 ·have h := q7 h54 h
  refine y8 ?_
  obtain ⟨h55, h⟩ := y4 h
  refine Exists.intro ((v11 ++ ([v24] : List (List G_QKey))).map za) (And.intro (Qg za v11 ([v24] : List (List G_QKey))) (And.intro h55 ?_))
  refine LWp.sim ?_ (Uz h)
  exact jh (M := [((0, 0), (2, 0))]) rfl (And.intro (Vw.same _ rfl) (And.intro (Vw.same _ rfl) (And.intro (Vw.osl _ _ _ _ rfl) (And.intro (Vw.same _ rfl) (And.intro (Vw.same _ rfl) trivial))))) (And.intro (And.intro rfl BVw.tok) trivial)
 ·have h := qq h54 h
  refine w7 ?_
  refine LWp.sim ?_ (Uz h)
  exact jh (M := [((0, 0), (0, 0))]) rfl (And.intro (Vw.same _ rfl) (And.intro (Vw.same _ rfl) (And.intro (Vw.osl _ _ _ _ rfl) (And.intro (Vw.same _ rfl) (And.intro (Vw.same _ rfl) trivial))))) (And.intro (And.intro rfl BVw.tok) trivial)
theorem zac {a0 : List G_QEdge} {v1 : (List G_QKey)} {v11 : List (List G_QKey)} {v12 : Int} {v24 : List G_QKey} {v25 : Int} {m : Option Nat} {o : ((List G_QKey) × Int) ⊕ (((List (List G_QKey)) × Int) ⊕ (List (List G_QKey)))} (h : q8 m a0 v1 v11 v12 v24 v25 = some o) :
 LWp Try.prog k6 0 zdn (wj 0 2 (We a0 v1 v11 v12) (Ke a0 v1 v11 v12) (z2q a0 v1) o) [(0, .isl 6 (a0.map z7) false), (3, .isl 3 (v1.map z6) false), (4, .osl (0, 0) 1 (v11.map za)), (5, .int .i64 v12), (6, .osl (1, 0) 3 (v24.map z6)), (12, .int .i64 ((v1.map z6).length : Int)), (13, .int .i64 v12), (16, .isl 3 (v1.map z6) false), (17, .int .i64 ((v1.map z6).length : Int)), (18, .int .i64 v25)] [((0, 0), .tok), ((1, 0), .tok)] 2 := by
 unfold q8 at h
 refine zl ?_
 refine y8 ?_
 refine zl ?_
 refine w5 (v := (decide (v25 < ((v1.map z6).length : Int)))) rfl trivial (fun h49 => ?_) (fun h49 => ?_)
 ·have h := q7 h49 h
  refine w7 ?_
  refine zl ?_
  refine j8 ?_
  refine zl ?_
  refine y8 ?_
  obtain ⟨h50, h⟩ := y4 h
  refine And.intro h50 ?_
  refine Exists.intro (z6 (v1.getD v25.toNat default)) (And.intro (jm z6 _ _ (wx z6 h50)) (And.intro (And.intro (kw h50) (Nat.le_of_ble_eq_true rfl)) ?_))
  refine zl ?_
  refine y8 ?_
  obtain ⟨v28, h51, h⟩ := bind_some h
  refine Ya (k := 3) (m := 0) (L' := []) (rest := [((2, 0), .one [.int .i64 ((v1.getD v25.toNat default).f_Kind), .int .i64 ((v1.getD v25.toNat default).f_A), .int .i64 ((v1.getD v25.toNat default).f_B)]), ((0, 0), .tok), ((1, 0), .tok)]) (R' := .int .i64 v28) [] (z4h h51) rfl rfl rfl (And.intro (Vw.same _ rfl) (And.intro (Vw.same _ rfl) trivial)) trivial (k8 _ rfl) trivial rfl ?_
  show Q5 _ _ _ [(24, .int .i64 v28), (23, .agg [.int .i64 ((v1.getD v25.toNat default).f_Kind), .int .i64 ((v1.getD v25.toNat default).f_A), .int .i64 ((v1.getD v25.toNat default).f_B)]), (22, .isl 6 (a0.map z7) false), (8, .ptr (2, 0) 0 0), (21, .agg [.int .i64 ((v1.getD v25.toNat default).f_Kind), .int .i64 ((v1.getD v25.toNat default).f_A), .int .i64 ((v1.getD v25.toNat default).f_B)]), (20, .iptr 3 (v1.map z6) v25.toNat 0), (19, .bool (decide (v25 < ((v1.map z6).length : Int)))), (0, .isl 6 (a0.map z7) false), (3, .isl 3 (v1.map z6) false), (4, .osl (0, 0) 1 (v11.map za)), (5, .int .i64 v12), (6, .osl (1, 0) 3 (v24.map z6)), (12, .int .i64 ((v1.map z6).length : Int)), (13, .int .i64 v12), (16, .isl 3 (v1.map z6) false), (17, .int .i64 ((v1.map z6).length : Int)), (18, .int .i64 v25)] _ _
  refine LWp.sim (e := [(0, .isl 6 (a0.map z7) false), (3, .isl 3 (v1.map z6) false), (4, .osl (0, 0) 1 (v11.map za)), (5, .int .i64 v12), (6, .osl (1, 0) 3 (v24.map z6)), (8, .ptr (2, 0) 0 0), (12, .int .i64 ((v1.map z6).length : Int)), (13, .int .i64 v12), (16, .isl 3 (v1.map z6) false), (17, .int .i64 ((v1.map z6).length : Int)), (18, .int .i64 v25), (26, .bool (v28 == v12))]) (L := [((0, 0), .tok), ((1, 0), .tok), ((2, 0), .one [.int .i64 ((v1.getD v25.toNat default).f_Kind), .int .i64 ((v1.getD v25.toNat default).f_A), .int .i64 ((v1.getD v25.toNat default).f_B)])]) (n := 3) ?_ ?_
  ·exact jh (M := [((0, 0), (0, 0)), ((1, 0), (1, 0)), ((2, 0), (2, 0))]) rfl (And.intro (Vw.same _ rfl) (And.intro (Vw.same _ rfl) (And.intro (Vw.osl _ _ _ _ rfl) (And.intro (Vw.same _ rfl) (And.intro (Vw.osl _ _ _ _ rfl) (And.intro (Vw.ptr _ _ _ _ rfl) (And.intro (Vw.same _ rfl) (And.intro (Vw.same _ rfl) (And.intro (Vw.same _ rfl) (And.intro (Vw.same _ rfl) (And.intro (Vw.same _ rfl) (And.intro (Vw.same _ rfl) trivial)))))))))))) (And.intro (And.intro rfl BVw.tok) (And.intro (And.intro rfl BVw.tok) (And.intro (And.intro rfl (BVw.oneL (And.intro (Vw.same _ rfl) (And.intro (Vw.same _ rfl) (And.intro (Vw.same _ rfl) trivial))))) trivial)))
  refine w5 (v := (v28 == v12)) rfl trivial (fun h52 => ?_) (fun h52 => ?_)
  ·have h := q7 h52 h
   refine y8 ?_
   obtain ⟨h53, h⟩ := y4 h
   refine Exists.intro ((v24 ++ ([(G_QKey.mk ((v1.getD v25.toNat default).f_Kind) ((v1.getD v25.toNat default).f_A) ((v1.getD v25.toNat default).f_B))] : List G_QKey)).map z6) (And.intro (Qg z6 v24 ([(G_QKey.mk ((v1.getD v25.toNat default).f_Kind) ((v1.getD v25.toNat default).f_A) ((v1.getD v25.toNat default).f_B))] : List G_QKey)) (And.intro h53 ?_))
   refine LWp.sim ?_ (z0k h)
   exact jh (M := [((0, 0), (0, 0)), ((1, 0), (3, 0))]) rfl (And.intro (Vw.same _ rfl) (And.intro (Vw.same _ rfl) (And.intro (Vw.osl _ _ _ _ rfl) (And.intro (Vw.same _ rfl) (And.intro (Vw.osl _ _ _ _ rfl) (And.intro (Vw.same _ rfl) (And.intro (Vw.same _ rfl) (And.intro (Vw.same _ rfl) (And.intro (Vw.same _ rfl) (And.intro (Vw.same _ rfl) trivial)))))))))) (And.intro (And.intro rfl BVw.tok) (And.intro (And.intro rfl BVw.tok) trivial))
  ·have h := qq h52 h
   refine w7 ?_
   refine LWp.sim ?_ (z0k h)
   exact jh (M := [((0, 0), (0, 0)), ((1, 0), (1, 0))]) rfl (And.intro (Vw.same _ rfl) (And.intro (Vw.same _ rfl) (And.intro (Vw.osl _ _ _ _ rfl) (And.intro (Vw.same _ rfl) (And.intro (Vw.osl _ _ _ _ rfl) (And.intro (Vw.same _ rfl) (And.intro (Vw.same _ rfl) (And.intro (Vw.same _ rfl) (And.intro (Vw.same _ rfl) (And.intro (Vw.same _ rfl) trivial)))))))))) (And.intro (And.intro rfl BVw.tok) (And.intro (And.intro rfl BVw.tok) trivial))
 ·have h := qq h49 h
  refine Zp ?_
  obtain ⟨o, hq, rfl⟩ := Option.map_eq_some_iff.1 h
  replace h := hq; clear hq
  refine And.intro nofun ?_
  refine LWp.sim ?_ (zaw h)
  exact jh (M := [((0, 0), (0, 0)), ((1, 0), (1, 0))]) rfl (And.intro (Vw.same _ rfl) (And.intro (Vw.same _ rfl) (And.intro (Vw.osl _ _ _ _ rfl) (And.intro (Vw.osl _ _ _ _ rfl) (And.intro (Vw.same _ rfl) (And.intro (Vw.same _ rfl) trivial)))))) (And.intro (And.intro rfl BVw.tok) (And.intro (And.intro rfl BVw.tok) trivial))
theorem zg2 {a0 : List G_QEdge} {v1 : (List G_QKey)} {v11 : List (List G_QKey)} {v12 : Int} {v24 : List G_QKey} {v25 : Int} {m : Option Nat} {o : (((List (List G_QKey)) × Int) ⊕ (List (List G_QKey)))} (h : xy m a0 v1 v11 v12 v24 v25 = some o) :
 LWp Try.prog k6 0 (.loop zdn) (yv 2 (uv Try.prog k6 0 z93 (yv 1 (uv Try.prog k6 0 z3n (wj 0 1 (Z2 a0 v1) (Yg a0 v1) (Qu a0) o))))) [(0, .isl 6 (a0.map z7) false), (3, .isl 3 (v1.map z6) false), (4, .osl (0, 0) 1 (v11.map za)), (5, .int .i64 v12), (6, .osl (1, 0) 3 (v24.map z6)), (12, .int .i64 ((v1.map z6).length : Int)), (13, .int .i64 v12), (16, .isl 3 (v1.map z6) false), (17, .int .i64 ((v1.map z6).length : Int)), (18, .int .i64 v25)] [((0, 0), .tok), ((1, 0), .tok)] 2 :=
 j0 (m := m) (s := ((v24, v25) : ((List G_QKey) × Int))) (r := o) (fun (s : ((List G_QKey) × Int)) => q8 m a0 v1 v11 v12 s.1 s.2) (We a0 v1 v11 v12) (Ke a0 v1 v11 v12) (z2q a0 v1) (fun s o h => zac h) h
noncomputable def jl (m : Option Nat) (v11 : List (List G_QKey)) : Option (List (List G_QKey)) :=
 some v11
noncomputable def q9 (m : Option Nat) (a0 : List G_QEdge) (v1 : (List G_QKey)) (v11 : List (List G_QKey)) (v12 : Int) : Option (((List (List G_QKey)) × Int) ⊕ (List (List G_QKey))) :=
 if (decide (v12 < ((v1.map z6).length : Int))) = true then
  xy m a0 v1 v11 v12 [] 0
 else
  Option.map Sum.inr (
   jl m v11)
noncomputable def j4 (m : Option Nat) (a0 : List G_QEdge) (v1 : (List G_QKey)) (v11 : List (List G_QKey)) (v12 : Int) : Option (List (List G_QKey)) := u5 m (fun (s : ((List (List G_QKey)) × Int)) => q9 m a0 v1 s.1 s.2) (v11, v12)
theorem zap {a0 : List G_QEdge} {v11 : List (List G_QKey)} {m : Option Nat} {o : (List (List G_QKey))} (h : jl m v11 = some o) :
 LWp Try.prog k6 0 z8o (zi3 a0 o) [(4, .osl (0, 0) 1 (v11.map za))] [((0, 0), .tok)] 1 := by
 unfold jl at h
 refine zl ?_
 refine y8 ?_
 refine Ze ?_
 cases h
 exact And.intro trivial (And.intro rfl (Vw.oslI _ _ _))
theorem z9o {a0 : List G_QEdge} {v1 : (List G_QKey)} {v11 : List (List G_QKey)} {v12 : Int} {m : Option Nat} {o : ((List (List G_QKey)) × Int) ⊕ (List (List G_QKey))} (h : q9 m a0 v1 v11 v12 = some o) :
 LWp Try.prog k6 0 zca (wj 0 1 (Z2 a0 v1) (Yg a0 v1) (Qu a0) o) [(0, .isl 6 (a0.map z7) false), (3, .isl 3 (v1.map z6) false), (4, .osl (0, 0) 1 (v11.map za)), (12, .int .i64 ((v1.map z6).length : Int)), (13, .int .i64 v12)] [((0, 0), .tok)] 1 := by
 unfold q9 at h
 refine zl ?_
 refine y8 ?_
 refine zl ?_
 refine w5 (v := (decide (v12 < ((v1.map z6).length : Int)))) rfl trivial (fun h38 => ?_) (fun h38 => ?_)
 ·have h := q7 h38 h
  refine w7 ?_
  refine zl ?_
  refine j8 ?_
  refine zl ?_
  refine y8 ?_
  refine zl ?_
  refine y8 ?_
  refine zl ?_
  refine zl ?_
  refine y8 ?_
  refine j8 ?_
  refine LWp.sim ?_ (zg2 h)
  exact jh (M := [((0, 0), (0, 0))]) rfl (And.intro (Vw.same _ rfl) (And.intro (Vw.same _ rfl) (And.intro (Vw.osl _ _ _ _ rfl) (And.intro (Vw.same _ rfl) (And.intro (Vw.nilO _ _ (by decide)) (And.intro (Vw.same _ rfl) (And.intro (Vw.same _ rfl) (And.intro (Vw.same _ rfl) (And.intro (Vw.same _ rfl) (And.intro (Vw.same _ rfl) trivial)))))))))) (And.intro (And.intro rfl BVw.tok) (And.intro (And.intro rfl (And.intro (by decide) (by decide))) trivial))
 ·have h := qq h38 h
  refine Zp ?_
  obtain ⟨o, hq, rfl⟩ := Option.map_eq_some_iff.1 h
  replace h := hq; clear hq
  refine And.intro nofun ?_
  refine LWp.sim ?_ (zap h)
  exact jh (M := [((0, 0), (0, 0))]) rfl (And.intro (Vw.osl _ _ _ _ rfl) trivial) (And.intro (And.intro rfl BVw.tok) trivial)
theorem zg8 {a0 : List G_QEdge} {v1 : (List G_QKey)} {v11 : List (List G_QKey)} {v12 : Int} {m : Option Nat} {o : (List (List G_QKey))} (h : j4 m a0 v1 v11 v12 = some o) :
 LWp Try.prog k6 0 (.loop zca) (yv 0 (uv Try.prog k6 0 z8o (zi3 a0 o))) [(0, .isl 6 (a0.map z7) false), (3, .isl 3 (v1.map z6) false), (4, .osl (0, 0) 1 (v11.map za)), (12, .int .i64 ((v1.map z6).length : Int)), (13, .int .i64 v12)] [((0, 0), .tok)] 1 :=
 j0 (m := m) (s := ((v11, v12) : ((List (List G_QKey)) × Int))) (r := o) (fun (s : ((List (List G_QKey)) × Int)) => q9 m a0 v1 s.1 s.2) (Z2 a0 v1) (Yg a0 v1) (Qu a0) (fun s o h => z9o h) h
noncomputable def xt (m : Option Nat) (a0 : List G_QEdge) : Option (List (List G_QKey)) :=
 (xg m a0).bind fun v1 =>
 j4 m a0 v1 [] 0
theorem zfz {a0 : List G_QEdge} {m : Option Nat} {o : (List (List G_QKey))} (h : xt m a0 = some o) : LWp Try.prog k6 0 zjn (zi3 a0 o) (qx 0 [.isl 6 (a0.map z7) false]) [] 0 := by
 unfold xt at h
 refine zl ?_
 refine y8 ?_
 refine zl ?_
 refine y8 ?_
 obtain ⟨v1, h1, h⟩ := bind_some h
 refine PFn.call (zjp h1) (And.intro (Vw.same _ rfl) trivial) ?_
 refine zl ?_
 refine y8 ?_
 refine zl ?_
 refine zl ?_
 refine y8 ?_
 refine LWp.sim (e := [(0, .isl 6 (a0.map z7) false), (3, .isl 3 (v1.map z6) false), (4, .val (.slice none 0 0)), (12, .int .i64 ((v1.map z6).length : Int)), (13, .int .i64 0)]) (L := []) (n := 0) ?_ ?_
 ·exact jh (M := []) rfl (And.intro (Vw.same _ rfl) (And.intro (Vw.same _ rfl) (And.intro (Vw.same _ rfl) (And.intro (Vw.same _ rfl) (And.intro (Vw.same _ rfl) trivial))))) trivial
 refine j8 ?_
 refine LWp.sim ?_ (zg8 h)
 exact jh (M := []) rfl (And.intro (Vw.same _ rfl) (And.intro (Vw.same _ rfl) (And.intro (Vw.nilO _ _ (by decide)) (And.intro (Vw.same _ rfl) (And.intro (Vw.same _ rfl) trivial))))) (And.intro (And.intro rfl (And.intro (by decide) (by decide))) trivial)
theorem zoo {a0 : List G_QEdge} {m : Option Nat} {o : (List (List G_QKey))} (h : xt m a0 = some o) : PFn Try.prog 17 [.isl 6 (a0.map z7) false] (.isl 1 (o.map za) false) := PFn.ofFnW (L := zog) zlb zm9 (Nat.le_of_ble_eq_true rfl) rfl (zfz h)
end Go.Proofs.Ytejfgjggcoemeaa
