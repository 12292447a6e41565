/-
  Own text GenB of this claim: what functions of the given program compute, in plain Lean, and the proof; no condition.
-/
import Derived.Test.YtejfgjggcoemeaaGenA
namespace Go.Proofs.Ytejfgjggcoemeaa
open Go.Fx
set_option linter.unusedVariables false
def z85 : LCode := (.seq (.region [⟨some 4, .box (.t 1), none⟩,
 ⟨some 5, .box (.t 2), none⟩,
 ⟨some 6, .mv (.c (.bool false)), none⟩])
 (.seq (.region [⟨some 8, .mkfn (.func 42) [] [(.t 5)], none⟩,
  ⟨some 7, .mv (.t 8), none⟩])
 (.seq (.draw [⟨⟨some 9, .load false 1 (.t 5), none⟩, []⟩,
  ⟨⟨some 10, .load true 3 (.t 4), none⟩, []⟩,
  ⟨⟨some 11, .mlook [.int, .int, .int] true false false [(.int .i64 0)] (.t 9) (.t 10), none⟩, []⟩,
  ⟨⟨some 12, .bin .eql (.t 11) (.c (.int .i64 0)), none⟩, []⟩,
  ⟨⟨some 13, .mv (.t 12), none⟩, []⟩,
  ⟨⟨some 14, .mv (.t 0), some (13, true)⟩, []⟩,
  ⟨⟨some 15, .nilck (.t 14), some (13, true)⟩, []⟩,
  ⟨⟨some 16, .faddr 0 (.t 15), some (13, true)⟩, []⟩,
  ⟨⟨some 17, .load false 1 (.t 16), some (13, true)⟩, []⟩,
  ⟨⟨some 18, .load true 3 (.t 4), some (13, true)⟩, []⟩,
  ⟨⟨some 19, .mlook [.int, .int, .int] true false false [(.isl 3 [] true)] (.t 17) (.t 18), some (13, true)⟩, []⟩,
  ⟨⟨some 20, .mv (.t 7), some (13, true)⟩, []⟩,
  ⟨⟨some 21, .call 31 [(.t 19), (.t 20)], some (13, true)⟩, []⟩,
  ⟨⟨some 22, .un .not (.t 21), some (13, true)⟩, []⟩,
  ⟨⟨some 23, .pick (.t 13) (.t 22) (.c (.bool false)), none⟩, []⟩,
  ⟨⟨some 6, .mv (.t 23), none⟩, []⟩])
 .ret)))
def z28 : Lay := ⟨24, [], false⟩
def z4c : List LRes := [.t 6]
def zai : LFn := ⟨3, z28, z85, z4c⟩
theorem zel : wz Try.prog [] 27 = some zai := by kernel_rfl
theorem zcf : Ze Try.prog 27 := ⟨_, Try.func27, rfl, rfl⟩
noncomputable def xv (m : Option Nat) (a0 : G_QKey) (a1 : List G_QKey) (a2 : List (G_QKey × Int)) (a3 : List (G_QKey × (List G_QKey))) : Option Bool :=
 (if ((((lk ze a2 a0).getD 0) == 0) == true) = true then qk m ((lk ze a3 a0).getD []) a2 else some default).bind fun v1 =>
 some ((((lk ze a2 a0).getD 0) == 0) && (!v1))
def zkt (a0 : G_QKey) (a1 : List G_QKey) (a2 : List (G_QKey × Int)) (a3 : List (G_QKey × (List G_QKey))) (o : Bool) : Exit → Env → AHeap → Nat → Prop := Qo z4c (Qn 3 3 (.bool o) [((0, 0), .one [.map (0, 2), .isl 3 (a1.map z6) false]), ((0, 1), .amap (a2.map (em z8 yl))), ((0, 2), .amap (a3.map (em z8 za)))])
theorem z5p {a0 : G_QKey} {a1 : List G_QKey} {a2 : List (G_QKey × Int)} {a3 : List (G_QKey × (List G_QKey))} {m : Option Nat} {o : Bool} (h : xv m a0 a1 a2 a3 = some o) : LWp Try.prog z28 3 z85 (zkt a0 a1 a2 a3 o) (qq 0 [.ptr (0, 0) 0 0, .agg [.int .i64 a0.f_Kind, .int .i64 a0.f_A, .int .i64 a0.f_B], .map (0, 1)]) [((0, 0), .one [.map (0, 2), .isl 3 (a1.map z6) false]), ((0, 1), .amap (a2.map (em z8 yl))), ((0, 2), .amap (a3.map (em z8 za)))] 3 := by
 unfold xv at h
 refine zo ?_
 refine yq ?_
 refine zo ?_
 refine yq ?_
 refine zo ?_
 refine z3n rfl ?_
 refine Exists.intro (.int .i64 ((lk ze a2 a0).getD 0)) (And.intro (Uw (ek := z8) (ev := yl) (z := 0) j7 rfl a0 a2) (And.intro (uk (ek := z8) (ev := yl) j7 _ _) ?_))
 refine And.intro (fun hp => hp) ?_
 show Zw _ _ _ [(15, .cnd ((((lk ze a2 a0).getD 0) == 0) == true) (.ptr (0, 0) 0 0)), (14, .cnd ((((lk ze a2 a0).getD 0) == 0) == true) (.ptr (0, 0) 0 0)), (13, .bool (((lk ze a2 a0).getD 0) == 0)), (12, .bool (((lk ze a2 a0).getD 0) == 0)), (11, .int .i64 ((lk ze a2 a0).getD 0)), (10, .agg [.int .i64 a0.f_Kind, .int .i64 a0.f_A, .int .i64 a0.f_B]), (9, .map (0, 1)), (7, .fn (.func 42) [] [.ptr (4, 0) 0 0]), (8, .fn (.func 42) [] [.ptr (4, 0) 0 0]), (6, .bool false), (5, .ptr (4, 0) 0 0), (4, .ptr (3, 0) 0 0), (0, .ptr (0, 0) 0 0), (1, .agg [.int .i64 a0.f_Kind, .int .i64 a0.f_A, .int .i64 a0.f_B]), (2, .map (0, 1))] _ _
 refine And.intro (fun hp => hp) ?_
 refine And.intro (fun hp => hp) ?_
 refine Exists.intro (.isl 3 (((lk ze a3 a0).getD []).map z6) false) (And.intro (fun hp => And.intro (Uw (ek := z8) (ev := za) (z := []) j7 rfl a0 a3) (And.intro (And.intro hp hp) (uk (ek := z8) (ev := za) j7 _ _))) ?_)
 obtain ⟨v1, h1, h⟩ := bind_some h
 refine Or.inl (Exists.intro (.bool v1) (And.intro (fun hp => And.intro (And.intro hp hp) (ACalls.same rfl (Yj (k := 3) (m := 0) (L' := [((4, 0), .one [.map (0, 1)]), ((0, 1), .amap (a2.map (em z8 yl)))]) (rest := [((3, 0), .one [.int .i64 a0.f_Kind, .int .i64 a0.f_A, .int .i64 a0.f_B]), ((0, 0), .one [.map (0, 2), .isl 3 (a1.map z6) false]), ((0, 2), .amap (a3.map (em z8 za)))]) (R' := .bool v1) [((0, 0), (4, 0)), ((0, 1), (0, 1))] (zgf (qj hp h1)) rfl rfl rfl (And.intro (Vw.same _ rfl) (And.intro (Vw.fnL trivial (And.intro (Vw.ptr _ _ _ _ rfl) trivial)) trivial)) (And.intro (h0I (4, 0) rfl rfl (BVw.oneL (And.intro (Vw.map _ _ rfl) trivial))) (And.intro (h0I (0, 1) rfl rfl (BVw.ofMap z8 yl zy a2)) trivial)) (k8 _ rfl) (And.intro rfl (And.intro rfl (And.intro rfl (And.intro (ve z8 yl xq zy _) trivial)))) rfl (And.intro rfl (HeapTo.get (And.intro (And.intro rfl (BVw.oneL (And.intro (Vw.map _ _ rfl) trivial))) (And.intro (And.intro rfl (BVw.oneL (And.intro (Vw.same _ rfl) (And.intro (Vw.same _ rfl) (And.intro (Vw.same _ rfl) trivial))))) (And.intro (And.intro rfl (BVw.oneL (And.intro (Vw.map _ _ rfl) (And.intro (Vw.same _ rfl) trivial)))) (And.intro (And.intro rfl (BVw.ofMap z8 yl zy a2)) (And.intro (And.intro rfl (BVw.ofMap z8 za zd a3)) trivial)))))))))) ?_))
 refine And.intro (fun hp => hp) ?_
 show Zw _ _ _ [(22, .cnd ((((lk ze a2 a0).getD 0) == 0) == true) (.bool (!v1))), (21, .cnd ((((lk ze a2 a0).getD 0) == 0) == true) (.bool v1)), (20, .cnd ((((lk ze a2 a0).getD 0) == 0) == true) (.fn (.func 42) [] [.ptr (4, 0) 0 0])), (19, .cnd ((((lk ze a2 a0).getD 0) == 0) == true) (.isl 3 (((lk ze a3 a0).getD []).map z6) false)), (18, .cnd ((((lk ze a2 a0).getD 0) == 0) == true) (.agg [.int .i64 a0.f_Kind, .int .i64 a0.f_A, .int .i64 a0.f_B])), (17, .cnd ((((lk ze a2 a0).getD 0) == 0) == true) (.map (0, 2))), (16, .cnd ((((lk ze a2 a0).getD 0) == 0) == true) (.ptr (0, 0) 0 0)), (15, .cnd ((((lk ze a2 a0).getD 0) == 0) == true) (.ptr (0, 0) 0 0)), (14, .cnd ((((lk ze a2 a0).getD 0) == 0) == true) (.ptr (0, 0) 0 0)), (13, .bool (((lk ze a2 a0).getD 0) == 0)), (12, .bool (((lk ze a2 a0).getD 0) == 0)), (11, .int .i64 ((lk ze a2 a0).getD 0)), (10, .agg [.int .i64 a0.f_Kind, .int .i64 a0.f_A, .int .i64 a0.f_B]), (9, .map (0, 1)), (7, .fn (.func 42) [] [.ptr (4, 0) 0 0]), (8, .fn (.func 42) [] [.ptr (4, 0) 0 0]), (6, .bool false), (5, .ptr (4, 0) 0 0), (4, .ptr (3, 0) 0 0), (0, .ptr (0, 0) 0 0), (1, .agg [.int .i64 a0.f_Kind, .int .i64 a0.f_A, .int .i64 a0.f_B]), (2, .map (0, 1))] _ _
 refine And.intro (fun hc => (bqt hc)) ?_
 refine LWp.sim (e := [(6, .bool ((((lk ze a2 a0).getD 0) == 0) && (!v1)))]) (L := [((0, 0), .one [.map (0, 2), .isl 3 (a1.map z6) false]), ((0, 1), .amap (a2.map (em z8 yl))), ((0, 2), .amap (a3.map (em z8 za)))]) (n := 3) ?_ ?_
 ·exact jy (M := []) rfl (And.intro (Vw.same _ rfl) trivial) (And.intro (And.intro rfl (BVw.oneL (And.intro (Vw.map _ _ rfl) (And.intro (Vw.same _ rfl) trivial)))) (And.intro (And.intro rfl (BVw.ofMap z8 yl zy a2)) (And.intro (And.intro rfl (BVw.ofMap z8 za zd a3)) trivial)))
 refine uf ?_
 cases h
 exact And.intro trivial (zgy (n' := 3) [] [] rfl rfl (Vw.same _ rfl) (And.intro (And.intro rfl (BVw.oneL (And.intro (Vw.map _ _ rfl) (And.intro (Vw.same _ rfl) trivial)))) (And.intro (And.intro rfl (BVw.ofMap z8 yl zy a2)) (And.intro (And.intro rfl (BVw.ofMap z8 za zd a3)) trivial))))
theorem zhj {a0 : G_QKey} {a1 : List G_QKey} {a2 : List (G_QKey × Int)} {a3 : List (G_QKey × (List G_QKey))} {m : Option Nat} {o : Bool} (h : xv m a0 a1 a2 a3 = some o) : ACalls Try.prog 27 [.ptr (0, 0) 0 0, .agg [.int .i64 a0.f_Kind, .int .i64 a0.f_A, .int .i64 a0.f_B], .map (0, 1)] [((0, 0), .one [.map (0, 2), .isl 3 (a1.map z6) false]), ((0, 1), .amap (a2.map (em z8 yl))), ((0, 2), .amap (a3.map (em z8 za)))] 3 (ke 3 (.bool o) [((0, 0), .one [.map (0, 2), .isl 3 (a1.map z6) false]), ((0, 1), .amap (a2.map (em z8 yl))), ((0, 2), .amap (a3.map (em z8 za)))]) := Yr (L := zai) zel zcf (Nat.le_of_ble_eq_true rfl) (z5p h)
def z8g : LCode := (.seq (.region [⟨some 3, .box (.t 0), none⟩,
 ⟨some 4, .mv (.c (.bool false)), none⟩])
 (.seq (.region [⟨some 5, .load false 1 (.t 1), none⟩,
  ⟨some 6, .load true 3 (.t 3), none⟩,
  ⟨some 7, .load false 1 (.t 2), none⟩,
  ⟨some 8, .call 27 [(.t 5), (.t 6), (.t 7)], none⟩,
  ⟨some 4, .mv (.t 8), none⟩])
 .ret))
def z27 : Lay := ⟨9, [], false⟩
def z3i : List LRes := [.t 4]
def zdt : LFn := ⟨3, z27, z8g, z3i⟩
theorem zbr : wz Try.prog [] 26 = some zdt := by kernel_rfl
theorem zar : Ze Try.prog 26 := ⟨_, Try.func26, rfl, rfl⟩
noncomputable def zm (m : Option Nat) (a0 : List G_QKey) (a1 : List (G_QKey × Int)) (a2 : List (G_QKey × (List G_QKey))) (a3 : G_QKey) : Option Bool :=
 (xv m a3 a0 a1 a2).bind fun v1 =>
 some v1
def zjo (a0 : List G_QKey) (a1 : List (G_QKey × Int)) (a2 : List (G_QKey × (List G_QKey))) (a3 : G_QKey) (o : Bool) : Exit → Env → AHeap → Nat → Prop := Qo z3i (Qn 3 4 (.bool o) [((1, 0), .one [.ptr (3, 0) 0 0]), ((1, 1), .one [.map (3, 1)]), ((3, 0), .one [.map (3, 2), .isl 3 (a0.map z6) false]), ((3, 1), .amap (a1.map (em z8 yl))), ((3, 2), .amap (a2.map (em z8 za)))])
theorem z60 {a0 : List G_QKey} {a1 : List (G_QKey × Int)} {a2 : List (G_QKey × (List G_QKey))} {a3 : G_QKey} {m : Option Nat} {o : Bool} (h : zm m a0 a1 a2 a3 = some o) : LWp Try.prog z27 3 z8g (zjo a0 a1 a2 a3 o) (qq 0 [.agg [.int .i64 a3.f_Kind, .int .i64 a3.f_A, .int .i64 a3.f_B], .ptr (1, 0) 0 0, .ptr (1, 1) 0 0]) [((1, 0), .one [.ptr (2, 0) 0 0]), ((1, 1), .one [.map (2, 1)]), ((2, 0), .one [.map (2, 2), .isl 3 (a0.map z6) false]), ((2, 1), .amap (a1.map (em z8 yl))), ((2, 2), .amap (a2.map (em z8 za)))] 3 := by
 unfold zm at h
 refine zo ?_
 refine yq ?_
 refine zo ?_
 refine yq ?_
 obtain ⟨v1, h1, h⟩ := bind_some h
 refine Yj (k := 3) (m := 0) (L' := [((2, 0), .one [.map (2, 2), .isl 3 (a0.map z6) false]), ((2, 1), .amap (a1.map (em z8 yl))), ((2, 2), .amap (a2.map (em z8 za)))]) (rest := [((3, 0), .one [.int .i64 a3.f_Kind, .int .i64 a3.f_A, .int .i64 a3.f_B]), ((1, 0), .one [.ptr (2, 0) 0 0]), ((1, 1), .one [.map (2, 1)])]) (R' := .bool v1) [((0, 0), (2, 0)), ((0, 1), (2, 1)), ((0, 2), (2, 2))] (zhj h1) rfl rfl rfl (And.intro (Vw.ptr _ _ _ _ rfl) (And.intro (Vw.same _ rfl) (And.intro (Vw.map _ _ rfl) trivial))) (And.intro (h0I (2, 0) rfl rfl (BVw.oneL (And.intro (Vw.map _ _ rfl) (And.intro (Vw.same _ rfl) trivial)))) (And.intro (h0I (2, 1) rfl rfl (BVw.ofMap z8 yl zy a1)) (And.intro (h0I (2, 2) rfl rfl (BVw.ofMap z8 za zd a2)) trivial))) (k8 _ rfl) (And.intro rfl (And.intro rfl (And.intro rfl (And.intro (ve z8 yl xq zy _) (And.intro rfl (And.intro (ve z8 za xq zd _) trivial)))))) rfl ?_
 show Zw _ _ _ [(8, .bool v1), (7, .map (2, 1)), (6, .agg [.int .i64 a3.f_Kind, .int .i64 a3.f_A, .int .i64 a3.f_B]), (5, .ptr (2, 0) 0 0), (4, .bool false), (3, .ptr (3, 0) 0 0), (0, .agg [.int .i64 a3.f_Kind, .int .i64 a3.f_A, .int .i64 a3.f_B]), (1, .ptr (1, 0) 0 0), (2, .ptr (1, 1) 0 0)] _ _
 refine uf ?_
 cases h
 exact And.intro trivial (zgy (n' := 5) [((3, 0), (2, 0)), ((3, 1), (2, 1)), ((3, 2), (2, 2))] [] rfl rfl (Vw.same _ rfl) (And.intro (And.intro rfl (BVw.oneL (And.intro (Vw.ptr _ _ _ _ rfl) trivial))) (And.intro (And.intro rfl (BVw.oneL (And.intro (Vw.map _ _ rfl) trivial))) (And.intro (And.intro rfl (BVw.oneL (And.intro (Vw.map _ _ rfl) (And.intro (Vw.same _ rfl) trivial)))) (And.intro (And.intro rfl (BVw.ofMap z8 yl zy a1)) (And.intro (And.intro rfl (BVw.ofMap z8 za zd a2)) trivial))))))
theorem zg3 {a0 : List G_QKey} {a1 : List (G_QKey × Int)} {a2 : List (G_QKey × (List G_QKey))} {a3 : G_QKey} {m : Option Nat} {o : Bool} (h : zm m a0 a1 a2 a3 = some o) : ACalls Try.prog 26 [.agg [.int .i64 a3.f_Kind, .int .i64 a3.f_A, .int .i64 a3.f_B], .ptr (1, 0) 0 0, .ptr (1, 1) 0 0] [((1, 0), .one [.ptr (2, 0) 0 0]), ((1, 1), .one [.map (2, 1)]), ((2, 0), .one [.map (2, 2), .isl 3 (a0.map z6) false]), ((2, 1), .amap (a1.map (em z8 yl))), ((2, 2), .amap (a2.map (em z8 za)))] 3 (ke 4 (.bool o) [((1, 0), .one [.ptr (3, 0) 0 0]), ((1, 1), .one [.map (3, 1)]), ((3, 0), .one [.map (3, 2), .isl 3 (a0.map z6) false]), ((3, 1), .amap (a1.map (em z8 yl))), ((3, 2), .amap (a2.map (em z8 za)))]) := Yr (L := zdt) zbr zar (Nat.le_of_ble_eq_true rfl) (z60 h)
def z1t : LCode := (.seq (.region [⟨some 9, .bin .lss (.t 8) (.t 7), none⟩])
 (.seq (.cond (.t 9)
  .skip
  (.exit 0))
 (.seq (.block 1
  (.seq (.region [⟨some 10, .mv (.t 8), none⟩,
   ⟨some 5, .mv (.t 10), none⟩])
  (.seq (.region [⟨some 11, .mv (.t 1), none⟩,
   ⟨some 12, .mv (.t 0), none⟩,
   ⟨some 13, .mv (.t 5), none⟩,
   ⟨some 14, .iaddr 3 (.t 12) (.t 13), none⟩,
   ⟨some 15, .load true 3 (.t 14), none⟩,
   ⟨some 16, .callv (.t 11) [(.t 15)], none⟩])
  (.cond (.t 16)
   (.seq (.region [⟨some 17, .mv (.t 5), none⟩,
    ⟨some 4, .mv (.t 17), none⟩])
   .ret)
   .skip))))
 (.region [⟨some 18, .bin .add (.t 8) (.c (.int .i64 1)), none⟩,
  ⟨some 8, .mv (.t 18), none⟩]))))
def Ww : LCode := (.seq (.region [⟨some 4, .mv (.c (.int .i64 (-1))), none⟩])
 .ret)
def z7w : LCode := (.seq (.region [⟨some 4, .mv (.c (.int .i64 0)), none⟩])
 (.seq (.seq (.region [⟨some 6, .mv (.t 0), none⟩,
  ⟨some 7, .len false (.t 6), none⟩,
  ⟨some 8, .mv (.c (.int .i64 0)), none⟩])
 (.block 0
  (.loop
   z1t)))
 Ww))
def ur : Lay := ⟨19, [], false⟩
def z2l : List LRes := [.t 4]
def zd3 : LFn := ⟨2, ur, z7w, z2l⟩
theorem zbm : wz Try.prog [] 25 = some zd3 := by kernel_rfl
theorem ze0 : Ze Try.prog 25 := ⟨_, Try.func25, rfl, rfl⟩
def z1v {σ : Type} (Hc : σ → AHeap) (fi0 : Fn) (ff0 fc0 : List AVal) (a0 : List G_QKey) (z0 : σ) (o : Int × σ) : Exit → Env → AHeap → Nat → Prop := Qo z2l (Qn 3 4 (.int .i64 o.1) ([] ++ up 3 (Hc o.2)))
def W4 {σ : Type} (Hc : σ → AHeap) (fi0 : Fn) (ff0 fc0 : List AVal) (a0 : List G_QKey) (s : (Int × σ)) : Env := [(0, .isl 3 (a0.map z6) false), (1, .fn fi0 ff0 fc0), (7, .int .i64 ((a0.map z6).length : Int)), (8, .int .i64 s.1)]
def Wz {σ : Type} (Hc : σ → AHeap) (fi0 : Fn) (ff0 fc0 : List AVal) (a0 : List G_QKey) (s : (Int × σ)) : AHeap := ([] ++ up 3 (Hc s.2))
def Um {σ : Type} (Hc : σ → AHeap) (fi0 : Fn) (ff0 fc0 : List AVal) (a0 : List G_QKey) (z0 : σ) (o : (Int × σ)) : Exit → Env → AHeap → Nat → Prop := (xa 0 (Zt Try.prog ur 3 Ww (z1v Hc fi0 ff0 fc0 a0 z0 o)))
noncomputable def qz {σ : Type} (g0 : σ → G_QKey → Option (Bool × σ)) (m : Option Nat) (v3 : σ) : Option (Int × σ) :=
 some ((-1), v3)
noncomputable def zu {σ : Type} (g0 : σ → G_QKey → Option (Bool × σ)) (m : Option Nat) (a0 : List G_QKey) (v2 : Int) (v3 : σ) : Option ((Int × σ) ⊕ (Int × σ)) :=
 if (decide (v2 < ((a0.map z6).length : Int))) = true then
  if (0 : Int) ≤ v2 ∧ v2 < ((a0.map z6).length : Int) then
  (g0 v3 (G_QKey.mk ((a0.getD v2.toNat default).f_Kind) ((a0.getD v2.toNat default).f_A) ((a0.getD v2.toNat default).f_B))).bind fun v5 =>
  if v5.1 = true then
   Option.map Sum.inr (
    some (v2, v5.2))
  else
   some (.inl ((W (v2 + 1)), v5.2))
  else none
 else
  Option.map Sum.inr (
   qz g0 m v3)
noncomputable def zc {σ : Type} (g0 : σ → G_QKey → Option (Bool × σ)) (m : Option Nat) (a0 : List G_QKey) (v2 : Int) (v3 : σ) : Option (Int × σ) := kw m (fun (s : (Int × σ)) => zu g0 m a0 s.1 s.2) (v2, v3)
theorem z64 {σ : Type} {Hc : σ → AHeap} {fi0 : Fn} {ff0 fc0 : List AVal} {g0 : σ → G_QKey → Option (Bool × σ)} (hg0 : Clo Try.prog fi0 ff0 fc0 Hc (fun (x : G_QKey) => [.agg [.int .i64 x.f_Kind, .int .i64 x.f_A, .int .i64 x.f_B]]) (fun (b : Bool) => .bool b) g0) {a0 : List G_QKey} {z0 : σ} {v3 : σ} {m : Option Nat} {o : (Int × σ)} (h : qz g0 m v3 = some o) :
 LWp Try.prog ur 3 Ww (z1v Hc fi0 ff0 fc0 a0 z0 o) [] ([] ++ up 3 (Hc v3)) 4 := by
 unfold qz at h
 refine zo ?_
 refine yq ?_
 refine uf ?_
 cases h
 exact And.intro trivial (zoi (n' := 4) (q := 3) (lit' := []) (hg0.tl _) [] [] rfl rfl (Vw.same _ rfl) trivial)
theorem z2w {σ : Type} {Hc : σ → AHeap} {fi0 : Fn} {ff0 fc0 : List AVal} {g0 : σ → G_QKey → Option (Bool × σ)} (hg0 : Clo Try.prog fi0 ff0 fc0 Hc (fun (x : G_QKey) => [.agg [.int .i64 x.f_Kind, .int .i64 x.f_A, .int .i64 x.f_B]]) (fun (b : Bool) => .bool b) g0) {z0 : σ} {a0 : List G_QKey} {v2 : Int} {v3 : σ} {m : Option Nat} {o : (Int × σ) ⊕ (Int × σ)} (h : zu g0 m a0 v2 v3 = some o) :
 LWp Try.prog ur 3 z1t (vi 3 4 (W4 Hc fi0 ff0 fc0 a0) (Wz Hc fi0 ff0 fc0 a0) (Um Hc fi0 ff0 fc0 a0 z0) o) [(0, .isl 3 (a0.map z6) false), (1, .fn fi0 ff0 fc0), (7, .int .i64 ((a0.map z6).length : Int)), (8, .int .i64 v2)] ([] ++ up 3 (Hc v3)) 4 := by
 unfold zu at h
 refine zo ?_
 refine yq ?_
 refine zo ?_
 refine w6 (v := (decide (v2 < ((a0.map z6).length : Int)))) rfl trivial (fun h9 => ?_) (fun h9 => ?_)
 ·have h := qj h9 h
  refine w8 ?_
  refine zo ?_
  refine jh ?_
  refine zo ?_
  refine yq ?_
  refine zo ?_
  refine yq ?_
  obtain ⟨h10, h⟩ := yj h
  refine And.intro h10 ?_
  show Zw _ _ _ [(14, .iptr 3 (a0.map z6) v2.toNat 0), (13, .int .i64 v2), (12, .isl 3 (a0.map z6) false), (11, .fn fi0 ff0 fc0), (5, .int .i64 v2), (10, .int .i64 v2), (9, .bool (decide (v2 < ((a0.map z6).length : Int)))), (0, .isl 3 (a0.map z6) false), (1, .fn fi0 ff0 fc0), (7, .int .i64 ((a0.map z6).length : Int)), (8, .int .i64 v2)] _ _
  refine Exists.intro (z6 (a0.getD v2.toNat default)) (And.intro (jn z6 _ _ (wv z6 h10)) (And.intro (And.intro (u5 h10) (Nat.le_of_ble_eq_true rfl)) ?_))
  obtain ⟨v5, h11, h⟩ := bind_some h
  refine Clo.use (q := 3) (lit := []) hg0 h11 rfl rfl (And.intro (Vw.same _ rfl) trivial) ?_
  refine LWp.sim (e := [(0, .isl 3 (a0.map z6) false), (1, .fn fi0 ff0 fc0), (5, .int .i64 v2), (7, .int .i64 ((a0.map z6).length : Int)), (8, .int .i64 v2), (16, .bool v5.1)]) (L := ([] ++ up 3 (Hc v5.2))) (n := 4) ?_ ?_
  ·exact z9h (M := []) (lit' := []) (hg0.tl _) rfl (And.intro (Vw.same _ rfl) (And.intro (Vw.clo hg0.hf hg0.hc (by decide) (Yg (kc (n := 4) (q := 4) (lit' := []) rfl))) (And.intro (Vw.same _ rfl) (And.intro (Vw.same _ rfl) (And.intro (Vw.same _ rfl) (And.intro (Vw.same _ rfl) trivial)))))) trivial
  refine w6 (v := v5.1) rfl trivial (fun h12 => ?_) (fun h12 => ?_)
  ·have h := qj h12 h
   refine zo ?_
   refine yq ?_
   refine uf ?_
   obtain ⟨o, hq, rfl⟩ := Option.map_eq_some_iff.1 h
   replace h := hq; clear hq
   refine And.intro nofun ?_
   cases h
   exact And.intro trivial (zoi (n' := 4) (q := 3) (lit' := []) (hg0.tl _) [] [] rfl rfl (Vw.same _ rfl) trivial)
  ·have h := xl h12 h
   refine w8 ?_
   refine yq ?_
   cases h
   exact And.intro rfl (z9h (M := []) (lit' := []) (hg0.tl _) rfl (And.intro (Vw.same _ rfl) (And.intro (Vw.clo hg0.hf hg0.hc (by decide) (Yg (kc (n := 4) (q := 3) (lit' := []) rfl))) (And.intro (Vw.same _ rfl) (And.intro (Vw.same _ rfl) trivial)))) trivial)
 ·have h := xl h9 h
  refine Zs ?_
  obtain ⟨o, hq, rfl⟩ := Option.map_eq_some_iff.1 h
  replace h := hq; clear hq
  refine And.intro nofun ?_
  refine LWp.sim ?_ (z64 hg0 h)
  exact z9h (M := []) (lit' := []) (hg0.tl _) rfl trivial trivial
theorem z54 {σ : Type} {Hc : σ → AHeap} {fi0 : Fn} {ff0 fc0 : List AVal} {g0 : σ → G_QKey → Option (Bool × σ)} (hg0 : Clo Try.prog fi0 ff0 fc0 Hc (fun (x : G_QKey) => [.agg [.int .i64 x.f_Kind, .int .i64 x.f_A, .int .i64 x.f_B]]) (fun (b : Bool) => .bool b) g0) {z0 : σ} {a0 : List G_QKey} {v2 : Int} {v3 : σ} {m : Option Nat} {o : (Int × σ)} (h : zc g0 m a0 v2 v3 = some o) :
 LWp Try.prog ur 3 (.loop z1t) (xa 0 (Zt Try.prog ur 3 Ww (z1v Hc fi0 ff0 fc0 a0 z0 o))) [(0, .isl 3 (a0.map z6) false), (1, .fn fi0 ff0 fc0), (7, .int .i64 ((a0.map z6).length : Int)), (8, .int .i64 v2)] ([] ++ up 3 (Hc v3)) 4 :=
 je (m := m) (s := ((v2, v3) : (Int × σ))) (r := o) (fun (s : (Int × σ)) => zu g0 m a0 s.1 s.2) (W4 Hc fi0 ff0 fc0 a0) (Wz Hc fi0 ff0 fc0 a0) (Um Hc fi0 ff0 fc0 a0 z0) (fun s o h => z2w hg0 h) h
noncomputable def yu {σ : Type} (g0 : σ → G_QKey → Option (Bool × σ)) (m : Option Nat) (a0 : List G_QKey) (z0 : σ) : Option (Int × σ) :=
 zc g0 m a0 0 z0
theorem z5l {σ : Type} {Hc : σ → AHeap} {fi0 : Fn} {ff0 fc0 : List AVal} {g0 : σ → G_QKey → Option (Bool × σ)} (hg0 : Clo Try.prog fi0 ff0 fc0 Hc (fun (x : G_QKey) => [.agg [.int .i64 x.f_Kind, .int .i64 x.f_A, .int .i64 x.f_B]]) (fun (b : Bool) => .bool b) g0) {a0 : List G_QKey} {z0 : σ} {m : Option Nat} {o : Int × σ} (h : yu g0 m a0 z0 = some o) : LWp Try.prog ur 3 z7w (z1v Hc fi0 ff0 fc0 a0 z0 o) (qq 0 [.isl 3 (a0.map z6) false, .fn fi0 ff0 fc0]) ([] ++ Hc z0) 3 := by
 unfold yu at h
 refine LWp.sim (e := [(0, .isl 3 (a0.map z6) false), (1, .fn fi0 ff0 fc0)]) (L := ([] ++ up 3 (Hc z0))) (n := 4) (zik (T := Hc z0) (e' := qq 0 [.isl 3 (a0.map z6) false, .fn fi0 ff0 fc0]) (e := [(0, .isl 3 (a0.map z6) false), (1, .fn fi0 ff0 fc0)]) (lit' := []) (lit := []) (hg0.tl z0) rfl rfl (And.intro (Vw.same _ rfl) (And.intro (Vw.clo hg0.hf hg0.hc (by decide) (zij _)) trivial)) trivial) ?_
 refine zo ?_
 refine yq ?_
 refine zo ?_
 refine zo ?_
 refine yq ?_
 refine jh ?_
 refine LWp.sim ?_ (z54 hg0 h)
 exact z9h (M := []) (lit' := []) (hg0.tl _) rfl (And.intro (Vw.same _ rfl) (And.intro (Vw.clo hg0.hf hg0.hc (by decide) (Yg (kc (n := 4) (q := 3) (lit' := []) rfl))) (And.intro (Vw.same _ rfl) (And.intro (Vw.same _ rfl) trivial)))) trivial
theorem zhq {σ : Type} {Hc : σ → AHeap} {fi0 : Fn} {ff0 fc0 : List AVal} {g0 : σ → G_QKey → Option (Bool × σ)} (hg0 : Clo Try.prog fi0 ff0 fc0 Hc (fun (x : G_QKey) => [.agg [.int .i64 x.f_Kind, .int .i64 x.f_A, .int .i64 x.f_B]]) (fun (b : Bool) => .bool b) g0) {a0 : List G_QKey} {z0 : σ} {m : Option Nat} {o : Int × σ} (h : yu g0 m a0 z0 = some o) : ACalls Try.prog 25 [.isl 3 (a0.map z6) false, .fn fi0 ff0 fc0] ([] ++ Hc z0) 3 (ke 4 (.int .i64 o.1) ([] ++ up 3 (Hc o.2))) := Yr (L := zd3) zbm ze0 (Nat.le_of_ble_eq_true rfl) (z5l hg0 h)
def zbf : LCode := (.seq (.seq (.region [⟨some 11, .mv (.t 6), none⟩,
 ⟨some 12, .len false (.t 11), none⟩,
 ⟨some 13, .load false 1 (.t 4), none⟩,
 ⟨some 14, .nilck (.t 13), none⟩,
 ⟨some 15, .faddr 1 (.t 14), none⟩,
 ⟨some 16, .load false 1 (.t 15), none⟩,
 ⟨some 17, .len false (.t 16), none⟩,
 ⟨some 18, .bin .lss (.t 12) (.t 17), none⟩])
 (.cond (.t 18)
  .skip
  (.exit 0)))
 (.block 1
  (.seq (.region [⟨some 19, .load false 1 (.t 4), none⟩,
   ⟨some 20, .nilck (.t 19), none⟩,
   ⟨some 21, .faddr 1 (.t 20), none⟩,
   ⟨some 22, .load false 1 (.t 21), none⟩,
   ⟨some 23, .mkfn (.func 26) [] [(.t 4), (.t 5)], none⟩,
   ⟨some 24, .call 25 [(.t 22), (.t 23)], none⟩,
   ⟨some 7, .mv (.t 24), none⟩])
  (.seq (.seq (.region [⟨some 25, .mv (.t 7), none⟩,
   ⟨some 26, .bin .lss (.t 25) (.c (.int .i64 0)), none⟩])
  (.cond (.t 26)
   (.seq (.region [⟨some 2, .mv (.c (.val (.slice none 0 0))), none⟩,
    ⟨some 3, .mv (.c (.int .i64 8)), none⟩])
   .ret)
   .skip))
  (.seq (.draw [⟨⟨some 27, .load false 1 (.t 5), none⟩, []⟩,
   ⟨⟨some 28, .load false 1 (.t 4), none⟩, []⟩,
   ⟨⟨some 29, .nilck (.t 28), none⟩, []⟩,
   ⟨⟨some 30, .faddr 1 (.t 29), none⟩, []⟩,
   ⟨⟨some 31, .load false 1 (.t 30), none⟩, []⟩,
   ⟨⟨some 32, .mv (.t 7), none⟩, []⟩,
   ⟨⟨some 33, .iaddr 3 (.t 31) (.t 32), none⟩, []⟩,
   ⟨⟨some 34, .load true 3 (.t 33), none⟩, []⟩,
   ⟨⟨none, .mset [.int, .int, .int] true false [(.int .i64 0)] (.t 27) (.t 34) (.c (.int .i64 1)), none⟩, []⟩])
  (.region [⟨some 35, .mv (.t 6), none⟩,
   ⟨some 36, .load false 1 (.t 4), none⟩,
   ⟨some 37, .nilck (.t 36), none⟩,
   ⟨some 38, .faddr 1 (.t 37), none⟩,
   ⟨some 39, .load false 1 (.t 38), none⟩,
   ⟨some 40, .mv (.t 7), none⟩,
   ⟨some 41, .iaddr 3 (.t 39) (.t 40), none⟩,
   ⟨some 42, .load true 3 (.t 41), none⟩,
   ⟨some 43, .mkSl true 3 [(.int .i64 0), (.int .i64 0), (.int .i64 0)] 1 [(0, (.t 42))], none⟩,
   ⟨some 44, .app true 3 24 (.t 35) (.t 43), none⟩,
   ⟨some 6, .mv (.t 44), none⟩]))))))
def z7y : LCode := (.seq (.region [⟨some 45, .mv (.t 6), none⟩,
 ⟨some 2, .mv (.t 45), none⟩,
 ⟨some 3, .mv (.c (.int .i64 0)), none⟩])
 .ret)
def zic : LCode := (.seq (.region [⟨some 2, .mv (.c (.val (.slice none 0 0))), none⟩,
 ⟨some 3, .mv (.c (.int .i64 0)), none⟩])
 (.seq (.region [⟨some 8, .mv (.t 0), none⟩,
  ⟨some 9, .call 21 [(.t 8), (.c (.bool false))], none⟩,
  ⟨some 4, .alloc [(.val (.pointer none))], none⟩,
  ⟨none, .store 1 (.t 4) (.t 9), none⟩])
 (.seq (.region [⟨some 10, .mkmap none, none⟩,
  ⟨some 5, .alloc [(.val (.map none))], none⟩,
  ⟨none, .store 1 (.t 5) (.t 10), none⟩])
 (.seq (.region [⟨some 6, .mv (.c (.val (.slice none 0 0))), none⟩])
 (.seq (.block 0
  (.loop
   zbf))
 z7y)))))
def Xg : Lay := ⟨46, [], false⟩
def zd4 : List LRes := [.t 2, .t 3]
def znl : LFn := ⟨1, Xg, zic, zd4⟩
theorem zjy : wz Try.prog [] 13 = some znl := by kernel_rfl
theorem zke : Ze Try.prog 13 := ⟨_, Try.func13, rfl, rfl⟩
def zi3 (a0 : List G_QEdge) (o : (List G_QKey) × Int) : Exit → Env → AHeap → Nat → Prop := Qo zd4 (wb (.tup [.isl 3 (o.1.map z6) false, .int .i64 o.2]))
def Uz (v1 : (List G_QKey) × (List (G_QKey × (List G_QKey)))) (s : ((List G_QKey) × (List (G_QKey × Int)))) : Env := [(4, .ptr (0, 0) 0 0), (5, .ptr (1, 0) 0 0), (6, .osl (2, 0) 3 (s.1.map z6))]
def z2x (v1 : (List G_QKey) × (List (G_QKey × (List G_QKey)))) (s : ((List G_QKey) × (List (G_QKey × Int)))) : AHeap := [((0, 0), .one [.ptr (3, 0) 0 0]), ((1, 0), .one [.map (4, 0)]), ((2, 0), .tok), ((3, 0), .one [.map (5, 0), .isl 3 (v1.1.map z6) false]), ((4, 0), .amap (s.2.map (em z8 yl))), ((5, 0), .amap (v1.2.map (em z8 za)))]
def z7a (a0 : List G_QEdge) (o : ((List G_QKey) × Int)) : Exit → Env → AHeap → Nat → Prop := (xa 0 (Zt Try.prog Xg 0 z7y (zi3 a0 o)))
noncomputable def xp (m : Option Nat) (v3 : List G_QKey) : Option ((List G_QKey) × Int) :=
 some (v3, 0)
noncomputable def y6 (m : Option Nat) (v1 : (List G_QKey) × (List (G_QKey × (List G_QKey)))) (v3 : List G_QKey) (v4 : List (G_QKey × Int)) : Option (((List G_QKey) × (List (G_QKey × Int))) ⊕ ((List G_QKey) × Int)) :=
 if (decide (((v3.map z6).length : Int) < ((v1.1.map z6).length : Int))) = true then
  (yu (fun (s : Unit) (x : G_QKey) => (zm m v1.1 v4 v1.2 x).map fun o => (o, ())) m v1.1 ()).bind fun v6 =>
  if (decide (v6.1 < 0)) = true then
   Option.map Sum.inr (
    some ([], 8))
  else
   if (0 : Int) ≤ v6.1 ∧ v6.1 < ((v1.1.map z6).length : Int) then
   if (0 : Int) ≤ v6.1 ∧ v6.1 < ((v1.1.map z6).length : Int) then
   if ((v3 ++ ([(G_QKey.mk ((v1.1.getD v6.1.toNat default).f_Kind) ((v1.1.getD v6.1.toNat default).f_A) ((v1.1.getD v6.1.toNat default).f_B))] : List G_QKey)).map z6).length * 24 ≤ 140737488355328 then
   some (.inl ((v3 ++ ([(G_QKey.mk ((v1.1.getD v6.1.toNat default).f_Kind) ((v1.1.getD v6.1.toNat default).f_A) ((v1.1.getD v6.1.toNat default).f_B))] : List G_QKey)), (mp ze v4 (G_QKey.mk ((v1.1.getD v6.1.toNat default).f_Kind) ((v1.1.getD v6.1.toNat default).f_A) ((v1.1.getD v6.1.toNat default).f_B)) 1)))
   else none
   else none
   else none
 else
  Option.map Sum.inr (
   xp m v3)
noncomputable def yr (m : Option Nat) (v1 : (List G_QKey) × (List (G_QKey × (List G_QKey)))) (v3 : List G_QKey) (v4 : List (G_QKey × Int)) : Option ((List G_QKey) × Int) := kw m (fun (s : ((List G_QKey) × (List (G_QKey × Int)))) => y6 m v1 s.1 s.2) (v3, v4)
theorem zen {a0 : List G_QEdge} {v3 : List G_QKey} {m : Option Nat} {o : ((List G_QKey) × Int)} (h : xp m v3 = some o) :
 LWp Try.prog Xg 0 z7y (zi3 a0 o) [(6, .osl (0, 0) 3 (v3.map z6))] [((0, 0), .tok)] 1 := by
 unfold xp at h
 refine zo ?_
 refine yq ?_
 refine uf ?_
 cases h
 exact And.intro trivial (And.intro trivial (And.intro rfl (Vw.tupL (And.intro (Vw.oslI _ _ _) (And.intro (Vw.same _ rfl) trivial)))))
theorem z8x {a0 : List G_QEdge} {v1 : (List G_QKey) × (List (G_QKey × (List G_QKey)))} {v3 : List G_QKey} {v4 : List (G_QKey × Int)} {m : Option Nat} {o : ((List G_QKey) × (List (G_QKey × Int))) ⊕ ((List G_QKey) × Int)} (h : y6 m v1 v3 v4 = some o) :
 LWp Try.prog Xg 0 zbf (vi 0 6 (Uz v1) (z2x v1) (z7a a0) o) [(4, .ptr (0, 0) 0 0), (5, .ptr (1, 0) 0 0), (6, .osl (2, 0) 3 (v3.map z6))] [((0, 0), .one [.ptr (3, 0) 0 0]), ((1, 0), .one [.map (4, 0)]), ((2, 0), .tok), ((3, 0), .one [.map (5, 0), .isl 3 (v1.1.map z6) false]), ((4, 0), .amap (v4.map (em z8 yl))), ((5, 0), .amap (v1.2.map (em z8 za)))] 6 := by
 unfold y6 at h
 refine zo ?_
 refine zo ?_
 refine yq ?_
 refine LWp.sim (e := [(4, .ptr (0, 0) 0 0), (5, .ptr (1, 0) 0 0), (6, .osl (2, 0) 3 (v3.map z6)), (18, .bool (decide (((v3.map z6).length : Int) < ((v1.1.map z6).length : Int))))]) (L := [((0, 0), .one [.ptr (3, 0) 0 0]), ((1, 0), .one [.map (4, 0)]), ((2, 0), .tok), ((3, 0), .one [.map (5, 0), .isl 3 (v1.1.map z6) false]), ((4, 0), .amap (v4.map (em z8 yl))), ((5, 0), .amap (v1.2.map (em z8 za)))]) (n := 6) ?_ ?_
 ·exact jy (M := [((0, 0), (0, 0)), ((1, 0), (1, 0)), ((2, 0), (2, 0)), ((3, 0), (3, 0)), ((4, 0), (4, 0)), ((5, 0), (5, 0))]) rfl (And.intro (Vw.ptr _ _ _ _ rfl) (And.intro (Vw.ptr _ _ _ _ rfl) (And.intro (Vw.osl _ _ _ _ rfl) (And.intro (Vw.same _ rfl) trivial)))) (And.intro (And.intro rfl (BVw.oneL (And.intro (Vw.ptr _ _ _ _ rfl) trivial))) (And.intro (And.intro rfl (BVw.oneL (And.intro (Vw.map _ _ rfl) trivial))) (And.intro (And.intro rfl BVw.tok) (And.intro (And.intro rfl (BVw.oneL (And.intro (Vw.map _ _ rfl) (And.intro (Vw.same _ rfl) trivial)))) (And.intro (And.intro rfl (BVw.ofMap z8 yl zy v4)) (And.intro (And.intro rfl (BVw.ofMap z8 za zd v1.2)) trivial))))))
 refine w6 (v := (decide (((v3.map z6).length : Int) < ((v1.1.map z6).length : Int)))) rfl trivial (fun h14 => ?_) (fun h14 => ?_)
 ·have h := qj h14 h
  refine w8 ?_
  refine jh ?_
  refine zo ?_
  refine yq ?_
  obtain ⟨v6, h15, h⟩ := bind_some h
  refine Yj (k := 3) (m := 1) (L' := [((0, 0), .one [.ptr (6, 0) 0 0]), ((1, 0), .one [.map (6, 1)]), ((6, 0), .one [.map (6, 2), .isl 3 (v1.1.map z6) false]), ((6, 1), .amap (v4.map (em z8 yl))), ((6, 2), .amap (v1.2.map (em z8 za)))]) (rest := [((2, 0), .tok)]) (R' := .int .i64 v6.1) [((1, 0), (0, 0)), ((1, 1), (1, 0)), ((2, 0), (3, 0)), ((2, 1), (4, 0)), ((2, 2), (5, 0))] (zhq (show Clo Try.prog (.func 26) [] [.ptr (1, 0) 0 0, .ptr (1, 1) 0 0] (fun (s : Unit) => [((1, 0), .one [.ptr (2, 0) 0 0]), ((1, 1), .one [.map (2, 1)]), ((2, 0), .one [.map (2, 2), .isl 3 (v1.1.map z6) false]), ((2, 1), .amap (v4.map (em z8 yl))), ((2, 2), .amap (v1.2.map (em z8 za)))]) (fun (x : G_QKey) => [.agg [.int .i64 x.f_Kind, .int .i64 x.f_A, .int .i64 x.f_B]]) (fun (b : Bool) => .bool b) (fun (s : Unit) (x : G_QKey) => (zm m v1.1 v4 v1.2 x).map fun o => (o, ())) from Clo.mk' (fun s => Tl.lit rfl (And.intro (rfl) (And.intro (rfl) (And.intro (rfl) (And.intro (zf4 z8 yl xq zy _) (And.intro (zf4 z8 za xq zd _) trivial))))) rfl) rfl rfl (fun _ => rfl) (fun s x o h => by obtain ⟨o1, h1, rfl⟩ := Option.map_eq_some_iff.1 h; exact Exists.intro _ (And.intro (zg3 h1) (And.intro rfl (And.intro rfl (And.intro rfl (And.intro rfl (And.intro rfl (And.intro rfl (And.intro rfl (And.intro (ve z8 yl xq zy _) (And.intro rfl (And.intro (ve z8 za xq zd _) trivial))))))))))))) h15) rfl rfl rfl (And.intro (Vw.same _ rfl) (And.intro (Vw.fnL trivial (And.intro (Vw.ptr _ _ _ _ rfl) (And.intro (Vw.ptr _ _ _ _ rfl) trivial))) trivial)) (And.intro (h0I (0, 0) rfl rfl (BVw.oneL (And.intro (Vw.ptr _ _ _ _ rfl) trivial))) (And.intro (h0I (1, 0) rfl rfl (BVw.oneL (And.intro (Vw.map _ _ rfl) trivial))) (And.intro (h0I (3, 0) rfl rfl (BVw.oneL (And.intro (Vw.map _ _ rfl) (And.intro (Vw.same _ rfl) trivial)))) (And.intro (h0I (4, 0) rfl rfl (BVw.ofMap z8 yl zy v4)) (And.intro (h0I (5, 0) rfl rfl (BVw.ofMap z8 za zd v1.2)) trivial))))) (k8 _ rfl) (And.intro rfl (And.intro rfl (And.intro rfl (And.intro rfl (And.intro rfl (And.intro rfl (And.intro rfl (And.intro ((congrArg (ABlock.ren _) (ve z8 yl xq zy _)).trans (ve z8 yl xq zy _)) (And.intro rfl (And.intro ((congrArg (ABlock.ren _) (ve z8 za xq zd _)).trans (ve z8 za xq zd _)) trivial)))))))))) rfl ?_
  show Zw _ _ _ [(24, .int .i64 v6.1), (23, .fn (.func 26) [] [.ptr (0, 0) 0 0, .ptr (1, 0) 0 0]), (22, .isl 3 (v1.1.map z6) false), (21, .ptr (3, 0) 0 1), (20, .ptr (3, 0) 0 0), (19, .ptr (3, 0) 0 0), (4, .ptr (0, 0) 0 0), (5, .ptr (1, 0) 0 0), (6, .osl (2, 0) 3 (v3.map z6)), (18, .bool (decide (((v3.map z6).length : Int) < ((v1.1.map z6).length : Int))))] _ _
  refine zo ?_
  refine zo ?_
  refine yq ?_
  refine LWp.sim (e := [(4, .ptr (0, 0) 0 0), (5, .ptr (1, 0) 0 0), (6, .osl (2, 0) 3 (v3.map z6)), (7, .int .i64 v6.1), (26, .bool (decide (v6.1 < 0)))]) (L := [((0, 0), .one [.ptr (3, 0) 0 0]), ((1, 0), .one [.map (4, 0)]), ((2, 0), .tok), ((3, 0), .one [.map (5, 0), .isl 3 (v1.1.map z6) false]), ((4, 0), .amap (v4.map (em z8 yl))), ((5, 0), .amap (v1.2.map (em z8 za)))]) (n := 6) ?_ ?_
  ·exact jy (M := [((0, 0), (0, 0)), ((1, 0), (1, 0)), ((2, 0), (2, 0)), ((3, 0), (6, 0)), ((4, 0), (6, 1)), ((5, 0), (6, 2))]) rfl (And.intro (Vw.ptr _ _ _ _ rfl) (And.intro (Vw.ptr _ _ _ _ rfl) (And.intro (Vw.osl _ _ _ _ rfl) (And.intro (Vw.same _ rfl) (And.intro (Vw.same _ rfl) trivial))))) (And.intro (And.intro rfl (BVw.oneL (And.intro (Vw.ptr _ _ _ _ rfl) trivial))) (And.intro (And.intro rfl (BVw.oneL (And.intro (Vw.map _ _ rfl) trivial))) (And.intro (And.intro rfl BVw.tok) (And.intro (And.intro rfl (BVw.oneL (And.intro (Vw.map _ _ rfl) (And.intro (Vw.same _ rfl) trivial)))) (And.intro (And.intro rfl (BVw.ofMap z8 yl zy v4)) (And.intro (And.intro rfl (BVw.ofMap z8 za zd v1.2)) trivial))))))
  refine w6 (v := (decide (v6.1 < 0))) rfl trivial (fun h16 => ?_) (fun h16 => ?_)
  ·have h := qj h16 h
   refine zo ?_
   refine yq ?_
   refine uf ?_
   obtain ⟨o, hq, rfl⟩ := Option.map_eq_some_iff.1 h
   replace h := hq; clear hq
   refine And.intro nofun ?_
   cases h
   exact And.intro trivial (And.intro trivial (And.intro rfl (Vw.tupL (And.intro (Vw.nilI _ _) (And.intro (Vw.same _ rfl) trivial)))))
  ·have h := xl h16 h
   refine w8 ?_
   refine zo ?_
   refine z3n rfl ?_
   obtain ⟨h17, h⟩ := yj h
   refine And.intro h17 ?_
   show Zw _ _ _ [(33, .iptr 3 (v1.1.map z6) v6.1.toNat 0), (32, .int .i64 v6.1), (31, .isl 3 (v1.1.map z6) false), (30, .ptr (3, 0) 0 1), (29, .ptr (3, 0) 0 0), (28, .ptr (3, 0) 0 0), (27, .map (4, 0)), (4, .ptr (0, 0) 0 0), (5, .ptr (1, 0) 0 0), (6, .osl (2, 0) 3 (v3.map z6)), (7, .int .i64 v6.1), (26, .bool (decide (v6.1 < 0)))] _ _
   refine Exists.intro (z6 (v1.1.getD v6.1.toNat default)) (And.intro (jn z6 _ _ (wv z6 h17)) (And.intro (And.intro (u5 h17) (Nat.le_of_ble_eq_true rfl)) ?_))
   refine Exists.intro ((mp ze v4 (G_QKey.mk ((v1.1.getD v6.1.toNat default).f_Kind) ((v1.1.getD v6.1.toNat default).f_A) ((v1.1.getD v6.1.toNat default).f_B)) 1).map (em z8 yl)) (And.intro (z0s (ek := z8) (ev := yl) j7 (G_QKey.mk ((v1.1.getD v6.1.toNat default).f_Kind) ((v1.1.getD v6.1.toNat default).f_A) ((v1.1.getD v6.1.toNat default).f_B)) 1 v4) ?_)
   refine LWp.sim (e := [(4, .ptr (0, 0) 0 0), (5, .ptr (1, 0) 0 0), (6, .osl (2, 0) 3 (v3.map z6)), (7, .int .i64 v6.1)]) (L := [((0, 0), .one [.ptr (3, 0) 0 0]), ((1, 0), .one [.map (4, 0)]), ((2, 0), .tok), ((3, 0), .one [.map (5, 0), .isl 3 (v1.1.map z6) false]), ((4, 0), .amap ((mp ze v4 (G_QKey.mk ((v1.1.getD v6.1.toNat default).f_Kind) ((v1.1.getD v6.1.toNat default).f_A) ((v1.1.getD v6.1.toNat default).f_B)) 1).map (em z8 yl))), ((5, 0), .amap (v1.2.map (em z8 za)))]) (n := 6) ?_ ?_
   ·exact jy (M := [((0, 0), (0, 0)), ((1, 0), (1, 0)), ((2, 0), (2, 0)), ((3, 0), (3, 0)), ((4, 0), (4, 0)), ((5, 0), (5, 0))]) rfl (And.intro (Vw.ptr _ _ _ _ rfl) (And.intro (Vw.ptr _ _ _ _ rfl) (And.intro (Vw.osl _ _ _ _ rfl) (And.intro (Vw.same _ rfl) trivial)))) (And.intro (And.intro rfl (BVw.oneL (And.intro (Vw.ptr _ _ _ _ rfl) trivial))) (And.intro (And.intro rfl (BVw.oneL (And.intro (Vw.map _ _ rfl) trivial))) (And.intro (And.intro rfl BVw.tok) (And.intro (And.intro rfl (BVw.oneL (And.intro (Vw.map _ _ rfl) (And.intro (Vw.same _ rfl) trivial)))) (And.intro (And.intro rfl (BVw.ofMap z8 yl zy (mp ze v4 (G_QKey.mk ((v1.1.getD v6.1.toNat default).f_Kind) ((v1.1.getD v6.1.toNat default).f_A) ((v1.1.getD v6.1.toNat default).f_B)) 1))) (And.intro (And.intro rfl (BVw.ofMap z8 za zd v1.2)) trivial))))))
   refine yq ?_
   obtain ⟨h18, h⟩ := yj h
   refine And.intro h18 ?_
   show Zw _ _ _ [(41, .iptr 3 (v1.1.map z6) v6.1.toNat 0), (40, .int .i64 v6.1), (39, .isl 3 (v1.1.map z6) false), (38, .ptr (3, 0) 0 1), (37, .ptr (3, 0) 0 0), (36, .ptr (3, 0) 0 0), (35, .osl (2, 0) 3 (v3.map z6)), (4, .ptr (0, 0) 0 0), (5, .ptr (1, 0) 0 0), (6, .osl (2, 0) 3 (v3.map z6)), (7, .int .i64 v6.1)] _ _
   refine Exists.intro (z6 (v1.1.getD v6.1.toNat default)) (And.intro (jn z6 _ _ (wv z6 h18)) (And.intro (And.intro (u5 h18) (Nat.le_of_ble_eq_true rfl)) ?_))
   obtain ⟨h19, h⟩ := yj h
   refine Exists.intro ((v3 ++ ([(G_QKey.mk ((v1.1.getD v6.1.toNat default).f_Kind) ((v1.1.getD v6.1.toNat default).f_A) ((v1.1.getD v6.1.toNat default).f_B))] : List G_QKey)).map z6) (And.intro (Ju z6 v3 ([(G_QKey.mk ((v1.1.getD v6.1.toNat default).f_Kind) ((v1.1.getD v6.1.toNat default).f_A) ((v1.1.getD v6.1.toNat default).f_B))] : List G_QKey)) (And.intro h19 ?_))
   cases h
   exact And.intro rfl (jy (M := [((0, 0), (0, 0)), ((1, 0), (1, 0)), ((2, 0), (6, 0)), ((3, 0), (3, 0)), ((4, 0), (4, 0)), ((5, 0), (5, 0))]) rfl (And.intro (Vw.ptr _ _ _ _ rfl) (And.intro (Vw.ptr _ _ _ _ rfl) (And.intro (Vw.osl _ _ _ _ rfl) trivial))) (And.intro (And.intro rfl (BVw.oneL (And.intro (Vw.ptr _ _ _ _ rfl) trivial))) (And.intro (And.intro rfl (BVw.oneL (And.intro (Vw.map _ _ rfl) trivial))) (And.intro (And.intro rfl BVw.tok) (And.intro (And.intro rfl (BVw.oneL (And.intro (Vw.map _ _ rfl) (And.intro (Vw.same _ rfl) trivial)))) (And.intro (And.intro rfl (BVw.ofMap z8 yl zy (mp ze v4 (G_QKey.mk ((v1.1.getD v6.1.toNat default).f_Kind) ((v1.1.getD v6.1.toNat default).f_A) ((v1.1.getD v6.1.toNat default).f_B)) 1))) (And.intro (And.intro rfl (BVw.ofMap z8 za zd v1.2)) trivial)))))))
 ·have h := xl h14 h
  refine Zs ?_
  obtain ⟨o, hq, rfl⟩ := Option.map_eq_some_iff.1 h
  replace h := hq; clear hq
  refine And.intro nofun ?_
  refine LWp.sim ?_ (zen h)
  exact jy (M := [((0, 0), (2, 0))]) rfl (And.intro (Vw.osl _ _ _ _ rfl) trivial) (And.intro (And.intro rfl BVw.tok) trivial)
theorem zax {a0 : List G_QEdge} {v1 : (List G_QKey) × (List (G_QKey × (List G_QKey)))} {v3 : List G_QKey} {v4 : List (G_QKey × Int)} {m : Option Nat} {o : ((List G_QKey) × Int)} (h : yr m v1 v3 v4 = some o) :
 LWp Try.prog Xg 0 (.loop zbf) (xa 0 (Zt Try.prog Xg 0 z7y (zi3 a0 o))) [(4, .ptr (0, 0) 0 0), (5, .ptr (1, 0) 0 0), (6, .osl (2, 0) 3 (v3.map z6))] [((0, 0), .one [.ptr (3, 0) 0 0]), ((1, 0), .one [.map (4, 0)]), ((2, 0), .tok), ((3, 0), .one [.map (5, 0), .isl 3 (v1.1.map z6) false]), ((4, 0), .amap (v4.map (em z8 yl))), ((5, 0), .amap (v1.2.map (em z8 za)))] 6 :=
 je (m := m) (s := ((v3, v4) : ((List G_QKey) × (List (G_QKey × Int))))) (r := o) (fun (s : ((List G_QKey) × (List (G_QKey × Int)))) => y6 m v1 s.1 s.2) (Uz v1) (z2x v1) (z7a a0) (fun s o h => z8x h) h
noncomputable def qc (m : Option Nat) (a0 : List G_QEdge) : Option ((List G_QKey) × Int) :=
 (qo m a0 false).bind fun v1 =>
 yr m v1 [] ([] : List (G_QKey × Int))
theorem zd6 {a0 : List G_QEdge} {m : Option Nat} {o : (List G_QKey) × Int} (h : qc m a0 = some o) : LWp Try.prog Xg 0 zic (zi3 a0 o) (qq 0 [.isl 6 (a0.map z7) false]) [] 0 := by
 unfold qc at h
 refine zo ?_
 refine yq ?_
 refine zo ?_
 refine yq ?_
 obtain ⟨v1, h1, h⟩ := bind_some h
 refine Yj (k := 3) (m := 4) (L' := [((0, 0), .one [.map (1, 0), .isl 3 (v1.1.map z6) false]), ((1, 0), .amap (v1.2.map (em z8 za)))]) (rest := []) (R' := .ptr (0, 0) 0 0) [] (z1u h1) rfl rfl rfl (And.intro (Vw.same _ rfl) (And.intro (Vw.same _ rfl) trivial)) trivial rfl (And.intro rfl (And.intro rfl (And.intro rfl (And.intro (ve z8 za xq zd _) trivial)))) rfl ?_
 refine zo ?_
 refine yq ?_
 refine LWp.sim (e := [(4, .ptr (0, 0) 0 0), (5, .ptr (1, 0) 0 0)]) (L := [((0, 0), .one [.ptr (2, 0) 0 0]), ((1, 0), .one [.map (3, 0)]), ((2, 0), .one [.map (4, 0), .isl 3 (v1.1.map z6) false]), ((3, 0), .amap (([] : List (G_QKey × Int)).map (em z8 yl))), ((4, 0), .amap (v1.2.map (em z8 za)))]) (n := 5) ?_ ?_
 ·exact jy (M := [((0, 0), (5, 0)), ((1, 0), (7, 0)), ((2, 0), (0, 0)), ((3, 0), (6, 0)), ((4, 0), (1, 0))]) rfl (And.intro (Vw.ptr _ _ _ _ rfl) (And.intro (Vw.ptr _ _ _ _ rfl) trivial)) (And.intro (And.intro rfl (BVw.oneL (And.intro (Vw.ptr _ _ _ _ rfl) trivial))) (And.intro (And.intro rfl (BVw.oneL (And.intro (Vw.map _ _ rfl) trivial))) (And.intro (And.intro rfl (BVw.oneL (And.intro (Vw.map _ _ rfl) (And.intro (Vw.same _ rfl) trivial)))) (And.intro (And.intro rfl (BVw.ofMap z8 yl zy ([] : List (G_QKey × Int)))) (And.intro (And.intro rfl (BVw.ofMap z8 za zd v1.2)) trivial)))))
 refine zo ?_
 refine yq ?_
 refine zo ?_
 refine jh ?_
 refine LWp.sim ?_ (zax h)
 exact jy (M := [((0, 0), (0, 0)), ((1, 0), (1, 0)), ((3, 0), (2, 0)), ((4, 0), (3, 0)), ((5, 0), (4, 0))]) rfl (And.intro (Vw.ptr _ _ _ _ rfl) (And.intro (Vw.ptr _ _ _ _ rfl) (And.intro (Vw.nilO _ _ (by decide)) trivial))) (And.intro (And.intro rfl (BVw.oneL (And.intro (Vw.ptr _ _ _ _ rfl) trivial))) (And.intro (And.intro rfl (BVw.oneL (And.intro (Vw.map _ _ rfl) trivial))) (And.intro (And.intro rfl (And.intro (by decide) (by decide))) (And.intro (And.intro rfl (BVw.oneL (And.intro (Vw.map _ _ rfl) (And.intro (Vw.same _ rfl) trivial)))) (And.intro (And.intro rfl (BVw.ofMap z8 yl zy ([] : List (G_QKey × Int)))) (And.intro (And.intro rfl (BVw.ofMap z8 za zd v1.2)) trivial))))))
theorem zly {a0 : List G_QEdge} {m : Option Nat} {o : (List G_QKey) × Int} (h : qc m a0 = some o) : PFn Try.prog 13 [.isl 6 (a0.map z7) false] (.tup [.isl 3 (o.1.map z6) false, .int .i64 o.2]) := PFn.ofFnW (L := znl) zjy zke (Nat.le_of_ble_eq_true rfl) rfl (zd6 h)
def zj0 : LCode := (.seq (.region [⟨some 2, .box (.t 0), none⟩,
 ⟨some 3, .box (.t 1), none⟩,
 ⟨some 4, .mv (.c (.bool false)), none⟩])
 (.seq (.seq (.region [⟨some 5, .faddr 0 (.t 2), none⟩,
  ⟨some 6, .load false 1 (.t 5), none⟩,
  ⟨some 7, .faddr 0 (.t 3), none⟩,
  ⟨some 8, .load false 1 (.t 7), none⟩,
  ⟨some 9, .bin .neq (.t 6) (.t 8), none⟩])
 (.cond (.t 9)
  (.seq (.region [⟨some 10, .faddr 0 (.t 2), none⟩,
   ⟨some 11, .load false 1 (.t 10), none⟩,
   ⟨some 12, .faddr 0 (.t 3), none⟩,
   ⟨some 13, .load false 1 (.t 12), none⟩,
   ⟨some 14, .bin .lss (.t 11) (.t 13), none⟩,
   ⟨some 4, .mv (.t 14), none⟩])
  .ret)
  .skip))
 (.seq (.seq (.region [⟨some 15, .faddr 1 (.t 2), none⟩,
  ⟨some 16, .load false 1 (.t 15), none⟩,
  ⟨some 17, .faddr 1 (.t 3), none⟩,
  ⟨some 18, .load false 1 (.t 17), none⟩,
  ⟨some 19, .bin .neq (.t 16) (.t 18), none⟩])
 (.cond (.t 19)
  (.seq (.region [⟨some 20, .faddr 1 (.t 2), none⟩,
   ⟨some 21, .load false 1 (.t 20), none⟩,
   ⟨some 22, .faddr 1 (.t 3), none⟩,
   ⟨some 23, .load false 1 (.t 22), none⟩,
   ⟨some 24, .bin .lss (.t 21) (.t 23), none⟩,
   ⟨some 4, .mv (.t 24), none⟩])
  .ret)
  .skip))
 (.seq (.region [⟨some 25, .faddr 2 (.t 2), none⟩,
  ⟨some 26, .load false 1 (.t 25), none⟩,
  ⟨some 27, .faddr 2 (.t 3), none⟩,
  ⟨some 28, .load false 1 (.t 27), none⟩,
  ⟨some 29, .bin .lss (.t 26) (.t 28), none⟩,
  ⟨some 4, .mv (.t 29), none⟩])
 .ret))))
def zcg : Lay := ⟨30, [], false⟩
def ze7 : List LRes := [.t 4]
def zni : LFn := ⟨2, zcg, zj0, ze7⟩
theorem zl6 : wz Try.prog [] 41 = some zni := by kernel_rfl
theorem zku : Ze Try.prog 41 := ⟨_, Try.func41, rfl, rfl⟩
noncomputable def xj (m : Option Nat) (a0 : G_QKey) (a1 : G_QKey) : Option Bool :=
 if (a0.f_Kind != a1.f_Kind) = true then
  some (decide (a0.f_Kind < a1.f_Kind))
 else
  if (a0.f_A != a1.f_A) = true then
   some (decide (a0.f_A < a1.f_A))
  else
   some (decide (a0.f_B < a1.f_B))
def zov (a0 : G_QKey) (a1 : G_QKey) (o : Bool) : Exit → Env → AHeap → Nat → Prop := Qo ze7 (wb (.bool o))
theorem zb0 {a0 : G_QKey} {a1 : G_QKey} {m : Option Nat} {o : Bool} (h : xj m a0 a1 = some o) : LWp Try.prog zcg 0 zj0 (zov a0 a1 o) (qq 0 [.agg [.int .i64 a0.f_Kind, .int .i64 a0.f_A, .int .i64 a0.f_B], .agg [.int .i64 a1.f_Kind, .int .i64 a1.f_A, .int .i64 a1.f_B]]) [] 0 := by
 unfold xj at h
 refine zo ?_
 refine yq ?_
 refine zo ?_
 refine zo ?_
 refine yq ?_
 refine LWp.sim (e := [(2, .ptr (0, 0) 0 0), (3, .ptr (1, 0) 0 0), (9, .bool (a0.f_Kind != a1.f_Kind))]) (L := [((0, 0), .one [.int .i64 a0.f_Kind, .int .i64 a0.f_A, .int .i64 a0.f_B]), ((1, 0), .one [.int .i64 a1.f_Kind, .int .i64 a1.f_A, .int .i64 a1.f_B])]) (n := 2) ?_ ?_
 ·exact jy (M := [((0, 0), (0, 0)), ((1, 0), (1, 0))]) rfl (And.intro (Vw.ptr _ _ _ _ rfl) (And.intro (Vw.ptr _ _ _ _ rfl) (And.intro (Vw.same _ rfl) trivial))) (And.intro (And.intro rfl (BVw.oneL (And.intro (Vw.same _ rfl) (And.intro (Vw.same _ rfl) (And.intro (Vw.same _ rfl) trivial))))) (And.intro (And.intro rfl (BVw.oneL (And.intro (Vw.same _ rfl) (And.intro (Vw.same _ rfl) (And.intro (Vw.same _ rfl) trivial))))) trivial))
 refine w6 (v := (a0.f_Kind != a1.f_Kind)) rfl trivial (fun h1 => ?_) (fun h1 => ?_)
 ·have h := qj h1 h
  refine zo ?_
  refine yq ?_
  refine uf ?_
  cases h
  exact And.intro trivial (And.intro rfl (Vw.same _ rfl))
 ·have h := xl h1 h
  refine w8 ?_
  refine zo ?_
  refine zo ?_
  refine yq ?_
  refine w6 (v := (a0.f_A != a1.f_A)) rfl trivial (fun h2 => ?_) (fun h2 => ?_)
  ·have h := qj h2 h
   refine zo ?_
   refine yq ?_
   refine LWp.sim (e := [(4, .bool (decide (a0.f_A < a1.f_A)))]) (L := []) (n := 0) ?_ ?_
   ·exact jy (M := []) rfl (And.intro (Vw.same _ rfl) trivial) trivial
   refine uf ?_
   cases h
   exact And.intro trivial (And.intro rfl (Vw.same _ rfl))
  ·have h := xl h2 h
   refine w8 ?_
   refine zo ?_
   refine yq ?_
   refine LWp.sim (e := [(4, .bool (decide (a0.f_B < a1.f_B)))]) (L := []) (n := 0) ?_ ?_
   ·exact jy (M := []) rfl (And.intro (Vw.same _ rfl) trivial) trivial
   refine uf ?_
   cases h
   exact And.intro trivial (And.intro rfl (Vw.same _ rfl))
theorem zns {a0 : G_QKey} {a1 : G_QKey} {m : Option Nat} {o : Bool} (h : xj m a0 a1 = some o) : PFn Try.prog 41 [.agg [.int .i64 a0.f_Kind, .int .i64 a0.f_A, .int .i64 a0.f_B], .agg [.int .i64 a1.f_Kind, .int .i64 a1.f_A, .int .i64 a1.f_B]] (.bool o) := PFn.ofFnW (L := zni) zl6 zku (Nat.le_of_ble_eq_true rfl) rfl (zb0 h)
def zch : LCode := (.seq (.seq (.draw [⟨⟨some 13, .mv (.t 6), none⟩, []⟩,
 ⟨⟨some 14, .mv (.t 3), none⟩, []⟩,
 ⟨⟨some 15, .len false (.t 14), none⟩, []⟩,
 ⟨⟨some 16, .bin .lss (.t 13) (.t 15), none⟩, []⟩,
 ⟨⟨some 17, .mv (.t 16), none⟩, []⟩,
 ⟨⟨some 18, .mv (.t 3), some (17, true)⟩, []⟩,
 ⟨⟨some 19, .mv (.t 6), some (17, true)⟩, []⟩,
 ⟨⟨some 20, .iaddr 3 (.t 18) (.t 19), some (17, true)⟩, []⟩,
 ⟨⟨some 21, .load true 3 (.t 20), some (17, true)⟩, []⟩,
 ⟨⟨some 22, .load true 3 (.t 5), some (17, true)⟩, []⟩,
 ⟨⟨some 23, .call 41 [(.t 21), (.t 22)], some (17, true)⟩, []⟩,
 ⟨⟨some 24, .pick (.t 17) (.t 23) (.c (.bool false)), none⟩, []⟩])
 (.cond (.t 24)
  .skip
  (.exit 2)))
 (.block 3
  (.region [⟨some 25, .mv (.t 6), none⟩,
   ⟨some 26, .bin .add (.t 25) (.c (.int .i64 1)), none⟩,
   ⟨some 6, .mv (.t 26), none⟩])))
def z7f : LCode := (.seq (.quiet [⟨some 27, .mv (.t 6), none⟩,
 ⟨some 28, .mv (.t 3), none⟩,
 ⟨some 29, .len false (.t 28), none⟩,
 ⟨some 30, .bin .eql (.t 27) (.t 29), none⟩,
 ⟨some 31, .mv (.t 30), none⟩,
 ⟨some 32, .mv (.t 3), some (31, false)⟩,
 ⟨some 33, .mv (.t 6), some (31, false)⟩,
 ⟨some 34, .iaddr 3 (.t 32) (.t 33), some (31, false)⟩,
 ⟨some 35, .load true 3 (.t 34), some (31, false)⟩,
 ⟨some 36, .load true 3 (.t 5), some (31, false)⟩,
 ⟨some 37, .eq true (.agg [.int, .int, .int]) (.t 35) (.t 36), some (31, false)⟩,
 ⟨some 38, .pick (.t 31) (.c (.bool true)) (.t 37), none⟩])
 (.cond (.t 38)
  (.draw [⟨⟨some 39, .mv (.t 3), none⟩, []⟩,
   ⟨⟨some 40, .mv (.t 6), none⟩, []⟩,
   ⟨⟨some 41, .mv (.t 6), none⟩, []⟩,
   ⟨⟨some 42, .slSl 3 (.t 39) none (some (.t 40)) (some (.t 41)), none⟩, []⟩,
   ⟨⟨some 43, .load true 3 (.t 5), none⟩, []⟩,
   ⟨⟨some 45, .mv (.t 3), none⟩, []⟩,
   ⟨⟨some 46, .mv (.t 6), none⟩, []⟩,
   ⟨⟨some 47, .slSl 3 (.t 45) (some (.t 46)) none none, none⟩, []⟩,
   ⟨⟨some 44, .mkSl true 3 [(.int .i64 0), (.int .i64 0), (.int .i64 0)] 1 [(0, (.t 43))], none⟩, []⟩,
   ⟨⟨some 48, .app true 3 24 (.t 44) (.t 47), none⟩, []⟩,
   ⟨⟨some 49, .app true 3 24 (.t 42) (.t 48), none⟩, []⟩,
   ⟨⟨some 3, .mv (.t 49), none⟩, []⟩])
  .skip))
def z2d : LCode := (.region [⟨some 50, .bin .add (.t 9) (.c (.int .i64 1)), none⟩,
 ⟨some 9, .mv (.t 50), none⟩])
def zcr : LCode := (.seq (.region [⟨some 10, .bin .lss (.t 9) (.t 8), none⟩])
 (.seq (.cond (.t 10)
  .skip
  (.exit 0))
 (.seq (.block 1
  (.seq (.region [⟨some 11, .iaddr 3 (.t 7) (.t 9), none⟩,
   ⟨some 12, .load true 3 (.t 11), none⟩,
   ⟨some 5, .alloc [(.int .i64 0), (.int .i64 0), (.int .i64 0)], none⟩,
   ⟨none, .store 3 (.t 5) (.t 12), none⟩])
  (.seq (.region [⟨some 6, .mv (.c (.int .i64 0)), none⟩])
  (.seq (.block 2
   (.loop
    zch))
  z7f))))
 z2d)))
def z73 : LCode := (.seq (.region [⟨some 51, .mv (.t 3), none⟩,
 ⟨some 2, .mv (.t 51), none⟩])
 .ret)
def zj8 : LCode := (.seq (.region [⟨some 2, .mv (.c (.val (.slice none 0 0))), none⟩])
 (.seq (.region [⟨some 3, .mv (.c (.val (.slice none 0 0))), none⟩])
 (.seq (.seq (.region [⟨some 7, .mv (.t 0), none⟩,
  ⟨some 8, .len false (.t 7), none⟩,
  ⟨some 9, .mv (.c (.int .i64 0)), none⟩])
 (.block 0
  (.loop
   zcr)))
 z73)))
def vg : Lay := ⟨52, [], false⟩
def zew : List LRes := [.t 2]
def zm2 : LFn := ⟨1, vg, zj8, zew⟩
theorem zka : wz Try.prog [] 24 = some zm2 := by kernel_rfl
theorem zl9 : Ze Try.prog 24 := ⟨_, Try.func24, rfl, rfl⟩
def zg4 (a0 : List G_QKey) (o : (List G_QKey)) : Exit → Env → AHeap → Nat → Prop := Qo zew (wb (.isl 3 (o.map z6) false))
def ug (a0 : List G_QKey) (s : ((List G_QKey) × Int)) : Env := [(3, .osl (0, 0) 3 (s.1.map z6)), (7, .isl 3 (a0.map z6) false), (8, .int .i64 ((a0.map z6).length : Int)), (9, .int .i64 s.2)]
def Zi (a0 : List G_QKey) (s : ((List G_QKey) × Int)) : AHeap := [((0, 0), .tok)]
def Qb (a0 : List G_QKey) (o : (List G_QKey)) : Exit → Env → AHeap → Nat → Prop := (xa 0 (Zt Try.prog vg 0 z73 (zg4 a0 o)))
def z09 (a0 : List G_QKey) (v6 : List G_QKey) (v7 : Int) (s : Int) : Env := [(3, .osl (0, 0) 3 (v6.map z6)), (5, .ptr (1, 0) 0 0), (6, .int .i64 s), (7, .isl 3 (a0.map z6) false), (8, .int .i64 ((a0.map z6).length : Int)), (9, .int .i64 v7)]
def z26 (a0 : List G_QKey) (v6 : List G_QKey) (v7 : Int) (s : Int) : AHeap := [((0, 0), .tok), ((1, 0), .one [.int .i64 ((a0.getD v7.toNat default).f_Kind), .int .i64 ((a0.getD v7.toNat default).f_A), .int .i64 ((a0.getD v7.toNat default).f_B)])]
def z6w (a0 : List G_QKey) (o : (((List G_QKey) × Int) ⊕ (List G_QKey))) : Exit → Env → AHeap → Nat → Prop := (xa 2 (Zt Try.prog vg 0 z7f (xa 1 (Zt Try.prog vg 0 z2d (vi 0 1 (ug a0) (Zi a0) (Qb a0) o)))))
noncomputable def xc (m : Option Nat) (a0 : List G_QKey) (v7 : Int) (v17 : List G_QKey) : Option (((List G_QKey) × Int) ⊕ (List G_QKey)) :=
 some (.inl (v17, (W (v7 + 1))))
noncomputable def qi (m : Option Nat) (a0 : List G_QKey) (v6 : List G_QKey) (v7 : Int) (v14 : Int) : Option (((List G_QKey) × Int) ⊕ (List G_QKey)) :=
 if (((v14 == ((v6.map z6).length : Int)) == false) = true → (0 : Int) ≤ v14 ∧ v14 < ((v6.map z6).length : Int)) then
 if ((v14 == ((v6.map z6).length : Int)) || (!(((v6.getD v14.toNat default).f_Kind == (a0.getD v7.toNat default).f_Kind) && (((v6.getD v14.toNat default).f_A == (a0.getD v7.toNat default).f_A) && (((v6.getD v14.toNat default).f_B == (a0.getD v7.toNat default).f_B) && true))))) = true then
  if (0 : Int) ≤ 0 ∧ 0 ≤ v14 ∧ v14 ≤ v14 ∧ v14 ≤ ((v6.map z6).length : Int) then
  if (0 : Int) ≤ v14 ∧ v14 ≤ ((v6.map z6).length : Int) then
  if ((([(G_QKey.mk ((a0.getD v7.toNat default).f_Kind) ((a0.getD v7.toNat default).f_A) ((a0.getD v7.toNat default).f_B))] : List G_QKey) ++ (v6.drop v14.toNat)).map z6).length * 24 ≤ 140737488355328 then
  if (decide (v14 = v14)) = true then
  if (((v6.take v14.toNat) ++ (([(G_QKey.mk ((a0.getD v7.toNat default).f_Kind) ((a0.getD v7.toNat default).f_A) ((a0.getD v7.toNat default).f_B))] : List G_QKey) ++ (v6.drop v14.toNat))).map z6).length * 24 ≤ 140737488355328 then
  xc m a0 v7 ((v6.take v14.toNat) ++ (([(G_QKey.mk ((a0.getD v7.toNat default).f_Kind) ((a0.getD v7.toNat default).f_A) ((a0.getD v7.toNat default).f_B))] : List G_QKey) ++ (v6.drop v14.toNat)))
  else none
  else none
  else none
  else none
  else none
 else
  xc m a0 v7 v6
 else none
noncomputable def ym (m : Option Nat) (a0 : List G_QKey) (v6 : List G_QKey) (v7 : Int) (v14 : Int) : Option (Int ⊕ (((List G_QKey) × Int) ⊕ (List G_QKey))) :=
 if (((decide (v14 < ((v6.map z6).length : Int))) == true) = true → (0 : Int) ≤ v14 ∧ v14 < ((v6.map z6).length : Int)) then
 (if ((decide (v14 < ((v6.map z6).length : Int))) == true) = true then xj m (G_QKey.mk ((v6.getD v14.toNat default).f_Kind) ((v6.getD v14.toNat default).f_A) ((v6.getD v14.toNat default).f_B)) (G_QKey.mk ((a0.getD v7.toNat default).f_Kind) ((a0.getD v7.toNat default).f_A) ((a0.getD v7.toNat default).f_B)) else some default).bind fun v16 =>
 if ((decide (v14 < ((v6.map z6).length : Int))) && v16) = true then
  some (.inl (W (v14 + 1)))
 else
  Option.map Sum.inr (
   qi m a0 v6 v7 v14)
 else none
noncomputable def qb (m : Option Nat) (a0 : List G_QKey) (v6 : List G_QKey) (v7 : Int) (v14 : Int) : Option (((List G_QKey) × Int) ⊕ (List G_QKey)) := kw m (fun (s : Int) => ym m a0 v6 v7 s) v14
theorem z43 {a0 : List G_QKey} {v7 : Int} {v17 : List G_QKey} {m : Option Nat} {o : (((List G_QKey) × Int) ⊕ (List G_QKey))} (h : xc m a0 v7 v17 = some o) :
 LWp Try.prog vg 0 z2d (vi 0 1 (ug a0) (Zi a0) (Qb a0) o) [(3, .osl (0, 0) 3 (v17.map z6)), (7, .isl 3 (a0.map z6) false), (8, .int .i64 ((a0.map z6).length : Int)), (9, .int .i64 v7)] [((0, 0), .tok)] 1 := by
 unfold xc at h
 refine yq ?_
 cases h
 exact And.intro rfl (jy (M := [((0, 0), (0, 0))]) rfl (And.intro (Vw.osl _ _ _ _ rfl) (And.intro (Vw.same _ rfl) (And.intro (Vw.same _ rfl) (And.intro (Vw.same _ rfl) trivial)))) (And.intro (And.intro rfl BVw.tok) trivial))
theorem zfh {a0 : List G_QKey} {v6 : List G_QKey} {v7 : Int} {v14 : Int} {m : Option Nat} {o : (((List G_QKey) × Int) ⊕ (List G_QKey))} (h : qi m a0 v6 v7 v14 = some o) :
 LWp Try.prog vg 0 z7f (xa 1 (Zt Try.prog vg 0 z2d (vi 0 1 (ug a0) (Zi a0) (Qb a0) o))) [(3, .osl (0, 0) 3 (v6.map z6)), (5, .ptr (1, 0) 0 0), (6, .int .i64 v14), (7, .isl 3 (a0.map z6) false), (8, .int .i64 ((a0.map z6).length : Int)), (9, .int .i64 v7)] [((0, 0), .tok), ((1, 0), .one [.int .i64 ((a0.getD v7.toNat default).f_Kind), .int .i64 ((a0.getD v7.toNat default).f_A), .int .i64 ((a0.getD v7.toNat default).f_B)])] 2 := by
 unfold qi at h
 refine zo ?_
 refine zj5 ?_
 obtain ⟨h47, h⟩ := yj h
 refine And.intro (fun hp => (And.intro (And.intro hp hp) (h47 hp))) ?_
 show yqs _ _ [(34, .cnd ((v14 == ((v6.map z6).length : Int)) == false) (.iptr 3 (v6.map z6) v14.toNat 0)), (33, .cnd ((v14 == ((v6.map z6).length : Int)) == false) (.int .i64 v14)), (32, .cnd ((v14 == ((v6.map z6).length : Int)) == false) (.osl (0, 0) 3 (v6.map z6))), (31, .bool (v14 == ((v6.map z6).length : Int))), (30, .bool (v14 == ((v6.map z6).length : Int))), (29, .int .i64 ((v6.map z6).length : Int)), (28, .osl (0, 0) 3 (v6.map z6)), (27, .int .i64 v14), (3, .osl (0, 0) 3 (v6.map z6)), (5, .ptr (1, 0) 0 0), (6, .int .i64 v14), (7, .isl 3 (a0.map z6) false), (8, .int .i64 ((a0.map z6).length : Int)), (9, .int .i64 v7)] _ _
 refine Exists.intro (z6 (v6.getD v14.toNat default)) (And.intro (fun hp => And.intro (jn z6 _ _ (wv z6 (h47 hp))) (And.intro hp (And.intro (u5 (h47 hp)) (Nat.le_of_ble_eq_true rfl)))) ?_)
 refine And.intro (fun hp => (And.intro hp hp)) ?_
 refine And.intro (fun hc => (bqf hc)) ?_
 refine LWp.sim (e := [(3, .osl (0, 0) 3 (v6.map z6)), (5, .ptr (1, 0) 0 0), (6, .int .i64 v14), (7, .isl 3 (a0.map z6) false), (8, .int .i64 ((a0.map z6).length : Int)), (9, .int .i64 v7), (38, .bool ((v14 == ((v6.map z6).length : Int)) || (!(((v6.getD v14.toNat default).f_Kind == (a0.getD v7.toNat default).f_Kind) && (((v6.getD v14.toNat default).f_A == (a0.getD v7.toNat default).f_A) && (((v6.getD v14.toNat default).f_B == (a0.getD v7.toNat default).f_B) && true))))))]) (L := [((0, 0), .tok), ((1, 0), .one [.int .i64 ((a0.getD v7.toNat default).f_Kind), .int .i64 ((a0.getD v7.toNat default).f_A), .int .i64 ((a0.getD v7.toNat default).f_B)])]) (n := 2) ?_ ?_
 ·exact jy (M := [((0, 0), (0, 0)), ((1, 0), (1, 0))]) rfl (And.intro (Vw.osl _ _ _ _ rfl) (And.intro (Vw.ptr _ _ _ _ rfl) (And.intro (Vw.same _ rfl) (And.intro (Vw.same _ rfl) (And.intro (Vw.same _ rfl) (And.intro (Vw.same _ rfl) (And.intro (Vw.same _ rfl) trivial))))))) (And.intro (And.intro rfl BVw.tok) (And.intro (And.intro rfl (BVw.oneL (And.intro (Vw.same _ rfl) (And.intro (Vw.same _ rfl) (And.intro (Vw.same _ rfl) trivial))))) trivial))
 refine w6 (v := ((v14 == ((v6.map z6).length : Int)) || (!(((v6.getD v14.toNat default).f_Kind == (a0.getD v7.toNat default).f_Kind) && (((v6.getD v14.toNat default).f_A == (a0.getD v7.toNat default).f_A) && (((v6.getD v14.toNat default).f_B == (a0.getD v7.toNat default).f_B) && true)))))) rfl trivial (fun h48 => ?_) (fun h48 => ?_)
 ·have h := qj h48 h
  refine z3n rfl ?_
  obtain ⟨h49, h⟩ := yj h
  refine Exists.intro (.isl 3 ((v6.take v14.toNat).map z6) (decide (v14 = v14))) (And.intro (zjq z6 (slB z6 v6 _) rfl) (And.intro (And.intro rfl h49) ?_))
  obtain ⟨h50, h⟩ := yj h
  refine Exists.intro (.osl (0, 0) 3 ((v6.drop v14.toNat).map z6)) (And.intro (zje z6 _ _ _ _) (And.intro (And.intro rfl h50) ?_))
  obtain ⟨h51, h⟩ := yj h
  refine Exists.intro ((([(G_QKey.mk ((a0.getD v7.toNat default).f_Kind) ((a0.getD v7.toNat default).f_A) ((a0.getD v7.toNat default).f_B))] : List G_QKey) ++ (v6.drop v14.toNat)).map z6) (And.intro (Ju z6 ([(G_QKey.mk ((a0.getD v7.toNat default).f_Kind) ((a0.getD v7.toNat default).f_A) ((a0.getD v7.toNat default).f_B))] : List G_QKey) (v6.drop v14.toNat)) (And.intro (And.intro rfl h51) ?_))
  obtain ⟨h52, h⟩ := yj h
  obtain ⟨h53, h⟩ := yj h
  refine Exists.intro (((v6.take v14.toNat) ++ (([(G_QKey.mk ((a0.getD v7.toNat default).f_Kind) ((a0.getD v7.toNat default).f_A) ((a0.getD v7.toNat default).f_B))] : List G_QKey) ++ (v6.drop v14.toNat))).map z6) (And.intro (Ju z6 (v6.take v14.toNat) (([(G_QKey.mk ((a0.getD v7.toNat default).f_Kind) ((a0.getD v7.toNat default).f_A) ((a0.getD v7.toNat default).f_B))] : List G_QKey) ++ (v6.drop v14.toNat))) (And.intro (And.intro h52 h53) ?_))
  refine LWp.sim ?_ (z43 h)
  exact jy (M := [((0, 0), (3, 0))]) rfl (And.intro (Vw.osl _ _ _ _ rfl) (And.intro (Vw.same _ rfl) (And.intro (Vw.same _ rfl) (And.intro (Vw.same _ rfl) trivial)))) (And.intro (And.intro rfl BVw.tok) trivial)
 ·have h := xl h48 h
  refine w8 ?_
  refine LWp.sim ?_ (z43 h)
  exact jy (M := [((0, 0), (0, 0))]) rfl (And.intro (Vw.osl _ _ _ _ rfl) (And.intro (Vw.same _ rfl) (And.intro (Vw.same _ rfl) (And.intro (Vw.same _ rfl) trivial)))) (And.intro (And.intro rfl BVw.tok) trivial)
theorem z9s {a0 : List G_QKey} {v6 : List G_QKey} {v7 : Int} {v14 : Int} {m : Option Nat} {o : Int ⊕ (((List G_QKey) × Int) ⊕ (List G_QKey))} (h : ym m a0 v6 v7 v14 = some o) :
 LWp Try.prog vg 0 zch (vi 0 2 (z09 a0 v6 v7) (z26 a0 v6 v7) (z6w a0) o) [(3, .osl (0, 0) 3 (v6.map z6)), (5, .ptr (1, 0) 0 0), (6, .int .i64 v14), (7, .isl 3 (a0.map z6) false), (8, .int .i64 ((a0.map z6).length : Int)), (9, .int .i64 v7)] [((0, 0), .tok), ((1, 0), .one [.int .i64 ((a0.getD v7.toNat default).f_Kind), .int .i64 ((a0.getD v7.toNat default).f_A), .int .i64 ((a0.getD v7.toNat default).f_B)])] 2 := by
 unfold ym at h
 refine zo ?_
 refine zo ?_
 refine z3n rfl ?_
 obtain ⟨h44, h⟩ := yj h
 refine And.intro (fun hp => (And.intro (And.intro hp hp) (h44 hp))) ?_
 show Zw _ _ _ [(20, .cnd ((decide (v14 < ((v6.map z6).length : Int))) == true) (.iptr 3 (v6.map z6) v14.toNat 0)), (19, .cnd ((decide (v14 < ((v6.map z6).length : Int))) == true) (.int .i64 v14)), (18, .cnd ((decide (v14 < ((v6.map z6).length : Int))) == true) (.osl (0, 0) 3 (v6.map z6))), (17, .bool (decide (v14 < ((v6.map z6).length : Int)))), (16, .bool (decide (v14 < ((v6.map z6).length : Int)))), (15, .int .i64 ((v6.map z6).length : Int)), (14, .osl (0, 0) 3 (v6.map z6)), (13, .int .i64 v14), (3, .osl (0, 0) 3 (v6.map z6)), (5, .ptr (1, 0) 0 0), (6, .int .i64 v14), (7, .isl 3 (a0.map z6) false), (8, .int .i64 ((a0.map z6).length : Int)), (9, .int .i64 v7)] _ _
 refine Exists.intro (z6 (v6.getD v14.toNat default)) (And.intro (fun hp => And.intro (jn z6 _ _ (wv z6 (h44 hp))) (And.intro hp (And.intro (u5 (h44 hp)) (Nat.le_of_ble_eq_true rfl)))) ?_)
 obtain ⟨v16, h45, h⟩ := bind_some h
 refine Or.inl (Exists.intro (.bool v16) (And.intro (fun hp => And.intro (And.intro hp hp) (PFn.call (zns (qj hp h45)) (And.intro (Vw.same _ rfl) (And.intro (Vw.same _ rfl) trivial)) (And.intro rfl (And.intro rfl rfl)))) ?_))
 refine And.intro (fun hc => (bqt hc)) ?_
 refine LWp.sim (e := [(3, .osl (0, 0) 3 (v6.map z6)), (5, .ptr (1, 0) 0 0), (6, .int .i64 v14), (7, .isl 3 (a0.map z6) false), (8, .int .i64 ((a0.map z6).length : Int)), (9, .int .i64 v7), (24, .bool ((decide (v14 < ((v6.map z6).length : Int))) && v16))]) (L := [((0, 0), .tok), ((1, 0), .one [.int .i64 ((a0.getD v7.toNat default).f_Kind), .int .i64 ((a0.getD v7.toNat default).f_A), .int .i64 ((a0.getD v7.toNat default).f_B)])]) (n := 2) ?_ ?_
 ·exact jy (M := [((0, 0), (0, 0)), ((1, 0), (1, 0))]) rfl (And.intro (Vw.osl _ _ _ _ rfl) (And.intro (Vw.ptr _ _ _ _ rfl) (And.intro (Vw.same _ rfl) (And.intro (Vw.same _ rfl) (And.intro (Vw.same _ rfl) (And.intro (Vw.same _ rfl) (And.intro (Vw.same _ rfl) trivial))))))) (And.intro (And.intro rfl BVw.tok) (And.intro (And.intro rfl (BVw.oneL (And.intro (Vw.same _ rfl) (And.intro (Vw.same _ rfl) (And.intro (Vw.same _ rfl) trivial))))) trivial))
 refine w6 (v := ((decide (v14 < ((v6.map z6).length : Int))) && v16)) rfl trivial (fun h46 => ?_) (fun h46 => ?_)
 ·have h := qj h46 h
  refine w8 ?_
  refine jh ?_
  refine yq ?_
  cases h
  exact And.intro rfl (jy (M := [((0, 0), (0, 0)), ((1, 0), (1, 0))]) rfl (And.intro (Vw.osl _ _ _ _ rfl) (And.intro (Vw.ptr _ _ _ _ rfl) (And.intro (Vw.same _ rfl) (And.intro (Vw.same _ rfl) (And.intro (Vw.same _ rfl) (And.intro (Vw.same _ rfl) trivial)))))) (And.intro (And.intro rfl BVw.tok) (And.intro (And.intro rfl (BVw.oneL (And.intro (Vw.same _ rfl) (And.intro (Vw.same _ rfl) (And.intro (Vw.same _ rfl) trivial))))) trivial)))
 ·have h := xl h46 h
  refine Zs ?_
  obtain ⟨o, hq, rfl⟩ := Option.map_eq_some_iff.1 h
  replace h := hq; clear hq
  refine And.intro nofun ?_
  refine LWp.sim ?_ (zfh h)
  exact jy (M := [((0, 0), (0, 0)), ((1, 0), (1, 0))]) rfl (And.intro (Vw.osl _ _ _ _ rfl) (And.intro (Vw.ptr _ _ _ _ rfl) (And.intro (Vw.same _ rfl) (And.intro (Vw.same _ rfl) (And.intro (Vw.same _ rfl) (And.intro (Vw.same _ rfl) trivial)))))) (And.intro (And.intro rfl BVw.tok) (And.intro (And.intro rfl (BVw.oneL (And.intro (Vw.same _ rfl) (And.intro (Vw.same _ rfl) (And.intro (Vw.same _ rfl) trivial))))) trivial))
theorem ze2 {a0 : List G_QKey} {v6 : List G_QKey} {v7 : Int} {v14 : Int} {m : Option Nat} {o : (((List G_QKey) × Int) ⊕ (List G_QKey))} (h : qb m a0 v6 v7 v14 = some o) :
 LWp Try.prog vg 0 (.loop zch) (xa 2 (Zt Try.prog vg 0 z7f (xa 1 (Zt Try.prog vg 0 z2d (vi 0 1 (ug a0) (Zi a0) (Qb a0) o))))) [(3, .osl (0, 0) 3 (v6.map z6)), (5, .ptr (1, 0) 0 0), (6, .int .i64 v14), (7, .isl 3 (a0.map z6) false), (8, .int .i64 ((a0.map z6).length : Int)), (9, .int .i64 v7)] [((0, 0), .tok), ((1, 0), .one [.int .i64 ((a0.getD v7.toNat default).f_Kind), .int .i64 ((a0.getD v7.toNat default).f_A), .int .i64 ((a0.getD v7.toNat default).f_B)])] 2 :=
 je (m := m) (s := (v14 : Int)) (r := o) (fun (s : Int) => ym m a0 v6 v7 s) (z09 a0 v6 v7) (z26 a0 v6 v7) (z6w a0) (fun s o h => z9s h) h
noncomputable def jb (m : Option Nat) (v6 : List G_QKey) : Option (List G_QKey) :=
 some v6
noncomputable def qg (m : Option Nat) (a0 : List G_QKey) (v6 : List G_QKey) (v7 : Int) : Option (((List G_QKey) × Int) ⊕ (List G_QKey)) :=
 if (decide (v7 < ((a0.map z6).length : Int))) = true then
  if (0 : Int) ≤ v7 ∧ v7 < ((a0.map z6).length : Int) then
  qb m a0 v6 v7 0
  else none
 else
  Option.map Sum.inr (
   jb m v6)
noncomputable def xg (m : Option Nat) (a0 : List G_QKey) (v6 : List G_QKey) (v7 : Int) : Option (List G_QKey) := kw m (fun (s : ((List G_QKey) × Int)) => qg m a0 s.1 s.2) (v6, v7)
theorem zcz {a0 : List G_QKey} {v6 : List G_QKey} {m : Option Nat} {o : (List G_QKey)} (h : jb m v6 = some o) :
 LWp Try.prog vg 0 z73 (zg4 a0 o) [(3, .osl (0, 0) 3 (v6.map z6))] [((0, 0), .tok)] 1 := by
 unfold jb at h
 refine zo ?_
 refine yq ?_
 refine uf ?_
 cases h
 exact And.intro trivial (And.intro rfl (Vw.oslI _ _ _))
theorem z95 {a0 : List G_QKey} {v6 : List G_QKey} {v7 : Int} {m : Option Nat} {o : ((List G_QKey) × Int) ⊕ (List G_QKey)} (h : qg m a0 v6 v7 = some o) :
 LWp Try.prog vg 0 zcr (vi 0 1 (ug a0) (Zi a0) (Qb a0) o) [(3, .osl (0, 0) 3 (v6.map z6)), (7, .isl 3 (a0.map z6) false), (8, .int .i64 ((a0.map z6).length : Int)), (9, .int .i64 v7)] [((0, 0), .tok)] 1 := by
 unfold qg at h
 refine zo ?_
 refine yq ?_
 refine zo ?_
 refine w6 (v := (decide (v7 < ((a0.map z6).length : Int)))) rfl trivial (fun h36 => ?_) (fun h36 => ?_)
 ·have h := qj h36 h
  refine w8 ?_
  refine zo ?_
  refine jh ?_
  refine zo ?_
  refine yq ?_
  obtain ⟨h37, h⟩ := yj h
  refine And.intro h37 ?_
  refine Exists.intro (z6 (a0.getD v7.toNat default)) (And.intro (jn z6 _ _ (wv z6 h37)) (And.intro (And.intro (u5 h37) (Nat.le_of_ble_eq_true rfl)) ?_))
  refine zo ?_
  refine yq ?_
  refine zo ?_
  refine jh ?_
  refine LWp.sim ?_ (ze2 h)
  exact jy (M := [((0, 0), (0, 0)), ((1, 0), (1, 0))]) rfl (And.intro (Vw.osl _ _ _ _ rfl) (And.intro (Vw.ptr _ _ _ _ rfl) (And.intro (Vw.same _ rfl) (And.intro (Vw.same _ rfl) (And.intro (Vw.same _ rfl) (And.intro (Vw.same _ rfl) trivial)))))) (And.intro (And.intro rfl BVw.tok) (And.intro (And.intro rfl (BVw.oneL (And.intro (Vw.same _ rfl) (And.intro (Vw.same _ rfl) (And.intro (Vw.same _ rfl) trivial))))) trivial))
 ·have h := xl h36 h
  refine Zs ?_
  obtain ⟨o, hq, rfl⟩ := Option.map_eq_some_iff.1 h
  replace h := hq; clear hq
  refine And.intro nofun ?_
  refine LWp.sim ?_ (zcz h)
  exact jy (M := [((0, 0), (0, 0))]) rfl (And.intro (Vw.osl _ _ _ _ rfl) trivial) (And.intro (And.intro rfl BVw.tok) trivial)
theorem zbt {a0 : List G_QKey} {v6 : List G_QKey} {v7 : Int} {m : Option Nat} {o : (List G_QKey)} (h : xg m a0 v6 v7 = some o) :
 LWp Try.prog vg 0 (.loop zcr) (xa 0 (Zt Try.prog vg 0 z73 (zg4 a0 o))) [(3, .osl (0, 0) 3 (v6.map z6)), (7, .isl 3 (a0.map z6) false), (8, .int .i64 ((a0.map z6).length : Int)), (9, .int .i64 v7)] [((0, 0), .tok)] 1 :=
 je (m := m) (s := ((v6, v7) : ((List G_QKey) × Int))) (r := o) (fun (s : ((List G_QKey) × Int)) => qg m a0 s.1 s.2) (ug a0) (Zi a0) (Qb a0) (fun s o h => z95 h) h
noncomputable def x7 (m : Option Nat) (a0 : List G_QKey) : Option (List G_QKey) :=
 xg m a0 [] 0
theorem zdv {a0 : List G_QKey} {m : Option Nat} {o : (List G_QKey)} (h : x7 m a0 = some o) : LWp Try.prog vg 0 zj8 (zg4 a0 o) (qq 0 [.isl 3 (a0.map z6) false]) [] 0 := by
 unfold x7 at h
 refine zo ?_
 refine yq ?_
 refine zo ?_
 refine yq ?_
 refine zo ?_
 refine zo ?_
 refine yq ?_
 refine jh ?_
 refine LWp.sim ?_ (zbt h)
 exact jy (M := []) rfl (And.intro (Vw.nilO _ _ (by decide)) (And.intro (Vw.same _ rfl) (And.intro (Vw.same _ rfl) (And.intro (Vw.same _ rfl) trivial)))) (And.intro (And.intro rfl (And.intro (by decide) (by decide))) trivial)
theorem zj1 {a0 : List G_QKey} {m : Option Nat} {o : (List G_QKey)} (h : x7 m a0 = some o) : PFn Try.prog 24 [.isl 3 (a0.map z6) false] (.isl 3 (o.map z6) false) := PFn.ofFnW (L := zm2) zka zl9 (Nat.le_of_ble_eq_true rfl) rfl (zdv h)
def zb2 : LCode := (.seq (.region [⟨some 9, .bin .lss (.t 8) (.t 7), none⟩])
 (.seq (.cond (.t 9)
  .skip
  (.exit 0))
 (.seq (.block 1
  (.seq (.region [⟨some 10, .iaddr 6 (.t 6) (.t 8), none⟩,
   ⟨some 11, .load true 6 (.t 10), none⟩,
   ⟨some 5, .alloc [(.int .i64 0), (.int .i64 0), (.int .i64 0), (.int .i64 0), (.int .i64 0), (.int .i64 0)], none⟩,
   ⟨none, .store 6 (.t 5) (.t 11), none⟩])
  (.region [⟨some 12, .mv (.t 3), none⟩,
   ⟨some 13, .faddr 0 (.t 5), none⟩,
   ⟨some 14, .load true 3 (.t 13), none⟩,
   ⟨some 15, .faddr 3 (.t 5), none⟩,
   ⟨some 16, .load true 3 (.t 15), none⟩,
   ⟨some 17, .mkSl true 3 [(.int .i64 0), (.int .i64 0), (.int .i64 0)] 2 [(0, (.t 14)), (1, (.t 16))], none⟩,
   ⟨some 18, .app true 3 24 (.t 12) (.t 17), none⟩,
   ⟨some 3, .mv (.t 18), none⟩])))
 (.region [⟨some 19, .bin .add (.t 8) (.c (.int .i64 1)), none⟩,
  ⟨some 8, .mv (.t 19), none⟩]))))
def z78 : LCode := (.seq (.region [⟨some 20, .mv (.t 3), none⟩,
 ⟨some 21, .call 24 [(.t 20)], none⟩,
 ⟨some 2, .mv (.t 21), none⟩])
 .ret)
def ziu : LCode := (.seq (.region [⟨some 2, .mv (.c (.val (.slice none 0 0))), none⟩])
 (.seq (.region [⟨some 3, .mv (.c (.val (.slice none 0 0))), none⟩])
 (.seq (.seq (.region [⟨some 6, .mv (.t 0), none⟩,
  ⟨some 7, .len false (.t 6), none⟩,
  ⟨some 8, .mv (.c (.int .i64 0)), none⟩])
 (.block 0
  (.loop
   zb2)))
 z78)))
def Xh : Lay := ⟨22, [], false⟩
def zbv : List LRes := [.t 2]
def zlw : LFn := ⟨1, Xh, ziu, zbv⟩
theorem zkl : wz Try.prog [] 28 = some zlw := by kernel_rfl
theorem zk7 : Ze Try.prog 28 := ⟨_, Try.func28, rfl, rfl⟩
def zgx (a0 : List G_QEdge) (o : (List G_QKey)) : Exit → Env → AHeap → Nat → Prop := Qo zbv (wb (.isl 3 (o.map z6) false))
def z05 (a0 : List G_QEdge) (s : ((List G_QKey) × Int)) : Env := [(3, .osl (0, 0) 3 (s.1.map z6)), (6, .isl 6 (a0.map z7) false), (7, .int .i64 ((a0.map z7).length : Int)), (8, .int .i64 s.2)]
def z29 (a0 : List G_QEdge) (s : ((List G_QKey) × Int)) : AHeap := [((0, 0), .tok)]
def z8j (a0 : List G_QEdge) (o : (List G_QKey)) : Exit → Env → AHeap → Nat → Prop := (xa 0 (Zt Try.prog Xh 0 z78 (zgx a0 o)))
noncomputable def j4 (m : Option Nat) (v1 : List G_QKey) : Option (List G_QKey) :=
 (x7 m v1).bind fun v3 =>
 some v3
noncomputable def x6 (m : Option Nat) (a0 : List G_QEdge) (v1 : List G_QKey) (v2 : Int) : Option (((List G_QKey) × Int) ⊕ (List G_QKey)) :=
 if (decide (v2 < ((a0.map z7).length : Int))) = true then
  if (0 : Int) ≤ v2 ∧ v2 < ((a0.map z7).length : Int) then
  if ((v1 ++ ([(G_QKey.mk (((a0.getD v2.toNat default).f_From).f_Kind) (((a0.getD v2.toNat default).f_From).f_A) (((a0.getD v2.toNat default).f_From).f_B)), (G_QKey.mk (((a0.getD v2.toNat default).f_To).f_Kind) (((a0.getD v2.toNat default).f_To).f_A) (((a0.getD v2.toNat default).f_To).f_B))] : List G_QKey)).map z6).length * 24 ≤ 140737488355328 then
  some (.inl ((v1 ++ ([(G_QKey.mk (((a0.getD v2.toNat default).f_From).f_Kind) (((a0.getD v2.toNat default).f_From).f_A) (((a0.getD v2.toNat default).f_From).f_B)), (G_QKey.mk (((a0.getD v2.toNat default).f_To).f_Kind) (((a0.getD v2.toNat default).f_To).f_A) (((a0.getD v2.toNat default).f_To).f_B))] : List G_QKey)), (W (v2 + 1))))
  else none
  else none
 else
  Option.map Sum.inr (
   j4 m v1)
noncomputable def xz (m : Option Nat) (a0 : List G_QEdge) (v1 : List G_QKey) (v2 : Int) : Option (List G_QKey) := kw m (fun (s : ((List G_QKey) × Int)) => x6 m a0 s.1 s.2) (v1, v2)
theorem ze5 {a0 : List G_QEdge} {v1 : List G_QKey} {m : Option Nat} {o : (List G_QKey)} (h : j4 m v1 = some o) :
 LWp Try.prog Xh 0 z78 (zgx a0 o) [(3, .osl (0, 0) 3 (v1.map z6))] [((0, 0), .tok)] 1 := by
 unfold j4 at h
 refine zo ?_
 refine yq ?_
 obtain ⟨v3, h10, h⟩ := bind_some h
 refine PFn.call (zj1 h10) (And.intro (Vw.oslI _ _ _) trivial) ?_
 refine uf ?_
 cases h
 exact And.intro trivial (And.intro rfl (Vw.same _ rfl))
theorem z94 {a0 : List G_QEdge} {v1 : List G_QKey} {v2 : Int} {m : Option Nat} {o : ((List G_QKey) × Int) ⊕ (List G_QKey)} (h : x6 m a0 v1 v2 = some o) :
 LWp Try.prog Xh 0 zb2 (vi 0 1 (z05 a0) (z29 a0) (z8j a0) o) [(3, .osl (0, 0) 3 (v1.map z6)), (6, .isl 6 (a0.map z7) false), (7, .int .i64 ((a0.map z7).length : Int)), (8, .int .i64 v2)] [((0, 0), .tok)] 1 := by
 unfold x6 at h
 refine zo ?_
 refine yq ?_
 refine zo ?_
 refine w6 (v := (decide (v2 < ((a0.map z7).length : Int)))) rfl trivial (fun h7 => ?_) (fun h7 => ?_)
 ·have h := qj h7 h
  refine w8 ?_
  refine zo ?_
  refine jh ?_
  refine zo ?_
  refine yq ?_
  obtain ⟨h8, h⟩ := yj h
  refine And.intro h8 ?_
  refine Exists.intro (z7 (a0.getD v2.toNat default)) (And.intro (jn z7 _ _ (wv z7 h8)) (And.intro (And.intro (u5 h8) (Nat.le_of_ble_eq_true rfl)) ?_))
  refine yq ?_
  obtain ⟨h9, h⟩ := yj h
  refine Exists.intro ((v1 ++ ([(G_QKey.mk (((a0.getD v2.toNat default).f_From).f_Kind) (((a0.getD v2.toNat default).f_From).f_A) (((a0.getD v2.toNat default).f_From).f_B)), (G_QKey.mk (((a0.getD v2.toNat default).f_To).f_Kind) (((a0.getD v2.toNat default).f_To).f_A) (((a0.getD v2.toNat default).f_To).f_B))] : List G_QKey)).map z6) (And.intro (Ju z6 v1 ([(G_QKey.mk (((a0.getD v2.toNat default).f_From).f_Kind) (((a0.getD v2.toNat default).f_From).f_A) (((a0.getD v2.toNat default).f_From).f_B)), (G_QKey.mk (((a0.getD v2.toNat default).f_To).f_Kind) (((a0.getD v2.toNat default).f_To).f_A) (((a0.getD v2.toNat default).f_To).f_B))] : List G_QKey)) (And.intro h9 ?_))
  refine LWp.sim (e := [(3, .osl (0, 0) 3 ((v1 ++ ([(G_QKey.mk (((a0.getD v2.toNat default).f_From).f_Kind) (((a0.getD v2.toNat default).f_From).f_A) (((a0.getD v2.toNat default).f_From).f_B)), (G_QKey.mk (((a0.getD v2.toNat default).f_To).f_Kind) (((a0.getD v2.toNat default).f_To).f_A) (((a0.getD v2.toNat default).f_To).f_B))] : List G_QKey)).map z6)), (6, .isl 6 (a0.map z7) false), (7, .int .i64 ((a0.map z7).length : Int)), (8, .int .i64 v2)]) (L := [((0, 0), .tok)]) (n := 1) ?_ ?_
  ·exact jy (M := [((0, 0), (2, 0))]) rfl (And.intro (Vw.osl _ _ _ _ rfl) (And.intro (Vw.same _ rfl) (And.intro (Vw.same _ rfl) (And.intro (Vw.same _ rfl) trivial)))) (And.intro (And.intro rfl BVw.tok) trivial)
  refine yq ?_
  cases h
  exact And.intro rfl (jy (M := [((0, 0), (0, 0))]) rfl (And.intro (Vw.osl _ _ _ _ rfl) (And.intro (Vw.same _ rfl) (And.intro (Vw.same _ rfl) (And.intro (Vw.same _ rfl) trivial)))) (And.intro (And.intro rfl BVw.tok) trivial))
 ·have h := xl h7 h
  refine Zs ?_
  obtain ⟨o, hq, rfl⟩ := Option.map_eq_some_iff.1 h
  replace h := hq; clear hq
  refine And.intro nofun ?_
  refine LWp.sim ?_ (ze5 h)
  exact jy (M := [((0, 0), (0, 0))]) rfl (And.intro (Vw.osl _ _ _ _ rfl) trivial) (And.intro (And.intro rfl BVw.tok) trivial)
theorem zc2 {a0 : List G_QEdge} {v1 : List G_QKey} {v2 : Int} {m : Option Nat} {o : (List G_QKey)} (h : xz m a0 v1 v2 = some o) :
 LWp Try.prog Xh 0 (.loop zb2) (xa 0 (Zt Try.prog Xh 0 z78 (zgx a0 o))) [(3, .osl (0, 0) 3 (v1.map z6)), (6, .isl 6 (a0.map z7) false), (7, .int .i64 ((a0.map z7).length : Int)), (8, .int .i64 v2)] [((0, 0), .tok)] 1 :=
 je (m := m) (s := ((v1, v2) : ((List G_QKey) × Int))) (r := o) (fun (s : ((List G_QKey) × Int)) => x6 m a0 s.1 s.2) (z05 a0) (z29 a0) (z8j a0) (fun s o h => z94 h) h
noncomputable def xh (m : Option Nat) (a0 : List G_QEdge) : Option (List G_QKey) :=
 xz m a0 [] 0
theorem zd9 {a0 : List G_QEdge} {m : Option Nat} {o : (List G_QKey)} (h : xh m a0 = some o) : LWp Try.prog Xh 0 ziu (zgx a0 o) (qq 0 [.isl 6 (a0.map z7) false]) [] 0 := by
 unfold xh at h
 refine zo ?_
 refine yq ?_
 refine zo ?_
 refine yq ?_
 refine zo ?_
 refine zo ?_
 refine yq ?_
 refine jh ?_
 refine LWp.sim ?_ (zc2 h)
 exact jy (M := []) rfl (And.intro (Vw.nilO _ _ (by decide)) (And.intro (Vw.same _ rfl) (And.intro (Vw.same _ rfl) (And.intro (Vw.same _ rfl) trivial)))) (And.intro (And.intro rfl (And.intro (by decide) (by decide))) trivial)
theorem zil {a0 : List G_QEdge} {m : Option Nat} {o : (List G_QKey)} (h : xh m a0 = some o) : PFn Try.prog 28 [.isl 6 (a0.map z7) false] (.isl 3 (o.map z6) false) := PFn.ofFnW (L := zlw) zkl zk7 (Nat.le_of_ble_eq_true rfl) rfl (zd9 h)
def za7 : LCode := (.seq (.region [⟨some 10, .bin .lss (.t 9) (.t 8), none⟩])
 (.seq (.cond (.t 10)
  .skip
  (.exit 0))
 (.seq (.block 1
  (.seq (.region [⟨some 11, .mv (.t 9), none⟩,
   ⟨some 12, .iaddr 3 (.t 7) (.t 9), none⟩,
   ⟨some 13, .load true 3 (.t 12), none⟩,
   ⟨some 6, .alloc [(.int .i64 0), (.int .i64 0), (.int .i64 0)], none⟩,
   ⟨some 5, .mv (.t 11), none⟩,
   ⟨none, .store 3 (.t 6) (.t 13), none⟩])
  (.seq (.region [⟨some 14, .load true 3 (.t 3), none⟩,
   ⟨some 15, .load true 3 (.t 6), none⟩,
   ⟨some 16, .eq false (.agg [.int, .int, .int]) (.t 14) (.t 15), none⟩])
  (.cond (.t 16)
   (.seq (.region [⟨some 17, .mv (.t 5), none⟩,
    ⟨some 4, .mv (.t 17), none⟩])
   .ret)
   .skip))))
 (.region [⟨some 18, .bin .add (.t 9) (.c (.int .i64 1)), none⟩,
  ⟨some 9, .mv (.t 18), none⟩]))))
def z8l : LCode := (.seq (.region [⟨some 4, .mv (.c (.int .i64 (-1))), none⟩])
 .ret)
def zj9 : LCode := (.seq (.region [⟨some 3, .box (.t 1), none⟩,
 ⟨some 4, .mv (.c (.int .i64 0)), none⟩])
 (.seq (.seq (.region [⟨some 7, .mv (.t 0), none⟩,
  ⟨some 8, .len false (.t 7), none⟩,
  ⟨some 9, .mv (.c (.int .i64 0)), none⟩])
 (.block 0
  (.loop
   za7)))
 z8l))
def X5 : Lay := ⟨19, [], false⟩
def zde : List LRes := [.t 4]
def zn7 : LFn := ⟨2, X5, zj9, zde⟩
theorem zl5 : wz Try.prog [] 40 = some zn7 := by kernel_rfl
theorem zjr : Ze Try.prog 40 := ⟨_, Try.func40, rfl, rfl⟩
def zho (a0 : List G_QKey) (a1 : G_QKey) (o : Int) : Exit → Env → AHeap → Nat → Prop := Qo zde (wb (.int .i64 o))
def Ut (a0 : List G_QKey) (a1 : G_QKey) (s : Int) : Env := [(3, .ptr (0, 0) 0 0), (7, .isl 3 (a0.map z6) false), (8, .int .i64 ((a0.map z6).length : Int)), (9, .int .i64 s)]
def z4l (a0 : List G_QKey) (a1 : G_QKey) (s : Int) : AHeap := [((0, 0), .one [.int .i64 a1.f_Kind, .int .i64 a1.f_A, .int .i64 a1.f_B])]
def z7z (a0 : List G_QKey) (a1 : G_QKey) (o : Int) : Exit → Env → AHeap → Nat → Prop := (xa 0 (Zt Try.prog X5 0 z8l (zho a0 a1 o)))
noncomputable def x4 (m : Option Nat) : Option Int :=
 some (-1)
noncomputable def zr (m : Option Nat) (a0 : List G_QKey) (a1 : G_QKey) (v1 : Int) : Option (Int ⊕ Int) :=
 if (decide (v1 < ((a0.map z6).length : Int))) = true then
  if (0 : Int) ≤ v1 ∧ v1 < ((a0.map z6).length : Int) then
  if ((a1.f_Kind == (a0.getD v1.toNat default).f_Kind) && ((a1.f_A == (a0.getD v1.toNat default).f_A) && ((a1.f_B == (a0.getD v1.toNat default).f_B) && true))) = true then
   Option.map Sum.inr (
    some v1)
  else
   some (.inl (W (v1 + 1)))
  else none
 else
  Option.map Sum.inr (
   x4 m)
noncomputable def ya (m : Option Nat) (a0 : List G_QKey) (a1 : G_QKey) (v1 : Int) : Option Int := kw m (fun (s : Int) => zr m a0 a1 s) v1
theorem zan {a0 : List G_QKey} {a1 : G_QKey} {m : Option Nat} {o : Int} (h : x4 m = some o) :
 LWp Try.prog X5 0 z8l (zho a0 a1 o) [] [] 0 := by
 unfold x4 at h
 refine zo ?_
 refine yq ?_
 refine uf ?_
 cases h
 exact And.intro trivial (And.intro rfl (Vw.same _ rfl))
theorem z9w {a0 : List G_QKey} {a1 : G_QKey} {v1 : Int} {m : Option Nat} {o : Int ⊕ Int} (h : zr m a0 a1 v1 = some o) :
 LWp Try.prog X5 0 za7 (vi 0 1 (Ut a0 a1) (z4l a0 a1) (z7z a0 a1) o) [(3, .ptr (0, 0) 0 0), (7, .isl 3 (a0.map z6) false), (8, .int .i64 ((a0.map z6).length : Int)), (9, .int .i64 v1)] [((0, 0), .one [.int .i64 a1.f_Kind, .int .i64 a1.f_A, .int .i64 a1.f_B])] 1 := by
 unfold zr at h
 refine zo ?_
 refine yq ?_
 refine zo ?_
 refine w6 (v := (decide (v1 < ((a0.map z6).length : Int)))) rfl trivial (fun h7 => ?_) (fun h7 => ?_)
 ·have h := qj h7 h
  refine w8 ?_
  refine zo ?_
  refine jh ?_
  refine zo ?_
  refine yq ?_
  obtain ⟨h8, h⟩ := yj h
  refine And.intro h8 ?_
  refine Exists.intro (z6 (a0.getD v1.toNat default)) (And.intro (jn z6 _ _ (wv z6 h8)) (And.intro (And.intro (u5 h8) (Nat.le_of_ble_eq_true rfl)) ?_))
  refine zo ?_
  refine yq ?_
  refine LWp.sim (e := [(3, .ptr (0, 0) 0 0), (5, .int .i64 v1), (7, .isl 3 (a0.map z6) false), (8, .int .i64 ((a0.map z6).length : Int)), (9, .int .i64 v1), (16, .bool ((a1.f_Kind == (a0.getD v1.toNat default).f_Kind) && ((a1.f_A == (a0.getD v1.toNat default).f_A) && ((a1.f_B == (a0.getD v1.toNat default).f_B) && true))))]) (L := [((0, 0), .one [.int .i64 a1.f_Kind, .int .i64 a1.f_A, .int .i64 a1.f_B])]) (n := 1) ?_ ?_
  ·exact jy (M := [((0, 0), (0, 0))]) rfl (And.intro (Vw.ptr _ _ _ _ rfl) (And.intro (Vw.same _ rfl) (And.intro (Vw.same _ rfl) (And.intro (Vw.same _ rfl) (And.intro (Vw.same _ rfl) (And.intro (Vw.same _ rfl) trivial)))))) (And.intro (And.intro rfl (BVw.oneL (And.intro (Vw.same _ rfl) (And.intro (Vw.same _ rfl) (And.intro (Vw.same _ rfl) trivial))))) trivial)
  refine w6 (v := ((a1.f_Kind == (a0.getD v1.toNat default).f_Kind) && ((a1.f_A == (a0.getD v1.toNat default).f_A) && ((a1.f_B == (a0.getD v1.toNat default).f_B) && true)))) rfl trivial (fun h9 => ?_) (fun h9 => ?_)
  ·have h := qj h9 h
   refine zo ?_
   refine yq ?_
   refine uf ?_
   obtain ⟨o, hq, rfl⟩ := Option.map_eq_some_iff.1 h
   replace h := hq; clear hq
   refine And.intro nofun ?_
   cases h
   exact And.intro trivial (And.intro rfl (Vw.same _ rfl))
  ·have h := xl h9 h
   refine w8 ?_
   refine yq ?_
   cases h
   exact And.intro rfl (jy (M := [((0, 0), (0, 0))]) rfl (And.intro (Vw.ptr _ _ _ _ rfl) (And.intro (Vw.same _ rfl) (And.intro (Vw.same _ rfl) (And.intro (Vw.same _ rfl) trivial)))) (And.intro (And.intro rfl (BVw.oneL (And.intro (Vw.same _ rfl) (And.intro (Vw.same _ rfl) (And.intro (Vw.same _ rfl) trivial))))) trivial))
 ·have h := xl h7 h
  refine Zs ?_
  obtain ⟨o, hq, rfl⟩ := Option.map_eq_some_iff.1 h
  replace h := hq; clear hq
  refine And.intro nofun ?_
  refine LWp.sim ?_ (zan h)
  exact jy (M := []) rfl trivial trivial
theorem zdw {a0 : List G_QKey} {a1 : G_QKey} {v1 : Int} {m : Option Nat} {o : Int} (h : ya m a0 a1 v1 = some o) :
 LWp Try.prog X5 0 (.loop za7) (xa 0 (Zt Try.prog X5 0 z8l (zho a0 a1 o))) [(3, .ptr (0, 0) 0 0), (7, .isl 3 (a0.map z6) false), (8, .int .i64 ((a0.map z6).length : Int)), (9, .int .i64 v1)] [((0, 0), .one [.int .i64 a1.f_Kind, .int .i64 a1.f_A, .int .i64 a1.f_B])] 1 :=
 je (m := m) (s := (v1 : Int)) (r := o) (fun (s : Int) => zr m a0 a1 s) (Ut a0 a1) (z4l a0 a1) (z7z a0 a1) (fun s o h => z9w h) h
noncomputable def ql (m : Option Nat) (a0 : List G_QKey) (a1 : G_QKey) : Option Int :=
 ya m a0 a1 0
theorem zev {a0 : List G_QKey} {a1 : G_QKey} {m : Option Nat} {o : Int} (h : ql m a0 a1 = some o) : LWp Try.prog X5 0 zj9 (zho a0 a1 o) (qq 0 [.isl 3 (a0.map z6) false, .agg [.int .i64 a1.f_Kind, .int .i64 a1.f_A, .int .i64 a1.f_B]]) [] 0 := by
 unfold ql at h
 refine zo ?_
 refine yq ?_
 refine zo ?_
 refine zo ?_
 refine yq ?_
 refine jh ?_
 refine LWp.sim ?_ (zdw h)
 exact jy (M := [((0, 0), (0, 0))]) rfl (And.intro (Vw.ptr _ _ _ _ rfl) (And.intro (Vw.same _ rfl) (And.intro (Vw.same _ rfl) (And.intro (Vw.same _ rfl) trivial)))) (And.intro (And.intro rfl (BVw.oneL (And.intro (Vw.same _ rfl) (And.intro (Vw.same _ rfl) (And.intro (Vw.same _ rfl) trivial))))) trivial)
theorem znd {a0 : List G_QKey} {a1 : G_QKey} {m : Option Nat} {o : Int} (h : ql m a0 a1 = some o) : PFn Try.prog 40 [.isl 3 (a0.map z6) false, .agg [.int .i64 a1.f_Kind, .int .i64 a1.f_A, .int .i64 a1.f_B]] (.int .i64 o) := PFn.ofFnW (L := zn7) zl5 zjr (Nat.le_of_ble_eq_true rfl) rfl (zev h)
def zio : LCode := (.seq (.region [⟨some 3, .box (.t 1), none⟩,
 ⟨some 4, .mv (.c (.bool false)), none⟩])
 (.seq (.region [⟨some 5, .mv (.t 0), none⟩,
  ⟨some 6, .load true 3 (.t 3), none⟩,
  ⟨some 7, .call 40 [(.t 5), (.t 6)], none⟩,
  ⟨some 8, .bin .geq (.t 7) (.c (.int .i64 0)), none⟩,
  ⟨some 4, .mv (.t 8), none⟩])
 .ret))
def zdf : Lay := ⟨9, [], false⟩
def zcl : List LRes := [.t 4]
def znr : LFn := ⟨2, zdf, zio, zcl⟩
theorem zkj : wz Try.prog [] 23 = some znr := by kernel_rfl
theorem zkf : Ze Try.prog 23 := ⟨_, Try.func23, rfl, rfl⟩
noncomputable def zh (m : Option Nat) (a0 : List G_QKey) (a1 : G_QKey) : Option Bool :=
 (ql m a0 a1).bind fun v1 =>
 some (decide (v1 ≥ 0))
def zop (a0 : List G_QKey) (a1 : G_QKey) (o : Bool) : Exit → Env → AHeap → Nat → Prop := Qo zcl (wb (.bool o))
theorem zac {a0 : List G_QKey} {a1 : G_QKey} {m : Option Nat} {o : Bool} (h : zh m a0 a1 = some o) : LWp Try.prog zdf 0 zio (zop a0 a1 o) (qq 0 [.isl 3 (a0.map z6) false, .agg [.int .i64 a1.f_Kind, .int .i64 a1.f_A, .int .i64 a1.f_B]]) [] 0 := by
 unfold zh at h
 refine zo ?_
 refine yq ?_
 refine zo ?_
 refine yq ?_
 obtain ⟨v1, h1, h⟩ := bind_some h
 refine PFn.call (znd h1) (And.intro (Vw.same _ rfl) (And.intro (Vw.same _ rfl) trivial)) ?_
 show Zw _ _ _ [(7, .int .i64 v1), (6, .agg [.int .i64 a1.f_Kind, .int .i64 a1.f_A, .int .i64 a1.f_B]), (5, .isl 3 (a0.map z6) false), (4, .bool false), (3, .ptr (0, 0) 0 0), (0, .isl 3 (a0.map z6) false), (1, .agg [.int .i64 a1.f_Kind, .int .i64 a1.f_A, .int .i64 a1.f_B])] _ _
 refine uf ?_
 cases h
 exact And.intro trivial (And.intro rfl (Vw.same _ rfl))
theorem z20 {a0 : List G_QKey} {a1 : G_QKey} {m : Option Nat} {o : Bool} (h : zh m a0 a1 = some o) : PFn Try.prog 23 [.isl 3 (a0.map z6) false, .agg [.int .i64 a1.f_Kind, .int .i64 a1.f_A, .int .i64 a1.f_B]] (.bool o) := PFn.ofFnW (L := znr) zkj zkf (Nat.le_of_ble_eq_true rfl) rfl (zac h)
def zim : LCode := (.region [⟨some 38, .bin .add (.t 12) (.c (.int .i64 1)), none⟩,
 ⟨some 12, .mv (.t 38), none⟩])
def zdh : LCode := (.seq (.region [⟨some 13, .bin .lss (.t 12) (.t 11), none⟩])
 (.seq (.cond (.t 13)
  .skip
  (.exit 2))
 (.seq (.block 3
  (.seq (.region [⟨some 14, .iaddr 6 (.t 10) (.t 12), none⟩,
   ⟨some 15, .load true 6 (.t 14), none⟩,
   ⟨some 8, .alloc [(.int .i64 0), (.int .i64 0), (.int .i64 0), (.int .i64 0), (.int .i64 0), (.int .i64 0)], none⟩,
   ⟨none, .store 6 (.t 8) (.t 15), none⟩])
  (.seq (.region [⟨some 16, .faddr 0 (.t 8), none⟩,
   ⟨some 17, .load true 3 (.t 16), none⟩,
   ⟨some 18, .load true 3 (.t 3), none⟩,
   ⟨some 19, .eq false (.agg [.int, .int, .int]) (.t 17) (.t 18), none⟩,
   ⟨some 20, .mv (.t 19), none⟩,
   ⟨some 21, .mv (.t 5), some (20, false)⟩,
   ⟨some 22, .faddr 0 (.t 8), some (20, false)⟩,
   ⟨some 23, .load true 3 (.t 22), some (20, false)⟩,
   ⟨some 24, .call 23 [(.t 21), (.t 23)], some (20, false)⟩,
   ⟨some 25, .pick (.t 20) (.c (.bool true)) (.t 24), none⟩,
   ⟨some 26, .mv (.t 25), none⟩,
   ⟨some 27, .mv (.t 5), some (26, true)⟩,
   ⟨some 28, .faddr 3 (.t 8), some (26, true)⟩,
   ⟨some 29, .load true 3 (.t 28), some (26, true)⟩,
   ⟨some 30, .call 23 [(.t 27), (.t 29)], some (26, true)⟩,
   ⟨some 31, .un .not (.t 30), some (26, true)⟩,
   ⟨some 32, .pick (.t 26) (.t 31) (.c (.bool false)), none⟩])
  (.cond (.t 32)
   (.seq (.region [⟨some 33, .mv (.t 5), none⟩,
    ⟨some 34, .faddr 3 (.t 8), none⟩,
    ⟨some 35, .load true 3 (.t 34), none⟩,
    ⟨some 36, .mkSl true 3 [(.int .i64 0), (.int .i64 0), (.int .i64 0)] 1 [(0, (.t 35))], none⟩,
    ⟨some 37, .app true 3 24 (.t 33) (.t 36), none⟩,
    ⟨some 5, .mv (.t 37), none⟩])
   (.region [⟨some 6, .mv (.c (.bool true)), none⟩]))
   .skip))))
 zim)))
def zab : LCode := (.seq (.seq (.region [⟨some 9, .mv (.t 6), none⟩])
 (.cond (.t 9)
  .skip
  (.exit 0)))
 (.block 1
  (.seq (.region [⟨some 6, .mv (.c (.bool false)), none⟩])
  (.seq (.region [⟨some 10, .mv (.t 0), none⟩,
   ⟨some 11, .len false (.t 10), none⟩,
   ⟨some 12, .mv (.c (.int .i64 0)), none⟩])
  (.block 2
   (.loop
    zdh))))))
def z79 : LCode := (.seq (.region [⟨some 39, .mv (.t 5), none⟩,
 ⟨some 40, .call 24 [(.t 39)], none⟩,
 ⟨some 4, .mv (.t 40), none⟩])
 .ret)
def zih : LCode := (.seq (.region [⟨some 3, .box (.t 1), none⟩,
 ⟨some 4, .mv (.c (.val (.slice none 0 0))), none⟩])
 (.seq (.region [⟨some 5, .mv (.c (.val (.slice none 0 0))), none⟩])
 (.seq (.seq (.region [⟨some 6, .mv (.c (.bool true)), none⟩])
 (.block 0
  (.loop
   zab)))
 z79)))
def Zb : Lay := ⟨41, [], false⟩
def zd0 : List LRes := [.t 4]
def zn6 : LFn := ⟨2, Zb, zih, zd0⟩
theorem zki : wz Try.prog [] 10 = some zn6 := by kernel_rfl
theorem zk9 : Ze Try.prog 10 := ⟨_, Try.func10, rfl, rfl⟩
def zg1 (a0 : List G_QEdge) (a1 : G_QKey) (o : (List G_QKey)) : Exit → Env → AHeap → Nat → Prop := Qo zd0 (wb (.isl 3 (o.map z6) false))
def Qg (a0 : List G_QEdge) (a1 : G_QKey) (s : ((List G_QKey) × Bool)) : Env := [(0, .isl 6 (a0.map z7) false), (3, .ptr (0, 0) 0 0), (5, .osl (1, 0) 3 (s.1.map z6)), (6, .bool s.2)]
def Jb (a0 : List G_QEdge) (a1 : G_QKey) (s : ((List G_QKey) × Bool)) : AHeap := [((0, 0), .one [.int .i64 a1.f_Kind, .int .i64 a1.f_A, .int .i64 a1.f_B]), ((1, 0), .tok)]
def Wu (a0 : List G_QEdge) (a1 : G_QKey) (o : (List G_QKey)) : Exit → Env → AHeap → Nat → Prop := (xa 0 (Zt Try.prog Zb 0 z79 (zg1 a0 a1 o)))
def Jq (a0 : List G_QEdge) (a1 : G_QKey) (s : ((List G_QKey) × Bool × Int)) : Env := [(0, .isl 6 (a0.map z7) false), (3, .ptr (0, 0) 0 0), (5, .osl (1, 0) 3 (s.1.map z6)), (6, .bool s.2.1), (10, .isl 6 (a0.map z7) false), (11, .int .i64 ((a0.map z7).length : Int)), (12, .int .i64 s.2.2)]
def Kg (a0 : List G_QEdge) (a1 : G_QKey) (s : ((List G_QKey) × Bool × Int)) : AHeap := [((0, 0), .one [.int .i64 a1.f_Kind, .int .i64 a1.f_A, .int .i64 a1.f_B]), ((1, 0), .tok)]
def z1d (a0 : List G_QEdge) (a1 : G_QKey) (o : (((List G_QKey) × Bool) ⊕ (List G_QKey))) : Exit → Env → AHeap → Nat → Prop := (xa 2 (xa 1 (vi 0 2 (Qg a0 a1) (Jb a0 a1) (Wu a0 a1) o)))
noncomputable def x3 (m : Option Nat) (a0 : List G_QEdge) (a1 : G_QKey) (v39 : Int) (v46 : List G_QKey) (v47 : Bool) : Option (((List G_QKey) × Bool × Int) ⊕ (((List G_QKey) × Bool) ⊕ (List G_QKey))) :=
 some (.inl (v46, v47, (W (v39 + 1))))
theorem z44 {a0 : List G_QEdge} {a1 : G_QKey} {v39 : Int} {v46 : List G_QKey} {v47 : Bool} {m : Option Nat} {o : (((List G_QKey) × Bool × Int) ⊕ (((List G_QKey) × Bool) ⊕ (List G_QKey)))} (h : x3 m a0 a1 v39 v46 v47 = some o) :
 LWp Try.prog Zb 0 zim (vi 0 2 (Jq a0 a1) (Kg a0 a1) (z1d a0 a1) o) [(0, .isl 6 (a0.map z7) false), (3, .ptr (0, 0) 0 0), (5, .osl (1, 0) 3 (v46.map z6)), (6, .bool v47), (10, .isl 6 (a0.map z7) false), (11, .int .i64 ((a0.map z7).length : Int)), (12, .int .i64 v39)] [((0, 0), .one [.int .i64 a1.f_Kind, .int .i64 a1.f_A, .int .i64 a1.f_B]), ((1, 0), .tok)] 2 := by
 unfold x3 at h
 refine yq ?_
 cases h
 exact And.intro rfl (jy (M := [((0, 0), (0, 0)), ((1, 0), (1, 0))]) rfl (And.intro (Vw.same _ rfl) (And.intro (Vw.ptr _ _ _ _ rfl) (And.intro (Vw.osl _ _ _ _ rfl) (And.intro (Vw.same _ rfl) (And.intro (Vw.same _ rfl) (And.intro (Vw.same _ rfl) (And.intro (Vw.same _ rfl) trivial))))))) (And.intro (And.intro rfl (BVw.oneL (And.intro (Vw.same _ rfl) (And.intro (Vw.same _ rfl) (And.intro (Vw.same _ rfl) trivial))))) (And.intro (And.intro rfl BVw.tok) trivial)))
noncomputable def yh (m : Option Nat) (a0 : List G_QEdge) (a1 : G_QKey) (v37 : List G_QKey) (v38 : Bool) (v39 : Int) : Option (((List G_QKey) × Bool × Int) ⊕ (((List G_QKey) × Bool) ⊕ (List G_QKey))) :=
 if (decide (v39 < ((a0.map z7).length : Int))) = true then
  if (0 : Int) ≤ v39 ∧ v39 < ((a0.map z7).length : Int) then
  (if (((((a0.getD v39.toNat default).f_From).f_Kind == a1.f_Kind) && ((((a0.getD v39.toNat default).f_From).f_A == a1.f_A) && ((((a0.getD v39.toNat default).f_From).f_B == a1.f_B) && true))) == false) = true then zh m v37 (G_QKey.mk (((a0.getD v39.toNat default).f_From).f_Kind) (((a0.getD v39.toNat default).f_From).f_A) (((a0.getD v39.toNat default).f_From).f_B)) else some default).bind fun v44 =>
  (if ((((((a0.getD v39.toNat default).f_From).f_Kind == a1.f_Kind) && ((((a0.getD v39.toNat default).f_From).f_A == a1.f_A) && ((((a0.getD v39.toNat default).f_From).f_B == a1.f_B) && true))) || v44) == true) = true then zh m v37 (G_QKey.mk (((a0.getD v39.toNat default).f_To).f_Kind) (((a0.getD v39.toNat default).f_To).f_A) (((a0.getD v39.toNat default).f_To).f_B)) else some default).bind fun v45 =>
  if ((((((a0.getD v39.toNat default).f_From).f_Kind == a1.f_Kind) && ((((a0.getD v39.toNat default).f_From).f_A == a1.f_A) && ((((a0.getD v39.toNat default).f_From).f_B == a1.f_B) && true))) || v44) && (!v45)) = true then
   if ((v37 ++ ([(G_QKey.mk (((a0.getD v39.toNat default).f_To).f_Kind) (((a0.getD v39.toNat default).f_To).f_A) (((a0.getD v39.toNat default).f_To).f_B))] : List G_QKey)).map z6).length * 24 ≤ 140737488355328 then
   x3 m a0 a1 v39 (v37 ++ ([(G_QKey.mk (((a0.getD v39.toNat default).f_To).f_Kind) (((a0.getD v39.toNat default).f_To).f_A) (((a0.getD v39.toNat default).f_To).f_B))] : List G_QKey)) true
   else none
  else
   x3 m a0 a1 v39 v37 v38
  else none
 else
  Option.map Sum.inr (
   some (.inl (v37, v38)))
noncomputable def yz (m : Option Nat) (a0 : List G_QEdge) (a1 : G_QKey) (v37 : List G_QKey) (v38 : Bool) (v39 : Int) : Option (((List G_QKey) × Bool) ⊕ (List G_QKey)) := kw m (fun (s : ((List G_QKey) × Bool × Int)) => yh m a0 a1 s.1 s.2.1 s.2.2) (v37, v38, v39)
theorem z9o {a0 : List G_QEdge} {a1 : G_QKey} {v37 : List G_QKey} {v38 : Bool} {v39 : Int} {m : Option Nat} {o : ((List G_QKey) × Bool × Int) ⊕ (((List G_QKey) × Bool) ⊕ (List G_QKey))} (h : yh m a0 a1 v37 v38 v39 = some o) :
 LWp Try.prog Zb 0 zdh (vi 0 2 (Jq a0 a1) (Kg a0 a1) (z1d a0 a1) o) [(0, .isl 6 (a0.map z7) false), (3, .ptr (0, 0) 0 0), (5, .osl (1, 0) 3 (v37.map z6)), (6, .bool v38), (10, .isl 6 (a0.map z7) false), (11, .int .i64 ((a0.map z7).length : Int)), (12, .int .i64 v39)] [((0, 0), .one [.int .i64 a1.f_Kind, .int .i64 a1.f_A, .int .i64 a1.f_B]), ((1, 0), .tok)] 2 := by
 unfold yh at h
 refine zo ?_
 refine yq ?_
 refine zo ?_
 refine w6 (v := (decide (v39 < ((a0.map z7).length : Int)))) rfl trivial (fun h51 => ?_) (fun h51 => ?_)
 ·have h := qj h51 h
  refine w8 ?_
  refine zo ?_
  refine jh ?_
  refine zo ?_
  refine yq ?_
  obtain ⟨h52, h⟩ := yj h
  refine And.intro h52 ?_
  refine Exists.intro (z7 (a0.getD v39.toNat default)) (And.intro (jn z7 _ _ (wv z7 h52)) (And.intro (And.intro (u5 h52) (Nat.le_of_ble_eq_true rfl)) ?_))
  refine zo ?_
  refine yq ?_
  refine And.intro (fun hp => hp) ?_
  show Zw _ _ _ [(23, .cnd (((((a0.getD v39.toNat default).f_From).f_Kind == a1.f_Kind) && ((((a0.getD v39.toNat default).f_From).f_A == a1.f_A) && ((((a0.getD v39.toNat default).f_From).f_B == a1.f_B) && true))) == false) (.agg [.int .i64 (((a0.getD v39.toNat default).f_From).f_Kind), .int .i64 (((a0.getD v39.toNat default).f_From).f_A), .int .i64 (((a0.getD v39.toNat default).f_From).f_B)])), (22, .cnd (((((a0.getD v39.toNat default).f_From).f_Kind == a1.f_Kind) && ((((a0.getD v39.toNat default).f_From).f_A == a1.f_A) && ((((a0.getD v39.toNat default).f_From).f_B == a1.f_B) && true))) == false) (.ptr (2, 0) 0 0)), (21, .cnd (((((a0.getD v39.toNat default).f_From).f_Kind == a1.f_Kind) && ((((a0.getD v39.toNat default).f_From).f_A == a1.f_A) && ((((a0.getD v39.toNat default).f_From).f_B == a1.f_B) && true))) == false) (.osl (1, 0) 3 (v37.map z6))), (20, .bool ((((a0.getD v39.toNat default).f_From).f_Kind == a1.f_Kind) && ((((a0.getD v39.toNat default).f_From).f_A == a1.f_A) && ((((a0.getD v39.toNat default).f_From).f_B == a1.f_B) && true)))), (19, .bool ((((a0.getD v39.toNat default).f_From).f_Kind == a1.f_Kind) && ((((a0.getD v39.toNat default).f_From).f_A == a1.f_A) && ((((a0.getD v39.toNat default).f_From).f_B == a1.f_B) && true)))), (18, .agg [.int .i64 a1.f_Kind, .int .i64 a1.f_A, .int .i64 a1.f_B]), (17, .agg [.int .i64 (((a0.getD v39.toNat default).f_From).f_Kind), .int .i64 (((a0.getD v39.toNat default).f_From).f_A), .int .i64 (((a0.getD v39.toNat default).f_From).f_B)]), (16, .ptr (2, 0) 0 0), (8, .ptr (2, 0) 0 0), (15, .agg [.int .i64 (((a0.getD v39.toNat default).f_From).f_Kind), .int .i64 (((a0.getD v39.toNat default).f_From).f_A), .int .i64 (((a0.getD v39.toNat default).f_From).f_B), .int .i64 (((a0.getD v39.toNat default).f_To).f_Kind), .int .i64 (((a0.getD v39.toNat default).f_To).f_A), .int .i64 (((a0.getD v39.toNat default).f_To).f_B)]), (14, .iptr 6 (a0.map z7) v39.toNat 0), (13, .bool (decide (v39 < ((a0.map z7).length : Int)))), (0, .isl 6 (a0.map z7) false), (3, .ptr (0, 0) 0 0), (5, .osl (1, 0) 3 (v37.map z6)), (6, .bool v38), (10, .isl 6 (a0.map z7) false), (11, .int .i64 ((a0.map z7).length : Int)), (12, .int .i64 v39)] _ _
  obtain ⟨v44, h53, h⟩ := bind_some h
  refine Or.inl (Exists.intro (.bool v44) (And.intro (fun hp => And.intro (And.intro hp hp) (PFn.call (z20 (qj hp h53)) (And.intro (Vw.oslI _ _ _) (And.intro (Vw.same _ rfl) trivial)) (And.intro rfl (And.intro rfl rfl)))) ?_))
  refine And.intro (fun hc => (bqf hc)) ?_
  refine And.intro (fun hp => hp) ?_
  show Zw _ _ _ [(29, .cnd ((((((a0.getD v39.toNat default).f_From).f_Kind == a1.f_Kind) && ((((a0.getD v39.toNat default).f_From).f_A == a1.f_A) && ((((a0.getD v39.toNat default).f_From).f_B == a1.f_B) && true))) || v44) == true) (.agg [.int .i64 (((a0.getD v39.toNat default).f_To).f_Kind), .int .i64 (((a0.getD v39.toNat default).f_To).f_A), .int .i64 (((a0.getD v39.toNat default).f_To).f_B)])), (28, .cnd ((((((a0.getD v39.toNat default).f_From).f_Kind == a1.f_Kind) && ((((a0.getD v39.toNat default).f_From).f_A == a1.f_A) && ((((a0.getD v39.toNat default).f_From).f_B == a1.f_B) && true))) || v44) == true) (.ptr (2, 0) 0 3)), (27, .cnd ((((((a0.getD v39.toNat default).f_From).f_Kind == a1.f_Kind) && ((((a0.getD v39.toNat default).f_From).f_A == a1.f_A) && ((((a0.getD v39.toNat default).f_From).f_B == a1.f_B) && true))) || v44) == true) (.osl (1, 0) 3 (v37.map z6))), (26, .bool (((((a0.getD v39.toNat default).f_From).f_Kind == a1.f_Kind) && ((((a0.getD v39.toNat default).f_From).f_A == a1.f_A) && ((((a0.getD v39.toNat default).f_From).f_B == a1.f_B) && true))) || v44)), (25, .bool (((((a0.getD v39.toNat default).f_From).f_Kind == a1.f_Kind) && ((((a0.getD v39.toNat default).f_From).f_A == a1.f_A) && ((((a0.getD v39.toNat default).f_From).f_B == a1.f_B) && true))) || v44)), (24, .cnd (((((a0.getD v39.toNat default).f_From).f_Kind == a1.f_Kind) && ((((a0.getD v39.toNat default).f_From).f_A == a1.f_A) && ((((a0.getD v39.toNat default).f_From).f_B == a1.f_B) && true))) == false) (.bool v44)), (23, .cnd (((((a0.getD v39.toNat default).f_From).f_Kind == a1.f_Kind) && ((((a0.getD v39.toNat default).f_From).f_A == a1.f_A) && ((((a0.getD v39.toNat default).f_From).f_B == a1.f_B) && true))) == false) (.agg [.int .i64 (((a0.getD v39.toNat default).f_From).f_Kind), .int .i64 (((a0.getD v39.toNat default).f_From).f_A), .int .i64 (((a0.getD v39.toNat default).f_From).f_B)])), (22, .cnd (((((a0.getD v39.toNat default).f_From).f_Kind == a1.f_Kind) && ((((a0.getD v39.toNat default).f_From).f_A == a1.f_A) && ((((a0.getD v39.toNat default).f_From).f_B == a1.f_B) && true))) == false) (.ptr (2, 0) 0 0)), (21, .cnd (((((a0.getD v39.toNat default).f_From).f_Kind == a1.f_Kind) && ((((a0.getD v39.toNat default).f_From).f_A == a1.f_A) && ((((a0.getD v39.toNat default).f_From).f_B == a1.f_B) && true))) == false) (.osl (1, 0) 3 (v37.map z6))), (20, .bool ((((a0.getD v39.toNat default).f_From).f_Kind == a1.f_Kind) && ((((a0.getD v39.toNat default).f_From).f_A == a1.f_A) && ((((a0.getD v39.toNat default).f_From).f_B == a1.f_B) && true)))), (19, .bool ((((a0.getD v39.toNat default).f_From).f_Kind == a1.f_Kind) && ((((a0.getD v39.toNat default).f_From).f_A == a1.f_A) && ((((a0.getD v39.toNat default).f_From).f_B == a1.f_B) && true)))), (18, .agg [.int .i64 a1.f_Kind, .int .i64 a1.f_A, .int .i64 a1.f_B]), (17, .agg [.int .i64 (((a0.getD v39.toNat default).f_From).f_Kind), .int .i64 (((a0.getD v39.toNat default).f_From).f_A), .int .i64 (((a0.getD v39.toNat default).f_From).f_B)]), (16, .ptr (2, 0) 0 0), (8, .ptr (2, 0) 0 0), (15, .agg [.int .i64 (((a0.getD v39.toNat default).f_From).f_Kind), .int .i64 (((a0.getD v39.toNat default).f_From).f_A), .int .i64 (((a0.getD v39.toNat default).f_From).f_B), .int .i64 (((a0.getD v39.toNat default).f_To).f_Kind), .int .i64 (((a0.getD v39.toNat default).f_To).f_A), .int .i64 (((a0.getD v39.toNat default).f_To).f_B)]), (14, .iptr 6 (a0.map z7) v39.toNat 0), (13, .bool (decide (v39 < ((a0.map z7).length : Int)))), (0, .isl 6 (a0.map z7) false), (3, .ptr (0, 0) 0 0), (5, .osl (1, 0) 3 (v37.map z6)), (6, .bool v38), (10, .isl 6 (a0.map z7) false), (11, .int .i64 ((a0.map z7).length : Int)), (12, .int .i64 v39)] _ _
  obtain ⟨v45, h54, h⟩ := bind_some h
  refine Or.inl (Exists.intro (.bool v45) (And.intro (fun hp => And.intro (And.intro hp hp) (PFn.call (z20 (qj hp h54)) (And.intro (Vw.oslI _ _ _) (And.intro (Vw.same _ rfl) trivial)) (And.intro rfl (And.intro rfl rfl)))) ?_))
  refine And.intro (fun hp => hp) ?_
  refine And.intro (fun hc => (bqt hc)) ?_
  refine LWp.sim (e := [(0, .isl 6 (a0.map z7) false), (3, .ptr (0, 0) 0 0), (5, .osl (1, 0) 3 (v37.map z6)), (6, .bool v38), (8, .ptr (2, 0) 0 0), (10, .isl 6 (a0.map z7) false), (11, .int .i64 ((a0.map z7).length : Int)), (12, .int .i64 v39), (32, .bool ((((((a0.getD v39.toNat default).f_From).f_Kind == a1.f_Kind) && ((((a0.getD v39.toNat default).f_From).f_A == a1.f_A) && ((((a0.getD v39.toNat default).f_From).f_B == a1.f_B) && true))) || v44) && (!v45)))]) (L := [((0, 0), .one [.int .i64 a1.f_Kind, .int .i64 a1.f_A, .int .i64 a1.f_B]), ((1, 0), .tok), ((2, 0), .one [.int .i64 (((a0.getD v39.toNat default).f_From).f_Kind), .int .i64 (((a0.getD v39.toNat default).f_From).f_A), .int .i64 (((a0.getD v39.toNat default).f_From).f_B), .int .i64 (((a0.getD v39.toNat default).f_To).f_Kind), .int .i64 (((a0.getD v39.toNat default).f_To).f_A), .int .i64 (((a0.getD v39.toNat default).f_To).f_B)])]) (n := 3) ?_ ?_
  ·exact jy (M := [((0, 0), (0, 0)), ((1, 0), (1, 0)), ((2, 0), (2, 0))]) rfl (And.intro (Vw.same _ rfl) (And.intro (Vw.ptr _ _ _ _ rfl) (And.intro (Vw.osl _ _ _ _ rfl) (And.intro (Vw.same _ rfl) (And.intro (Vw.ptr _ _ _ _ rfl) (And.intro (Vw.same _ rfl) (And.intro (Vw.same _ rfl) (And.intro (Vw.same _ rfl) (And.intro (Vw.same _ rfl) trivial))))))))) (And.intro (And.intro rfl (BVw.oneL (And.intro (Vw.same _ rfl) (And.intro (Vw.same _ rfl) (And.intro (Vw.same _ rfl) trivial))))) (And.intro (And.intro rfl BVw.tok) (And.intro (And.intro rfl (BVw.oneL (And.intro (Vw.same _ rfl) (And.intro (Vw.same _ rfl) (And.intro (Vw.same _ rfl) (And.intro (Vw.same _ rfl) (And.intro (Vw.same _ rfl) (And.intro (Vw.same _ rfl) trivial)))))))) trivial)))
  refine w6 (v := ((((((a0.getD v39.toNat default).f_From).f_Kind == a1.f_Kind) && ((((a0.getD v39.toNat default).f_From).f_A == a1.f_A) && ((((a0.getD v39.toNat default).f_From).f_B == a1.f_B) && true))) || v44) && (!v45))) rfl trivial (fun h55 => ?_) (fun h55 => ?_)
  ·have h := qj h55 h
   refine zo ?_
   refine yq ?_
   obtain ⟨h56, h⟩ := yj h
   refine Exists.intro ((v37 ++ ([(G_QKey.mk (((a0.getD v39.toNat default).f_To).f_Kind) (((a0.getD v39.toNat default).f_To).f_A) (((a0.getD v39.toNat default).f_To).f_B))] : List G_QKey)).map z6) (And.intro (Ju z6 v37 ([(G_QKey.mk (((a0.getD v39.toNat default).f_To).f_Kind) (((a0.getD v39.toNat default).f_To).f_A) (((a0.getD v39.toNat default).f_To).f_B))] : List G_QKey)) (And.intro h56 ?_))
   refine yq ?_
   refine LWp.sim ?_ (z44 h)
   exact jy (M := [((0, 0), (0, 0)), ((1, 0), (3, 0))]) rfl (And.intro (Vw.same _ rfl) (And.intro (Vw.ptr _ _ _ _ rfl) (And.intro (Vw.osl _ _ _ _ rfl) (And.intro (Vw.same _ rfl) (And.intro (Vw.same _ rfl) (And.intro (Vw.same _ rfl) (And.intro (Vw.same _ rfl) trivial))))))) (And.intro (And.intro rfl (BVw.oneL (And.intro (Vw.same _ rfl) (And.intro (Vw.same _ rfl) (And.intro (Vw.same _ rfl) trivial))))) (And.intro (And.intro rfl BVw.tok) trivial))
  ·have h := xl h55 h
   refine w8 ?_
   refine LWp.sim ?_ (z44 h)
   exact jy (M := [((0, 0), (0, 0)), ((1, 0), (1, 0))]) rfl (And.intro (Vw.same _ rfl) (And.intro (Vw.ptr _ _ _ _ rfl) (And.intro (Vw.osl _ _ _ _ rfl) (And.intro (Vw.same _ rfl) (And.intro (Vw.same _ rfl) (And.intro (Vw.same _ rfl) (And.intro (Vw.same _ rfl) trivial))))))) (And.intro (And.intro rfl (BVw.oneL (And.intro (Vw.same _ rfl) (And.intro (Vw.same _ rfl) (And.intro (Vw.same _ rfl) trivial))))) (And.intro (And.intro rfl BVw.tok) trivial))
 ·have h := xl h51 h
  refine Zs ?_
  obtain ⟨o, hq, rfl⟩ := Option.map_eq_some_iff.1 h
  replace h := hq; clear hq
  refine And.intro nofun ?_
  cases h
  exact And.intro rfl (jy (M := [((0, 0), (0, 0)), ((1, 0), (1, 0))]) rfl (And.intro (Vw.same _ rfl) (And.intro (Vw.ptr _ _ _ _ rfl) (And.intro (Vw.osl _ _ _ _ rfl) (And.intro (Vw.same _ rfl) trivial)))) (And.intro (And.intro rfl (BVw.oneL (And.intro (Vw.same _ rfl) (And.intro (Vw.same _ rfl) (And.intro (Vw.same _ rfl) trivial))))) (And.intro (And.intro rfl BVw.tok) trivial)))
theorem zbu {a0 : List G_QEdge} {a1 : G_QKey} {v37 : List G_QKey} {v38 : Bool} {v39 : Int} {m : Option Nat} {o : (((List G_QKey) × Bool) ⊕ (List G_QKey))} (h : yz m a0 a1 v37 v38 v39 = some o) :
 LWp Try.prog Zb 0 (.loop zdh) (xa 2 (xa 1 (vi 0 2 (Qg a0 a1) (Jb a0 a1) (Wu a0 a1) o))) [(0, .isl 6 (a0.map z7) false), (3, .ptr (0, 0) 0 0), (5, .osl (1, 0) 3 (v37.map z6)), (6, .bool v38), (10, .isl 6 (a0.map z7) false), (11, .int .i64 ((a0.map z7).length : Int)), (12, .int .i64 v39)] [((0, 0), .one [.int .i64 a1.f_Kind, .int .i64 a1.f_A, .int .i64 a1.f_B]), ((1, 0), .tok)] 2 :=
 je (m := m) (s := ((v37, v38, v39) : ((List G_QKey) × Bool × Int))) (r := o) (fun (s : ((List G_QKey) × Bool × Int)) => yh m a0 a1 s.1 s.2.1 s.2.2) (Jq a0 a1) (Kg a0 a1) (z1d a0 a1) (fun s o h => z9o h) h
noncomputable def qv (m : Option Nat) (v16 : List G_QKey) : Option (List G_QKey) :=
 (x7 m v16).bind fun v48 =>
 some v48
noncomputable def zn (m : Option Nat) (a0 : List G_QEdge) (a1 : G_QKey) (v16 : List G_QKey) (v17 : Bool) : Option (((List G_QKey) × Bool) ⊕ (List G_QKey)) :=
 if v17 = true then
  yz m a0 a1 v16 false 0
 else
  Option.map Sum.inr (
   qv m v16)
noncomputable def q8 (m : Option Nat) (a0 : List G_QEdge) (a1 : G_QKey) (v16 : List G_QKey) (v17 : Bool) : Option (List G_QKey) := kw m (fun (s : ((List G_QKey) × Bool)) => zn m a0 a1 s.1 s.2) (v16, v17)
theorem za0 {a0 : List G_QEdge} {a1 : G_QKey} {v16 : List G_QKey} {m : Option Nat} {o : (List G_QKey)} (h : qv m v16 = some o) :
 LWp Try.prog Zb 0 z79 (zg1 a0 a1 o) [(5, .osl (0, 0) 3 (v16.map z6))] [((0, 0), .tok)] 1 := by
 unfold qv at h
 refine zo ?_
 refine yq ?_
 obtain ⟨v48, h57, h⟩ := bind_some h
 refine PFn.call (zj1 h57) (And.intro (Vw.oslI _ _ _) trivial) ?_
 refine uf ?_
 cases h
 exact And.intro trivial (And.intro rfl (Vw.same _ rfl))
theorem z9c {a0 : List G_QEdge} {a1 : G_QKey} {v16 : List G_QKey} {v17 : Bool} {m : Option Nat} {o : ((List G_QKey) × Bool) ⊕ (List G_QKey)} (h : zn m a0 a1 v16 v17 = some o) :
 LWp Try.prog Zb 0 zab (vi 0 2 (Qg a0 a1) (Jb a0 a1) (Wu a0 a1) o) [(0, .isl 6 (a0.map z7) false), (3, .ptr (0, 0) 0 0), (5, .osl (1, 0) 3 (v16.map z6)), (6, .bool v17)] [((0, 0), .one [.int .i64 a1.f_Kind, .int .i64 a1.f_A, .int .i64 a1.f_B]), ((1, 0), .tok)] 2 := by
 unfold zn at h
 refine zo ?_
 refine zo ?_
 refine yq ?_
 refine w6 (v := v17) rfl trivial (fun h38 => ?_) (fun h38 => ?_)
 ·have h := qj h38 h
  refine w8 ?_
  refine jh ?_
  refine zo ?_
  refine yq ?_
  refine zo ?_
  refine yq ?_
  refine jh ?_
  refine LWp.sim ?_ (zbu h)
  exact jy (M := [((0, 0), (0, 0)), ((1, 0), (1, 0))]) rfl (And.intro (Vw.same _ rfl) (And.intro (Vw.ptr _ _ _ _ rfl) (And.intro (Vw.osl _ _ _ _ rfl) (And.intro (Vw.same _ rfl) (And.intro (Vw.same _ rfl) (And.intro (Vw.same _ rfl) (And.intro (Vw.same _ rfl) trivial))))))) (And.intro (And.intro rfl (BVw.oneL (And.intro (Vw.same _ rfl) (And.intro (Vw.same _ rfl) (And.intro (Vw.same _ rfl) trivial))))) (And.intro (And.intro rfl BVw.tok) trivial))
 ·have h := xl h38 h
  refine Zs ?_
  obtain ⟨o, hq, rfl⟩ := Option.map_eq_some_iff.1 h
  replace h := hq; clear hq
  refine And.intro nofun ?_
  refine LWp.sim ?_ (za0 h)
  exact jy (M := [((0, 0), (1, 0))]) rfl (And.intro (Vw.osl _ _ _ _ rfl) trivial) (And.intro (And.intro rfl BVw.tok) trivial)
theorem zcv {a0 : List G_QEdge} {a1 : G_QKey} {v16 : List G_QKey} {v17 : Bool} {m : Option Nat} {o : (List G_QKey)} (h : q8 m a0 a1 v16 v17 = some o) :
 LWp Try.prog Zb 0 (.loop zab) (xa 0 (Zt Try.prog Zb 0 z79 (zg1 a0 a1 o))) [(0, .isl 6 (a0.map z7) false), (3, .ptr (0, 0) 0 0), (5, .osl (1, 0) 3 (v16.map z6)), (6, .bool v17)] [((0, 0), .one [.int .i64 a1.f_Kind, .int .i64 a1.f_A, .int .i64 a1.f_B]), ((1, 0), .tok)] 2 :=
 je (m := m) (s := ((v16, v17) : ((List G_QKey) × Bool))) (r := o) (fun (s : ((List G_QKey) × Bool)) => zn m a0 a1 s.1 s.2) (Qg a0 a1) (Jb a0 a1) (Wu a0 a1) (fun s o h => z9c h) h
noncomputable def xw (m : Option Nat) (a0 : List G_QEdge) (a1 : G_QKey) : Option (List G_QKey) :=
 q8 m a0 a1 [] true
theorem zcc {a0 : List G_QEdge} {a1 : G_QKey} {m : Option Nat} {o : (List G_QKey)} (h : xw m a0 a1 = some o) : LWp Try.prog Zb 0 zih (zg1 a0 a1 o) (qq 0 [.isl 6 (a0.map z7) false, .agg [.int .i64 a1.f_Kind, .int .i64 a1.f_A, .int .i64 a1.f_B]]) [] 0 := by
 unfold xw at h
 refine zo ?_
 refine yq ?_
 refine zo ?_
 refine yq ?_
 refine zo ?_
 refine zo ?_
 refine yq ?_
 refine jh ?_
 refine LWp.sim ?_ (zcv h)
 exact jy (M := [((0, 0), (0, 0))]) rfl (And.intro (Vw.same _ rfl) (And.intro (Vw.ptr _ _ _ _ rfl) (And.intro (Vw.nilO _ _ (by decide)) (And.intro (Vw.same _ rfl) trivial)))) (And.intro (And.intro rfl (BVw.oneL (And.intro (Vw.same _ rfl) (And.intro (Vw.same _ rfl) (And.intro (Vw.same _ rfl) trivial))))) (And.intro (And.intro rfl (And.intro (by decide) (by decide))) trivial))
theorem zn5 {a0 : List G_QEdge} {a1 : G_QKey} {m : Option Nat} {o : (List G_QKey)} (h : xw m a0 a1 = some o) : PFn Try.prog 10 [.isl 6 (a0.map z7) false, .agg [.int .i64 a1.f_Kind, .int .i64 a1.f_A, .int .i64 a1.f_B]] (.isl 3 (o.map z6) false) := PFn.ofFnW (L := zn6) zki zk9 (Nat.le_of_ble_eq_true rfl) rfl (zcc h)
def zcq : LCode := (.seq (.region [⟨some 9, .bin .lss (.t 8) (.t 7), none⟩])
 (.seq (.cond (.t 9)
  .skip
  (.exit 0))
 (.seq (.block 1
  (.seq (.region [⟨some 10, .iaddr 3 (.t 6) (.t 8), none⟩,
   ⟨some 11, .load true 3 (.t 10), none⟩,
   ⟨some 4, .alloc [(.int .i64 0), (.int .i64 0), (.int .i64 0)], none⟩,
   ⟨none, .store 3 (.t 4) (.t 11), none⟩])
  (.seq (.draw [⟨⟨some 12, .mv (.t 0), none⟩, []⟩,
   ⟨⟨some 13, .load true 3 (.t 4), none⟩, []⟩,
   ⟨⟨some 15, .load true 3 (.t 4), none⟩, []⟩,
   ⟨⟨some 14, .call 10 [(.t 12), (.t 13)], none⟩, [2]⟩,
   ⟨⟨some 16, .call 23 [(.t 14), (.t 15)], none⟩, []⟩])
  (.cond (.t 16)
   (.seq (.region [⟨some 2, .mv (.c (.bool true)), none⟩])
   .ret)
   .skip))))
 (.region [⟨some 17, .bin .add (.t 8) (.c (.int .i64 1)), none⟩,
  ⟨some 8, .mv (.t 17), none⟩]))))
def z8b : LCode := (.seq (.region [⟨some 2, .mv (.c (.bool false)), none⟩])
 .ret)
def zix : LCode := (.seq (.region [⟨some 2, .mv (.c (.bool false)), none⟩])
 (.seq (.seq (.region [⟨some 5, .mv (.t 0), none⟩,
  ⟨some 6, .call 28 [(.t 5)], none⟩,
  ⟨some 7, .len false (.t 6), none⟩,
  ⟨some 8, .mv (.c (.int .i64 0)), none⟩])
 (.block 0
  (.loop
   zcq)))
 z8b))
def X9 : Lay := ⟨18, [], false⟩
def zd8 : List LRes := [.t 2]
def zmb : LFn := ⟨1, X9, zix, zd8⟩
theorem zko : wz Try.prog [] 14 = some zmb := by kernel_rfl
theorem zkq : Ze Try.prog 14 := ⟨_, Try.func14, rfl, rfl⟩
def zhe (a0 : List G_QEdge) (o : Bool) : Exit → Env → AHeap → Nat → Prop := Qo zd8 (wb (.bool o))
def U9 (a0 : List G_QEdge) (v1 : (List G_QKey)) (s : Int) : Env := [(0, .isl 6 (a0.map z7) false), (6, .isl 3 (v1.map z6) false), (7, .int .i64 ((v1.map z6).length : Int)), (8, .int .i64 s)]
def z3f (a0 : List G_QEdge) (v1 : (List G_QKey)) (s : Int) : AHeap := []
def z6s (a0 : List G_QEdge) (o : Bool) : Exit → Env → AHeap → Nat → Prop := (xa 0 (Zt Try.prog X9 0 z8b (zhe a0 o)))
noncomputable def ji (m : Option Nat) : Option Bool :=
 some false
noncomputable def yy (m : Option Nat) (a0 : List G_QEdge) (v1 : (List G_QKey)) (v4 : Int) : Option (Int ⊕ Bool) :=
 if (decide (v4 < ((v1.map z6).length : Int))) = true then
  if (0 : Int) ≤ v4 ∧ v4 < ((v1.map z6).length : Int) then
  (xw m a0 (G_QKey.mk ((v1.getD v4.toNat default).f_Kind) ((v1.getD v4.toNat default).f_A) ((v1.getD v4.toNat default).f_B))).bind fun v7 =>
  (zh m v7 (G_QKey.mk ((v1.getD v4.toNat default).f_Kind) ((v1.getD v4.toNat default).f_A) ((v1.getD v4.toNat default).f_B))).bind fun v8 =>
  if v8 = true then
   Option.map Sum.inr (
    some true)
  else
   some (.inl (W (v4 + 1)))
  else none
 else
  Option.map Sum.inr (
   ji m)
noncomputable def qw (m : Option Nat) (a0 : List G_QEdge) (v1 : (List G_QKey)) (v4 : Int) : Option Bool := kw m (fun (s : Int) => yy m a0 v1 s) v4
theorem zal {a0 : List G_QEdge} {m : Option Nat} {o : Bool} (h : ji m = some o) :
 LWp Try.prog X9 0 z8b (zhe a0 o) [] [] 0 := by
 unfold ji at h
 refine zo ?_
 refine yq ?_
 refine uf ?_
 cases h
 exact And.intro trivial (And.intro rfl (Vw.same _ rfl))
theorem z96 {a0 : List G_QEdge} {v1 : (List G_QKey)} {v4 : Int} {m : Option Nat} {o : Int ⊕ Bool} (h : yy m a0 v1 v4 = some o) :
 LWp Try.prog X9 0 zcq (vi 0 0 (U9 a0 v1) (z3f a0 v1) (z6s a0) o) [(0, .isl 6 (a0.map z7) false), (6, .isl 3 (v1.map z6) false), (7, .int .i64 ((v1.map z6).length : Int)), (8, .int .i64 v4)] [] 0 := by
 unfold yy at h
 refine zo ?_
 refine yq ?_
 refine zo ?_
 refine w6 (v := (decide (v4 < ((v1.map z6).length : Int)))) rfl trivial (fun h12 => ?_) (fun h12 => ?_)
 ·have h := qj h12 h
  refine w8 ?_
  refine zo ?_
  refine jh ?_
  refine zo ?_
  refine yq ?_
  obtain ⟨h13, h⟩ := yj h
  refine And.intro h13 ?_
  refine Exists.intro (z6 (v1.getD v4.toNat default)) (And.intro (jn z6 _ _ (wv z6 h13)) (And.intro (And.intro (u5 h13) (Nat.le_of_ble_eq_true rfl)) ?_))
  refine zo ?_
  refine U5 ?_
  obtain ⟨v7, h14, h⟩ := bind_some h
  refine PFn.call (zn5 h14) (And.intro (Vw.same _ rfl) (And.intro (Vw.same _ rfl) trivial)) ?_
  refine And.intro rfl ?_
  obtain ⟨v8, h15, h⟩ := bind_some h
  refine PFn.call (z20 h15) (And.intro (Vw.same _ rfl) (And.intro (Vw.same _ rfl) trivial)) ?_
  show yd _ _ _ _ _ [(16, .bool v8), (14, .isl 3 (v7.map z6) false), (15, .agg [.int .i64 ((v1.getD v4.toNat default).f_Kind), .int .i64 ((v1.getD v4.toNat default).f_A), .int .i64 ((v1.getD v4.toNat default).f_B)]), (13, .agg [.int .i64 ((v1.getD v4.toNat default).f_Kind), .int .i64 ((v1.getD v4.toNat default).f_A), .int .i64 ((v1.getD v4.toNat default).f_B)]), (12, .isl 6 (a0.map z7) false), (4, .ptr (0, 0) 0 0), (11, .agg [.int .i64 ((v1.getD v4.toNat default).f_Kind), .int .i64 ((v1.getD v4.toNat default).f_A), .int .i64 ((v1.getD v4.toNat default).f_B)]), (10, .iptr 3 (v1.map z6) v4.toNat 0), (9, .bool (decide (v4 < ((v1.map z6).length : Int)))), (0, .isl 6 (a0.map z7) false), (6, .isl 3 (v1.map z6) false), (7, .int .i64 ((v1.map z6).length : Int)), (8, .int .i64 v4)] _ _
  refine LWp.sim (e := [(0, .isl 6 (a0.map z7) false), (6, .isl 3 (v1.map z6) false), (7, .int .i64 ((v1.map z6).length : Int)), (8, .int .i64 v4), (16, .bool v8)]) (L := []) (n := 0) ?_ ?_
  ·exact jy (M := []) rfl (And.intro (Vw.same _ rfl) (And.intro (Vw.same _ rfl) (And.intro (Vw.same _ rfl) (And.intro (Vw.same _ rfl) (And.intro (Vw.same _ rfl) trivial))))) trivial
  refine w6 (v := v8) rfl trivial (fun h16 => ?_) (fun h16 => ?_)
  ·have h := qj h16 h
   refine zo ?_
   refine yq ?_
   refine uf ?_
   obtain ⟨o, hq, rfl⟩ := Option.map_eq_some_iff.1 h
   replace h := hq; clear hq
   refine And.intro nofun ?_
   cases h
   exact And.intro trivial (And.intro rfl (Vw.same _ rfl))
  ·have h := xl h16 h
   refine w8 ?_
   refine yq ?_
   cases h
   exact And.intro rfl (jy (M := []) rfl (And.intro (Vw.same _ rfl) (And.intro (Vw.same _ rfl) (And.intro (Vw.same _ rfl) (And.intro (Vw.same _ rfl) trivial)))) trivial)
 ·have h := xl h12 h
  refine Zs ?_
  obtain ⟨o, hq, rfl⟩ := Option.map_eq_some_iff.1 h
  replace h := hq; clear hq
  refine And.intro nofun ?_
  refine LWp.sim ?_ (zal h)
  exact jy (M := []) rfl trivial trivial
theorem zby {a0 : List G_QEdge} {v1 : (List G_QKey)} {v4 : Int} {m : Option Nat} {o : Bool} (h : qw m a0 v1 v4 = some o) :
 LWp Try.prog X9 0 (.loop zcq) (xa 0 (Zt Try.prog X9 0 z8b (zhe a0 o))) [(0, .isl 6 (a0.map z7) false), (6, .isl 3 (v1.map z6) false), (7, .int .i64 ((v1.map z6).length : Int)), (8, .int .i64 v4)] [] 0 :=
 je (m := m) (s := (v4 : Int)) (r := o) (fun (s : Int) => yy m a0 v1 s) (U9 a0 v1) (z3f a0 v1) (z6s a0) (fun s o h => z96 h) h
noncomputable def xt (m : Option Nat) (a0 : List G_QEdge) : Option Bool :=
 (xh m a0).bind fun v1 =>
 qw m a0 v1 0
theorem zdz {a0 : List G_QEdge} {m : Option Nat} {o : Bool} (h : xt m a0 = some o) : LWp Try.prog X9 0 zix (zhe a0 o) (qq 0 [.isl 6 (a0.map z7) false]) [] 0 := by
 unfold xt at h
 refine zo ?_
 refine yq ?_
 refine zo ?_
 refine zo ?_
 refine yq ?_
 obtain ⟨v1, h1, h⟩ := bind_some h
 refine PFn.call (zil h1) (And.intro (Vw.same _ rfl) trivial) ?_
 refine jh ?_
 refine LWp.sim ?_ (zby h)
 exact jy (M := []) rfl (And.intro (Vw.same _ rfl) (And.intro (Vw.same _ rfl) (And.intro (Vw.same _ rfl) (And.intro (Vw.same _ rfl) trivial)))) trivial
theorem zma {a0 : List G_QEdge} {m : Option Nat} {o : Bool} (h : xt m a0 = some o) : PFn Try.prog 14 [.isl 6 (a0.map z7) false] (.bool o) := PFn.ofFnW (L := zmb) zko zkq (Nat.le_of_ble_eq_true rfl) rfl (zdz h)
def zat : LCode := (.seq (.region [⟨some 12, .bin .lss (.t 11) (.t 10), none⟩])
 (.seq (.cond (.t 12)
  .skip
  (.exit 0))
 (.seq (.block 1
  (.seq (.region [⟨some 13, .iaddr 6 (.t 9) (.t 11), none⟩,
   ⟨some 14, .load true 6 (.t 13), none⟩,
   ⟨some 8, .alloc [(.int .i64 0), (.int .i64 0), (.int .i64 0), (.int .i64 0), (.int .i64 0), (.int .i64 0)], none⟩,
   ⟨none, .store 6 (.t 8) (.t 14), none⟩])
  (.seq (.region [⟨some 15, .faddr 0 (.t 8), none⟩,
   ⟨some 16, .load true 3 (.t 15), none⟩,
   ⟨some 17, .load true 3 (.t 4), none⟩,
   ⟨some 18, .eq false (.agg [.int, .int, .int]) (.t 16) (.t 17), none⟩,
   ⟨some 19, .mv (.t 18), none⟩,
   ⟨some 20, .mv (.t 2), some (19, true)⟩,
   ⟨some 21, .faddr 3 (.t 8), some (19, true)⟩,
   ⟨some 22, .load true 3 (.t 21), some (19, true)⟩,
   ⟨some 23, .call 23 [(.t 20), (.t 22)], some (19, true)⟩,
   ⟨some 24, .un .not (.t 23), some (19, true)⟩,
   ⟨some 25, .pick (.t 19) (.t 24) (.c (.bool false)), none⟩])
  (.cond (.t 25)
   (.seq (.region [⟨some 6, .mv (.c (.bool false)), none⟩])
   .ret)
   .skip))))
 (.region [⟨some 26, .bin .add (.t 11) (.c (.int .i64 1)), none⟩,
  ⟨some 11, .mv (.t 26), none⟩]))))
def z81 : LCode := (.seq (.region [⟨some 27, .mv (.t 2), none⟩,
 ⟨some 28, .load true 3 (.t 4), none⟩,
 ⟨some 29, .call 23 [(.t 27), (.t 28)], none⟩,
 ⟨some 30, .un .not (.t 29), none⟩,
 ⟨some 6, .mv (.t 30), none⟩])
 .ret)
def zj7 : LCode := (.seq (.region [⟨some 4, .box (.t 1), none⟩,
 ⟨some 6, .mv (.c (.bool false)), none⟩])
 (.seq (.seq (.region [⟨some 9, .mv (.t 0), none⟩,
  ⟨some 10, .len false (.t 9), none⟩,
  ⟨some 11, .mv (.c (.int .i64 0)), none⟩])
 (.block 0
  (.loop
   zat)))
 z81))
def Qz : Lay := ⟨31, [], false⟩
def zb1 : List LRes := [.t 6]
def zmg : LFn := ⟨3, Qz, zj7, zb1⟩
theorem zju : wz Try.prog [] 29 = some zmg := by kernel_rfl
theorem zkh : Ze Try.prog 29 := ⟨_, Try.func29, rfl, rfl⟩
def zfs (a0 : List G_QEdge) (a1 : G_QKey) (a2 : List G_QKey) (o : Bool) : Exit → Env → AHeap → Nat → Prop := Qo zb1 (wb (.bool o))
def z04 (a0 : List G_QEdge) (a1 : G_QKey) (a2 : List G_QKey) (s : Int) : Env := [(2, .isl 3 (a2.map z6) false), (4, .ptr (0, 0) 0 0), (9, .isl 6 (a0.map z7) false), (10, .int .i64 ((a0.map z7).length : Int)), (11, .int .i64 s)]
def z3a (a0 : List G_QEdge) (a1 : G_QKey) (a2 : List G_QKey) (s : Int) : AHeap := [((0, 0), .one [.int .i64 a1.f_Kind, .int .i64 a1.f_A, .int .i64 a1.f_B])]
def z8h (a0 : List G_QEdge) (a1 : G_QKey) (a2 : List G_QKey) (o : Bool) : Exit → Env → AHeap → Nat → Prop := (xa 0 (Zt Try.prog Qz 0 z81 (zfs a0 a1 a2 o)))
noncomputable def j9 (m : Option Nat) (a1 : G_QKey) (a2 : List G_QKey) : Option Bool :=
 (zh m a2 a1).bind fun v5 =>
 some (!v5)
noncomputable def yg (m : Option Nat) (a0 : List G_QEdge) (a1 : G_QKey) (a2 : List G_QKey) (v2 : Int) : Option (Int ⊕ Bool) :=
 if (decide (v2 < ((a0.map z7).length : Int))) = true then
  if (0 : Int) ≤ v2 ∧ v2 < ((a0.map z7).length : Int) then
  (if (((((a0.getD v2.toNat default).f_From).f_Kind == a1.f_Kind) && ((((a0.getD v2.toNat default).f_From).f_A == a1.f_A) && ((((a0.getD v2.toNat default).f_From).f_B == a1.f_B) && true))) == true) = true then zh m a2 (G_QKey.mk (((a0.getD v2.toNat default).f_To).f_Kind) (((a0.getD v2.toNat default).f_To).f_A) (((a0.getD v2.toNat default).f_To).f_B)) else some default).bind fun v4 =>
  if (((((a0.getD v2.toNat default).f_From).f_Kind == a1.f_Kind) && ((((a0.getD v2.toNat default).f_From).f_A == a1.f_A) && ((((a0.getD v2.toNat default).f_From).f_B == a1.f_B) && true))) && (!v4)) = true then
   Option.map Sum.inr (
    some false)
  else
   some (.inl (W (v2 + 1)))
  else none
 else
  Option.map Sum.inr (
   j9 m a1 a2)
noncomputable def q7 (m : Option Nat) (a0 : List G_QEdge) (a1 : G_QKey) (a2 : List G_QKey) (v2 : Int) : Option Bool := kw m (fun (s : Int) => yg m a0 a1 a2 s) v2
theorem zau {a0 : List G_QEdge} {a1 : G_QKey} {a2 : List G_QKey} {m : Option Nat} {o : Bool} (h : j9 m a1 a2 = some o) :
 LWp Try.prog Qz 0 z81 (zfs a0 a1 a2 o) [(2, .isl 3 (a2.map z6) false), (4, .ptr (0, 0) 0 0)] [((0, 0), .one [.int .i64 a1.f_Kind, .int .i64 a1.f_A, .int .i64 a1.f_B])] 1 := by
 unfold j9 at h
 refine zo ?_
 refine yq ?_
 obtain ⟨v5, h13, h⟩ := bind_some h
 refine PFn.call (z20 h13) (And.intro (Vw.same _ rfl) (And.intro (Vw.same _ rfl) trivial)) ?_
 refine uf ?_
 cases h
 exact And.intro trivial (And.intro rfl (Vw.same _ rfl))
theorem z8q {a0 : List G_QEdge} {a1 : G_QKey} {a2 : List G_QKey} {v2 : Int} {m : Option Nat} {o : Int ⊕ Bool} (h : yg m a0 a1 a2 v2 = some o) :
 LWp Try.prog Qz 0 zat (vi 0 1 (z04 a0 a1 a2) (z3a a0 a1 a2) (z8h a0 a1 a2) o) [(2, .isl 3 (a2.map z6) false), (4, .ptr (0, 0) 0 0), (9, .isl 6 (a0.map z7) false), (10, .int .i64 ((a0.map z7).length : Int)), (11, .int .i64 v2)] [((0, 0), .one [.int .i64 a1.f_Kind, .int .i64 a1.f_A, .int .i64 a1.f_B])] 1 := by
 unfold yg at h
 refine zo ?_
 refine yq ?_
 refine zo ?_
 refine w6 (v := (decide (v2 < ((a0.map z7).length : Int)))) rfl trivial (fun h9 => ?_) (fun h9 => ?_)
 ·have h := qj h9 h
  refine w8 ?_
  refine zo ?_
  refine jh ?_
  refine zo ?_
  refine yq ?_
  obtain ⟨h10, h⟩ := yj h
  refine And.intro h10 ?_
  refine Exists.intro (z7 (a0.getD v2.toNat default)) (And.intro (jn z7 _ _ (wv z7 h10)) (And.intro (And.intro (u5 h10) (Nat.le_of_ble_eq_true rfl)) ?_))
  refine zo ?_
  refine yq ?_
  refine And.intro (fun hp => hp) ?_
  show Zw _ _ _ [(22, .cnd (((((a0.getD v2.toNat default).f_From).f_Kind == a1.f_Kind) && ((((a0.getD v2.toNat default).f_From).f_A == a1.f_A) && ((((a0.getD v2.toNat default).f_From).f_B == a1.f_B) && true))) == true) (.agg [.int .i64 (((a0.getD v2.toNat default).f_To).f_Kind), .int .i64 (((a0.getD v2.toNat default).f_To).f_A), .int .i64 (((a0.getD v2.toNat default).f_To).f_B)])), (21, .cnd (((((a0.getD v2.toNat default).f_From).f_Kind == a1.f_Kind) && ((((a0.getD v2.toNat default).f_From).f_A == a1.f_A) && ((((a0.getD v2.toNat default).f_From).f_B == a1.f_B) && true))) == true) (.ptr (1, 0) 0 3)), (20, .cnd (((((a0.getD v2.toNat default).f_From).f_Kind == a1.f_Kind) && ((((a0.getD v2.toNat default).f_From).f_A == a1.f_A) && ((((a0.getD v2.toNat default).f_From).f_B == a1.f_B) && true))) == true) (.isl 3 (a2.map z6) false)), (19, .bool ((((a0.getD v2.toNat default).f_From).f_Kind == a1.f_Kind) && ((((a0.getD v2.toNat default).f_From).f_A == a1.f_A) && ((((a0.getD v2.toNat default).f_From).f_B == a1.f_B) && true)))), (18, .bool ((((a0.getD v2.toNat default).f_From).f_Kind == a1.f_Kind) && ((((a0.getD v2.toNat default).f_From).f_A == a1.f_A) && ((((a0.getD v2.toNat default).f_From).f_B == a1.f_B) && true)))), (17, .agg [.int .i64 a1.f_Kind, .int .i64 a1.f_A, .int .i64 a1.f_B]), (16, .agg [.int .i64 (((a0.getD v2.toNat default).f_From).f_Kind), .int .i64 (((a0.getD v2.toNat default).f_From).f_A), .int .i64 (((a0.getD v2.toNat default).f_From).f_B)]), (15, .ptr (1, 0) 0 0), (8, .ptr (1, 0) 0 0), (14, .agg [.int .i64 (((a0.getD v2.toNat default).f_From).f_Kind), .int .i64 (((a0.getD v2.toNat default).f_From).f_A), .int .i64 (((a0.getD v2.toNat default).f_From).f_B), .int .i64 (((a0.getD v2.toNat default).f_To).f_Kind), .int .i64 (((a0.getD v2.toNat default).f_To).f_A), .int .i64 (((a0.getD v2.toNat default).f_To).f_B)]), (13, .iptr 6 (a0.map z7) v2.toNat 0), (12, .bool (decide (v2 < ((a0.map z7).length : Int)))), (2, .isl 3 (a2.map z6) false), (4, .ptr (0, 0) 0 0), (9, .isl 6 (a0.map z7) false), (10, .int .i64 ((a0.map z7).length : Int)), (11, .int .i64 v2)] _ _
  obtain ⟨v4, h11, h⟩ := bind_some h
  refine Or.inl (Exists.intro (.bool v4) (And.intro (fun hp => And.intro (And.intro hp hp) (PFn.call (z20 (qj hp h11)) (And.intro (Vw.same _ rfl) (And.intro (Vw.same _ rfl) trivial)) (And.intro rfl (And.intro rfl rfl)))) ?_))
  refine And.intro (fun hp => hp) ?_
  refine And.intro (fun hc => (bqt hc)) ?_
  refine LWp.sim (e := [(2, .isl 3 (a2.map z6) false), (4, .ptr (0, 0) 0 0), (9, .isl 6 (a0.map z7) false), (10, .int .i64 ((a0.map z7).length : Int)), (11, .int .i64 v2), (25, .bool (((((a0.getD v2.toNat default).f_From).f_Kind == a1.f_Kind) && ((((a0.getD v2.toNat default).f_From).f_A == a1.f_A) && ((((a0.getD v2.toNat default).f_From).f_B == a1.f_B) && true))) && (!v4)))]) (L := [((0, 0), .one [.int .i64 a1.f_Kind, .int .i64 a1.f_A, .int .i64 a1.f_B])]) (n := 1) ?_ ?_
  ·exact jy (M := [((0, 0), (0, 0))]) rfl (And.intro (Vw.same _ rfl) (And.intro (Vw.ptr _ _ _ _ rfl) (And.intro (Vw.same _ rfl) (And.intro (Vw.same _ rfl) (And.intro (Vw.same _ rfl) (And.intro (Vw.same _ rfl) trivial)))))) (And.intro (And.intro rfl (BVw.oneL (And.intro (Vw.same _ rfl) (And.intro (Vw.same _ rfl) (And.intro (Vw.same _ rfl) trivial))))) trivial)
  refine w6 (v := (((((a0.getD v2.toNat default).f_From).f_Kind == a1.f_Kind) && ((((a0.getD v2.toNat default).f_From).f_A == a1.f_A) && ((((a0.getD v2.toNat default).f_From).f_B == a1.f_B) && true))) && (!v4))) rfl trivial (fun h12 => ?_) (fun h12 => ?_)
  ·have h := qj h12 h
   refine zo ?_
   refine yq ?_
   refine uf ?_
   obtain ⟨o, hq, rfl⟩ := Option.map_eq_some_iff.1 h
   replace h := hq; clear hq
   refine And.intro nofun ?_
   cases h
   exact And.intro trivial (And.intro rfl (Vw.same _ rfl))
  ·have h := xl h12 h
   refine w8 ?_
   refine yq ?_
   cases h
   exact And.intro rfl (jy (M := [((0, 0), (0, 0))]) rfl (And.intro (Vw.same _ rfl) (And.intro (Vw.ptr _ _ _ _ rfl) (And.intro (Vw.same _ rfl) (And.intro (Vw.same _ rfl) (And.intro (Vw.same _ rfl) trivial))))) (And.intro (And.intro rfl (BVw.oneL (And.intro (Vw.same _ rfl) (And.intro (Vw.same _ rfl) (And.intro (Vw.same _ rfl) trivial))))) trivial))
 ·have h := xl h9 h
  refine Zs ?_
  obtain ⟨o, hq, rfl⟩ := Option.map_eq_some_iff.1 h
  replace h := hq; clear hq
  refine And.intro nofun ?_
  refine LWp.sim ?_ (zau h)
  exact jy (M := [((0, 0), (0, 0))]) rfl (And.intro (Vw.same _ rfl) (And.intro (Vw.ptr _ _ _ _ rfl) trivial)) (And.intro (And.intro rfl (BVw.oneL (And.intro (Vw.same _ rfl) (And.intro (Vw.same _ rfl) (And.intro (Vw.same _ rfl) trivial))))) trivial)
theorem zdq {a0 : List G_QEdge} {a1 : G_QKey} {a2 : List G_QKey} {v2 : Int} {m : Option Nat} {o : Bool} (h : q7 m a0 a1 a2 v2 = some o) :
 LWp Try.prog Qz 0 (.loop zat) (xa 0 (Zt Try.prog Qz 0 z81 (zfs a0 a1 a2 o))) [(2, .isl 3 (a2.map z6) false), (4, .ptr (0, 0) 0 0), (9, .isl 6 (a0.map z7) false), (10, .int .i64 ((a0.map z7).length : Int)), (11, .int .i64 v2)] [((0, 0), .one [.int .i64 a1.f_Kind, .int .i64 a1.f_A, .int .i64 a1.f_B])] 1 :=
 je (m := m) (s := (v2 : Int)) (r := o) (fun (s : Int) => yg m a0 a1 a2 s) (z04 a0 a1 a2) (z3a a0 a1 a2) (z8h a0 a1 a2) (fun s o h => z8q h) h
noncomputable def xx (m : Option Nat) (a0 : List G_QEdge) (a1 : G_QKey) (a2 : List G_QKey) : Option Bool :=
 q7 m a0 a1 a2 0
theorem zbc {a0 : List G_QEdge} {a1 : G_QKey} {a2 : List G_QKey} {m : Option Nat} {o : Bool} (h : xx m a0 a1 a2 = some o) : LWp Try.prog Qz 0 zj7 (zfs a0 a1 a2 o) (qq 0 [.isl 6 (a0.map z7) false, .agg [.int .i64 a1.f_Kind, .int .i64 a1.f_A, .int .i64 a1.f_B], .isl 3 (a2.map z6) false]) [] 0 := by
 unfold xx at h
 refine zo ?_
 refine yq ?_
 refine zo ?_
 refine zo ?_
 refine yq ?_
 refine jh ?_
 refine LWp.sim ?_ (zdq h)
 exact jy (M := [((0, 0), (0, 0))]) rfl (And.intro (Vw.same _ rfl) (And.intro (Vw.ptr _ _ _ _ rfl) (And.intro (Vw.same _ rfl) (And.intro (Vw.same _ rfl) (And.intro (Vw.same _ rfl) trivial))))) (And.intro (And.intro rfl (BVw.oneL (And.intro (Vw.same _ rfl) (And.intro (Vw.same _ rfl) (And.intro (Vw.same _ rfl) trivial))))) trivial)
theorem zmr {a0 : List G_QEdge} {a1 : G_QKey} {a2 : List G_QKey} {m : Option Nat} {o : Bool} (h : xx m a0 a1 a2 = some o) : PFn Try.prog 29 [.isl 6 (a0.map z7) false, .agg [.int .i64 a1.f_Kind, .int .i64 a1.f_A, .int .i64 a1.f_B], .isl 3 (a2.map z6) false] (.bool o) := PFn.ofFnW (L := zmg) zju zkh (Nat.le_of_ble_eq_true rfl) rfl (zbc h)
def za8 : LCode := (.seq (.region [⟨some 16, .bin .lss (.t 15) (.t 14), none⟩])
 (.seq (.cond (.t 16)
  .skip
  (.exit 2))
 (.seq (.block 3
  (.seq (.region [⟨some 17, .iaddr 3 (.t 13) (.t 15), none⟩,
   ⟨some 18, .load true 3 (.t 17), none⟩,
   ⟨some 6, .alloc [(.int .i64 0), (.int .i64 0), (.int .i64 0)], none⟩,
   ⟨none, .store 3 (.t 6) (.t 18), none⟩])
  (.seq (.region [⟨some 19, .mv (.t 0), none⟩,
   ⟨some 20, .load true 3 (.t 6), none⟩,
   ⟨some 21, .mv (.t 4), none⟩,
   ⟨some 22, .call 29 [(.t 19), (.t 20), (.t 21)], none⟩])
  (.cond (.t 22)
   (.seq (.region [⟨some 23, .mv (.t 4), none⟩,
    ⟨some 24, .load true 3 (.t 6), none⟩,
    ⟨some 25, .mkSl true 3 [(.int .i64 0), (.int .i64 0), (.int .i64 0)] 1 [(0, (.t 24))], none⟩,
    ⟨some 26, .app true 3 24 (.t 23) (.t 25), none⟩,
    ⟨some 4, .mv (.t 26), none⟩])
   (.exit 2))
   .skip))))
 (.region [⟨some 27, .bin .add (.t 15) (.c (.int .i64 1)), none⟩,
  ⟨some 15, .mv (.t 27), none⟩]))))
def z7l : LCode := (.region [⟨some 28, .bin .add (.t 11) (.c (.int .i64 1)), none⟩,
 ⟨some 11, .mv (.t 28), none⟩])
def zbd : LCode := (.seq (.region [⟨some 12, .bin .lss (.t 11) (.t 10), none⟩])
 (.seq (.cond (.t 12)
  .skip
  (.exit 0))
 (.seq (.block 1
  (.seq (.region [⟨some 13, .mv (.t 3), none⟩,
   ⟨some 14, .len false (.t 13), none⟩,
   ⟨some 15, .mv (.c (.int .i64 0)), none⟩])
  (.block 2
   (.loop
    za8))))
 z7l)))
def z6y : LCode := (.seq (.region [⟨some 29, .mv (.t 4), none⟩,
 ⟨some 2, .mv (.t 29), none⟩])
 .ret)
def zjb : LCode := (.seq (.region [⟨some 2, .mv (.c (.val (.slice none 0 0))), none⟩])
 (.seq (.region [⟨some 7, .mv (.t 0), none⟩,
  ⟨some 8, .call 28 [(.t 7)], none⟩,
  ⟨some 3, .mv (.t 8), none⟩])
 (.seq (.region [⟨some 4, .mv (.c (.val (.slice none 0 0))), none⟩])
 (.seq (.seq (.region [⟨some 9, .mv (.t 3), none⟩,
  ⟨some 10, .len false (.t 9), none⟩,
  ⟨some 11, .mv (.c (.int .i64 0)), none⟩])
 (.block 0
  (.loop
   zbd)))
 z6y))))
def u6 : Lay := ⟨30, [], false⟩
def zdi : List LRes := [.t 2]
def znm : LFn := ⟨1, u6, zjb, zdi⟩
theorem zkc : wz Try.prog [] 15 = some znm := by kernel_rfl
theorem zjf : Ze Try.prog 15 := ⟨_, Try.func15, rfl, rfl⟩
def zgc (a0 : List G_QEdge) (o : (List G_QKey)) : Exit → Env → AHeap → Nat → Prop := Qo zdi (wb (.isl 3 (o.map z6) false))
def Zo (a0 : List G_QEdge) (v1 : (List G_QKey)) (s : ((List G_QKey) × Int)) : Env := [(0, .isl 6 (a0.map z7) false), (3, .isl 3 (v1.map z6) false), (4, .osl (0, 0) 3 (s.1.map z6)), (10, .int .i64 ((v1.map z6).length : Int)), (11, .int .i64 s.2)]
def Yy (a0 : List G_QEdge) (v1 : (List G_QKey)) (s : ((List G_QKey) × Int)) : AHeap := [((0, 0), .tok)]
def J6 (a0 : List G_QEdge) (o : (List G_QKey)) : Exit → Env → AHeap → Nat → Prop := (xa 0 (Zt Try.prog u6 0 z6y (zgc a0 o)))
def Ue (a0 : List G_QEdge) (v1 : (List G_QKey)) (v7 : List G_QKey) (v8 : Int) (s : Int) : Env := [(0, .isl 6 (a0.map z7) false), (3, .isl 3 (v1.map z6) false), (4, .osl (0, 0) 3 (v7.map z6)), (10, .int .i64 ((v1.map z6).length : Int)), (11, .int .i64 v8), (13, .isl 3 (v1.map z6) false), (14, .int .i64 ((v1.map z6).length : Int)), (15, .int .i64 s)]
def z2v (a0 : List G_QEdge) (v1 : (List G_QKey)) (v7 : List G_QKey) (v8 : Int) (s : Int) : AHeap := [((0, 0), .tok)]
def z7s (a0 : List G_QEdge) (v1 : (List G_QKey)) (o : (((List G_QKey) × Int) ⊕ (List G_QKey))) : Exit → Env → AHeap → Nat → Prop := (xa 2 (xa 1 (Zt Try.prog u6 0 z7l (vi 0 1 (Zo a0 v1) (Yy a0 v1) (J6 a0) o))))
noncomputable def x8 (m : Option Nat) (a0 : List G_QEdge) (v1 : (List G_QKey)) (v8 : Int) (v18 : List G_QKey) : Option (((List G_QKey) × Int) ⊕ (List G_QKey)) :=
 some (.inl (v18, (W (v8 + 1))))
noncomputable def qh (m : Option Nat) (a0 : List G_QEdge) (v1 : (List G_QKey)) (v7 : List G_QKey) (v8 : Int) (v15 : Int) : Option (Int ⊕ (((List G_QKey) × Int) ⊕ (List G_QKey))) :=
 if (decide (v15 < ((v1.map z6).length : Int))) = true then
  if (0 : Int) ≤ v15 ∧ v15 < ((v1.map z6).length : Int) then
  (xx m a0 (G_QKey.mk ((v1.getD v15.toNat default).f_Kind) ((v1.getD v15.toNat default).f_A) ((v1.getD v15.toNat default).f_B)) v7).bind fun v17 =>
  if v17 = true then
   if ((v7 ++ ([(G_QKey.mk ((v1.getD v15.toNat default).f_Kind) ((v1.getD v15.toNat default).f_A) ((v1.getD v15.toNat default).f_B))] : List G_QKey)).map z6).length * 24 ≤ 140737488355328 then
   Option.map Sum.inr (
    x8 m a0 v1 v8 (v7 ++ ([(G_QKey.mk ((v1.getD v15.toNat default).f_Kind) ((v1.getD v15.toNat default).f_A) ((v1.getD v15.toNat default).f_B))] : List G_QKey)))
   else none
  else
   some (.inl (W (v15 + 1)))
  else none
 else
  Option.map Sum.inr (
   x8 m a0 v1 v8 v7)
noncomputable def qe (m : Option Nat) (a0 : List G_QEdge) (v1 : (List G_QKey)) (v7 : List G_QKey) (v8 : Int) (v15 : Int) : Option (((List G_QKey) × Int) ⊕ (List G_QKey)) := kw m (fun (s : Int) => qh m a0 v1 v7 v8 s) v15
theorem z23 {a0 : List G_QEdge} {v1 : (List G_QKey)} {v8 : Int} {v18 : List G_QKey} {m : Option Nat} {o : (((List G_QKey) × Int) ⊕ (List G_QKey))} (h : x8 m a0 v1 v8 v18 = some o) :
 LWp Try.prog u6 0 z7l (vi 0 1 (Zo a0 v1) (Yy a0 v1) (J6 a0) o) [(0, .isl 6 (a0.map z7) false), (3, .isl 3 (v1.map z6) false), (4, .osl (0, 0) 3 (v18.map z6)), (10, .int .i64 ((v1.map z6).length : Int)), (11, .int .i64 v8)] [((0, 0), .tok)] 1 := by
 unfold x8 at h
 refine yq ?_
 cases h
 exact And.intro rfl (jy (M := [((0, 0), (0, 0))]) rfl (And.intro (Vw.same _ rfl) (And.intro (Vw.same _ rfl) (And.intro (Vw.osl _ _ _ _ rfl) (And.intro (Vw.same _ rfl) (And.intro (Vw.same _ rfl) trivial))))) (And.intro (And.intro rfl BVw.tok) trivial))
theorem za2 {a0 : List G_QEdge} {v1 : (List G_QKey)} {v7 : List G_QKey} {v8 : Int} {v15 : Int} {m : Option Nat} {o : Int ⊕ (((List G_QKey) × Int) ⊕ (List G_QKey))} (h : qh m a0 v1 v7 v8 v15 = some o) :
 LWp Try.prog u6 0 za8 (vi 0 1 (Ue a0 v1 v7 v8) (z2v a0 v1 v7 v8) (z7s a0 v1) o) [(0, .isl 6 (a0.map z7) false), (3, .isl 3 (v1.map z6) false), (4, .osl (0, 0) 3 (v7.map z6)), (10, .int .i64 ((v1.map z6).length : Int)), (11, .int .i64 v8), (13, .isl 3 (v1.map z6) false), (14, .int .i64 ((v1.map z6).length : Int)), (15, .int .i64 v15)] [((0, 0), .tok)] 1 := by
 unfold qh at h
 refine zo ?_
 refine yq ?_
 refine zo ?_
 refine w6 (v := (decide (v15 < ((v1.map z6).length : Int)))) rfl trivial (fun h45 => ?_) (fun h45 => ?_)
 ·have h := qj h45 h
  refine w8 ?_
  refine zo ?_
  refine jh ?_
  refine zo ?_
  refine yq ?_
  obtain ⟨h46, h⟩ := yj h
  refine And.intro h46 ?_
  refine Exists.intro (z6 (v1.getD v15.toNat default)) (And.intro (jn z6 _ _ (wv z6 h46)) (And.intro (And.intro (u5 h46) (Nat.le_of_ble_eq_true rfl)) ?_))
  refine zo ?_
  refine yq ?_
  obtain ⟨v17, h47, h⟩ := bind_some h
  refine PFn.call (zmr h47) (And.intro (Vw.same _ rfl) (And.intro (Vw.same _ rfl) (And.intro (Vw.oslI _ _ _) trivial))) ?_
  show Zw _ _ _ [(22, .bool v17), (21, .osl (0, 0) 3 (v7.map z6)), (20, .agg [.int .i64 ((v1.getD v15.toNat default).f_Kind), .int .i64 ((v1.getD v15.toNat default).f_A), .int .i64 ((v1.getD v15.toNat default).f_B)]), (19, .isl 6 (a0.map z7) false), (6, .ptr (1, 0) 0 0), (18, .agg [.int .i64 ((v1.getD v15.toNat default).f_Kind), .int .i64 ((v1.getD v15.toNat default).f_A), .int .i64 ((v1.getD v15.toNat default).f_B)]), (17, .iptr 3 (v1.map z6) v15.toNat 0), (16, .bool (decide (v15 < ((v1.map z6).length : Int)))), (0, .isl 6 (a0.map z7) false), (3, .isl 3 (v1.map z6) false), (4, .osl (0, 0) 3 (v7.map z6)), (10, .int .i64 ((v1.map z6).length : Int)), (11, .int .i64 v8), (13, .isl 3 (v1.map z6) false), (14, .int .i64 ((v1.map z6).length : Int)), (15, .int .i64 v15)] _ _
  refine LWp.sim (e := [(0, .isl 6 (a0.map z7) false), (3, .isl 3 (v1.map z6) false), (4, .osl (0, 0) 3 (v7.map z6)), (6, .ptr (1, 0) 0 0), (10, .int .i64 ((v1.map z6).length : Int)), (11, .int .i64 v8), (13, .isl 3 (v1.map z6) false), (14, .int .i64 ((v1.map z6).length : Int)), (15, .int .i64 v15), (22, .bool v17)]) (L := [((0, 0), .tok), ((1, 0), .one [.int .i64 ((v1.getD v15.toNat default).f_Kind), .int .i64 ((v1.getD v15.toNat default).f_A), .int .i64 ((v1.getD v15.toNat default).f_B)])]) (n := 2) ?_ ?_
  ·exact jy (M := [((0, 0), (0, 0)), ((1, 0), (1, 0))]) rfl (And.intro (Vw.same _ rfl) (And.intro (Vw.same _ rfl) (And.intro (Vw.osl _ _ _ _ rfl) (And.intro (Vw.ptr _ _ _ _ rfl) (And.intro (Vw.same _ rfl) (And.intro (Vw.same _ rfl) (And.intro (Vw.same _ rfl) (And.intro (Vw.same _ rfl) (And.intro (Vw.same _ rfl) (And.intro (Vw.same _ rfl) trivial)))))))))) (And.intro (And.intro rfl BVw.tok) (And.intro (And.intro rfl (BVw.oneL (And.intro (Vw.same _ rfl) (And.intro (Vw.same _ rfl) (And.intro (Vw.same _ rfl) trivial))))) trivial))
  refine w6 (v := v17) rfl trivial (fun h48 => ?_) (fun h48 => ?_)
  ·have h := qj h48 h
   refine zo ?_
   refine yq ?_
   obtain ⟨h49, h⟩ := yj h
   refine Exists.intro ((v7 ++ ([(G_QKey.mk ((v1.getD v15.toNat default).f_Kind) ((v1.getD v15.toNat default).f_A) ((v1.getD v15.toNat default).f_B))] : List G_QKey)).map z6) (And.intro (Ju z6 v7 ([(G_QKey.mk ((v1.getD v15.toNat default).f_Kind) ((v1.getD v15.toNat default).f_A) ((v1.getD v15.toNat default).f_B))] : List G_QKey)) (And.intro h49 ?_))
   refine Zs ?_
   obtain ⟨o, hq, rfl⟩ := Option.map_eq_some_iff.1 h
   replace h := hq; clear hq
   refine And.intro nofun ?_
   refine LWp.sim ?_ (z23 h)
   exact jy (M := [((0, 0), (2, 0))]) rfl (And.intro (Vw.same _ rfl) (And.intro (Vw.same _ rfl) (And.intro (Vw.osl _ _ _ _ rfl) (And.intro (Vw.same _ rfl) (And.intro (Vw.same _ rfl) trivial))))) (And.intro (And.intro rfl BVw.tok) trivial)
  ·have h := xl h48 h
   refine w8 ?_
   refine yq ?_
   cases h
   exact And.intro rfl (jy (M := [((0, 0), (0, 0))]) rfl (And.intro (Vw.same _ rfl) (And.intro (Vw.same _ rfl) (And.intro (Vw.osl _ _ _ _ rfl) (And.intro (Vw.same _ rfl) (And.intro (Vw.same _ rfl) (And.intro (Vw.same _ rfl) (And.intro (Vw.same _ rfl) (And.intro (Vw.same _ rfl) trivial)))))))) (And.intro (And.intro rfl BVw.tok) trivial))
 ·have h := xl h45 h
  refine Zs ?_
  obtain ⟨o, hq, rfl⟩ := Option.map_eq_some_iff.1 h
  replace h := hq; clear hq
  refine And.intro nofun ?_
  refine LWp.sim ?_ (z23 h)
  exact jy (M := [((0, 0), (0, 0))]) rfl (And.intro (Vw.same _ rfl) (And.intro (Vw.same _ rfl) (And.intro (Vw.osl _ _ _ _ rfl) (And.intro (Vw.same _ rfl) (And.intro (Vw.same _ rfl) trivial))))) (And.intro (And.intro rfl BVw.tok) trivial)
theorem zae {a0 : List G_QEdge} {v1 : (List G_QKey)} {v7 : List G_QKey} {v8 : Int} {v15 : Int} {m : Option Nat} {o : (((List G_QKey) × Int) ⊕ (List G_QKey))} (h : qe m a0 v1 v7 v8 v15 = some o) :
 LWp Try.prog u6 0 (.loop za8) (xa 2 (xa 1 (Zt Try.prog u6 0 z7l (vi 0 1 (Zo a0 v1) (Yy a0 v1) (J6 a0) o)))) [(0, .isl 6 (a0.map z7) false), (3, .isl 3 (v1.map z6) false), (4, .osl (0, 0) 3 (v7.map z6)), (10, .int .i64 ((v1.map z6).length : Int)), (11, .int .i64 v8), (13, .isl 3 (v1.map z6) false), (14, .int .i64 ((v1.map z6).length : Int)), (15, .int .i64 v15)] [((0, 0), .tok)] 1 :=
 je (m := m) (s := (v15 : Int)) (r := o) (fun (s : Int) => qh m a0 v1 v7 v8 s) (Ue a0 v1 v7 v8) (z2v a0 v1 v7 v8) (z7s a0 v1) (fun s o h => za2 h) h
noncomputable def jm (m : Option Nat) (v7 : List G_QKey) : Option (List G_QKey) :=
 some v7
noncomputable def qd (m : Option Nat) (a0 : List G_QEdge) (v1 : (List G_QKey)) (v7 : List G_QKey) (v8 : Int) : Option (((List G_QKey) × Int) ⊕ (List G_QKey)) :=
 if (decide (v8 < ((v1.map z6).length : Int))) = true then
  qe m a0 v1 v7 v8 0
 else
  Option.map Sum.inr (
   jm m v7)
noncomputable def x5 (m : Option Nat) (a0 : List G_QEdge) (v1 : (List G_QKey)) (v7 : List G_QKey) (v8 : Int) : Option (List G_QKey) := kw m (fun (s : ((List G_QKey) × Int)) => qd m a0 v1 s.1 s.2) (v7, v8)
theorem zci {a0 : List G_QEdge} {v7 : List G_QKey} {m : Option Nat} {o : (List G_QKey)} (h : jm m v7 = some o) :
 LWp Try.prog u6 0 z6y (zgc a0 o) [(4, .osl (0, 0) 3 (v7.map z6))] [((0, 0), .tok)] 1 := by
 unfold jm at h
 refine zo ?_
 refine yq ?_
 refine uf ?_
 cases h
 exact And.intro trivial (And.intro rfl (Vw.oslI _ _ _))
theorem z8u {a0 : List G_QEdge} {v1 : (List G_QKey)} {v7 : List G_QKey} {v8 : Int} {m : Option Nat} {o : ((List G_QKey) × Int) ⊕ (List G_QKey)} (h : qd m a0 v1 v7 v8 = some o) :
 LWp Try.prog u6 0 zbd (vi 0 1 (Zo a0 v1) (Yy a0 v1) (J6 a0) o) [(0, .isl 6 (a0.map z7) false), (3, .isl 3 (v1.map z6) false), (4, .osl (0, 0) 3 (v7.map z6)), (10, .int .i64 ((v1.map z6).length : Int)), (11, .int .i64 v8)] [((0, 0), .tok)] 1 := by
 unfold qd at h
 refine zo ?_
 refine yq ?_
 refine zo ?_
 refine w6 (v := (decide (v8 < ((v1.map z6).length : Int)))) rfl trivial (fun h34 => ?_) (fun h34 => ?_)
 ·have h := qj h34 h
  refine w8 ?_
  refine zo ?_
  refine jh ?_
  refine zo ?_
  refine yq ?_
  refine jh ?_
  refine LWp.sim ?_ (zae h)
  exact jy (M := [((0, 0), (0, 0))]) rfl (And.intro (Vw.same _ rfl) (And.intro (Vw.same _ rfl) (And.intro (Vw.osl _ _ _ _ rfl) (And.intro (Vw.same _ rfl) (And.intro (Vw.same _ rfl) (And.intro (Vw.same _ rfl) (And.intro (Vw.same _ rfl) (And.intro (Vw.same _ rfl) trivial)))))))) (And.intro (And.intro rfl BVw.tok) trivial)
 ·have h := xl h34 h
  refine Zs ?_
  obtain ⟨o, hq, rfl⟩ := Option.map_eq_some_iff.1 h
  replace h := hq; clear hq
  refine And.intro nofun ?_
  refine LWp.sim ?_ (zci h)
  exact jy (M := [((0, 0), (0, 0))]) rfl (And.intro (Vw.osl _ _ _ _ rfl) trivial) (And.intro (And.intro rfl BVw.tok) trivial)
theorem zez {a0 : List G_QEdge} {v1 : (List G_QKey)} {v7 : List G_QKey} {v8 : Int} {m : Option Nat} {o : (List G_QKey)} (h : x5 m a0 v1 v7 v8 = some o) :
 LWp Try.prog u6 0 (.loop zbd) (xa 0 (Zt Try.prog u6 0 z6y (zgc a0 o))) [(0, .isl 6 (a0.map z7) false), (3, .isl 3 (v1.map z6) false), (4, .osl (0, 0) 3 (v7.map z6)), (10, .int .i64 ((v1.map z6).length : Int)), (11, .int .i64 v8)] [((0, 0), .tok)] 1 :=
 je (m := m) (s := ((v7, v8) : ((List G_QKey) × Int))) (r := o) (fun (s : ((List G_QKey) × Int)) => qd m a0 v1 s.1 s.2) (Zo a0 v1) (Yy a0 v1) (J6 a0) (fun s o h => z8u h) h
noncomputable def j8 (m : Option Nat) (a0 : List G_QEdge) : Option (List G_QKey) :=
 (xh m a0).bind fun v1 =>
 x5 m a0 v1 [] 0
theorem zcu {a0 : List G_QEdge} {m : Option Nat} {o : (List G_QKey)} (h : j8 m a0 = some o) : LWp Try.prog u6 0 zjb (zgc a0 o) (qq 0 [.isl 6 (a0.map z7) false]) [] 0 := by
 unfold j8 at h
 refine zo ?_
 refine yq ?_
 refine zo ?_
 refine yq ?_
 obtain ⟨v1, h1, h⟩ := bind_some h
 refine PFn.call (zil h1) (And.intro (Vw.same _ rfl) trivial) ?_
 refine zo ?_
 refine yq ?_
 refine zo ?_
 refine zo ?_
 refine yq ?_
 refine LWp.sim (e := [(0, .isl 6 (a0.map z7) false), (3, .isl 3 (v1.map z6) false), (4, .val (.slice none 0 0)), (10, .int .i64 ((v1.map z6).length : Int)), (11, .int .i64 0)]) (L := []) (n := 0) ?_ ?_
 ·exact jy (M := []) rfl (And.intro (Vw.same _ rfl) (And.intro (Vw.same _ rfl) (And.intro (Vw.same _ rfl) (And.intro (Vw.same _ rfl) (And.intro (Vw.same _ rfl) trivial))))) trivial
 refine jh ?_
 refine LWp.sim ?_ (zez h)
 exact jy (M := []) rfl (And.intro (Vw.same _ rfl) (And.intro (Vw.same _ rfl) (And.intro (Vw.nilO _ _ (by decide)) (And.intro (Vw.same _ rfl) (And.intro (Vw.same _ rfl) trivial))))) (And.intro (And.intro rfl (And.intro (by decide) (by decide))) trivial)
theorem znj {a0 : List G_QEdge} {m : Option Nat} {o : (List G_QKey)} (h : j8 m a0 = some o) : PFn Try.prog 15 [.isl 6 (a0.map z7) false] (.isl 3 (o.map z6) false) := PFn.ofFnW (L := znm) zkc zjf (Nat.le_of_ble_eq_true rfl) rfl (zcu h)
def zmm : LCode := (.seq (.region [⟨some 2, .mv (.c (.bool false)), none⟩])
 (.seq (.seq (.region [⟨some 5, .call 7 [], none⟩,
  ⟨some 6, .un .not (.t 5), none⟩])
 (.cond (.t 6)
  (.seq (.region [⟨some 2, .mv (.c (.bool false)), none⟩])
  .ret)
  .skip))
 (.seq (.region [⟨some 7, .mv (.t 0), none⟩,
  ⟨some 8, .mv (.t 0), none⟩,
  ⟨some 9, .len false (.t 8), none⟩,
  ⟨some 10, .mnx false [(.t 9), (.c (.int .i64 30))], none⟩,
  ⟨some 11, .slSl 6 (.t 7) none (some (.t 10)) none, none⟩,
  ⟨some 0, .mv (.t 11), none⟩])
 (.seq (.region [⟨some 13, .mv (.t 0), none⟩,
  ⟨some 14, .call 13 [(.t 13)], none⟩,
  ⟨some 12, .mv (.t 14), none⟩,
  ⟨some 15, .ext 0 (.t 12), none⟩,
  ⟨some 16, .ext 1 (.t 12), none⟩,
  ⟨some 3, .mv (.t 15), none⟩,
  ⟨some 4, .mv (.t 16), none⟩])
 (.seq (.seq (.region [⟨some 17, .mv (.t 0), none⟩,
  ⟨some 18, .call 14 [(.t 17)], none⟩])
 (.cond (.t 18)
  (.seq (.region [⟨some 19, .call 7 [], none⟩,
   ⟨some 20, .mv (.t 19), none⟩,
   ⟨some 21, .mv (.t 4), some (20, true)⟩,
   ⟨some 22, .bin .eql (.t 21) (.c (.int .i64 8)), some (20, true)⟩,
   ⟨some 23, .pick (.t 20) (.t 22) (.c (.bool false)), none⟩,
   ⟨some 24, .mv (.t 23), none⟩,
   ⟨some 25, .mv (.t 3), some (24, true)⟩,
   ⟨some 26, .len false (.t 25), some (24, true)⟩,
   ⟨some 27, .bin .eql (.t 26) (.c (.int .i64 0)), some (24, true)⟩,
   ⟨some 28, .pick (.t 24) (.t 27) (.c (.bool false)), none⟩,
   ⟨some 2, .mv (.t 28), none⟩])
  .ret)
  .skip))
 (.seq (.region [⟨some 29, .call 7 [], none⟩,
  ⟨some 30, .mv (.t 29), none⟩,
  ⟨some 31, .mv (.t 4), some (30, true)⟩,
  ⟨some 32, .bin .eql (.t 31) (.c (.int .i64 0)), some (30, true)⟩,
  ⟨some 33, .pick (.t 30) (.t 32) (.c (.bool false)), none⟩,
  ⟨some 34, .mv (.t 33), none⟩,
  ⟨some 35, .mv (.t 3), some (34, true)⟩,
  ⟨some 36, .mv (.t 0), some (34, true)⟩,
  ⟨some 37, .call 15 [(.t 36)], some (34, true)⟩,
  ⟨some 38, .call 8 [(.t 35), (.t 37)], some (34, true)⟩,
  ⟨some 39, .pick (.t 34) (.t 38) (.c (.bool false)), none⟩,
  ⟨some 2, .mv (.t 39), none⟩])
 .ret))))))
def zib : Lay := ⟨40, [], false⟩
def zii : List LRes := [.t 2]
def zp6 : LFn := ⟨1, zib, zmm, zii⟩
theorem zlv : wz Try.prog [] 4 = some zp6 := by kernel_rfl
theorem zm4 : Ze Try.prog 4 := ⟨_, Try.func4, rfl, rfl⟩
noncomputable def yw (m : Option Nat) (a0 : List G_QEdge) : Option Bool :=
 (y3 m).bind fun v1 =>
 if (!v1) = true then
  some false
 else
  if (0 : Int) ≤ (if 30 < ((a0.map z7).length : Int) then 30 else ((a0.map z7).length : Int)) ∧ (if 30 < ((a0.map z7).length : Int) then 30 else ((a0.map z7).length : Int)) ≤ ((a0.map z7).length : Int) then
  (qc m (a0.take (if 30 < ((a0.map z7).length : Int) then 30 else ((a0.map z7).length : Int)).toNat)).bind fun v2 =>
  (xt m (a0.take (if 30 < ((a0.map z7).length : Int) then 30 else ((a0.map z7).length : Int)).toNat)).bind fun v3 =>
  if v3 = true then
   (y3 m).bind fun v4 =>
   some ((v4 && (v2.2 == 8)) && (((v2.1.map z6).length : Int) == 0))
  else
   (y3 m).bind fun v5 =>
   (if ((v5 && (v2.2 == 0)) == true) = true then j8 m (a0.take (if 30 < ((a0.map z7).length : Int) then 30 else ((a0.map z7).length : Int)).toNat) else some default).bind fun v6 =>
   (if ((v5 && (v2.2 == 0)) == true) = true then zp m v2.1 v6 else some default).bind fun v7 =>
   some ((v5 && (v2.2 == 0)) && v7)
  else none
def zpp (a0 : List G_QEdge) (o : Bool) : Exit → Env → AHeap → Nat → Prop := Qo zii (wb (.bool o))
theorem zhc {a0 : List G_QEdge} {m : Option Nat} {o : Bool} (h : yw m a0 = some o) : LWp Try.prog zib 0 zmm (zpp a0 o) (qq 0 [.isl 6 (a0.map z7) false]) [] 0 := by
 unfold yw at h
 refine zo ?_
 refine yq ?_
 refine zo ?_
 refine zo ?_
 refine yq ?_
 obtain ⟨v1, h1, h⟩ := bind_some h
 refine PFn.call (zlc h1) trivial ?_
 refine w6 (v := (!v1)) rfl trivial (fun h2 => ?_) (fun h2 => ?_)
 ·have h := qj h2 h
  refine zo ?_
  refine yq ?_
  refine uf ?_
  cases h
  exact And.intro trivial (And.intro rfl (Vw.same _ rfl))
 ·have h := xl h2 h
  refine w8 ?_
  refine zo ?_
  refine yq ?_
  obtain ⟨h3, h⟩ := yj h
  refine Exists.intro (.isl 6 ((a0.take (if 30 < ((a0.map z7).length : Int) then 30 else ((a0.map z7).length : Int)).toNat).map z7) false) (And.intro (zjq z7 (slB z7 a0 _) rfl) (And.intro (And.intro rfl (And.intro (Int.le_refl _) h3)) ?_))
  refine LWp.sim (e := [(0, .isl 6 ((a0.take (if 30 < ((a0.map z7).length : Int) then 30 else ((a0.map z7).length : Int)).toNat).map z7) false)]) (L := []) (n := 0) ?_ ?_
  ·exact jy (M := []) rfl (And.intro (Vw.same _ rfl) trivial) trivial
  refine zo ?_
  refine yq ?_
  obtain ⟨v2, h4, h⟩ := bind_some h
  refine PFn.call (zly h4) (And.intro (Vw.same _ rfl) trivial) ?_
  refine zo ?_
  refine zo ?_
  refine yq ?_
  obtain ⟨v3, h5, h⟩ := bind_some h
  refine PFn.call (zma h5) (And.intro (Vw.same _ rfl) trivial) ?_
  show Zw _ _ _ [(18, .bool v3), (17, .isl 6 ((a0.take (if 30 < ((a0.map z7).length : Int) then 30 else ((a0.map z7).length : Int)).toNat).map z7) false), (4, .int .i64 v2.2), (3, .isl 3 (v2.1.map z6) false), (16, .int .i64 v2.2), (15, .isl 3 (v2.1.map z6) false), (12, .tup [.isl 3 (v2.1.map z6) false, .int .i64 v2.2]), (14, .tup [.isl 3 (v2.1.map z6) false, .int .i64 v2.2]), (13, .isl 6 ((a0.take (if 30 < ((a0.map z7).length : Int) then 30 else ((a0.map z7).length : Int)).toNat).map z7) false), (0, .isl 6 ((a0.take (if 30 < ((a0.map z7).length : Int) then 30 else ((a0.map z7).length : Int)).toNat).map z7) false)] _ _
  refine LWp.sim (e := [(0, .isl 6 ((a0.take (if 30 < ((a0.map z7).length : Int) then 30 else ((a0.map z7).length : Int)).toNat).map z7) false), (3, .isl 3 (v2.1.map z6) false), (4, .int .i64 v2.2), (18, .bool v3)]) (L := []) (n := 0) ?_ ?_
  ·exact jy (M := []) rfl (And.intro (Vw.same _ rfl) (And.intro (Vw.same _ rfl) (And.intro (Vw.same _ rfl) (And.intro (Vw.same _ rfl) trivial)))) trivial
  refine w6 (v := v3) rfl trivial (fun h6 => ?_) (fun h6 => ?_)
  ·have h := qj h6 h
   refine zo ?_
   refine yq ?_
   obtain ⟨v4, h7, h⟩ := bind_some h
   refine PFn.call (zlc h7) trivial ?_
   refine And.intro (fun hp => hp) ?_
   refine And.intro (fun hc => (bqt hc)) ?_
   show Zw _ _ _ [(23, .bool (v4 && (v2.2 == 8))), (22, .cnd (v4 == true) (.bool (v2.2 == 8))), (21, .cnd (v4 == true) (.int .i64 v2.2)), (20, .bool v4), (19, .bool v4), (0, .isl 6 ((a0.take (if 30 < ((a0.map z7).length : Int) then 30 else ((a0.map z7).length : Int)).toNat).map z7) false), (3, .isl 3 (v2.1.map z6) false), (4, .int .i64 v2.2), (18, .bool v3)] _ _
   refine And.intro (fun hp => hp) ?_
   refine And.intro (fun hp => hp) ?_
   refine And.intro (fun hc => (bqt hc)) ?_
   show Zw _ _ _ [(28, .bool ((v4 && (v2.2 == 8)) && (((v2.1.map z6).length : Int) == 0))), (27, .cnd ((v4 && (v2.2 == 8)) == true) (.bool (((v2.1.map z6).length : Int) == 0))), (26, .cnd ((v4 && (v2.2 == 8)) == true) (.int .i64 ((v2.1.map z6).length : Int))), (25, .cnd ((v4 && (v2.2 == 8)) == true) (.isl 3 (v2.1.map z6) false)), (24, .bool (v4 && (v2.2 == 8))), (23, .bool (v4 && (v2.2 == 8))), (22, .cnd (v4 == true) (.bool (v2.2 == 8))), (21, .cnd (v4 == true) (.int .i64 v2.2)), (20, .bool v4), (19, .bool v4), (0, .isl 6 ((a0.take (if 30 < ((a0.map z7).length : Int) then 30 else ((a0.map z7).length : Int)).toNat).map z7) false), (3, .isl 3 (v2.1.map z6) false), (4, .int .i64 v2.2), (18, .bool v3)] _ _
   refine LWp.sim (e := [(2, .bool ((v4 && (v2.2 == 8)) && (((v2.1.map z6).length : Int) == 0)))]) (L := []) (n := 0) ?_ ?_
   ·exact jy (M := []) rfl (And.intro (Vw.same _ rfl) trivial) trivial
   refine uf ?_
   cases h
   exact And.intro trivial (And.intro rfl (Vw.same _ rfl))
  ·have h := xl h6 h
   refine w8 ?_
   refine zo ?_
   refine yq ?_
   obtain ⟨v5, h8, h⟩ := bind_some h
   refine PFn.call (zlc h8) trivial ?_
   refine And.intro (fun hp => hp) ?_
   refine And.intro (fun hc => (bqt hc)) ?_
   show Zw _ _ _ [(33, .bool (v5 && (v2.2 == 0))), (32, .cnd (v5 == true) (.bool (v2.2 == 0))), (31, .cnd (v5 == true) (.int .i64 v2.2)), (30, .bool v5), (29, .bool v5), (0, .isl 6 ((a0.take (if 30 < ((a0.map z7).length : Int) then 30 else ((a0.map z7).length : Int)).toNat).map z7) false), (3, .isl 3 (v2.1.map z6) false), (4, .int .i64 v2.2), (18, .bool v3)] _ _
   obtain ⟨v6, h9, h⟩ := bind_some h
   refine Or.inl (Exists.intro (.isl 3 (v6.map z6) false) (And.intro (fun hp => And.intro hp (PFn.call (znj (qj hp h9)) (And.intro (Vw.same _ rfl) trivial) (And.intro rfl (And.intro rfl rfl)))) ?_))
   obtain ⟨v7, h10, h⟩ := bind_some h
   refine Or.inl (Exists.intro (.bool v7) (And.intro (fun hp => And.intro (And.intro hp hp) (PFn.call (zjz (qj hp h10)) (And.intro (Vw.same _ rfl) (And.intro (Vw.same _ rfl) trivial)) (And.intro rfl (And.intro rfl rfl)))) ?_))
   refine And.intro (fun hc => (bqt hc)) ?_
   show Zw _ _ _ [(39, .bool ((v5 && (v2.2 == 0)) && v7)), (38, .cnd ((v5 && (v2.2 == 0)) == true) (.bool v7)), (37, .cnd ((v5 && (v2.2 == 0)) == true) (.isl 3 (v6.map z6) false)), (36, .cnd ((v5 && (v2.2 == 0)) == true) (.isl 6 ((a0.take (if 30 < ((a0.map z7).length : Int) then 30 else ((a0.map z7).length : Int)).toNat).map z7) false)), (35, .cnd ((v5 && (v2.2 == 0)) == true) (.isl 3 (v2.1.map z6) false)), (34, .bool (v5 && (v2.2 == 0))), (33, .bool (v5 && (v2.2 == 0))), (32, .cnd (v5 == true) (.bool (v2.2 == 0))), (31, .cnd (v5 == true) (.int .i64 v2.2)), (30, .bool v5), (29, .bool v5), (0, .isl 6 ((a0.take (if 30 < ((a0.map z7).length : Int) then 30 else ((a0.map z7).length : Int)).toNat).map z7) false), (3, .isl 3 (v2.1.map z6) false), (4, .int .i64 v2.2), (18, .bool v3)] _ _
   refine LWp.sim (e := [(2, .bool ((v5 && (v2.2 == 0)) && v7))]) (L := []) (n := 0) ?_ ?_
   ·exact jy (M := []) rfl (And.intro (Vw.same _ rfl) trivial) trivial
   refine uf ?_
   cases h
   exact And.intro trivial (And.intro rfl (Vw.same _ rfl))
theorem zof {a0 : List G_QEdge} {m : Option Nat} {o : Bool} (h : yw m a0 = some o) : PFn Try.prog 4 [.isl 6 (a0.map z7) false] (.bool o) := PFn.ofFnW (L := zp6) zlv zm4 (Nat.le_of_ble_eq_true rfl) rfl (zhc h)
end Go.Proofs.Ytejfgjggcoemeaa
