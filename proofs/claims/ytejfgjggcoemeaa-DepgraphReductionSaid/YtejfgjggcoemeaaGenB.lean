/-
  Own text GenB of this claim: what functions of the given program compute, in plain Lean, and the proof; no condition.
-/
import Derived.Test.YtejfgjggcoemeaaGenA
namespace Go.Proofs.Ytejfgjggcoemeaa
open Go.Fx
set_option linter.unusedVariables false
def z90:LCode:=(.seq (.region [⟨some 4,.box (.t 1),none⟩,
 ⟨some 5,.box (.t 2),none⟩,
 ⟨some 6,.mv (.c (.bool false)),none⟩])
 (.seq (.region [⟨some 8,.mkfn (.func 42) [] [(.t 5)],none⟩,
  ⟨some 7,.mv (.t 8),none⟩])
 (.seq (.draw [⟨⟨some 9,.load false 1 (.t 5),none⟩,[]⟩,
  ⟨⟨some 10,.load true 3 (.t 4),none⟩,[]⟩,
  ⟨⟨some 11,.mlook [.int,.int,.int] true false false [(.int .i64 0)] (.t 9) (.t 10),none⟩,[]⟩,
  ⟨⟨some 12,.bin .eql (.t 11) (.c (.int .i64 0)),none⟩,[]⟩,
  ⟨⟨some 13,.mv (.t 12),none⟩,[]⟩,
  ⟨⟨some 14,.mv (.t 0),some (13,true)⟩,[]⟩,
  ⟨⟨some 15,.nilck (.t 14),some (13,true)⟩,[]⟩,
  ⟨⟨some 16,.faddr 0 (.t 15),some (13,true)⟩,[]⟩,
  ⟨⟨some 17,.load false 1 (.t 16),some (13,true)⟩,[]⟩,
  ⟨⟨some 18,.load true 3 (.t 4),some (13,true)⟩,[]⟩,
  ⟨⟨some 19,.mlook [.int,.int,.int] true false false [(.isl 3 [] true)] (.t 17) (.t 18),some (13,true)⟩,[]⟩,
  ⟨⟨some 20,.mv (.t 7),some (13,true)⟩,[]⟩,
  ⟨⟨some 21,.call 31 [(.t 19),(.t 20)],some (13,true)⟩,[]⟩,
  ⟨⟨some 22,.un .not (.t 21),some (13,true)⟩,[]⟩,
  ⟨⟨some 23,.pick (.t 13) (.t 22) (.c (.bool false)),none⟩,[]⟩,
  ⟨⟨some 6,.mv (.t 23),none⟩,[]⟩])
 .ret)))
def z5x:Lay:=⟨24,[],false⟩
def z3o:List LRes:=[.t 6]
def zf7:LFn:=⟨3,z5x,z90,z3o⟩
theorem zhe:vi Try.prog [] 27=some zf7:=by kernel_rfl
theorem zde:Z6 Try.prog 27:=⟨_,Try.func27,rfl,rfl⟩
noncomputable def jo(m:Option Nat)(a0:G_QKey)(a1:List G_QKey)(a2:List (G_QKey×Int))(a3:List (G_QKey×(List G_QKey))):Option Bool:=
 (if((((lk zd a2 a0).getD 0)==0)==true)=true then x9 m ((lk zd a3 a0).getD []) a2 else some default).bind fun v1=>
 some ((((lk zd a2 a0).getD 0)==0)&&(!v1))
def znn(a0:G_QKey)(a1:List G_QKey)(a2:List (G_QKey×Int))(a3:List (G_QKey×(List G_QKey)))(o:Bool):Exit→Env→AHeap→Nat→Prop:=Yb z3o (Qh 3 3 (.bool o) [((0,0),.one [.map (0,2),.isl 3 (a1.map z7) false]),((0,1),.amap (a2.map (em za qb))),((0,2),.amap (a3.map (em za z8)))])
theorem z80{a0:G_QKey}{a1:List G_QKey}{a2:List (G_QKey×Int)}{a3:List (G_QKey×(List G_QKey))}{m:Option Nat}{o:Bool}(h:jo m a0 a1 a2 a3=some o):LWp Try.prog z5x 3 z90 (znn a0 a1 a2 a3 o) (yy 0 [.ptr (0,0) 0 0,.agg [.int .i64 a0.f_Kind,.int .i64 a0.f_A,.int .i64 a0.f_B],.map (0,1)]) [((0,0),.one [.map (0,2),.isl 3 (a1.map z7) false]),((0,1),.amap (a2.map (em za qb))),((0,2),.amap (a3.map (em za z8)))] 3:=by
 unfold jo at h
 refine zh ?_
 refine zy ?_
 refine zh ?_
 refine zy ?_
 refine zh ?_
 refine z04 rfl ?_
 refine Exists.intro (.int .i64 ((lk zd a2 a0).getD 0)) (And.intro (V1 (ek:=za) (ev:=qb) (z:=0) xf rfl a0 a2) (And.intro (u7 (ek:=za) (ev:=qb) xf _ _) ?_))
 refine And.intro (fun hp=>hp) ?_
 show Y2 _ _ _ [(15,.cnd ((((lk zd a2 a0).getD 0)==0)==true) (.ptr (0,0) 0 0)),(14,.cnd ((((lk zd a2 a0).getD 0)==0)==true) (.ptr (0,0) 0 0)),(13,.bool (((lk zd a2 a0).getD 0)==0)),(12,.bool (((lk zd a2 a0).getD 0)==0)),(11,.int .i64 ((lk zd a2 a0).getD 0)),(10,.agg [.int .i64 a0.f_Kind,.int .i64 a0.f_A,.int .i64 a0.f_B]),(9,.map (0,1)),(7,.fn (.func 42) [] [.ptr (4,0) 0 0]),(8,.fn (.func 42) [] [.ptr (4,0) 0 0]),(6,.bool false),(5,.ptr (4,0) 0 0),(4,.ptr (3,0) 0 0),(0,.ptr (0,0) 0 0),(1,.agg [.int .i64 a0.f_Kind,.int .i64 a0.f_A,.int .i64 a0.f_B]),(2,.map (0,1))] _ _
 refine And.intro (fun hp=>hp) ?_
 refine And.intro (fun hp=>hp) ?_
 refine Exists.intro (.isl 3 (((lk zd a3 a0).getD []).map z7) false) (And.intro (fun hp=>And.intro (V1 (ek:=za) (ev:=z8) (z:=[]) xf rfl a0 a3) (And.intro (And.intro hp hp) (u7 (ek:=za) (ev:=z8) xf _ _))) ?_)
 obtain⟨v1,h1,h⟩:=bind_some h
 refine Or.inl (Exists.intro (.bool v1) (And.intro (fun hp=>And.intro (And.intro hp hp) (ACalls.same rfl (Y8 (k:=3) (m:=0) (L':=[((4,0),.one [.map (0,1)]),((0,1),.amap (a2.map (em za qb)))]) (rest:=[((3,0),.one [.int .i64 a0.f_Kind,.int .i64 a0.f_A,.int .i64 a0.f_B]),((0,0),.one [.map (0,2),.isl 3 (a1.map z7) false]),((0,2),.amap (a3.map (em za z8)))]) (R':=.bool v1) [((0,0),(4,0)),((0,1),(0,1))] (zlk (yt hp h1)) rfl rfl rfl (And.intro (Vw.same _ rfl) (And.intro (Vw.fnL trivial (And.intro (Vw.ptr _ _ _ _ rfl) trivial)) trivial)) (And.intro (h0I (4,0) rfl rfl (BVw.oneL (And.intro (Vw.map _ _ rfl) trivial))) (And.intro (h0I (0,1) rfl rfl (BVw.ofMap za qb y7 a2)) trivial)) (ki _ rfl) (And.intro rfl (And.intro rfl (And.intro rfl (And.intro (ve za qb qu y7 _) trivial)))) rfl (And.intro rfl (HeapTo.get (And.intro (And.intro rfl (BVw.oneL (And.intro (Vw.map _ _ rfl) trivial))) (And.intro (And.intro rfl (BVw.oneL (And.intro (Vw.same _ rfl) (And.intro (Vw.same _ rfl) (And.intro (Vw.same _ rfl) trivial))))) (And.intro (And.intro rfl (BVw.oneL (And.intro (Vw.map _ _ rfl) (And.intro (Vw.same _ rfl) trivial)))) (And.intro (And.intro rfl (BVw.ofMap za qb y7 a2)) (And.intro (And.intro rfl (BVw.ofMap za z8 zb a3)) trivial)))))))))) ?_))
 refine And.intro (fun hp=>hp) ?_
 show Y2 _ _ _ [(22,.cnd ((((lk zd a2 a0).getD 0)==0)==true) (.bool (!v1))),(21,.cnd ((((lk zd a2 a0).getD 0)==0)==true) (.bool v1)),(20,.cnd ((((lk zd a2 a0).getD 0)==0)==true) (.fn (.func 42) [] [.ptr (4,0) 0 0])),(19,.cnd ((((lk zd a2 a0).getD 0)==0)==true) (.isl 3 (((lk zd a3 a0).getD []).map z7) false)),(18,.cnd ((((lk zd a2 a0).getD 0)==0)==true) (.agg [.int .i64 a0.f_Kind,.int .i64 a0.f_A,.int .i64 a0.f_B])),(17,.cnd ((((lk zd a2 a0).getD 0)==0)==true) (.map (0,2))),(16,.cnd ((((lk zd a2 a0).getD 0)==0)==true) (.ptr (0,0) 0 0)),(15,.cnd ((((lk zd a2 a0).getD 0)==0)==true) (.ptr (0,0) 0 0)),(14,.cnd ((((lk zd a2 a0).getD 0)==0)==true) (.ptr (0,0) 0 0)),(13,.bool (((lk zd a2 a0).getD 0)==0)),(12,.bool (((lk zd a2 a0).getD 0)==0)),(11,.int .i64 ((lk zd a2 a0).getD 0)),(10,.agg [.int .i64 a0.f_Kind,.int .i64 a0.f_A,.int .i64 a0.f_B]),(9,.map (0,1)),(7,.fn (.func 42) [] [.ptr (4,0) 0 0]),(8,.fn (.func 42) [] [.ptr (4,0) 0 0]),(6,.bool false),(5,.ptr (4,0) 0 0),(4,.ptr (3,0) 0 0),(0,.ptr (0,0) 0 0),(1,.agg [.int .i64 a0.f_Kind,.int .i64 a0.f_A,.int .i64 a0.f_B]),(2,.map (0,1))] _ _
 refine And.intro (fun hc=>(bqt hc)) ?_
 refine LWp.sim (e:=[(6,.bool ((((lk zd a2 a0).getD 0)==0)&&(!v1)))]) (L:=[((0,0),.one [.map (0,2),.isl 3 (a1.map z7) false]),((0,1),.amap (a2.map (em za qb))),((0,2),.amap (a3.map (em za z8)))]) (n:=3) ?_ ?_
 ·exact jw (M:=[]) rfl (And.intro (Vw.same _ rfl) trivial) (And.intro (And.intro rfl (BVw.oneL (And.intro (Vw.map _ _ rfl) (And.intro (Vw.same _ rfl) trivial)))) (And.intro (And.intro rfl (BVw.ofMap za qb y7 a2)) (And.intro (And.intro rfl (BVw.ofMap za z8 zb a3)) trivial)))
 refine ua ?_
 cases h
 exact And.intro trivial (ziz (n':=3) [] [] rfl rfl (Vw.same _ rfl) (And.intro (And.intro rfl (BVw.oneL (And.intro (Vw.map _ _ rfl) (And.intro (Vw.same _ rfl) trivial)))) (And.intro (And.intro rfl (BVw.ofMap za qb y7 a2)) (And.intro (And.intro rfl (BVw.ofMap za z8 zb a3)) trivial))))
theorem zl7{a0:G_QKey}{a1:List G_QKey}{a2:List (G_QKey×Int)}{a3:List (G_QKey×(List G_QKey))}{m:Option Nat}{o:Bool}(h:jo m a0 a1 a2 a3=some o):ACalls Try.prog 27 [.ptr (0,0) 0 0,.agg [.int .i64 a0.f_Kind,.int .i64 a0.f_A,.int .i64 a0.f_B],.map (0,1)] [((0,0),.one [.map (0,2),.isl 3 (a1.map z7) false]),((0,1),.amap (a2.map (em za qb))),((0,2),.amap (a3.map (em za z8)))] 3 (ub 3 (.bool o) [((0,0),.one [.map (0,2),.isl 3 (a1.map z7) false]),((0,1),.amap (a2.map (em za qb))),((0,2),.amap (a3.map (em za z8)))]):=Yf (L:=zf7) zhe zde (Nat.le_of_ble_eq_true rfl) (z80 h)
def z9h:LCode:=(.seq (.region [⟨some 3,.box (.t 0),none⟩,
 ⟨some 4,.mv (.c (.bool false)),none⟩])
 (.seq (.region [⟨some 5,.load false 1 (.t 1),none⟩,
  ⟨some 6,.load true 3 (.t 3),none⟩,
  ⟨some 7,.load false 1 (.t 2),none⟩,
  ⟨some 8,.call 27 [(.t 5),(.t 6),(.t 7)],none⟩,
  ⟨some 4,.mv (.t 8),none⟩])
 .ret))
def z5k:Lay:=⟨9,[],false⟩
def z58:List LRes:=[.t 4]
def zig:LFn:=⟨3,z5k,z9h,z58⟩
theorem zhh:vi Try.prog [] 26=some zig:=by kernel_rfl
theorem zie:Z6 Try.prog 26:=⟨_,Try.func26,rfl,rfl⟩
noncomputable def zo(m:Option Nat)(a0:List G_QKey)(a1:List (G_QKey×Int))(a2:List (G_QKey×(List G_QKey)))(a3:G_QKey):Option Bool:=
 (jo m a3 a0 a1 a2).bind fun v1=>
 some v1
def zmy(a0:List G_QKey)(a1:List (G_QKey×Int))(a2:List (G_QKey×(List G_QKey)))(a3:G_QKey)(o:Bool):Exit→Env→AHeap→Nat→Prop:=Yb z58 (Qh 3 4 (.bool o) [((1,0),.one [.ptr (3,0) 0 0]),((1,1),.one [.map (3,1)]),((3,0),.one [.map (3,2),.isl 3 (a0.map z7) false]),((3,1),.amap (a1.map (em za qb))),((3,2),.amap (a2.map (em za z8)))])
theorem z6c{a0:List G_QKey}{a1:List (G_QKey×Int)}{a2:List (G_QKey×(List G_QKey))}{a3:G_QKey}{m:Option Nat}{o:Bool}(h:zo m a0 a1 a2 a3=some o):LWp Try.prog z5k 3 z9h (zmy a0 a1 a2 a3 o) (yy 0 [.agg [.int .i64 a3.f_Kind,.int .i64 a3.f_A,.int .i64 a3.f_B],.ptr (1,0) 0 0,.ptr (1,1) 0 0]) [((1,0),.one [.ptr (2,0) 0 0]),((1,1),.one [.map (2,1)]),((2,0),.one [.map (2,2),.isl 3 (a0.map z7) false]),((2,1),.amap (a1.map (em za qb))),((2,2),.amap (a2.map (em za z8)))] 3:=by
 unfold zo at h
 refine zh ?_
 refine zy ?_
 refine zh ?_
 refine zy ?_
 obtain⟨v1,h1,h⟩:=bind_some h
 refine Y8 (k:=3) (m:=0) (L':=[((2,0),.one [.map (2,2),.isl 3 (a0.map z7) false]),((2,1),.amap (a1.map (em za qb))),((2,2),.amap (a2.map (em za z8)))]) (rest:=[((3,0),.one [.int .i64 a3.f_Kind,.int .i64 a3.f_A,.int .i64 a3.f_B]),((1,0),.one [.ptr (2,0) 0 0]),((1,1),.one [.map (2,1)])]) (R':=.bool v1) [((0,0),(2,0)),((0,1),(2,1)),((0,2),(2,2))] (zl7 h1) rfl rfl rfl (And.intro (Vw.ptr _ _ _ _ rfl) (And.intro (Vw.same _ rfl) (And.intro (Vw.map _ _ rfl) trivial))) (And.intro (h0I (2,0) rfl rfl (BVw.oneL (And.intro (Vw.map _ _ rfl) (And.intro (Vw.same _ rfl) trivial)))) (And.intro (h0I (2,1) rfl rfl (BVw.ofMap za qb y7 a1)) (And.intro (h0I (2,2) rfl rfl (BVw.ofMap za z8 zb a2)) trivial))) (ki _ rfl) (And.intro rfl (And.intro rfl (And.intro rfl (And.intro (ve za qb qu y7 _) (And.intro rfl (And.intro (ve za z8 qu zb _) trivial)))))) rfl ?_
 show Y2 _ _ _ [(8,.bool v1),(7,.map (2,1)),(6,.agg [.int .i64 a3.f_Kind,.int .i64 a3.f_A,.int .i64 a3.f_B]),(5,.ptr (2,0) 0 0),(4,.bool false),(3,.ptr (3,0) 0 0),(0,.agg [.int .i64 a3.f_Kind,.int .i64 a3.f_A,.int .i64 a3.f_B]),(1,.ptr (1,0) 0 0),(2,.ptr (1,1) 0 0)] _ _
 refine ua ?_
 cases h
 exact And.intro trivial (ziz (n':=5) [((3,0),(2,0)),((3,1),(2,1)),((3,2),(2,2))] [] rfl rfl (Vw.same _ rfl) (And.intro (And.intro rfl (BVw.oneL (And.intro (Vw.ptr _ _ _ _ rfl) trivial))) (And.intro (And.intro rfl (BVw.oneL (And.intro (Vw.map _ _ rfl) trivial))) (And.intro (And.intro rfl (BVw.oneL (And.intro (Vw.map _ _ rfl) (And.intro (Vw.same _ rfl) trivial)))) (And.intro (And.intro rfl (BVw.ofMap za qb y7 a1)) (And.intro (And.intro rfl (BVw.ofMap za z8 zb a2)) trivial))))))
theorem zjf{a0:List G_QKey}{a1:List (G_QKey×Int)}{a2:List (G_QKey×(List G_QKey))}{a3:G_QKey}{m:Option Nat}{o:Bool}(h:zo m a0 a1 a2 a3=some o):ACalls Try.prog 26 [.agg [.int .i64 a3.f_Kind,.int .i64 a3.f_A,.int .i64 a3.f_B],.ptr (1,0) 0 0,.ptr (1,1) 0 0] [((1,0),.one [.ptr (2,0) 0 0]),((1,1),.one [.map (2,1)]),((2,0),.one [.map (2,2),.isl 3 (a0.map z7) false]),((2,1),.amap (a1.map (em za qb))),((2,2),.amap (a2.map (em za z8)))] 3 (ub 4 (.bool o) [((1,0),.one [.ptr (3,0) 0 0]),((1,1),.one [.map (3,1)]),((3,0),.one [.map (3,2),.isl 3 (a0.map z7) false]),((3,1),.amap (a1.map (em za qb))),((3,2),.amap (a2.map (em za z8)))]):=Yf (L:=zig) zhh zie (Nat.le_of_ble_eq_true rfl) (z6c h)
def z1m:LCode:=(.seq (.region [⟨some 9,.bin .lss (.t 8) (.t 7),none⟩])
 (.seq (.cond (.t 9)
  .skip
  (.exit 0))
 (.seq (.block 1
  (.seq (.region [⟨some 10,.mv (.t 8),none⟩,
   ⟨some 5,.mv (.t 10),none⟩])
  (.seq (.region [⟨some 11,.mv (.t 1),none⟩,
   ⟨some 12,.mv (.t 0),none⟩,
   ⟨some 13,.mv (.t 5),none⟩,
   ⟨some 14,.iaddr 3 (.t 12) (.t 13),none⟩,
   ⟨some 15,.load true 3 (.t 14),none⟩,
   ⟨some 16,.callv (.t 11) [(.t 15)],none⟩])
  (.cond (.t 16)
   (.seq (.region [⟨some 17,.mv (.t 5),none⟩,
    ⟨some 4,.mv (.t 17),none⟩])
   .ret)
   .skip))))
 (.region [⟨some 18,.bin .add (.t 8) (.c (.int .i64 1)),none⟩,
  ⟨some 8,.mv (.t 18),none⟩]))))
def Vp:LCode:=(.seq (.region [⟨some 4,.mv (.c (.int .i64 (-1))),none⟩])
 .ret)
def z9d:LCode:=(.seq (.region [⟨some 4,.mv (.c (.int .i64 0)),none⟩])
 (.seq (.seq (.region [⟨some 6,.mv (.t 0),none⟩,
  ⟨some 7,.len false (.t 6),none⟩,
  ⟨some 8,.mv (.c (.int .i64 0)),none⟩])
 (.block 0
  (.loop
   z1m)))
 Vp))
def Zn:Lay:=⟨19,[],false⟩
def z40:List LRes:=[.t 4]
def zej:LFn:=⟨2,Zn,z9d,z40⟩
theorem zio:vi Try.prog [] 25=some zej:=by kernel_rfl
theorem zcm:Z6 Try.prog 25:=⟨_,Try.func25,rfl,rfl⟩
def z2c{σ:Type}(Hc:σ→AHeap)(fi0:Fn)(ff0 fc0:List AVal)(a0:List G_QKey)(z0:σ)(o:Int×σ):Exit→Env→AHeap→Nat→Prop:=Yb z40 (Qh 3 4 (.int .i64 o.1) ([]++up 3 (Hc o.2)))
def V9{σ:Type}(Hc:σ→AHeap)(fi0:Fn)(ff0 fc0:List AVal)(a0:List G_QKey)(s:(Int×σ)):Env:=[(0,.isl 3 (a0.map z7) false),(1,.fn fi0 ff0 fc0),(7,.int .i64 ((a0.map z7).length:Int)),(8,.int .i64 s.1)]
def Km{σ:Type}(Hc:σ→AHeap)(fi0:Fn)(ff0 fc0:List AVal)(a0:List G_QKey)(s:(Int×σ)):AHeap:=([]++up 3 (Hc s.2))
def z17{σ:Type}(Hc:σ→AHeap)(fi0:Fn)(ff0 fc0:List AVal)(a0:List G_QKey)(z0:σ)(o:(Int×σ)):Exit→Env→AHeap→Nat→Prop:=(qp 0 (Z4 Try.prog Zn 3 Vp (z2c Hc fi0 ff0 fc0 a0 z0 o)))
noncomputable def xr{σ:Type}(g0:σ→G_QKey→Option (Bool×σ))(m:Option Nat)(v3:σ):Option (Int×σ):=
 some ((-1),v3)
noncomputable def y4{σ:Type}(g0:σ→G_QKey→Option (Bool×σ))(m:Option Nat)(a0:List G_QKey)(v2:Int)(v3:σ):Option ((Int×σ) ⊕ (Int×σ)):=
 if(decide (v2<((a0.map z7).length:Int)))=true then
  if(0:Int)≤v2∧v2<((a0.map z7).length:Int) then
  (g0 v3 (G_QKey.mk ((a0.getD v2.toNat default).f_Kind) ((a0.getD v2.toNat default).f_A) ((a0.getD v2.toNat default).f_B))).bind fun v5=>
  if v5.1=true then
   Option.map Sum.inr (
    some (v2,v5.2))
  else
   some (.inl ((W (v2+1)),v5.2))
  else none
 else
  Option.map Sum.inr (
   xr g0 m v3)
noncomputable def zc{σ:Type}(g0:σ→G_QKey→Option (Bool×σ))(m:Option Nat)(a0:List G_QKey)(v2:Int)(v3:σ):Option (Int×σ):=ky m (fun(s:(Int×σ))=>y4 g0 m a0 s.1 s.2) (v2,v3)
theorem z6v{σ:Type}{Hc:σ→AHeap}{fi0:Fn}{ff0 fc0:List AVal}{g0:σ→G_QKey→Option (Bool×σ)}(hg0:Clo Try.prog fi0 ff0 fc0 Hc (fun(x:G_QKey)=>[.agg [.int .i64 x.f_Kind,.int .i64 x.f_A,.int .i64 x.f_B]]) (fun(b:Bool)=>.bool b) g0){a0:List G_QKey}{z0:σ}{v3:σ}{m:Option Nat}{o:(Int×σ)}(h:xr g0 m v3=some o) :
 LWp Try.prog Zn 3 Vp (z2c Hc fi0 ff0 fc0 a0 z0 o) [] ([]++up 3 (Hc v3)) 4:=by
 unfold xr at h
 refine zh ?_
 refine zy ?_
 refine ua ?_
 cases h
 exact And.intro trivial (zso (n':=4) (q:=3) (lit':=[]) (hg0.tl _) [] [] rfl rfl (Vw.same _ rfl) trivial)
theorem z4f{σ:Type}{Hc:σ→AHeap}{fi0:Fn}{ff0 fc0:List AVal}{g0:σ→G_QKey→Option (Bool×σ)}(hg0:Clo Try.prog fi0 ff0 fc0 Hc (fun(x:G_QKey)=>[.agg [.int .i64 x.f_Kind,.int .i64 x.f_A,.int .i64 x.f_B]]) (fun(b:Bool)=>.bool b) g0){z0:σ}{a0:List G_QKey}{v2:Int}{v3:σ}{m:Option Nat}{o:(Int×σ) ⊕ (Int×σ)}(h:y4 g0 m a0 v2 v3=some o) :
 LWp Try.prog Zn 3 z1m (vp 3 4 (V9 Hc fi0 ff0 fc0 a0) (Km Hc fi0 ff0 fc0 a0) (z17 Hc fi0 ff0 fc0 a0 z0) o) [(0,.isl 3 (a0.map z7) false),(1,.fn fi0 ff0 fc0),(7,.int .i64 ((a0.map z7).length:Int)),(8,.int .i64 v2)] ([]++up 3 (Hc v3)) 4:=by
 unfold y4 at h
 refine zh ?_
 refine zy ?_
 refine zh ?_
 refine wc (v:=(decide (v2<((a0.map z7).length:Int)))) rfl trivial (fun h9=>?_) (fun h9=>?_)
 ·have h:=yt h9 h
  refine we ?_
  refine zh ?_
  refine jd ?_
  refine zh ?_
  refine zy ?_
  refine zh ?_
  refine zy ?_
  obtain⟨h10,h⟩:=zu h
  refine And.intro h10 ?_
  show Y2 _ _ _ [(14,.iptr 3 (a0.map z7) v2.toNat 0),(13,.int .i64 v2),(12,.isl 3 (a0.map z7) false),(11,.fn fi0 ff0 fc0),(5,.int .i64 v2),(10,.int .i64 v2),(9,.bool (decide (v2<((a0.map z7).length:Int)))),(0,.isl 3 (a0.map z7) false),(1,.fn fi0 ff0 fc0),(7,.int .i64 ((a0.map z7).length:Int)),(8,.int .i64 v2)] _ _
  refine Exists.intro (z7 (a0.getD v2.toNat default)) (And.intro (je z7 _ _ (ws z7 h10)) (And.intro (And.intro (k9 h10) (Nat.le_of_ble_eq_true rfl)) ?_))
  obtain⟨v5,h11,h⟩:=bind_some h
  refine Clo.use (q:=3) (lit:=[]) hg0 h11 rfl rfl (And.intro (Vw.same _ rfl) trivial) ?_
  refine LWp.sim (e:=[(0,.isl 3 (a0.map z7) false),(1,.fn fi0 ff0 fc0),(5,.int .i64 v2),(7,.int .i64 ((a0.map z7).length:Int)),(8,.int .i64 v2),(16,.bool v5.1)]) (L:=([]++up 3 (Hc v5.2))) (n:=4) ?_ ?_
  ·exact zav (M:=[]) (lit':=[]) (hg0.tl _) rfl (And.intro (Vw.same _ rfl) (And.intro (Vw.clo hg0.hf hg0.hc (by decide) (Qf (ug (n:=4) (q:=4) (lit':=[]) rfl))) (And.intro (Vw.same _ rfl) (And.intro (Vw.same _ rfl) (And.intro (Vw.same _ rfl) (And.intro (Vw.same _ rfl) trivial)))))) trivial
  refine wc (v:=v5.1) rfl trivial (fun h12=>?_) (fun h12=>?_)
  ·have h:=yt h12 h
   refine zh ?_
   refine zy ?_
   refine ua ?_
   obtain⟨o,hq,rfl⟩:=Option.map_eq_some_iff.1 h
   replace h:=hq;clear hq
   refine And.intro nofun ?_
   cases h
   exact And.intro trivial (zso (n':=4) (q:=3) (lit':=[]) (hg0.tl _) [] [] rfl rfl (Vw.same _ rfl) trivial)
  ·have h:=qy h12 h
   refine we ?_
   refine zy ?_
   cases h
   exact And.intro rfl (zav (M:=[]) (lit':=[]) (hg0.tl _) rfl (And.intro (Vw.same _ rfl) (And.intro (Vw.clo hg0.hf hg0.hc (by decide) (Qf (ug (n:=4) (q:=3) (lit':=[]) rfl))) (And.intro (Vw.same _ rfl) (And.intro (Vw.same _ rfl) trivial)))) trivial)
 ·have h:=qy h9 h
  refine Z7 ?_
  obtain⟨o,hq,rfl⟩:=Option.map_eq_some_iff.1 h
  replace h:=hq;clear hq
  refine And.intro nofun ?_
  refine LWp.sim ?_ (z6v hg0 h)
  exact zav (M:=[]) (lit':=[]) (hg0.tl _) rfl trivial trivial
theorem z71{σ:Type}{Hc:σ→AHeap}{fi0:Fn}{ff0 fc0:List AVal}{g0:σ→G_QKey→Option (Bool×σ)}(hg0:Clo Try.prog fi0 ff0 fc0 Hc (fun(x:G_QKey)=>[.agg [.int .i64 x.f_Kind,.int .i64 x.f_A,.int .i64 x.f_B]]) (fun(b:Bool)=>.bool b) g0){z0:σ}{a0:List G_QKey}{v2:Int}{v3:σ}{m:Option Nat}{o:(Int×σ)}(h:zc g0 m a0 v2 v3=some o) :
 LWp Try.prog Zn 3 (.loop z1m) (qp 0 (Z4 Try.prog Zn 3 Vp (z2c Hc fi0 ff0 fc0 a0 z0 o))) [(0,.isl 3 (a0.map z7) false),(1,.fn fi0 ff0 fc0),(7,.int .i64 ((a0.map z7).length:Int)),(8,.int .i64 v2)] ([]++up 3 (Hc v3)) 4:=
 j7 (m:=m) (s:=((v2,v3):(Int×σ))) (r:=o) (fun(s:(Int×σ))=>y4 g0 m a0 s.1 s.2) (V9 Hc fi0 ff0 fc0 a0) (Km Hc fi0 ff0 fc0 a0) (z17 Hc fi0 ff0 fc0 a0 z0) (fun s o h=>z4f hg0 h) h
noncomputable def zw{σ:Type}(g0:σ→G_QKey→Option (Bool×σ))(m:Option Nat)(a0:List G_QKey)(z0:σ):Option (Int×σ):=
 zc g0 m a0 0 z0
theorem z6q{σ:Type}{Hc:σ→AHeap}{fi0:Fn}{ff0 fc0:List AVal}{g0:σ→G_QKey→Option (Bool×σ)}(hg0:Clo Try.prog fi0 ff0 fc0 Hc (fun(x:G_QKey)=>[.agg [.int .i64 x.f_Kind,.int .i64 x.f_A,.int .i64 x.f_B]]) (fun(b:Bool)=>.bool b) g0){a0:List G_QKey}{z0:σ}{m:Option Nat}{o:Int×σ}(h:zw g0 m a0 z0=some o):LWp Try.prog Zn 3 z9d (z2c Hc fi0 ff0 fc0 a0 z0 o) (yy 0 [.isl 3 (a0.map z7) false,.fn fi0 ff0 fc0]) ([]++Hc z0) 3:=by
 unfold zw at h
 refine LWp.sim (e:=[(0,.isl 3 (a0.map z7) false),(1,.fn fi0 ff0 fc0)]) (L:=([]++up 3 (Hc z0))) (n:=4) (zgv (T:=Hc z0) (e':=yy 0 [.isl 3 (a0.map z7) false,.fn fi0 ff0 fc0]) (e:=[(0,.isl 3 (a0.map z7) false),(1,.fn fi0 ff0 fc0)]) (lit':=[]) (lit:=[]) (hg0.tl z0) rfl rfl (And.intro (Vw.same _ rfl) (And.intro (Vw.clo hg0.hf hg0.hc (by decide) (zhc _)) trivial)) trivial) ?_
 refine zh ?_
 refine zy ?_
 refine zh ?_
 refine zh ?_
 refine zy ?_
 refine jd ?_
 refine LWp.sim ?_ (z71 hg0 h)
 exact zav (M:=[]) (lit':=[]) (hg0.tl _) rfl (And.intro (Vw.same _ rfl) (And.intro (Vw.clo hg0.hf hg0.hc (by decide) (Qf (ug (n:=4) (q:=3) (lit':=[]) rfl))) (And.intro (Vw.same _ rfl) (And.intro (Vw.same _ rfl) trivial)))) trivial
theorem z9t{σ:Type}{Hc:σ→AHeap}{fi0:Fn}{ff0 fc0:List AVal}{g0:σ→G_QKey→Option (Bool×σ)}(hg0:Clo Try.prog fi0 ff0 fc0 Hc (fun(x:G_QKey)=>[.agg [.int .i64 x.f_Kind,.int .i64 x.f_A,.int .i64 x.f_B]]) (fun(b:Bool)=>.bool b) g0){a0:List G_QKey}{z0:σ}{m:Option Nat}{o:Int×σ}(h:zw g0 m a0 z0=some o):ACalls Try.prog 25 [.isl 3 (a0.map z7) false,.fn fi0 ff0 fc0] ([]++Hc z0) 3 (ub 4 (.int .i64 o.1) ([]++up 3 (Hc o.2))):=Yf (L:=zej) zio zcm (Nat.le_of_ble_eq_true rfl) (z6q hg0 h)
def zec:LCode:=(.seq (.seq (.region [⟨some 11,.mv (.t 6),none⟩,
 ⟨some 12,.len false (.t 11),none⟩,
 ⟨some 13,.load false 1 (.t 4),none⟩,
 ⟨some 14,.nilck (.t 13),none⟩,
 ⟨some 15,.faddr 1 (.t 14),none⟩,
 ⟨some 16,.load false 1 (.t 15),none⟩,
 ⟨some 17,.len false (.t 16),none⟩,
 ⟨some 18,.bin .lss (.t 12) (.t 17),none⟩])
 (.cond (.t 18)
  .skip
  (.exit 0)))
 (.block 1
  (.seq (.region [⟨some 19,.load false 1 (.t 4),none⟩,
   ⟨some 20,.nilck (.t 19),none⟩,
   ⟨some 21,.faddr 1 (.t 20),none⟩,
   ⟨some 22,.load false 1 (.t 21),none⟩,
   ⟨some 23,.mkfn (.func 26) [] [(.t 4),(.t 5)],none⟩,
   ⟨some 24,.call 25 [(.t 22),(.t 23)],none⟩,
   ⟨some 7,.mv (.t 24),none⟩])
  (.seq (.seq (.region [⟨some 25,.mv (.t 7),none⟩,
   ⟨some 26,.bin .lss (.t 25) (.c (.int .i64 0)),none⟩])
  (.cond (.t 26)
   (.seq (.region [⟨some 2,.mv (.c (.val (.slice none 0 0))),none⟩,
    ⟨some 3,.mv (.c (.int .i64 8)),none⟩])
   .ret)
   .skip))
  (.seq (.draw [⟨⟨some 27,.load false 1 (.t 5),none⟩,[]⟩,
   ⟨⟨some 28,.load false 1 (.t 4),none⟩,[]⟩,
   ⟨⟨some 29,.nilck (.t 28),none⟩,[]⟩,
   ⟨⟨some 30,.faddr 1 (.t 29),none⟩,[]⟩,
   ⟨⟨some 31,.load false 1 (.t 30),none⟩,[]⟩,
   ⟨⟨some 32,.mv (.t 7),none⟩,[]⟩,
   ⟨⟨some 33,.iaddr 3 (.t 31) (.t 32),none⟩,[]⟩,
   ⟨⟨some 34,.load true 3 (.t 33),none⟩,[]⟩,
   ⟨⟨none,.mset [.int,.int,.int] true false [(.int .i64 0)] (.t 27) (.t 34) (.c (.int .i64 1)),none⟩,[]⟩])
  (.region [⟨some 35,.mv (.t 6),none⟩,
   ⟨some 36,.load false 1 (.t 4),none⟩,
   ⟨some 37,.nilck (.t 36),none⟩,
   ⟨some 38,.faddr 1 (.t 37),none⟩,
   ⟨some 39,.load false 1 (.t 38),none⟩,
   ⟨some 40,.mv (.t 7),none⟩,
   ⟨some 41,.iaddr 3 (.t 39) (.t 40),none⟩,
   ⟨some 42,.load true 3 (.t 41),none⟩,
   ⟨some 43,.mkSl true 3 [(.int .i64 0),(.int .i64 0),(.int .i64 0)] 1 [(0,(.t 42))],none⟩,
   ⟨some 44,.app true 3 24 (.t 35) (.t 43),none⟩,
   ⟨some 6,.mv (.t 44),none⟩]))))))
def z8d:LCode:=(.seq (.region [⟨some 45,.mv (.t 6),none⟩,
 ⟨some 2,.mv (.t 45),none⟩,
 ⟨some 3,.mv (.c (.int .i64 0)),none⟩])
 .ret)
def zm9:LCode:=(.seq (.region [⟨some 2,.mv (.c (.val (.slice none 0 0))),none⟩,
 ⟨some 3,.mv (.c (.int .i64 0)),none⟩])
 (.seq (.region [⟨some 8,.mv (.t 0),none⟩,
  ⟨some 9,.call 21 [(.t 8),(.c (.bool false))],none⟩,
  ⟨some 4,.alloc [(.val (.pointer none))],none⟩,
  ⟨none,.store 1 (.t 4) (.t 9),none⟩])
 (.seq (.region [⟨some 10,.mkmap none,none⟩,
  ⟨some 5,.alloc [(.val (.map none))],none⟩,
  ⟨none,.store 1 (.t 5) (.t 10),none⟩])
 (.seq (.region [⟨some 6,.mv (.c (.val (.slice none 0 0))),none⟩])
 (.seq (.block 0
  (.loop
   zec))
 z8d)))))
def Xu:Lay:=⟨46,[],false⟩
def zf9:List LRes:=[.t 2,.t 3]
def zr5:LFn:=⟨1,Xu,zm9,zf9⟩
theorem zp0:vi Try.prog [] 13=some zr5:=by kernel_rfl
theorem zp9:Z6 Try.prog 13:=⟨_,Try.func13,rfl,rfl⟩
def zjt(a0:List G_QEdge)(o:(List G_QKey)×Int):Exit→Env→AHeap→Nat→Prop:=Yb zf9 (wa (.tup [.isl 3 (o.1.map z7) false,.int .i64 o.2]))
def z0m(v1:(List G_QKey)×(List (G_QKey×(List G_QKey))))(s:((List G_QKey)×(List (G_QKey×Int)))):Env:=[(4,.ptr (0,0) 0 0),(5,.ptr (1,0) 0 0),(6,.osl (2,0) 3 (s.1.map z7))]
def z41(v1:(List G_QKey)×(List (G_QKey×(List G_QKey))))(s:((List G_QKey)×(List (G_QKey×Int)))):AHeap:=[((0,0),.one [.ptr (3,0) 0 0]),((1,0),.one [.map (4,0)]),((2,0),.tok),((3,0),.one [.map (5,0),.isl 3 (v1.1.map z7) false]),((4,0),.amap (s.2.map (em za qb))),((5,0),.amap (v1.2.map (em za z8)))]
def zaf(a0:List G_QEdge)(o:((List G_QKey)×Int)):Exit→Env→AHeap→Nat→Prop:=(qp 0 (Z4 Try.prog Xu 0 z8d (zjt a0 o)))
noncomputable def jj(m:Option Nat)(v3:List G_QKey):Option ((List G_QKey)×Int):=
 some (v3,0)
noncomputable def yj(m:Option Nat)(v1:(List G_QKey)×(List (G_QKey×(List G_QKey))))(v3:List G_QKey)(v4:List (G_QKey×Int)):Option (((List G_QKey)×(List (G_QKey×Int))) ⊕ ((List G_QKey)×Int)):=
 if(decide (((v3.map z7).length:Int)<((v1.1.map z7).length:Int)))=true then
  (zw (fun(s:Unit) (x:G_QKey)=>(zo m v1.1 v4 v1.2 x).map fun o=>(o,())) m v1.1 ()).bind fun v6=>
  if(decide (v6.1<0))=true then
   Option.map Sum.inr (
    some ([],8))
  else
   if(0:Int)≤v6.1∧v6.1<((v1.1.map z7).length:Int) then
   if(0:Int)≤v6.1∧v6.1<((v1.1.map z7).length:Int) then
   if((v3++([(G_QKey.mk ((v1.1.getD v6.1.toNat default).f_Kind) ((v1.1.getD v6.1.toNat default).f_A) ((v1.1.getD v6.1.toNat default).f_B))]:List G_QKey)).map z7).length*24≤140737488355328 then
   some (.inl ((v3++([(G_QKey.mk ((v1.1.getD v6.1.toNat default).f_Kind) ((v1.1.getD v6.1.toNat default).f_A) ((v1.1.getD v6.1.toNat default).f_B))]:List G_QKey)),(mp zd v4 (G_QKey.mk ((v1.1.getD v6.1.toNat default).f_Kind) ((v1.1.getD v6.1.toNat default).f_A) ((v1.1.getD v6.1.toNat default).f_B)) 1)))
   else none
   else none
   else none
 else
  Option.map Sum.inr (
   jj m v3)
noncomputable def qe(m:Option Nat)(v1:(List G_QKey)×(List (G_QKey×(List G_QKey))))(v3:List G_QKey)(v4:List (G_QKey×Int)):Option ((List G_QKey)×Int):=ky m (fun(s:((List G_QKey)×(List (G_QKey×Int))))=>yj m v1 s.1 s.2) (v3,v4)
theorem zi9{a0:List G_QEdge}{v3:List G_QKey}{m:Option Nat}{o:((List G_QKey)×Int)}(h:jj m v3=some o) :
 LWp Try.prog Xu 0 z8d (zjt a0 o) [(6,.osl (0,0) 3 (v3.map z7))] [((0,0),.tok)] 1:=by
 unfold jj at h
 refine zh ?_
 refine zy ?_
 refine ua ?_
 cases h
 exact And.intro trivial (And.intro trivial (And.intro rfl (Vw.tupL (And.intro (Vw.oslI _ _ _) (And.intro (Vw.same _ rfl) trivial)))))
theorem zbl{a0:List G_QEdge}{v1:(List G_QKey)×(List (G_QKey×(List G_QKey)))}{v3:List G_QKey}{v4:List (G_QKey×Int)}{m:Option Nat}{o:((List G_QKey)×(List (G_QKey×Int))) ⊕ ((List G_QKey)×Int)}(h:yj m v1 v3 v4=some o) :
 LWp Try.prog Xu 0 zec (vp 0 6 (z0m v1) (z41 v1) (zaf a0) o) [(4,.ptr (0,0) 0 0),(5,.ptr (1,0) 0 0),(6,.osl (2,0) 3 (v3.map z7))] [((0,0),.one [.ptr (3,0) 0 0]),((1,0),.one [.map (4,0)]),((2,0),.tok),((3,0),.one [.map (5,0),.isl 3 (v1.1.map z7) false]),((4,0),.amap (v4.map (em za qb))),((5,0),.amap (v1.2.map (em za z8)))] 6:=by
 unfold yj at h
 refine zh ?_
 refine zh ?_
 refine zy ?_
 refine LWp.sim (e:=[(4,.ptr (0,0) 0 0),(5,.ptr (1,0) 0 0),(6,.osl (2,0) 3 (v3.map z7)),(18,.bool (decide (((v3.map z7).length:Int)<((v1.1.map z7).length:Int))))]) (L:=[((0,0),.one [.ptr (3,0) 0 0]),((1,0),.one [.map (4,0)]),((2,0),.tok),((3,0),.one [.map (5,0),.isl 3 (v1.1.map z7) false]),((4,0),.amap (v4.map (em za qb))),((5,0),.amap (v1.2.map (em za z8)))]) (n:=6) ?_ ?_
 ·exact jw (M:=[((0,0),(0,0)),((1,0),(1,0)),((2,0),(2,0)),((3,0),(3,0)),((4,0),(4,0)),((5,0),(5,0))]) rfl (And.intro (Vw.ptr _ _ _ _ rfl) (And.intro (Vw.ptr _ _ _ _ rfl) (And.intro (Vw.osl _ _ _ _ rfl) (And.intro (Vw.same _ rfl) trivial)))) (And.intro (And.intro rfl (BVw.oneL (And.intro (Vw.ptr _ _ _ _ rfl) trivial))) (And.intro (And.intro rfl (BVw.oneL (And.intro (Vw.map _ _ rfl) trivial))) (And.intro (And.intro rfl BVw.tok) (And.intro (And.intro rfl (BVw.oneL (And.intro (Vw.map _ _ rfl) (And.intro (Vw.same _ rfl) trivial)))) (And.intro (And.intro rfl (BVw.ofMap za qb y7 v4)) (And.intro (And.intro rfl (BVw.ofMap za z8 zb v1.2)) trivial))))))
 refine wc (v:=(decide (((v3.map z7).length:Int)<((v1.1.map z7).length:Int)))) rfl trivial (fun h14=>?_) (fun h14=>?_)
 ·have h:=yt h14 h
  refine we ?_
  refine jd ?_
  refine zh ?_
  refine zy ?_
  obtain⟨v6,h15,h⟩:=bind_some h
  refine Y8 (k:=3) (m:=1) (L':=[((0,0),.one [.ptr (6,0) 0 0]),((1,0),.one [.map (6,1)]),((6,0),.one [.map (6,2),.isl 3 (v1.1.map z7) false]),((6,1),.amap (v4.map (em za qb))),((6,2),.amap (v1.2.map (em za z8)))]) (rest:=[((2,0),.tok)]) (R':=.int .i64 v6.1) [((1,0),(0,0)),((1,1),(1,0)),((2,0),(3,0)),((2,1),(4,0)),((2,2),(5,0))] (z9t (show Clo Try.prog (.func 26) [] [.ptr (1,0) 0 0,.ptr (1,1) 0 0] (fun(s:Unit)=>[((1,0),.one [.ptr (2,0) 0 0]),((1,1),.one [.map (2,1)]),((2,0),.one [.map (2,2),.isl 3 (v1.1.map z7) false]),((2,1),.amap (v4.map (em za qb))),((2,2),.amap (v1.2.map (em za z8)))]) (fun(x:G_QKey)=>[.agg [.int .i64 x.f_Kind,.int .i64 x.f_A,.int .i64 x.f_B]]) (fun(b:Bool)=>.bool b) (fun(s:Unit) (x:G_QKey)=>(zo m v1.1 v4 v1.2 x).map fun o=>(o,())) from Clo.mk' (fun s=>Tl.lit rfl (And.intro (rfl) (And.intro (rfl) (And.intro (rfl) (And.intro (z6m za qb qu y7 _) (And.intro (z6m za z8 qu zb _) trivial))))) rfl) rfl rfl (fun _=>rfl) (fun s x o h=>by obtain⟨o1,h1,rfl⟩:=Option.map_eq_some_iff.1 h;exact Exists.intro _ (And.intro (zjf h1) (And.intro rfl (And.intro rfl (And.intro rfl (And.intro rfl (And.intro rfl (And.intro rfl (And.intro rfl (And.intro (ve za qb qu y7 _) (And.intro rfl (And.intro (ve za z8 qu zb _) trivial))))))))))))) h15) rfl rfl rfl (And.intro (Vw.same _ rfl) (And.intro (Vw.fnL trivial (And.intro (Vw.ptr _ _ _ _ rfl) (And.intro (Vw.ptr _ _ _ _ rfl) trivial))) trivial)) (And.intro (h0I (0,0) rfl rfl (BVw.oneL (And.intro (Vw.ptr _ _ _ _ rfl) trivial))) (And.intro (h0I (1,0) rfl rfl (BVw.oneL (And.intro (Vw.map _ _ rfl) trivial))) (And.intro (h0I (3,0) rfl rfl (BVw.oneL (And.intro (Vw.map _ _ rfl) (And.intro (Vw.same _ rfl) trivial)))) (And.intro (h0I (4,0) rfl rfl (BVw.ofMap za qb y7 v4)) (And.intro (h0I (5,0) rfl rfl (BVw.ofMap za z8 zb v1.2)) trivial))))) (ki _ rfl) (And.intro rfl (And.intro rfl (And.intro rfl (And.intro rfl (And.intro rfl (And.intro rfl (And.intro rfl (And.intro ((congrArg (ABlock.ren _) (ve za qb qu y7 _)).trans (ve za qb qu y7 _)) (And.intro rfl (And.intro ((congrArg (ABlock.ren _) (ve za z8 qu zb _)).trans (ve za z8 qu zb _)) trivial)))))))))) rfl ?_
  show Y2 _ _ _ [(24,.int .i64 v6.1),(23,.fn (.func 26) [] [.ptr (0,0) 0 0,.ptr (1,0) 0 0]),(22,.isl 3 (v1.1.map z7) false),(21,.ptr (3,0) 0 1),(20,.ptr (3,0) 0 0),(19,.ptr (3,0) 0 0),(4,.ptr (0,0) 0 0),(5,.ptr (1,0) 0 0),(6,.osl (2,0) 3 (v3.map z7)),(18,.bool (decide (((v3.map z7).length:Int)<((v1.1.map z7).length:Int))))] _ _
  refine zh ?_
  refine zh ?_
  refine zy ?_
  refine LWp.sim (e:=[(4,.ptr (0,0) 0 0),(5,.ptr (1,0) 0 0),(6,.osl (2,0) 3 (v3.map z7)),(7,.int .i64 v6.1),(26,.bool (decide (v6.1<0)))]) (L:=[((0,0),.one [.ptr (3,0) 0 0]),((1,0),.one [.map (4,0)]),((2,0),.tok),((3,0),.one [.map (5,0),.isl 3 (v1.1.map z7) false]),((4,0),.amap (v4.map (em za qb))),((5,0),.amap (v1.2.map (em za z8)))]) (n:=6) ?_ ?_
  ·exact jw (M:=[((0,0),(0,0)),((1,0),(1,0)),((2,0),(2,0)),((3,0),(6,0)),((4,0),(6,1)),((5,0),(6,2))]) rfl (And.intro (Vw.ptr _ _ _ _ rfl) (And.intro (Vw.ptr _ _ _ _ rfl) (And.intro (Vw.osl _ _ _ _ rfl) (And.intro (Vw.same _ rfl) (And.intro (Vw.same _ rfl) trivial))))) (And.intro (And.intro rfl (BVw.oneL (And.intro (Vw.ptr _ _ _ _ rfl) trivial))) (And.intro (And.intro rfl (BVw.oneL (And.intro (Vw.map _ _ rfl) trivial))) (And.intro (And.intro rfl BVw.tok) (And.intro (And.intro rfl (BVw.oneL (And.intro (Vw.map _ _ rfl) (And.intro (Vw.same _ rfl) trivial)))) (And.intro (And.intro rfl (BVw.ofMap za qb y7 v4)) (And.intro (And.intro rfl (BVw.ofMap za z8 zb v1.2)) trivial))))))
  refine wc (v:=(decide (v6.1<0))) rfl trivial (fun h16=>?_) (fun h16=>?_)
  ·have h:=yt h16 h
   refine zh ?_
   refine zy ?_
   refine ua ?_
   obtain⟨o,hq,rfl⟩:=Option.map_eq_some_iff.1 h
   replace h:=hq;clear hq
   refine And.intro nofun ?_
   cases h
   exact And.intro trivial (And.intro trivial (And.intro rfl (Vw.tupL (And.intro (Vw.nilI _ _) (And.intro (Vw.same _ rfl) trivial)))))
  ·have h:=qy h16 h
   refine we ?_
   refine zh ?_
   refine z04 rfl ?_
   obtain⟨h17,h⟩:=zu h
   refine And.intro h17 ?_
   show Y2 _ _ _ [(33,.iptr 3 (v1.1.map z7) v6.1.toNat 0),(32,.int .i64 v6.1),(31,.isl 3 (v1.1.map z7) false),(30,.ptr (3,0) 0 1),(29,.ptr (3,0) 0 0),(28,.ptr (3,0) 0 0),(27,.map (4,0)),(4,.ptr (0,0) 0 0),(5,.ptr (1,0) 0 0),(6,.osl (2,0) 3 (v3.map z7)),(7,.int .i64 v6.1),(26,.bool (decide (v6.1<0)))] _ _
   refine Exists.intro (z7 (v1.1.getD v6.1.toNat default)) (And.intro (je z7 _ _ (ws z7 h17)) (And.intro (And.intro (k9 h17) (Nat.le_of_ble_eq_true rfl)) ?_))
   refine Exists.intro ((mp zd v4 (G_QKey.mk ((v1.1.getD v6.1.toNat default).f_Kind) ((v1.1.getD v6.1.toNat default).f_A) ((v1.1.getD v6.1.toNat default).f_B)) 1).map (em za qb)) (And.intro (Vu (ek:=za) (ev:=qb) xf (G_QKey.mk ((v1.1.getD v6.1.toNat default).f_Kind) ((v1.1.getD v6.1.toNat default).f_A) ((v1.1.getD v6.1.toNat default).f_B)) 1 v4) ?_)
   refine LWp.sim (e:=[(4,.ptr (0,0) 0 0),(5,.ptr (1,0) 0 0),(6,.osl (2,0) 3 (v3.map z7)),(7,.int .i64 v6.1)]) (L:=[((0,0),.one [.ptr (3,0) 0 0]),((1,0),.one [.map (4,0)]),((2,0),.tok),((3,0),.one [.map (5,0),.isl 3 (v1.1.map z7) false]),((4,0),.amap ((mp zd v4 (G_QKey.mk ((v1.1.getD v6.1.toNat default).f_Kind) ((v1.1.getD v6.1.toNat default).f_A) ((v1.1.getD v6.1.toNat default).f_B)) 1).map (em za qb))),((5,0),.amap (v1.2.map (em za z8)))]) (n:=6) ?_ ?_
   ·exact jw (M:=[((0,0),(0,0)),((1,0),(1,0)),((2,0),(2,0)),((3,0),(3,0)),((4,0),(4,0)),((5,0),(5,0))]) rfl (And.intro (Vw.ptr _ _ _ _ rfl) (And.intro (Vw.ptr _ _ _ _ rfl) (And.intro (Vw.osl _ _ _ _ rfl) (And.intro (Vw.same _ rfl) trivial)))) (And.intro (And.intro rfl (BVw.oneL (And.intro (Vw.ptr _ _ _ _ rfl) trivial))) (And.intro (And.intro rfl (BVw.oneL (And.intro (Vw.map _ _ rfl) trivial))) (And.intro (And.intro rfl BVw.tok) (And.intro (And.intro rfl (BVw.oneL (And.intro (Vw.map _ _ rfl) (And.intro (Vw.same _ rfl) trivial)))) (And.intro (And.intro rfl (BVw.ofMap za qb y7 (mp zd v4 (G_QKey.mk ((v1.1.getD v6.1.toNat default).f_Kind) ((v1.1.getD v6.1.toNat default).f_A) ((v1.1.getD v6.1.toNat default).f_B)) 1))) (And.intro (And.intro rfl (BVw.ofMap za z8 zb v1.2)) trivial))))))
   refine zy ?_
   obtain⟨h18,h⟩:=zu h
   refine And.intro h18 ?_
   show Y2 _ _ _ [(41,.iptr 3 (v1.1.map z7) v6.1.toNat 0),(40,.int .i64 v6.1),(39,.isl 3 (v1.1.map z7) false),(38,.ptr (3,0) 0 1),(37,.ptr (3,0) 0 0),(36,.ptr (3,0) 0 0),(35,.osl (2,0) 3 (v3.map z7)),(4,.ptr (0,0) 0 0),(5,.ptr (1,0) 0 0),(6,.osl (2,0) 3 (v3.map z7)),(7,.int .i64 v6.1)] _ _
   refine Exists.intro (z7 (v1.1.getD v6.1.toNat default)) (And.intro (je z7 _ _ (ws z7 h18)) (And.intro (And.intro (k9 h18) (Nat.le_of_ble_eq_true rfl)) ?_))
   obtain⟨h19,h⟩:=zu h
   refine Exists.intro ((v3++([(G_QKey.mk ((v1.1.getD v6.1.toNat default).f_Kind) ((v1.1.getD v6.1.toNat default).f_A) ((v1.1.getD v6.1.toNat default).f_B))]:List G_QKey)).map z7) (And.intro (Jc z7 v3 ([(G_QKey.mk ((v1.1.getD v6.1.toNat default).f_Kind) ((v1.1.getD v6.1.toNat default).f_A) ((v1.1.getD v6.1.toNat default).f_B))]:List G_QKey)) (And.intro h19 ?_))
   cases h
   exact And.intro rfl (jw (M:=[((0,0),(0,0)),((1,0),(1,0)),((2,0),(6,0)),((3,0),(3,0)),((4,0),(4,0)),((5,0),(5,0))]) rfl (And.intro (Vw.ptr _ _ _ _ rfl) (And.intro (Vw.ptr _ _ _ _ rfl) (And.intro (Vw.osl _ _ _ _ rfl) trivial))) (And.intro (And.intro rfl (BVw.oneL (And.intro (Vw.ptr _ _ _ _ rfl) trivial))) (And.intro (And.intro rfl (BVw.oneL (And.intro (Vw.map _ _ rfl) trivial))) (And.intro (And.intro rfl BVw.tok) (And.intro (And.intro rfl (BVw.oneL (And.intro (Vw.map _ _ rfl) (And.intro (Vw.same _ rfl) trivial)))) (And.intro (And.intro rfl (BVw.ofMap za qb y7 (mp zd v4 (G_QKey.mk ((v1.1.getD v6.1.toNat default).f_Kind) ((v1.1.getD v6.1.toNat default).f_A) ((v1.1.getD v6.1.toNat default).f_B)) 1))) (And.intro (And.intro rfl (BVw.ofMap za z8 zb v1.2)) trivial)))))))
 ·have h:=qy h14 h
  refine Z7 ?_
  obtain⟨o,hq,rfl⟩:=Option.map_eq_some_iff.1 h
  replace h:=hq;clear hq
  refine And.intro nofun ?_
  refine LWp.sim ?_ (zi9 h)
  exact jw (M:=[((0,0),(2,0))]) rfl (And.intro (Vw.osl _ _ _ _ rfl) trivial) (And.intro (And.intro rfl BVw.tok) trivial)
theorem zfd{a0:List G_QEdge}{v1:(List G_QKey)×(List (G_QKey×(List G_QKey)))}{v3:List G_QKey}{v4:List (G_QKey×Int)}{m:Option Nat}{o:((List G_QKey)×Int)}(h:qe m v1 v3 v4=some o) :
 LWp Try.prog Xu 0 (.loop zec) (qp 0 (Z4 Try.prog Xu 0 z8d (zjt a0 o))) [(4,.ptr (0,0) 0 0),(5,.ptr (1,0) 0 0),(6,.osl (2,0) 3 (v3.map z7))] [((0,0),.one [.ptr (3,0) 0 0]),((1,0),.one [.map (4,0)]),((2,0),.tok),((3,0),.one [.map (5,0),.isl 3 (v1.1.map z7) false]),((4,0),.amap (v4.map (em za qb))),((5,0),.amap (v1.2.map (em za z8)))] 6:=
 j7 (m:=m) (s:=((v3,v4):((List G_QKey)×(List (G_QKey×Int))))) (r:=o) (fun(s:((List G_QKey)×(List (G_QKey×Int))))=>yj m v1 s.1 s.2) (z0m v1) (z41 v1) (zaf a0) (fun s o h=>zbl h) h
noncomputable def x7(m:Option Nat)(a0:List G_QEdge):Option ((List G_QKey)×Int):=
 (qq m a0 false).bind fun v1=>
 qe m v1 [] ([]:List (G_QKey×Int))
theorem zeg{a0:List G_QEdge}{m:Option Nat}{o:(List G_QKey)×Int}(h:x7 m a0=some o):LWp Try.prog Xu 0 zm9 (zjt a0 o) (yy 0 [.isl 6 (a0.map z6) false]) [] 0:=by
 unfold x7 at h
 refine zh ?_
 refine zy ?_
 refine zh ?_
 refine zy ?_
 obtain⟨v1,h1,h⟩:=bind_some h
 refine Y8 (k:=3) (m:=4) (L':=[((0,0),.one [.map (1,0),.isl 3 (v1.1.map z7) false]),((1,0),.amap (v1.2.map (em za z8)))]) (rest:=[]) (R':=.ptr (0,0) 0 0) [] (Vs h1) rfl rfl rfl (And.intro (Vw.same _ rfl) (And.intro (Vw.same _ rfl) trivial)) trivial rfl (And.intro rfl (And.intro rfl (And.intro rfl (And.intro (ve za z8 qu zb _) trivial)))) rfl ?_
 refine zh ?_
 refine zy ?_
 refine LWp.sim (e:=[(4,.ptr (0,0) 0 0),(5,.ptr (1,0) 0 0)]) (L:=[((0,0),.one [.ptr (2,0) 0 0]),((1,0),.one [.map (3,0)]),((2,0),.one [.map (4,0),.isl 3 (v1.1.map z7) false]),((3,0),.amap (([]:List (G_QKey×Int)).map (em za qb))),((4,0),.amap (v1.2.map (em za z8)))]) (n:=5) ?_ ?_
 ·exact jw (M:=[((0,0),(5,0)),((1,0),(7,0)),((2,0),(0,0)),((3,0),(6,0)),((4,0),(1,0))]) rfl (And.intro (Vw.ptr _ _ _ _ rfl) (And.intro (Vw.ptr _ _ _ _ rfl) trivial)) (And.intro (And.intro rfl (BVw.oneL (And.intro (Vw.ptr _ _ _ _ rfl) trivial))) (And.intro (And.intro rfl (BVw.oneL (And.intro (Vw.map _ _ rfl) trivial))) (And.intro (And.intro rfl (BVw.oneL (And.intro (Vw.map _ _ rfl) (And.intro (Vw.same _ rfl) trivial)))) (And.intro (And.intro rfl (BVw.ofMap za qb y7 ([]:List (G_QKey×Int)))) (And.intro (And.intro rfl (BVw.ofMap za z8 zb v1.2)) trivial)))))
 refine zh ?_
 refine zy ?_
 refine zh ?_
 refine jd ?_
 refine LWp.sim ?_ (zfd h)
 exact jw (M:=[((0,0),(0,0)),((1,0),(1,0)),((3,0),(2,0)),((4,0),(3,0)),((5,0),(4,0))]) rfl (And.intro (Vw.ptr _ _ _ _ rfl) (And.intro (Vw.ptr _ _ _ _ rfl) (And.intro (Vw.nilO _ _ (by decide)) trivial))) (And.intro (And.intro rfl (BVw.oneL (And.intro (Vw.ptr _ _ _ _ rfl) trivial))) (And.intro (And.intro rfl (BVw.oneL (And.intro (Vw.map _ _ rfl) trivial))) (And.intro (And.intro rfl (And.intro (by decide) (by decide))) (And.intro (And.intro rfl (BVw.oneL (And.intro (Vw.map _ _ rfl) (And.intro (Vw.same _ rfl) trivial)))) (And.intro (And.intro rfl (BVw.ofMap za qb y7 ([]:List (G_QKey×Int)))) (And.intro (And.intro rfl (BVw.ofMap za z8 zb v1.2)) trivial))))))
theorem zr4{a0:List G_QEdge}{m:Option Nat}{o:(List G_QKey)×Int}(h:x7 m a0=some o):PFn Try.prog 13 [.isl 6 (a0.map z6) false] (.tup [.isl 3 (o.1.map z7) false,.int .i64 o.2]):=PFn.ofFnW (L:=zr5) zp0 zp9 (Nat.le_of_ble_eq_true rfl) rfl (zeg h)
def zf8:LCode:=(.seq (.region [⟨some 9,.bin .lss (.t 8) (.t 7),none⟩])
 (.seq (.cond (.t 9)
  .skip
  (.exit 0))
 (.seq (.block 1
  (.seq (.region [⟨some 10,.mv (.t 8),none⟩,
   ⟨some 5,.mv (.t 10),none⟩])
  (.seq (.quiet [⟨some 11,.load true 3 (.t 3),none⟩,
   ⟨some 12,.mv (.t 0),none⟩,
   ⟨some 13,.mv (.t 5),none⟩,
   ⟨some 14,.iaddr 3 (.t 12) (.t 13),none⟩,
   ⟨some 15,.load true 3 (.t 14),none⟩,
   ⟨some 16,.eq false (.agg [.int,.int,.int]) (.t 11) (.t 15),none⟩])
  (.cond (.t 16)
   (.seq (.region [⟨some 17,.mv (.t 5),none⟩,
    ⟨some 4,.mv (.t 17),none⟩])
   .ret)
   .skip))))
 (.region [⟨some 18,.bin .add (.t 8) (.c (.int .i64 1)),none⟩,
  ⟨some 8,.mv (.t 18),none⟩]))))
def z97:LCode:=(.seq (.region [⟨some 4,.mv (.c (.int .i64 (-1))),none⟩])
 .ret)
def zls:LCode:=(.seq (.region [⟨some 3,.box (.t 1),none⟩,
 ⟨some 4,.mv (.c (.int .i64 0)),none⟩])
 (.seq (.seq (.region [⟨some 6,.mv (.t 0),none⟩,
  ⟨some 7,.len false (.t 6),none⟩,
  ⟨some 8,.mv (.c (.int .i64 0)),none⟩])
 (.block 0
  (.loop
   zf8)))
 z97))
def Jf:Lay:=⟨19,[],false⟩
def zcc:List LRes:=[.t 4]
def zre:LFn:=⟨2,Jf,zls,zcc⟩
theorem zpc:vi Try.prog [] 43=some zre:=by kernel_rfl
theorem znz:Z6 Try.prog 43:=⟨_,Try.func43,rfl,rfl⟩
def zk0(a0:List G_QKey)(a1:G_QKey)(o:Int):Exit→Env→AHeap→Nat→Prop:=Yb zcc (wa (.int .i64 o))
def z0z(a0:List G_QKey)(a1:G_QKey)(s:Int):Env:=[(0,.isl 3 (a0.map z7) false),(3,.ptr (0,0) 0 0),(7,.int .i64 ((a0.map z7).length:Int)),(8,.int .i64 s)]
def z48(a0:List G_QKey)(a1:G_QKey)(s:Int):AHeap:=[((0,0),.one [.int .i64 a1.f_Kind,.int .i64 a1.f_A,.int .i64 a1.f_B])]
def za7(a0:List G_QKey)(a1:G_QKey)(o:Int):Exit→Env→AHeap→Nat→Prop:=(qp 0 (Z4 Try.prog Jf 0 z97 (zk0 a0 a1 o)))
noncomputable def va(m:Option Nat):Option Int:=
 some (-1)
noncomputable def w6(m:Option Nat)(a0:List G_QKey)(a1:G_QKey)(v1:Int):Option (Int ⊕ Int):=
 if(decide (v1<((a0.map z7).length:Int)))=true then
  if(0:Int)≤v1∧v1<((a0.map z7).length:Int) then
  if((a1.f_Kind==(a0.getD v1.toNat default).f_Kind)&&((a1.f_A==(a0.getD v1.toNat default).f_A)&&((a1.f_B==(a0.getD v1.toNat default).f_B)&&true)))=true then
   Option.map Sum.inr (
    some v1)
  else
   some (.inl (W (v1+1)))
  else none
 else
  Option.map Sum.inr (
   va m)
noncomputable def kn(m:Option Nat)(a0:List G_QKey)(a1:G_QKey)(v1:Int):Option Int:=ky m (fun(s:Int)=>w6 m a0 a1 s) v1
theorem zil{a0:List G_QKey}{a1:G_QKey}{m:Option Nat}{o:Int}(h:va m=some o) :
 LWp Try.prog Jf 0 z97 (zk0 a0 a1 o) [] [] 0:=by
 unfold va at h
 refine zh ?_
 refine zy ?_
 refine ua ?_
 cases h
 exact And.intro trivial (And.intro rfl (Vw.same _ rfl))
theorem zba{a0:List G_QKey}{a1:G_QKey}{v1:Int}{m:Option Nat}{o:Int ⊕ Int}(h:w6 m a0 a1 v1=some o) :
 LWp Try.prog Jf 0 zf8 (vp 0 1 (z0z a0 a1) (z48 a0 a1) (za7 a0 a1) o) [(0,.isl 3 (a0.map z7) false),(3,.ptr (0,0) 0 0),(7,.int .i64 ((a0.map z7).length:Int)),(8,.int .i64 v1)] [((0,0),.one [.int .i64 a1.f_Kind,.int .i64 a1.f_A,.int .i64 a1.f_B])] 1:=by
 unfold w6 at h
 refine zh ?_
 refine zy ?_
 refine zh ?_
 refine wc (v:=(decide (v1<((a0.map z7).length:Int)))) rfl trivial (fun h7=>?_) (fun h7=>?_)
 ·have h:=yt h7 h
  refine we ?_
  refine zh ?_
  refine jd ?_
  refine zh ?_
  refine zy ?_
  refine zh ?_
  refine z3g ?_
  obtain⟨h8,h⟩:=zu h
  refine And.intro h8 ?_
  show yqs _ _ [(14,.iptr 3 (a0.map z7) v1.toNat 0),(13,.int .i64 v1),(12,.isl 3 (a0.map z7) false),(11,.agg [.int .i64 a1.f_Kind,.int .i64 a1.f_A,.int .i64 a1.f_B]),(5,.int .i64 v1),(10,.int .i64 v1),(9,.bool (decide (v1<((a0.map z7).length:Int)))),(0,.isl 3 (a0.map z7) false),(3,.ptr (0,0) 0 0),(7,.int .i64 ((a0.map z7).length:Int)),(8,.int .i64 v1)] _ _
  refine Exists.intro (z7 (a0.getD v1.toNat default)) (And.intro (je z7 _ _ (ws z7 h8)) (And.intro (And.intro (k9 h8) (Nat.le_of_ble_eq_true rfl)) ?_))
  refine LWp.sim (e:=[(0,.isl 3 (a0.map z7) false),(3,.ptr (0,0) 0 0),(5,.int .i64 v1),(7,.int .i64 ((a0.map z7).length:Int)),(8,.int .i64 v1),(16,.bool ((a1.f_Kind==(a0.getD v1.toNat default).f_Kind)&&((a1.f_A==(a0.getD v1.toNat default).f_A)&&((a1.f_B==(a0.getD v1.toNat default).f_B)&&true))))]) (L:=[((0,0),.one [.int .i64 a1.f_Kind,.int .i64 a1.f_A,.int .i64 a1.f_B])]) (n:=1) ?_ ?_
  ·exact jw (M:=[((0,0),(0,0))]) rfl (And.intro (Vw.same _ rfl) (And.intro (Vw.ptr _ _ _ _ rfl) (And.intro (Vw.same _ rfl) (And.intro (Vw.same _ rfl) (And.intro (Vw.same _ rfl) (And.intro (Vw.same _ rfl) trivial)))))) (And.intro (And.intro rfl (BVw.oneL (And.intro (Vw.same _ rfl) (And.intro (Vw.same _ rfl) (And.intro (Vw.same _ rfl) trivial))))) trivial)
  refine wc (v:=((a1.f_Kind==(a0.getD v1.toNat default).f_Kind)&&((a1.f_A==(a0.getD v1.toNat default).f_A)&&((a1.f_B==(a0.getD v1.toNat default).f_B)&&true)))) rfl trivial (fun h9=>?_) (fun h9=>?_)
  ·have h:=yt h9 h
   refine zh ?_
   refine zy ?_
   refine ua ?_
   obtain⟨o,hq,rfl⟩:=Option.map_eq_some_iff.1 h
   replace h:=hq;clear hq
   refine And.intro nofun ?_
   cases h
   exact And.intro trivial (And.intro rfl (Vw.same _ rfl))
  ·have h:=qy h9 h
   refine we ?_
   refine zy ?_
   cases h
   exact And.intro rfl (jw (M:=[((0,0),(0,0))]) rfl (And.intro (Vw.same _ rfl) (And.intro (Vw.ptr _ _ _ _ rfl) (And.intro (Vw.same _ rfl) (And.intro (Vw.same _ rfl) trivial)))) (And.intro (And.intro rfl (BVw.oneL (And.intro (Vw.same _ rfl) (And.intro (Vw.same _ rfl) (And.intro (Vw.same _ rfl) trivial))))) trivial))
 ·have h:=qy h7 h
  refine Z7 ?_
  obtain⟨o,hq,rfl⟩:=Option.map_eq_some_iff.1 h
  replace h:=hq;clear hq
  refine And.intro nofun ?_
  refine LWp.sim ?_ (zil h)
  exact jw (M:=[]) rfl trivial trivial
theorem zgx{a0:List G_QKey}{a1:G_QKey}{v1:Int}{m:Option Nat}{o:Int}(h:kn m a0 a1 v1=some o) :
 LWp Try.prog Jf 0 (.loop zf8) (qp 0 (Z4 Try.prog Jf 0 z97 (zk0 a0 a1 o))) [(0,.isl 3 (a0.map z7) false),(3,.ptr (0,0) 0 0),(7,.int .i64 ((a0.map z7).length:Int)),(8,.int .i64 v1)] [((0,0),.one [.int .i64 a1.f_Kind,.int .i64 a1.f_A,.int .i64 a1.f_B])] 1:=
 j7 (m:=m) (s:=(v1:Int)) (r:=o) (fun(s:Int)=>w6 m a0 a1 s) (z0z a0 a1) (z48 a0 a1) (za7 a0 a1) (fun s o h=>zba h) h
noncomputable def wm(m:Option Nat)(a0:List G_QKey)(a1:G_QKey):Option Int:=
 kn m a0 a1 0
theorem zea{a0:List G_QKey}{a1:G_QKey}{m:Option Nat}{o:Int}(h:wm m a0 a1=some o):LWp Try.prog Jf 0 zls (zk0 a0 a1 o) (yy 0 [.isl 3 (a0.map z7) false,.agg [.int .i64 a1.f_Kind,.int .i64 a1.f_A,.int .i64 a1.f_B]]) [] 0:=by
 unfold wm at h
 refine zh ?_
 refine zy ?_
 refine zh ?_
 refine zh ?_
 refine zy ?_
 refine jd ?_
 refine LWp.sim ?_ (zgx h)
 exact jw (M:=[((0,0),(0,0))]) rfl (And.intro (Vw.same _ rfl) (And.intro (Vw.ptr _ _ _ _ rfl) (And.intro (Vw.same _ rfl) (And.intro (Vw.same _ rfl) trivial)))) (And.intro (And.intro rfl (BVw.oneL (And.intro (Vw.same _ rfl) (And.intro (Vw.same _ rfl) (And.intro (Vw.same _ rfl) trivial))))) trivial)
theorem zrt{a0:List G_QKey}{a1:G_QKey}{m:Option Nat}{o:Int}(h:wm m a0 a1=some o):PFn Try.prog 43 [.isl 3 (a0.map z7) false,.agg [.int .i64 a1.f_Kind,.int .i64 a1.f_A,.int .i64 a1.f_B]] (.int .i64 o):=PFn.ofFnW (L:=zre) zpc znz (Nat.le_of_ble_eq_true rfl) rfl (zea h)
def zmr:LCode:=(.seq (.region [⟨some 3,.box (.t 1),none⟩,
 ⟨some 4,.mv (.c (.bool false)),none⟩])
 (.seq (.region [⟨some 5,.mv (.t 0),none⟩,
  ⟨some 6,.load true 3 (.t 3),none⟩,
  ⟨some 7,.call 43 [(.t 5),(.t 6)],none⟩,
  ⟨some 8,.bin .geq (.t 7) (.c (.int .i64 0)),none⟩,
  ⟨some 4,.mv (.t 8),none⟩])
 .ret))
def zdc:Lay:=⟨9,[],false⟩
def zgz:List LRes:=[.t 4]
def zrv:LFn:=⟨2,zdc,zmr,zgz⟩
theorem znj:vi Try.prog [] 33=some zrv:=by kernel_rfl
theorem zn9:Z6 Try.prog 33:=⟨_,Try.func33,rfl,rfl⟩
noncomputable def xa(m:Option Nat)(a0:List G_QKey)(a1:G_QKey):Option Bool:=
 (wm m a0 a1).bind fun v1=>
 some (decide (v1≥0))
def ztb(a0:List G_QKey)(a1:G_QKey)(o:Bool):Exit→Env→AHeap→Nat→Prop:=Yb zgz (wa (.bool o))
theorem zik{a0:List G_QKey}{a1:G_QKey}{m:Option Nat}{o:Bool}(h:xa m a0 a1=some o):LWp Try.prog zdc 0 zmr (ztb a0 a1 o) (yy 0 [.isl 3 (a0.map z7) false,.agg [.int .i64 a1.f_Kind,.int .i64 a1.f_A,.int .i64 a1.f_B]]) [] 0:=by
 unfold xa at h
 refine zh ?_
 refine zy ?_
 refine zh ?_
 refine zy ?_
 obtain⟨v1,h1,h⟩:=bind_some h
 refine PFn.call (zrt h1) (And.intro (Vw.same _ rfl) (And.intro (Vw.same _ rfl) trivial)) ?_
 show Y2 _ _ _ [(7,.int .i64 v1),(6,.agg [.int .i64 a1.f_Kind,.int .i64 a1.f_A,.int .i64 a1.f_B]),(5,.isl 3 (a0.map z7) false),(4,.bool false),(3,.ptr (0,0) 0 0),(0,.isl 3 (a0.map z7) false),(1,.agg [.int .i64 a1.f_Kind,.int .i64 a1.f_A,.int .i64 a1.f_B])] _ _
 refine ua ?_
 cases h
 exact And.intro trivial (And.intro rfl (Vw.same _ rfl))
theorem zs6{a0:List G_QKey}{a1:G_QKey}{m:Option Nat}{o:Bool}(h:xa m a0 a1=some o):PFn Try.prog 33 [.isl 3 (a0.map z7) false,.agg [.int .i64 a1.f_Kind,.int .i64 a1.f_A,.int .i64 a1.f_B]] (.bool o):=PFn.ofFnW (L:=zrv) znj zn9 (Nat.le_of_ble_eq_true rfl) rfl (zik h)
def z9o:LCode:=(.seq (.region [⟨some 3,.box (.t 0),none⟩,
 ⟨some 4,.mv (.c (.bool false)),none⟩])
 (.seq (.draw [⟨⟨some 5,.load false 1 (.t 1),none⟩,[]⟩,
  ⟨⟨some 6,.load true 3 (.t 3),none⟩,[]⟩,
  ⟨⟨some 7,.mlook [.int,.int,.int] true false false [(.isl 3 [] true)] (.t 5) (.t 6),none⟩,[]⟩,
  ⟨⟨some 8,.faddr 3 (.t 2),none⟩,[]⟩,
  ⟨⟨some 9,.load true 3 (.t 8),none⟩,[]⟩,
  ⟨⟨some 10,.call 33 [(.t 7),(.t 9)],none⟩,[]⟩,
  ⟨⟨some 4,.mv (.t 10),none⟩,[]⟩])
 .ret))
def z3m:Lay:=⟨11,[],false⟩
def z5y:List LRes:=[.t 4]
def zdu:LFn:=⟨3,z3m,z9o,z5y⟩
theorem zgi:vi Try.prog [] 32=some zdu:=by kernel_rfl
theorem zfl:Z6 Try.prog 32:=⟨_,Try.func32,rfl,rfl⟩
noncomputable def zn(m:Option Nat)(a0:Int)(a1:Int)(a2:Int)(a3:Int)(a4:Int)(a5:Int)(a6:List (G_QKey×(List G_QKey)))(a7:G_QKey):Option Bool:=
 (xa m ((lk zd a6 a7).getD []) (G_QKey.mk a3 a4 a5)).bind fun v1=>
 some v1
def znb(a0:Int)(a1:Int)(a2:Int)(a3:Int)(a4:Int)(a5:Int)(a6:List (G_QKey×(List G_QKey)))(a7:G_QKey)(o:Bool):Exit→Env→AHeap→Nat→Prop:=Yb z5y (Qh 3 4 (.bool o) [((1,0),.one [.map (3,0)]),((1,1),.one [.int .i64 a0,.int .i64 a1,.int .i64 a2,.int .i64 a3,.int .i64 a4,.int .i64 a5]),((3,0),.amap (a6.map (em za z8)))])
theorem z6n{a0:Int}{a1:Int}{a2:Int}{a3:Int}{a4:Int}{a5:Int}{a6:List (G_QKey×(List G_QKey))}{a7:G_QKey}{m:Option Nat}{o:Bool}(h:zn m a0 a1 a2 a3 a4 a5 a6 a7=some o):LWp Try.prog z3m 3 z9o (znb a0 a1 a2 a3 a4 a5 a6 a7 o) (yy 0 [.agg [.int .i64 a7.f_Kind,.int .i64 a7.f_A,.int .i64 a7.f_B],.ptr (1,0) 0 0,.ptr (1,1) 0 0]) [((1,0),.one [.map (2,0)]),((1,1),.one [.int .i64 a0,.int .i64 a1,.int .i64 a2,.int .i64 a3,.int .i64 a4,.int .i64 a5]),((2,0),.amap (a6.map (em za z8)))] 3:=by
 unfold zn at h
 refine zh ?_
 refine zy ?_
 refine zh ?_
 refine z04 rfl ?_
 refine Exists.intro (.isl 3 (((lk zd a6 a7).getD []).map z7) false) (And.intro (V1 (ek:=za) (ev:=z8) (z:=[]) xf rfl a7 a6) (And.intro (u7 (ek:=za) (ev:=z8) xf _ _) ?_))
 obtain⟨v1,h1,h⟩:=bind_some h
 refine PFn.call (zs6 h1) (And.intro (Vw.same _ rfl) (And.intro (Vw.same _ rfl) trivial)) ?_
 show Y2 _ _ _ [(10,.bool v1),(9,.agg [.int .i64 a3,.int .i64 a4,.int .i64 a5]),(8,.ptr (1,1) 0 3),(7,.isl 3 (((lk zd a6 a7).getD []).map z7) false),(6,.agg [.int .i64 a7.f_Kind,.int .i64 a7.f_A,.int .i64 a7.f_B]),(5,.map (2,0)),(4,.bool false),(3,.ptr (3,0) 0 0),(0,.agg [.int .i64 a7.f_Kind,.int .i64 a7.f_A,.int .i64 a7.f_B]),(1,.ptr (1,0) 0 0),(2,.ptr (1,1) 0 0)] _ _
 refine LWp.sim (e:=[(4,.bool v1)]) (L:=[((1,0),.one [.map (3,0)]),((1,1),.one [.int .i64 a0,.int .i64 a1,.int .i64 a2,.int .i64 a3,.int .i64 a4,.int .i64 a5]),((3,0),.amap (a6.map (em za z8)))]) (n:=4) ?_ ?_
 ·exact jw (M:=[((3,0),(2,0))]) rfl (And.intro (Vw.same _ rfl) trivial) (And.intro (And.intro rfl (BVw.oneL (And.intro (Vw.map _ _ rfl) trivial))) (And.intro (And.intro rfl (BVw.oneL (And.intro (Vw.same _ rfl) (And.intro (Vw.same _ rfl) (And.intro (Vw.same _ rfl) (And.intro (Vw.same _ rfl) (And.intro (Vw.same _ rfl) (And.intro (Vw.same _ rfl) trivial)))))))) (And.intro (And.intro rfl (BVw.ofMap za z8 zb a6)) trivial)))
 refine ua ?_
 cases h
 exact And.intro trivial (ziz (n':=4) [((3,0),(3,0))] [] rfl rfl (Vw.same _ rfl) (And.intro (And.intro rfl (BVw.oneL (And.intro (Vw.map _ _ rfl) trivial))) (And.intro (And.intro rfl (BVw.oneL (And.intro (Vw.same _ rfl) (And.intro (Vw.same _ rfl) (And.intro (Vw.same _ rfl) (And.intro (Vw.same _ rfl) (And.intro (Vw.same _ rfl) (And.intro (Vw.same _ rfl) trivial)))))))) (And.intro (And.intro rfl (BVw.ofMap za z8 zb a6)) trivial))))
theorem zjs{a0:Int}{a1:Int}{a2:Int}{a3:Int}{a4:Int}{a5:Int}{a6:List (G_QKey×(List G_QKey))}{a7:G_QKey}{m:Option Nat}{o:Bool}(h:zn m a0 a1 a2 a3 a4 a5 a6 a7=some o):ACalls Try.prog 32 [.agg [.int .i64 a7.f_Kind,.int .i64 a7.f_A,.int .i64 a7.f_B],.ptr (1,0) 0 0,.ptr (1,1) 0 0] [((1,0),.one [.map (2,0)]),((1,1),.one [.int .i64 a0,.int .i64 a1,.int .i64 a2,.int .i64 a3,.int .i64 a4,.int .i64 a5]),((2,0),.amap (a6.map (em za z8)))] 3 (ub 4 (.bool o) [((1,0),.one [.map (3,0)]),((1,1),.one [.int .i64 a0,.int .i64 a1,.int .i64 a2,.int .i64 a3,.int .i64 a4,.int .i64 a5]),((3,0),.amap (a6.map (em za z8)))]):=Yf (L:=zdu) zgi zfl (Nat.le_of_ble_eq_true rfl) (z6n h)
def z8l:LCode:=(.seq (.region [⟨some 4,.mv (.c (.bool false)),none⟩])
 (.seq (.region [⟨some 5,.mv (.t 0),none⟩,
  ⟨some 6,.mv (.t 1),none⟩,
  ⟨some 7,.call 25 [(.t 5),(.t 6)],none⟩,
  ⟨some 8,.bin .geq (.t 7) (.c (.int .i64 0)),none⟩,
  ⟨some 4,.mv (.t 8),none⟩])
 .ret))
def z5l:Lay:=⟨9,[],false⟩
def z5c:List LRes:=[.t 4]
def zd4:LFn:=⟨2,z5l,z8l,z5c⟩
theorem zg6:vi Try.prog [] 31=some zd4:=by kernel_rfl
theorem zir:Z6 Try.prog 31:=⟨_,Try.func31,rfl,rfl⟩
noncomputable def yn{σ:Type}(g0:σ→G_QKey→Option (Bool×σ))(m:Option Nat)(a0:List G_QKey)(z0:σ):Option (Bool×σ):=
 (zw g0 m a0 z0).bind fun v1=>
 some ((decide (v1.1≥0)),v1.2)
def zn2{σ:Type}(Hc:σ→AHeap)(fi0:Fn)(ff0 fc0:List AVal)(a0:List G_QKey)(z0:σ)(o:Bool×σ):Exit→Env→AHeap→Nat→Prop:=Yb z5c (Qh 3 4 (.bool o.1) ([]++up 3 (Hc o.2)))
theorem z6e{σ:Type}{Hc:σ→AHeap}{fi0:Fn}{ff0 fc0:List AVal}{g0:σ→G_QKey→Option (Bool×σ)}(hg0:Clo Try.prog fi0 ff0 fc0 Hc (fun(x:G_QKey)=>[.agg [.int .i64 x.f_Kind,.int .i64 x.f_A,.int .i64 x.f_B]]) (fun(b:Bool)=>.bool b) g0){a0:List G_QKey}{z0:σ}{m:Option Nat}{o:Bool×σ}(h:yn g0 m a0 z0=some o):LWp Try.prog z5l 3 z8l (zn2 Hc fi0 ff0 fc0 a0 z0 o) (yy 0 [.isl 3 (a0.map z7) false,.fn fi0 ff0 fc0]) ([]++Hc z0) 3:=by
 unfold yn at h
 refine LWp.sim (e:=[(0,.isl 3 (a0.map z7) false),(1,.fn fi0 ff0 fc0)]) (L:=([]++up 3 (Hc z0))) (n:=4) (zgv (T:=Hc z0) (e':=yy 0 [.isl 3 (a0.map z7) false,.fn fi0 ff0 fc0]) (e:=[(0,.isl 3 (a0.map z7) false),(1,.fn fi0 ff0 fc0)]) (lit':=[]) (lit:=[]) (hg0.tl z0) rfl rfl (And.intro (Vw.same _ rfl) (And.intro (Vw.clo hg0.hf hg0.hc (by decide) (zhc _)) trivial)) trivial) ?_
 refine zh ?_
 refine zy ?_
 refine zh ?_
 refine zy ?_
 obtain⟨v1,h1,h⟩:=bind_some h
 refine zlt (m:=1) (q:=3) (lit0:=[]) (lit:=[]) (L:=[]) (L':=[]) (rest:=[]) (R':=.int .i64 v1.1) (hg0.tl _) (hg0.tl _) [] (z9t hg0 h1) rfl rfl rfl rfl rfl rfl (And.intro (Vw.same _ rfl) (And.intro (Vw.clo hg0.hf hg0.hc (by decide) (z6d _ _)) trivial)) trivial (ki _ rfl) trivial rfl ?_
 refine ua ?_
 cases h
 exact And.intro trivial (zso (n':=6) (q:=4) (lit':=[]) (hg0.tl _) [] [] rfl rfl (Vw.same _ rfl) trivial)
theorem zkv{σ:Type}{Hc:σ→AHeap}{fi0:Fn}{ff0 fc0:List AVal}{g0:σ→G_QKey→Option (Bool×σ)}(hg0:Clo Try.prog fi0 ff0 fc0 Hc (fun(x:G_QKey)=>[.agg [.int .i64 x.f_Kind,.int .i64 x.f_A,.int .i64 x.f_B]]) (fun(b:Bool)=>.bool b) g0){a0:List G_QKey}{z0:σ}{m:Option Nat}{o:Bool×σ}(h:yn g0 m a0 z0=some o):ACalls Try.prog 31 [.isl 3 (a0.map z7) false,.fn fi0 ff0 fc0] ([]++Hc z0) 3 (ub 4 (.bool o.1) ([]++up 3 (Hc o.2))):=Yf (L:=zd4) zg6 zir (Nat.le_of_ble_eq_true rfl) (z6e hg0 h)
def zij:LCode:=(.seq (.region [⟨some 9,.bin .lss (.t 8) (.t 7),none⟩])
 (.seq (.cond (.t 9)
  .skip
  (.exit 0))
 (.seq (.block 1
  (.seq (.region [⟨some 10,.mv (.t 8),none⟩,
   ⟨some 5,.mv (.t 10),none⟩])
  (.seq (.quiet [⟨some 11,.load true 6 (.t 3),none⟩,
   ⟨some 12,.mv (.t 0),none⟩,
   ⟨some 13,.mv (.t 5),none⟩,
   ⟨some 14,.iaddr 6 (.t 12) (.t 13),none⟩,
   ⟨some 15,.load true 6 (.t 14),none⟩,
   ⟨some 16,.eq false (.agg [.int,.int,.int,.int,.int,.int]) (.t 11) (.t 15),none⟩])
  (.cond (.t 16)
   (.seq (.region [⟨some 17,.mv (.t 5),none⟩,
    ⟨some 4,.mv (.t 17),none⟩])
   .ret)
   .skip))))
 (.region [⟨some 18,.bin .add (.t 8) (.c (.int .i64 1)),none⟩,
  ⟨some 8,.mv (.t 18),none⟩]))))
def z9p:LCode:=(.seq (.region [⟨some 4,.mv (.c (.int .i64 (-1))),none⟩])
 .ret)
def zlz:LCode:=(.seq (.region [⟨some 3,.box (.t 1),none⟩,
 ⟨some 4,.mv (.c (.int .i64 0)),none⟩])
 (.seq (.seq (.region [⟨some 6,.mv (.t 0),none⟩,
  ⟨some 7,.len false (.t 6),none⟩,
  ⟨some 8,.mv (.c (.int .i64 0)),none⟩])
 (.block 0
  (.loop
   zij)))
 z9p))
def J7:Lay:=⟨19,[],false⟩
def zdo:List LRes:=[.t 4]
def zq1:LFn:=⟨2,J7,zlz,zdo⟩
theorem znu:vi Try.prog [] 44=some zq1:=by kernel_rfl
theorem znf:Z6 Try.prog 44:=⟨_,Try.func44,rfl,rfl⟩
def zka(a0:List G_QEdge)(a1:G_QEdge)(o:Int):Exit→Env→AHeap→Nat→Prop:=Yb zdo (wa (.int .i64 o))
def z1d(a0:List G_QEdge)(a1:G_QEdge)(s:Int):Env:=[(0,.isl 6 (a0.map z6) false),(3,.ptr (0,0) 0 0),(7,.int .i64 ((a0.map z6).length:Int)),(8,.int .i64 s)]
def z60(a0:List G_QEdge)(a1:G_QEdge)(s:Int):AHeap:=[((0,0),.one [.int .i64 a1.f_From.f_Kind,.int .i64 a1.f_From.f_A,.int .i64 a1.f_From.f_B,.int .i64 a1.f_To.f_Kind,.int .i64 a1.f_To.f_A,.int .i64 a1.f_To.f_B])]
def z9s(a0:List G_QEdge)(a1:G_QEdge)(o:Int):Exit→Env→AHeap→Nat→Prop:=(qp 0 (Z4 Try.prog J7 0 z9p (zka a0 a1 o)))
noncomputable def ww(m:Option Nat):Option Int:=
 some (-1)
noncomputable def jz(m:Option Nat)(a0:List G_QEdge)(a1:G_QEdge)(v1:Int):Option (Int ⊕ Int):=
 if(decide (v1<((a0.map z6).length:Int)))=true then
  if(0:Int)≤v1∧v1<((a0.map z6).length:Int) then
  if((a1.f_From.f_Kind==((a0.getD v1.toNat default).f_From).f_Kind)&&((a1.f_From.f_A==((a0.getD v1.toNat default).f_From).f_A)&&((a1.f_From.f_B==((a0.getD v1.toNat default).f_From).f_B)&&((a1.f_To.f_Kind==((a0.getD v1.toNat default).f_To).f_Kind)&&((a1.f_To.f_A==((a0.getD v1.toNat default).f_To).f_A)&&((a1.f_To.f_B==((a0.getD v1.toNat default).f_To).f_B)&&true))))))=true then
   Option.map Sum.inr (
    some v1)
  else
   some (.inl (W (v1+1)))
  else none
 else
  Option.map Sum.inr (
   ww m)
noncomputable def ke(m:Option Nat)(a0:List G_QEdge)(a1:G_QEdge)(v1:Int):Option Int:=ky m (fun(s:Int)=>jz m a0 a1 s) v1
theorem zhu{a0:List G_QEdge}{a1:G_QEdge}{m:Option Nat}{o:Int}(h:ww m=some o) :
 LWp Try.prog J7 0 z9p (zka a0 a1 o) [] [] 0:=by
 unfold ww at h
 refine zh ?_
 refine zy ?_
 refine ua ?_
 cases h
 exact And.intro trivial (And.intro rfl (Vw.same _ rfl))
theorem zbh{a0:List G_QEdge}{a1:G_QEdge}{v1:Int}{m:Option Nat}{o:Int ⊕ Int}(h:jz m a0 a1 v1=some o) :
 LWp Try.prog J7 0 zij (vp 0 1 (z1d a0 a1) (z60 a0 a1) (z9s a0 a1) o) [(0,.isl 6 (a0.map z6) false),(3,.ptr (0,0) 0 0),(7,.int .i64 ((a0.map z6).length:Int)),(8,.int .i64 v1)] [((0,0),.one [.int .i64 a1.f_From.f_Kind,.int .i64 a1.f_From.f_A,.int .i64 a1.f_From.f_B,.int .i64 a1.f_To.f_Kind,.int .i64 a1.f_To.f_A,.int .i64 a1.f_To.f_B])] 1:=by
 unfold jz at h
 refine zh ?_
 refine zy ?_
 refine zh ?_
 refine wc (v:=(decide (v1<((a0.map z6).length:Int)))) rfl trivial (fun h7=>?_) (fun h7=>?_)
 ·have h:=yt h7 h
  refine we ?_
  refine zh ?_
  refine jd ?_
  refine zh ?_
  refine zy ?_
  refine zh ?_
  refine z3g ?_
  obtain⟨h8,h⟩:=zu h
  refine And.intro h8 ?_
  show yqs _ _ [(14,.iptr 6 (a0.map z6) v1.toNat 0),(13,.int .i64 v1),(12,.isl 6 (a0.map z6) false),(11,.agg [.int .i64 a1.f_From.f_Kind,.int .i64 a1.f_From.f_A,.int .i64 a1.f_From.f_B,.int .i64 a1.f_To.f_Kind,.int .i64 a1.f_To.f_A,.int .i64 a1.f_To.f_B]),(5,.int .i64 v1),(10,.int .i64 v1),(9,.bool (decide (v1<((a0.map z6).length:Int)))),(0,.isl 6 (a0.map z6) false),(3,.ptr (0,0) 0 0),(7,.int .i64 ((a0.map z6).length:Int)),(8,.int .i64 v1)] _ _
  refine Exists.intro (z6 (a0.getD v1.toNat default)) (And.intro (je z6 _ _ (ws z6 h8)) (And.intro (And.intro (k9 h8) (Nat.le_of_ble_eq_true rfl)) ?_))
  refine LWp.sim (e:=[(0,.isl 6 (a0.map z6) false),(3,.ptr (0,0) 0 0),(5,.int .i64 v1),(7,.int .i64 ((a0.map z6).length:Int)),(8,.int .i64 v1),(16,.bool ((a1.f_From.f_Kind==((a0.getD v1.toNat default).f_From).f_Kind)&&((a1.f_From.f_A==((a0.getD v1.toNat default).f_From).f_A)&&((a1.f_From.f_B==((a0.getD v1.toNat default).f_From).f_B)&&((a1.f_To.f_Kind==((a0.getD v1.toNat default).f_To).f_Kind)&&((a1.f_To.f_A==((a0.getD v1.toNat default).f_To).f_A)&&((a1.f_To.f_B==((a0.getD v1.toNat default).f_To).f_B)&&true)))))))]) (L:=[((0,0),.one [.int .i64 a1.f_From.f_Kind,.int .i64 a1.f_From.f_A,.int .i64 a1.f_From.f_B,.int .i64 a1.f_To.f_Kind,.int .i64 a1.f_To.f_A,.int .i64 a1.f_To.f_B])]) (n:=1) ?_ ?_
  ·exact jw (M:=[((0,0),(0,0))]) rfl (And.intro (Vw.same _ rfl) (And.intro (Vw.ptr _ _ _ _ rfl) (And.intro (Vw.same _ rfl) (And.intro (Vw.same _ rfl) (And.intro (Vw.same _ rfl) (And.intro (Vw.same _ rfl) trivial)))))) (And.intro (And.intro rfl (BVw.oneL (And.intro (Vw.same _ rfl) (And.intro (Vw.same _ rfl) (And.intro (Vw.same _ rfl) (And.intro (Vw.same _ rfl) (And.intro (Vw.same _ rfl) (And.intro (Vw.same _ rfl) trivial)))))))) trivial)
  refine wc (v:=((a1.f_From.f_Kind==((a0.getD v1.toNat default).f_From).f_Kind)&&((a1.f_From.f_A==((a0.getD v1.toNat default).f_From).f_A)&&((a1.f_From.f_B==((a0.getD v1.toNat default).f_From).f_B)&&((a1.f_To.f_Kind==((a0.getD v1.toNat default).f_To).f_Kind)&&((a1.f_To.f_A==((a0.getD v1.toNat default).f_To).f_A)&&((a1.f_To.f_B==((a0.getD v1.toNat default).f_To).f_B)&&true))))))) rfl trivial (fun h9=>?_) (fun h9=>?_)
  ·have h:=yt h9 h
   refine zh ?_
   refine zy ?_
   refine ua ?_
   obtain⟨o,hq,rfl⟩:=Option.map_eq_some_iff.1 h
   replace h:=hq;clear hq
   refine And.intro nofun ?_
   cases h
   exact And.intro trivial (And.intro rfl (Vw.same _ rfl))
  ·have h:=qy h9 h
   refine we ?_
   refine zy ?_
   cases h
   exact And.intro rfl (jw (M:=[((0,0),(0,0))]) rfl (And.intro (Vw.same _ rfl) (And.intro (Vw.ptr _ _ _ _ rfl) (And.intro (Vw.same _ rfl) (And.intro (Vw.same _ rfl) trivial)))) (And.intro (And.intro rfl (BVw.oneL (And.intro (Vw.same _ rfl) (And.intro (Vw.same _ rfl) (And.intro (Vw.same _ rfl) (And.intro (Vw.same _ rfl) (And.intro (Vw.same _ rfl) (And.intro (Vw.same _ rfl) trivial)))))))) trivial))
 ·have h:=qy h7 h
  refine Z7 ?_
  obtain⟨o,hq,rfl⟩:=Option.map_eq_some_iff.1 h
  replace h:=hq;clear hq
  refine And.intro nofun ?_
  refine LWp.sim ?_ (zhu h)
  exact jw (M:=[]) rfl trivial trivial
theorem zf4{a0:List G_QEdge}{a1:G_QEdge}{v1:Int}{m:Option Nat}{o:Int}(h:ke m a0 a1 v1=some o) :
 LWp Try.prog J7 0 (.loop zij) (qp 0 (Z4 Try.prog J7 0 z9p (zka a0 a1 o))) [(0,.isl 6 (a0.map z6) false),(3,.ptr (0,0) 0 0),(7,.int .i64 ((a0.map z6).length:Int)),(8,.int .i64 v1)] [((0,0),.one [.int .i64 a1.f_From.f_Kind,.int .i64 a1.f_From.f_A,.int .i64 a1.f_From.f_B,.int .i64 a1.f_To.f_Kind,.int .i64 a1.f_To.f_A,.int .i64 a1.f_To.f_B])] 1:=
 j7 (m:=m) (s:=(v1:Int)) (r:=o) (fun(s:Int)=>jz m a0 a1 s) (z1d a0 a1) (z60 a0 a1) (z9s a0 a1) (fun s o h=>zbh h) h
noncomputable def wj(m:Option Nat)(a0:List G_QEdge)(a1:G_QEdge):Option Int:=
 ke m a0 a1 0
theorem zem{a0:List G_QEdge}{a1:G_QEdge}{m:Option Nat}{o:Int}(h:wj m a0 a1=some o):LWp Try.prog J7 0 zlz (zka a0 a1 o) (yy 0 [.isl 6 (a0.map z6) false,.agg [.int .i64 a1.f_From.f_Kind,.int .i64 a1.f_From.f_A,.int .i64 a1.f_From.f_B,.int .i64 a1.f_To.f_Kind,.int .i64 a1.f_To.f_A,.int .i64 a1.f_To.f_B]]) [] 0:=by
 unfold wj at h
 refine zh ?_
 refine zy ?_
 refine zh ?_
 refine zh ?_
 refine zy ?_
 refine jd ?_
 refine LWp.sim ?_ (zf4 h)
 exact jw (M:=[((0,0),(0,0))]) rfl (And.intro (Vw.same _ rfl) (And.intro (Vw.ptr _ _ _ _ rfl) (And.intro (Vw.same _ rfl) (And.intro (Vw.same _ rfl) trivial)))) (And.intro (And.intro rfl (BVw.oneL (And.intro (Vw.same _ rfl) (And.intro (Vw.same _ rfl) (And.intro (Vw.same _ rfl) (And.intro (Vw.same _ rfl) (And.intro (Vw.same _ rfl) (And.intro (Vw.same _ rfl) trivial)))))))) trivial)
theorem zqm{a0:List G_QEdge}{a1:G_QEdge}{m:Option Nat}{o:Int}(h:wj m a0 a1=some o):PFn Try.prog 44 [.isl 6 (a0.map z6) false,.agg [.int .i64 a1.f_From.f_Kind,.int .i64 a1.f_From.f_A,.int .i64 a1.f_From.f_B,.int .i64 a1.f_To.f_Kind,.int .i64 a1.f_To.f_A,.int .i64 a1.f_To.f_B]] (.int .i64 o):=PFn.ofFnW (L:=zq1) znu znf (Nat.le_of_ble_eq_true rfl) rfl (zem h)
def zm7:LCode:=(.seq (.region [⟨some 3,.box (.t 1),none⟩,
 ⟨some 4,.mv (.c (.bool false)),none⟩])
 (.seq (.region [⟨some 5,.mv (.t 0),none⟩,
  ⟨some 6,.load true 6 (.t 3),none⟩,
  ⟨some 7,.call 44 [(.t 5),(.t 6)],none⟩,
  ⟨some 8,.bin .geq (.t 7) (.c (.int .i64 0)),none⟩,
  ⟨some 4,.mv (.t 8),none⟩])
 .ret))
def zey:Lay:=⟨9,[],false⟩
def zcp:List LRes:=[.t 4]
def zru:LFn:=⟨2,zey,zm7,zcp⟩
theorem zpf:vi Try.prog [] 34=some zru:=by kernel_rfl
theorem znk:Z6 Try.prog 34:=⟨_,Try.func34,rfl,rfl⟩
noncomputable def j8(m:Option Nat)(a0:List G_QEdge)(a1:G_QEdge):Option Bool:=
 (wj m a0 (G_QEdge.mk (G_QKey.mk a1.f_From.f_Kind a1.f_From.f_A a1.f_From.f_B) (G_QKey.mk a1.f_To.f_Kind a1.f_To.f_A a1.f_To.f_B))).bind fun v1=>
 some (decide (v1≥0))
def zst(a0:List G_QEdge)(a1:G_QEdge)(o:Bool):Exit→Env→AHeap→Nat→Prop:=Yb zcp (wa (.bool o))
theorem zfv{a0:List G_QEdge}{a1:G_QEdge}{m:Option Nat}{o:Bool}(h:j8 m a0 a1=some o):LWp Try.prog zey 0 zm7 (zst a0 a1 o) (yy 0 [.isl 6 (a0.map z6) false,.agg [.int .i64 a1.f_From.f_Kind,.int .i64 a1.f_From.f_A,.int .i64 a1.f_From.f_B,.int .i64 a1.f_To.f_Kind,.int .i64 a1.f_To.f_A,.int .i64 a1.f_To.f_B]]) [] 0:=by
 unfold j8 at h
 refine zh ?_
 refine zy ?_
 refine zh ?_
 refine zy ?_
 obtain⟨v1,h1,h⟩:=bind_some h
 refine PFn.call (zqm h1) (And.intro (Vw.same _ rfl) (And.intro (Vw.same _ rfl) trivial)) ?_
 show Y2 _ _ _ [(7,.int .i64 v1),(6,.agg [.int .i64 a1.f_From.f_Kind,.int .i64 a1.f_From.f_A,.int .i64 a1.f_From.f_B,.int .i64 a1.f_To.f_Kind,.int .i64 a1.f_To.f_A,.int .i64 a1.f_To.f_B]),(5,.isl 6 (a0.map z6) false),(4,.bool false),(3,.ptr (0,0) 0 0),(0,.isl 6 (a0.map z6) false),(1,.agg [.int .i64 a1.f_From.f_Kind,.int .i64 a1.f_From.f_A,.int .i64 a1.f_From.f_B,.int .i64 a1.f_To.f_Kind,.int .i64 a1.f_To.f_A,.int .i64 a1.f_To.f_B])] _ _
 refine ua ?_
 cases h
 exact And.intro trivial (And.intro rfl (Vw.same _ rfl))
theorem zqj{a0:List G_QEdge}{a1:G_QEdge}{m:Option Nat}{o:Bool}(h:j8 m a0 a1=some o):PFn Try.prog 34 [.isl 6 (a0.map z6) false,.agg [.int .i64 a1.f_From.f_Kind,.int .i64 a1.f_From.f_A,.int .i64 a1.f_From.f_B,.int .i64 a1.f_To.f_Kind,.int .i64 a1.f_To.f_A,.int .i64 a1.f_To.f_B]] (.bool o):=PFn.ofFnW (L:=zru) zpf znk (Nat.le_of_ble_eq_true rfl) rfl (zfv h)
def zhx:LCode:=(.seq (.region [⟨some 31,.bin .lss (.t 30) (.t 29),none⟩])
 (.seq (.cond (.t 31)
  .skip
  (.exit 0))
 (.seq (.block 1
  (.seq (.region [⟨some 32,.iaddr 3 (.t 28) (.t 30),none⟩,
   ⟨some 33,.load true 3 (.t 32),none⟩,
   ⟨some 9,.alloc [(.int .i64 0),(.int .i64 0),(.int .i64 0)],none⟩,
   ⟨none,.store 3 (.t 9) (.t 33),none⟩])
  (.draw [⟨⟨some 34,.load false 1 (.t 7),none⟩,[]⟩,
   ⟨⟨some 35,.load true 3 (.t 9),none⟩,[]⟩,
   ⟨⟨some 36,.mv (.t 6),none⟩,[]⟩,
   ⟨⟨some 37,.load true 3 (.t 9),none⟩,[]⟩,
   ⟨⟨some 38,.call 22 [(.t 36),(.t 37)],none⟩,[0,1]⟩,
   ⟨⟨none,.mset [.int,.int,.int] true false [(.isl 3 [] true)] (.t 34) (.t 35) (.t 38),none⟩,[]⟩])))
 (.region [⟨some 39,.bin .add (.t 30) (.c (.int .i64 1)),none⟩,
  ⟨some 30,.mv (.t 39),none⟩]))))
def zmc:LCode:=(.region [⟨some 71,.bin .add (.t 46) (.c (.int .i64 1)),none⟩,
 ⟨some 46,.mv (.t 71),none⟩])
def zhg:LCode:=(.seq (.region [⟨some 47,.bin .lss (.t 46) (.t 45),none⟩])
 (.seq (.cond (.t 47)
  .skip
  (.exit 2))
 (.seq (.block 3
  (.seq (.region [⟨some 48,.iaddr 6 (.t 44) (.t 46),none⟩,
   ⟨some 49,.load true 6 (.t 48),none⟩,
   ⟨some 12,.alloc [(.int .i64 0),(.int .i64 0),(.int .i64 0),(.int .i64 0),(.int .i64 0),(.int .i64 0)],none⟩,
   ⟨none,.store 6 (.t 12) (.t 49),none⟩])
  (.seq (.draw [⟨⟨some 50,.mv (.t 6),none⟩,[]⟩,
   ⟨⟨some 51,.nilck (.t 50),none⟩,[]⟩,
   ⟨⟨some 52,.faddr 0 (.t 51),none⟩,[]⟩,
   ⟨⟨some 53,.load false 1 (.t 52),none⟩,[]⟩,
   ⟨⟨some 54,.faddr 0 (.t 12),none⟩,[]⟩,
   ⟨⟨some 55,.load true 3 (.t 54),none⟩,[]⟩,
   ⟨⟨some 56,.mlook [.int,.int,.int] true false false [(.isl 3 [] true)] (.t 53) (.t 55),none⟩,[]⟩,
   ⟨⟨some 57,.mkfn (.func 32) [] [(.t 7),(.t 12)],none⟩,[]⟩,
   ⟨⟨some 58,.call 31 [(.t 56),(.t 57)],none⟩,[]⟩,
   ⟨⟨some 13,.mv (.t 58),none⟩,[]⟩])
  (.seq (.region [⟨some 59,.mv (.t 13),none⟩,
   ⟨some 60,.un .not (.t 59),none⟩,
   ⟨some 61,.mv (.t 60),none⟩,
   ⟨some 62,.mv (.t 10),some (61,true)⟩,
   ⟨some 63,.load true 6 (.t 12),some (61,true)⟩,
   ⟨some 64,.call 34 [(.t 62),(.t 63)],some (61,true)⟩,
   ⟨some 65,.un .not (.t 64),some (61,true)⟩,
   ⟨some 66,.pick (.t 61) (.t 65) (.c (.bool false)),none⟩])
  (.cond (.t 66)
   (.region [⟨some 67,.mv (.t 10),none⟩,
    ⟨some 68,.load true 6 (.t 12),none⟩,
    ⟨some 69,.mkSl true 6 [(.int .i64 0),(.int .i64 0),(.int .i64 0),(.int .i64 0),(.int .i64 0),(.int .i64 0)] 1 [(0,(.t 68))],none⟩,
    ⟨some 70,.app true 6 48 (.t 67) (.t 69),none⟩,
    ⟨some 10,.mv (.t 70),none⟩])
   .skip)))))
 zmc)))
def za0:LCode:=(.seq (.region [⟨some 72,.mv (.t 10),none⟩,
 ⟨some 2,.mv (.t 72),none⟩,
 ⟨some 3,.mv (.c (.int .i64 0)),none⟩])
 .ret)
def z8z:LCode:=(.seq (.region [⟨some 10,.mv (.c (.val (.slice none 0 0))),none⟩])
 (.seq (.seq (.region [⟨some 40,.mv (.t 0),none⟩,
  ⟨some 41,.mv (.t 0),none⟩,
  ⟨some 42,.len false (.t 41),none⟩,
  ⟨some 43,.mnx false [(.t 42),(.c (.int .i64 400))],none⟩,
  ⟨some 44,.slSl 6 (.t 40) none (some (.t 43)) none,none⟩,
  ⟨some 45,.len false (.t 44),none⟩,
  ⟨some 46,.mv (.c (.int .i64 0)),none⟩])
 (.block 2
  (.loop
   zhg)))
 za0))
def zmd:LCode:=(.seq (.region [⟨some 2,.mv (.c (.val (.slice none 0 0))),none⟩,
 ⟨some 3,.mv (.c (.int .i64 0)),none⟩])
 (.seq (.seq (.region [⟨some 15,.mv (.t 0),none⟩,
  ⟨some 16,.call 13 [(.t 15)],none⟩,
  ⟨some 14,.mv (.t 16),none⟩,
  ⟨some 17,.ext 0 (.t 14),none⟩,
  ⟨some 18,.ext 1 (.t 14),none⟩,
  ⟨some 4,.mv (.t 17),none⟩,
  ⟨some 5,.mv (.t 18),none⟩])
 (.seq (.region [⟨some 19,.mv (.t 5),none⟩,
  ⟨some 20,.bin .neq (.t 19) (.c (.int .i64 0)),none⟩])
 (.cond (.t 20)
  (.seq (.region [⟨some 21,.mv (.t 5),none⟩,
   ⟨some 2,.mv (.c (.val (.slice none 0 0))),none⟩,
   ⟨some 3,.mv (.t 21),none⟩])
  .ret)
  .skip)))
 (.seq (.region [⟨some 22,.mv (.t 0),none⟩,
  ⟨some 23,.call 21 [(.t 22),(.c (.bool false))],none⟩,
  ⟨some 6,.mv (.t 23),none⟩])
 (.seq (.region [⟨some 24,.mkmap none,none⟩,
  ⟨some 7,.alloc [(.val (.map none))],none⟩,
  ⟨none,.store 1 (.t 7) (.t 24),none⟩])
 (.seq (.seq (.region [⟨some 25,.mv (.t 6),none⟩,
  ⟨some 26,.nilck (.t 25),none⟩,
  ⟨some 27,.faddr 1 (.t 26),none⟩,
  ⟨some 28,.load false 1 (.t 27),none⟩,
  ⟨some 29,.len false (.t 28),none⟩,
  ⟨some 30,.mv (.c (.int .i64 0)),none⟩])
 (.block 0
  (.loop
   zhx)))
 z8z)))))
def ux:Lay:=⟨73,[],false⟩
def zhj:List LRes:=[.t 2,.t 3]
def zrq:LFn:=⟨1,ux,zmd,zhj⟩
theorem zoc:vi Try.prog [] 18=some zrq:=by kernel_rfl
theorem zox:Z6 Try.prog 18:=⟨_,Try.func18,rfl,rfl⟩
def z75(a0:List G_QEdge)(o:(List G_QEdge)×Int):Exit→Env→AHeap→Nat→Prop:=Yb zhj (wa (.tup [.isl 6 (o.1.map z6) false,.int .i64 o.2]))
def z0i(a0:List G_QEdge)(v2:(List G_QKey)×(List (G_QKey×(List G_QKey))))(s:(Int×(List (G_QKey×(List G_QKey))))):Env:=[(0,.isl 6 (a0.map z6) false),(6,.ptr (0,0) 0 0),(7,.ptr (1,0) 0 0),(28,.isl 3 (v2.1.map z7) false),(29,.int .i64 ((v2.1.map z7).length:Int)),(30,.int .i64 s.1)]
def z3t(a0:List G_QEdge)(v2:(List G_QKey)×(List (G_QKey×(List G_QKey))))(s:(Int×(List (G_QKey×(List G_QKey))))):AHeap:=[((0,0),.one [.map (2,0),.isl 3 (v2.1.map z7) false]),((1,0),.one [.map (3,0)]),((2,0),.amap (v2.2.map (em za z8))),((3,0),.amap (s.2.map (em za z8)))]
def z8x(a0:List G_QEdge)(o:((List G_QEdge)×Int)):Exit→Env→AHeap→Nat→Prop:=(qp 0 (Z4 Try.prog ux 0 z8z (z75 a0 o)))
noncomputable def qj(m:Option Nat)(a0:List G_QEdge)(v2:(List G_QKey)×(List (G_QKey×(List G_QKey))))(v5:List (G_QKey×(List G_QKey)))(v12:Int)(v18:List G_QEdge):Option (((List G_QEdge)×Int) ⊕ ((List G_QEdge)×Int)):=
 some (.inl (v18,(W (v12+1))))
noncomputable def xu(m:Option Nat)(v11:List G_QEdge):Option ((List G_QEdge)×Int):=
 some (v11,0)
noncomputable def y3(m:Option Nat)(a0:List G_QEdge)(v2:(List G_QKey)×(List (G_QKey×(List G_QKey))))(v5:List (G_QKey×(List G_QKey)))(v11:List G_QEdge)(v12:Int):Option (((List G_QEdge)×Int) ⊕ ((List G_QEdge)×Int)):=
 if(decide (v12<(((a0.take (if 400<((a0.map z6).length:Int) then 400 else((a0.map z6).length:Int)).toNat).map z6).length:Int)))=true then
  if(0:Int)≤v12∧v12<(((a0.take (if 400<((a0.map z6).length:Int) then 400 else((a0.map z6).length:Int)).toNat).map z6).length:Int) then
  (yn (fun(s:Unit) (x:G_QKey)=>(zn m ((((a0.take (if 400<((a0.map z6).length:Int) then 400 else((a0.map z6).length:Int)).toNat).getD v12.toNat default).f_From).f_Kind) ((((a0.take (if 400<((a0.map z6).length:Int) then 400 else((a0.map z6).length:Int)).toNat).getD v12.toNat default).f_From).f_A) ((((a0.take (if 400<((a0.map z6).length:Int) then 400 else((a0.map z6).length:Int)).toNat).getD v12.toNat default).f_From).f_B) ((((a0.take (if 400<((a0.map z6).length:Int) then 400 else((a0.map z6).length:Int)).toNat).getD v12.toNat default).f_To).f_Kind) ((((a0.take (if 400<((a0.map z6).length:Int) then 400 else((a0.map z6).length:Int)).toNat).getD v12.toNat default).f_To).f_A) ((((a0.take (if 400<((a0.map z6).length:Int) then 400 else((a0.map z6).length:Int)).toNat).getD v12.toNat default).f_To).f_B) v5 x).map fun o=>(o,())) m ((lk zd v2.2 (G_QKey.mk ((((a0.take (if 400<((a0.map z6).length:Int) then 400 else((a0.map z6).length:Int)).toNat).getD v12.toNat default).f_From).f_Kind) ((((a0.take (if 400<((a0.map z6).length:Int) then 400 else((a0.map z6).length:Int)).toNat).getD v12.toNat default).f_From).f_A) ((((a0.take (if 400<((a0.map z6).length:Int) then 400 else((a0.map z6).length:Int)).toNat).getD v12.toNat default).f_From).f_B))).getD []) ()).bind fun v16=>
  (if((!v16.1)==true)=true then j8 m v11 (G_QEdge.mk (G_QKey.mk ((((a0.take (if 400<((a0.map z6).length:Int) then 400 else((a0.map z6).length:Int)).toNat).getD v12.toNat default).f_From).f_Kind) ((((a0.take (if 400<((a0.map z6).length:Int) then 400 else((a0.map z6).length:Int)).toNat).getD v12.toNat default).f_From).f_A) ((((a0.take (if 400<((a0.map z6).length:Int) then 400 else((a0.map z6).length:Int)).toNat).getD v12.toNat default).f_From).f_B)) (G_QKey.mk ((((a0.take (if 400<((a0.map z6).length:Int) then 400 else((a0.map z6).length:Int)).toNat).getD v12.toNat default).f_To).f_Kind) ((((a0.take (if 400<((a0.map z6).length:Int) then 400 else((a0.map z6).length:Int)).toNat).getD v12.toNat default).f_To).f_A) ((((a0.take (if 400<((a0.map z6).length:Int) then 400 else((a0.map z6).length:Int)).toNat).getD v12.toNat default).f_To).f_B))) else some default).bind fun v17=>
  if((!v16.1)&&(!v17))=true then
   if((v11++([(G_QEdge.mk (G_QKey.mk ((((a0.take (if 400<((a0.map z6).length:Int) then 400 else((a0.map z6).length:Int)).toNat).getD v12.toNat default).f_From).f_Kind) ((((a0.take (if 400<((a0.map z6).length:Int) then 400 else((a0.map z6).length:Int)).toNat).getD v12.toNat default).f_From).f_A) ((((a0.take (if 400<((a0.map z6).length:Int) then 400 else((a0.map z6).length:Int)).toNat).getD v12.toNat default).f_From).f_B)) (G_QKey.mk ((((a0.take (if 400<((a0.map z6).length:Int) then 400 else((a0.map z6).length:Int)).toNat).getD v12.toNat default).f_To).f_Kind) ((((a0.take (if 400<((a0.map z6).length:Int) then 400 else((a0.map z6).length:Int)).toNat).getD v12.toNat default).f_To).f_A) ((((a0.take (if 400<((a0.map z6).length:Int) then 400 else((a0.map z6).length:Int)).toNat).getD v12.toNat default).f_To).f_B)))]:List G_QEdge)).map z6).length*48≤140737488355328 then
   qj m a0 v2 v5 v12 (v11++([(G_QEdge.mk (G_QKey.mk ((((a0.take (if 400<((a0.map z6).length:Int) then 400 else((a0.map z6).length:Int)).toNat).getD v12.toNat default).f_From).f_Kind) ((((a0.take (if 400<((a0.map z6).length:Int) then 400 else((a0.map z6).length:Int)).toNat).getD v12.toNat default).f_From).f_A) ((((a0.take (if 400<((a0.map z6).length:Int) then 400 else((a0.map z6).length:Int)).toNat).getD v12.toNat default).f_From).f_B)) (G_QKey.mk ((((a0.take (if 400<((a0.map z6).length:Int) then 400 else((a0.map z6).length:Int)).toNat).getD v12.toNat default).f_To).f_Kind) ((((a0.take (if 400<((a0.map z6).length:Int) then 400 else((a0.map z6).length:Int)).toNat).getD v12.toNat default).f_To).f_A) ((((a0.take (if 400<((a0.map z6).length:Int) then 400 else((a0.map z6).length:Int)).toNat).getD v12.toNat default).f_To).f_B)))]:List G_QEdge))
   else none
  else
   qj m a0 v2 v5 v12 v11
  else none
 else
  Option.map Sum.inr (
   xu m v11)
noncomputable def qo(m:Option Nat)(a0:List G_QEdge)(v2:(List G_QKey)×(List (G_QKey×(List G_QKey))))(v5:List (G_QKey×(List G_QKey)))(v11:List G_QEdge)(v12:Int):Option ((List G_QEdge)×Int):=ky m (fun(s:((List G_QEdge)×Int))=>y3 m a0 v2 v5 s.1 s.2) (v11,v12)
noncomputable def qk(m:Option Nat)(a0:List G_QEdge)(v2:(List G_QKey)×(List (G_QKey×(List G_QKey))))(v5:List (G_QKey×(List G_QKey))):Option ((List G_QEdge)×Int):=
 if(0:Int)≤(if 400<((a0.map z6).length:Int) then 400 else((a0.map z6).length:Int))∧(if 400<((a0.map z6).length:Int) then 400 else((a0.map z6).length:Int))≤((a0.map z6).length:Int) then
 qo m a0 v2 v5 [] 0
 else none
noncomputable def yl(m:Option Nat)(a0:List G_QEdge)(v2:(List G_QKey)×(List (G_QKey×(List G_QKey))))(v4:Int)(v5:List (G_QKey×(List G_QKey))):Option ((Int×(List (G_QKey×(List G_QKey)))) ⊕ ((List G_QEdge)×Int)):=
 if(decide (v4<((v2.1.map z7).length:Int)))=true then
  if(0:Int)≤v4∧v4<((v2.1.map z7).length:Int) then
  (zp m (G_QKey.mk ((v2.1.getD v4.toNat default).f_Kind) ((v2.1.getD v4.toNat default).f_A) ((v2.1.getD v4.toNat default).f_B)) v2.1 v2.2).bind fun v7=>
  some (.inl ((W (v4+1)),(mp zd v5 (G_QKey.mk ((v2.1.getD v4.toNat default).f_Kind) ((v2.1.getD v4.toNat default).f_A) ((v2.1.getD v4.toNat default).f_B)) v7)))
  else none
 else
  Option.map Sum.inr (
   qk m a0 v2 v5)
noncomputable def qm(m:Option Nat)(a0:List G_QEdge)(v2:(List G_QKey)×(List (G_QKey×(List G_QKey))))(v4:Int)(v5:List (G_QKey×(List G_QKey))):Option ((List G_QEdge)×Int):=ky m (fun(s:(Int×(List (G_QKey×(List G_QKey)))))=>yl m a0 v2 s.1 s.2) (v4,v5)
def Wf(a0:List G_QEdge)(v2:(List G_QKey)×(List (G_QKey×(List G_QKey))))(v5:List (G_QKey×(List G_QKey)))(s:((List G_QEdge)×Int)):Env:=[(6,.ptr (0,0) 0 0),(7,.ptr (1,0) 0 0),(10,.osl (2,0) 6 (s.1.map z6)),(44,.isl 6 ((a0.take (if 400<((a0.map z6).length:Int) then 400 else((a0.map z6).length:Int)).toNat).map z6) false),(45,.int .i64 (((a0.take (if 400<((a0.map z6).length:Int) then 400 else((a0.map z6).length:Int)).toNat).map z6).length:Int)),(46,.int .i64 s.2)]
def Ui(a0:List G_QEdge)(v2:(List G_QKey)×(List (G_QKey×(List G_QKey))))(v5:List (G_QKey×(List G_QKey)))(s:((List G_QEdge)×Int)):AHeap:=[((0,0),.one [.map (3,0),.isl 3 (v2.1.map z7) false]),((1,0),.one [.map (4,0)]),((2,0),.tok),((3,0),.amap (v2.2.map (em za z8))),((4,0),.amap (v5.map (em za z8)))]
def z1n(a0:List G_QEdge)(o:((List G_QEdge)×Int)):Exit→Env→AHeap→Nat→Prop:=(qp 2 (Z4 Try.prog ux 0 za0 (z75 a0 o)))
theorem z4m{a0:List G_QEdge}{v2:(List G_QKey)×(List (G_QKey×(List G_QKey)))}{v5:List (G_QKey×(List G_QKey))}{v12:Int}{v18:List G_QEdge}{m:Option Nat}{o:(((List G_QEdge)×Int) ⊕ ((List G_QEdge)×Int))}(h:qj m a0 v2 v5 v12 v18=some o) :
 LWp Try.prog ux 0 zmc (vp 0 5 (Wf a0 v2 v5) (Ui a0 v2 v5) (z1n a0) o) [(6,.ptr (0,0) 0 0),(7,.ptr (1,0) 0 0),(10,.osl (2,0) 6 (v18.map z6)),(44,.isl 6 ((a0.take (if 400<((a0.map z6).length:Int) then 400 else((a0.map z6).length:Int)).toNat).map z6) false),(45,.int .i64 (((a0.take (if 400<((a0.map z6).length:Int) then 400 else((a0.map z6).length:Int)).toNat).map z6).length:Int)),(46,.int .i64 v12)] [((0,0),.one [.map (3,0),.isl 3 (v2.1.map z7) false]),((1,0),.one [.map (4,0)]),((2,0),.tok),((3,0),.amap (v2.2.map (em za z8))),((4,0),.amap (v5.map (em za z8)))] 5:=by
 unfold qj at h
 refine zy ?_
 cases h
 exact And.intro rfl (jw (M:=[((0,0),(0,0)),((1,0),(1,0)),((2,0),(2,0)),((3,0),(3,0)),((4,0),(4,0))]) rfl (And.intro (Vw.ptr _ _ _ _ rfl) (And.intro (Vw.ptr _ _ _ _ rfl) (And.intro (Vw.osl _ _ _ _ rfl) (And.intro (Vw.same _ rfl) (And.intro (Vw.same _ rfl) (And.intro (Vw.same _ rfl) trivial)))))) (And.intro (And.intro rfl (BVw.oneL (And.intro (Vw.map _ _ rfl) (And.intro (Vw.same _ rfl) trivial)))) (And.intro (And.intro rfl (BVw.oneL (And.intro (Vw.map _ _ rfl) trivial))) (And.intro (And.intro rfl BVw.tok) (And.intro (And.intro rfl (BVw.ofMap za z8 zb v2.2)) (And.intro (And.intro rfl (BVw.ofMap za z8 zb v5)) trivial))))))
theorem ze8{a0:List G_QEdge}{v11:List G_QEdge}{m:Option Nat}{o:((List G_QEdge)×Int)}(h:xu m v11=some o) :
 LWp Try.prog ux 0 za0 (z75 a0 o) [(10,.osl (0,0) 6 (v11.map z6))] [((0,0),.tok)] 1:=by
 unfold xu at h
 refine zh ?_
 refine zy ?_
 refine ua ?_
 cases h
 exact And.intro trivial (And.intro trivial (And.intro rfl (Vw.tupL (And.intro (Vw.oslI _ _ _) (And.intro (Vw.same _ rfl) trivial)))))
theorem zb9{a0:List G_QEdge}{v2:(List G_QKey)×(List (G_QKey×(List G_QKey)))}{v5:List (G_QKey×(List G_QKey))}{v11:List G_QEdge}{v12:Int}{m:Option Nat}{o:((List G_QEdge)×Int) ⊕ ((List G_QEdge)×Int)}(h:y3 m a0 v2 v5 v11 v12=some o) :
 LWp Try.prog ux 0 zhg (vp 0 5 (Wf a0 v2 v5) (Ui a0 v2 v5) (z1n a0) o) [(6,.ptr (0,0) 0 0),(7,.ptr (1,0) 0 0),(10,.osl (2,0) 6 (v11.map z6)),(44,.isl 6 ((a0.take (if 400<((a0.map z6).length:Int) then 400 else((a0.map z6).length:Int)).toNat).map z6) false),(45,.int .i64 (((a0.take (if 400<((a0.map z6).length:Int) then 400 else((a0.map z6).length:Int)).toNat).map z6).length:Int)),(46,.int .i64 v12)] [((0,0),.one [.map (3,0),.isl 3 (v2.1.map z7) false]),((1,0),.one [.map (4,0)]),((2,0),.tok),((3,0),.amap (v2.2.map (em za z8))),((4,0),.amap (v5.map (em za z8)))] 5:=by
 unfold y3 at h
 refine zh ?_
 refine zy ?_
 refine zh ?_
 refine wc (v:=(decide (v12<(((a0.take (if 400<((a0.map z6).length:Int) then 400 else((a0.map z6).length:Int)).toNat).map z6).length:Int)))) rfl trivial (fun h26=>?_) (fun h26=>?_)
 ·have h:=yt h26 h
  refine we ?_
  refine zh ?_
  refine jd ?_
  refine zh ?_
  refine zy ?_
  obtain⟨h27,h⟩:=zu h
  refine And.intro h27 ?_
  refine Exists.intro (z6 ((a0.take (if 400<((a0.map z6).length:Int) then 400 else((a0.map z6).length:Int)).toNat).getD v12.toNat default)) (And.intro (je z6 _ _ (ws z6 h27)) (And.intro (And.intro (k9 h27) (Nat.le_of_ble_eq_true rfl)) ?_))
  refine zh ?_
  refine z04 rfl ?_
  refine Exists.intro (.isl 3 (((lk zd v2.2 (G_QKey.mk ((((a0.take (if 400<((a0.map z6).length:Int) then 400 else((a0.map z6).length:Int)).toNat).getD v12.toNat default).f_From).f_Kind) ((((a0.take (if 400<((a0.map z6).length:Int) then 400 else((a0.map z6).length:Int)).toNat).getD v12.toNat default).f_From).f_A) ((((a0.take (if 400<((a0.map z6).length:Int) then 400 else((a0.map z6).length:Int)).toNat).getD v12.toNat default).f_From).f_B))).getD []).map z7) false) (And.intro (V1 (ek:=za) (ev:=z8) (z:=[]) xf rfl (G_QKey.mk ((((a0.take (if 400<((a0.map z6).length:Int) then 400 else((a0.map z6).length:Int)).toNat).getD v12.toNat default).f_From).f_Kind) ((((a0.take (if 400<((a0.map z6).length:Int) then 400 else((a0.map z6).length:Int)).toNat).getD v12.toNat default).f_From).f_A) ((((a0.take (if 400<((a0.map z6).length:Int) then 400 else((a0.map z6).length:Int)).toNat).getD v12.toNat default).f_From).f_B)) v2.2) (And.intro (u7 (ek:=za) (ev:=z8) xf _ _) ?_))
  obtain⟨v16,h28,h⟩:=bind_some h
  refine Y8 (k:=3) (m:=1) (L':=[((1,0),.one [.map (6,0)]),((5,0),.one [.int .i64 ((((a0.take (if 400<((a0.map z6).length:Int) then 400 else((a0.map z6).length:Int)).toNat).getD v12.toNat default).f_From).f_Kind),.int .i64 ((((a0.take (if 400<((a0.map z6).length:Int) then 400 else((a0.map z6).length:Int)).toNat).getD v12.toNat default).f_From).f_A),.int .i64 ((((a0.take (if 400<((a0.map z6).length:Int) then 400 else((a0.map z6).length:Int)).toNat).getD v12.toNat default).f_From).f_B),.int .i64 ((((a0.take (if 400<((a0.map z6).length:Int) then 400 else((a0.map z6).length:Int)).toNat).getD v12.toNat default).f_To).f_Kind),.int .i64 ((((a0.take (if 400<((a0.map z6).length:Int) then 400 else((a0.map z6).length:Int)).toNat).getD v12.toNat default).f_To).f_A),.int .i64 ((((a0.take (if 400<((a0.map z6).length:Int) then 400 else((a0.map z6).length:Int)).toNat).getD v12.toNat default).f_To).f_B)]),((6,0),.amap (v5.map (em za z8)))]) (rest:=[((0,0),.one [.map (3,0),.isl 3 (v2.1.map z7) false]),((2,0),.tok),((3,0),.amap (v2.2.map (em za z8)))]) (R':=.bool v16.1) [((1,0),(1,0)),((1,1),(5,0)),((2,0),(4,0))] (zkv (show Clo Try.prog (.func 32) [] [.ptr (1,0) 0 0,.ptr (1,1) 0 0] (fun(s:Unit)=>[((1,0),.one [.map (2,0)]),((1,1),.one [.int .i64 ((((a0.take (if 400<((a0.map z6).length:Int) then 400 else((a0.map z6).length:Int)).toNat).getD v12.toNat default).f_From).f_Kind),.int .i64 ((((a0.take (if 400<((a0.map z6).length:Int) then 400 else((a0.map z6).length:Int)).toNat).getD v12.toNat default).f_From).f_A),.int .i64 ((((a0.take (if 400<((a0.map z6).length:Int) then 400 else((a0.map z6).length:Int)).toNat).getD v12.toNat default).f_From).f_B),.int .i64 ((((a0.take (if 400<((a0.map z6).length:Int) then 400 else((a0.map z6).length:Int)).toNat).getD v12.toNat default).f_To).f_Kind),.int .i64 ((((a0.take (if 400<((a0.map z6).length:Int) then 400 else((a0.map z6).length:Int)).toNat).getD v12.toNat default).f_To).f_A),.int .i64 ((((a0.take (if 400<((a0.map z6).length:Int) then 400 else((a0.map z6).length:Int)).toNat).getD v12.toNat default).f_To).f_B)]),((2,0),.amap (v5.map (em za z8)))]) (fun(x:G_QKey)=>[.agg [.int .i64 x.f_Kind,.int .i64 x.f_A,.int .i64 x.f_B]]) (fun(b:Bool)=>.bool b) (fun(s:Unit) (x:G_QKey)=>(zn m ((((a0.take (if 400<((a0.map z6).length:Int) then 400 else((a0.map z6).length:Int)).toNat).getD v12.toNat default).f_From).f_Kind) ((((a0.take (if 400<((a0.map z6).length:Int) then 400 else((a0.map z6).length:Int)).toNat).getD v12.toNat default).f_From).f_A) ((((a0.take (if 400<((a0.map z6).length:Int) then 400 else((a0.map z6).length:Int)).toNat).getD v12.toNat default).f_From).f_B) ((((a0.take (if 400<((a0.map z6).length:Int) then 400 else((a0.map z6).length:Int)).toNat).getD v12.toNat default).f_To).f_Kind) ((((a0.take (if 400<((a0.map z6).length:Int) then 400 else((a0.map z6).length:Int)).toNat).getD v12.toNat default).f_To).f_A) ((((a0.take (if 400<((a0.map z6).length:Int) then 400 else((a0.map z6).length:Int)).toNat).getD v12.toNat default).f_To).f_B) v5 x).map fun o=>(o,())) from Clo.mk' (fun s=>Tl.lit rfl (And.intro (rfl) (And.intro (rfl) (And.intro (z6m za z8 qu zb _) trivial))) rfl) rfl rfl (fun _=>rfl) (fun s x o h=>by obtain⟨o1,h1,rfl⟩:=Option.map_eq_some_iff.1 h;exact Exists.intro _ (And.intro (zjs h1) (And.intro rfl (And.intro rfl (And.intro rfl (And.intro rfl (And.intro rfl (And.intro (ve za z8 qu zb _) trivial))))))))) h28) rfl rfl rfl (And.intro (Vw.same _ rfl) (And.intro (Vw.fnL trivial (And.intro (Vw.ptr _ _ _ _ rfl) (And.intro (Vw.ptr _ _ _ _ rfl) trivial))) trivial)) (And.intro (h0I (1,0) rfl rfl (BVw.oneL (And.intro (Vw.map _ _ rfl) trivial))) (And.intro (h0I (5,0) rfl rfl (BVw.oneL (And.intro (Vw.same _ rfl) (And.intro (Vw.same _ rfl) (And.intro (Vw.same _ rfl) (And.intro (Vw.same _ rfl) (And.intro (Vw.same _ rfl) (And.intro (Vw.same _ rfl) trivial)))))))) (And.intro (h0I (4,0) rfl rfl (BVw.ofMap za z8 zb v5)) trivial))) (ki _ rfl) (And.intro rfl (And.intro rfl (And.intro rfl (And.intro rfl (And.intro rfl (And.intro ((congrArg (ABlock.ren _) (ve za z8 qu zb _)).trans (ve za z8 qu zb _)) trivial)))))) rfl ?_
  show Y2 _ _ _ [(58,.bool v16.1),(57,.fn (.func 32) [] [.ptr (1,0) 0 0,.ptr (5,0) 0 0]),(56,.isl 3 (((lk zd v2.2 (G_QKey.mk ((((a0.take (if 400<((a0.map z6).length:Int) then 400 else((a0.map z6).length:Int)).toNat).getD v12.toNat default).f_From).f_Kind) ((((a0.take (if 400<((a0.map z6).length:Int) then 400 else((a0.map z6).length:Int)).toNat).getD v12.toNat default).f_From).f_A) ((((a0.take (if 400<((a0.map z6).length:Int) then 400 else((a0.map z6).length:Int)).toNat).getD v12.toNat default).f_From).f_B))).getD []).map z7) false),(55,.agg [.int .i64 ((((a0.take (if 400<((a0.map z6).length:Int) then 400 else((a0.map z6).length:Int)).toNat).getD v12.toNat default).f_From).f_Kind),.int .i64 ((((a0.take (if 400<((a0.map z6).length:Int) then 400 else((a0.map z6).length:Int)).toNat).getD v12.toNat default).f_From).f_A),.int .i64 ((((a0.take (if 400<((a0.map z6).length:Int) then 400 else((a0.map z6).length:Int)).toNat).getD v12.toNat default).f_From).f_B)]),(54,.ptr (5,0) 0 0),(53,.map (3,0)),(52,.ptr (0,0) 0 0),(51,.ptr (0,0) 0 0),(50,.ptr (0,0) 0 0),(12,.ptr (5,0) 0 0),(49,.agg [.int .i64 ((((a0.take (if 400<((a0.map z6).length:Int) then 400 else((a0.map z6).length:Int)).toNat).getD v12.toNat default).f_From).f_Kind),.int .i64 ((((a0.take (if 400<((a0.map z6).length:Int) then 400 else((a0.map z6).length:Int)).toNat).getD v12.toNat default).f_From).f_A),.int .i64 ((((a0.take (if 400<((a0.map z6).length:Int) then 400 else((a0.map z6).length:Int)).toNat).getD v12.toNat default).f_From).f_B),.int .i64 ((((a0.take (if 400<((a0.map z6).length:Int) then 400 else((a0.map z6).length:Int)).toNat).getD v12.toNat default).f_To).f_Kind),.int .i64 ((((a0.take (if 400<((a0.map z6).length:Int) then 400 else((a0.map z6).length:Int)).toNat).getD v12.toNat default).f_To).f_A),.int .i64 ((((a0.take (if 400<((a0.map z6).length:Int) then 400 else((a0.map z6).length:Int)).toNat).getD v12.toNat default).f_To).f_B)]),(48,.iptr 6 ((a0.take (if 400<((a0.map z6).length:Int) then 400 else((a0.map z6).length:Int)).toNat).map z6) v12.toNat 0),(47,.bool (decide (v12<(((a0.take (if 400<((a0.map z6).length:Int) then 400 else((a0.map z6).length:Int)).toNat).map z6).length:Int)))),(6,.ptr (0,0) 0 0),(7,.ptr (1,0) 0 0),(10,.osl (2,0) 6 (v11.map z6)),(44,.isl 6 ((a0.take (if 400<((a0.map z6).length:Int) then 400 else((a0.map z6).length:Int)).toNat).map z6) false),(45,.int .i64 (((a0.take (if 400<((a0.map z6).length:Int) then 400 else((a0.map z6).length:Int)).toNat).map z6).length:Int)),(46,.int .i64 v12)] _ _
  refine LWp.sim (e:=[(6,.ptr (0,0) 0 0),(7,.ptr (1,0) 0 0),(10,.osl (2,0) 6 (v11.map z6)),(12,.ptr (3,0) 0 0),(13,.bool v16.1),(44,.isl 6 ((a0.take (if 400<((a0.map z6).length:Int) then 400 else((a0.map z6).length:Int)).toNat).map z6) false),(45,.int .i64 (((a0.take (if 400<((a0.map z6).length:Int) then 400 else((a0.map z6).length:Int)).toNat).map z6).length:Int)),(46,.int .i64 v12)]) (L:=[((0,0),.one [.map (4,0),.isl 3 (v2.1.map z7) false]),((1,0),.one [.map (5,0)]),((2,0),.tok),((3,0),.one [.int .i64 ((((a0.take (if 400<((a0.map z6).length:Int) then 400 else((a0.map z6).length:Int)).toNat).getD v12.toNat default).f_From).f_Kind),.int .i64 ((((a0.take (if 400<((a0.map z6).length:Int) then 400 else((a0.map z6).length:Int)).toNat).getD v12.toNat default).f_From).f_A),.int .i64 ((((a0.take (if 400<((a0.map z6).length:Int) then 400 else((a0.map z6).length:Int)).toNat).getD v12.toNat default).f_From).f_B),.int .i64 ((((a0.take (if 400<((a0.map z6).length:Int) then 400 else((a0.map z6).length:Int)).toNat).getD v12.toNat default).f_To).f_Kind),.int .i64 ((((a0.take (if 400<((a0.map z6).length:Int) then 400 else((a0.map z6).length:Int)).toNat).getD v12.toNat default).f_To).f_A),.int .i64 ((((a0.take (if 400<((a0.map z6).length:Int) then 400 else((a0.map z6).length:Int)).toNat).getD v12.toNat default).f_To).f_B)]),((4,0),.amap (v2.2.map (em za z8))),((5,0),.amap (v5.map (em za z8)))]) (n:=6) ?_ ?_
  ·exact jw (M:=[((0,0),(0,0)),((1,0),(1,0)),((2,0),(2,0)),((3,0),(5,0)),((4,0),(3,0)),((5,0),(6,0))]) rfl (And.intro (Vw.ptr _ _ _ _ rfl) (And.intro (Vw.ptr _ _ _ _ rfl) (And.intro (Vw.osl _ _ _ _ rfl) (And.intro (Vw.ptr _ _ _ _ rfl) (And.intro (Vw.same _ rfl) (And.intro (Vw.same _ rfl) (And.intro (Vw.same _ rfl) (And.intro (Vw.same _ rfl) trivial)))))))) (And.intro (And.intro rfl (BVw.oneL (And.intro (Vw.map _ _ rfl) (And.intro (Vw.same _ rfl) trivial)))) (And.intro (And.intro rfl (BVw.oneL (And.intro (Vw.map _ _ rfl) trivial))) (And.intro (And.intro rfl BVw.tok) (And.intro (And.intro rfl (BVw.oneL (And.intro (Vw.same _ rfl) (And.intro (Vw.same _ rfl) (And.intro (Vw.same _ rfl) (And.intro (Vw.same _ rfl) (And.intro (Vw.same _ rfl) (And.intro (Vw.same _ rfl) trivial)))))))) (And.intro (And.intro rfl (BVw.ofMap za z8 zb v2.2)) (And.intro (And.intro rfl (BVw.ofMap za z8 zb v5)) trivial))))))
  refine zh ?_
  refine zy ?_
  obtain⟨v17,h29,h⟩:=bind_some h
  refine Or.inl (Exists.intro (.bool v17) (And.intro (fun hp=>And.intro (And.intro hp hp) (PFn.call (zqj (yt hp h29)) (And.intro (Vw.oslI _ _ _) (And.intro (Vw.same _ rfl) trivial)) (And.intro rfl (And.intro rfl rfl)))) ?_))
  refine And.intro (fun hp=>hp) ?_
  show Y2 _ _ _ [(65,.cnd ((!v16.1)==true) (.bool (!v17))),(64,.cnd ((!v16.1)==true) (.bool v17)),(63,.cnd ((!v16.1)==true) (.agg [.int .i64 ((((a0.take (if 400<((a0.map z6).length:Int) then 400 else((a0.map z6).length:Int)).toNat).getD v12.toNat default).f_From).f_Kind),.int .i64 ((((a0.take (if 400<((a0.map z6).length:Int) then 400 else((a0.map z6).length:Int)).toNat).getD v12.toNat default).f_From).f_A),.int .i64 ((((a0.take (if 400<((a0.map z6).length:Int) then 400 else((a0.map z6).length:Int)).toNat).getD v12.toNat default).f_From).f_B),.int .i64 ((((a0.take (if 400<((a0.map z6).length:Int) then 400 else((a0.map z6).length:Int)).toNat).getD v12.toNat default).f_To).f_Kind),.int .i64 ((((a0.take (if 400<((a0.map z6).length:Int) then 400 else((a0.map z6).length:Int)).toNat).getD v12.toNat default).f_To).f_A),.int .i64 ((((a0.take (if 400<((a0.map z6).length:Int) then 400 else((a0.map z6).length:Int)).toNat).getD v12.toNat default).f_To).f_B)])),(62,.cnd ((!v16.1)==true) (.osl (2,0) 6 (v11.map z6))),(61,.bool (!v16.1)),(60,.bool (!v16.1)),(59,.bool v16.1),(6,.ptr (0,0) 0 0),(7,.ptr (1,0) 0 0),(10,.osl (2,0) 6 (v11.map z6)),(12,.ptr (3,0) 0 0),(13,.bool v16.1),(44,.isl 6 ((a0.take (if 400<((a0.map z6).length:Int) then 400 else((a0.map z6).length:Int)).toNat).map z6) false),(45,.int .i64 (((a0.take (if 400<((a0.map z6).length:Int) then 400 else((a0.map z6).length:Int)).toNat).map z6).length:Int)),(46,.int .i64 v12)] _ _
  refine And.intro (fun hc=>(bqt hc)) ?_
  refine LWp.sim (e:=[(6,.ptr (0,0) 0 0),(7,.ptr (1,0) 0 0),(10,.osl (2,0) 6 (v11.map z6)),(12,.ptr (3,0) 0 0),(44,.isl 6 ((a0.take (if 400<((a0.map z6).length:Int) then 400 else((a0.map z6).length:Int)).toNat).map z6) false),(45,.int .i64 (((a0.take (if 400<((a0.map z6).length:Int) then 400 else((a0.map z6).length:Int)).toNat).map z6).length:Int)),(46,.int .i64 v12),(66,.bool ((!v16.1)&&(!v17)))]) (L:=[((0,0),.one [.map (4,0),.isl 3 (v2.1.map z7) false]),((1,0),.one [.map (5,0)]),((2,0),.tok),((3,0),.one [.int .i64 ((((a0.take (if 400<((a0.map z6).length:Int) then 400 else((a0.map z6).length:Int)).toNat).getD v12.toNat default).f_From).f_Kind),.int .i64 ((((a0.take (if 400<((a0.map z6).length:Int) then 400 else((a0.map z6).length:Int)).toNat).getD v12.toNat default).f_From).f_A),.int .i64 ((((a0.take (if 400<((a0.map z6).length:Int) then 400 else((a0.map z6).length:Int)).toNat).getD v12.toNat default).f_From).f_B),.int .i64 ((((a0.take (if 400<((a0.map z6).length:Int) then 400 else((a0.map z6).length:Int)).toNat).getD v12.toNat default).f_To).f_Kind),.int .i64 ((((a0.take (if 400<((a0.map z6).length:Int) then 400 else((a0.map z6).length:Int)).toNat).getD v12.toNat default).f_To).f_A),.int .i64 ((((a0.take (if 400<((a0.map z6).length:Int) then 400 else((a0.map z6).length:Int)).toNat).getD v12.toNat default).f_To).f_B)]),((4,0),.amap (v2.2.map (em za z8))),((5,0),.amap (v5.map (em za z8)))]) (n:=6) ?_ ?_
  ·exact jw (M:=[((0,0),(0,0)),((1,0),(1,0)),((2,0),(2,0)),((3,0),(3,0)),((4,0),(4,0)),((5,0),(5,0))]) rfl (And.intro (Vw.ptr _ _ _ _ rfl) (And.intro (Vw.ptr _ _ _ _ rfl) (And.intro (Vw.osl _ _ _ _ rfl) (And.intro (Vw.ptr _ _ _ _ rfl) (And.intro (Vw.same _ rfl) (And.intro (Vw.same _ rfl) (And.intro (Vw.same _ rfl) (And.intro (Vw.same _ rfl) trivial)))))))) (And.intro (And.intro rfl (BVw.oneL (And.intro (Vw.map _ _ rfl) (And.intro (Vw.same _ rfl) trivial)))) (And.intro (And.intro rfl (BVw.oneL (And.intro (Vw.map _ _ rfl) trivial))) (And.intro (And.intro rfl BVw.tok) (And.intro (And.intro rfl (BVw.oneL (And.intro (Vw.same _ rfl) (And.intro (Vw.same _ rfl) (And.intro (Vw.same _ rfl) (And.intro (Vw.same _ rfl) (And.intro (Vw.same _ rfl) (And.intro (Vw.same _ rfl) trivial)))))))) (And.intro (And.intro rfl (BVw.ofMap za z8 zb v2.2)) (And.intro (And.intro rfl (BVw.ofMap za z8 zb v5)) trivial))))))
  refine wc (v:=((!v16.1)&&(!v17))) rfl trivial (fun h30=>?_) (fun h30=>?_)
  ·have h:=yt h30 h
   refine zy ?_
   obtain⟨h31,h⟩:=zu h
   refine Exists.intro ((v11++([(G_QEdge.mk (G_QKey.mk ((((a0.take (if 400<((a0.map z6).length:Int) then 400 else((a0.map z6).length:Int)).toNat).getD v12.toNat default).f_From).f_Kind) ((((a0.take (if 400<((a0.map z6).length:Int) then 400 else((a0.map z6).length:Int)).toNat).getD v12.toNat default).f_From).f_A) ((((a0.take (if 400<((a0.map z6).length:Int) then 400 else((a0.map z6).length:Int)).toNat).getD v12.toNat default).f_From).f_B)) (G_QKey.mk ((((a0.take (if 400<((a0.map z6).length:Int) then 400 else((a0.map z6).length:Int)).toNat).getD v12.toNat default).f_To).f_Kind) ((((a0.take (if 400<((a0.map z6).length:Int) then 400 else((a0.map z6).length:Int)).toNat).getD v12.toNat default).f_To).f_A) ((((a0.take (if 400<((a0.map z6).length:Int) then 400 else((a0.map z6).length:Int)).toNat).getD v12.toNat default).f_To).f_B)))]:List G_QEdge)).map z6) (And.intro (Jc z6 v11 ([(G_QEdge.mk (G_QKey.mk ((((a0.take (if 400<((a0.map z6).length:Int) then 400 else((a0.map z6).length:Int)).toNat).getD v12.toNat default).f_From).f_Kind) ((((a0.take (if 400<((a0.map z6).length:Int) then 400 else((a0.map z6).length:Int)).toNat).getD v12.toNat default).f_From).f_A) ((((a0.take (if 400<((a0.map z6).length:Int) then 400 else((a0.map z6).length:Int)).toNat).getD v12.toNat default).f_From).f_B)) (G_QKey.mk ((((a0.take (if 400<((a0.map z6).length:Int) then 400 else((a0.map z6).length:Int)).toNat).getD v12.toNat default).f_To).f_Kind) ((((a0.take (if 400<((a0.map z6).length:Int) then 400 else((a0.map z6).length:Int)).toNat).getD v12.toNat default).f_To).f_A) ((((a0.take (if 400<((a0.map z6).length:Int) then 400 else((a0.map z6).length:Int)).toNat).getD v12.toNat default).f_To).f_B)))]:List G_QEdge)) (And.intro h31 ?_))
   refine LWp.sim ?_ (z4m h)
   exact jw (M:=[((0,0),(0,0)),((1,0),(1,0)),((2,0),(6,0)),((3,0),(4,0)),((4,0),(5,0))]) rfl (And.intro (Vw.ptr _ _ _ _ rfl) (And.intro (Vw.ptr _ _ _ _ rfl) (And.intro (Vw.osl _ _ _ _ rfl) (And.intro (Vw.same _ rfl) (And.intro (Vw.same _ rfl) (And.intro (Vw.same _ rfl) trivial)))))) (And.intro (And.intro rfl (BVw.oneL (And.intro (Vw.map _ _ rfl) (And.intro (Vw.same _ rfl) trivial)))) (And.intro (And.intro rfl (BVw.oneL (And.intro (Vw.map _ _ rfl) trivial))) (And.intro (And.intro rfl BVw.tok) (And.intro (And.intro rfl (BVw.ofMap za z8 zb v2.2)) (And.intro (And.intro rfl (BVw.ofMap za z8 zb v5)) trivial)))))
  ·have h:=qy h30 h
   refine we ?_
   refine LWp.sim ?_ (z4m h)
   exact jw (M:=[((0,0),(0,0)),((1,0),(1,0)),((2,0),(2,0)),((3,0),(4,0)),((4,0),(5,0))]) rfl (And.intro (Vw.ptr _ _ _ _ rfl) (And.intro (Vw.ptr _ _ _ _ rfl) (And.intro (Vw.osl _ _ _ _ rfl) (And.intro (Vw.same _ rfl) (And.intro (Vw.same _ rfl) (And.intro (Vw.same _ rfl) trivial)))))) (And.intro (And.intro rfl (BVw.oneL (And.intro (Vw.map _ _ rfl) (And.intro (Vw.same _ rfl) trivial)))) (And.intro (And.intro rfl (BVw.oneL (And.intro (Vw.map _ _ rfl) trivial))) (And.intro (And.intro rfl BVw.tok) (And.intro (And.intro rfl (BVw.ofMap za z8 zb v2.2)) (And.intro (And.intro rfl (BVw.ofMap za z8 zb v5)) trivial)))))
 ·have h:=qy h26 h
  refine Z7 ?_
  obtain⟨o,hq,rfl⟩:=Option.map_eq_some_iff.1 h
  replace h:=hq;clear hq
  refine And.intro nofun ?_
  refine LWp.sim ?_ (ze8 h)
  exact jw (M:=[((0,0),(2,0))]) rfl (And.intro (Vw.osl _ _ _ _ rfl) trivial) (And.intro (And.intro rfl BVw.tok) trivial)
theorem zis{a0:List G_QEdge}{v2:(List G_QKey)×(List (G_QKey×(List G_QKey)))}{v5:List (G_QKey×(List G_QKey))}{v11:List G_QEdge}{v12:Int}{m:Option Nat}{o:((List G_QEdge)×Int)}(h:qo m a0 v2 v5 v11 v12=some o) :
 LWp Try.prog ux 0 (.loop zhg) (qp 2 (Z4 Try.prog ux 0 za0 (z75 a0 o))) [(6,.ptr (0,0) 0 0),(7,.ptr (1,0) 0 0),(10,.osl (2,0) 6 (v11.map z6)),(44,.isl 6 ((a0.take (if 400<((a0.map z6).length:Int) then 400 else((a0.map z6).length:Int)).toNat).map z6) false),(45,.int .i64 (((a0.take (if 400<((a0.map z6).length:Int) then 400 else((a0.map z6).length:Int)).toNat).map z6).length:Int)),(46,.int .i64 v12)] [((0,0),.one [.map (3,0),.isl 3 (v2.1.map z7) false]),((1,0),.one [.map (4,0)]),((2,0),.tok),((3,0),.amap (v2.2.map (em za z8))),((4,0),.amap (v5.map (em za z8)))] 5:=
 j7 (m:=m) (s:=((v11,v12):((List G_QEdge)×Int))) (r:=o) (fun(s:((List G_QEdge)×Int))=>y3 m a0 v2 v5 s.1 s.2) (Wf a0 v2 v5) (Ui a0 v2 v5) (z1n a0) (fun s o h=>zb9 h) h
theorem zcn{a0:List G_QEdge}{v2:(List G_QKey)×(List (G_QKey×(List G_QKey)))}{v5:List (G_QKey×(List G_QKey))}{m:Option Nat}{o:((List G_QEdge)×Int)}(h:qk m a0 v2 v5=some o) :
 LWp Try.prog ux 0 z8z (z75 a0 o) [(0,.isl 6 (a0.map z6) false),(6,.ptr (0,0) 0 0),(7,.ptr (1,0) 0 0)] [((0,0),.one [.map (2,0),.isl 3 (v2.1.map z7) false]),((1,0),.one [.map (3,0)]),((2,0),.amap (v2.2.map (em za z8))),((3,0),.amap (v5.map (em za z8)))] 4:=by
 unfold qk at h
 refine zh ?_
 refine zy ?_
 refine zh ?_
 refine zh ?_
 refine zy ?_
 obtain⟨h13,h⟩:=zu h
 refine Exists.intro (.isl 6 ((a0.take (if 400<((a0.map z6).length:Int) then 400 else((a0.map z6).length:Int)).toNat).map z6) false) (And.intro (zk6 z6 (slB z6 a0 _) rfl) (And.intro (And.intro rfl (And.intro (Int.le_refl _) h13)) ?_))
 refine LWp.sim (e:=[(6,.ptr (0,0) 0 0),(7,.ptr (1,0) 0 0),(10,.val (.slice none 0 0)),(44,.isl 6 ((a0.take (if 400<((a0.map z6).length:Int) then 400 else((a0.map z6).length:Int)).toNat).map z6) false),(45,.int .i64 (((a0.take (if 400<((a0.map z6).length:Int) then 400 else((a0.map z6).length:Int)).toNat).map z6).length:Int)),(46,.int .i64 0)]) (L:=[((0,0),.one [.map (2,0),.isl 3 (v2.1.map z7) false]),((1,0),.one [.map (3,0)]),((2,0),.amap (v2.2.map (em za z8))),((3,0),.amap (v5.map (em za z8)))]) (n:=4) ?_ ?_
 ·exact jw (M:=[((0,0),(0,0)),((1,0),(1,0)),((2,0),(2,0)),((3,0),(3,0))]) rfl (And.intro (Vw.ptr _ _ _ _ rfl) (And.intro (Vw.ptr _ _ _ _ rfl) (And.intro (Vw.same _ rfl) (And.intro (Vw.same _ rfl) (And.intro (Vw.same _ rfl) (And.intro (Vw.same _ rfl) trivial)))))) (And.intro (And.intro rfl (BVw.oneL (And.intro (Vw.map _ _ rfl) (And.intro (Vw.same _ rfl) trivial)))) (And.intro (And.intro rfl (BVw.oneL (And.intro (Vw.map _ _ rfl) trivial))) (And.intro (And.intro rfl (BVw.ofMap za z8 zb v2.2)) (And.intro (And.intro rfl (BVw.ofMap za z8 zb v5)) trivial))))
 refine jd ?_
 refine LWp.sim ?_ (zis h)
 exact jw (M:=[((0,0),(0,0)),((1,0),(1,0)),((3,0),(2,0)),((4,0),(3,0))]) rfl (And.intro (Vw.ptr _ _ _ _ rfl) (And.intro (Vw.ptr _ _ _ _ rfl) (And.intro (Vw.nilO _ _ (by decide)) (And.intro (Vw.same _ rfl) (And.intro (Vw.same _ rfl) (And.intro (Vw.same _ rfl) trivial)))))) (And.intro (And.intro rfl (BVw.oneL (And.intro (Vw.map _ _ rfl) (And.intro (Vw.same _ rfl) trivial)))) (And.intro (And.intro rfl (BVw.oneL (And.intro (Vw.map _ _ rfl) trivial))) (And.intro (And.intro rfl (And.intro (by decide) (by decide))) (And.intro (And.intro rfl (BVw.ofMap za z8 zb v2.2)) (And.intro (And.intro rfl (BVw.ofMap za z8 zb v5)) trivial)))))
theorem zc1{a0:List G_QEdge}{v2:(List G_QKey)×(List (G_QKey×(List G_QKey)))}{v4:Int}{v5:List (G_QKey×(List G_QKey))}{m:Option Nat}{o:(Int×(List (G_QKey×(List G_QKey)))) ⊕ ((List G_QEdge)×Int)}(h:yl m a0 v2 v4 v5=some o) :
 LWp Try.prog ux 0 zhx (vp 0 4 (z0i a0 v2) (z3t a0 v2) (z8x a0) o) [(0,.isl 6 (a0.map z6) false),(6,.ptr (0,0) 0 0),(7,.ptr (1,0) 0 0),(28,.isl 3 (v2.1.map z7) false),(29,.int .i64 ((v2.1.map z7).length:Int)),(30,.int .i64 v4)] [((0,0),.one [.map (2,0),.isl 3 (v2.1.map z7) false]),((1,0),.one [.map (3,0)]),((2,0),.amap (v2.2.map (em za z8))),((3,0),.amap (v5.map (em za z8)))] 4:=by
 unfold yl at h
 refine zh ?_
 refine zy ?_
 refine zh ?_
 refine wc (v:=(decide (v4<((v2.1.map z7).length:Int)))) rfl trivial (fun h10=>?_) (fun h10=>?_)
 ·have h:=yt h10 h
  refine we ?_
  refine zh ?_
  refine jd ?_
  refine zh ?_
  refine zy ?_
  obtain⟨h11,h⟩:=zu h
  refine And.intro h11 ?_
  refine Exists.intro (z7 (v2.1.getD v4.toNat default)) (And.intro (je z7 _ _ (ws z7 h11)) (And.intro (And.intro (k9 h11) (Nat.le_of_ble_eq_true rfl)) ?_))
  refine Vd ?_
  obtain⟨v7,h12,h⟩:=bind_some h
  refine Y8 (k:=3) (m:=0) (L':=[((0,0),.one [.map (2,0),.isl 3 (v2.1.map z7) false]),((2,0),.amap (v2.2.map (em za z8)))]) (rest:=[((4,0),.one [.int .i64 ((v2.1.getD v4.toNat default).f_Kind),.int .i64 ((v2.1.getD v4.toNat default).f_A),.int .i64 ((v2.1.getD v4.toNat default).f_B)]),((1,0),.one [.map (3,0)]),((3,0),.amap (v5.map (em za z8)))]) (R':=.isl 3 (v7.map z7) false) [((0,0),(0,0)),((0,1),(2,0))] (z32 h12) rfl rfl rfl (And.intro (Vw.ptr _ _ _ _ rfl) (And.intro (Vw.same _ rfl) trivial)) (And.intro (h0I (0,0) rfl rfl (BVw.oneL (And.intro (Vw.map _ _ rfl) (And.intro (Vw.same _ rfl) trivial)))) (And.intro (h0I (2,0) rfl rfl (BVw.ofMap za z8 zb v2.2)) trivial)) (ki _ rfl) (And.intro rfl (And.intro rfl (And.intro rfl (And.intro (ve za z8 qu zb _) trivial)))) rfl ?_
  refine And.intro rfl ?_
  refine And.intro rfl ?_
  refine Exists.intro ((mp zd v5 (G_QKey.mk ((v2.1.getD v4.toNat default).f_Kind) ((v2.1.getD v4.toNat default).f_A) ((v2.1.getD v4.toNat default).f_B)) v7).map (em za z8)) (And.intro (Vu (ek:=za) (ev:=z8) xf (G_QKey.mk ((v2.1.getD v4.toNat default).f_Kind) ((v2.1.getD v4.toNat default).f_A) ((v2.1.getD v4.toNat default).f_B)) v7 v5) ?_)
  refine LWp.sim (e:=[(0,.isl 6 (a0.map z6) false),(6,.ptr (0,0) 0 0),(7,.ptr (1,0) 0 0),(28,.isl 3 (v2.1.map z7) false),(29,.int .i64 ((v2.1.map z7).length:Int)),(30,.int .i64 v4)]) (L:=[((0,0),.one [.map (2,0),.isl 3 (v2.1.map z7) false]),((1,0),.one [.map (3,0)]),((2,0),.amap (v2.2.map (em za z8))),((3,0),.amap ((mp zd v5 (G_QKey.mk ((v2.1.getD v4.toNat default).f_Kind) ((v2.1.getD v4.toNat default).f_A) ((v2.1.getD v4.toNat default).f_B)) v7).map (em za z8)))]) (n:=4) ?_ ?_
  ·exact jw (M:=[((0,0),(0,0)),((1,0),(1,0)),((2,0),(2,0)),((3,0),(3,0))]) rfl (And.intro (Vw.same _ rfl) (And.intro (Vw.ptr _ _ _ _ rfl) (And.intro (Vw.ptr _ _ _ _ rfl) (And.intro (Vw.same _ rfl) (And.intro (Vw.same _ rfl) (And.intro (Vw.same _ rfl) trivial)))))) (And.intro (And.intro rfl (BVw.oneL (And.intro (Vw.map _ _ rfl) (And.intro (Vw.same _ rfl) trivial)))) (And.intro (And.intro rfl (BVw.oneL (And.intro (Vw.map _ _ rfl) trivial))) (And.intro (And.intro rfl (BVw.ofMap za z8 zb v2.2)) (And.intro (And.intro rfl (BVw.ofMap za z8 zb (mp zd v5 (G_QKey.mk ((v2.1.getD v4.toNat default).f_Kind) ((v2.1.getD v4.toNat default).f_A) ((v2.1.getD v4.toNat default).f_B)) v7))) trivial))))
  refine zy ?_
  cases h
  exact And.intro rfl (jw (M:=[((0,0),(0,0)),((1,0),(1,0)),((2,0),(2,0)),((3,0),(3,0))]) rfl (And.intro (Vw.same _ rfl) (And.intro (Vw.ptr _ _ _ _ rfl) (And.intro (Vw.ptr _ _ _ _ rfl) (And.intro (Vw.same _ rfl) (And.intro (Vw.same _ rfl) (And.intro (Vw.same _ rfl) trivial)))))) (And.intro (And.intro rfl (BVw.oneL (And.intro (Vw.map _ _ rfl) (And.intro (Vw.same _ rfl) trivial)))) (And.intro (And.intro rfl (BVw.oneL (And.intro (Vw.map _ _ rfl) trivial))) (And.intro (And.intro rfl (BVw.ofMap za z8 zb v2.2)) (And.intro (And.intro rfl (BVw.ofMap za z8 zb (mp zd v5 (G_QKey.mk ((v2.1.getD v4.toNat default).f_Kind) ((v2.1.getD v4.toNat default).f_A) ((v2.1.getD v4.toNat default).f_B)) v7))) trivial)))))
 ·have h:=qy h10 h
  refine Z7 ?_
  obtain⟨o,hq,rfl⟩:=Option.map_eq_some_iff.1 h
  replace h:=hq;clear hq
  refine And.intro nofun ?_
  refine LWp.sim ?_ (zcn h)
  exact jw (M:=[((0,0),(0,0)),((1,0),(1,0)),((2,0),(2,0)),((3,0),(3,0))]) rfl (And.intro (Vw.same _ rfl) (And.intro (Vw.ptr _ _ _ _ rfl) (And.intro (Vw.ptr _ _ _ _ rfl) trivial))) (And.intro (And.intro rfl (BVw.oneL (And.intro (Vw.map _ _ rfl) (And.intro (Vw.same _ rfl) trivial)))) (And.intro (And.intro rfl (BVw.oneL (And.intro (Vw.map _ _ rfl) trivial))) (And.intro (And.intro rfl (BVw.ofMap za z8 zb v2.2)) (And.intro (And.intro rfl (BVw.ofMap za z8 zb v5)) trivial))))
theorem zco{a0:List G_QEdge}{v2:(List G_QKey)×(List (G_QKey×(List G_QKey)))}{v4:Int}{v5:List (G_QKey×(List G_QKey))}{m:Option Nat}{o:((List G_QEdge)×Int)}(h:qm m a0 v2 v4 v5=some o) :
 LWp Try.prog ux 0 (.loop zhx) (qp 0 (Z4 Try.prog ux 0 z8z (z75 a0 o))) [(0,.isl 6 (a0.map z6) false),(6,.ptr (0,0) 0 0),(7,.ptr (1,0) 0 0),(28,.isl 3 (v2.1.map z7) false),(29,.int .i64 ((v2.1.map z7).length:Int)),(30,.int .i64 v4)] [((0,0),.one [.map (2,0),.isl 3 (v2.1.map z7) false]),((1,0),.one [.map (3,0)]),((2,0),.amap (v2.2.map (em za z8))),((3,0),.amap (v5.map (em za z8)))] 4:=
 j7 (m:=m) (s:=((v4,v5):(Int×(List (G_QKey×(List G_QKey)))))) (r:=o) (fun(s:(Int×(List (G_QKey×(List G_QKey)))))=>yl m a0 v2 s.1 s.2) (z0i a0 v2) (z3t a0 v2) (z8x a0) (fun s o h=>zc1 h) h
noncomputable def zx(m:Option Nat)(a0:List G_QEdge):Option ((List G_QEdge)×Int):=
 (x7 m a0).bind fun v1=>
 if(v1.2 != 0)=true then
  some ([],v1.2)
 else
  (qq m a0 false).bind fun v2=>
  qm m a0 v2 0 ([]:List (G_QKey×(List G_QKey)))
theorem zda{a0:List G_QEdge}{m:Option Nat}{o:(List G_QEdge)×Int}(h:zx m a0=some o):LWp Try.prog ux 0 zmd (z75 a0 o) (yy 0 [.isl 6 (a0.map z6) false]) [] 0:=by
 unfold zx at h
 refine zh ?_
 refine zy ?_
 refine zh ?_
 refine zh ?_
 refine zy ?_
 obtain⟨v1,h1,h⟩:=bind_some h
 refine PFn.call (zr4 h1) (And.intro (Vw.same _ rfl) trivial) ?_
 refine LWp.sim (e:=[(0,.isl 6 (a0.map z6) false),(5,.int .i64 v1.2)]) (L:=[]) (n:=0) ?_ ?_
 ·exact jw (M:=[]) rfl (And.intro (Vw.same _ rfl) (And.intro (Vw.same _ rfl) trivial)) trivial
 refine zh ?_
 refine zy ?_
 refine wc (v:=(v1.2 != 0)) rfl trivial (fun h2=>?_) (fun h2=>?_)
 ·have h:=yt h2 h
  refine zh ?_
  refine zy ?_
  refine ua ?_
  cases h
  exact And.intro trivial (And.intro trivial (And.intro rfl (Vw.tupL (And.intro (Vw.nilI _ _) (And.intro (Vw.same _ rfl) trivial)))))
 ·have h:=qy h2 h
  refine we ?_
  refine zh ?_
  refine zy ?_
  obtain⟨v2,h3,h⟩:=bind_some h
  refine Y8 (k:=3) (m:=4) (L':=[((0,0),.one [.map (1,0),.isl 3 (v2.1.map z7) false]),((1,0),.amap (v2.2.map (em za z8)))]) (rest:=[]) (R':=.ptr (0,0) 0 0) [] (Vs h3) rfl rfl rfl (And.intro (Vw.same _ rfl) (And.intro (Vw.same _ rfl) trivial)) trivial rfl (And.intro rfl (And.intro rfl (And.intro rfl (And.intro (ve za z8 qu zb _) trivial)))) rfl ?_
  refine zh ?_
  refine zy ?_
  refine LWp.sim (e:=[(0,.isl 6 (a0.map z6) false),(6,.ptr (0,0) 0 0),(7,.ptr (1,0) 0 0)]) (L:=[((0,0),.one [.map (2,0),.isl 3 (v2.1.map z7) false]),((1,0),.one [.map (3,0)]),((2,0),.amap (v2.2.map (em za z8))),((3,0),.amap (([]:List (G_QKey×(List G_QKey))).map (em za z8)))]) (n:=4) ?_ ?_
  ·exact jw (M:=[((0,0),(0,0)),((1,0),(6,0)),((2,0),(1,0)),((3,0),(5,0))]) rfl (And.intro (Vw.same _ rfl) (And.intro (Vw.ptr _ _ _ _ rfl) (And.intro (Vw.ptr _ _ _ _ rfl) trivial))) (And.intro (And.intro rfl (BVw.oneL (And.intro (Vw.map _ _ rfl) (And.intro (Vw.same _ rfl) trivial)))) (And.intro (And.intro rfl (BVw.oneL (And.intro (Vw.map _ _ rfl) trivial))) (And.intro (And.intro rfl (BVw.ofMap za z8 zb v2.2)) (And.intro (And.intro rfl (BVw.ofMap za z8 zb ([]:List (G_QKey×(List G_QKey))))) trivial))))
  refine zh ?_
  refine zh ?_
  refine zy ?_
  refine jd ?_
  refine LWp.sim ?_ (zco h)
  exact jw (M:=[((0,0),(0,0)),((1,0),(1,0)),((2,0),(2,0)),((3,0),(3,0))]) rfl (And.intro (Vw.same _ rfl) (And.intro (Vw.ptr _ _ _ _ rfl) (And.intro (Vw.ptr _ _ _ _ rfl) (And.intro (Vw.same _ rfl) (And.intro (Vw.same _ rfl) (And.intro (Vw.same _ rfl) trivial)))))) (And.intro (And.intro rfl (BVw.oneL (And.intro (Vw.map _ _ rfl) (And.intro (Vw.same _ rfl) trivial)))) (And.intro (And.intro rfl (BVw.oneL (And.intro (Vw.map _ _ rfl) trivial))) (And.intro (And.intro rfl (BVw.ofMap za z8 zb v2.2)) (And.intro (And.intro rfl (BVw.ofMap za z8 zb ([]:List (G_QKey×(List G_QKey))))) trivial))))
theorem zsc{a0:List G_QEdge}{m:Option Nat}{o:(List G_QEdge)×Int}(h:zx m a0=some o):PFn Try.prog 18 [.isl 6 (a0.map z6) false] (.tup [.isl 6 (o.1.map z6) false,.int .i64 o.2]):=PFn.ofFnW (L:=zrq) zoc zox (Nat.le_of_ble_eq_true rfl) rfl (zda h)
def zm3:LCode:=(.seq (.region [⟨some 2,.box (.t 0),none⟩,
 ⟨some 3,.box (.t 1),none⟩,
 ⟨some 4,.mv (.c (.bool false)),none⟩])
 (.seq (.seq (.region [⟨some 5,.faddr 0 (.t 2),none⟩,
  ⟨some 6,.load false 1 (.t 5),none⟩,
  ⟨some 7,.faddr 0 (.t 3),none⟩,
  ⟨some 8,.load false 1 (.t 7),none⟩,
  ⟨some 9,.bin .neq (.t 6) (.t 8),none⟩])
 (.cond (.t 9)
  (.seq (.region [⟨some 10,.faddr 0 (.t 2),none⟩,
   ⟨some 11,.load false 1 (.t 10),none⟩,
   ⟨some 12,.faddr 0 (.t 3),none⟩,
   ⟨some 13,.load false 1 (.t 12),none⟩,
   ⟨some 14,.bin .lss (.t 11) (.t 13),none⟩,
   ⟨some 4,.mv (.t 14),none⟩])
  .ret)
  .skip))
 (.seq (.seq (.region [⟨some 15,.faddr 1 (.t 2),none⟩,
  ⟨some 16,.load false 1 (.t 15),none⟩,
  ⟨some 17,.faddr 1 (.t 3),none⟩,
  ⟨some 18,.load false 1 (.t 17),none⟩,
  ⟨some 19,.bin .neq (.t 16) (.t 18),none⟩])
 (.cond (.t 19)
  (.seq (.region [⟨some 20,.faddr 1 (.t 2),none⟩,
   ⟨some 21,.load false 1 (.t 20),none⟩,
   ⟨some 22,.faddr 1 (.t 3),none⟩,
   ⟨some 23,.load false 1 (.t 22),none⟩,
   ⟨some 24,.bin .lss (.t 21) (.t 23),none⟩,
   ⟨some 4,.mv (.t 24),none⟩])
  .ret)
  .skip))
 (.seq (.region [⟨some 25,.faddr 2 (.t 2),none⟩,
  ⟨some 26,.load false 1 (.t 25),none⟩,
  ⟨some 27,.faddr 2 (.t 3),none⟩,
  ⟨some 28,.load false 1 (.t 27),none⟩,
  ⟨some 29,.bin .lss (.t 26) (.t 28),none⟩,
  ⟨some 4,.mv (.t 29),none⟩])
 .ret))))
def ziv:Lay:=⟨30,[],false⟩
def zdn:List LRes:=[.t 4]
def zpw:LFn:=⟨2,ziv,zm3,zdn⟩
theorem zpg:vi Try.prog [] 41=some zpw:=by kernel_rfl
theorem zof:Z6 Try.prog 41:=⟨_,Try.func41,rfl,rfl⟩
noncomputable def jg(m:Option Nat)(a0:G_QKey)(a1:G_QKey):Option Bool:=
 if(a0.f_Kind != a1.f_Kind)=true then
  some (decide (a0.f_Kind<a1.f_Kind))
 else
  if(a0.f_A != a1.f_A)=true then
   some (decide (a0.f_A<a1.f_A))
  else
   some (decide (a0.f_B<a1.f_B))
def zt2(a0:G_QKey)(a1:G_QKey)(o:Bool):Exit→Env→AHeap→Nat→Prop:=Yb zdn (wa (.bool o))
theorem ze9{a0:G_QKey}{a1:G_QKey}{m:Option Nat}{o:Bool}(h:jg m a0 a1=some o):LWp Try.prog ziv 0 zm3 (zt2 a0 a1 o) (yy 0 [.agg [.int .i64 a0.f_Kind,.int .i64 a0.f_A,.int .i64 a0.f_B],.agg [.int .i64 a1.f_Kind,.int .i64 a1.f_A,.int .i64 a1.f_B]]) [] 0:=by
 unfold jg at h
 refine zh ?_
 refine zy ?_
 refine zh ?_
 refine zh ?_
 refine zy ?_
 refine LWp.sim (e:=[(2,.ptr (0,0) 0 0),(3,.ptr (1,0) 0 0),(9,.bool (a0.f_Kind != a1.f_Kind))]) (L:=[((0,0),.one [.int .i64 a0.f_Kind,.int .i64 a0.f_A,.int .i64 a0.f_B]),((1,0),.one [.int .i64 a1.f_Kind,.int .i64 a1.f_A,.int .i64 a1.f_B])]) (n:=2) ?_ ?_
 ·exact jw (M:=[((0,0),(0,0)),((1,0),(1,0))]) rfl (And.intro (Vw.ptr _ _ _ _ rfl) (And.intro (Vw.ptr _ _ _ _ rfl) (And.intro (Vw.same _ rfl) trivial))) (And.intro (And.intro rfl (BVw.oneL (And.intro (Vw.same _ rfl) (And.intro (Vw.same _ rfl) (And.intro (Vw.same _ rfl) trivial))))) (And.intro (And.intro rfl (BVw.oneL (And.intro (Vw.same _ rfl) (And.intro (Vw.same _ rfl) (And.intro (Vw.same _ rfl) trivial))))) trivial))
 refine wc (v:=(a0.f_Kind != a1.f_Kind)) rfl trivial (fun h1=>?_) (fun h1=>?_)
 ·have h:=yt h1 h
  refine zh ?_
  refine zy ?_
  refine ua ?_
  cases h
  exact And.intro trivial (And.intro rfl (Vw.same _ rfl))
 ·have h:=qy h1 h
  refine we ?_
  refine zh ?_
  refine zh ?_
  refine zy ?_
  refine wc (v:=(a0.f_A != a1.f_A)) rfl trivial (fun h2=>?_) (fun h2=>?_)
  ·have h:=yt h2 h
   refine zh ?_
   refine zy ?_
   refine LWp.sim (e:=[(4,.bool (decide (a0.f_A<a1.f_A)))]) (L:=[]) (n:=0) ?_ ?_
   ·exact jw (M:=[]) rfl (And.intro (Vw.same _ rfl) trivial) trivial
   refine ua ?_
   cases h
   exact And.intro trivial (And.intro rfl (Vw.same _ rfl))
  ·have h:=qy h2 h
   refine we ?_
   refine zh ?_
   refine zy ?_
   refine LWp.sim (e:=[(4,.bool (decide (a0.f_B<a1.f_B)))]) (L:=[]) (n:=0) ?_ ?_
   ·exact jw (M:=[]) rfl (And.intro (Vw.same _ rfl) trivial) trivial
   refine ua ?_
   cases h
   exact And.intro trivial (And.intro rfl (Vw.same _ rfl))
theorem zr8{a0:G_QKey}{a1:G_QKey}{m:Option Nat}{o:Bool}(h:jg m a0 a1=some o):PFn Try.prog 41 [.agg [.int .i64 a0.f_Kind,.int .i64 a0.f_A,.int .i64 a0.f_B],.agg [.int .i64 a1.f_Kind,.int .i64 a1.f_A,.int .i64 a1.f_B]] (.bool o):=PFn.ofFnW (L:=zpw) zpg zof (Nat.le_of_ble_eq_true rfl) rfl (ze9 h)
def zdv:LCode:=(.seq (.seq (.draw [⟨⟨some 13,.mv (.t 6),none⟩,[]⟩,
 ⟨⟨some 14,.mv (.t 3),none⟩,[]⟩,
 ⟨⟨some 15,.len false (.t 14),none⟩,[]⟩,
 ⟨⟨some 16,.bin .lss (.t 13) (.t 15),none⟩,[]⟩,
 ⟨⟨some 17,.mv (.t 16),none⟩,[]⟩,
 ⟨⟨some 18,.mv (.t 3),some (17,true)⟩,[]⟩,
 ⟨⟨some 19,.mv (.t 6),some (17,true)⟩,[]⟩,
 ⟨⟨some 20,.iaddr 3 (.t 18) (.t 19),some (17,true)⟩,[]⟩,
 ⟨⟨some 21,.load true 3 (.t 20),some (17,true)⟩,[]⟩,
 ⟨⟨some 22,.load true 3 (.t 5),some (17,true)⟩,[]⟩,
 ⟨⟨some 23,.call 41 [(.t 21),(.t 22)],some (17,true)⟩,[]⟩,
 ⟨⟨some 24,.pick (.t 17) (.t 23) (.c (.bool false)),none⟩,[]⟩])
 (.cond (.t 24)
  .skip
  (.exit 2)))
 (.block 3
  (.region [⟨some 25,.mv (.t 6),none⟩,
   ⟨some 26,.bin .add (.t 25) (.c (.int .i64 1)),none⟩,
   ⟨some 6,.mv (.t 26),none⟩])))
def z8s:LCode:=(.seq (.quiet [⟨some 27,.mv (.t 6),none⟩,
 ⟨some 28,.mv (.t 3),none⟩,
 ⟨some 29,.len false (.t 28),none⟩,
 ⟨some 30,.bin .eql (.t 27) (.t 29),none⟩,
 ⟨some 31,.mv (.t 30),none⟩,
 ⟨some 32,.mv (.t 3),some (31,false)⟩,
 ⟨some 33,.mv (.t 6),some (31,false)⟩,
 ⟨some 34,.iaddr 3 (.t 32) (.t 33),some (31,false)⟩,
 ⟨some 35,.load true 3 (.t 34),some (31,false)⟩,
 ⟨some 36,.load true 3 (.t 5),some (31,false)⟩,
 ⟨some 37,.eq true (.agg [.int,.int,.int]) (.t 35) (.t 36),some (31,false)⟩,
 ⟨some 38,.pick (.t 31) (.c (.bool true)) (.t 37),none⟩])
 (.cond (.t 38)
  (.draw [⟨⟨some 39,.mv (.t 3),none⟩,[]⟩,
   ⟨⟨some 40,.mv (.t 6),none⟩,[]⟩,
   ⟨⟨some 41,.mv (.t 6),none⟩,[]⟩,
   ⟨⟨some 42,.slSl 3 (.t 39) none (some (.t 40)) (some (.t 41)),none⟩,[]⟩,
   ⟨⟨some 43,.load true 3 (.t 5),none⟩,[]⟩,
   ⟨⟨some 45,.mv (.t 3),none⟩,[]⟩,
   ⟨⟨some 46,.mv (.t 6),none⟩,[]⟩,
   ⟨⟨some 47,.slSl 3 (.t 45) (some (.t 46)) none none,none⟩,[]⟩,
   ⟨⟨some 44,.mkSl true 3 [(.int .i64 0),(.int .i64 0),(.int .i64 0)] 1 [(0,(.t 43))],none⟩,[]⟩,
   ⟨⟨some 48,.app true 3 24 (.t 44) (.t 47),none⟩,[]⟩,
   ⟨⟨some 49,.app true 3 24 (.t 42) (.t 48),none⟩,[]⟩,
   ⟨⟨some 3,.mv (.t 49),none⟩,[]⟩])
  .skip))
def z4w:LCode:=(.region [⟨some 50,.bin .add (.t 9) (.c (.int .i64 1)),none⟩,
 ⟨some 9,.mv (.t 50),none⟩])
def zf6:LCode:=(.seq (.region [⟨some 10,.bin .lss (.t 9) (.t 8),none⟩])
 (.seq (.cond (.t 10)
  .skip
  (.exit 0))
 (.seq (.block 1
  (.seq (.region [⟨some 11,.iaddr 3 (.t 7) (.t 9),none⟩,
   ⟨some 12,.load true 3 (.t 11),none⟩,
   ⟨some 5,.alloc [(.int .i64 0),(.int .i64 0),(.int .i64 0)],none⟩,
   ⟨none,.store 3 (.t 5) (.t 12),none⟩])
  (.seq (.region [⟨some 6,.mv (.c (.int .i64 0)),none⟩])
  (.seq (.block 2
   (.loop
    zdv))
  z8s))))
 z4w)))
def z9b:LCode:=(.seq (.region [⟨some 51,.mv (.t 3),none⟩,
 ⟨some 2,.mv (.t 51),none⟩])
 .ret)
def zmi:LCode:=(.seq (.region [⟨some 2,.mv (.c (.val (.slice none 0 0))),none⟩])
 (.seq (.region [⟨some 3,.mv (.c (.val (.slice none 0 0))),none⟩])
 (.seq (.seq (.region [⟨some 7,.mv (.t 0),none⟩,
  ⟨some 8,.len false (.t 7),none⟩,
  ⟨some 9,.mv (.c (.int .i64 0)),none⟩])
 (.block 0
  (.loop
   zf6)))
 z9b)))
def kp:Lay:=⟨52,[],false⟩
def zes:List LRes:=[.t 2]
def zrm:LFn:=⟨1,kp,zmi,zes⟩
theorem zpj:vi Try.prog [] 24=some zrm:=by kernel_rfl
theorem zo9:Z6 Try.prog 24:=⟨_,Try.func24,rfl,rfl⟩
def zjl(a0:List G_QKey)(o:(List G_QKey)):Exit→Env→AHeap→Nat→Prop:=Yb zes (wa (.isl 3 (o.map z7) false))
def Zg(a0:List G_QKey)(s:((List G_QKey)×Int)):Env:=[(3,.osl (0,0) 3 (s.1.map z7)),(7,.isl 3 (a0.map z7) false),(8,.int .i64 ((a0.map z7).length:Int)),(9,.int .i64 s.2)]
def Yd(a0:List G_QKey)(s:((List G_QKey)×Int)):AHeap:=[((0,0),.tok)]
def X5(a0:List G_QKey)(o:(List G_QKey)):Exit→Env→AHeap→Nat→Prop:=(qp 0 (Z4 Try.prog kp 0 z9b (zjl a0 o)))
def z0q(a0:List G_QKey)(v6:List G_QKey)(v7:Int)(s:Int):Env:=[(3,.osl (0,0) 3 (v6.map z7)),(5,.ptr (1,0) 0 0),(6,.int .i64 s),(7,.isl 3 (a0.map z7) false),(8,.int .i64 ((a0.map z7).length:Int)),(9,.int .i64 v7)]
def z3h(a0:List G_QKey)(v6:List G_QKey)(v7:Int)(s:Int):AHeap:=[((0,0),.tok),((1,0),.one [.int .i64 ((a0.getD v7.toNat default).f_Kind),.int .i64 ((a0.getD v7.toNat default).f_A),.int .i64 ((a0.getD v7.toNat default).f_B)])]
def zaj(a0:List G_QKey)(o:(((List G_QKey)×Int) ⊕ (List G_QKey))):Exit→Env→AHeap→Nat→Prop:=(qp 2 (Z4 Try.prog kp 0 z8s (qp 1 (Z4 Try.prog kp 0 z4w (vp 0 1 (Zg a0) (Yd a0) (X5 a0) o)))))
noncomputable def ja(m:Option Nat)(a0:List G_QKey)(v7:Int)(v17:List G_QKey):Option (((List G_QKey)×Int) ⊕ (List G_QKey)):=
 some (.inl (v17,(W (v7+1))))
noncomputable def x6(m:Option Nat)(a0:List G_QKey)(v6:List G_QKey)(v7:Int)(v14:Int):Option (((List G_QKey)×Int) ⊕ (List G_QKey)):=
 if(((v14==((v6.map z7).length:Int))==false)=true→(0:Int)≤v14∧v14<((v6.map z7).length:Int)) then
 if((v14==((v6.map z7).length:Int)) || (!(((v6.getD v14.toNat default).f_Kind==(a0.getD v7.toNat default).f_Kind)&&(((v6.getD v14.toNat default).f_A==(a0.getD v7.toNat default).f_A)&&(((v6.getD v14.toNat default).f_B==(a0.getD v7.toNat default).f_B)&&true)))))=true then
  if(0:Int)≤0∧0≤v14∧v14≤v14∧v14≤((v6.map z7).length:Int) then
  if(0:Int)≤v14∧v14≤((v6.map z7).length:Int) then
  if((([(G_QKey.mk ((a0.getD v7.toNat default).f_Kind) ((a0.getD v7.toNat default).f_A) ((a0.getD v7.toNat default).f_B))]:List G_QKey)++(v6.drop v14.toNat)).map z7).length*24≤140737488355328 then
  if(decide (v14=v14))=true then
  if(((v6.take v14.toNat)++(([(G_QKey.mk ((a0.getD v7.toNat default).f_Kind) ((a0.getD v7.toNat default).f_A) ((a0.getD v7.toNat default).f_B))]:List G_QKey)++(v6.drop v14.toNat))).map z7).length*24≤140737488355328 then
  ja m a0 v7 ((v6.take v14.toNat)++(([(G_QKey.mk ((a0.getD v7.toNat default).f_Kind) ((a0.getD v7.toNat default).f_A) ((a0.getD v7.toNat default).f_B))]:List G_QKey)++(v6.drop v14.toNat)))
  else none
  else none
  else none
  else none
  else none
 else
  ja m a0 v7 v6
 else none
noncomputable def qd(m:Option Nat)(a0:List G_QKey)(v6:List G_QKey)(v7:Int)(v14:Int):Option (Int ⊕ (((List G_QKey)×Int) ⊕ (List G_QKey))):=
 if(((decide (v14<((v6.map z7).length:Int)))==true)=true→(0:Int)≤v14∧v14<((v6.map z7).length:Int)) then
 (if((decide (v14<((v6.map z7).length:Int)))==true)=true then jg m (G_QKey.mk ((v6.getD v14.toNat default).f_Kind) ((v6.getD v14.toNat default).f_A) ((v6.getD v14.toNat default).f_B)) (G_QKey.mk ((a0.getD v7.toNat default).f_Kind) ((a0.getD v7.toNat default).f_A) ((a0.getD v7.toNat default).f_B)) else some default).bind fun v16=>
 if((decide (v14<((v6.map z7).length:Int)))&&v16)=true then
  some (.inl (W (v14+1)))
 else
  Option.map Sum.inr (
   x6 m a0 v6 v7 v14)
 else none
noncomputable def x5(m:Option Nat)(a0:List G_QKey)(v6:List G_QKey)(v7:Int)(v14:Int):Option (((List G_QKey)×Int) ⊕ (List G_QKey)):=ky m (fun(s:Int)=>qd m a0 v6 v7 s) v14
theorem z63{a0:List G_QKey}{v7:Int}{v17:List G_QKey}{m:Option Nat}{o:(((List G_QKey)×Int) ⊕ (List G_QKey))}(h:ja m a0 v7 v17=some o) :
 LWp Try.prog kp 0 z4w (vp 0 1 (Zg a0) (Yd a0) (X5 a0) o) [(3,.osl (0,0) 3 (v17.map z7)),(7,.isl 3 (a0.map z7) false),(8,.int .i64 ((a0.map z7).length:Int)),(9,.int .i64 v7)] [((0,0),.tok)] 1:=by
 unfold ja at h
 refine zy ?_
 cases h
 exact And.intro rfl (jw (M:=[((0,0),(0,0))]) rfl (And.intro (Vw.osl _ _ _ _ rfl) (And.intro (Vw.same _ rfl) (And.intro (Vw.same _ rfl) (And.intro (Vw.same _ rfl) trivial)))) (And.intro (And.intro rfl BVw.tok) trivial))
theorem zfg{a0:List G_QKey}{v6:List G_QKey}{v7:Int}{v14:Int}{m:Option Nat}{o:(((List G_QKey)×Int) ⊕ (List G_QKey))}(h:x6 m a0 v6 v7 v14=some o) :
 LWp Try.prog kp 0 z8s (qp 1 (Z4 Try.prog kp 0 z4w (vp 0 1 (Zg a0) (Yd a0) (X5 a0) o))) [(3,.osl (0,0) 3 (v6.map z7)),(5,.ptr (1,0) 0 0),(6,.int .i64 v14),(7,.isl 3 (a0.map z7) false),(8,.int .i64 ((a0.map z7).length:Int)),(9,.int .i64 v7)] [((0,0),.tok),((1,0),.one [.int .i64 ((a0.getD v7.toNat default).f_Kind),.int .i64 ((a0.getD v7.toNat default).f_A),.int .i64 ((a0.getD v7.toNat default).f_B)])] 2:=by
 unfold x6 at h
 refine zh ?_
 refine z3g ?_
 obtain⟨h47,h⟩:=zu h
 refine And.intro (fun hp=>(And.intro (And.intro hp hp) (h47 hp))) ?_
 show yqs _ _ [(34,.cnd ((v14==((v6.map z7).length:Int))==false) (.iptr 3 (v6.map z7) v14.toNat 0)),(33,.cnd ((v14==((v6.map z7).length:Int))==false) (.int .i64 v14)),(32,.cnd ((v14==((v6.map z7).length:Int))==false) (.osl (0,0) 3 (v6.map z7))),(31,.bool (v14==((v6.map z7).length:Int))),(30,.bool (v14==((v6.map z7).length:Int))),(29,.int .i64 ((v6.map z7).length:Int)),(28,.osl (0,0) 3 (v6.map z7)),(27,.int .i64 v14),(3,.osl (0,0) 3 (v6.map z7)),(5,.ptr (1,0) 0 0),(6,.int .i64 v14),(7,.isl 3 (a0.map z7) false),(8,.int .i64 ((a0.map z7).length:Int)),(9,.int .i64 v7)] _ _
 refine Exists.intro (z7 (v6.getD v14.toNat default)) (And.intro (fun hp=>And.intro (je z7 _ _ (ws z7 (h47 hp))) (And.intro hp (And.intro (k9 (h47 hp)) (Nat.le_of_ble_eq_true rfl)))) ?_)
 refine And.intro (fun hp=>(And.intro hp hp)) ?_
 refine And.intro (fun hc=>(bqf hc)) ?_
 refine LWp.sim (e:=[(3,.osl (0,0) 3 (v6.map z7)),(5,.ptr (1,0) 0 0),(6,.int .i64 v14),(7,.isl 3 (a0.map z7) false),(8,.int .i64 ((a0.map z7).length:Int)),(9,.int .i64 v7),(38,.bool ((v14==((v6.map z7).length:Int)) || (!(((v6.getD v14.toNat default).f_Kind==(a0.getD v7.toNat default).f_Kind)&&(((v6.getD v14.toNat default).f_A==(a0.getD v7.toNat default).f_A)&&(((v6.getD v14.toNat default).f_B==(a0.getD v7.toNat default).f_B)&&true))))))]) (L:=[((0,0),.tok),((1,0),.one [.int .i64 ((a0.getD v7.toNat default).f_Kind),.int .i64 ((a0.getD v7.toNat default).f_A),.int .i64 ((a0.getD v7.toNat default).f_B)])]) (n:=2) ?_ ?_
 ·exact jw (M:=[((0,0),(0,0)),((1,0),(1,0))]) rfl (And.intro (Vw.osl _ _ _ _ rfl) (And.intro (Vw.ptr _ _ _ _ rfl) (And.intro (Vw.same _ rfl) (And.intro (Vw.same _ rfl) (And.intro (Vw.same _ rfl) (And.intro (Vw.same _ rfl) (And.intro (Vw.same _ rfl) trivial))))))) (And.intro (And.intro rfl BVw.tok) (And.intro (And.intro rfl (BVw.oneL (And.intro (Vw.same _ rfl) (And.intro (Vw.same _ rfl) (And.intro (Vw.same _ rfl) trivial))))) trivial))
 refine wc (v:=((v14==((v6.map z7).length:Int)) || (!(((v6.getD v14.toNat default).f_Kind==(a0.getD v7.toNat default).f_Kind)&&(((v6.getD v14.toNat default).f_A==(a0.getD v7.toNat default).f_A)&&(((v6.getD v14.toNat default).f_B==(a0.getD v7.toNat default).f_B)&&true)))))) rfl trivial (fun h48=>?_) (fun h48=>?_)
 ·have h:=yt h48 h
  refine z04 rfl ?_
  obtain⟨h49,h⟩:=zu h
  refine Exists.intro (.isl 3 ((v6.take v14.toNat).map z7) (decide (v14=v14))) (And.intro (zk6 z7 (slB z7 v6 _) rfl) (And.intro (And.intro rfl h49) ?_))
  obtain⟨h50,h⟩:=zu h
  refine Exists.intro (.osl (0,0) 3 ((v6.drop v14.toNat).map z7)) (And.intro (zpd z7 _ _ _ _) (And.intro (And.intro rfl h50) ?_))
  obtain⟨h51,h⟩:=zu h
  refine Exists.intro ((([(G_QKey.mk ((a0.getD v7.toNat default).f_Kind) ((a0.getD v7.toNat default).f_A) ((a0.getD v7.toNat default).f_B))]:List G_QKey)++(v6.drop v14.toNat)).map z7) (And.intro (Jc z7 ([(G_QKey.mk ((a0.getD v7.toNat default).f_Kind) ((a0.getD v7.toNat default).f_A) ((a0.getD v7.toNat default).f_B))]:List G_QKey) (v6.drop v14.toNat)) (And.intro (And.intro rfl h51) ?_))
  obtain⟨h52,h⟩:=zu h
  obtain⟨h53,h⟩:=zu h
  refine Exists.intro (((v6.take v14.toNat)++(([(G_QKey.mk ((a0.getD v7.toNat default).f_Kind) ((a0.getD v7.toNat default).f_A) ((a0.getD v7.toNat default).f_B))]:List G_QKey)++(v6.drop v14.toNat))).map z7) (And.intro (Jc z7 (v6.take v14.toNat) (([(G_QKey.mk ((a0.getD v7.toNat default).f_Kind) ((a0.getD v7.toNat default).f_A) ((a0.getD v7.toNat default).f_B))]:List G_QKey)++(v6.drop v14.toNat))) (And.intro (And.intro h52 h53) ?_))
  refine LWp.sim ?_ (z63 h)
  exact jw (M:=[((0,0),(3,0))]) rfl (And.intro (Vw.osl _ _ _ _ rfl) (And.intro (Vw.same _ rfl) (And.intro (Vw.same _ rfl) (And.intro (Vw.same _ rfl) trivial)))) (And.intro (And.intro rfl BVw.tok) trivial)
 ·have h:=qy h48 h
  refine we ?_
  refine LWp.sim ?_ (z63 h)
  exact jw (M:=[((0,0),(0,0))]) rfl (And.intro (Vw.osl _ _ _ _ rfl) (And.intro (Vw.same _ rfl) (And.intro (Vw.same _ rfl) (And.intro (Vw.same _ rfl) trivial)))) (And.intro (And.intro rfl BVw.tok) trivial)
theorem zbf{a0:List G_QKey}{v6:List G_QKey}{v7:Int}{v14:Int}{m:Option Nat}{o:Int ⊕ (((List G_QKey)×Int) ⊕ (List G_QKey))}(h:qd m a0 v6 v7 v14=some o) :
 LWp Try.prog kp 0 zdv (vp 0 2 (z0q a0 v6 v7) (z3h a0 v6 v7) (zaj a0) o) [(3,.osl (0,0) 3 (v6.map z7)),(5,.ptr (1,0) 0 0),(6,.int .i64 v14),(7,.isl 3 (a0.map z7) false),(8,.int .i64 ((a0.map z7).length:Int)),(9,.int .i64 v7)] [((0,0),.tok),((1,0),.one [.int .i64 ((a0.getD v7.toNat default).f_Kind),.int .i64 ((a0.getD v7.toNat default).f_A),.int .i64 ((a0.getD v7.toNat default).f_B)])] 2:=by
 unfold qd at h
 refine zh ?_
 refine zh ?_
 refine z04 rfl ?_
 obtain⟨h44,h⟩:=zu h
 refine And.intro (fun hp=>(And.intro (And.intro hp hp) (h44 hp))) ?_
 show Y2 _ _ _ [(20,.cnd ((decide (v14<((v6.map z7).length:Int)))==true) (.iptr 3 (v6.map z7) v14.toNat 0)),(19,.cnd ((decide (v14<((v6.map z7).length:Int)))==true) (.int .i64 v14)),(18,.cnd ((decide (v14<((v6.map z7).length:Int)))==true) (.osl (0,0) 3 (v6.map z7))),(17,.bool (decide (v14<((v6.map z7).length:Int)))),(16,.bool (decide (v14<((v6.map z7).length:Int)))),(15,.int .i64 ((v6.map z7).length:Int)),(14,.osl (0,0) 3 (v6.map z7)),(13,.int .i64 v14),(3,.osl (0,0) 3 (v6.map z7)),(5,.ptr (1,0) 0 0),(6,.int .i64 v14),(7,.isl 3 (a0.map z7) false),(8,.int .i64 ((a0.map z7).length:Int)),(9,.int .i64 v7)] _ _
 refine Exists.intro (z7 (v6.getD v14.toNat default)) (And.intro (fun hp=>And.intro (je z7 _ _ (ws z7 (h44 hp))) (And.intro hp (And.intro (k9 (h44 hp)) (Nat.le_of_ble_eq_true rfl)))) ?_)
 obtain⟨v16,h45,h⟩:=bind_some h
 refine Or.inl (Exists.intro (.bool v16) (And.intro (fun hp=>And.intro (And.intro hp hp) (PFn.call (zr8 (yt hp h45)) (And.intro (Vw.same _ rfl) (And.intro (Vw.same _ rfl) trivial)) (And.intro rfl (And.intro rfl rfl)))) ?_))
 refine And.intro (fun hc=>(bqt hc)) ?_
 refine LWp.sim (e:=[(3,.osl (0,0) 3 (v6.map z7)),(5,.ptr (1,0) 0 0),(6,.int .i64 v14),(7,.isl 3 (a0.map z7) false),(8,.int .i64 ((a0.map z7).length:Int)),(9,.int .i64 v7),(24,.bool ((decide (v14<((v6.map z7).length:Int)))&&v16))]) (L:=[((0,0),.tok),((1,0),.one [.int .i64 ((a0.getD v7.toNat default).f_Kind),.int .i64 ((a0.getD v7.toNat default).f_A),.int .i64 ((a0.getD v7.toNat default).f_B)])]) (n:=2) ?_ ?_
 ·exact jw (M:=[((0,0),(0,0)),((1,0),(1,0))]) rfl (And.intro (Vw.osl _ _ _ _ rfl) (And.intro (Vw.ptr _ _ _ _ rfl) (And.intro (Vw.same _ rfl) (And.intro (Vw.same _ rfl) (And.intro (Vw.same _ rfl) (And.intro (Vw.same _ rfl) (And.intro (Vw.same _ rfl) trivial))))))) (And.intro (And.intro rfl BVw.tok) (And.intro (And.intro rfl (BVw.oneL (And.intro (Vw.same _ rfl) (And.intro (Vw.same _ rfl) (And.intro (Vw.same _ rfl) trivial))))) trivial))
 refine wc (v:=((decide (v14<((v6.map z7).length:Int)))&&v16)) rfl trivial (fun h46=>?_) (fun h46=>?_)
 ·have h:=yt h46 h
  refine we ?_
  refine jd ?_
  refine zy ?_
  cases h
  exact And.intro rfl (jw (M:=[((0,0),(0,0)),((1,0),(1,0))]) rfl (And.intro (Vw.osl _ _ _ _ rfl) (And.intro (Vw.ptr _ _ _ _ rfl) (And.intro (Vw.same _ rfl) (And.intro (Vw.same _ rfl) (And.intro (Vw.same _ rfl) (And.intro (Vw.same _ rfl) trivial)))))) (And.intro (And.intro rfl BVw.tok) (And.intro (And.intro rfl (BVw.oneL (And.intro (Vw.same _ rfl) (And.intro (Vw.same _ rfl) (And.intro (Vw.same _ rfl) trivial))))) trivial)))
 ·have h:=qy h46 h
  refine Z7 ?_
  obtain⟨o,hq,rfl⟩:=Option.map_eq_some_iff.1 h
  replace h:=hq;clear hq
  refine And.intro nofun ?_
  refine LWp.sim ?_ (zfg h)
  exact jw (M:=[((0,0),(0,0)),((1,0),(1,0))]) rfl (And.intro (Vw.osl _ _ _ _ rfl) (And.intro (Vw.ptr _ _ _ _ rfl) (And.intro (Vw.same _ rfl) (And.intro (Vw.same _ rfl) (And.intro (Vw.same _ rfl) (And.intro (Vw.same _ rfl) trivial)))))) (And.intro (And.intro rfl BVw.tok) (And.intro (And.intro rfl (BVw.oneL (And.intro (Vw.same _ rfl) (And.intro (Vw.same _ rfl) (And.intro (Vw.same _ rfl) trivial))))) trivial))
theorem zf1{a0:List G_QKey}{v6:List G_QKey}{v7:Int}{v14:Int}{m:Option Nat}{o:(((List G_QKey)×Int) ⊕ (List G_QKey))}(h:x5 m a0 v6 v7 v14=some o) :
 LWp Try.prog kp 0 (.loop zdv) (qp 2 (Z4 Try.prog kp 0 z8s (qp 1 (Z4 Try.prog kp 0 z4w (vp 0 1 (Zg a0) (Yd a0) (X5 a0) o))))) [(3,.osl (0,0) 3 (v6.map z7)),(5,.ptr (1,0) 0 0),(6,.int .i64 v14),(7,.isl 3 (a0.map z7) false),(8,.int .i64 ((a0.map z7).length:Int)),(9,.int .i64 v7)] [((0,0),.tok),((1,0),.one [.int .i64 ((a0.getD v7.toNat default).f_Kind),.int .i64 ((a0.getD v7.toNat default).f_A),.int .i64 ((a0.getD v7.toNat default).f_B)])] 2:=
 j7 (m:=m) (s:=(v14:Int)) (r:=o) (fun(s:Int)=>qd m a0 v6 v7 s) (z0q a0 v6 v7) (z3h a0 v6 v7) (zaj a0) (fun s o h=>zbf h) h
noncomputable def jy(m:Option Nat)(v6:List G_QKey):Option (List G_QKey):=
 some v6
noncomputable def x3(m:Option Nat)(a0:List G_QKey)(v6:List G_QKey)(v7:Int):Option (((List G_QKey)×Int) ⊕ (List G_QKey)):=
 if(decide (v7<((a0.map z7).length:Int)))=true then
  if(0:Int)≤v7∧v7<((a0.map z7).length:Int) then
  x5 m a0 v6 v7 0
  else none
 else
  Option.map Sum.inr (
   jy m v6)
noncomputable def jc(m:Option Nat)(a0:List G_QKey)(v6:List G_QKey)(v7:Int):Option (List G_QKey):=ky m (fun(s:((List G_QKey)×Int))=>x3 m a0 s.1 s.2) (v6,v7)
theorem zh0{a0:List G_QKey}{v6:List G_QKey}{m:Option Nat}{o:(List G_QKey)}(h:jy m v6=some o) :
 LWp Try.prog kp 0 z9b (zjl a0 o) [(3,.osl (0,0) 3 (v6.map z7))] [((0,0),.tok)] 1:=by
 unfold jy at h
 refine zh ?_
 refine zy ?_
 refine ua ?_
 cases h
 exact And.intro trivial (And.intro rfl (Vw.oslI _ _ _))
theorem zbv{a0:List G_QKey}{v6:List G_QKey}{v7:Int}{m:Option Nat}{o:((List G_QKey)×Int) ⊕ (List G_QKey)}(h:x3 m a0 v6 v7=some o) :
 LWp Try.prog kp 0 zf6 (vp 0 1 (Zg a0) (Yd a0) (X5 a0) o) [(3,.osl (0,0) 3 (v6.map z7)),(7,.isl 3 (a0.map z7) false),(8,.int .i64 ((a0.map z7).length:Int)),(9,.int .i64 v7)] [((0,0),.tok)] 1:=by
 unfold x3 at h
 refine zh ?_
 refine zy ?_
 refine zh ?_
 refine wc (v:=(decide (v7<((a0.map z7).length:Int)))) rfl trivial (fun h36=>?_) (fun h36=>?_)
 ·have h:=yt h36 h
  refine we ?_
  refine zh ?_
  refine jd ?_
  refine zh ?_
  refine zy ?_
  obtain⟨h37,h⟩:=zu h
  refine And.intro h37 ?_
  refine Exists.intro (z7 (a0.getD v7.toNat default)) (And.intro (je z7 _ _ (ws z7 h37)) (And.intro (And.intro (k9 h37) (Nat.le_of_ble_eq_true rfl)) ?_))
  refine zh ?_
  refine zy ?_
  refine zh ?_
  refine jd ?_
  refine LWp.sim ?_ (zf1 h)
  exact jw (M:=[((0,0),(0,0)),((1,0),(1,0))]) rfl (And.intro (Vw.osl _ _ _ _ rfl) (And.intro (Vw.ptr _ _ _ _ rfl) (And.intro (Vw.same _ rfl) (And.intro (Vw.same _ rfl) (And.intro (Vw.same _ rfl) (And.intro (Vw.same _ rfl) trivial)))))) (And.intro (And.intro rfl BVw.tok) (And.intro (And.intro rfl (BVw.oneL (And.intro (Vw.same _ rfl) (And.intro (Vw.same _ rfl) (And.intro (Vw.same _ rfl) trivial))))) trivial))
 ·have h:=qy h36 h
  refine Z7 ?_
  obtain⟨o,hq,rfl⟩:=Option.map_eq_some_iff.1 h
  replace h:=hq;clear hq
  refine And.intro nofun ?_
  refine LWp.sim ?_ (zh0 h)
  exact jw (M:=[((0,0),(0,0))]) rfl (And.intro (Vw.osl _ _ _ _ rfl) trivial) (And.intro (And.intro rfl BVw.tok) trivial)
theorem ze7{a0:List G_QKey}{v6:List G_QKey}{v7:Int}{m:Option Nat}{o:(List G_QKey)}(h:jc m a0 v6 v7=some o) :
 LWp Try.prog kp 0 (.loop zf6) (qp 0 (Z4 Try.prog kp 0 z9b (zjl a0 o))) [(3,.osl (0,0) 3 (v6.map z7)),(7,.isl 3 (a0.map z7) false),(8,.int .i64 ((a0.map z7).length:Int)),(9,.int .i64 v7)] [((0,0),.tok)] 1:=
 j7 (m:=m) (s:=((v6,v7):((List G_QKey)×Int))) (r:=o) (fun(s:((List G_QKey)×Int))=>x3 m a0 s.1 s.2) (Zg a0) (Yd a0) (X5 a0) (fun s o h=>zbv h) h
noncomputable def xz(m:Option Nat)(a0:List G_QKey):Option (List G_QKey):=
 jc m a0 [] 0
theorem zgc{a0:List G_QKey}{m:Option Nat}{o:(List G_QKey)}(h:xz m a0=some o):LWp Try.prog kp 0 zmi (zjl a0 o) (yy 0 [.isl 3 (a0.map z7) false]) [] 0:=by
 unfold xz at h
 refine zh ?_
 refine zy ?_
 refine zh ?_
 refine zy ?_
 refine zh ?_
 refine zh ?_
 refine zy ?_
 refine jd ?_
 refine LWp.sim ?_ (ze7 h)
 exact jw (M:=[]) rfl (And.intro (Vw.nilO _ _ (by decide)) (And.intro (Vw.same _ rfl) (And.intro (Vw.same _ rfl) (And.intro (Vw.same _ rfl) trivial)))) (And.intro (And.intro rfl (And.intro (by decide) (by decide))) trivial)
theorem zmp{a0:List G_QKey}{m:Option Nat}{o:(List G_QKey)}(h:xz m a0=some o):PFn Try.prog 24 [.isl 3 (a0.map z7) false] (.isl 3 (o.map z7) false):=PFn.ofFnW (L:=zrm) zpj zo9 (Nat.le_of_ble_eq_true rfl) rfl (zgc h)
def zga:LCode:=(.seq (.region [⟨some 9,.bin .lss (.t 8) (.t 7),none⟩])
 (.seq (.cond (.t 9)
  .skip
  (.exit 0))
 (.seq (.block 1
  (.seq (.region [⟨some 10,.iaddr 6 (.t 6) (.t 8),none⟩,
   ⟨some 11,.load true 6 (.t 10),none⟩,
   ⟨some 5,.alloc [(.int .i64 0),(.int .i64 0),(.int .i64 0),(.int .i64 0),(.int .i64 0),(.int .i64 0)],none⟩,
   ⟨none,.store 6 (.t 5) (.t 11),none⟩])
  (.region [⟨some 12,.mv (.t 3),none⟩,
   ⟨some 13,.faddr 0 (.t 5),none⟩,
   ⟨some 14,.load true 3 (.t 13),none⟩,
   ⟨some 15,.faddr 3 (.t 5),none⟩,
   ⟨some 16,.load true 3 (.t 15),none⟩,
   ⟨some 17,.mkSl true 3 [(.int .i64 0),(.int .i64 0),(.int .i64 0)] 2 [(0,(.t 14)),(1,(.t 16))],none⟩,
   ⟨some 18,.app true 3 24 (.t 12) (.t 17),none⟩,
   ⟨some 3,.mv (.t 18),none⟩])))
 (.region [⟨some 19,.bin .add (.t 8) (.c (.int .i64 1)),none⟩,
  ⟨some 8,.mv (.t 19),none⟩]))))
def z9f:LCode:=(.seq (.region [⟨some 20,.mv (.t 3),none⟩,
 ⟨some 21,.call 24 [(.t 20)],none⟩,
 ⟨some 2,.mv (.t 21),none⟩])
 .ret)
def zmb:LCode:=(.seq (.region [⟨some 2,.mv (.c (.val (.slice none 0 0))),none⟩])
 (.seq (.region [⟨some 3,.mv (.c (.val (.slice none 0 0))),none⟩])
 (.seq (.seq (.region [⟨some 6,.mv (.t 0),none⟩,
  ⟨some 7,.len false (.t 6),none⟩,
  ⟨some 8,.mv (.c (.int .i64 0)),none⟩])
 (.block 0
  (.loop
   zga)))
 z9f)))
def Xz:Lay:=⟨22,[],false⟩
def zd1:List LRes:=[.t 2]
def zqp:LFn:=⟨1,Xz,zmb,zd1⟩
theorem znc:vi Try.prog [] 28=some zqp:=by kernel_rfl
theorem zns:Z6 Try.prog 28:=⟨_,Try.func28,rfl,rfl⟩
def zkw(a0:List G_QEdge)(o:(List G_QKey)):Exit→Env→AHeap→Nat→Prop:=Yb zd1 (wa (.isl 3 (o.map z7) false))
def z0u(a0:List G_QEdge)(s:((List G_QKey)×Int)):Env:=[(3,.osl (0,0) 3 (s.1.map z7)),(6,.isl 6 (a0.map z6) false),(7,.int .i64 ((a0.map z6).length:Int)),(8,.int .i64 s.2)]
def z62(a0:List G_QEdge)(s:((List G_QKey)×Int)):AHeap:=[((0,0),.tok)]
def z94(a0:List G_QEdge)(o:(List G_QKey)):Exit→Env→AHeap→Nat→Prop:=(qp 0 (Z4 Try.prog Xz 0 z9f (zkw a0 o)))
noncomputable def jr(m:Option Nat)(v1:List G_QKey):Option (List G_QKey):=
 (xz m v1).bind fun v3=>
 some v3
noncomputable def xy(m:Option Nat)(a0:List G_QEdge)(v1:List G_QKey)(v2:Int):Option (((List G_QKey)×Int) ⊕ (List G_QKey)):=
 if(decide (v2<((a0.map z6).length:Int)))=true then
  if(0:Int)≤v2∧v2<((a0.map z6).length:Int) then
  if((v1++([(G_QKey.mk (((a0.getD v2.toNat default).f_From).f_Kind) (((a0.getD v2.toNat default).f_From).f_A) (((a0.getD v2.toNat default).f_From).f_B)),(G_QKey.mk (((a0.getD v2.toNat default).f_To).f_Kind) (((a0.getD v2.toNat default).f_To).f_A) (((a0.getD v2.toNat default).f_To).f_B))]:List G_QKey)).map z7).length*24≤140737488355328 then
  some (.inl ((v1++([(G_QKey.mk (((a0.getD v2.toNat default).f_From).f_Kind) (((a0.getD v2.toNat default).f_From).f_A) (((a0.getD v2.toNat default).f_From).f_B)),(G_QKey.mk (((a0.getD v2.toNat default).f_To).f_Kind) (((a0.getD v2.toNat default).f_To).f_A) (((a0.getD v2.toNat default).f_To).f_B))]:List G_QKey)),(W (v2+1))))
  else none
  else none
 else
  Option.map Sum.inr (
   jr m v1)
noncomputable def js(m:Option Nat)(a0:List G_QEdge)(v1:List G_QKey)(v2:Int):Option (List G_QKey):=ky m (fun(s:((List G_QKey)×Int))=>xy m a0 s.1 s.2) (v1,v2)
theorem zcd{a0:List G_QEdge}{v1:List G_QKey}{m:Option Nat}{o:(List G_QKey)}(h:jr m v1=some o) :
 LWp Try.prog Xz 0 z9f (zkw a0 o) [(3,.osl (0,0) 3 (v1.map z7))] [((0,0),.tok)] 1:=by
 unfold jr at h
 refine zh ?_
 refine zy ?_
 obtain⟨v3,h10,h⟩:=bind_some h
 refine PFn.call (zmp h10) (And.intro (Vw.oslI _ _ _) trivial) ?_
 refine ua ?_
 cases h
 exact And.intro trivial (And.intro rfl (Vw.same _ rfl))
theorem zbu{a0:List G_QEdge}{v1:List G_QKey}{v2:Int}{m:Option Nat}{o:((List G_QKey)×Int) ⊕ (List G_QKey)}(h:xy m a0 v1 v2=some o) :
 LWp Try.prog Xz 0 zga (vp 0 1 (z0u a0) (z62 a0) (z94 a0) o) [(3,.osl (0,0) 3 (v1.map z7)),(6,.isl 6 (a0.map z6) false),(7,.int .i64 ((a0.map z6).length:Int)),(8,.int .i64 v2)] [((0,0),.tok)] 1:=by
 unfold xy at h
 refine zh ?_
 refine zy ?_
 refine zh ?_
 refine wc (v:=(decide (v2<((a0.map z6).length:Int)))) rfl trivial (fun h7=>?_) (fun h7=>?_)
 ·have h:=yt h7 h
  refine we ?_
  refine zh ?_
  refine jd ?_
  refine zh ?_
  refine zy ?_
  obtain⟨h8,h⟩:=zu h
  refine And.intro h8 ?_
  refine Exists.intro (z6 (a0.getD v2.toNat default)) (And.intro (je z6 _ _ (ws z6 h8)) (And.intro (And.intro (k9 h8) (Nat.le_of_ble_eq_true rfl)) ?_))
  refine zy ?_
  obtain⟨h9,h⟩:=zu h
  refine Exists.intro ((v1++([(G_QKey.mk (((a0.getD v2.toNat default).f_From).f_Kind) (((a0.getD v2.toNat default).f_From).f_A) (((a0.getD v2.toNat default).f_From).f_B)),(G_QKey.mk (((a0.getD v2.toNat default).f_To).f_Kind) (((a0.getD v2.toNat default).f_To).f_A) (((a0.getD v2.toNat default).f_To).f_B))]:List G_QKey)).map z7) (And.intro (Jc z7 v1 ([(G_QKey.mk (((a0.getD v2.toNat default).f_From).f_Kind) (((a0.getD v2.toNat default).f_From).f_A) (((a0.getD v2.toNat default).f_From).f_B)),(G_QKey.mk (((a0.getD v2.toNat default).f_To).f_Kind) (((a0.getD v2.toNat default).f_To).f_A) (((a0.getD v2.toNat default).f_To).f_B))]:List G_QKey)) (And.intro h9 ?_))
  refine LWp.sim (e:=[(3,.osl (0,0) 3 ((v1++([(G_QKey.mk (((a0.getD v2.toNat default).f_From).f_Kind) (((a0.getD v2.toNat default).f_From).f_A) (((a0.getD v2.toNat default).f_From).f_B)),(G_QKey.mk (((a0.getD v2.toNat default).f_To).f_Kind) (((a0.getD v2.toNat default).f_To).f_A) (((a0.getD v2.toNat default).f_To).f_B))]:List G_QKey)).map z7)),(6,.isl 6 (a0.map z6) false),(7,.int .i64 ((a0.map z6).length:Int)),(8,.int .i64 v2)]) (L:=[((0,0),.tok)]) (n:=1) ?_ ?_
  ·exact jw (M:=[((0,0),(2,0))]) rfl (And.intro (Vw.osl _ _ _ _ rfl) (And.intro (Vw.same _ rfl) (And.intro (Vw.same _ rfl) (And.intro (Vw.same _ rfl) trivial)))) (And.intro (And.intro rfl BVw.tok) trivial)
  refine zy ?_
  cases h
  exact And.intro rfl (jw (M:=[((0,0),(0,0))]) rfl (And.intro (Vw.osl _ _ _ _ rfl) (And.intro (Vw.same _ rfl) (And.intro (Vw.same _ rfl) (And.intro (Vw.same _ rfl) trivial)))) (And.intro (And.intro rfl BVw.tok) trivial))
 ·have h:=qy h7 h
  refine Z7 ?_
  obtain⟨o,hq,rfl⟩:=Option.map_eq_some_iff.1 h
  replace h:=hq;clear hq
  refine And.intro nofun ?_
  refine LWp.sim ?_ (zcd h)
  exact jw (M:=[((0,0),(0,0))]) rfl (And.intro (Vw.osl _ _ _ _ rfl) trivial) (And.intro (And.intro rfl BVw.tok) trivial)
theorem zgt{a0:List G_QEdge}{v1:List G_QKey}{v2:Int}{m:Option Nat}{o:(List G_QKey)}(h:js m a0 v1 v2=some o) :
 LWp Try.prog Xz 0 (.loop zga) (qp 0 (Z4 Try.prog Xz 0 z9f (zkw a0 o))) [(3,.osl (0,0) 3 (v1.map z7)),(6,.isl 6 (a0.map z6) false),(7,.int .i64 ((a0.map z6).length:Int)),(8,.int .i64 v2)] [((0,0),.tok)] 1:=
 j7 (m:=m) (s:=((v1,v2):((List G_QKey)×Int))) (r:=o) (fun(s:((List G_QKey)×Int))=>xy m a0 s.1 s.2) (z0u a0) (z62 a0) (z94 a0) (fun s o h=>zbu h) h
noncomputable def jt(m:Option Nat)(a0:List G_QEdge):Option (List G_QKey):=
 js m a0 [] 0
theorem zdy{a0:List G_QEdge}{m:Option Nat}{o:(List G_QKey)}(h:jt m a0=some o):LWp Try.prog Xz 0 zmb (zkw a0 o) (yy 0 [.isl 6 (a0.map z6) false]) [] 0:=by
 unfold jt at h
 refine zh ?_
 refine zy ?_
 refine zh ?_
 refine zy ?_
 refine zh ?_
 refine zh ?_
 refine zy ?_
 refine jd ?_
 refine LWp.sim ?_ (zgt h)
 exact jw (M:=[]) rfl (And.intro (Vw.nilO _ _ (by decide)) (And.intro (Vw.same _ rfl) (And.intro (Vw.same _ rfl) (And.intro (Vw.same _ rfl) trivial)))) (And.intro (And.intro rfl (And.intro (by decide) (by decide))) trivial)
theorem zpy{a0:List G_QEdge}{m:Option Nat}{o:(List G_QKey)}(h:jt m a0=some o):PFn Try.prog 28 [.isl 6 (a0.map z6) false] (.isl 3 (o.map z7) false):=PFn.ofFnW (L:=zqp) znc zns (Nat.le_of_ble_eq_true rfl) rfl (zdy h)
def zdj:LCode:=(.seq (.region [⟨some 10,.bin .lss (.t 9) (.t 8),none⟩])
 (.seq (.cond (.t 10)
  .skip
  (.exit 0))
 (.seq (.block 1
  (.seq (.region [⟨some 11,.mv (.t 9),none⟩,
   ⟨some 12,.iaddr 3 (.t 7) (.t 9),none⟩,
   ⟨some 13,.load true 3 (.t 12),none⟩,
   ⟨some 6,.alloc [(.int .i64 0),(.int .i64 0),(.int .i64 0)],none⟩,
   ⟨some 5,.mv (.t 11),none⟩,
   ⟨none,.store 3 (.t 6) (.t 13),none⟩])
  (.seq (.region [⟨some 14,.load true 3 (.t 3),none⟩,
   ⟨some 15,.load true 3 (.t 6),none⟩,
   ⟨some 16,.eq false (.agg [.int,.int,.int]) (.t 14) (.t 15),none⟩])
  (.cond (.t 16)
   (.seq (.region [⟨some 17,.mv (.t 5),none⟩,
    ⟨some 4,.mv (.t 17),none⟩])
   .ret)
   .skip))))
 (.region [⟨some 18,.bin .add (.t 9) (.c (.int .i64 1)),none⟩,
  ⟨some 9,.mv (.t 18),none⟩]))))
def z8m:LCode:=(.seq (.region [⟨some 4,.mv (.c (.int .i64 (-1))),none⟩])
 .ret)
def zlq:LCode:=(.seq (.region [⟨some 3,.box (.t 1),none⟩,
 ⟨some 4,.mv (.c (.int .i64 0)),none⟩])
 (.seq (.seq (.region [⟨some 7,.mv (.t 0),none⟩,
  ⟨some 8,.len false (.t 7),none⟩,
  ⟨some 9,.mv (.c (.int .i64 0)),none⟩])
 (.block 0
  (.loop
   zdj)))
 z8m))
def Xx:Lay:=⟨19,[],false⟩
def zed:List LRes:=[.t 4]
def zrh:LFn:=⟨2,Xx,zlq,zed⟩
theorem zp1:vi Try.prog [] 40=some zrh:=by kernel_rfl
theorem zny:Z6 Try.prog 40:=⟨_,Try.func40,rfl,rfl⟩
def zje(a0:List G_QKey)(a1:G_QKey)(o:Int):Exit→Env→AHeap→Nat→Prop:=Yb zed (wa (.int .i64 o))
def z0x(a0:List G_QKey)(a1:G_QKey)(s:Int):Env:=[(3,.ptr (0,0) 0 0),(7,.isl 3 (a0.map z7) false),(8,.int .i64 ((a0.map z7).length:Int)),(9,.int .i64 s)]
def z5s(a0:List G_QKey)(a1:G_QKey)(s:Int):AHeap:=[((0,0),.one [.int .i64 a1.f_Kind,.int .i64 a1.f_A,.int .i64 a1.f_B])]
def z95(a0:List G_QKey)(a1:G_QKey)(o:Int):Exit→Env→AHeap→Nat→Prop:=(qp 0 (Z4 Try.prog Xx 0 z8m (zje a0 a1 o)))
noncomputable def xt(m:Option Nat):Option Int:=
 some (-1)
noncomputable def y5(m:Option Nat)(a0:List G_QKey)(a1:G_QKey)(v1:Int):Option (Int ⊕ Int):=
 if(decide (v1<((a0.map z7).length:Int)))=true then
  if(0:Int)≤v1∧v1<((a0.map z7).length:Int) then
  if((a1.f_Kind==(a0.getD v1.toNat default).f_Kind)&&((a1.f_A==(a0.getD v1.toNat default).f_A)&&((a1.f_B==(a0.getD v1.toNat default).f_B)&&true)))=true then
   Option.map Sum.inr (
    some v1)
  else
   some (.inl (W (v1+1)))
  else none
 else
  Option.map Sum.inr (
   xt m)
noncomputable def yq(m:Option Nat)(a0:List G_QKey)(a1:G_QKey)(v1:Int):Option Int:=ky m (fun(s:Int)=>y5 m a0 a1 s) v1
theorem zin{a0:List G_QKey}{a1:G_QKey}{m:Option Nat}{o:Int}(h:xt m=some o) :
 LWp Try.prog Xx 0 z8m (zje a0 a1 o) [] [] 0:=by
 unfold xt at h
 refine zh ?_
 refine zy ?_
 refine ua ?_
 cases h
 exact And.intro trivial (And.intro rfl (Vw.same _ rfl))
theorem zaq{a0:List G_QKey}{a1:G_QKey}{v1:Int}{m:Option Nat}{o:Int ⊕ Int}(h:y5 m a0 a1 v1=some o) :
 LWp Try.prog Xx 0 zdj (vp 0 1 (z0x a0 a1) (z5s a0 a1) (z95 a0 a1) o) [(3,.ptr (0,0) 0 0),(7,.isl 3 (a0.map z7) false),(8,.int .i64 ((a0.map z7).length:Int)),(9,.int .i64 v1)] [((0,0),.one [.int .i64 a1.f_Kind,.int .i64 a1.f_A,.int .i64 a1.f_B])] 1:=by
 unfold y5 at h
 refine zh ?_
 refine zy ?_
 refine zh ?_
 refine wc (v:=(decide (v1<((a0.map z7).length:Int)))) rfl trivial (fun h7=>?_) (fun h7=>?_)
 ·have h:=yt h7 h
  refine we ?_
  refine zh ?_
  refine jd ?_
  refine zh ?_
  refine zy ?_
  obtain⟨h8,h⟩:=zu h
  refine And.intro h8 ?_
  refine Exists.intro (z7 (a0.getD v1.toNat default)) (And.intro (je z7 _ _ (ws z7 h8)) (And.intro (And.intro (k9 h8) (Nat.le_of_ble_eq_true rfl)) ?_))
  refine zh ?_
  refine zy ?_
  refine LWp.sim (e:=[(3,.ptr (0,0) 0 0),(5,.int .i64 v1),(7,.isl 3 (a0.map z7) false),(8,.int .i64 ((a0.map z7).length:Int)),(9,.int .i64 v1),(16,.bool ((a1.f_Kind==(a0.getD v1.toNat default).f_Kind)&&((a1.f_A==(a0.getD v1.toNat default).f_A)&&((a1.f_B==(a0.getD v1.toNat default).f_B)&&true))))]) (L:=[((0,0),.one [.int .i64 a1.f_Kind,.int .i64 a1.f_A,.int .i64 a1.f_B])]) (n:=1) ?_ ?_
  ·exact jw (M:=[((0,0),(0,0))]) rfl (And.intro (Vw.ptr _ _ _ _ rfl) (And.intro (Vw.same _ rfl) (And.intro (Vw.same _ rfl) (And.intro (Vw.same _ rfl) (And.intro (Vw.same _ rfl) (And.intro (Vw.same _ rfl) trivial)))))) (And.intro (And.intro rfl (BVw.oneL (And.intro (Vw.same _ rfl) (And.intro (Vw.same _ rfl) (And.intro (Vw.same _ rfl) trivial))))) trivial)
  refine wc (v:=((a1.f_Kind==(a0.getD v1.toNat default).f_Kind)&&((a1.f_A==(a0.getD v1.toNat default).f_A)&&((a1.f_B==(a0.getD v1.toNat default).f_B)&&true)))) rfl trivial (fun h9=>?_) (fun h9=>?_)
  ·have h:=yt h9 h
   refine zh ?_
   refine zy ?_
   refine ua ?_
   obtain⟨o,hq,rfl⟩:=Option.map_eq_some_iff.1 h
   replace h:=hq;clear hq
   refine And.intro nofun ?_
   cases h
   exact And.intro trivial (And.intro rfl (Vw.same _ rfl))
  ·have h:=qy h9 h
   refine we ?_
   refine zy ?_
   cases h
   exact And.intro rfl (jw (M:=[((0,0),(0,0))]) rfl (And.intro (Vw.ptr _ _ _ _ rfl) (And.intro (Vw.same _ rfl) (And.intro (Vw.same _ rfl) (And.intro (Vw.same _ rfl) trivial)))) (And.intro (And.intro rfl (BVw.oneL (And.intro (Vw.same _ rfl) (And.intro (Vw.same _ rfl) (And.intro (Vw.same _ rfl) trivial))))) trivial))
 ·have h:=qy h7 h
  refine Z7 ?_
  obtain⟨o,hq,rfl⟩:=Option.map_eq_some_iff.1 h
  replace h:=hq;clear hq
  refine And.intro nofun ?_
  refine LWp.sim ?_ (zin h)
  exact jw (M:=[]) rfl trivial trivial
theorem zcg{a0:List G_QKey}{a1:G_QKey}{v1:Int}{m:Option Nat}{o:Int}(h:yq m a0 a1 v1=some o) :
 LWp Try.prog Xx 0 (.loop zdj) (qp 0 (Z4 Try.prog Xx 0 z8m (zje a0 a1 o))) [(3,.ptr (0,0) 0 0),(7,.isl 3 (a0.map z7) false),(8,.int .i64 ((a0.map z7).length:Int)),(9,.int .i64 v1)] [((0,0),.one [.int .i64 a1.f_Kind,.int .i64 a1.f_A,.int .i64 a1.f_B])] 1:=
 j7 (m:=m) (s:=(v1:Int)) (r:=o) (fun(s:Int)=>y5 m a0 a1 s) (z0x a0 a1) (z5s a0 a1) (z95 a0 a1) (fun s o h=>zaq h) h
noncomputable def x8(m:Option Nat)(a0:List G_QKey)(a1:G_QKey):Option Int:=
 yq m a0 a1 0
theorem zcj{a0:List G_QKey}{a1:G_QKey}{m:Option Nat}{o:Int}(h:x8 m a0 a1=some o):LWp Try.prog Xx 0 zlq (zje a0 a1 o) (yy 0 [.isl 3 (a0.map z7) false,.agg [.int .i64 a1.f_Kind,.int .i64 a1.f_A,.int .i64 a1.f_B]]) [] 0:=by
 unfold x8 at h
 refine zh ?_
 refine zy ?_
 refine zh ?_
 refine zh ?_
 refine zy ?_
 refine jd ?_
 refine LWp.sim ?_ (zcg h)
 exact jw (M:=[((0,0),(0,0))]) rfl (And.intro (Vw.ptr _ _ _ _ rfl) (And.intro (Vw.same _ rfl) (And.intro (Vw.same _ rfl) (And.intro (Vw.same _ rfl) trivial)))) (And.intro (And.intro rfl (BVw.oneL (And.intro (Vw.same _ rfl) (And.intro (Vw.same _ rfl) (And.intro (Vw.same _ rfl) trivial))))) trivial)
theorem zqs{a0:List G_QKey}{a1:G_QKey}{m:Option Nat}{o:Int}(h:x8 m a0 a1=some o):PFn Try.prog 40 [.isl 3 (a0.map z7) false,.agg [.int .i64 a1.f_Kind,.int .i64 a1.f_A,.int .i64 a1.f_B]] (.int .i64 o):=PFn.ofFnW (L:=zrh) zp1 zny (Nat.le_of_ble_eq_true rfl) rfl (zcj h)
def zlr:LCode:=(.seq (.region [⟨some 3,.box (.t 1),none⟩,
 ⟨some 4,.mv (.c (.bool false)),none⟩])
 (.seq (.region [⟨some 5,.mv (.t 0),none⟩,
  ⟨some 6,.load true 3 (.t 3),none⟩,
  ⟨some 7,.call 40 [(.t 5),(.t 6)],none⟩,
  ⟨some 8,.bin .geq (.t 7) (.c (.int .i64 0)),none⟩,
  ⟨some 4,.mv (.t 8),none⟩])
 .ret))
def zge:Lay:=⟨9,[],false⟩
def zg2:List LRes:=[.t 4]
def zqg:LFn:=⟨2,zge,zlr,zg2⟩
theorem zph:vi Try.prog [] 23=some zqg:=by kernel_rfl
theorem znp:Z6 Try.prog 23:=⟨_,Try.func23,rfl,rfl⟩
noncomputable def zk(m:Option Nat)(a0:List G_QKey)(a1:G_QKey):Option Bool:=
 (x8 m a0 a1).bind fun v1=>
 some (decide (v1≥0))
def zt8(a0:List G_QKey)(a1:G_QKey)(o:Bool):Exit→Env→AHeap→Nat→Prop:=Yb zg2 (wa (.bool o))
theorem zel{a0:List G_QKey}{a1:G_QKey}{m:Option Nat}{o:Bool}(h:zk m a0 a1=some o):LWp Try.prog zge 0 zlr (zt8 a0 a1 o) (yy 0 [.isl 3 (a0.map z7) false,.agg [.int .i64 a1.f_Kind,.int .i64 a1.f_A,.int .i64 a1.f_B]]) [] 0:=by
 unfold zk at h
 refine zh ?_
 refine zy ?_
 refine zh ?_
 refine zy ?_
 obtain⟨v1,h1,h⟩:=bind_some h
 refine PFn.call (zqs h1) (And.intro (Vw.same _ rfl) (And.intro (Vw.same _ rfl) trivial)) ?_
 show Y2 _ _ _ [(7,.int .i64 v1),(6,.agg [.int .i64 a1.f_Kind,.int .i64 a1.f_A,.int .i64 a1.f_B]),(5,.isl 3 (a0.map z7) false),(4,.bool false),(3,.ptr (0,0) 0 0),(0,.isl 3 (a0.map z7) false),(1,.agg [.int .i64 a1.f_Kind,.int .i64 a1.f_A,.int .i64 a1.f_B])] _ _
 refine ua ?_
 cases h
 exact And.intro trivial (And.intro rfl (Vw.same _ rfl))
theorem z9i{a0:List G_QKey}{a1:G_QKey}{m:Option Nat}{o:Bool}(h:zk m a0 a1=some o):PFn Try.prog 23 [.isl 3 (a0.map z7) false,.agg [.int .i64 a1.f_Kind,.int .i64 a1.f_A,.int .i64 a1.f_B]] (.bool o):=PFn.ofFnW (L:=zqg) zph znp (Nat.le_of_ble_eq_true rfl) rfl (zel h)
end Go.Proofs.Ytejfgjggcoemeaa
