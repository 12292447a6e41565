/-
  Own text GenC of this claim: what functions of the given program compute, in plain Lean, and the proof; no condition.
-/
import Derived.Test.YtejfgjggcoemeaaGenB
namespace Go.Proofs.Ytejfgjggcoemeaa
open Go.Fx
set_option linter.unusedVariables false
def zmm:LCode:=(.region [⟨some 38,.bin .add (.t 12) (.c (.int .i64 1)),none⟩,
 ⟨some 12,.mv (.t 38),none⟩])
def zfm:LCode:=(.seq (.region [⟨some 13,.bin .lss (.t 12) (.t 11),none⟩])
 (.seq (.cond (.t 13)
  .skip
  (.exit 2))
 (.seq (.block 3
  (.seq (.region [⟨some 14,.iaddr 6 (.t 10) (.t 12),none⟩,
   ⟨some 15,.load true 6 (.t 14),none⟩,
   ⟨some 8,.alloc [(.int .i64 0),(.int .i64 0),(.int .i64 0),(.int .i64 0),(.int .i64 0),(.int .i64 0)],none⟩,
   ⟨none,.store 6 (.t 8) (.t 15),none⟩])
  (.seq (.region [⟨some 16,.faddr 0 (.t 8),none⟩,
   ⟨some 17,.load true 3 (.t 16),none⟩,
   ⟨some 18,.load true 3 (.t 3),none⟩,
   ⟨some 19,.eq false (.agg [.int,.int,.int]) (.t 17) (.t 18),none⟩,
   ⟨some 20,.mv (.t 19),none⟩,
   ⟨some 21,.mv (.t 5),some (20,false)⟩,
   ⟨some 22,.faddr 0 (.t 8),some (20,false)⟩,
   ⟨some 23,.load true 3 (.t 22),some (20,false)⟩,
   ⟨some 24,.call 23 [(.t 21),(.t 23)],some (20,false)⟩,
   ⟨some 25,.pick (.t 20) (.c (.bool true)) (.t 24),none⟩,
   ⟨some 26,.mv (.t 25),none⟩,
   ⟨some 27,.mv (.t 5),some (26,true)⟩,
   ⟨some 28,.faddr 3 (.t 8),some (26,true)⟩,
   ⟨some 29,.load true 3 (.t 28),some (26,true)⟩,
   ⟨some 30,.call 23 [(.t 27),(.t 29)],some (26,true)⟩,
   ⟨some 31,.un .not (.t 30),some (26,true)⟩,
   ⟨some 32,.pick (.t 26) (.t 31) (.c (.bool false)),none⟩])
  (.cond (.t 32)
   (.seq (.region [⟨some 33,.mv (.t 5),none⟩,
    ⟨some 34,.faddr 3 (.t 8),none⟩,
    ⟨some 35,.load true 3 (.t 34),none⟩,
    ⟨some 36,.mkSl true 3 [(.int .i64 0),(.int .i64 0),(.int .i64 0)] 1 [(0,(.t 35))],none⟩,
    ⟨some 37,.app true 3 24 (.t 33) (.t 36),none⟩,
    ⟨some 5,.mv (.t 37),none⟩])
   (.region [⟨some 6,.mv (.c (.bool true)),none⟩]))
   .skip))))
 zmm)))
def zhv:LCode:=(.seq (.seq (.region [⟨some 9,.mv (.t 6),none⟩])
 (.cond (.t 9)
  .skip
  (.exit 0)))
 (.block 1
  (.seq (.region [⟨some 6,.mv (.c (.bool false)),none⟩])
  (.seq (.region [⟨some 10,.mv (.t 0),none⟩,
   ⟨some 11,.len false (.t 10),none⟩,
   ⟨some 12,.mv (.c (.int .i64 0)),none⟩])
  (.block 2
   (.loop
    zfm))))))
def z9a:LCode:=(.seq (.region [⟨some 39,.mv (.t 5),none⟩,
 ⟨some 40,.call 24 [(.t 39)],none⟩,
 ⟨some 4,.mv (.t 40),none⟩])
 .ret)
def zmx:LCode:=(.seq (.region [⟨some 3,.box (.t 1),none⟩,
 ⟨some 4,.mv (.c (.val (.slice none 0 0))),none⟩])
 (.seq (.region [⟨some 5,.mv (.c (.val (.slice none 0 0))),none⟩])
 (.seq (.seq (.region [⟨some 6,.mv (.c (.bool true)),none⟩])
 (.block 0
  (.loop
   zhv)))
 z9a)))
def Y7:Lay:=⟨41,[],false⟩
def zdb:List LRes:=[.t 4]
def zr3:LFn:=⟨2,Y7,zmx,zdb⟩
theorem znw:vi Try.prog [] 10=some zr3:=by kernel_rfl
theorem zoz:Z6 Try.prog 10:=⟨_,Try.func10,rfl,rfl⟩
def zja(a0:List G_QEdge)(a1:G_QKey)(o:(List G_QKey)):Exit→Env→AHeap→Nat→Prop:=Yb zdb (wa (.isl 3 (o.map z7) false))
def Xg(a0:List G_QEdge)(a1:G_QKey)(s:((List G_QKey)×Bool)):Env:=[(0,.isl 6 (a0.map z6) false),(3,.ptr (0,0) 0 0),(5,.osl (1,0) 3 (s.1.map z7)),(6,.bool s.2)]
def Ji(a0:List G_QEdge)(a1:G_QKey)(s:((List G_QKey)×Bool)):AHeap:=[((0,0),.one [.int .i64 a1.f_Kind,.int .i64 a1.f_A,.int .i64 a1.f_B]),((1,0),.tok)]
def Vt(a0:List G_QEdge)(a1:G_QKey)(o:(List G_QKey)):Exit→Env→AHeap→Nat→Prop:=(qp 0 (Z4 Try.prog Y7 0 z9a (zja a0 a1 o)))
def Wm(a0:List G_QEdge)(a1:G_QKey)(s:((List G_QKey)×Bool×Int)):Env:=[(0,.isl 6 (a0.map z6) false),(3,.ptr (0,0) 0 0),(5,.osl (1,0) 3 (s.1.map z7)),(6,.bool s.2.1),(10,.isl 6 (a0.map z6) false),(11,.int .i64 ((a0.map z6).length:Int)),(12,.int .i64 s.2.2)]
def Uj(a0:List G_QEdge)(a1:G_QKey)(s:((List G_QKey)×Bool×Int)):AHeap:=[((0,0),.one [.int .i64 a1.f_Kind,.int .i64 a1.f_A,.int .i64 a1.f_B]),((1,0),.tok)]
def z2k(a0:List G_QEdge)(a1:G_QKey)(o:(((List G_QKey)×Bool) ⊕ (List G_QKey))):Exit→Env→AHeap→Nat→Prop:=(qp 2 (qp 1 (vp 0 2 (Xg a0 a1) (Ji a0 a1) (Vt a0 a1) o)))
noncomputable def xn(m:Option Nat)(a0:List G_QEdge)(a1:G_QKey)(v39:Int)(v46:List G_QKey)(v47:Bool):Option (((List G_QKey)×Bool×Int) ⊕ (((List G_QKey)×Bool) ⊕ (List G_QKey))):=
 some (.inl (v46,v47,(W (v39+1))))
theorem z5m{a0:List G_QEdge}{a1:G_QKey}{v39:Int}{v46:List G_QKey}{v47:Bool}{m:Option Nat}{o:(((List G_QKey)×Bool×Int) ⊕ (((List G_QKey)×Bool) ⊕ (List G_QKey)))}(h:xn m a0 a1 v39 v46 v47=some o) :
 LWp Try.prog Y7 0 zmm (vp 0 2 (Wm a0 a1) (Uj a0 a1) (z2k a0 a1) o) [(0,.isl 6 (a0.map z6) false),(3,.ptr (0,0) 0 0),(5,.osl (1,0) 3 (v46.map z7)),(6,.bool v47),(10,.isl 6 (a0.map z6) false),(11,.int .i64 ((a0.map z6).length:Int)),(12,.int .i64 v39)] [((0,0),.one [.int .i64 a1.f_Kind,.int .i64 a1.f_A,.int .i64 a1.f_B]),((1,0),.tok)] 2:=by
 unfold xn at h
 refine zy ?_
 cases h
 exact And.intro rfl (jw (M:=[((0,0),(0,0)),((1,0),(1,0))]) rfl (And.intro (Vw.same _ rfl) (And.intro (Vw.ptr _ _ _ _ rfl) (And.intro (Vw.osl _ _ _ _ rfl) (And.intro (Vw.same _ rfl) (And.intro (Vw.same _ rfl) (And.intro (Vw.same _ rfl) (And.intro (Vw.same _ rfl) trivial))))))) (And.intro (And.intro rfl (BVw.oneL (And.intro (Vw.same _ rfl) (And.intro (Vw.same _ rfl) (And.intro (Vw.same _ rfl) trivial))))) (And.intro (And.intro rfl BVw.tok) trivial)))
noncomputable def q7(m:Option Nat)(a0:List G_QEdge)(a1:G_QKey)(v37:List G_QKey)(v38:Bool)(v39:Int):Option (((List G_QKey)×Bool×Int) ⊕ (((List G_QKey)×Bool) ⊕ (List G_QKey))):=
 if(decide (v39<((a0.map z6).length:Int)))=true then
  if(0:Int)≤v39∧v39<((a0.map z6).length:Int) then
  (if(((((a0.getD v39.toNat default).f_From).f_Kind==a1.f_Kind)&&((((a0.getD v39.toNat default).f_From).f_A==a1.f_A)&&((((a0.getD v39.toNat default).f_From).f_B==a1.f_B)&&true)))==false)=true then zk m v37 (G_QKey.mk (((a0.getD v39.toNat default).f_From).f_Kind) (((a0.getD v39.toNat default).f_From).f_A) (((a0.getD v39.toNat default).f_From).f_B)) else some default).bind fun v44=>
  (if((((((a0.getD v39.toNat default).f_From).f_Kind==a1.f_Kind)&&((((a0.getD v39.toNat default).f_From).f_A==a1.f_A)&&((((a0.getD v39.toNat default).f_From).f_B==a1.f_B)&&true))) || v44)==true)=true then zk m v37 (G_QKey.mk (((a0.getD v39.toNat default).f_To).f_Kind) (((a0.getD v39.toNat default).f_To).f_A) (((a0.getD v39.toNat default).f_To).f_B)) else some default).bind fun v45=>
  if((((((a0.getD v39.toNat default).f_From).f_Kind==a1.f_Kind)&&((((a0.getD v39.toNat default).f_From).f_A==a1.f_A)&&((((a0.getD v39.toNat default).f_From).f_B==a1.f_B)&&true))) || v44)&&(!v45))=true then
   if((v37++([(G_QKey.mk (((a0.getD v39.toNat default).f_To).f_Kind) (((a0.getD v39.toNat default).f_To).f_A) (((a0.getD v39.toNat default).f_To).f_B))]:List G_QKey)).map z7).length*24≤140737488355328 then
   xn m a0 a1 v39 (v37++([(G_QKey.mk (((a0.getD v39.toNat default).f_To).f_Kind) (((a0.getD v39.toNat default).f_To).f_A) (((a0.getD v39.toNat default).f_To).f_B))]:List G_QKey)) true
   else none
  else
   xn m a0 a1 v39 v37 v38
  else none
 else
  Option.map Sum.inr (
   some (.inl (v37,v38)))
noncomputable def qv(m:Option Nat)(a0:List G_QEdge)(a1:G_QKey)(v37:List G_QKey)(v38:Bool)(v39:Int):Option (((List G_QKey)×Bool) ⊕ (List G_QKey)):=ky m (fun(s:((List G_QKey)×Bool×Int))=>q7 m a0 a1 s.1 s.2.1 s.2.2) (v37,v38,v39)
theorem zay{a0:List G_QEdge}{a1:G_QKey}{v37:List G_QKey}{v38:Bool}{v39:Int}{m:Option Nat}{o:((List G_QKey)×Bool×Int) ⊕ (((List G_QKey)×Bool) ⊕ (List G_QKey))}(h:q7 m a0 a1 v37 v38 v39=some o) :
 LWp Try.prog Y7 0 zfm (vp 0 2 (Wm a0 a1) (Uj a0 a1) (z2k a0 a1) o) [(0,.isl 6 (a0.map z6) false),(3,.ptr (0,0) 0 0),(5,.osl (1,0) 3 (v37.map z7)),(6,.bool v38),(10,.isl 6 (a0.map z6) false),(11,.int .i64 ((a0.map z6).length:Int)),(12,.int .i64 v39)] [((0,0),.one [.int .i64 a1.f_Kind,.int .i64 a1.f_A,.int .i64 a1.f_B]),((1,0),.tok)] 2:=by
 unfold q7 at h
 refine zh ?_
 refine zy ?_
 refine zh ?_
 refine wc (v:=(decide (v39<((a0.map z6).length:Int)))) rfl trivial (fun h51=>?_) (fun h51=>?_)
 ·have h:=yt h51 h
  refine we ?_
  refine zh ?_
  refine jd ?_
  refine zh ?_
  refine zy ?_
  obtain⟨h52,h⟩:=zu h
  refine And.intro h52 ?_
  refine Exists.intro (z6 (a0.getD v39.toNat default)) (And.intro (je z6 _ _ (ws z6 h52)) (And.intro (And.intro (k9 h52) (Nat.le_of_ble_eq_true rfl)) ?_))
  refine zh ?_
  refine zy ?_
  refine And.intro (fun hp=>hp) ?_
  show Y2 _ _ _ [(23,.cnd (((((a0.getD v39.toNat default).f_From).f_Kind==a1.f_Kind)&&((((a0.getD v39.toNat default).f_From).f_A==a1.f_A)&&((((a0.getD v39.toNat default).f_From).f_B==a1.f_B)&&true)))==false) (.agg [.int .i64 (((a0.getD v39.toNat default).f_From).f_Kind),.int .i64 (((a0.getD v39.toNat default).f_From).f_A),.int .i64 (((a0.getD v39.toNat default).f_From).f_B)])),(22,.cnd (((((a0.getD v39.toNat default).f_From).f_Kind==a1.f_Kind)&&((((a0.getD v39.toNat default).f_From).f_A==a1.f_A)&&((((a0.getD v39.toNat default).f_From).f_B==a1.f_B)&&true)))==false) (.ptr (2,0) 0 0)),(21,.cnd (((((a0.getD v39.toNat default).f_From).f_Kind==a1.f_Kind)&&((((a0.getD v39.toNat default).f_From).f_A==a1.f_A)&&((((a0.getD v39.toNat default).f_From).f_B==a1.f_B)&&true)))==false) (.osl (1,0) 3 (v37.map z7))),(20,.bool ((((a0.getD v39.toNat default).f_From).f_Kind==a1.f_Kind)&&((((a0.getD v39.toNat default).f_From).f_A==a1.f_A)&&((((a0.getD v39.toNat default).f_From).f_B==a1.f_B)&&true)))),(19,.bool ((((a0.getD v39.toNat default).f_From).f_Kind==a1.f_Kind)&&((((a0.getD v39.toNat default).f_From).f_A==a1.f_A)&&((((a0.getD v39.toNat default).f_From).f_B==a1.f_B)&&true)))),(18,.agg [.int .i64 a1.f_Kind,.int .i64 a1.f_A,.int .i64 a1.f_B]),(17,.agg [.int .i64 (((a0.getD v39.toNat default).f_From).f_Kind),.int .i64 (((a0.getD v39.toNat default).f_From).f_A),.int .i64 (((a0.getD v39.toNat default).f_From).f_B)]),(16,.ptr (2,0) 0 0),(8,.ptr (2,0) 0 0),(15,.agg [.int .i64 (((a0.getD v39.toNat default).f_From).f_Kind),.int .i64 (((a0.getD v39.toNat default).f_From).f_A),.int .i64 (((a0.getD v39.toNat default).f_From).f_B),.int .i64 (((a0.getD v39.toNat default).f_To).f_Kind),.int .i64 (((a0.getD v39.toNat default).f_To).f_A),.int .i64 (((a0.getD v39.toNat default).f_To).f_B)]),(14,.iptr 6 (a0.map z6) v39.toNat 0),(13,.bool (decide (v39<((a0.map z6).length:Int)))),(0,.isl 6 (a0.map z6) false),(3,.ptr (0,0) 0 0),(5,.osl (1,0) 3 (v37.map z7)),(6,.bool v38),(10,.isl 6 (a0.map z6) false),(11,.int .i64 ((a0.map z6).length:Int)),(12,.int .i64 v39)] _ _
  obtain⟨v44,h53,h⟩:=bind_some h
  refine Or.inl (Exists.intro (.bool v44) (And.intro (fun hp=>And.intro (And.intro hp hp) (PFn.call (z9i (yt hp h53)) (And.intro (Vw.oslI _ _ _) (And.intro (Vw.same _ rfl) trivial)) (And.intro rfl (And.intro rfl rfl)))) ?_))
  refine And.intro (fun hc=>(bqf hc)) ?_
  refine And.intro (fun hp=>hp) ?_
  show Y2 _ _ _ [(29,.cnd ((((((a0.getD v39.toNat default).f_From).f_Kind==a1.f_Kind)&&((((a0.getD v39.toNat default).f_From).f_A==a1.f_A)&&((((a0.getD v39.toNat default).f_From).f_B==a1.f_B)&&true))) || v44)==true) (.agg [.int .i64 (((a0.getD v39.toNat default).f_To).f_Kind),.int .i64 (((a0.getD v39.toNat default).f_To).f_A),.int .i64 (((a0.getD v39.toNat default).f_To).f_B)])),(28,.cnd ((((((a0.getD v39.toNat default).f_From).f_Kind==a1.f_Kind)&&((((a0.getD v39.toNat default).f_From).f_A==a1.f_A)&&((((a0.getD v39.toNat default).f_From).f_B==a1.f_B)&&true))) || v44)==true) (.ptr (2,0) 0 3)),(27,.cnd ((((((a0.getD v39.toNat default).f_From).f_Kind==a1.f_Kind)&&((((a0.getD v39.toNat default).f_From).f_A==a1.f_A)&&((((a0.getD v39.toNat default).f_From).f_B==a1.f_B)&&true))) || v44)==true) (.osl (1,0) 3 (v37.map z7))),(26,.bool (((((a0.getD v39.toNat default).f_From).f_Kind==a1.f_Kind)&&((((a0.getD v39.toNat default).f_From).f_A==a1.f_A)&&((((a0.getD v39.toNat default).f_From).f_B==a1.f_B)&&true))) || v44)),(25,.bool (((((a0.getD v39.toNat default).f_From).f_Kind==a1.f_Kind)&&((((a0.getD v39.toNat default).f_From).f_A==a1.f_A)&&((((a0.getD v39.toNat default).f_From).f_B==a1.f_B)&&true))) || v44)),(24,.cnd (((((a0.getD v39.toNat default).f_From).f_Kind==a1.f_Kind)&&((((a0.getD v39.toNat default).f_From).f_A==a1.f_A)&&((((a0.getD v39.toNat default).f_From).f_B==a1.f_B)&&true)))==false) (.bool v44)),(23,.cnd (((((a0.getD v39.toNat default).f_From).f_Kind==a1.f_Kind)&&((((a0.getD v39.toNat default).f_From).f_A==a1.f_A)&&((((a0.getD v39.toNat default).f_From).f_B==a1.f_B)&&true)))==false) (.agg [.int .i64 (((a0.getD v39.toNat default).f_From).f_Kind),.int .i64 (((a0.getD v39.toNat default).f_From).f_A),.int .i64 (((a0.getD v39.toNat default).f_From).f_B)])),(22,.cnd (((((a0.getD v39.toNat default).f_From).f_Kind==a1.f_Kind)&&((((a0.getD v39.toNat default).f_From).f_A==a1.f_A)&&((((a0.getD v39.toNat default).f_From).f_B==a1.f_B)&&true)))==false) (.ptr (2,0) 0 0)),(21,.cnd (((((a0.getD v39.toNat default).f_From).f_Kind==a1.f_Kind)&&((((a0.getD v39.toNat default).f_From).f_A==a1.f_A)&&((((a0.getD v39.toNat default).f_From).f_B==a1.f_B)&&true)))==false) (.osl (1,0) 3 (v37.map z7))),(20,.bool ((((a0.getD v39.toNat default).f_From).f_Kind==a1.f_Kind)&&((((a0.getD v39.toNat default).f_From).f_A==a1.f_A)&&((((a0.getD v39.toNat default).f_From).f_B==a1.f_B)&&true)))),(19,.bool ((((a0.getD v39.toNat default).f_From).f_Kind==a1.f_Kind)&&((((a0.getD v39.toNat default).f_From).f_A==a1.f_A)&&((((a0.getD v39.toNat default).f_From).f_B==a1.f_B)&&true)))),(18,.agg [.int .i64 a1.f_Kind,.int .i64 a1.f_A,.int .i64 a1.f_B]),(17,.agg [.int .i64 (((a0.getD v39.toNat default).f_From).f_Kind),.int .i64 (((a0.getD v39.toNat default).f_From).f_A),.int .i64 (((a0.getD v39.toNat default).f_From).f_B)]),(16,.ptr (2,0) 0 0),(8,.ptr (2,0) 0 0),(15,.agg [.int .i64 (((a0.getD v39.toNat default).f_From).f_Kind),.int .i64 (((a0.getD v39.toNat default).f_From).f_A),.int .i64 (((a0.getD v39.toNat default).f_From).f_B),.int .i64 (((a0.getD v39.toNat default).f_To).f_Kind),.int .i64 (((a0.getD v39.toNat default).f_To).f_A),.int .i64 (((a0.getD v39.toNat default).f_To).f_B)]),(14,.iptr 6 (a0.map z6) v39.toNat 0),(13,.bool (decide (v39<((a0.map z6).length:Int)))),(0,.isl 6 (a0.map z6) false),(3,.ptr (0,0) 0 0),(5,.osl (1,0) 3 (v37.map z7)),(6,.bool v38),(10,.isl 6 (a0.map z6) false),(11,.int .i64 ((a0.map z6).length:Int)),(12,.int .i64 v39)] _ _
  obtain⟨v45,h54,h⟩:=bind_some h
  refine Or.inl (Exists.intro (.bool v45) (And.intro (fun hp=>And.intro (And.intro hp hp) (PFn.call (z9i (yt hp h54)) (And.intro (Vw.oslI _ _ _) (And.intro (Vw.same _ rfl) trivial)) (And.intro rfl (And.intro rfl rfl)))) ?_))
  refine And.intro (fun hp=>hp) ?_
  refine And.intro (fun hc=>(bqt hc)) ?_
  refine LWp.sim (e:=[(0,.isl 6 (a0.map z6) false),(3,.ptr (0,0) 0 0),(5,.osl (1,0) 3 (v37.map z7)),(6,.bool v38),(8,.ptr (2,0) 0 0),(10,.isl 6 (a0.map z6) false),(11,.int .i64 ((a0.map z6).length:Int)),(12,.int .i64 v39),(32,.bool ((((((a0.getD v39.toNat default).f_From).f_Kind==a1.f_Kind)&&((((a0.getD v39.toNat default).f_From).f_A==a1.f_A)&&((((a0.getD v39.toNat default).f_From).f_B==a1.f_B)&&true))) || v44)&&(!v45)))]) (L:=[((0,0),.one [.int .i64 a1.f_Kind,.int .i64 a1.f_A,.int .i64 a1.f_B]),((1,0),.tok),((2,0),.one [.int .i64 (((a0.getD v39.toNat default).f_From).f_Kind),.int .i64 (((a0.getD v39.toNat default).f_From).f_A),.int .i64 (((a0.getD v39.toNat default).f_From).f_B),.int .i64 (((a0.getD v39.toNat default).f_To).f_Kind),.int .i64 (((a0.getD v39.toNat default).f_To).f_A),.int .i64 (((a0.getD v39.toNat default).f_To).f_B)])]) (n:=3) ?_ ?_
  ·exact jw (M:=[((0,0),(0,0)),((1,0),(1,0)),((2,0),(2,0))]) rfl (And.intro (Vw.same _ rfl) (And.intro (Vw.ptr _ _ _ _ rfl) (And.intro (Vw.osl _ _ _ _ rfl) (And.intro (Vw.same _ rfl) (And.intro (Vw.ptr _ _ _ _ rfl) (And.intro (Vw.same _ rfl) (And.intro (Vw.same _ rfl) (And.intro (Vw.same _ rfl) (And.intro (Vw.same _ rfl) trivial))))))))) (And.intro (And.intro rfl (BVw.oneL (And.intro (Vw.same _ rfl) (And.intro (Vw.same _ rfl) (And.intro (Vw.same _ rfl) trivial))))) (And.intro (And.intro rfl BVw.tok) (And.intro (And.intro rfl (BVw.oneL (And.intro (Vw.same _ rfl) (And.intro (Vw.same _ rfl) (And.intro (Vw.same _ rfl) (And.intro (Vw.same _ rfl) (And.intro (Vw.same _ rfl) (And.intro (Vw.same _ rfl) trivial)))))))) trivial)))
  refine wc (v:=((((((a0.getD v39.toNat default).f_From).f_Kind==a1.f_Kind)&&((((a0.getD v39.toNat default).f_From).f_A==a1.f_A)&&((((a0.getD v39.toNat default).f_From).f_B==a1.f_B)&&true))) || v44)&&(!v45))) rfl trivial (fun h55=>?_) (fun h55=>?_)
  ·have h:=yt h55 h
   refine zh ?_
   refine zy ?_
   obtain⟨h56,h⟩:=zu h
   refine Exists.intro ((v37++([(G_QKey.mk (((a0.getD v39.toNat default).f_To).f_Kind) (((a0.getD v39.toNat default).f_To).f_A) (((a0.getD v39.toNat default).f_To).f_B))]:List G_QKey)).map z7) (And.intro (Jc z7 v37 ([(G_QKey.mk (((a0.getD v39.toNat default).f_To).f_Kind) (((a0.getD v39.toNat default).f_To).f_A) (((a0.getD v39.toNat default).f_To).f_B))]:List G_QKey)) (And.intro h56 ?_))
   refine zy ?_
   refine LWp.sim ?_ (z5m h)
   exact jw (M:=[((0,0),(0,0)),((1,0),(3,0))]) rfl (And.intro (Vw.same _ rfl) (And.intro (Vw.ptr _ _ _ _ rfl) (And.intro (Vw.osl _ _ _ _ rfl) (And.intro (Vw.same _ rfl) (And.intro (Vw.same _ rfl) (And.intro (Vw.same _ rfl) (And.intro (Vw.same _ rfl) trivial))))))) (And.intro (And.intro rfl (BVw.oneL (And.intro (Vw.same _ rfl) (And.intro (Vw.same _ rfl) (And.intro (Vw.same _ rfl) trivial))))) (And.intro (And.intro rfl BVw.tok) trivial))
  ·have h:=qy h55 h
   refine we ?_
   refine LWp.sim ?_ (z5m h)
   exact jw (M:=[((0,0),(0,0)),((1,0),(1,0))]) rfl (And.intro (Vw.same _ rfl) (And.intro (Vw.ptr _ _ _ _ rfl) (And.intro (Vw.osl _ _ _ _ rfl) (And.intro (Vw.same _ rfl) (And.intro (Vw.same _ rfl) (And.intro (Vw.same _ rfl) (And.intro (Vw.same _ rfl) trivial))))))) (And.intro (And.intro rfl (BVw.oneL (And.intro (Vw.same _ rfl) (And.intro (Vw.same _ rfl) (And.intro (Vw.same _ rfl) trivial))))) (And.intro (And.intro rfl BVw.tok) trivial))
 ·have h:=qy h51 h
  refine Z7 ?_
  obtain⟨o,hq,rfl⟩:=Option.map_eq_some_iff.1 h
  replace h:=hq;clear hq
  refine And.intro nofun ?_
  cases h
  exact And.intro rfl (jw (M:=[((0,0),(0,0)),((1,0),(1,0))]) rfl (And.intro (Vw.same _ rfl) (And.intro (Vw.ptr _ _ _ _ rfl) (And.intro (Vw.osl _ _ _ _ rfl) (And.intro (Vw.same _ rfl) trivial)))) (And.intro (And.intro rfl (BVw.oneL (And.intro (Vw.same _ rfl) (And.intro (Vw.same _ rfl) (And.intro (Vw.same _ rfl) trivial))))) (And.intro (And.intro rfl BVw.tok) trivial)))
theorem zi6{a0:List G_QEdge}{a1:G_QKey}{v37:List G_QKey}{v38:Bool}{v39:Int}{m:Option Nat}{o:(((List G_QKey)×Bool) ⊕ (List G_QKey))}(h:qv m a0 a1 v37 v38 v39=some o) :
 LWp Try.prog Y7 0 (.loop zfm) (qp 2 (qp 1 (vp 0 2 (Xg a0 a1) (Ji a0 a1) (Vt a0 a1) o))) [(0,.isl 6 (a0.map z6) false),(3,.ptr (0,0) 0 0),(5,.osl (1,0) 3 (v37.map z7)),(6,.bool v38),(10,.isl 6 (a0.map z6) false),(11,.int .i64 ((a0.map z6).length:Int)),(12,.int .i64 v39)] [((0,0),.one [.int .i64 a1.f_Kind,.int .i64 a1.f_A,.int .i64 a1.f_B]),((1,0),.tok)] 2:=
 j7 (m:=m) (s:=((v37,v38,v39):((List G_QKey)×Bool×Int))) (r:=o) (fun(s:((List G_QKey)×Bool×Int))=>q7 m a0 a1 s.1 s.2.1 s.2.2) (Wm a0 a1) (Uj a0 a1) (z2k a0 a1) (fun s o h=>zay h) h
noncomputable def xh(m:Option Nat)(v16:List G_QKey):Option (List G_QKey):=
 (xz m v16).bind fun v48=>
 some v48
noncomputable def zq(m:Option Nat)(a0:List G_QEdge)(a1:G_QKey)(v16:List G_QKey)(v17:Bool):Option (((List G_QKey)×Bool) ⊕ (List G_QKey)):=
 if v17=true then
  qv m a0 a1 v16 false 0
 else
  Option.map Sum.inr (
   xh m v16)
noncomputable def qt(m:Option Nat)(a0:List G_QEdge)(a1:G_QKey)(v16:List G_QKey)(v17:Bool):Option (List G_QKey):=ky m (fun(s:((List G_QKey)×Bool))=>zq m a0 a1 s.1 s.2) (v16,v17)
theorem zb1{a0:List G_QEdge}{a1:G_QKey}{v16:List G_QKey}{m:Option Nat}{o:(List G_QKey)}(h:xh m v16=some o) :
 LWp Try.prog Y7 0 z9a (zja a0 a1 o) [(5,.osl (0,0) 3 (v16.map z7))] [((0,0),.tok)] 1:=by
 unfold xh at h
 refine zh ?_
 refine zy ?_
 obtain⟨v48,h57,h⟩:=bind_some h
 refine PFn.call (zmp h57) (And.intro (Vw.oslI _ _ _) trivial) ?_
 refine ua ?_
 cases h
 exact And.intro trivial (And.intro rfl (Vw.same _ rfl))
theorem zas{a0:List G_QEdge}{a1:G_QKey}{v16:List G_QKey}{v17:Bool}{m:Option Nat}{o:((List G_QKey)×Bool) ⊕ (List G_QKey)}(h:zq m a0 a1 v16 v17=some o) :
 LWp Try.prog Y7 0 zhv (vp 0 2 (Xg a0 a1) (Ji a0 a1) (Vt a0 a1) o) [(0,.isl 6 (a0.map z6) false),(3,.ptr (0,0) 0 0),(5,.osl (1,0) 3 (v16.map z7)),(6,.bool v17)] [((0,0),.one [.int .i64 a1.f_Kind,.int .i64 a1.f_A,.int .i64 a1.f_B]),((1,0),.tok)] 2:=by
 unfold zq at h
 refine zh ?_
 refine zh ?_
 refine zy ?_
 refine wc (v:=v17) rfl trivial (fun h38=>?_) (fun h38=>?_)
 ·have h:=yt h38 h
  refine we ?_
  refine jd ?_
  refine zh ?_
  refine zy ?_
  refine zh ?_
  refine zy ?_
  refine jd ?_
  refine LWp.sim ?_ (zi6 h)
  exact jw (M:=[((0,0),(0,0)),((1,0),(1,0))]) rfl (And.intro (Vw.same _ rfl) (And.intro (Vw.ptr _ _ _ _ rfl) (And.intro (Vw.osl _ _ _ _ rfl) (And.intro (Vw.same _ rfl) (And.intro (Vw.same _ rfl) (And.intro (Vw.same _ rfl) (And.intro (Vw.same _ rfl) trivial))))))) (And.intro (And.intro rfl (BVw.oneL (And.intro (Vw.same _ rfl) (And.intro (Vw.same _ rfl) (And.intro (Vw.same _ rfl) trivial))))) (And.intro (And.intro rfl BVw.tok) trivial))
 ·have h:=qy h38 h
  refine Z7 ?_
  obtain⟨o,hq,rfl⟩:=Option.map_eq_some_iff.1 h
  replace h:=hq;clear hq
  refine And.intro nofun ?_
  refine LWp.sim ?_ (zb1 h)
  exact jw (M:=[((0,0),(1,0))]) rfl (And.intro (Vw.osl _ _ _ _ rfl) trivial) (And.intro (And.intro rfl BVw.tok) trivial)
theorem zdp{a0:List G_QEdge}{a1:G_QKey}{v16:List G_QKey}{v17:Bool}{m:Option Nat}{o:(List G_QKey)}(h:qt m a0 a1 v16 v17=some o) :
 LWp Try.prog Y7 0 (.loop zhv) (qp 0 (Z4 Try.prog Y7 0 z9a (zja a0 a1 o))) [(0,.isl 6 (a0.map z6) false),(3,.ptr (0,0) 0 0),(5,.osl (1,0) 3 (v16.map z7)),(6,.bool v17)] [((0,0),.one [.int .i64 a1.f_Kind,.int .i64 a1.f_A,.int .i64 a1.f_B]),((1,0),.tok)] 2:=
 j7 (m:=m) (s:=((v16,v17):((List G_QKey)×Bool))) (r:=o) (fun(s:((List G_QKey)×Bool))=>zq m a0 a1 s.1 s.2) (Xg a0 a1) (Ji a0 a1) (Vt a0 a1) (fun s o h=>zas h) h
noncomputable def xl(m:Option Nat)(a0:List G_QEdge)(a1:G_QKey):Option (List G_QKey):=
 qt m a0 a1 [] true
theorem zgo{a0:List G_QEdge}{a1:G_QKey}{m:Option Nat}{o:(List G_QKey)}(h:xl m a0 a1=some o):LWp Try.prog Y7 0 zmx (zja a0 a1 o) (yy 0 [.isl 6 (a0.map z6) false,.agg [.int .i64 a1.f_Kind,.int .i64 a1.f_A,.int .i64 a1.f_B]]) [] 0:=by
 unfold xl at h
 refine zh ?_
 refine zy ?_
 refine zh ?_
 refine zy ?_
 refine zh ?_
 refine zh ?_
 refine zy ?_
 refine jd ?_
 refine LWp.sim ?_ (zdp h)
 exact jw (M:=[((0,0),(0,0))]) rfl (And.intro (Vw.same _ rfl) (And.intro (Vw.ptr _ _ _ _ rfl) (And.intro (Vw.nilO _ _ (by decide)) (And.intro (Vw.same _ rfl) trivial)))) (And.intro (And.intro rfl (BVw.oneL (And.intro (Vw.same _ rfl) (And.intro (Vw.same _ rfl) (And.intro (Vw.same _ rfl) trivial))))) (And.intro (And.intro rfl (And.intro (by decide) (by decide))) trivial))
theorem zme{a0:List G_QEdge}{a1:G_QKey}{m:Option Nat}{o:(List G_QKey)}(h:xl m a0 a1=some o):PFn Try.prog 10 [.isl 6 (a0.map z6) false,.agg [.int .i64 a1.f_Kind,.int .i64 a1.f_A,.int .i64 a1.f_B]] (.isl 3 (o.map z7) false):=PFn.ofFnW (L:=zr3) znw zoz (Nat.le_of_ble_eq_true rfl) rfl (zgo h)
def zh6:LCode:=(.seq (.region [⟨some 9,.bin .lss (.t 8) (.t 7),none⟩])
 (.seq (.cond (.t 9)
  .skip
  (.exit 0))
 (.seq (.block 1
  (.seq (.region [⟨some 10,.iaddr 3 (.t 6) (.t 8),none⟩,
   ⟨some 11,.load true 3 (.t 10),none⟩,
   ⟨some 4,.alloc [(.int .i64 0),(.int .i64 0),(.int .i64 0)],none⟩,
   ⟨none,.store 3 (.t 4) (.t 11),none⟩])
  (.seq (.draw [⟨⟨some 12,.mv (.t 0),none⟩,[]⟩,
   ⟨⟨some 13,.load true 3 (.t 4),none⟩,[]⟩,
   ⟨⟨some 15,.load true 3 (.t 4),none⟩,[]⟩,
   ⟨⟨some 14,.call 10 [(.t 12),(.t 13)],none⟩,[2]⟩,
   ⟨⟨some 16,.call 23 [(.t 14),(.t 15)],none⟩,[]⟩])
  (.cond (.t 16)
   (.seq (.region [⟨some 2,.mv (.c (.bool true)),none⟩])
   .ret)
   .skip))))
 (.region [⟨some 17,.bin .add (.t 8) (.c (.int .i64 1)),none⟩,
  ⟨some 8,.mv (.t 17),none⟩]))))
def z93:LCode:=(.seq (.region [⟨some 2,.mv (.c (.bool false)),none⟩])
 .ret)
def zmq:LCode:=(.seq (.region [⟨some 2,.mv (.c (.bool false)),none⟩])
 (.seq (.seq (.region [⟨some 5,.mv (.t 0),none⟩,
  ⟨some 6,.call 28 [(.t 5)],none⟩,
  ⟨some 7,.len false (.t 6),none⟩,
  ⟨some 8,.mv (.c (.int .i64 0)),none⟩])
 (.block 0
  (.loop
   zh6)))
 z93))
def Xv:Lay:=⟨18,[],false⟩
def zce:List LRes:=[.t 2]
def zrd:LFn:=⟨1,Xv,zmq,zce⟩
theorem zp6:vi Try.prog [] 14=some zrd:=by kernel_rfl
theorem zo8:Z6 Try.prog 14:=⟨_,Try.func14,rfl,rfl⟩
def zki(a0:List G_QEdge)(o:Bool):Exit→Env→AHeap→Nat→Prop:=Yb zce (wa (.bool o))
def z1b(a0:List G_QEdge)(v1:(List G_QKey))(s:Int):Env:=[(0,.isl 6 (a0.map z6) false),(6,.isl 3 (v1.map z7) false),(7,.int .i64 ((v1.map z7).length:Int)),(8,.int .i64 s)]
def z5f(a0:List G_QEdge)(v1:(List G_QKey))(s:Int):AHeap:=[]
def z9v(a0:List G_QEdge)(o:Bool):Exit→Env→AHeap→Nat→Prop:=(qp 0 (Z4 Try.prog Xv 0 z93 (zki a0 o)))
noncomputable def wb(m:Option Nat):Option Bool:=
 some false
noncomputable def qr(m:Option Nat)(a0:List G_QEdge)(v1:(List G_QKey))(v4:Int):Option (Int ⊕ Bool):=
 if(decide (v4<((v1.map z7).length:Int)))=true then
  if(0:Int)≤v4∧v4<((v1.map z7).length:Int) then
  (xl m a0 (G_QKey.mk ((v1.getD v4.toNat default).f_Kind) ((v1.getD v4.toNat default).f_A) ((v1.getD v4.toNat default).f_B))).bind fun v7=>
  (zk m v7 (G_QKey.mk ((v1.getD v4.toNat default).f_Kind) ((v1.getD v4.toNat default).f_A) ((v1.getD v4.toNat default).f_B))).bind fun v8=>
  if v8=true then
   Option.map Sum.inr (
    some true)
  else
   some (.inl (W (v4+1)))
  else none
 else
  Option.map Sum.inr (
   wb m)
noncomputable def xk(m:Option Nat)(a0:List G_QEdge)(v1:(List G_QKey))(v4:Int):Option Bool:=ky m (fun(s:Int)=>qr m a0 v1 s) v4
theorem zg8{a0:List G_QEdge}{m:Option Nat}{o:Bool}(h:wb m=some o) :
 LWp Try.prog Xv 0 z93 (zki a0 o) [] [] 0:=by
 unfold wb at h
 refine zh ?_
 refine zy ?_
 refine ua ?_
 cases h
 exact And.intro trivial (And.intro rfl (Vw.same _ rfl))
theorem zb7{a0:List G_QEdge}{v1:(List G_QKey)}{v4:Int}{m:Option Nat}{o:Int ⊕ Bool}(h:qr m a0 v1 v4=some o) :
 LWp Try.prog Xv 0 zh6 (vp 0 0 (z1b a0 v1) (z5f a0 v1) (z9v a0) o) [(0,.isl 6 (a0.map z6) false),(6,.isl 3 (v1.map z7) false),(7,.int .i64 ((v1.map z7).length:Int)),(8,.int .i64 v4)] [] 0:=by
 unfold qr at h
 refine zh ?_
 refine zy ?_
 refine zh ?_
 refine wc (v:=(decide (v4<((v1.map z7).length:Int)))) rfl trivial (fun h12=>?_) (fun h12=>?_)
 ·have h:=yt h12 h
  refine we ?_
  refine zh ?_
  refine jd ?_
  refine zh ?_
  refine zy ?_
  obtain⟨h13,h⟩:=zu h
  refine And.intro h13 ?_
  refine Exists.intro (z7 (v1.getD v4.toNat default)) (And.intro (je z7 _ _ (ws z7 h13)) (And.intro (And.intro (k9 h13) (Nat.le_of_ble_eq_true rfl)) ?_))
  refine zh ?_
  refine Vd ?_
  obtain⟨v7,h14,h⟩:=bind_some h
  refine PFn.call (zme h14) (And.intro (Vw.same _ rfl) (And.intro (Vw.same _ rfl) trivial)) ?_
  refine And.intro rfl ?_
  obtain⟨v8,h15,h⟩:=bind_some h
  refine PFn.call (z9i h15) (And.intro (Vw.same _ rfl) (And.intro (Vw.same _ rfl) trivial)) ?_
  show yd _ _ _ _ _ [(16,.bool v8),(14,.isl 3 (v7.map z7) false),(15,.agg [.int .i64 ((v1.getD v4.toNat default).f_Kind),.int .i64 ((v1.getD v4.toNat default).f_A),.int .i64 ((v1.getD v4.toNat default).f_B)]),(13,.agg [.int .i64 ((v1.getD v4.toNat default).f_Kind),.int .i64 ((v1.getD v4.toNat default).f_A),.int .i64 ((v1.getD v4.toNat default).f_B)]),(12,.isl 6 (a0.map z6) false),(4,.ptr (0,0) 0 0),(11,.agg [.int .i64 ((v1.getD v4.toNat default).f_Kind),.int .i64 ((v1.getD v4.toNat default).f_A),.int .i64 ((v1.getD v4.toNat default).f_B)]),(10,.iptr 3 (v1.map z7) v4.toNat 0),(9,.bool (decide (v4<((v1.map z7).length:Int)))),(0,.isl 6 (a0.map z6) false),(6,.isl 3 (v1.map z7) false),(7,.int .i64 ((v1.map z7).length:Int)),(8,.int .i64 v4)] _ _
  refine LWp.sim (e:=[(0,.isl 6 (a0.map z6) false),(6,.isl 3 (v1.map z7) false),(7,.int .i64 ((v1.map z7).length:Int)),(8,.int .i64 v4),(16,.bool v8)]) (L:=[]) (n:=0) ?_ ?_
  ·exact jw (M:=[]) rfl (And.intro (Vw.same _ rfl) (And.intro (Vw.same _ rfl) (And.intro (Vw.same _ rfl) (And.intro (Vw.same _ rfl) (And.intro (Vw.same _ rfl) trivial))))) trivial
  refine wc (v:=v8) rfl trivial (fun h16=>?_) (fun h16=>?_)
  ·have h:=yt h16 h
   refine zh ?_
   refine zy ?_
   refine ua ?_
   obtain⟨o,hq,rfl⟩:=Option.map_eq_some_iff.1 h
   replace h:=hq;clear hq
   refine And.intro nofun ?_
   cases h
   exact And.intro trivial (And.intro rfl (Vw.same _ rfl))
  ·have h:=qy h16 h
   refine we ?_
   refine zy ?_
   cases h
   exact And.intro rfl (jw (M:=[]) rfl (And.intro (Vw.same _ rfl) (And.intro (Vw.same _ rfl) (And.intro (Vw.same _ rfl) (And.intro (Vw.same _ rfl) trivial)))) trivial)
 ·have h:=qy h12 h
  refine Z7 ?_
  obtain⟨o,hq,rfl⟩:=Option.map_eq_some_iff.1 h
  replace h:=hq;clear hq
  refine And.intro nofun ?_
  refine LWp.sim ?_ (zg8 h)
  exact jw (M:=[]) rfl trivial trivial
theorem zci{a0:List G_QEdge}{v1:(List G_QKey)}{v4:Int}{m:Option Nat}{o:Bool}(h:xk m a0 v1 v4=some o) :
 LWp Try.prog Xv 0 (.loop zh6) (qp 0 (Z4 Try.prog Xv 0 z93 (zki a0 o))) [(0,.isl 6 (a0.map z6) false),(6,.isl 3 (v1.map z7) false),(7,.int .i64 ((v1.map z7).length:Int)),(8,.int .i64 v4)] [] 0:=
 j7 (m:=m) (s:=(v4:Int)) (r:=o) (fun(s:Int)=>qr m a0 v1 s) (z1b a0 v1) (z5f a0 v1) (z9v a0) (fun s o h=>zb7 h) h
noncomputable def jn(m:Option Nat)(a0:List G_QEdge):Option Bool:=
 (jt m a0).bind fun v1=>
 xk m a0 v1 0
theorem zgn{a0:List G_QEdge}{m:Option Nat}{o:Bool}(h:jn m a0=some o):LWp Try.prog Xv 0 zmq (zki a0 o) (yy 0 [.isl 6 (a0.map z6) false]) [] 0:=by
 unfold jn at h
 refine zh ?_
 refine zy ?_
 refine zh ?_
 refine zh ?_
 refine zy ?_
 obtain⟨v1,h1,h⟩:=bind_some h
 refine PFn.call (zpy h1) (And.intro (Vw.same _ rfl) trivial) ?_
 refine jd ?_
 refine LWp.sim ?_ (zci h)
 exact jw (M:=[]) rfl (And.intro (Vw.same _ rfl) (And.intro (Vw.same _ rfl) (And.intro (Vw.same _ rfl) (And.intro (Vw.same _ rfl) trivial)))) trivial
theorem zpv{a0:List G_QEdge}{m:Option Nat}{o:Bool}(h:jn m a0=some o):PFn Try.prog 14 [.isl 6 (a0.map z6) false] (.bool o):=PFn.ofFnW (L:=zrd) zp6 zo8 (Nat.le_of_ble_eq_true rfl) rfl (zgn h)
def zcv:LCode:=(.seq (.region [⟨some 10,.bin .lss (.t 9) (.t 8),none⟩])
 (.seq (.cond (.t 10)
  .skip
  (.exit 0))
 (.seq (.block 1
  (.seq (.region [⟨some 11,.mv (.t 9),none⟩,
   ⟨some 12,.iaddr 6 (.t 7) (.t 9),none⟩,
   ⟨some 13,.load true 6 (.t 12),none⟩,
   ⟨some 6,.alloc [(.int .i64 0),(.int .i64 0),(.int .i64 0),(.int .i64 0),(.int .i64 0),(.int .i64 0)],none⟩,
   ⟨some 5,.mv (.t 11),none⟩,
   ⟨none,.store 6 (.t 6) (.t 13),none⟩])
  (.seq (.region [⟨some 14,.load true 6 (.t 3),none⟩,
   ⟨some 15,.load true 6 (.t 6),none⟩,
   ⟨some 16,.eq false (.agg [.int,.int,.int,.int,.int,.int]) (.t 14) (.t 15),none⟩])
  (.cond (.t 16)
   (.seq (.region [⟨some 17,.mv (.t 5),none⟩,
    ⟨some 4,.mv (.t 17),none⟩])
   .ret)
   .skip))))
 (.region [⟨some 18,.bin .add (.t 9) (.c (.int .i64 1)),none⟩,
  ⟨some 9,.mv (.t 18),none⟩]))))
def z9q:LCode:=(.seq (.region [⟨some 4,.mv (.c (.int .i64 (-1))),none⟩])
 .ret)
def zm0:LCode:=(.seq (.region [⟨some 3,.box (.t 1),none⟩,
 ⟨some 4,.mv (.c (.int .i64 0)),none⟩])
 (.seq (.seq (.region [⟨some 7,.mv (.t 0),none⟩,
  ⟨some 8,.len false (.t 7),none⟩,
  ⟨some 9,.mv (.c (.int .i64 0)),none⟩])
 (.block 0
  (.loop
   zcv)))
 z9q))
def Xt:Lay:=⟨19,[],false⟩
def zit:List LRes:=[.t 4]
def zqz:LFn:=⟨2,Xt,zm0,zit⟩
theorem zp4:vi Try.prog [] 45=some zqz:=by kernel_rfl
theorem zp7:Z6 Try.prog 45:=⟨_,Try.func45,rfl,rfl⟩
def zjj(a0:List G_QEdge)(a1:G_QEdge)(o:Int):Exit→Env→AHeap→Nat→Prop:=Yb zit (wa (.int .i64 o))
def z0f(a0:List G_QEdge)(a1:G_QEdge)(s:Int):Env:=[(3,.ptr (0,0) 0 0),(7,.isl 6 (a0.map z6) false),(8,.int .i64 ((a0.map z6).length:Int)),(9,.int .i64 s)]
def z5h(a0:List G_QEdge)(a1:G_QEdge)(s:Int):AHeap:=[((0,0),.one [.int .i64 a1.f_From.f_Kind,.int .i64 a1.f_From.f_A,.int .i64 a1.f_From.f_B,.int .i64 a1.f_To.f_Kind,.int .i64 a1.f_To.f_A,.int .i64 a1.f_To.f_B])]
def z9x(a0:List G_QEdge)(a1:G_QEdge)(o:Int):Exit→Env→AHeap→Nat→Prop:=(qp 0 (Z4 Try.prog Xt 0 z9q (zjj a0 a1 o)))
noncomputable def xi(m:Option Nat):Option Int:=
 some (-1)
noncomputable def zr(m:Option Nat)(a0:List G_QEdge)(a1:G_QEdge)(v1:Int):Option (Int ⊕ Int):=
 if(decide (v1<((a0.map z6).length:Int)))=true then
  if(0:Int)≤v1∧v1<((a0.map z6).length:Int) then
  if((a1.f_From.f_Kind==((a0.getD v1.toNat default).f_From).f_Kind)&&((a1.f_From.f_A==((a0.getD v1.toNat default).f_From).f_A)&&((a1.f_From.f_B==((a0.getD v1.toNat default).f_From).f_B)&&((a1.f_To.f_Kind==((a0.getD v1.toNat default).f_To).f_Kind)&&((a1.f_To.f_A==((a0.getD v1.toNat default).f_To).f_A)&&((a1.f_To.f_B==((a0.getD v1.toNat default).f_To).f_B)&&true))))))=true then
   Option.map Sum.inr (
    some v1)
  else
   some (.inl (W (v1+1)))
  else none
 else
  Option.map Sum.inr (
   xi m)
noncomputable def ye(m:Option Nat)(a0:List G_QEdge)(a1:G_QEdge)(v1:Int):Option Int:=ky m (fun(s:Int)=>zr m a0 a1 s) v1
theorem zdq{a0:List G_QEdge}{a1:G_QEdge}{m:Option Nat}{o:Int}(h:xi m=some o) :
 LWp Try.prog Xt 0 z9q (zjj a0 a1 o) [] [] 0:=by
 unfold xi at h
 refine zh ?_
 refine zy ?_
 refine ua ?_
 cases h
 exact And.intro trivial (And.intro rfl (Vw.same _ rfl))
theorem zam{a0:List G_QEdge}{a1:G_QEdge}{v1:Int}{m:Option Nat}{o:Int ⊕ Int}(h:zr m a0 a1 v1=some o) :
 LWp Try.prog Xt 0 zcv (vp 0 1 (z0f a0 a1) (z5h a0 a1) (z9x a0 a1) o) [(3,.ptr (0,0) 0 0),(7,.isl 6 (a0.map z6) false),(8,.int .i64 ((a0.map z6).length:Int)),(9,.int .i64 v1)] [((0,0),.one [.int .i64 a1.f_From.f_Kind,.int .i64 a1.f_From.f_A,.int .i64 a1.f_From.f_B,.int .i64 a1.f_To.f_Kind,.int .i64 a1.f_To.f_A,.int .i64 a1.f_To.f_B])] 1:=by
 unfold zr at h
 refine zh ?_
 refine zy ?_
 refine zh ?_
 refine wc (v:=(decide (v1<((a0.map z6).length:Int)))) rfl trivial (fun h7=>?_) (fun h7=>?_)
 ·have h:=yt h7 h
  refine we ?_
  refine zh ?_
  refine jd ?_
  refine zh ?_
  refine zy ?_
  obtain⟨h8,h⟩:=zu h
  refine And.intro h8 ?_
  refine Exists.intro (z6 (a0.getD v1.toNat default)) (And.intro (je z6 _ _ (ws z6 h8)) (And.intro (And.intro (k9 h8) (Nat.le_of_ble_eq_true rfl)) ?_))
  refine zh ?_
  refine zy ?_
  refine LWp.sim (e:=[(3,.ptr (0,0) 0 0),(5,.int .i64 v1),(7,.isl 6 (a0.map z6) false),(8,.int .i64 ((a0.map z6).length:Int)),(9,.int .i64 v1),(16,.bool ((a1.f_From.f_Kind==((a0.getD v1.toNat default).f_From).f_Kind)&&((a1.f_From.f_A==((a0.getD v1.toNat default).f_From).f_A)&&((a1.f_From.f_B==((a0.getD v1.toNat default).f_From).f_B)&&((a1.f_To.f_Kind==((a0.getD v1.toNat default).f_To).f_Kind)&&((a1.f_To.f_A==((a0.getD v1.toNat default).f_To).f_A)&&((a1.f_To.f_B==((a0.getD v1.toNat default).f_To).f_B)&&true)))))))]) (L:=[((0,0),.one [.int .i64 a1.f_From.f_Kind,.int .i64 a1.f_From.f_A,.int .i64 a1.f_From.f_B,.int .i64 a1.f_To.f_Kind,.int .i64 a1.f_To.f_A,.int .i64 a1.f_To.f_B])]) (n:=1) ?_ ?_
  ·exact jw (M:=[((0,0),(0,0))]) rfl (And.intro (Vw.ptr _ _ _ _ rfl) (And.intro (Vw.same _ rfl) (And.intro (Vw.same _ rfl) (And.intro (Vw.same _ rfl) (And.intro (Vw.same _ rfl) (And.intro (Vw.same _ rfl) trivial)))))) (And.intro (And.intro rfl (BVw.oneL (And.intro (Vw.same _ rfl) (And.intro (Vw.same _ rfl) (And.intro (Vw.same _ rfl) (And.intro (Vw.same _ rfl) (And.intro (Vw.same _ rfl) (And.intro (Vw.same _ rfl) trivial)))))))) trivial)
  refine wc (v:=((a1.f_From.f_Kind==((a0.getD v1.toNat default).f_From).f_Kind)&&((a1.f_From.f_A==((a0.getD v1.toNat default).f_From).f_A)&&((a1.f_From.f_B==((a0.getD v1.toNat default).f_From).f_B)&&((a1.f_To.f_Kind==((a0.getD v1.toNat default).f_To).f_Kind)&&((a1.f_To.f_A==((a0.getD v1.toNat default).f_To).f_A)&&((a1.f_To.f_B==((a0.getD v1.toNat default).f_To).f_B)&&true))))))) rfl trivial (fun h9=>?_) (fun h9=>?_)
  ·have h:=yt h9 h
   refine zh ?_
   refine zy ?_
   refine ua ?_
   obtain⟨o,hq,rfl⟩:=Option.map_eq_some_iff.1 h
   replace h:=hq;clear hq
   refine And.intro nofun ?_
   cases h
   exact And.intro trivial (And.intro rfl (Vw.same _ rfl))
  ·have h:=qy h9 h
   refine we ?_
   refine zy ?_
   cases h
   exact And.intro rfl (jw (M:=[((0,0),(0,0))]) rfl (And.intro (Vw.ptr _ _ _ _ rfl) (And.intro (Vw.same _ rfl) (And.intro (Vw.same _ rfl) (And.intro (Vw.same _ rfl) trivial)))) (And.intro (And.intro rfl (BVw.oneL (And.intro (Vw.same _ rfl) (And.intro (Vw.same _ rfl) (And.intro (Vw.same _ rfl) (And.intro (Vw.same _ rfl) (And.intro (Vw.same _ rfl) (And.intro (Vw.same _ rfl) trivial)))))))) trivial))
 ·have h:=qy h7 h
  refine Z7 ?_
  obtain⟨o,hq,rfl⟩:=Option.map_eq_some_iff.1 h
  replace h:=hq;clear hq
  refine And.intro nofun ?_
  refine LWp.sim ?_ (zdq h)
  exact jw (M:=[]) rfl trivial trivial
theorem zdz{a0:List G_QEdge}{a1:G_QEdge}{v1:Int}{m:Option Nat}{o:Int}(h:ye m a0 a1 v1=some o) :
 LWp Try.prog Xt 0 (.loop zcv) (qp 0 (Z4 Try.prog Xt 0 z9q (zjj a0 a1 o))) [(3,.ptr (0,0) 0 0),(7,.isl 6 (a0.map z6) false),(8,.int .i64 ((a0.map z6).length:Int)),(9,.int .i64 v1)] [((0,0),.one [.int .i64 a1.f_From.f_Kind,.int .i64 a1.f_From.f_A,.int .i64 a1.f_From.f_B,.int .i64 a1.f_To.f_Kind,.int .i64 a1.f_To.f_A,.int .i64 a1.f_To.f_B])] 1:=
 j7 (m:=m) (s:=(v1:Int)) (r:=o) (fun(s:Int)=>zr m a0 a1 s) (z0f a0 a1) (z5h a0 a1) (z9x a0 a1) (fun s o h=>zam h) h
noncomputable def x4(m:Option Nat)(a0:List G_QEdge)(a1:G_QEdge):Option Int:=
 ye m a0 a1 0
theorem zgk{a0:List G_QEdge}{a1:G_QEdge}{m:Option Nat}{o:Int}(h:x4 m a0 a1=some o):LWp Try.prog Xt 0 zm0 (zjj a0 a1 o) (yy 0 [.isl 6 (a0.map z6) false,.agg [.int .i64 a1.f_From.f_Kind,.int .i64 a1.f_From.f_A,.int .i64 a1.f_From.f_B,.int .i64 a1.f_To.f_Kind,.int .i64 a1.f_To.f_A,.int .i64 a1.f_To.f_B]]) [] 0:=by
 unfold x4 at h
 refine zh ?_
 refine zy ?_
 refine zh ?_
 refine zh ?_
 refine zy ?_
 refine jd ?_
 refine LWp.sim ?_ (zdz h)
 exact jw (M:=[((0,0),(0,0))]) rfl (And.intro (Vw.ptr _ _ _ _ rfl) (And.intro (Vw.same _ rfl) (And.intro (Vw.same _ rfl) (And.intro (Vw.same _ rfl) trivial)))) (And.intro (And.intro rfl (BVw.oneL (And.intro (Vw.same _ rfl) (And.intro (Vw.same _ rfl) (And.intro (Vw.same _ rfl) (And.intro (Vw.same _ rfl) (And.intro (Vw.same _ rfl) (And.intro (Vw.same _ rfl) trivial)))))))) trivial)
theorem zqx{a0:List G_QEdge}{a1:G_QEdge}{m:Option Nat}{o:Int}(h:x4 m a0 a1=some o):PFn Try.prog 45 [.isl 6 (a0.map z6) false,.agg [.int .i64 a1.f_From.f_Kind,.int .i64 a1.f_From.f_A,.int .i64 a1.f_From.f_B,.int .i64 a1.f_To.f_Kind,.int .i64 a1.f_To.f_A,.int .i64 a1.f_To.f_B]] (.int .i64 o):=PFn.ofFnW (L:=zqz) zp4 zp7 (Nat.le_of_ble_eq_true rfl) rfl (zgk h)
def zms:LCode:=(.seq (.region [⟨some 3,.box (.t 1),none⟩,
 ⟨some 4,.mv (.c (.bool false)),none⟩])
 (.seq (.region [⟨some 5,.mv (.t 0),none⟩,
  ⟨some 6,.load true 6 (.t 3),none⟩,
  ⟨some 7,.call 45 [(.t 5),(.t 6)],none⟩,
  ⟨some 8,.bin .geq (.t 7) (.c (.int .i64 0)),none⟩,
  ⟨some 4,.mv (.t 8),none⟩])
 .ret))
def zi8:Lay:=⟨9,[],false⟩
def zim:List LRes:=[.t 4]
def zr1:LFn:=⟨2,zi8,zms,zim⟩
theorem zoq:vi Try.prog [] 35=some zr1:=by kernel_rfl
theorem zpi:Z6 Try.prog 35:=⟨_,Try.func35,rfl,rfl⟩
noncomputable def yg(m:Option Nat)(a0:List G_QEdge)(a1:G_QEdge):Option Bool:=
 (x4 m a0 (G_QEdge.mk (G_QKey.mk a1.f_From.f_Kind a1.f_From.f_A a1.f_From.f_B) (G_QKey.mk a1.f_To.f_Kind a1.f_To.f_A a1.f_To.f_B))).bind fun v1=>
 some (decide (v1≥0))
def zsq(a0:List G_QEdge)(a1:G_QEdge)(o:Bool):Exit→Env→AHeap→Nat→Prop:=Yb zim (wa (.bool o))
theorem zi4{a0:List G_QEdge}{a1:G_QEdge}{m:Option Nat}{o:Bool}(h:yg m a0 a1=some o):LWp Try.prog zi8 0 zms (zsq a0 a1 o) (yy 0 [.isl 6 (a0.map z6) false,.agg [.int .i64 a1.f_From.f_Kind,.int .i64 a1.f_From.f_A,.int .i64 a1.f_From.f_B,.int .i64 a1.f_To.f_Kind,.int .i64 a1.f_To.f_A,.int .i64 a1.f_To.f_B]]) [] 0:=by
 unfold yg at h
 refine zh ?_
 refine zy ?_
 refine zh ?_
 refine zy ?_
 obtain⟨v1,h1,h⟩:=bind_some h
 refine PFn.call (zqx h1) (And.intro (Vw.same _ rfl) (And.intro (Vw.same _ rfl) trivial)) ?_
 show Y2 _ _ _ [(7,.int .i64 v1),(6,.agg [.int .i64 a1.f_From.f_Kind,.int .i64 a1.f_From.f_A,.int .i64 a1.f_From.f_B,.int .i64 a1.f_To.f_Kind,.int .i64 a1.f_To.f_A,.int .i64 a1.f_To.f_B]),(5,.isl 6 (a0.map z6) false),(4,.bool false),(3,.ptr (0,0) 0 0),(0,.isl 6 (a0.map z6) false),(1,.agg [.int .i64 a1.f_From.f_Kind,.int .i64 a1.f_From.f_A,.int .i64 a1.f_From.f_B,.int .i64 a1.f_To.f_Kind,.int .i64 a1.f_To.f_A,.int .i64 a1.f_To.f_B])] _ _
 refine ua ?_
 cases h
 exact And.intro trivial (And.intro rfl (Vw.same _ rfl))
theorem zq6{a0:List G_QEdge}{a1:G_QEdge}{m:Option Nat}{o:Bool}(h:yg m a0 a1=some o):PFn Try.prog 35 [.isl 6 (a0.map z6) false,.agg [.int .i64 a1.f_From.f_Kind,.int .i64 a1.f_From.f_A,.int .i64 a1.f_From.f_B,.int .i64 a1.f_To.f_Kind,.int .i64 a1.f_To.f_A,.int .i64 a1.f_To.f_B]] (.bool o):=PFn.ofFnW (L:=zr1) zoq zpi (Nat.le_of_ble_eq_true rfl) rfl (zi4 h)
def zho:LCode:=(.seq (.region [⟨some 18,.bin .lss (.t 17) (.t 16),none⟩])
 (.seq (.cond (.t 18)
  .skip
  (.exit 2))
 (.seq (.block 3
  (.seq (.region [⟨some 19,.iaddr 6 (.t 15) (.t 17),none⟩,
   ⟨some 20,.load true 6 (.t 19),none⟩,
   ⟨some 8,.alloc [(.int .i64 0),(.int .i64 0),(.int .i64 0),(.int .i64 0),(.int .i64 0),(.int .i64 0)],none⟩,
   ⟨none,.store 6 (.t 8) (.t 20),none⟩])
  (.draw [⟨⟨some 21,.mv (.t 6),none⟩,[]⟩,
   ⟨⟨some 22,.mv (.t 21),none⟩,[]⟩,
   ⟨⟨some 23,.faddr 0 (.t 8),some (22,false)⟩,[]⟩,
   ⟨⟨some 24,.load true 3 (.t 23),some (22,false)⟩,[]⟩,
   ⟨⟨some 25,.faddr 0 (.t 5),some (22,false)⟩,[]⟩,
   ⟨⟨some 26,.load true 3 (.t 25),some (22,false)⟩,[]⟩,
   ⟨⟨some 27,.eq false (.agg [.int,.int,.int]) (.t 24) (.t 26),some (22,false)⟩,[]⟩,
   ⟨⟨some 28,.mv (.t 27),some (22,false)⟩,[]⟩,
   ⟨⟨some 29,.faddr 3 (.t 8),some (28,true)⟩,[]⟩,
   ⟨⟨some 30,.load true 3 (.t 29),some (28,true)⟩,[]⟩,
   ⟨⟨some 31,.faddr 3 (.t 5),some (28,true)⟩,[]⟩,
   ⟨⟨some 32,.load true 3 (.t 31),some (28,true)⟩,[]⟩,
   ⟨⟨some 33,.eq true (.agg [.int,.int,.int]) (.t 30) (.t 32),some (28,true)⟩,[]⟩,
   ⟨⟨some 34,.pick (.t 28) (.t 33) (.c (.bool false)),some (22,false)⟩,[]⟩,
   ⟨⟨some 35,.mv (.t 34),some (22,false)⟩,[]⟩,
   ⟨⟨some 36,.mv (.t 0),some (35,true)⟩,[]⟩,
   ⟨⟨some 37,.faddr 3 (.t 8),some (35,true)⟩,[]⟩,
   ⟨⟨some 38,.load true 3 (.t 37),some (35,true)⟩,[]⟩,
   ⟨⟨some 40,.faddr 3 (.t 5),some (35,true)⟩,[]⟩,
   ⟨⟨some 41,.load true 3 (.t 40),some (35,true)⟩,[]⟩,
   ⟨⟨some 39,.call 10 [(.t 36),(.t 38)],some (35,true)⟩,[19]⟩,
   ⟨⟨some 42,.call 23 [(.t 39),(.t 41)],some (35,true)⟩,[]⟩,
   ⟨⟨some 43,.pick (.t 35) (.t 42) (.c (.bool false)),some (22,false)⟩,[]⟩,
   ⟨⟨some 44,.pick (.t 22) (.c (.bool true)) (.t 43),none⟩,[]⟩,
   ⟨⟨some 6,.mv (.t 44),none⟩,[]⟩])))
 (.region [⟨some 45,.bin .add (.t 17) (.c (.int .i64 1)),none⟩,
  ⟨some 17,.mv (.t 45),none⟩]))))
def z8t:LCode:=(.seq (.region [⟨some 46,.mv (.t 6),none⟩,
 ⟨some 47,.un .not (.t 46),none⟩,
 ⟨some 48,.mv (.t 47),none⟩,
 ⟨some 49,.mv (.t 3),some (48,true)⟩,
 ⟨some 50,.load true 6 (.t 5),some (48,true)⟩,
 ⟨some 51,.call 35 [(.t 49),(.t 50)],some (48,true)⟩,
 ⟨some 52,.un .not (.t 51),some (48,true)⟩,
 ⟨some 53,.pick (.t 48) (.t 52) (.c (.bool false)),none⟩])
 (.cond (.t 53)
  (.region [⟨some 54,.mv (.t 3),none⟩,
   ⟨some 55,.load true 6 (.t 5),none⟩,
   ⟨some 56,.mkSl true 6 [(.int .i64 0),(.int .i64 0),(.int .i64 0),(.int .i64 0),(.int .i64 0),(.int .i64 0)] 1 [(0,(.t 55))],none⟩,
   ⟨some 57,.app true 6 48 (.t 54) (.t 56),none⟩,
   ⟨some 3,.mv (.t 57),none⟩])
  .skip))
def z3b:LCode:=(.region [⟨some 58,.bin .add (.t 11) (.c (.int .i64 1)),none⟩,
 ⟨some 11,.mv (.t 58),none⟩])
def zgy:LCode:=(.seq (.region [⟨some 12,.bin .lss (.t 11) (.t 10),none⟩])
 (.seq (.cond (.t 12)
  .skip
  (.exit 0))
 (.seq (.block 1
  (.seq (.region [⟨some 13,.iaddr 6 (.t 9) (.t 11),none⟩,
   ⟨some 14,.load true 6 (.t 13),none⟩,
   ⟨some 5,.alloc [(.int .i64 0),(.int .i64 0),(.int .i64 0),(.int .i64 0),(.int .i64 0),(.int .i64 0)],none⟩,
   ⟨none,.store 6 (.t 5) (.t 14),none⟩])
  (.seq (.region [⟨some 6,.mv (.c (.bool false)),none⟩])
  (.seq (.seq (.region [⟨some 15,.mv (.t 0),none⟩,
   ⟨some 16,.len false (.t 15),none⟩,
   ⟨some 17,.mv (.c (.int .i64 0)),none⟩])
  (.block 2
   (.loop
    zho)))
  z8t))))
 z3b)))
def z99:LCode:=(.seq (.region [⟨some 59,.mv (.t 3),none⟩,
 ⟨some 2,.mv (.t 59),none⟩])
 .ret)
def zmv:LCode:=(.seq (.region [⟨some 2,.mv (.c (.val (.slice none 0 0))),none⟩])
 (.seq (.region [⟨some 3,.mv (.c (.val (.slice none 0 0))),none⟩])
 (.seq (.seq (.region [⟨some 9,.mv (.t 0),none⟩,
  ⟨some 10,.len false (.t 9),none⟩,
  ⟨some 11,.mv (.c (.int .i64 0)),none⟩])
 (.block 0
  (.loop
   zgy)))
 z99)))
def kq:Lay:=⟨60,[],false⟩
def zch:List LRes:=[.t 2]
def zr9:LFn:=⟨1,kq,zmv,zch⟩
theorem zpb:vi Try.prog [] 20=some zr9:=by kernel_rfl
theorem zng:Z6 Try.prog 20:=⟨_,Try.func20,rfl,rfl⟩
def zky(a0:List G_QEdge)(o:(List G_QEdge)):Exit→Env→AHeap→Nat→Prop:=Yb zch (wa (.isl 6 (o.map z6) false))
def Ze(a0:List G_QEdge)(s:((List G_QEdge)×Int)):Env:=[(0,.isl 6 (a0.map z6) false),(3,.osl (0,0) 6 (s.1.map z6)),(9,.isl 6 (a0.map z6) false),(10,.int .i64 ((a0.map z6).length:Int)),(11,.int .i64 s.2)]
def Ye(a0:List G_QEdge)(s:((List G_QEdge)×Int)):AHeap:=[((0,0),.tok)]
def X9(a0:List G_QEdge)(o:(List G_QEdge)):Exit→Env→AHeap→Nat→Prop:=(qp 0 (Z4 Try.prog kq 0 z99 (zky a0 o)))
def z0e(a0:List G_QEdge)(v11:List G_QEdge)(v12:Int)(s:(Bool×Int)):Env:=[(0,.isl 6 (a0.map z6) false),(3,.osl (0,0) 6 (v11.map z6)),(5,.ptr (1,0) 0 0),(6,.bool s.1),(9,.isl 6 (a0.map z6) false),(10,.int .i64 ((a0.map z6).length:Int)),(11,.int .i64 v12),(15,.isl 6 (a0.map z6) false),(16,.int .i64 ((a0.map z6).length:Int)),(17,.int .i64 s.2)]
def z3n(a0:List G_QEdge)(v11:List G_QEdge)(v12:Int)(s:(Bool×Int)):AHeap:=[((0,0),.tok),((1,0),.one [.int .i64 (((a0.getD v12.toNat default).f_From).f_Kind),.int .i64 (((a0.getD v12.toNat default).f_From).f_A),.int .i64 (((a0.getD v12.toNat default).f_From).f_B),.int .i64 (((a0.getD v12.toNat default).f_To).f_Kind),.int .i64 (((a0.getD v12.toNat default).f_To).f_A),.int .i64 (((a0.getD v12.toNat default).f_To).f_B)])]
def z9u(a0:List G_QEdge)(o:(((List G_QEdge)×Int) ⊕ (List G_QEdge))):Exit→Env→AHeap→Nat→Prop:=(qp 2 (Z4 Try.prog kq 0 z8t (qp 1 (Z4 Try.prog kq 0 z3b (vp 0 1 (Ze a0) (Ye a0) (X9 a0) o)))))
noncomputable def xp(m:Option Nat)(a0:List G_QEdge)(v12:Int)(v32:List G_QEdge):Option (((List G_QEdge)×Int) ⊕ (List G_QEdge)):=
 some (.inl (v32,(W (v12+1))))
noncomputable def xx(m:Option Nat)(a0:List G_QEdge)(v11:List G_QEdge)(v12:Int)(v25:Bool):Option (((List G_QEdge)×Int) ⊕ (List G_QEdge)):=
 (if((!v25)==true)=true then yg m v11 (G_QEdge.mk (G_QKey.mk (((a0.getD v12.toNat default).f_From).f_Kind) (((a0.getD v12.toNat default).f_From).f_A) (((a0.getD v12.toNat default).f_From).f_B)) (G_QKey.mk (((a0.getD v12.toNat default).f_To).f_Kind) (((a0.getD v12.toNat default).f_To).f_A) (((a0.getD v12.toNat default).f_To).f_B))) else some default).bind fun v31=>
 if((!v25)&&(!v31))=true then
  if((v11++([(G_QEdge.mk (G_QKey.mk (((a0.getD v12.toNat default).f_From).f_Kind) (((a0.getD v12.toNat default).f_From).f_A) (((a0.getD v12.toNat default).f_From).f_B)) (G_QKey.mk (((a0.getD v12.toNat default).f_To).f_Kind) (((a0.getD v12.toNat default).f_To).f_A) (((a0.getD v12.toNat default).f_To).f_B)))]:List G_QEdge)).map z6).length*48≤140737488355328 then
  xp m a0 v12 (v11++([(G_QEdge.mk (G_QKey.mk (((a0.getD v12.toNat default).f_From).f_Kind) (((a0.getD v12.toNat default).f_From).f_A) (((a0.getD v12.toNat default).f_From).f_B)) (G_QKey.mk (((a0.getD v12.toNat default).f_To).f_Kind) (((a0.getD v12.toNat default).f_To).f_A) (((a0.getD v12.toNat default).f_To).f_B)))]:List G_QEdge))
  else none
 else
  xp m a0 v12 v11
noncomputable def yx(m:Option Nat)(a0:List G_QEdge)(v11:List G_QEdge)(v12:Int)(v25:Bool)(v26:Int):Option ((Bool×Int) ⊕ (((List G_QEdge)×Int) ⊕ (List G_QEdge))):=
 if(decide (v26<((a0.map z6).length:Int)))=true then
  if(0:Int)≤v26∧v26<((a0.map z6).length:Int) then
  (if((v25==false)&&((((((a0.getD v26.toNat default).f_From).f_Kind==((a0.getD v12.toNat default).f_From).f_Kind)&&((((a0.getD v26.toNat default).f_From).f_A==((a0.getD v12.toNat default).f_From).f_A)&&((((a0.getD v26.toNat default).f_From).f_B==((a0.getD v12.toNat default).f_From).f_B)&&true)))&&(!((((a0.getD v26.toNat default).f_To).f_Kind==((a0.getD v12.toNat default).f_To).f_Kind)&&((((a0.getD v26.toNat default).f_To).f_A==((a0.getD v12.toNat default).f_To).f_A)&&((((a0.getD v26.toNat default).f_To).f_B==((a0.getD v12.toNat default).f_To).f_B)&&true)))))==true))=true then xl m a0 (G_QKey.mk (((a0.getD v26.toNat default).f_To).f_Kind) (((a0.getD v26.toNat default).f_To).f_A) (((a0.getD v26.toNat default).f_To).f_B)) else some default).bind fun v29=>
  (if((v25==false)&&((((((a0.getD v26.toNat default).f_From).f_Kind==((a0.getD v12.toNat default).f_From).f_Kind)&&((((a0.getD v26.toNat default).f_From).f_A==((a0.getD v12.toNat default).f_From).f_A)&&((((a0.getD v26.toNat default).f_From).f_B==((a0.getD v12.toNat default).f_From).f_B)&&true)))&&(!((((a0.getD v26.toNat default).f_To).f_Kind==((a0.getD v12.toNat default).f_To).f_Kind)&&((((a0.getD v26.toNat default).f_To).f_A==((a0.getD v12.toNat default).f_To).f_A)&&((((a0.getD v26.toNat default).f_To).f_B==((a0.getD v12.toNat default).f_To).f_B)&&true)))))==true))=true then zk m v29 (G_QKey.mk (((a0.getD v12.toNat default).f_To).f_Kind) (((a0.getD v12.toNat default).f_To).f_A) (((a0.getD v12.toNat default).f_To).f_B)) else some default).bind fun v30=>
  some (.inl ((v25 || ((((((a0.getD v26.toNat default).f_From).f_Kind==((a0.getD v12.toNat default).f_From).f_Kind)&&((((a0.getD v26.toNat default).f_From).f_A==((a0.getD v12.toNat default).f_From).f_A)&&((((a0.getD v26.toNat default).f_From).f_B==((a0.getD v12.toNat default).f_From).f_B)&&true)))&&(!((((a0.getD v26.toNat default).f_To).f_Kind==((a0.getD v12.toNat default).f_To).f_Kind)&&((((a0.getD v26.toNat default).f_To).f_A==((a0.getD v12.toNat default).f_To).f_A)&&((((a0.getD v26.toNat default).f_To).f_B==((a0.getD v12.toNat default).f_To).f_B)&&true)))))&&v30)),(W (v26+1))))
  else none
 else
  Option.map Sum.inr (
   xx m a0 v11 v12 v25)
noncomputable def xv(m:Option Nat)(a0:List G_QEdge)(v11:List G_QEdge)(v12:Int)(v25:Bool)(v26:Int):Option (((List G_QEdge)×Int) ⊕ (List G_QEdge)):=ky m (fun(s:(Bool×Int))=>yx m a0 v11 v12 s.1 s.2) (v25,v26)
theorem z51{a0:List G_QEdge}{v12:Int}{v32:List G_QEdge}{m:Option Nat}{o:(((List G_QEdge)×Int) ⊕ (List G_QEdge))}(h:xp m a0 v12 v32=some o) :
 LWp Try.prog kq 0 z3b (vp 0 1 (Ze a0) (Ye a0) (X9 a0) o) [(0,.isl 6 (a0.map z6) false),(3,.osl (0,0) 6 (v32.map z6)),(9,.isl 6 (a0.map z6) false),(10,.int .i64 ((a0.map z6).length:Int)),(11,.int .i64 v12)] [((0,0),.tok)] 1:=by
 unfold xp at h
 refine zy ?_
 cases h
 exact And.intro rfl (jw (M:=[((0,0),(0,0))]) rfl (And.intro (Vw.same _ rfl) (And.intro (Vw.osl _ _ _ _ rfl) (And.intro (Vw.same _ rfl) (And.intro (Vw.same _ rfl) (And.intro (Vw.same _ rfl) trivial))))) (And.intro (And.intro rfl BVw.tok) trivial))
theorem zhp{a0:List G_QEdge}{v11:List G_QEdge}{v12:Int}{v25:Bool}{m:Option Nat}{o:(((List G_QEdge)×Int) ⊕ (List G_QEdge))}(h:xx m a0 v11 v12 v25=some o) :
 LWp Try.prog kq 0 z8t (qp 1 (Z4 Try.prog kq 0 z3b (vp 0 1 (Ze a0) (Ye a0) (X9 a0) o))) [(0,.isl 6 (a0.map z6) false),(3,.osl (0,0) 6 (v11.map z6)),(5,.ptr (1,0) 0 0),(6,.bool v25),(9,.isl 6 (a0.map z6) false),(10,.int .i64 ((a0.map z6).length:Int)),(11,.int .i64 v12)] [((0,0),.tok),((1,0),.one [.int .i64 (((a0.getD v12.toNat default).f_From).f_Kind),.int .i64 (((a0.getD v12.toNat default).f_From).f_A),.int .i64 (((a0.getD v12.toNat default).f_From).f_B),.int .i64 (((a0.getD v12.toNat default).f_To).f_Kind),.int .i64 (((a0.getD v12.toNat default).f_To).f_A),.int .i64 (((a0.getD v12.toNat default).f_To).f_B)])] 2:=by
 unfold xx at h
 refine zh ?_
 refine zy ?_
 obtain⟨v31,h49,h⟩:=bind_some h
 refine Or.inl (Exists.intro (.bool v31) (And.intro (fun hp=>And.intro (And.intro hp hp) (PFn.call (zq6 (yt hp h49)) (And.intro (Vw.oslI _ _ _) (And.intro (Vw.same _ rfl) trivial)) (And.intro rfl (And.intro rfl rfl)))) ?_))
 refine And.intro (fun hp=>hp) ?_
 show Y2 _ _ _ [(52,.cnd ((!v25)==true) (.bool (!v31))),(51,.cnd ((!v25)==true) (.bool v31)),(50,.cnd ((!v25)==true) (.agg [.int .i64 (((a0.getD v12.toNat default).f_From).f_Kind),.int .i64 (((a0.getD v12.toNat default).f_From).f_A),.int .i64 (((a0.getD v12.toNat default).f_From).f_B),.int .i64 (((a0.getD v12.toNat default).f_To).f_Kind),.int .i64 (((a0.getD v12.toNat default).f_To).f_A),.int .i64 (((a0.getD v12.toNat default).f_To).f_B)])),(49,.cnd ((!v25)==true) (.osl (0,0) 6 (v11.map z6))),(48,.bool (!v25)),(47,.bool (!v25)),(46,.bool v25),(0,.isl 6 (a0.map z6) false),(3,.osl (0,0) 6 (v11.map z6)),(5,.ptr (1,0) 0 0),(6,.bool v25),(9,.isl 6 (a0.map z6) false),(10,.int .i64 ((a0.map z6).length:Int)),(11,.int .i64 v12)] _ _
 refine And.intro (fun hc=>(bqt hc)) ?_
 refine LWp.sim (e:=[(0,.isl 6 (a0.map z6) false),(3,.osl (0,0) 6 (v11.map z6)),(5,.ptr (1,0) 0 0),(9,.isl 6 (a0.map z6) false),(10,.int .i64 ((a0.map z6).length:Int)),(11,.int .i64 v12),(53,.bool ((!v25)&&(!v31)))]) (L:=[((0,0),.tok),((1,0),.one [.int .i64 (((a0.getD v12.toNat default).f_From).f_Kind),.int .i64 (((a0.getD v12.toNat default).f_From).f_A),.int .i64 (((a0.getD v12.toNat default).f_From).f_B),.int .i64 (((a0.getD v12.toNat default).f_To).f_Kind),.int .i64 (((a0.getD v12.toNat default).f_To).f_A),.int .i64 (((a0.getD v12.toNat default).f_To).f_B)])]) (n:=2) ?_ ?_
 ·exact jw (M:=[((0,0),(0,0)),((1,0),(1,0))]) rfl (And.intro (Vw.same _ rfl) (And.intro (Vw.osl _ _ _ _ rfl) (And.intro (Vw.ptr _ _ _ _ rfl) (And.intro (Vw.same _ rfl) (And.intro (Vw.same _ rfl) (And.intro (Vw.same _ rfl) (And.intro (Vw.same _ rfl) trivial))))))) (And.intro (And.intro rfl BVw.tok) (And.intro (And.intro rfl (BVw.oneL (And.intro (Vw.same _ rfl) (And.intro (Vw.same _ rfl) (And.intro (Vw.same _ rfl) (And.intro (Vw.same _ rfl) (And.intro (Vw.same _ rfl) (And.intro (Vw.same _ rfl) trivial)))))))) trivial))
 refine wc (v:=((!v25)&&(!v31))) rfl trivial (fun h50=>?_) (fun h50=>?_)
 ·have h:=yt h50 h
  refine zy ?_
  obtain⟨h51,h⟩:=zu h
  refine Exists.intro ((v11++([(G_QEdge.mk (G_QKey.mk (((a0.getD v12.toNat default).f_From).f_Kind) (((a0.getD v12.toNat default).f_From).f_A) (((a0.getD v12.toNat default).f_From).f_B)) (G_QKey.mk (((a0.getD v12.toNat default).f_To).f_Kind) (((a0.getD v12.toNat default).f_To).f_A) (((a0.getD v12.toNat default).f_To).f_B)))]:List G_QEdge)).map z6) (And.intro (Jc z6 v11 ([(G_QEdge.mk (G_QKey.mk (((a0.getD v12.toNat default).f_From).f_Kind) (((a0.getD v12.toNat default).f_From).f_A) (((a0.getD v12.toNat default).f_From).f_B)) (G_QKey.mk (((a0.getD v12.toNat default).f_To).f_Kind) (((a0.getD v12.toNat default).f_To).f_A) (((a0.getD v12.toNat default).f_To).f_B)))]:List G_QEdge)) (And.intro h51 ?_))
  refine LWp.sim ?_ (z51 h)
  exact jw (M:=[((0,0),(2,0))]) rfl (And.intro (Vw.same _ rfl) (And.intro (Vw.osl _ _ _ _ rfl) (And.intro (Vw.same _ rfl) (And.intro (Vw.same _ rfl) (And.intro (Vw.same _ rfl) trivial))))) (And.intro (And.intro rfl BVw.tok) trivial)
 ·have h:=qy h50 h
  refine we ?_
  refine LWp.sim ?_ (z51 h)
  exact jw (M:=[((0,0),(0,0))]) rfl (And.intro (Vw.same _ rfl) (And.intro (Vw.osl _ _ _ _ rfl) (And.intro (Vw.same _ rfl) (And.intro (Vw.same _ rfl) (And.intro (Vw.same _ rfl) trivial))))) (And.intro (And.intro rfl BVw.tok) trivial)
theorem zbb{a0:List G_QEdge}{v11:List G_QEdge}{v12:Int}{v25:Bool}{v26:Int}{m:Option Nat}{o:(Bool×Int) ⊕ (((List G_QEdge)×Int) ⊕ (List G_QEdge))}(h:yx m a0 v11 v12 v25 v26=some o) :
 LWp Try.prog kq 0 zho (vp 0 2 (z0e a0 v11 v12) (z3n a0 v11 v12) (z9u a0) o) [(0,.isl 6 (a0.map z6) false),(3,.osl (0,0) 6 (v11.map z6)),(5,.ptr (1,0) 0 0),(6,.bool v25),(9,.isl 6 (a0.map z6) false),(10,.int .i64 ((a0.map z6).length:Int)),(11,.int .i64 v12),(15,.isl 6 (a0.map z6) false),(16,.int .i64 ((a0.map z6).length:Int)),(17,.int .i64 v26)] [((0,0),.tok),((1,0),.one [.int .i64 (((a0.getD v12.toNat default).f_From).f_Kind),.int .i64 (((a0.getD v12.toNat default).f_From).f_A),.int .i64 (((a0.getD v12.toNat default).f_From).f_B),.int .i64 (((a0.getD v12.toNat default).f_To).f_Kind),.int .i64 (((a0.getD v12.toNat default).f_To).f_A),.int .i64 (((a0.getD v12.toNat default).f_To).f_B)])] 2:=by
 unfold yx at h
 refine zh ?_
 refine zy ?_
 refine zh ?_
 refine wc (v:=(decide (v26<((a0.map z6).length:Int)))) rfl trivial (fun h45=>?_) (fun h45=>?_)
 ·have h:=yt h45 h
  refine we ?_
  refine zh ?_
  refine jd ?_
  refine zh ?_
  refine zy ?_
  obtain⟨h46,h⟩:=zu h
  refine And.intro h46 ?_
  refine Exists.intro (z6 (a0.getD v26.toNat default)) (And.intro (je z6 _ _ (ws z6 h46)) (And.intro (And.intro (k9 h46) (Nat.le_of_ble_eq_true rfl)) ?_))
  refine Vd ?_
  refine And.intro (fun hp=>hp) ?_
  show yd _ _ _ _ _ [(24,.cnd (v25==false) (.agg [.int .i64 (((a0.getD v26.toNat default).f_From).f_Kind),.int .i64 (((a0.getD v26.toNat default).f_From).f_A),.int .i64 (((a0.getD v26.toNat default).f_From).f_B)])),(23,.cnd (v25==false) (.ptr (2,0) 0 0)),(22,.bool v25),(21,.bool v25),(8,.ptr (2,0) 0 0),(20,.agg [.int .i64 (((a0.getD v26.toNat default).f_From).f_Kind),.int .i64 (((a0.getD v26.toNat default).f_From).f_A),.int .i64 (((a0.getD v26.toNat default).f_From).f_B),.int .i64 (((a0.getD v26.toNat default).f_To).f_Kind),.int .i64 (((a0.getD v26.toNat default).f_To).f_A),.int .i64 (((a0.getD v26.toNat default).f_To).f_B)]),(19,.iptr 6 (a0.map z6) v26.toNat 0),(18,.bool (decide (v26<((a0.map z6).length:Int)))),(0,.isl 6 (a0.map z6) false),(3,.osl (0,0) 6 (v11.map z6)),(5,.ptr (1,0) 0 0),(6,.bool v25),(9,.isl 6 (a0.map z6) false),(10,.int .i64 ((a0.map z6).length:Int)),(11,.int .i64 v12),(15,.isl 6 (a0.map z6) false),(16,.int .i64 ((a0.map z6).length:Int)),(17,.int .i64 v26)] _ _
  refine And.intro (fun hp=>hp) ?_
  show yd _ _ _ _ _ [(26,.cnd (v25==false) (.agg [.int .i64 (((a0.getD v12.toNat default).f_From).f_Kind),.int .i64 (((a0.getD v12.toNat default).f_From).f_A),.int .i64 (((a0.getD v12.toNat default).f_From).f_B)])),(25,.cnd (v25==false) (.ptr (1,0) 0 0)),(24,.cnd (v25==false) (.agg [.int .i64 (((a0.getD v26.toNat default).f_From).f_Kind),.int .i64 (((a0.getD v26.toNat default).f_From).f_A),.int .i64 (((a0.getD v26.toNat default).f_From).f_B)])),(23,.cnd (v25==false) (.ptr (2,0) 0 0)),(22,.bool v25),(21,.bool v25),(8,.ptr (2,0) 0 0),(20,.agg [.int .i64 (((a0.getD v26.toNat default).f_From).f_Kind),.int .i64 (((a0.getD v26.toNat default).f_From).f_A),.int .i64 (((a0.getD v26.toNat default).f_From).f_B),.int .i64 (((a0.getD v26.toNat default).f_To).f_Kind),.int .i64 (((a0.getD v26.toNat default).f_To).f_A),.int .i64 (((a0.getD v26.toNat default).f_To).f_B)]),(19,.iptr 6 (a0.map z6) v26.toNat 0),(18,.bool (decide (v26<((a0.map z6).length:Int)))),(0,.isl 6 (a0.map z6) false),(3,.osl (0,0) 6 (v11.map z6)),(5,.ptr (1,0) 0 0),(6,.bool v25),(9,.isl 6 (a0.map z6) false),(10,.int .i64 ((a0.map z6).length:Int)),(11,.int .i64 v12),(15,.isl 6 (a0.map z6) false),(16,.int .i64 ((a0.map z6).length:Int)),(17,.int .i64 v26)] _ _
  refine And.intro (fun hp=>(And.intro hp hp)) ?_
  refine And.intro (fun hp=>hp) ?_
  show yd _ _ _ _ _ [(28,.cnd (v25==false) (.bool ((((a0.getD v26.toNat default).f_From).f_Kind==((a0.getD v12.toNat default).f_From).f_Kind)&&((((a0.getD v26.toNat default).f_From).f_A==((a0.getD v12.toNat default).f_From).f_A)&&((((a0.getD v26.toNat default).f_From).f_B==((a0.getD v12.toNat default).f_From).f_B)&&true))))),(27,.cnd (v25==false) (.bool ((((a0.getD v26.toNat default).f_From).f_Kind==((a0.getD v12.toNat default).f_From).f_Kind)&&((((a0.getD v26.toNat default).f_From).f_A==((a0.getD v12.toNat default).f_From).f_A)&&((((a0.getD v26.toNat default).f_From).f_B==((a0.getD v12.toNat default).f_From).f_B)&&true))))),(26,.cnd (v25==false) (.agg [.int .i64 (((a0.getD v12.toNat default).f_From).f_Kind),.int .i64 (((a0.getD v12.toNat default).f_From).f_A),.int .i64 (((a0.getD v12.toNat default).f_From).f_B)])),(25,.cnd (v25==false) (.ptr (1,0) 0 0)),(24,.cnd (v25==false) (.agg [.int .i64 (((a0.getD v26.toNat default).f_From).f_Kind),.int .i64 (((a0.getD v26.toNat default).f_From).f_A),.int .i64 (((a0.getD v26.toNat default).f_From).f_B)])),(23,.cnd (v25==false) (.ptr (2,0) 0 0)),(22,.bool v25),(21,.bool v25),(8,.ptr (2,0) 0 0),(20,.agg [.int .i64 (((a0.getD v26.toNat default).f_From).f_Kind),.int .i64 (((a0.getD v26.toNat default).f_From).f_A),.int .i64 (((a0.getD v26.toNat default).f_From).f_B),.int .i64 (((a0.getD v26.toNat default).f_To).f_Kind),.int .i64 (((a0.getD v26.toNat default).f_To).f_A),.int .i64 (((a0.getD v26.toNat default).f_To).f_B)]),(19,.iptr 6 (a0.map z6) v26.toNat 0),(18,.bool (decide (v26<((a0.map z6).length:Int)))),(0,.isl 6 (a0.map z6) false),(3,.osl (0,0) 6 (v11.map z6)),(5,.ptr (1,0) 0 0),(6,.bool v25),(9,.isl 6 (a0.map z6) false),(10,.int .i64 ((a0.map z6).length:Int)),(11,.int .i64 v12),(15,.isl 6 (a0.map z6) false),(16,.int .i64 ((a0.map z6).length:Int)),(17,.int .i64 v26)] _ _
  refine And.intro (fun hp=>hp) ?_
  show yd _ _ _ _ _ [(30,.cnd ((v25==false)&&(((((a0.getD v26.toNat default).f_From).f_Kind==((a0.getD v12.toNat default).f_From).f_Kind)&&((((a0.getD v26.toNat default).f_From).f_A==((a0.getD v12.toNat default).f_From).f_A)&&((((a0.getD v26.toNat default).f_From).f_B==((a0.getD v12.toNat default).f_From).f_B)&&true)))==true)) (.agg [.int .i64 (((a0.getD v26.toNat default).f_To).f_Kind),.int .i64 (((a0.getD v26.toNat default).f_To).f_A),.int .i64 (((a0.getD v26.toNat default).f_To).f_B)])),(29,.cnd ((v25==false)&&(((((a0.getD v26.toNat default).f_From).f_Kind==((a0.getD v12.toNat default).f_From).f_Kind)&&((((a0.getD v26.toNat default).f_From).f_A==((a0.getD v12.toNat default).f_From).f_A)&&((((a0.getD v26.toNat default).f_From).f_B==((a0.getD v12.toNat default).f_From).f_B)&&true)))==true)) (.ptr (2,0) 0 3)),(28,.cnd (v25==false) (.bool ((((a0.getD v26.toNat default).f_From).f_Kind==((a0.getD v12.toNat default).f_From).f_Kind)&&((((a0.getD v26.toNat default).f_From).f_A==((a0.getD v12.toNat default).f_From).f_A)&&((((a0.getD v26.toNat default).f_From).f_B==((a0.getD v12.toNat default).f_From).f_B)&&true))))),(27,.cnd (v25==false) (.bool ((((a0.getD v26.toNat default).f_From).f_Kind==((a0.getD v12.toNat default).f_From).f_Kind)&&((((a0.getD v26.toNat default).f_From).f_A==((a0.getD v12.toNat default).f_From).f_A)&&((((a0.getD v26.toNat default).f_From).f_B==((a0.getD v12.toNat default).f_From).f_B)&&true))))),(26,.cnd (v25==false) (.agg [.int .i64 (((a0.getD v12.toNat default).f_From).f_Kind),.int .i64 (((a0.getD v12.toNat default).f_From).f_A),.int .i64 (((a0.getD v12.toNat default).f_From).f_B)])),(25,.cnd (v25==false) (.ptr (1,0) 0 0)),(24,.cnd (v25==false) (.agg [.int .i64 (((a0.getD v26.toNat default).f_From).f_Kind),.int .i64 (((a0.getD v26.toNat default).f_From).f_A),.int .i64 (((a0.getD v26.toNat default).f_From).f_B)])),(23,.cnd (v25==false) (.ptr (2,0) 0 0)),(22,.bool v25),(21,.bool v25),(8,.ptr (2,0) 0 0),(20,.agg [.int .i64 (((a0.getD v26.toNat default).f_From).f_Kind),.int .i64 (((a0.getD v26.toNat default).f_From).f_A),.int .i64 (((a0.getD v26.toNat default).f_From).f_B),.int .i64 (((a0.getD v26.toNat default).f_To).f_Kind),.int .i64 (((a0.getD v26.toNat default).f_To).f_A),.int .i64 (((a0.getD v26.toNat default).f_To).f_B)]),(19,.iptr 6 (a0.map z6) v26.toNat 0),(18,.bool (decide (v26<((a0.map z6).length:Int)))),(0,.isl 6 (a0.map z6) false),(3,.osl (0,0) 6 (v11.map z6)),(5,.ptr (1,0) 0 0),(6,.bool v25),(9,.isl 6 (a0.map z6) false),(10,.int .i64 ((a0.map z6).length:Int)),(11,.int .i64 v12),(15,.isl 6 (a0.map z6) false),(16,.int .i64 ((a0.map z6).length:Int)),(17,.int .i64 v26)] _ _
  refine And.intro (fun hp=>hp) ?_
  show yd _ _ _ _ _ [(32,.cnd ((v25==false)&&(((((a0.getD v26.toNat default).f_From).f_Kind==((a0.getD v12.toNat default).f_From).f_Kind)&&((((a0.getD v26.toNat default).f_From).f_A==((a0.getD v12.toNat default).f_From).f_A)&&((((a0.getD v26.toNat default).f_From).f_B==((a0.getD v12.toNat default).f_From).f_B)&&true)))==true)) (.agg [.int .i64 (((a0.getD v12.toNat default).f_To).f_Kind),.int .i64 (((a0.getD v12.toNat default).f_To).f_A),.int .i64 (((a0.getD v12.toNat default).f_To).f_B)])),(31,.cnd ((v25==false)&&(((((a0.getD v26.toNat default).f_From).f_Kind==((a0.getD v12.toNat default).f_From).f_Kind)&&((((a0.getD v26.toNat default).f_From).f_A==((a0.getD v12.toNat default).f_From).f_A)&&((((a0.getD v26.toNat default).f_From).f_B==((a0.getD v12.toNat default).f_From).f_B)&&true)))==true)) (.ptr (1,0) 0 3)),(30,.cnd ((v25==false)&&(((((a0.getD v26.toNat default).f_From).f_Kind==((a0.getD v12.toNat default).f_From).f_Kind)&&((((a0.getD v26.toNat default).f_From).f_A==((a0.getD v12.toNat default).f_From).f_A)&&((((a0.getD v26.toNat default).f_From).f_B==((a0.getD v12.toNat default).f_From).f_B)&&true)))==true)) (.agg [.int .i64 (((a0.getD v26.toNat default).f_To).f_Kind),.int .i64 (((a0.getD v26.toNat default).f_To).f_A),.int .i64 (((a0.getD v26.toNat default).f_To).f_B)])),(29,.cnd ((v25==false)&&(((((a0.getD v26.toNat default).f_From).f_Kind==((a0.getD v12.toNat default).f_From).f_Kind)&&((((a0.getD v26.toNat default).f_From).f_A==((a0.getD v12.toNat default).f_From).f_A)&&((((a0.getD v26.toNat default).f_From).f_B==((a0.getD v12.toNat default).f_From).f_B)&&true)))==true)) (.ptr (2,0) 0 3)),(28,.cnd (v25==false) (.bool ((((a0.getD v26.toNat default).f_From).f_Kind==((a0.getD v12.toNat default).f_From).f_Kind)&&((((a0.getD v26.toNat default).f_From).f_A==((a0.getD v12.toNat default).f_From).f_A)&&((((a0.getD v26.toNat default).f_From).f_B==((a0.getD v12.toNat default).f_From).f_B)&&true))))),(27,.cnd (v25==false) (.bool ((((a0.getD v26.toNat default).f_From).f_Kind==((a0.getD v12.toNat default).f_From).f_Kind)&&((((a0.getD v26.toNat default).f_From).f_A==((a0.getD v12.toNat default).f_From).f_A)&&((((a0.getD v26.toNat default).f_From).f_B==((a0.getD v12.toNat default).f_From).f_B)&&true))))),(26,.cnd (v25==false) (.agg [.int .i64 (((a0.getD v12.toNat default).f_From).f_Kind),.int .i64 (((a0.getD v12.toNat default).f_From).f_A),.int .i64 (((a0.getD v12.toNat default).f_From).f_B)])),(25,.cnd (v25==false) (.ptr (1,0) 0 0)),(24,.cnd (v25==false) (.agg [.int .i64 (((a0.getD v26.toNat default).f_From).f_Kind),.int .i64 (((a0.getD v26.toNat default).f_From).f_A),.int .i64 (((a0.getD v26.toNat default).f_From).f_B)])),(23,.cnd (v25==false) (.ptr (2,0) 0 0)),(22,.bool v25),(21,.bool v25),(8,.ptr (2,0) 0 0),(20,.agg [.int .i64 (((a0.getD v26.toNat default).f_From).f_Kind),.int .i64 (((a0.getD v26.toNat default).f_From).f_A),.int .i64 (((a0.getD v26.toNat default).f_From).f_B),.int .i64 (((a0.getD v26.toNat default).f_To).f_Kind),.int .i64 (((a0.getD v26.toNat default).f_To).f_A),.int .i64 (((a0.getD v26.toNat default).f_To).f_B)]),(19,.iptr 6 (a0.map z6) v26.toNat 0),(18,.bool (decide (v26<((a0.map z6).length:Int)))),(0,.isl 6 (a0.map z6) false),(3,.osl (0,0) 6 (v11.map z6)),(5,.ptr (1,0) 0 0),(6,.bool v25),(9,.isl 6 (a0.map z6) false),(10,.int .i64 ((a0.map z6).length:Int)),(11,.int .i64 v12),(15,.isl 6 (a0.map z6) false),(16,.int .i64 ((a0.map z6).length:Int)),(17,.int .i64 v26)] _ _
  refine And.intro (fun hp=>(And.intro hp hp)) ?_
  refine And.intro (fun hp=>(And.intro hp (fun hc=>(zpz hp (bqt hc))))) ?_
  show yd _ _ _ _ _ [(34,.cnd (v25==false) (.bool (((((a0.getD v26.toNat default).f_From).f_Kind==((a0.getD v12.toNat default).f_From).f_Kind)&&((((a0.getD v26.toNat default).f_From).f_A==((a0.getD v12.toNat default).f_From).f_A)&&((((a0.getD v26.toNat default).f_From).f_B==((a0.getD v12.toNat default).f_From).f_B)&&true)))&&(!((((a0.getD v26.toNat default).f_To).f_Kind==((a0.getD v12.toNat default).f_To).f_Kind)&&((((a0.getD v26.toNat default).f_To).f_A==((a0.getD v12.toNat default).f_To).f_A)&&((((a0.getD v26.toNat default).f_To).f_B==((a0.getD v12.toNat default).f_To).f_B)&&true))))))),(33,.cnd ((v25==false)&&(((((a0.getD v26.toNat default).f_From).f_Kind==((a0.getD v12.toNat default).f_From).f_Kind)&&((((a0.getD v26.toNat default).f_From).f_A==((a0.getD v12.toNat default).f_From).f_A)&&((((a0.getD v26.toNat default).f_From).f_B==((a0.getD v12.toNat default).f_From).f_B)&&true)))==true)) (.bool (!((((a0.getD v26.toNat default).f_To).f_Kind==((a0.getD v12.toNat default).f_To).f_Kind)&&((((a0.getD v26.toNat default).f_To).f_A==((a0.getD v12.toNat default).f_To).f_A)&&((((a0.getD v26.toNat default).f_To).f_B==((a0.getD v12.toNat default).f_To).f_B)&&true)))))),(32,.cnd ((v25==false)&&(((((a0.getD v26.toNat default).f_From).f_Kind==((a0.getD v12.toNat default).f_From).f_Kind)&&((((a0.getD v26.toNat default).f_From).f_A==((a0.getD v12.toNat default).f_From).f_A)&&((((a0.getD v26.toNat default).f_From).f_B==((a0.getD v12.toNat default).f_From).f_B)&&true)))==true)) (.agg [.int .i64 (((a0.getD v12.toNat default).f_To).f_Kind),.int .i64 (((a0.getD v12.toNat default).f_To).f_A),.int .i64 (((a0.getD v12.toNat default).f_To).f_B)])),(31,.cnd ((v25==false)&&(((((a0.getD v26.toNat default).f_From).f_Kind==((a0.getD v12.toNat default).f_From).f_Kind)&&((((a0.getD v26.toNat default).f_From).f_A==((a0.getD v12.toNat default).f_From).f_A)&&((((a0.getD v26.toNat default).f_From).f_B==((a0.getD v12.toNat default).f_From).f_B)&&true)))==true)) (.ptr (1,0) 0 3)),(30,.cnd ((v25==false)&&(((((a0.getD v26.toNat default).f_From).f_Kind==((a0.getD v12.toNat default).f_From).f_Kind)&&((((a0.getD v26.toNat default).f_From).f_A==((a0.getD v12.toNat default).f_From).f_A)&&((((a0.getD v26.toNat default).f_From).f_B==((a0.getD v12.toNat default).f_From).f_B)&&true)))==true)) (.agg [.int .i64 (((a0.getD v26.toNat default).f_To).f_Kind),.int .i64 (((a0.getD v26.toNat default).f_To).f_A),.int .i64 (((a0.getD v26.toNat default).f_To).f_B)])),(29,.cnd ((v25==false)&&(((((a0.getD v26.toNat default).f_From).f_Kind==((a0.getD v12.toNat default).f_From).f_Kind)&&((((a0.getD v26.toNat default).f_From).f_A==((a0.getD v12.toNat default).f_From).f_A)&&((((a0.getD v26.toNat default).f_From).f_B==((a0.getD v12.toNat default).f_From).f_B)&&true)))==true)) (.ptr (2,0) 0 3)),(28,.cnd (v25==false) (.bool ((((a0.getD v26.toNat default).f_From).f_Kind==((a0.getD v12.toNat default).f_From).f_Kind)&&((((a0.getD v26.toNat default).f_From).f_A==((a0.getD v12.toNat default).f_From).f_A)&&((((a0.getD v26.toNat default).f_From).f_B==((a0.getD v12.toNat default).f_From).f_B)&&true))))),(27,.cnd (v25==false) (.bool ((((a0.getD v26.toNat default).f_From).f_Kind==((a0.getD v12.toNat default).f_From).f_Kind)&&((((a0.getD v26.toNat default).f_From).f_A==((a0.getD v12.toNat default).f_From).f_A)&&((((a0.getD v26.toNat default).f_From).f_B==((a0.getD v12.toNat default).f_From).f_B)&&true))))),(26,.cnd (v25==false) (.agg [.int .i64 (((a0.getD v12.toNat default).f_From).f_Kind),.int .i64 (((a0.getD v12.toNat default).f_From).f_A),.int .i64 (((a0.getD v12.toNat default).f_From).f_B)])),(25,.cnd (v25==false) (.ptr (1,0) 0 0)),(24,.cnd (v25==false) (.agg [.int .i64 (((a0.getD v26.toNat default).f_From).f_Kind),.int .i64 (((a0.getD v26.toNat default).f_From).f_A),.int .i64 (((a0.getD v26.toNat default).f_From).f_B)])),(23,.cnd (v25==false) (.ptr (2,0) 0 0)),(22,.bool v25),(21,.bool v25),(8,.ptr (2,0) 0 0),(20,.agg [.int .i64 (((a0.getD v26.toNat default).f_From).f_Kind),.int .i64 (((a0.getD v26.toNat default).f_From).f_A),.int .i64 (((a0.getD v26.toNat default).f_From).f_B),.int .i64 (((a0.getD v26.toNat default).f_To).f_Kind),.int .i64 (((a0.getD v26.toNat default).f_To).f_A),.int .i64 (((a0.getD v26.toNat default).f_To).f_B)]),(19,.iptr 6 (a0.map z6) v26.toNat 0),(18,.bool (decide (v26<((a0.map z6).length:Int)))),(0,.isl 6 (a0.map z6) false),(3,.osl (0,0) 6 (v11.map z6)),(5,.ptr (1,0) 0 0),(6,.bool v25),(9,.isl 6 (a0.map z6) false),(10,.int .i64 ((a0.map z6).length:Int)),(11,.int .i64 v12),(15,.isl 6 (a0.map z6) false),(16,.int .i64 ((a0.map z6).length:Int)),(17,.int .i64 v26)] _ _
  refine And.intro (fun hp=>hp) ?_
  refine And.intro (fun hp=>hp) ?_
  show yd _ _ _ _ _ [(38,.cnd ((v25==false)&&((((((a0.getD v26.toNat default).f_From).f_Kind==((a0.getD v12.toNat default).f_From).f_Kind)&&((((a0.getD v26.toNat default).f_From).f_A==((a0.getD v12.toNat default).f_From).f_A)&&((((a0.getD v26.toNat default).f_From).f_B==((a0.getD v12.toNat default).f_From).f_B)&&true)))&&(!((((a0.getD v26.toNat default).f_To).f_Kind==((a0.getD v12.toNat default).f_To).f_Kind)&&((((a0.getD v26.toNat default).f_To).f_A==((a0.getD v12.toNat default).f_To).f_A)&&((((a0.getD v26.toNat default).f_To).f_B==((a0.getD v12.toNat default).f_To).f_B)&&true)))))==true)) (.agg [.int .i64 (((a0.getD v26.toNat default).f_To).f_Kind),.int .i64 (((a0.getD v26.toNat default).f_To).f_A),.int .i64 (((a0.getD v26.toNat default).f_To).f_B)])),(37,.cnd ((v25==false)&&((((((a0.getD v26.toNat default).f_From).f_Kind==((a0.getD v12.toNat default).f_From).f_Kind)&&((((a0.getD v26.toNat default).f_From).f_A==((a0.getD v12.toNat default).f_From).f_A)&&((((a0.getD v26.toNat default).f_From).f_B==((a0.getD v12.toNat default).f_From).f_B)&&true)))&&(!((((a0.getD v26.toNat default).f_To).f_Kind==((a0.getD v12.toNat default).f_To).f_Kind)&&((((a0.getD v26.toNat default).f_To).f_A==((a0.getD v12.toNat default).f_To).f_A)&&((((a0.getD v26.toNat default).f_To).f_B==((a0.getD v12.toNat default).f_To).f_B)&&true)))))==true)) (.ptr (2,0) 0 3)),(36,.cnd ((v25==false)&&((((((a0.getD v26.toNat default).f_From).f_Kind==((a0.getD v12.toNat default).f_From).f_Kind)&&((((a0.getD v26.toNat default).f_From).f_A==((a0.getD v12.toNat default).f_From).f_A)&&((((a0.getD v26.toNat default).f_From).f_B==((a0.getD v12.toNat default).f_From).f_B)&&true)))&&(!((((a0.getD v26.toNat default).f_To).f_Kind==((a0.getD v12.toNat default).f_To).f_Kind)&&((((a0.getD v26.toNat default).f_To).f_A==((a0.getD v12.toNat default).f_To).f_A)&&((((a0.getD v26.toNat default).f_To).f_B==((a0.getD v12.toNat default).f_To).f_B)&&true)))))==true)) (.isl 6 (a0.map z6) false)),(35,.cnd (v25==false) (.bool (((((a0.getD v26.toNat default).f_From).f_Kind==((a0.getD v12.toNat default).f_From).f_Kind)&&((((a0.getD v26.toNat default).f_From).f_A==((a0.getD v12.toNat default).f_From).f_A)&&((((a0.getD v26.toNat default).f_From).f_B==((a0.getD v12.toNat default).f_From).f_B)&&true)))&&(!((((a0.getD v26.toNat default).f_To).f_Kind==((a0.getD v12.toNat default).f_To).f_Kind)&&((((a0.getD v26.toNat default).f_To).f_A==((a0.getD v12.toNat default).f_To).f_A)&&((((a0.getD v26.toNat default).f_To).f_B==((a0.getD v12.toNat default).f_To).f_B)&&true))))))),(34,.cnd (v25==false) (.bool (((((a0.getD v26.toNat default).f_From).f_Kind==((a0.getD v12.toNat default).f_From).f_Kind)&&((((a0.getD v26.toNat default).f_From).f_A==((a0.getD v12.toNat default).f_From).f_A)&&((((a0.getD v26.toNat default).f_From).f_B==((a0.getD v12.toNat default).f_From).f_B)&&true)))&&(!((((a0.getD v26.toNat default).f_To).f_Kind==((a0.getD v12.toNat default).f_To).f_Kind)&&((((a0.getD v26.toNat default).f_To).f_A==((a0.getD v12.toNat default).f_To).f_A)&&((((a0.getD v26.toNat default).f_To).f_B==((a0.getD v12.toNat default).f_To).f_B)&&true))))))),(33,.cnd ((v25==false)&&(((((a0.getD v26.toNat default).f_From).f_Kind==((a0.getD v12.toNat default).f_From).f_Kind)&&((((a0.getD v26.toNat default).f_From).f_A==((a0.getD v12.toNat default).f_From).f_A)&&((((a0.getD v26.toNat default).f_From).f_B==((a0.getD v12.toNat default).f_From).f_B)&&true)))==true)) (.bool (!((((a0.getD v26.toNat default).f_To).f_Kind==((a0.getD v12.toNat default).f_To).f_Kind)&&((((a0.getD v26.toNat default).f_To).f_A==((a0.getD v12.toNat default).f_To).f_A)&&((((a0.getD v26.toNat default).f_To).f_B==((a0.getD v12.toNat default).f_To).f_B)&&true)))))),(32,.cnd ((v25==false)&&(((((a0.getD v26.toNat default).f_From).f_Kind==((a0.getD v12.toNat default).f_From).f_Kind)&&((((a0.getD v26.toNat default).f_From).f_A==((a0.getD v12.toNat default).f_From).f_A)&&((((a0.getD v26.toNat default).f_From).f_B==((a0.getD v12.toNat default).f_From).f_B)&&true)))==true)) (.agg [.int .i64 (((a0.getD v12.toNat default).f_To).f_Kind),.int .i64 (((a0.getD v12.toNat default).f_To).f_A),.int .i64 (((a0.getD v12.toNat default).f_To).f_B)])),(31,.cnd ((v25==false)&&(((((a0.getD v26.toNat default).f_From).f_Kind==((a0.getD v12.toNat default).f_From).f_Kind)&&((((a0.getD v26.toNat default).f_From).f_A==((a0.getD v12.toNat default).f_From).f_A)&&((((a0.getD v26.toNat default).f_From).f_B==((a0.getD v12.toNat default).f_From).f_B)&&true)))==true)) (.ptr (1,0) 0 3)),(30,.cnd ((v25==false)&&(((((a0.getD v26.toNat default).f_From).f_Kind==((a0.getD v12.toNat default).f_From).f_Kind)&&((((a0.getD v26.toNat default).f_From).f_A==((a0.getD v12.toNat default).f_From).f_A)&&((((a0.getD v26.toNat default).f_From).f_B==((a0.getD v12.toNat default).f_From).f_B)&&true)))==true)) (.agg [.int .i64 (((a0.getD v26.toNat default).f_To).f_Kind),.int .i64 (((a0.getD v26.toNat default).f_To).f_A),.int .i64 (((a0.getD v26.toNat default).f_To).f_B)])),(29,.cnd ((v25==false)&&(((((a0.getD v26.toNat default).f_From).f_Kind==((a0.getD v12.toNat default).f_From).f_Kind)&&((((a0.getD v26.toNat default).f_From).f_A==((a0.getD v12.toNat default).f_From).f_A)&&((((a0.getD v26.toNat default).f_From).f_B==((a0.getD v12.toNat default).f_From).f_B)&&true)))==true)) (.ptr (2,0) 0 3)),(28,.cnd (v25==false) (.bool ((((a0.getD v26.toNat default).f_From).f_Kind==((a0.getD v12.toNat default).f_From).f_Kind)&&((((a0.getD v26.toNat default).f_From).f_A==((a0.getD v12.toNat default).f_From).f_A)&&((((a0.getD v26.toNat default).f_From).f_B==((a0.getD v12.toNat default).f_From).f_B)&&true))))),(27,.cnd (v25==false) (.bool ((((a0.getD v26.toNat default).f_From).f_Kind==((a0.getD v12.toNat default).f_From).f_Kind)&&((((a0.getD v26.toNat default).f_From).f_A==((a0.getD v12.toNat default).f_From).f_A)&&((((a0.getD v26.toNat default).f_From).f_B==((a0.getD v12.toNat default).f_From).f_B)&&true))))),(26,.cnd (v25==false) (.agg [.int .i64 (((a0.getD v12.toNat default).f_From).f_Kind),.int .i64 (((a0.getD v12.toNat default).f_From).f_A),.int .i64 (((a0.getD v12.toNat default).f_From).f_B)])),(25,.cnd (v25==false) (.ptr (1,0) 0 0)),(24,.cnd (v25==false) (.agg [.int .i64 (((a0.getD v26.toNat default).f_From).f_Kind),.int .i64 (((a0.getD v26.toNat default).f_From).f_A),.int .i64 (((a0.getD v26.toNat default).f_From).f_B)])),(23,.cnd (v25==false) (.ptr (2,0) 0 0)),(22,.bool v25),(21,.bool v25),(8,.ptr (2,0) 0 0),(20,.agg [.int .i64 (((a0.getD v26.toNat default).f_From).f_Kind),.int .i64 (((a0.getD v26.toNat default).f_From).f_A),.int .i64 (((a0.getD v26.toNat default).f_From).f_B),.int .i64 (((a0.getD v26.toNat default).f_To).f_Kind),.int .i64 (((a0.getD v26.toNat default).f_To).f_A),.int .i64 (((a0.getD v26.toNat default).f_To).f_B)]),(19,.iptr 6 (a0.map z6) v26.toNat 0),(18,.bool (decide (v26<((a0.map z6).length:Int)))),(0,.isl 6 (a0.map z6) false),(3,.osl (0,0) 6 (v11.map z6)),(5,.ptr (1,0) 0 0),(6,.bool v25),(9,.isl 6 (a0.map z6) false),(10,.int .i64 ((a0.map z6).length:Int)),(11,.int .i64 v12),(15,.isl 6 (a0.map z6) false),(16,.int .i64 ((a0.map z6).length:Int)),(17,.int .i64 v26)] _ _
  refine And.intro (fun hp=>hp) ?_
  show yd _ _ _ _ _ [(41,.cnd ((v25==false)&&((((((a0.getD v26.toNat default).f_From).f_Kind==((a0.getD v12.toNat default).f_From).f_Kind)&&((((a0.getD v26.toNat default).f_From).f_A==((a0.getD v12.toNat default).f_From).f_A)&&((((a0.getD v26.toNat default).f_From).f_B==((a0.getD v12.toNat default).f_From).f_B)&&true)))&&(!((((a0.getD v26.toNat default).f_To).f_Kind==((a0.getD v12.toNat default).f_To).f_Kind)&&((((a0.getD v26.toNat default).f_To).f_A==((a0.getD v12.toNat default).f_To).f_A)&&((((a0.getD v26.toNat default).f_To).f_B==((a0.getD v12.toNat default).f_To).f_B)&&true)))))==true)) (.agg [.int .i64 (((a0.getD v12.toNat default).f_To).f_Kind),.int .i64 (((a0.getD v12.toNat default).f_To).f_A),.int .i64 (((a0.getD v12.toNat default).f_To).f_B)])),(40,.cnd ((v25==false)&&((((((a0.getD v26.toNat default).f_From).f_Kind==((a0.getD v12.toNat default).f_From).f_Kind)&&((((a0.getD v26.toNat default).f_From).f_A==((a0.getD v12.toNat default).f_From).f_A)&&((((a0.getD v26.toNat default).f_From).f_B==((a0.getD v12.toNat default).f_From).f_B)&&true)))&&(!((((a0.getD v26.toNat default).f_To).f_Kind==((a0.getD v12.toNat default).f_To).f_Kind)&&((((a0.getD v26.toNat default).f_To).f_A==((a0.getD v12.toNat default).f_To).f_A)&&((((a0.getD v26.toNat default).f_To).f_B==((a0.getD v12.toNat default).f_To).f_B)&&true)))))==true)) (.ptr (1,0) 0 3)),(38,.cnd ((v25==false)&&((((((a0.getD v26.toNat default).f_From).f_Kind==((a0.getD v12.toNat default).f_From).f_Kind)&&((((a0.getD v26.toNat default).f_From).f_A==((a0.getD v12.toNat default).f_From).f_A)&&((((a0.getD v26.toNat default).f_From).f_B==((a0.getD v12.toNat default).f_From).f_B)&&true)))&&(!((((a0.getD v26.toNat default).f_To).f_Kind==((a0.getD v12.toNat default).f_To).f_Kind)&&((((a0.getD v26.toNat default).f_To).f_A==((a0.getD v12.toNat default).f_To).f_A)&&((((a0.getD v26.toNat default).f_To).f_B==((a0.getD v12.toNat default).f_To).f_B)&&true)))))==true)) (.agg [.int .i64 (((a0.getD v26.toNat default).f_To).f_Kind),.int .i64 (((a0.getD v26.toNat default).f_To).f_A),.int .i64 (((a0.getD v26.toNat default).f_To).f_B)])),(37,.cnd ((v25==false)&&((((((a0.getD v26.toNat default).f_From).f_Kind==((a0.getD v12.toNat default).f_From).f_Kind)&&((((a0.getD v26.toNat default).f_From).f_A==((a0.getD v12.toNat default).f_From).f_A)&&((((a0.getD v26.toNat default).f_From).f_B==((a0.getD v12.toNat default).f_From).f_B)&&true)))&&(!((((a0.getD v26.toNat default).f_To).f_Kind==((a0.getD v12.toNat default).f_To).f_Kind)&&((((a0.getD v26.toNat default).f_To).f_A==((a0.getD v12.toNat default).f_To).f_A)&&((((a0.getD v26.toNat default).f_To).f_B==((a0.getD v12.toNat default).f_To).f_B)&&true)))))==true)) (.ptr (2,0) 0 3)),(36,.cnd ((v25==false)&&((((((a0.getD v26.toNat default).f_From).f_Kind==((a0.getD v12.toNat default).f_From).f_Kind)&&((((a0.getD v26.toNat default).f_From).f_A==((a0.getD v12.toNat default).f_From).f_A)&&((((a0.getD v26.toNat default).f_From).f_B==((a0.getD v12.toNat default).f_From).f_B)&&true)))&&(!((((a0.getD v26.toNat default).f_To).f_Kind==((a0.getD v12.toNat default).f_To).f_Kind)&&((((a0.getD v26.toNat default).f_To).f_A==((a0.getD v12.toNat default).f_To).f_A)&&((((a0.getD v26.toNat default).f_To).f_B==((a0.getD v12.toNat default).f_To).f_B)&&true)))))==true)) (.isl 6 (a0.map z6) false)),(35,.cnd (v25==false) (.bool (((((a0.getD v26.toNat default).f_From).f_Kind==((a0.getD v12.toNat default).f_From).f_Kind)&&((((a0.getD v26.toNat default).f_From).f_A==((a0.getD v12.toNat default).f_From).f_A)&&((((a0.getD v26.toNat default).f_From).f_B==((a0.getD v12.toNat default).f_From).f_B)&&true)))&&(!((((a0.getD v26.toNat default).f_To).f_Kind==((a0.getD v12.toNat default).f_To).f_Kind)&&((((a0.getD v26.toNat default).f_To).f_A==((a0.getD v12.toNat default).f_To).f_A)&&((((a0.getD v26.toNat default).f_To).f_B==((a0.getD v12.toNat default).f_To).f_B)&&true))))))),(34,.cnd (v25==false) (.bool (((((a0.getD v26.toNat default).f_From).f_Kind==((a0.getD v12.toNat default).f_From).f_Kind)&&((((a0.getD v26.toNat default).f_From).f_A==((a0.getD v12.toNat default).f_From).f_A)&&((((a0.getD v26.toNat default).f_From).f_B==((a0.getD v12.toNat default).f_From).f_B)&&true)))&&(!((((a0.getD v26.toNat default).f_To).f_Kind==((a0.getD v12.toNat default).f_To).f_Kind)&&((((a0.getD v26.toNat default).f_To).f_A==((a0.getD v12.toNat default).f_To).f_A)&&((((a0.getD v26.toNat default).f_To).f_B==((a0.getD v12.toNat default).f_To).f_B)&&true))))))),(33,.cnd ((v25==false)&&(((((a0.getD v26.toNat default).f_From).f_Kind==((a0.getD v12.toNat default).f_From).f_Kind)&&((((a0.getD v26.toNat default).f_From).f_A==((a0.getD v12.toNat default).f_From).f_A)&&((((a0.getD v26.toNat default).f_From).f_B==((a0.getD v12.toNat default).f_From).f_B)&&true)))==true)) (.bool (!((((a0.getD v26.toNat default).f_To).f_Kind==((a0.getD v12.toNat default).f_To).f_Kind)&&((((a0.getD v26.toNat default).f_To).f_A==((a0.getD v12.toNat default).f_To).f_A)&&((((a0.getD v26.toNat default).f_To).f_B==((a0.getD v12.toNat default).f_To).f_B)&&true)))))),(32,.cnd ((v25==false)&&(((((a0.getD v26.toNat default).f_From).f_Kind==((a0.getD v12.toNat default).f_From).f_Kind)&&((((a0.getD v26.toNat default).f_From).f_A==((a0.getD v12.toNat default).f_From).f_A)&&((((a0.getD v26.toNat default).f_From).f_B==((a0.getD v12.toNat default).f_From).f_B)&&true)))==true)) (.agg [.int .i64 (((a0.getD v12.toNat default).f_To).f_Kind),.int .i64 (((a0.getD v12.toNat default).f_To).f_A),.int .i64 (((a0.getD v12.toNat default).f_To).f_B)])),(31,.cnd ((v25==false)&&(((((a0.getD v26.toNat default).f_From).f_Kind==((a0.getD v12.toNat default).f_From).f_Kind)&&((((a0.getD v26.toNat default).f_From).f_A==((a0.getD v12.toNat default).f_From).f_A)&&((((a0.getD v26.toNat default).f_From).f_B==((a0.getD v12.toNat default).f_From).f_B)&&true)))==true)) (.ptr (1,0) 0 3)),(30,.cnd ((v25==false)&&(((((a0.getD v26.toNat default).f_From).f_Kind==((a0.getD v12.toNat default).f_From).f_Kind)&&((((a0.getD v26.toNat default).f_From).f_A==((a0.getD v12.toNat default).f_From).f_A)&&((((a0.getD v26.toNat default).f_From).f_B==((a0.getD v12.toNat default).f_From).f_B)&&true)))==true)) (.agg [.int .i64 (((a0.getD v26.toNat default).f_To).f_Kind),.int .i64 (((a0.getD v26.toNat default).f_To).f_A),.int .i64 (((a0.getD v26.toNat default).f_To).f_B)])),(29,.cnd ((v25==false)&&(((((a0.getD v26.toNat default).f_From).f_Kind==((a0.getD v12.toNat default).f_From).f_Kind)&&((((a0.getD v26.toNat default).f_From).f_A==((a0.getD v12.toNat default).f_From).f_A)&&((((a0.getD v26.toNat default).f_From).f_B==((a0.getD v12.toNat default).f_From).f_B)&&true)))==true)) (.ptr (2,0) 0 3)),(28,.cnd (v25==false) (.bool ((((a0.getD v26.toNat default).f_From).f_Kind==((a0.getD v12.toNat default).f_From).f_Kind)&&((((a0.getD v26.toNat default).f_From).f_A==((a0.getD v12.toNat default).f_From).f_A)&&((((a0.getD v26.toNat default).f_From).f_B==((a0.getD v12.toNat default).f_From).f_B)&&true))))),(27,.cnd (v25==false) (.bool ((((a0.getD v26.toNat default).f_From).f_Kind==((a0.getD v12.toNat default).f_From).f_Kind)&&((((a0.getD v26.toNat default).f_From).f_A==((a0.getD v12.toNat default).f_From).f_A)&&((((a0.getD v26.toNat default).f_From).f_B==((a0.getD v12.toNat default).f_From).f_B)&&true))))),(26,.cnd (v25==false) (.agg [.int .i64 (((a0.getD v12.toNat default).f_From).f_Kind),.int .i64 (((a0.getD v12.toNat default).f_From).f_A),.int .i64 (((a0.getD v12.toNat default).f_From).f_B)])),(25,.cnd (v25==false) (.ptr (1,0) 0 0)),(24,.cnd (v25==false) (.agg [.int .i64 (((a0.getD v26.toNat default).f_From).f_Kind),.int .i64 (((a0.getD v26.toNat default).f_From).f_A),.int .i64 (((a0.getD v26.toNat default).f_From).f_B)])),(23,.cnd (v25==false) (.ptr (2,0) 0 0)),(22,.bool v25),(21,.bool v25),(8,.ptr (2,0) 0 0),(20,.agg [.int .i64 (((a0.getD v26.toNat default).f_From).f_Kind),.int .i64 (((a0.getD v26.toNat default).f_From).f_A),.int .i64 (((a0.getD v26.toNat default).f_From).f_B),.int .i64 (((a0.getD v26.toNat default).f_To).f_Kind),.int .i64 (((a0.getD v26.toNat default).f_To).f_A),.int .i64 (((a0.getD v26.toNat default).f_To).f_B)]),(19,.iptr 6 (a0.map z6) v26.toNat 0),(18,.bool (decide (v26<((a0.map z6).length:Int)))),(0,.isl 6 (a0.map z6) false),(3,.osl (0,0) 6 (v11.map z6)),(5,.ptr (1,0) 0 0),(6,.bool v25),(9,.isl 6 (a0.map z6) false),(10,.int .i64 ((a0.map z6).length:Int)),(11,.int .i64 v12),(15,.isl 6 (a0.map z6) false),(16,.int .i64 ((a0.map z6).length:Int)),(17,.int .i64 v26)] _ _
  obtain⟨v29,h47,h⟩:=bind_some h
  refine Or.inl (Exists.intro (.isl 3 (v29.map z7) false) (And.intro (fun hp=>And.intro (And.intro hp hp) (PFn.call (zme (yt hp h47)) (And.intro (Vw.same _ rfl) (And.intro (Vw.same _ rfl) trivial)) (And.intro rfl (And.intro rfl rfl)))) ?_))
  refine And.intro (And.intro rfl (fun hp=>(And.intro hp rfl))) ?_
  obtain⟨v30,h48,h⟩:=bind_some h
  refine Or.inl (Exists.intro (.bool v30) (And.intro (fun hp=>And.intro (And.intro hp hp) (PFn.call (z9i (yt hp h48)) (And.intro (Vw.same _ rfl) (And.intro (Vw.same _ rfl) trivial)) (And.intro rfl (And.intro rfl rfl)))) ?_))
  refine And.intro (fun hp=>(And.intro hp (fun hc=>(zpz hp (bqt hc))))) ?_
  show yd _ _ _ _ _ [(43,.cnd (v25==false) (.bool ((((((a0.getD v26.toNat default).f_From).f_Kind==((a0.getD v12.toNat default).f_From).f_Kind)&&((((a0.getD v26.toNat default).f_From).f_A==((a0.getD v12.toNat default).f_From).f_A)&&((((a0.getD v26.toNat default).f_From).f_B==((a0.getD v12.toNat default).f_From).f_B)&&true)))&&(!((((a0.getD v26.toNat default).f_To).f_Kind==((a0.getD v12.toNat default).f_To).f_Kind)&&((((a0.getD v26.toNat default).f_To).f_A==((a0.getD v12.toNat default).f_To).f_A)&&((((a0.getD v26.toNat default).f_To).f_B==((a0.getD v12.toNat default).f_To).f_B)&&true)))))&&v30))),(42,.cnd ((v25==false)&&((((((a0.getD v26.toNat default).f_From).f_Kind==((a0.getD v12.toNat default).f_From).f_Kind)&&((((a0.getD v26.toNat default).f_From).f_A==((a0.getD v12.toNat default).f_From).f_A)&&((((a0.getD v26.toNat default).f_From).f_B==((a0.getD v12.toNat default).f_From).f_B)&&true)))&&(!((((a0.getD v26.toNat default).f_To).f_Kind==((a0.getD v12.toNat default).f_To).f_Kind)&&((((a0.getD v26.toNat default).f_To).f_A==((a0.getD v12.toNat default).f_To).f_A)&&((((a0.getD v26.toNat default).f_To).f_B==((a0.getD v12.toNat default).f_To).f_B)&&true)))))==true)) (.bool v30)),(39,.cnd ((v25==false)&&((((((a0.getD v26.toNat default).f_From).f_Kind==((a0.getD v12.toNat default).f_From).f_Kind)&&((((a0.getD v26.toNat default).f_From).f_A==((a0.getD v12.toNat default).f_From).f_A)&&((((a0.getD v26.toNat default).f_From).f_B==((a0.getD v12.toNat default).f_From).f_B)&&true)))&&(!((((a0.getD v26.toNat default).f_To).f_Kind==((a0.getD v12.toNat default).f_To).f_Kind)&&((((a0.getD v26.toNat default).f_To).f_A==((a0.getD v12.toNat default).f_To).f_A)&&((((a0.getD v26.toNat default).f_To).f_B==((a0.getD v12.toNat default).f_To).f_B)&&true)))))==true)) (.isl 3 (v29.map z7) false)),(41,.cnd ((v25==false)&&((((((a0.getD v26.toNat default).f_From).f_Kind==((a0.getD v12.toNat default).f_From).f_Kind)&&((((a0.getD v26.toNat default).f_From).f_A==((a0.getD v12.toNat default).f_From).f_A)&&((((a0.getD v26.toNat default).f_From).f_B==((a0.getD v12.toNat default).f_From).f_B)&&true)))&&(!((((a0.getD v26.toNat default).f_To).f_Kind==((a0.getD v12.toNat default).f_To).f_Kind)&&((((a0.getD v26.toNat default).f_To).f_A==((a0.getD v12.toNat default).f_To).f_A)&&((((a0.getD v26.toNat default).f_To).f_B==((a0.getD v12.toNat default).f_To).f_B)&&true)))))==true)) (.agg [.int .i64 (((a0.getD v12.toNat default).f_To).f_Kind),.int .i64 (((a0.getD v12.toNat default).f_To).f_A),.int .i64 (((a0.getD v12.toNat default).f_To).f_B)])),(40,.cnd ((v25==false)&&((((((a0.getD v26.toNat default).f_From).f_Kind==((a0.getD v12.toNat default).f_From).f_Kind)&&((((a0.getD v26.toNat default).f_From).f_A==((a0.getD v12.toNat default).f_From).f_A)&&((((a0.getD v26.toNat default).f_From).f_B==((a0.getD v12.toNat default).f_From).f_B)&&true)))&&(!((((a0.getD v26.toNat default).f_To).f_Kind==((a0.getD v12.toNat default).f_To).f_Kind)&&((((a0.getD v26.toNat default).f_To).f_A==((a0.getD v12.toNat default).f_To).f_A)&&((((a0.getD v26.toNat default).f_To).f_B==((a0.getD v12.toNat default).f_To).f_B)&&true)))))==true)) (.ptr (1,0) 0 3)),(38,.cnd ((v25==false)&&((((((a0.getD v26.toNat default).f_From).f_Kind==((a0.getD v12.toNat default).f_From).f_Kind)&&((((a0.getD v26.toNat default).f_From).f_A==((a0.getD v12.toNat default).f_From).f_A)&&((((a0.getD v26.toNat default).f_From).f_B==((a0.getD v12.toNat default).f_From).f_B)&&true)))&&(!((((a0.getD v26.toNat default).f_To).f_Kind==((a0.getD v12.toNat default).f_To).f_Kind)&&((((a0.getD v26.toNat default).f_To).f_A==((a0.getD v12.toNat default).f_To).f_A)&&((((a0.getD v26.toNat default).f_To).f_B==((a0.getD v12.toNat default).f_To).f_B)&&true)))))==true)) (.agg [.int .i64 (((a0.getD v26.toNat default).f_To).f_Kind),.int .i64 (((a0.getD v26.toNat default).f_To).f_A),.int .i64 (((a0.getD v26.toNat default).f_To).f_B)])),(37,.cnd ((v25==false)&&((((((a0.getD v26.toNat default).f_From).f_Kind==((a0.getD v12.toNat default).f_From).f_Kind)&&((((a0.getD v26.toNat default).f_From).f_A==((a0.getD v12.toNat default).f_From).f_A)&&((((a0.getD v26.toNat default).f_From).f_B==((a0.getD v12.toNat default).f_From).f_B)&&true)))&&(!((((a0.getD v26.toNat default).f_To).f_Kind==((a0.getD v12.toNat default).f_To).f_Kind)&&((((a0.getD v26.toNat default).f_To).f_A==((a0.getD v12.toNat default).f_To).f_A)&&((((a0.getD v26.toNat default).f_To).f_B==((a0.getD v12.toNat default).f_To).f_B)&&true)))))==true)) (.ptr (2,0) 0 3)),(36,.cnd ((v25==false)&&((((((a0.getD v26.toNat default).f_From).f_Kind==((a0.getD v12.toNat default).f_From).f_Kind)&&((((a0.getD v26.toNat default).f_From).f_A==((a0.getD v12.toNat default).f_From).f_A)&&((((a0.getD v26.toNat default).f_From).f_B==((a0.getD v12.toNat default).f_From).f_B)&&true)))&&(!((((a0.getD v26.toNat default).f_To).f_Kind==((a0.getD v12.toNat default).f_To).f_Kind)&&((((a0.getD v26.toNat default).f_To).f_A==((a0.getD v12.toNat default).f_To).f_A)&&((((a0.getD v26.toNat default).f_To).f_B==((a0.getD v12.toNat default).f_To).f_B)&&true)))))==true)) (.isl 6 (a0.map z6) false)),(35,.cnd (v25==false) (.bool (((((a0.getD v26.toNat default).f_From).f_Kind==((a0.getD v12.toNat default).f_From).f_Kind)&&((((a0.getD v26.toNat default).f_From).f_A==((a0.getD v12.toNat default).f_From).f_A)&&((((a0.getD v26.toNat default).f_From).f_B==((a0.getD v12.toNat default).f_From).f_B)&&true)))&&(!((((a0.getD v26.toNat default).f_To).f_Kind==((a0.getD v12.toNat default).f_To).f_Kind)&&((((a0.getD v26.toNat default).f_To).f_A==((a0.getD v12.toNat default).f_To).f_A)&&((((a0.getD v26.toNat default).f_To).f_B==((a0.getD v12.toNat default).f_To).f_B)&&true))))))),(34,.cnd (v25==false) (.bool (((((a0.getD v26.toNat default).f_From).f_Kind==((a0.getD v12.toNat default).f_From).f_Kind)&&((((a0.getD v26.toNat default).f_From).f_A==((a0.getD v12.toNat default).f_From).f_A)&&((((a0.getD v26.toNat default).f_From).f_B==((a0.getD v12.toNat default).f_From).f_B)&&true)))&&(!((((a0.getD v26.toNat default).f_To).f_Kind==((a0.getD v12.toNat default).f_To).f_Kind)&&((((a0.getD v26.toNat default).f_To).f_A==((a0.getD v12.toNat default).f_To).f_A)&&((((a0.getD v26.toNat default).f_To).f_B==((a0.getD v12.toNat default).f_To).f_B)&&true))))))),(33,.cnd ((v25==false)&&(((((a0.getD v26.toNat default).f_From).f_Kind==((a0.getD v12.toNat default).f_From).f_Kind)&&((((a0.getD v26.toNat default).f_From).f_A==((a0.getD v12.toNat default).f_From).f_A)&&((((a0.getD v26.toNat default).f_From).f_B==((a0.getD v12.toNat default).f_From).f_B)&&true)))==true)) (.bool (!((((a0.getD v26.toNat default).f_To).f_Kind==((a0.getD v12.toNat default).f_To).f_Kind)&&((((a0.getD v26.toNat default).f_To).f_A==((a0.getD v12.toNat default).f_To).f_A)&&((((a0.getD v26.toNat default).f_To).f_B==((a0.getD v12.toNat default).f_To).f_B)&&true)))))),(32,.cnd ((v25==false)&&(((((a0.getD v26.toNat default).f_From).f_Kind==((a0.getD v12.toNat default).f_From).f_Kind)&&((((a0.getD v26.toNat default).f_From).f_A==((a0.getD v12.toNat default).f_From).f_A)&&((((a0.getD v26.toNat default).f_From).f_B==((a0.getD v12.toNat default).f_From).f_B)&&true)))==true)) (.agg [.int .i64 (((a0.getD v12.toNat default).f_To).f_Kind),.int .i64 (((a0.getD v12.toNat default).f_To).f_A),.int .i64 (((a0.getD v12.toNat default).f_To).f_B)])),(31,.cnd ((v25==false)&&(((((a0.getD v26.toNat default).f_From).f_Kind==((a0.getD v12.toNat default).f_From).f_Kind)&&((((a0.getD v26.toNat default).f_From).f_A==((a0.getD v12.toNat default).f_From).f_A)&&((((a0.getD v26.toNat default).f_From).f_B==((a0.getD v12.toNat default).f_From).f_B)&&true)))==true)) (.ptr (1,0) 0 3)),(30,.cnd ((v25==false)&&(((((a0.getD v26.toNat default).f_From).f_Kind==((a0.getD v12.toNat default).f_From).f_Kind)&&((((a0.getD v26.toNat default).f_From).f_A==((a0.getD v12.toNat default).f_From).f_A)&&((((a0.getD v26.toNat default).f_From).f_B==((a0.getD v12.toNat default).f_From).f_B)&&true)))==true)) (.agg [.int .i64 (((a0.getD v26.toNat default).f_To).f_Kind),.int .i64 (((a0.getD v26.toNat default).f_To).f_A),.int .i64 (((a0.getD v26.toNat default).f_To).f_B)])),(29,.cnd ((v25==false)&&(((((a0.getD v26.toNat default).f_From).f_Kind==((a0.getD v12.toNat default).f_From).f_Kind)&&((((a0.getD v26.toNat default).f_From).f_A==((a0.getD v12.toNat default).f_From).f_A)&&((((a0.getD v26.toNat default).f_From).f_B==((a0.getD v12.toNat default).f_From).f_B)&&true)))==true)) (.ptr (2,0) 0 3)),(28,.cnd (v25==false) (.bool ((((a0.getD v26.toNat default).f_From).f_Kind==((a0.getD v12.toNat default).f_From).f_Kind)&&((((a0.getD v26.toNat default).f_From).f_A==((a0.getD v12.toNat default).f_From).f_A)&&((((a0.getD v26.toNat default).f_From).f_B==((a0.getD v12.toNat default).f_From).f_B)&&true))))),(27,.cnd (v25==false) (.bool ((((a0.getD v26.toNat default).f_From).f_Kind==((a0.getD v12.toNat default).f_From).f_Kind)&&((((a0.getD v26.toNat default).f_From).f_A==((a0.getD v12.toNat default).f_From).f_A)&&((((a0.getD v26.toNat default).f_From).f_B==((a0.getD v12.toNat default).f_From).f_B)&&true))))),(26,.cnd (v25==false) (.agg [.int .i64 (((a0.getD v12.toNat default).f_From).f_Kind),.int .i64 (((a0.getD v12.toNat default).f_From).f_A),.int .i64 (((a0.getD v12.toNat default).f_From).f_B)])),(25,.cnd (v25==false) (.ptr (1,0) 0 0)),(24,.cnd (v25==false) (.agg [.int .i64 (((a0.getD v26.toNat default).f_From).f_Kind),.int .i64 (((a0.getD v26.toNat default).f_From).f_A),.int .i64 (((a0.getD v26.toNat default).f_From).f_B)])),(23,.cnd (v25==false) (.ptr (2,0) 0 0)),(22,.bool v25),(21,.bool v25),(8,.ptr (2,0) 0 0),(20,.agg [.int .i64 (((a0.getD v26.toNat default).f_From).f_Kind),.int .i64 (((a0.getD v26.toNat default).f_From).f_A),.int .i64 (((a0.getD v26.toNat default).f_From).f_B),.int .i64 (((a0.getD v26.toNat default).f_To).f_Kind),.int .i64 (((a0.getD v26.toNat default).f_To).f_A),.int .i64 (((a0.getD v26.toNat default).f_To).f_B)]),(19,.iptr 6 (a0.map z6) v26.toNat 0),(18,.bool (decide (v26<((a0.map z6).length:Int)))),(0,.isl 6 (a0.map z6) false),(3,.osl (0,0) 6 (v11.map z6)),(5,.ptr (1,0) 0 0),(6,.bool v25),(9,.isl 6 (a0.map z6) false),(10,.int .i64 ((a0.map z6).length:Int)),(11,.int .i64 v12),(15,.isl 6 (a0.map z6) false),(16,.int .i64 ((a0.map z6).length:Int)),(17,.int .i64 v26)] _ _
  refine And.intro (fun hc=>(bqf hc)) ?_
  refine LWp.sim (e:=[(0,.isl 6 (a0.map z6) false),(3,.osl (0,0) 6 (v11.map z6)),(5,.ptr (1,0) 0 0),(6,.bool (v25 || ((((((a0.getD v26.toNat default).f_From).f_Kind==((a0.getD v12.toNat default).f_From).f_Kind)&&((((a0.getD v26.toNat default).f_From).f_A==((a0.getD v12.toNat default).f_From).f_A)&&((((a0.getD v26.toNat default).f_From).f_B==((a0.getD v12.toNat default).f_From).f_B)&&true)))&&(!((((a0.getD v26.toNat default).f_To).f_Kind==((a0.getD v12.toNat default).f_To).f_Kind)&&((((a0.getD v26.toNat default).f_To).f_A==((a0.getD v12.toNat default).f_To).f_A)&&((((a0.getD v26.toNat default).f_To).f_B==((a0.getD v12.toNat default).f_To).f_B)&&true)))))&&v30))),(9,.isl 6 (a0.map z6) false),(10,.int .i64 ((a0.map z6).length:Int)),(11,.int .i64 v12),(15,.isl 6 (a0.map z6) false),(16,.int .i64 ((a0.map z6).length:Int)),(17,.int .i64 v26)]) (L:=[((0,0),.tok),((1,0),.one [.int .i64 (((a0.getD v12.toNat default).f_From).f_Kind),.int .i64 (((a0.getD v12.toNat default).f_From).f_A),.int .i64 (((a0.getD v12.toNat default).f_From).f_B),.int .i64 (((a0.getD v12.toNat default).f_To).f_Kind),.int .i64 (((a0.getD v12.toNat default).f_To).f_A),.int .i64 (((a0.getD v12.toNat default).f_To).f_B)])]) (n:=2) ?_ ?_
  ·exact jw (M:=[((0,0),(0,0)),((1,0),(1,0))]) rfl (And.intro (Vw.same _ rfl) (And.intro (Vw.osl _ _ _ _ rfl) (And.intro (Vw.ptr _ _ _ _ rfl) (And.intro (Vw.same _ rfl) (And.intro (Vw.same _ rfl) (And.intro (Vw.same _ rfl) (And.intro (Vw.same _ rfl) (And.intro (Vw.same _ rfl) (And.intro (Vw.same _ rfl) (And.intro (Vw.same _ rfl) trivial)))))))))) (And.intro (And.intro rfl BVw.tok) (And.intro (And.intro rfl (BVw.oneL (And.intro (Vw.same _ rfl) (And.intro (Vw.same _ rfl) (And.intro (Vw.same _ rfl) (And.intro (Vw.same _ rfl) (And.intro (Vw.same _ rfl) (And.intro (Vw.same _ rfl) trivial)))))))) trivial))
  refine zy ?_
  cases h
  exact And.intro rfl (jw (M:=[((0,0),(0,0)),((1,0),(1,0))]) rfl (And.intro (Vw.same _ rfl) (And.intro (Vw.osl _ _ _ _ rfl) (And.intro (Vw.ptr _ _ _ _ rfl) (And.intro (Vw.same _ rfl) (And.intro (Vw.same _ rfl) (And.intro (Vw.same _ rfl) (And.intro (Vw.same _ rfl) (And.intro (Vw.same _ rfl) (And.intro (Vw.same _ rfl) (And.intro (Vw.same _ rfl) trivial)))))))))) (And.intro (And.intro rfl BVw.tok) (And.intro (And.intro rfl (BVw.oneL (And.intro (Vw.same _ rfl) (And.intro (Vw.same _ rfl) (And.intro (Vw.same _ rfl) (And.intro (Vw.same _ rfl) (And.intro (Vw.same _ rfl) (And.intro (Vw.same _ rfl) trivial)))))))) trivial)))
 ·have h:=qy h45 h
  refine Z7 ?_
  obtain⟨o,hq,rfl⟩:=Option.map_eq_some_iff.1 h
  replace h:=hq;clear hq
  refine And.intro nofun ?_
  refine LWp.sim ?_ (zhp h)
  exact jw (M:=[((0,0),(0,0)),((1,0),(1,0))]) rfl (And.intro (Vw.same _ rfl) (And.intro (Vw.osl _ _ _ _ rfl) (And.intro (Vw.ptr _ _ _ _ rfl) (And.intro (Vw.same _ rfl) (And.intro (Vw.same _ rfl) (And.intro (Vw.same _ rfl) (And.intro (Vw.same _ rfl) trivial))))))) (And.intro (And.intro rfl BVw.tok) (And.intro (And.intro rfl (BVw.oneL (And.intro (Vw.same _ rfl) (And.intro (Vw.same _ rfl) (And.intro (Vw.same _ rfl) (And.intro (Vw.same _ rfl) (And.intro (Vw.same _ rfl) (And.intro (Vw.same _ rfl) trivial)))))))) trivial))
theorem zh8{a0:List G_QEdge}{v11:List G_QEdge}{v12:Int}{v25:Bool}{v26:Int}{m:Option Nat}{o:(((List G_QEdge)×Int) ⊕ (List G_QEdge))}(h:xv m a0 v11 v12 v25 v26=some o) :
 LWp Try.prog kq 0 (.loop zho) (qp 2 (Z4 Try.prog kq 0 z8t (qp 1 (Z4 Try.prog kq 0 z3b (vp 0 1 (Ze a0) (Ye a0) (X9 a0) o))))) [(0,.isl 6 (a0.map z6) false),(3,.osl (0,0) 6 (v11.map z6)),(5,.ptr (1,0) 0 0),(6,.bool v25),(9,.isl 6 (a0.map z6) false),(10,.int .i64 ((a0.map z6).length:Int)),(11,.int .i64 v12),(15,.isl 6 (a0.map z6) false),(16,.int .i64 ((a0.map z6).length:Int)),(17,.int .i64 v26)] [((0,0),.tok),((1,0),.one [.int .i64 (((a0.getD v12.toNat default).f_From).f_Kind),.int .i64 (((a0.getD v12.toNat default).f_From).f_A),.int .i64 (((a0.getD v12.toNat default).f_From).f_B),.int .i64 (((a0.getD v12.toNat default).f_To).f_Kind),.int .i64 (((a0.getD v12.toNat default).f_To).f_A),.int .i64 (((a0.getD v12.toNat default).f_To).f_B)])] 2:=
 j7 (m:=m) (s:=((v25,v26):(Bool×Int))) (r:=o) (fun(s:(Bool×Int))=>yx m a0 v11 v12 s.1 s.2) (z0e a0 v11 v12) (z3n a0 v11 v12) (z9u a0) (fun s o h=>zbb h) h
noncomputable def jv(m:Option Nat)(v11:List G_QEdge):Option (List G_QEdge):=
 some v11
noncomputable def q8(m:Option Nat)(a0:List G_QEdge)(v11:List G_QEdge)(v12:Int):Option (((List G_QEdge)×Int) ⊕ (List G_QEdge)):=
 if(decide (v12<((a0.map z6).length:Int)))=true then
  if(0:Int)≤v12∧v12<((a0.map z6).length:Int) then
  xv m a0 v11 v12 false 0
  else none
 else
  Option.map Sum.inr (
   jv m v11)
noncomputable def xq(m:Option Nat)(a0:List G_QEdge)(v11:List G_QEdge)(v12:Int):Option (List G_QEdge):=ky m (fun(s:((List G_QEdge)×Int))=>q8 m a0 s.1 s.2) (v11,v12)
theorem zgg{a0:List G_QEdge}{v11:List G_QEdge}{m:Option Nat}{o:(List G_QEdge)}(h:jv m v11=some o) :
 LWp Try.prog kq 0 z99 (zky a0 o) [(3,.osl (0,0) 6 (v11.map z6))] [((0,0),.tok)] 1:=by
 unfold jv at h
 refine zh ?_
 refine zy ?_
 refine ua ?_
 cases h
 exact And.intro trivial (And.intro rfl (Vw.oslI _ _ _))
theorem zb5{a0:List G_QEdge}{v11:List G_QEdge}{v12:Int}{m:Option Nat}{o:((List G_QEdge)×Int) ⊕ (List G_QEdge)}(h:q8 m a0 v11 v12=some o) :
 LWp Try.prog kq 0 zgy (vp 0 1 (Ze a0) (Ye a0) (X9 a0) o) [(0,.isl 6 (a0.map z6) false),(3,.osl (0,0) 6 (v11.map z6)),(9,.isl 6 (a0.map z6) false),(10,.int .i64 ((a0.map z6).length:Int)),(11,.int .i64 v12)] [((0,0),.tok)] 1:=by
 unfold q8 at h
 refine zh ?_
 refine zy ?_
 refine zh ?_
 refine wc (v:=(decide (v12<((a0.map z6).length:Int)))) rfl trivial (fun h35=>?_) (fun h35=>?_)
 ·have h:=yt h35 h
  refine we ?_
  refine zh ?_
  refine jd ?_
  refine zh ?_
  refine zy ?_
  obtain⟨h36,h⟩:=zu h
  refine And.intro h36 ?_
  refine Exists.intro (z6 (a0.getD v12.toNat default)) (And.intro (je z6 _ _ (ws z6 h36)) (And.intro (And.intro (k9 h36) (Nat.le_of_ble_eq_true rfl)) ?_))
  refine zh ?_
  refine zy ?_
  refine zh ?_
  refine zh ?_
  refine zy ?_
  refine LWp.sim (e:=[(0,.isl 6 (a0.map z6) false),(3,.osl (0,0) 6 (v11.map z6)),(5,.ptr (1,0) 0 0),(6,.bool false),(9,.isl 6 (a0.map z6) false),(10,.int .i64 ((a0.map z6).length:Int)),(11,.int .i64 v12),(15,.isl 6 (a0.map z6) false),(16,.int .i64 ((a0.map z6).length:Int)),(17,.int .i64 0)]) (L:=[((0,0),.tok),((1,0),.one [.int .i64 (((a0.getD v12.toNat default).f_From).f_Kind),.int .i64 (((a0.getD v12.toNat default).f_From).f_A),.int .i64 (((a0.getD v12.toNat default).f_From).f_B),.int .i64 (((a0.getD v12.toNat default).f_To).f_Kind),.int .i64 (((a0.getD v12.toNat default).f_To).f_A),.int .i64 (((a0.getD v12.toNat default).f_To).f_B)])]) (n:=2) ?_ ?_
  ·exact jw (M:=[((0,0),(0,0)),((1,0),(1,0))]) rfl (And.intro (Vw.same _ rfl) (And.intro (Vw.osl _ _ _ _ rfl) (And.intro (Vw.ptr _ _ _ _ rfl) (And.intro (Vw.same _ rfl) (And.intro (Vw.same _ rfl) (And.intro (Vw.same _ rfl) (And.intro (Vw.same _ rfl) (And.intro (Vw.same _ rfl) (And.intro (Vw.same _ rfl) (And.intro (Vw.same _ rfl) trivial)))))))))) (And.intro (And.intro rfl BVw.tok) (And.intro (And.intro rfl (BVw.oneL (And.intro (Vw.same _ rfl) (And.intro (Vw.same _ rfl) (And.intro (Vw.same _ rfl) (And.intro (Vw.same _ rfl) (And.intro (Vw.same _ rfl) (And.intro (Vw.same _ rfl) trivial)))))))) trivial))
  refine jd ?_
  refine LWp.sim ?_ (zh8 h)
  exact jw (M:=[((0,0),(0,0)),((1,0),(1,0))]) rfl (And.intro (Vw.same _ rfl) (And.intro (Vw.osl _ _ _ _ rfl) (And.intro (Vw.ptr _ _ _ _ rfl) (And.intro (Vw.same _ rfl) (And.intro (Vw.same _ rfl) (And.intro (Vw.same _ rfl) (And.intro (Vw.same _ rfl) (And.intro (Vw.same _ rfl) (And.intro (Vw.same _ rfl) (And.intro (Vw.same _ rfl) trivial)))))))))) (And.intro (And.intro rfl BVw.tok) (And.intro (And.intro rfl (BVw.oneL (And.intro (Vw.same _ rfl) (And.intro (Vw.same _ rfl) (And.intro (Vw.same _ rfl) (And.intro (Vw.same _ rfl) (And.intro (Vw.same _ rfl) (And.intro (Vw.same _ rfl) trivial)))))))) trivial))
 ·have h:=qy h35 h
  refine Z7 ?_
  obtain⟨o,hq,rfl⟩:=Option.map_eq_some_iff.1 h
  replace h:=hq;clear hq
  refine And.intro nofun ?_
  refine LWp.sim ?_ (zgg h)
  exact jw (M:=[((0,0),(0,0))]) rfl (And.intro (Vw.osl _ _ _ _ rfl) trivial) (And.intro (And.intro rfl BVw.tok) trivial)
theorem zgr{a0:List G_QEdge}{v11:List G_QEdge}{v12:Int}{m:Option Nat}{o:(List G_QEdge)}(h:xq m a0 v11 v12=some o) :
 LWp Try.prog kq 0 (.loop zgy) (qp 0 (Z4 Try.prog kq 0 z99 (zky a0 o))) [(0,.isl 6 (a0.map z6) false),(3,.osl (0,0) 6 (v11.map z6)),(9,.isl 6 (a0.map z6) false),(10,.int .i64 ((a0.map z6).length:Int)),(11,.int .i64 v12)] [((0,0),.tok)] 1:=
 j7 (m:=m) (s:=((v11,v12):((List G_QEdge)×Int))) (r:=o) (fun(s:((List G_QEdge)×Int))=>q8 m a0 s.1 s.2) (Ze a0) (Ye a0) (X9 a0) (fun s o h=>zb5 h) h
noncomputable def jp(m:Option Nat)(a0:List G_QEdge):Option (List G_QEdge):=
 xq m a0 [] 0
theorem zha{a0:List G_QEdge}{m:Option Nat}{o:(List G_QEdge)}(h:jp m a0=some o):LWp Try.prog kq 0 zmv (zky a0 o) (yy 0 [.isl 6 (a0.map z6) false]) [] 0:=by
 unfold jp at h
 refine zh ?_
 refine zy ?_
 refine zh ?_
 refine zy ?_
 refine zh ?_
 refine zh ?_
 refine zy ?_
 refine jd ?_
 refine LWp.sim ?_ (zgr h)
 exact jw (M:=[]) rfl (And.intro (Vw.same _ rfl) (And.intro (Vw.nilO _ _ (by decide)) (And.intro (Vw.same _ rfl) (And.intro (Vw.same _ rfl) (And.intro (Vw.same _ rfl) trivial))))) (And.intro (And.intro rfl (And.intro (by decide) (by decide))) trivial)
theorem zs5{a0:List G_QEdge}{m:Option Nat}{o:(List G_QEdge)}(h:jp m a0=some o):PFn Try.prog 20 [.isl 6 (a0.map z6) false] (.isl 6 (o.map z6) false):=PFn.ofFnW (L:=zr9) zpb zng (Nat.le_of_ble_eq_true rfl) rfl (zha h)
def zcx:LCode:=(.seq (.region [⟨some 15,.bin .lss (.t 14) (.t 13),none⟩])
 (.seq (.cond (.t 15)
  .skip
  (.exit 0))
 (.seq (.block 1
  (.seq (.region [⟨some 16,.mv (.t 14),none⟩,
   ⟨some 17,.iaddr 6 (.t 12) (.t 14),none⟩,
   ⟨some 18,.load true 6 (.t 17),none⟩,
   ⟨some 6,.alloc [(.int .i64 0),(.int .i64 0),(.int .i64 0),(.int .i64 0),(.int .i64 0),(.int .i64 0)],none⟩,
   ⟨some 5,.mv (.t 16),none⟩,
   ⟨none,.store 6 (.t 6) (.t 18),none⟩])
  (.seq (.quiet [⟨some 19,.load true 6 (.t 6),none⟩,
   ⟨some 20,.mv (.t 1),none⟩,
   ⟨some 21,.mv (.t 5),none⟩,
   ⟨some 22,.iaddr 6 (.t 20) (.t 21),none⟩,
   ⟨some 23,.load true 6 (.t 22),none⟩,
   ⟨some 24,.eq true (.agg [.int,.int,.int,.int,.int,.int]) (.t 19) (.t 23),none⟩])
  (.cond (.t 24)
   (.seq (.region [⟨some 4,.mv (.c (.bool false)),none⟩])
   .ret)
   .skip))))
 (.region [⟨some 25,.bin .add (.t 14) (.c (.int .i64 1)),none⟩,
  ⟨some 14,.mv (.t 25),none⟩]))))
def z9w:LCode:=(.seq (.region [⟨some 4,.mv (.c (.bool true)),none⟩])
 .ret)
def zlw:LCode:=(.seq (.region [⟨some 4,.mv (.c (.bool false)),none⟩])
 (.seq (.seq (.region [⟨some 7,.mv (.t 0),none⟩,
  ⟨some 8,.len false (.t 7),none⟩,
  ⟨some 9,.mv (.t 1),none⟩,
  ⟨some 10,.len false (.t 9),none⟩,
  ⟨some 11,.bin .neq (.t 8) (.t 10),none⟩])
 (.cond (.t 11)
  (.seq (.region [⟨some 4,.mv (.c (.bool false)),none⟩])
  .ret)
  .skip))
 (.seq (.seq (.region [⟨some 12,.mv (.t 0),none⟩,
  ⟨some 13,.len false (.t 12),none⟩,
  ⟨some 14,.mv (.c (.int .i64 0)),none⟩])
 (.block 0
  (.loop
   zcx)))
 z9w)))
def Je:Lay:=⟨26,[],false⟩
def zd6:List LRes:=[.t 4]
def zrx:LFn:=⟨2,Je,zlw,zd6⟩
theorem zpn:vi Try.prog [] 19=some zrx:=by kernel_rfl
theorem znd:Z6 Try.prog 19:=⟨_,Try.func19,rfl,rfl⟩
def zlf(a0:List G_QEdge)(a1:List G_QEdge)(o:Bool):Exit→Env→AHeap→Nat→Prop:=Yb zd6 (wa (.bool o))
def z0d(a0:List G_QEdge)(a1:List G_QEdge)(s:Int):Env:=[(1,.isl 6 (a1.map z6) false),(12,.isl 6 (a0.map z6) false),(13,.int .i64 ((a0.map z6).length:Int)),(14,.int .i64 s)]
def z4y(a0:List G_QEdge)(a1:List G_QEdge)(s:Int):AHeap:=[]
def za1(a0:List G_QEdge)(a1:List G_QEdge)(o:Bool):Exit→Env→AHeap→Nat→Prop:=(qp 0 (Z4 Try.prog Je 0 z9w (zlf a0 a1 o)))
noncomputable def xj(m:Option Nat):Option Bool:=
 some true
noncomputable def yb(m:Option Nat)(a0:List G_QEdge)(a1:List G_QEdge)(v1:Int):Option (Int ⊕ Bool):=
 if(decide (v1<((a0.map z6).length:Int)))=true then
  if(0:Int)≤v1∧v1<((a0.map z6).length:Int) then
  if(0:Int)≤v1∧v1<((a1.map z6).length:Int) then
  if(!((((a0.getD v1.toNat default).f_From).f_Kind==((a1.getD v1.toNat default).f_From).f_Kind)&&((((a0.getD v1.toNat default).f_From).f_A==((a1.getD v1.toNat default).f_From).f_A)&&((((a0.getD v1.toNat default).f_From).f_B==((a1.getD v1.toNat default).f_From).f_B)&&((((a0.getD v1.toNat default).f_To).f_Kind==((a1.getD v1.toNat default).f_To).f_Kind)&&((((a0.getD v1.toNat default).f_To).f_A==((a1.getD v1.toNat default).f_To).f_A)&&((((a0.getD v1.toNat default).f_To).f_B==((a1.getD v1.toNat default).f_To).f_B)&&true)))))))=true then
   Option.map Sum.inr (
    some false)
  else
   some (.inl (W (v1+1)))
  else none
  else none
 else
  Option.map Sum.inr (
   xj m)
noncomputable def qh(m:Option Nat)(a0:List G_QEdge)(a1:List G_QEdge)(v1:Int):Option Bool:=ky m (fun(s:Int)=>yb m a0 a1 s) v1
theorem zhb{a0:List G_QEdge}{a1:List G_QEdge}{m:Option Nat}{o:Bool}(h:xj m=some o) :
 LWp Try.prog Je 0 z9w (zlf a0 a1 o) [] [] 0:=by
 unfold xj at h
 refine zh ?_
 refine zy ?_
 refine ua ?_
 cases h
 exact And.intro trivial (And.intro rfl (Vw.same _ rfl))
theorem zaw{a0:List G_QEdge}{a1:List G_QEdge}{v1:Int}{m:Option Nat}{o:Int ⊕ Bool}(h:yb m a0 a1 v1=some o) :
 LWp Try.prog Je 0 zcx (vp 0 0 (z0d a0 a1) (z4y a0 a1) (za1 a0 a1) o) [(1,.isl 6 (a1.map z6) false),(12,.isl 6 (a0.map z6) false),(13,.int .i64 ((a0.map z6).length:Int)),(14,.int .i64 v1)] [] 0:=by
 unfold yb at h
 refine zh ?_
 refine zy ?_
 refine zh ?_
 refine wc (v:=(decide (v1<((a0.map z6).length:Int)))) rfl trivial (fun h10=>?_) (fun h10=>?_)
 ·have h:=yt h10 h
  refine we ?_
  refine zh ?_
  refine jd ?_
  refine zh ?_
  refine zy ?_
  obtain⟨h11,h⟩:=zu h
  refine And.intro h11 ?_
  refine Exists.intro (z6 (a0.getD v1.toNat default)) (And.intro (je z6 _ _ (ws z6 h11)) (And.intro (And.intro (k9 h11) (Nat.le_of_ble_eq_true rfl)) ?_))
  refine zh ?_
  refine z3g ?_
  obtain⟨h12,h⟩:=zu h
  refine And.intro h12 ?_
  show yqs _ _ [(22,.iptr 6 (a1.map z6) v1.toNat 0),(21,.int .i64 v1),(20,.isl 6 (a1.map z6) false),(19,.agg [.int .i64 (((a0.getD v1.toNat default).f_From).f_Kind),.int .i64 (((a0.getD v1.toNat default).f_From).f_A),.int .i64 (((a0.getD v1.toNat default).f_From).f_B),.int .i64 (((a0.getD v1.toNat default).f_To).f_Kind),.int .i64 (((a0.getD v1.toNat default).f_To).f_A),.int .i64 (((a0.getD v1.toNat default).f_To).f_B)]),(5,.int .i64 v1),(6,.ptr (0,0) 0 0),(18,.agg [.int .i64 (((a0.getD v1.toNat default).f_From).f_Kind),.int .i64 (((a0.getD v1.toNat default).f_From).f_A),.int .i64 (((a0.getD v1.toNat default).f_From).f_B),.int .i64 (((a0.getD v1.toNat default).f_To).f_Kind),.int .i64 (((a0.getD v1.toNat default).f_To).f_A),.int .i64 (((a0.getD v1.toNat default).f_To).f_B)]),(17,.iptr 6 (a0.map z6) v1.toNat 0),(16,.int .i64 v1),(15,.bool (decide (v1<((a0.map z6).length:Int)))),(1,.isl 6 (a1.map z6) false),(12,.isl 6 (a0.map z6) false),(13,.int .i64 ((a0.map z6).length:Int)),(14,.int .i64 v1)] _ _
  refine Exists.intro (z6 (a1.getD v1.toNat default)) (And.intro (je z6 _ _ (ws z6 h12)) (And.intro (And.intro (k9 h12) (Nat.le_of_ble_eq_true rfl)) ?_))
  refine LWp.sim (e:=[(1,.isl 6 (a1.map z6) false),(12,.isl 6 (a0.map z6) false),(13,.int .i64 ((a0.map z6).length:Int)),(14,.int .i64 v1),(24,.bool (!((((a0.getD v1.toNat default).f_From).f_Kind==((a1.getD v1.toNat default).f_From).f_Kind)&&((((a0.getD v1.toNat default).f_From).f_A==((a1.getD v1.toNat default).f_From).f_A)&&((((a0.getD v1.toNat default).f_From).f_B==((a1.getD v1.toNat default).f_From).f_B)&&((((a0.getD v1.toNat default).f_To).f_Kind==((a1.getD v1.toNat default).f_To).f_Kind)&&((((a0.getD v1.toNat default).f_To).f_A==((a1.getD v1.toNat default).f_To).f_A)&&((((a0.getD v1.toNat default).f_To).f_B==((a1.getD v1.toNat default).f_To).f_B)&&true))))))))]) (L:=[]) (n:=0) ?_ ?_
  ·exact jw (M:=[]) rfl (And.intro (Vw.same _ rfl) (And.intro (Vw.same _ rfl) (And.intro (Vw.same _ rfl) (And.intro (Vw.same _ rfl) (And.intro (Vw.same _ rfl) trivial))))) trivial
  refine wc (v:=(!((((a0.getD v1.toNat default).f_From).f_Kind==((a1.getD v1.toNat default).f_From).f_Kind)&&((((a0.getD v1.toNat default).f_From).f_A==((a1.getD v1.toNat default).f_From).f_A)&&((((a0.getD v1.toNat default).f_From).f_B==((a1.getD v1.toNat default).f_From).f_B)&&((((a0.getD v1.toNat default).f_To).f_Kind==((a1.getD v1.toNat default).f_To).f_Kind)&&((((a0.getD v1.toNat default).f_To).f_A==((a1.getD v1.toNat default).f_To).f_A)&&((((a0.getD v1.toNat default).f_To).f_B==((a1.getD v1.toNat default).f_To).f_B)&&true)))))))) rfl trivial (fun h13=>?_) (fun h13=>?_)
  ·have h:=yt h13 h
   refine zh ?_
   refine zy ?_
   refine ua ?_
   obtain⟨o,hq,rfl⟩:=Option.map_eq_some_iff.1 h
   replace h:=hq;clear hq
   refine And.intro nofun ?_
   cases h
   exact And.intro trivial (And.intro rfl (Vw.same _ rfl))
  ·have h:=qy h13 h
   refine we ?_
   refine zy ?_
   cases h
   exact And.intro rfl (jw (M:=[]) rfl (And.intro (Vw.same _ rfl) (And.intro (Vw.same _ rfl) (And.intro (Vw.same _ rfl) (And.intro (Vw.same _ rfl) trivial)))) trivial)
 ·have h:=qy h10 h
  refine Z7 ?_
  obtain⟨o,hq,rfl⟩:=Option.map_eq_some_iff.1 h
  replace h:=hq;clear hq
  refine And.intro nofun ?_
  refine LWp.sim ?_ (zhb h)
  exact jw (M:=[]) rfl trivial trivial
theorem zew{a0:List G_QEdge}{a1:List G_QEdge}{v1:Int}{m:Option Nat}{o:Bool}(h:qh m a0 a1 v1=some o) :
 LWp Try.prog Je 0 (.loop zcx) (qp 0 (Z4 Try.prog Je 0 z9w (zlf a0 a1 o))) [(1,.isl 6 (a1.map z6) false),(12,.isl 6 (a0.map z6) false),(13,.int .i64 ((a0.map z6).length:Int)),(14,.int .i64 v1)] [] 0:=
 j7 (m:=m) (s:=(v1:Int)) (r:=o) (fun(s:Int)=>yb m a0 a1 s) (z0d a0 a1) (z4y a0 a1) (za1 a0 a1) (fun s o h=>zaw h) h
noncomputable def q9(m:Option Nat)(a0:List G_QEdge)(a1:List G_QEdge):Option Bool:=
 if(((a0.map z6).length:Int) != ((a1.map z6).length:Int))=true then
  some false
 else
  qh m a0 a1 0
theorem zg5{a0:List G_QEdge}{a1:List G_QEdge}{m:Option Nat}{o:Bool}(h:q9 m a0 a1=some o):LWp Try.prog Je 0 zlw (zlf a0 a1 o) (yy 0 [.isl 6 (a0.map z6) false,.isl 6 (a1.map z6) false]) [] 0:=by
 unfold q9 at h
 refine zh ?_
 refine zy ?_
 refine zh ?_
 refine zh ?_
 refine zy ?_
 refine wc (v:=(((a0.map z6).length:Int) != ((a1.map z6).length:Int))) rfl trivial (fun h1=>?_) (fun h1=>?_)
 ·have h:=yt h1 h
  refine zh ?_
  refine zy ?_
  refine ua ?_
  cases h
  exact And.intro trivial (And.intro rfl (Vw.same _ rfl))
 ·have h:=qy h1 h
  refine we ?_
  refine zh ?_
  refine zh ?_
  refine zy ?_
  refine LWp.sim (e:=[(1,.isl 6 (a1.map z6) false),(12,.isl 6 (a0.map z6) false),(13,.int .i64 ((a0.map z6).length:Int)),(14,.int .i64 0)]) (L:=[]) (n:=0) ?_ ?_
  ·exact jw (M:=[]) rfl (And.intro (Vw.same _ rfl) (And.intro (Vw.same _ rfl) (And.intro (Vw.same _ rfl) (And.intro (Vw.same _ rfl) trivial)))) trivial
  refine jd ?_
  refine LWp.sim ?_ (zew h)
  exact jw (M:=[]) rfl (And.intro (Vw.same _ rfl) (And.intro (Vw.same _ rfl) (And.intro (Vw.same _ rfl) (And.intro (Vw.same _ rfl) trivial)))) trivial
theorem zs2{a0:List G_QEdge}{a1:List G_QEdge}{m:Option Nat}{o:Bool}(h:q9 m a0 a1=some o):PFn Try.prog 19 [.isl 6 (a0.map z6) false,.isl 6 (a1.map z6) false] (.bool o):=PFn.ofFnW (L:=zrx) zpn znd (Nat.le_of_ble_eq_true rfl) rfl (zg5 h)
def zpx:LCode:=(.seq (.region [⟨some 2,.mv (.c (.bool false)),none⟩])
 (.seq (.seq (.region [⟨some 5,.call 7 [],none⟩,
  ⟨some 6,.un .not (.t 5),none⟩])
 (.cond (.t 6)
  (.seq (.region [⟨some 2,.mv (.c (.bool false)),none⟩])
  .ret)
  .skip))
 (.seq (.region [⟨some 7,.mv (.t 0),none⟩,
  ⟨some 8,.mv (.t 0),none⟩,
  ⟨some 9,.len false (.t 8),none⟩,
  ⟨some 10,.mnx false [(.t 9),(.c (.int .i64 20))],none⟩,
  ⟨some 11,.slSl 6 (.t 7) none (some (.t 10)) none,none⟩,
  ⟨some 0,.mv (.t 11),none⟩])
 (.seq (.region [⟨some 13,.mv (.t 0),none⟩,
  ⟨some 14,.call 18 [(.t 13)],none⟩,
  ⟨some 12,.mv (.t 14),none⟩,
  ⟨some 15,.ext 0 (.t 12),none⟩,
  ⟨some 16,.ext 1 (.t 12),none⟩,
  ⟨some 3,.mv (.t 15),none⟩,
  ⟨some 4,.mv (.t 16),none⟩])
 (.seq (.seq (.region [⟨some 17,.mv (.t 0),none⟩,
  ⟨some 18,.call 14 [(.t 17)],none⟩])
 (.cond (.t 18)
  (.seq (.region [⟨some 19,.call 7 [],none⟩,
   ⟨some 20,.mv (.t 19),none⟩,
   ⟨some 21,.mv (.t 4),some (20,true)⟩,
   ⟨some 22,.bin .eql (.t 21) (.c (.int .i64 8)),some (20,true)⟩,
   ⟨some 23,.pick (.t 20) (.t 22) (.c (.bool false)),none⟩,
   ⟨some 24,.mv (.t 23),none⟩,
   ⟨some 25,.mv (.t 3),some (24,true)⟩,
   ⟨some 26,.len false (.t 25),some (24,true)⟩,
   ⟨some 27,.bin .eql (.t 26) (.c (.int .i64 0)),some (24,true)⟩,
   ⟨some 28,.pick (.t 24) (.t 27) (.c (.bool false)),none⟩,
   ⟨some 2,.mv (.t 28),none⟩])
  .ret)
  .skip))
 (.seq (.region [⟨some 29,.call 7 [],none⟩,
  ⟨some 30,.mv (.t 29),none⟩,
  ⟨some 31,.mv (.t 4),some (30,true)⟩,
  ⟨some 32,.bin .eql (.t 31) (.c (.int .i64 0)),some (30,true)⟩,
  ⟨some 33,.pick (.t 30) (.t 32) (.c (.bool false)),none⟩,
  ⟨some 34,.mv (.t 33),none⟩,
  ⟨some 35,.mv (.t 3),some (34,true)⟩,
  ⟨some 36,.mv (.t 0),some (34,true)⟩,
  ⟨some 37,.call 20 [(.t 36)],some (34,true)⟩,
  ⟨some 38,.call 19 [(.t 35),(.t 37)],some (34,true)⟩,
  ⟨some 39,.pick (.t 34) (.t 38) (.c (.bool false)),none⟩,
  ⟨some 2,.mv (.t 39),none⟩])
 .ret))))))
def zmh:Lay:=⟨40,[],false⟩
def zlu:List LRes:=[.t 2]
def ztp:LFn:=⟨1,zmh,zpx,zlu⟩
theorem zqw:vi Try.prog [] 6=some ztp:=by kernel_rfl
theorem zrc:Z6 Try.prog 6:=⟨_,Try.func6,rfl,rfl⟩
noncomputable def yp(m:Option Nat)(a0:List G_QEdge):Option Bool:=
 (y9 m).bind fun v1=>
 if(!v1)=true then
  some false
 else
  if(0:Int)≤(if 20<((a0.map z6).length:Int) then 20 else((a0.map z6).length:Int))∧(if 20<((a0.map z6).length:Int) then 20 else((a0.map z6).length:Int))≤((a0.map z6).length:Int) then
  (zx m (a0.take (if 20<((a0.map z6).length:Int) then 20 else((a0.map z6).length:Int)).toNat)).bind fun v2=>
  (jn m (a0.take (if 20<((a0.map z6).length:Int) then 20 else((a0.map z6).length:Int)).toNat)).bind fun v3=>
  if v3=true then
   (y9 m).bind fun v4=>
   some ((v4&&(v2.2==8))&&(((v2.1.map z6).length:Int)==0))
  else
   (y9 m).bind fun v5=>
   (if((v5&&(v2.2==0))==true)=true then jp m (a0.take (if 20<((a0.map z6).length:Int) then 20 else((a0.map z6).length:Int)).toNat) else some default).bind fun v6=>
   (if((v5&&(v2.2==0))==true)=true then q9 m v2.1 v6 else some default).bind fun v7=>
   some ((v5&&(v2.2==0))&&v7)
  else none
def zuj(a0:List G_QEdge)(o:Bool):Exit→Env→AHeap→Nat→Prop:=Yb zlu (wa (.bool o))
theorem zku{a0:List G_QEdge}{m:Option Nat}{o:Bool}(h:yp m a0=some o):LWp Try.prog zmh 0 zpx (zuj a0 o) (yy 0 [.isl 6 (a0.map z6) false]) [] 0:=by
 unfold yp at h
 refine zh ?_
 refine zy ?_
 refine zh ?_
 refine zh ?_
 refine zy ?_
 obtain⟨v1,h1,h⟩:=bind_some h
 refine PFn.call (zn7 h1) trivial ?_
 refine wc (v:=(!v1)) rfl trivial (fun h2=>?_) (fun h2=>?_)
 ·have h:=yt h2 h
  refine zh ?_
  refine zy ?_
  refine ua ?_
  cases h
  exact And.intro trivial (And.intro rfl (Vw.same _ rfl))
 ·have h:=qy h2 h
  refine we ?_
  refine zh ?_
  refine zy ?_
  obtain⟨h3,h⟩:=zu h
  refine Exists.intro (.isl 6 ((a0.take (if 20<((a0.map z6).length:Int) then 20 else((a0.map z6).length:Int)).toNat).map z6) false) (And.intro (zk6 z6 (slB z6 a0 _) rfl) (And.intro (And.intro rfl (And.intro (Int.le_refl _) h3)) ?_))
  refine LWp.sim (e:=[(0,.isl 6 ((a0.take (if 20<((a0.map z6).length:Int) then 20 else((a0.map z6).length:Int)).toNat).map z6) false)]) (L:=[]) (n:=0) ?_ ?_
  ·exact jw (M:=[]) rfl (And.intro (Vw.same _ rfl) trivial) trivial
  refine zh ?_
  refine zy ?_
  obtain⟨v2,h4,h⟩:=bind_some h
  refine PFn.call (zsc h4) (And.intro (Vw.same _ rfl) trivial) ?_
  refine zh ?_
  refine zh ?_
  refine zy ?_
  obtain⟨v3,h5,h⟩:=bind_some h
  refine PFn.call (zpv h5) (And.intro (Vw.same _ rfl) trivial) ?_
  show Y2 _ _ _ [(18,.bool v3),(17,.isl 6 ((a0.take (if 20<((a0.map z6).length:Int) then 20 else((a0.map z6).length:Int)).toNat).map z6) false),(4,.int .i64 v2.2),(3,.isl 6 (v2.1.map z6) false),(16,.int .i64 v2.2),(15,.isl 6 (v2.1.map z6) false),(12,.tup [.isl 6 (v2.1.map z6) false,.int .i64 v2.2]),(14,.tup [.isl 6 (v2.1.map z6) false,.int .i64 v2.2]),(13,.isl 6 ((a0.take (if 20<((a0.map z6).length:Int) then 20 else((a0.map z6).length:Int)).toNat).map z6) false),(0,.isl 6 ((a0.take (if 20<((a0.map z6).length:Int) then 20 else((a0.map z6).length:Int)).toNat).map z6) false)] _ _
  refine LWp.sim (e:=[(0,.isl 6 ((a0.take (if 20<((a0.map z6).length:Int) then 20 else((a0.map z6).length:Int)).toNat).map z6) false),(3,.isl 6 (v2.1.map z6) false),(4,.int .i64 v2.2),(18,.bool v3)]) (L:=[]) (n:=0) ?_ ?_
  ·exact jw (M:=[]) rfl (And.intro (Vw.same _ rfl) (And.intro (Vw.same _ rfl) (And.intro (Vw.same _ rfl) (And.intro (Vw.same _ rfl) trivial)))) trivial
  refine wc (v:=v3) rfl trivial (fun h6=>?_) (fun h6=>?_)
  ·have h:=yt h6 h
   refine zh ?_
   refine zy ?_
   obtain⟨v4,h7,h⟩:=bind_some h
   refine PFn.call (zn7 h7) trivial ?_
   refine And.intro (fun hp=>hp) ?_
   refine And.intro (fun hc=>(bqt hc)) ?_
   show Y2 _ _ _ [(23,.bool (v4&&(v2.2==8))),(22,.cnd (v4==true) (.bool (v2.2==8))),(21,.cnd (v4==true) (.int .i64 v2.2)),(20,.bool v4),(19,.bool v4),(0,.isl 6 ((a0.take (if 20<((a0.map z6).length:Int) then 20 else((a0.map z6).length:Int)).toNat).map z6) false),(3,.isl 6 (v2.1.map z6) false),(4,.int .i64 v2.2),(18,.bool v3)] _ _
   refine And.intro (fun hp=>hp) ?_
   refine And.intro (fun hp=>hp) ?_
   refine And.intro (fun hc=>(bqt hc)) ?_
   show Y2 _ _ _ [(28,.bool ((v4&&(v2.2==8))&&(((v2.1.map z6).length:Int)==0))),(27,.cnd ((v4&&(v2.2==8))==true) (.bool (((v2.1.map z6).length:Int)==0))),(26,.cnd ((v4&&(v2.2==8))==true) (.int .i64 ((v2.1.map z6).length:Int))),(25,.cnd ((v4&&(v2.2==8))==true) (.isl 6 (v2.1.map z6) false)),(24,.bool (v4&&(v2.2==8))),(23,.bool (v4&&(v2.2==8))),(22,.cnd (v4==true) (.bool (v2.2==8))),(21,.cnd (v4==true) (.int .i64 v2.2)),(20,.bool v4),(19,.bool v4),(0,.isl 6 ((a0.take (if 20<((a0.map z6).length:Int) then 20 else((a0.map z6).length:Int)).toNat).map z6) false),(3,.isl 6 (v2.1.map z6) false),(4,.int .i64 v2.2),(18,.bool v3)] _ _
   refine LWp.sim (e:=[(2,.bool ((v4&&(v2.2==8))&&(((v2.1.map z6).length:Int)==0)))]) (L:=[]) (n:=0) ?_ ?_
   ·exact jw (M:=[]) rfl (And.intro (Vw.same _ rfl) trivial) trivial
   refine ua ?_
   cases h
   exact And.intro trivial (And.intro rfl (Vw.same _ rfl))
  ·have h:=qy h6 h
   refine we ?_
   refine zh ?_
   refine zy ?_
   obtain⟨v5,h8,h⟩:=bind_some h
   refine PFn.call (zn7 h8) trivial ?_
   refine And.intro (fun hp=>hp) ?_
   refine And.intro (fun hc=>(bqt hc)) ?_
   show Y2 _ _ _ [(33,.bool (v5&&(v2.2==0))),(32,.cnd (v5==true) (.bool (v2.2==0))),(31,.cnd (v5==true) (.int .i64 v2.2)),(30,.bool v5),(29,.bool v5),(0,.isl 6 ((a0.take (if 20<((a0.map z6).length:Int) then 20 else((a0.map z6).length:Int)).toNat).map z6) false),(3,.isl 6 (v2.1.map z6) false),(4,.int .i64 v2.2),(18,.bool v3)] _ _
   obtain⟨v6,h9,h⟩:=bind_some h
   refine Or.inl (Exists.intro (.isl 6 (v6.map z6) false) (And.intro (fun hp=>And.intro hp (PFn.call (zs5 (yt hp h9)) (And.intro (Vw.same _ rfl) trivial) (And.intro rfl (And.intro rfl rfl)))) ?_))
   obtain⟨v7,h10,h⟩:=bind_some h
   refine Or.inl (Exists.intro (.bool v7) (And.intro (fun hp=>And.intro (And.intro hp hp) (PFn.call (zs2 (yt hp h10)) (And.intro (Vw.same _ rfl) (And.intro (Vw.same _ rfl) trivial)) (And.intro rfl (And.intro rfl rfl)))) ?_))
   refine And.intro (fun hc=>(bqt hc)) ?_
   show Y2 _ _ _ [(39,.bool ((v5&&(v2.2==0))&&v7)),(38,.cnd ((v5&&(v2.2==0))==true) (.bool v7)),(37,.cnd ((v5&&(v2.2==0))==true) (.isl 6 (v6.map z6) false)),(36,.cnd ((v5&&(v2.2==0))==true) (.isl 6 ((a0.take (if 20<((a0.map z6).length:Int) then 20 else((a0.map z6).length:Int)).toNat).map z6) false)),(35,.cnd ((v5&&(v2.2==0))==true) (.isl 6 (v2.1.map z6) false)),(34,.bool (v5&&(v2.2==0))),(33,.bool (v5&&(v2.2==0))),(32,.cnd (v5==true) (.bool (v2.2==0))),(31,.cnd (v5==true) (.int .i64 v2.2)),(30,.bool v5),(29,.bool v5),(0,.isl 6 ((a0.take (if 20<((a0.map z6).length:Int) then 20 else((a0.map z6).length:Int)).toNat).map z6) false),(3,.isl 6 (v2.1.map z6) false),(4,.int .i64 v2.2),(18,.bool v3)] _ _
   refine LWp.sim (e:=[(2,.bool ((v5&&(v2.2==0))&&v7))]) (L:=[]) (n:=0) ?_ ?_
   ·exact jw (M:=[]) rfl (And.intro (Vw.same _ rfl) trivial) trivial
   refine ua ?_
   cases h
   exact And.intro trivial (And.intro rfl (Vw.same _ rfl))
theorem zsw{a0:List G_QEdge}{m:Option Nat}{o:Bool}(h:yp m a0=some o):PFn Try.prog 6 [.isl 6 (a0.map z6) false] (.bool o):=PFn.ofFnW (L:=ztp) zqw zrc (Nat.le_of_ble_eq_true rfl) rfl (zku h)
end Go.Proofs.Ytejfgjggcoemeaa
