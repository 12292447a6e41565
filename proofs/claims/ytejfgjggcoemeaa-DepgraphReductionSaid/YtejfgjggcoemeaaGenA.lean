/-
  Own text GenA of this claim: what functions of the given program compute, in plain Lean, and the proof; no condition.
-/
import Derived.Test.YtejfgjggcoemeaaChecked
import Derived.Test.YtejfgjggcoemeaaFxN
import Derived.Test.YtejfgjggcoemeaaFxGr
import Derived.Test.YtejfgjggcoemeaaFxMd
import Derived.Test.YtejfgjggcoemeaaFxGm
import Derived.Test.YtejfgjggcoemeaaFxDt
import Derived.Test.YtejfgjggcoemeaaFxSo
import Derived.Test.YtejfgjggcoemeaaLib
import Derived.KernelRfl
namespace Go.Proofs.Ytejfgjggcoemeaa
open Go.Fx
set_option linter.unusedVariables false
structure G_QKey where
 f_Kind:Int
 f_A:Int
 f_B:Int
instance:Inhabited G_QKey:=⟨(G_QKey.mk 0 0 0)⟩
structure G_QEdge where
 f_From:G_QKey
 f_To:G_QKey
instance:Inhabited G_QEdge:=⟨(G_QEdge.mk (G_QKey.mk 0 0 0) (G_QKey.mk 0 0 0))⟩
structure G_boundsError where
 f_x:Int
 f_y:Int
 f_signed:Bool
 f_code:Int
instance:Inhabited G_boundsError:=⟨(G_boundsError.mk 0 0 false 0)⟩
def z6(x:G_QEdge):List AVal:=[.int .i64 x.f_From.f_Kind,.int .i64 x.f_From.f_A,.int .i64 x.f_From.f_B,.int .i64 x.f_To.f_Kind,.int .i64 x.f_To.f_A,.int .i64 x.f_To.f_B]
def z7(x:G_QKey):List AVal:=[.int .i64 x.f_Kind,.int .i64 x.f_A,.int .i64 x.f_B]
def Js(x:List G_QKey):List AVal:=[.isl 3 (x.map z7) false]
def Ym(x:Int):List AVal:=[.int .i64 x]
def Z9(x:G_boundsError):List AVal:=[.int .i64 x.f_x,.int .i64 x.f_y,.bool x.f_signed,.int .u8 x.f_code]
def za(x:G_QKey):AVal:=.agg [.int .i64 x.f_Kind,.int .i64 x.f_A,.int .i64 x.f_B]
theorem qu(x:G_QKey):(za x).nid=true:=rfl
def z8(x:List G_QKey):AVal:=.isl 3 (x.map z7) false
theorem zb(x:List G_QKey):(z8 x).nid=true:=rfl
def Yv(x:G_boundsError):AVal:=.agg [.int .i64 x.f_x,.int .i64 x.f_y,.bool x.f_signed,.int .u8 x.f_code]
theorem zby(x:G_boundsError):(Yv x).nid=true:=rfl
def qb(x:Int):AVal:=.int .i64 x
theorem y7(x:Int):(qb x).nid=true:=rfl
def zd(x y:G_QKey):Bool:=(x.f_Kind==y.f_Kind&&(x.f_A==y.f_A&&(x.f_B==y.f_B&&true)))
theorem xf(x y:G_QKey):Y6 [.int,.int,.int] (za x) (za y)=some (zd x y):=rfl
def z2u(x y:G_boundsError):Bool:=(x.f_x==y.f_x&&(x.f_y==y.f_y&&(x.f_signed==y.f_signed&&(x.f_code==y.f_code&&true))))
theorem zcb(x y:G_boundsError):Y6 [.int,.int,.bool,.int] (Yv x) (Yv y)=some (z2u x y):=rfl
theorem zpr(x:G_QEdge):AVal.nid.nidL (z6 x)=true∧∀y∈z6 x,y.imm=some y:=⟨rfl,by simp[z6,AVal.imm]⟩
theorem Ut(x:G_QKey):AVal.nid.nidL (z7 x)=true∧∀y∈z7 x,y.imm=some y:=⟨rfl,by simp[z7,AVal.imm]⟩
theorem zlo(x:List G_QKey):AVal.nid.nidL (Js x)=true∧∀y∈Js x,y.imm=some y:=⟨rfl,by simp[Js,AVal.imm]⟩
theorem zsl(x:Int):AVal.nid.nidL (Ym x)=true∧∀y∈Ym x,y.imm=some y:=⟨rfl,by simp[Ym,AVal.imm]⟩
theorem zc9(x:G_boundsError):AVal.nid.nidL (Z9 x)=true∧∀y∈Z9 x,y.imm=some y:=⟨rfl,by simp[Z9,AVal.imm]⟩
theorem Jk(x y:G_QKey)(h:zd x y=true):za x=za y:=by
 unfold zd at h
 simp only[Bool.and_eq_true,beq_iff_eq,Bool.and_true] at h
 unfold za
 simp[h]
theorem zn3(x:G_QEdge):AVal.nid.nidL (z6 x)=true:=rfl
theorem wu(x:G_QKey):AVal.nid.nidL (z7 x)=true:=rfl
theorem zkr(x:List G_QKey):AVal.nid.nidL (Js x)=true:=rfl
theorem zqv(x:Int):AVal.nid.nidL (Ym x)=true:=rfl
theorem zc8(x:G_boundsError):AVal.nid.nidL (Z9 x)=true:=rfl
def zmn:LCode:=(.seq (.region [⟨some 2,.mv (.c (.bool false)),none⟩])
 (.seq (.region [⟨some 3,.mv (.t 0),none⟩,
  ⟨some 4,.mv (.t 0),none⟩,
  ⟨some 5,.bin .neq (.t 3) (.t 4),none⟩,
  ⟨some 2,.mv (.t 5),none⟩])
 .ret))
def zek:Lay:=⟨6,[],false⟩
def zia:List LRes:=[.t 2]
def zq0:LFn:=⟨1,zek,zmn,zia⟩
theorem zpk:vi Try.prog [] 64=some zq0:=by kernel_rfl
theorem znt:Z6 Try.prog 64:=⟨_,Try.func64,rfl,rfl⟩
noncomputable def wy(m:Option Nat)(a0:Int):Option Bool:=
 some (a0 != a0)
def zte(a0:Int)(o:Bool):Exit→Env→AHeap→Nat→Prop:=Yb zia (wa (.bool o))
theorem zhn{a0:Int}{m:Option Nat}{o:Bool}(h:wy m a0=some o):LWp Try.prog zek 0 zmn (zte a0 o) (yy 0 [.int .i64 a0]) [] 0:=by
 unfold wy at h
 refine zh ?_
 refine zy ?_
 refine zh ?_
 refine zy ?_
 refine ua ?_
 cases h
 exact And.intro trivial (And.intro rfl (Vw.same _ rfl))
theorem zmu{a0:Int}{m:Option Nat}{o:Bool}(h:wy m a0=some o):PFn Try.prog 64 [.int .i64 a0] (.bool o):=PFn.ofFnW (L:=zq0) zpk znt (Nat.le_of_ble_eq_true rfl) rfl (zhn h)
def zm2:LCode:=(.seq (.region [⟨some 4,.mv (.c (.int .i64 0)),none⟩])
 (.seq (.region [⟨some 7,.mv (.t 0),none⟩,
  ⟨some 8,.call 64 [(.t 7)],none⟩,
  ⟨some 5,.mv (.t 8),none⟩])
 (.seq (.region [⟨some 9,.mv (.t 1),none⟩,
  ⟨some 10,.call 64 [(.t 9)],none⟩,
  ⟨some 6,.mv (.t 10),none⟩])
 (.seq (.seq (.region [⟨some 11,.mv (.t 5),none⟩])
 (.cond (.t 11)
  (.seq (.seq (.region [⟨some 12,.mv (.t 6),none⟩])
  (.cond (.t 12)
   (.seq (.region [⟨some 4,.mv (.c (.int .i64 0)),none⟩])
   .ret)
   .skip))
  (.seq (.region [⟨some 4,.mv (.c (.int .i64 (-1))),none⟩])
  .ret))
  .skip))
 (.seq (.seq (.region [⟨some 13,.mv (.t 6),none⟩])
 (.cond (.t 13)
  (.seq (.region [⟨some 4,.mv (.c (.int .i64 1)),none⟩])
  .ret)
  .skip))
 (.seq (.seq (.region [⟨some 14,.mv (.t 0),none⟩,
  ⟨some 15,.mv (.t 1),none⟩,
  ⟨some 16,.bin .lss (.t 14) (.t 15),none⟩])
 (.cond (.t 16)
  (.seq (.region [⟨some 4,.mv (.c (.int .i64 (-1))),none⟩])
  .ret)
  .skip))
 (.seq (.seq (.region [⟨some 17,.mv (.t 0),none⟩,
  ⟨some 18,.mv (.t 1),none⟩,
  ⟨some 19,.bin .gtr (.t 17) (.t 18),none⟩])
 (.cond (.t 19)
  (.seq (.region [⟨some 4,.mv (.c (.int .i64 1)),none⟩])
  .ret)
  .skip))
 (.seq (.region [⟨some 4,.mv (.c (.int .i64 0)),none⟩])
 .ret))))))))
def zck:Lay:=⟨20,[],false⟩
def zfu:List LRes:=[.t 4]
def zs3:LFn:=⟨2,zck,zm2,zfu⟩
theorem znx:vi Try.prog [] 51=some zs3:=by kernel_rfl
theorem zpe:Z6 Try.prog 51:=⟨_,Try.func51,rfl,rfl⟩
noncomputable def qa(m:Option Nat)(a0:Int)(a1:Int):Option Int:=
 (wy m a0).bind fun v1=>
 (wy m a1).bind fun v2=>
 if v1=true then
  if v2=true then
   some 0
  else
   some (-1)
 else
  if v2=true then
   some 1
  else
   if(decide (a0<a1))=true then
    some (-1)
   else
    if(decide (a0 > a1))=true then
     some 1
    else
     some 0
def zsu(a0:Int)(a1:Int)(o:Int):Exit→Env→AHeap→Nat→Prop:=Yb zfu (wa (.int .i64 o))
theorem zh7{a0:Int}{a1:Int}{m:Option Nat}{o:Int}(h:qa m a0 a1=some o):LWp Try.prog zck 0 zm2 (zsu a0 a1 o) (yy 0 [.int .i64 a0,.int .i64 a1]) [] 0:=by
 unfold qa at h
 refine zh ?_
 refine zy ?_
 refine zh ?_
 refine zy ?_
 obtain⟨v1,h1,h⟩:=bind_some h
 refine PFn.call (zmu h1) (And.intro (Vw.same _ rfl) trivial) ?_
 refine zh ?_
 refine zy ?_
 obtain⟨v2,h2,h⟩:=bind_some h
 refine PFn.call (zmu h2) (And.intro (Vw.same _ rfl) trivial) ?_
 show Y2 _ _ _ [(10,.bool v2),(9,.int .i64 a1),(5,.bool v1),(8,.bool v1),(7,.int .i64 a0),(4,.int .i64 0),(0,.int .i64 a0),(1,.int .i64 a1)] _ _
 refine zh ?_
 refine zh ?_
 refine zy ?_
 refine LWp.sim (e:=[(0,.int .i64 a0),(1,.int .i64 a1),(6,.bool v2),(11,.bool v1)]) (L:=[]) (n:=0) ?_ ?_
 ·exact jw (M:=[]) rfl (And.intro (Vw.same _ rfl) (And.intro (Vw.same _ rfl) (And.intro (Vw.same _ rfl) (And.intro (Vw.same _ rfl) trivial)))) trivial
 refine wc (v:=v1) rfl trivial (fun h3=>?_) (fun h3=>?_)
 ·have h:=yt h3 h
  refine zh ?_
  refine zh ?_
  refine zy ?_
  refine wc (v:=v2) rfl trivial (fun h4=>?_) (fun h4=>?_)
  ·have h:=yt h4 h
   refine zh ?_
   refine zy ?_
   refine ua ?_
   cases h
   exact And.intro trivial (And.intro rfl (Vw.same _ rfl))
  ·have h:=qy h4 h
   refine we ?_
   refine zh ?_
   refine zy ?_
   refine ua ?_
   cases h
   exact And.intro trivial (And.intro rfl (Vw.same _ rfl))
 ·have h:=qy h3 h
  refine we ?_
  refine zh ?_
  refine zh ?_
  refine zy ?_
  refine wc (v:=v2) rfl trivial (fun h5=>?_) (fun h5=>?_)
  ·have h:=yt h5 h
   refine zh ?_
   refine zy ?_
   refine ua ?_
   cases h
   exact And.intro trivial (And.intro rfl (Vw.same _ rfl))
  ·have h:=qy h5 h
   refine we ?_
   refine zh ?_
   refine zh ?_
   refine zy ?_
   refine wc (v:=(decide (a0<a1))) rfl trivial (fun h6=>?_) (fun h6=>?_)
   ·have h:=yt h6 h
    refine zh ?_
    refine zy ?_
    refine ua ?_
    cases h
    exact And.intro trivial (And.intro rfl (Vw.same _ rfl))
   ·have h:=qy h6 h
    refine we ?_
    refine zh ?_
    refine zh ?_
    refine zy ?_
    refine wc (v:=(decide (a0 > a1))) rfl trivial (fun h7=>?_) (fun h7=>?_)
    ·have h:=yt h7 h
     refine zh ?_
     refine zy ?_
     refine LWp.sim (e:=[(4,.int .i64 1)]) (L:=[]) (n:=0) ?_ ?_
     ·exact jw (M:=[]) rfl (And.intro (Vw.same _ rfl) trivial) trivial
     refine ua ?_
     cases h
     exact And.intro trivial (And.intro rfl (Vw.same _ rfl))
    ·have h:=qy h7 h
     refine we ?_
     refine zh ?_
     refine zy ?_
     refine LWp.sim (e:=[(4,.int .i64 0)]) (L:=[]) (n:=0) ?_ ?_
     ·exact jw (M:=[]) rfl (And.intro (Vw.same _ rfl) trivial) trivial
     refine ua ?_
     cases h
     exact And.intro trivial (And.intro rfl (Vw.same _ rfl))
theorem z0g{a0:Int}{a1:Int}{m:Option Nat}{o:Int}(h:qa m a0 a1=some o):PFn Try.prog 51 [.int .i64 a0,.int .i64 a1] (.int .i64 o):=PFn.ofFnW (L:=zs3) znx zpe (Nat.le_of_ble_eq_true rfl) rfl (zh7 h)
def zh4:LCode:=(.seq (.region [⟨some 9,.bin .lss (.t 8) (.t 7),none⟩])
 (.seq (.cond (.t 9)
  .skip
  (.exit 0))
 (.seq (.block 1
  (.seq (.region [⟨some 10,.iaddr 1 (.t 6) (.t 8),none⟩,
   ⟨some 11,.load false 1 (.t 10),none⟩,
   ⟨some 5,.mv (.t 11),none⟩])
  (.seq (.region [⟨some 12,.mv (.t 5),none⟩,
   ⟨some 13,.mv (.t 3),none⟩,
   ⟨some 14,.bin .neq (.t 12) (.t 13),none⟩])
  (.cond (.t 14)
   (.seq (.region [⟨some 15,.mv (.t 5),none⟩,
    ⟨some 2,.mv (.t 15),none⟩])
   .ret)
   .skip))))
 (.region [⟨some 16,.bin .add (.t 8) (.c (.int .i64 1)),none⟩,
  ⟨some 8,.mv (.t 16),none⟩]))))
def zad:LCode:=(.seq (.region [⟨some 17,.mv (.t 3),none⟩,
 ⟨some 2,.mv (.t 17),none⟩])
 .ret)
def zm4:LCode:=(.seq (.region [⟨some 2,.mv (.c (.int .i64 0)),none⟩])
 (.seq (.region [⟨some 3,.mv (.c (.int .i64 0)),none⟩])
 (.seq (.seq (.region [⟨some 6,.mv (.t 0),none⟩,
  ⟨some 7,.len false (.t 6),none⟩,
  ⟨some 8,.mv (.c (.int .i64 0)),none⟩])
 (.block 0
  (.loop
   zh4)))
 zad)))
def J6:Lay:=⟨18,[],false⟩
def zfo:List LRes:=[.t 2]
def zq7:LFn:=⟨1,J6,zm4,zfo⟩
theorem zn8:vi Try.prog [] 50=some zq7:=by kernel_rfl
theorem znr:Z6 Try.prog 50:=⟨_,Try.func50,rfl,rfl⟩
def zkh(a0:List Int)(o:Int):Exit→Env→AHeap→Nat→Prop:=Yb zfo (wa (.int .i64 o))
def z13(a0:List Int)(s:Int):Env:=[(3,.int .i64 0),(6,.isl 1 (a0.map Ym) false),(7,.int .i64 ((a0.map Ym).length:Int)),(8,.int .i64 s)]
def z61(a0:List Int)(s:Int):AHeap:=[]
def z8v(a0:List Int)(o:Int):Exit→Env→AHeap→Nat→Prop:=(qp 0 (Z4 Try.prog J6 0 zad (zkh a0 o)))
noncomputable def kc(m:Option Nat):Option Int:=
 some 0
noncomputable def zz(m:Option Nat)(a0:List Int)(v1:Int):Option (Int ⊕ Int):=
 if(decide (v1<((a0.map Ym).length:Int)))=true then
  if(0:Int)≤v1∧v1<((a0.map Ym).length:Int) then
  if((a0.getD v1.toNat default) != 0)=true then
   Option.map Sum.inr (
    some (a0.getD v1.toNat default))
  else
   some (.inl (W (v1+1)))
  else none
 else
  Option.map Sum.inr (
   kc m)
noncomputable def kf(m:Option Nat)(a0:List Int)(v1:Int):Option Int:=ky m (fun(s:Int)=>zz m a0 s) v1
theorem ze6{a0:List Int}{m:Option Nat}{o:Int}(h:kc m=some o) :
 LWp Try.prog J6 0 zad (zkh a0 o) [(3,.int .i64 0)] [] 0:=by
 unfold kc at h
 refine zh ?_
 refine zy ?_
 refine ua ?_
 cases h
 exact And.intro trivial (And.intro rfl (Vw.same _ rfl))
theorem zbk{a0:List Int}{v1:Int}{m:Option Nat}{o:Int ⊕ Int}(h:zz m a0 v1=some o) :
 LWp Try.prog J6 0 zh4 (vp 0 0 (z13 a0) (z61 a0) (z8v a0) o) [(3,.int .i64 0),(6,.isl 1 (a0.map Ym) false),(7,.int .i64 ((a0.map Ym).length:Int)),(8,.int .i64 v1)] [] 0:=by
 unfold zz at h
 refine zh ?_
 refine zy ?_
 refine zh ?_
 refine wc (v:=(decide (v1<((a0.map Ym).length:Int)))) rfl trivial (fun h7=>?_) (fun h7=>?_)
 ·have h:=yt h7 h
  refine we ?_
  refine zh ?_
  refine jd ?_
  refine zh ?_
  refine zy ?_
  obtain⟨h8,h⟩:=zu h
  refine And.intro h8 ?_
  refine Exists.intro (Ym (a0.getD v1.toNat default)) (And.intro (je Ym _ _ (ws Ym h8)) (And.intro (And.intro (k9 h8) (Nat.le_of_ble_eq_true rfl)) ?_))
  refine zh ?_
  refine zy ?_
  refine wc (v:=((a0.getD v1.toNat default) != 0)) rfl trivial (fun h9=>?_) (fun h9=>?_)
  ·have h:=yt h9 h
   refine zh ?_
   refine zy ?_
   refine LWp.sim (e:=[(2,.int .i64 (a0.getD v1.toNat default))]) (L:=[]) (n:=0) ?_ ?_
   ·exact jw (M:=[]) rfl (And.intro (Vw.same _ rfl) trivial) trivial
   refine ua ?_
   obtain⟨o,hq,rfl⟩:=Option.map_eq_some_iff.1 h
   replace h:=hq;clear hq
   refine And.intro nofun ?_
   cases h
   exact And.intro trivial (And.intro rfl (Vw.same _ rfl))
  ·have h:=qy h9 h
   refine we ?_
   refine zy ?_
   cases h
   exact And.intro rfl (jw (M:=[]) rfl (And.intro (Vw.same _ rfl) (And.intro (Vw.same _ rfl) (And.intro (Vw.same _ rfl) (And.intro (Vw.same _ rfl) trivial)))) trivial)
 ·have h:=qy h7 h
  refine Z7 ?_
  obtain⟨o,hq,rfl⟩:=Option.map_eq_some_iff.1 h
  replace h:=hq;clear hq
  refine And.intro nofun ?_
  refine LWp.sim ?_ (ze6 h)
  exact jw (M:=[]) rfl (And.intro (Vw.same _ rfl) trivial) trivial
theorem zh9{a0:List Int}{v1:Int}{m:Option Nat}{o:Int}(h:kf m a0 v1=some o) :
 LWp Try.prog J6 0 (.loop zh4) (qp 0 (Z4 Try.prog J6 0 zad (zkh a0 o))) [(3,.int .i64 0),(6,.isl 1 (a0.map Ym) false),(7,.int .i64 ((a0.map Ym).length:Int)),(8,.int .i64 v1)] [] 0:=
 j7 (m:=m) (s:=(v1:Int)) (r:=o) (fun(s:Int)=>zz m a0 s) (z13 a0) (z61 a0) (z8v a0) (fun s o h=>zbk h) h
noncomputable def wh(m:Option Nat)(a0:List Int):Option Int:=
 kf m a0 0
theorem zgj{a0:List Int}{m:Option Nat}{o:Int}(h:wh m a0=some o):LWp Try.prog J6 0 zm4 (zkh a0 o) (yy 0 [.isl 1 (a0.map Ym) false]) [] 0:=by
 unfold wh at h
 refine zh ?_
 refine zy ?_
 refine zh ?_
 refine zy ?_
 refine zh ?_
 refine zh ?_
 refine zy ?_
 refine jd ?_
 refine LWp.sim ?_ (zh9 h)
 exact jw (M:=[]) rfl (And.intro (Vw.same _ rfl) (And.intro (Vw.same _ rfl) (And.intro (Vw.same _ rfl) (And.intro (Vw.same _ rfl) trivial)))) trivial
theorem zlp{a0:List Int}{m:Option Nat}{o:Int}(h:wh m a0=some o):PFn Try.prog 50 [.isl 1 (a0.map Ym) false] (.int .i64 o):=PFn.ofFnW (L:=zq7) zn8 znr (Nat.le_of_ble_eq_true rfl) rfl (zgj h)
def z9l:LCode:=(.seq (.region [⟨some 2,.box (.t 0),none⟩,
 ⟨some 3,.box (.t 1),none⟩,
 ⟨some 4,.mv (.c (.int .i64 0)),none⟩])
 (.seq (.draw [⟨⟨some 5,.faddr 0 (.t 2),none⟩,[]⟩,
  ⟨⟨some 6,.load false 1 (.t 5),none⟩,[]⟩,
  ⟨⟨some 7,.faddr 0 (.t 3),none⟩,[]⟩,
  ⟨⟨some 8,.load false 1 (.t 7),none⟩,[]⟩,
  ⟨⟨some 10,.faddr 1 (.t 2),none⟩,[]⟩,
  ⟨⟨some 11,.load false 1 (.t 10),none⟩,[]⟩,
  ⟨⟨some 12,.faddr 1 (.t 3),none⟩,[]⟩,
  ⟨⟨some 13,.load false 1 (.t 12),none⟩,[]⟩,
  ⟨⟨some 15,.faddr 2 (.t 2),none⟩,[]⟩,
  ⟨⟨some 16,.load false 1 (.t 15),none⟩,[]⟩,
  ⟨⟨some 17,.faddr 2 (.t 3),none⟩,[]⟩,
  ⟨⟨some 18,.load false 1 (.t 17),none⟩,[]⟩,
  ⟨⟨some 9,.call 51 [(.t 6),(.t 8)],none⟩,[5,7,9,11]⟩,
  ⟨⟨some 14,.call 51 [(.t 11),(.t 13)],none⟩,[9,11]⟩,
  ⟨⟨some 19,.call 51 [(.t 16),(.t 18)],none⟩,[]⟩,
  ⟨⟨some 20,.mkSl true 1 [(.int .i64 0)] 3 [(0,(.t 9)),(1,(.t 14)),(2,(.t 19))],none⟩,[]⟩,
  ⟨⟨some 21,.call 50 [(.t 20)],none⟩,[]⟩,
  ⟨⟨some 4,.mv (.t 21),none⟩,[]⟩])
 .ret))
def z3z:Lay:=⟨22,[],false⟩
def z3d:List LRes:=[.t 4]
def zhz:LFn:=⟨2,z3z,z9l,z3d⟩
theorem zcr:vi Try.prog [] 39=some zhz:=by kernel_rfl
theorem zd3:Z6 Try.prog 39:=⟨_,Try.func39,rfl,rfl⟩
noncomputable def yz(m:Option Nat)(a0:G_QKey)(a1:G_QKey):Option Int:=
 (qa m a0.f_Kind a1.f_Kind).bind fun v1=>
 (qa m a0.f_A a1.f_A).bind fun v2=>
 (qa m a0.f_B a1.f_B).bind fun v3=>
 (wh m ([v1,v2,v3]:List Int)).bind fun v4=>
 some v4
def zo7(a0:G_QKey)(a1:G_QKey)(o:Int):Exit→Env→AHeap→Nat→Prop:=Yb z3d (Qh 3 4 (.int .i64 o) [])
theorem z6o{a0:G_QKey}{a1:G_QKey}{m:Option Nat}{o:Int}(h:yz m a0 a1=some o):LWp Try.prog z3z 3 z9l (zo7 a0 a1 o) (yy 0 [.agg [.int .i64 a0.f_Kind,.int .i64 a0.f_A,.int .i64 a0.f_B],.agg [.int .i64 a1.f_Kind,.int .i64 a1.f_A,.int .i64 a1.f_B]]) [] 3:=by
 unfold yz at h
 refine zh ?_
 refine zy ?_
 refine zh ?_
 refine Vd ?_
 obtain⟨v1,h1,h⟩:=bind_some h
 refine PFn.call (z0g h1) (And.intro (Vw.same _ rfl) (And.intro (Vw.same _ rfl) trivial)) ?_
 refine And.intro rfl ?_
 refine And.intro rfl ?_
 refine And.intro rfl ?_
 refine And.intro rfl ?_
 obtain⟨v2,h2,h⟩:=bind_some h
 refine PFn.call (z0g h2) (And.intro (Vw.same _ rfl) (And.intro (Vw.same _ rfl) trivial)) ?_
 refine And.intro rfl ?_
 refine And.intro rfl ?_
 obtain⟨v3,h3,h⟩:=bind_some h
 refine PFn.call (z0g h3) (And.intro (Vw.same _ rfl) (And.intro (Vw.same _ rfl) trivial)) ?_
 show yd _ _ _ _ _ [(19,.int .i64 v3),(14,.int .i64 v2),(9,.int .i64 v1),(18,.int .i64 a1.f_B),(17,.ptr (4,0) 0 2),(16,.int .i64 a0.f_B),(15,.ptr (3,0) 0 2),(13,.int .i64 a1.f_A),(12,.ptr (4,0) 0 1),(11,.int .i64 a0.f_A),(10,.ptr (3,0) 0 1),(8,.int .i64 a1.f_Kind),(7,.ptr (4,0) 0 0),(6,.int .i64 a0.f_Kind),(5,.ptr (3,0) 0 0),(4,.int .i64 0),(3,.ptr (4,0) 0 0),(2,.ptr (3,0) 0 0),(0,.agg [.int .i64 a0.f_Kind,.int .i64 a0.f_A,.int .i64 a0.f_B]),(1,.agg [.int .i64 a1.f_Kind,.int .i64 a1.f_A,.int .i64 a1.f_B])] _ _
 obtain⟨v4,h4,h⟩:=bind_some h
 refine PFn.call (zlp h4) (And.intro (Vw.islF _ _ _) trivial) ?_
 show yd _ _ _ _ _ [(21,.int .i64 v4),(20,.isl 1 (([v1,v2,v3]:List Int).map Ym) true),(19,.int .i64 v3),(14,.int .i64 v2),(9,.int .i64 v1),(18,.int .i64 a1.f_B),(17,.ptr (4,0) 0 2),(16,.int .i64 a0.f_B),(15,.ptr (3,0) 0 2),(13,.int .i64 a1.f_A),(12,.ptr (4,0) 0 1),(11,.int .i64 a0.f_A),(10,.ptr (3,0) 0 1),(8,.int .i64 a1.f_Kind),(7,.ptr (4,0) 0 0),(6,.int .i64 a0.f_Kind),(5,.ptr (3,0) 0 0),(4,.int .i64 0),(3,.ptr (4,0) 0 0),(2,.ptr (3,0) 0 0),(0,.agg [.int .i64 a0.f_Kind,.int .i64 a0.f_A,.int .i64 a0.f_B]),(1,.agg [.int .i64 a1.f_Kind,.int .i64 a1.f_A,.int .i64 a1.f_B])] _ _
 refine LWp.sim (e:=[(4,.int .i64 v4)]) (L:=[]) (n:=3) ?_ ?_
 ·exact jw (M:=[]) rfl (And.intro (Vw.same _ rfl) trivial) trivial
 refine ua ?_
 cases h
 exact And.intro trivial (ziz (n':=3) [] [] rfl rfl (Vw.same _ rfl) trivial)
theorem zk3{a0:G_QKey}{a1:G_QKey}{m:Option Nat}{o:Int}(h:yz m a0 a1=some o):ACalls Try.prog 39 [.agg [.int .i64 a0.f_Kind,.int .i64 a0.f_A,.int .i64 a0.f_B],.agg [.int .i64 a1.f_Kind,.int .i64 a1.f_A,.int .i64 a1.f_B]] [] 3 (ub 4 (.int .i64 o) []):=Yf (L:=zhz) zcr zd3 (Nat.le_of_ble_eq_true rfl) (z6o h)
def z2j:LCode:=(.seq (.seq (.region [⟨some 15,.mv (.t 9),none⟩,
 ⟨some 16,.mv (.t 10),none⟩,
 ⟨some 17,.bin .lss (.t 15) (.t 16),none⟩])
 (.cond (.t 17)
  .skip
  (.exit 0)))
 (.block 1
  (.seq (.region [⟨some 18,.mv (.t 9),none⟩,
   ⟨some 19,.mv (.t 10),none⟩,
   ⟨some 20,.bin .add (.t 18) (.t 19),none⟩,
   ⟨some 21,.conv (.int .u64) (.t 20),none⟩,
   ⟨some 22,.bin .shr (.t 21) (.c (.int .u64 1)),none⟩,
   ⟨some 23,.conv (.int .i64) (.t 22),none⟩,
   ⟨some 11,.mv (.t 23),none⟩])
  (.seq (.draw [⟨⟨some 24,.mv (.t 2),none⟩,[]⟩,
   ⟨⟨some 25,.mv (.t 0),none⟩,[]⟩,
   ⟨⟨some 26,.mv (.t 11),none⟩,[]⟩,
   ⟨⟨some 27,.iaddr 3 (.t 25) (.t 26),none⟩,[]⟩,
   ⟨⟨some 28,.load true 3 (.t 27),none⟩,[]⟩,
   ⟨⟨some 29,.load true 3 (.t 4),none⟩,[]⟩,
   ⟨⟨some 30,.callv (.t 24) [(.t 28),(.t 29)],none⟩,[]⟩,
   ⟨⟨some 31,.bin .lss (.t 30) (.c (.int .i64 0)),none⟩,[]⟩])
  (.cond (.t 31)
   (.region [⟨some 32,.mv (.t 11),none⟩,
    ⟨some 33,.bin .add (.t 32) (.c (.int .i64 1)),none⟩,
    ⟨some 9,.mv (.t 33),none⟩])
   (.region [⟨some 34,.mv (.t 11),none⟩,
    ⟨some 10,.mv (.t 34),none⟩]))))))
def z9e:LCode:=.ret
def Vy:LCode:=(.seq (.draw [⟨⟨some 35,.mv (.t 9),none⟩,[]⟩,
 ⟨⟨some 36,.mv (.t 9),none⟩,[]⟩,
 ⟨⟨some 37,.mv (.t 8),none⟩,[]⟩,
 ⟨⟨some 38,.bin .lss (.t 36) (.t 37),none⟩,[]⟩,
 ⟨⟨some 39,.mv (.t 38),none⟩,[]⟩,
 ⟨⟨some 40,.mv (.t 2),some (39,true)⟩,[]⟩,
 ⟨⟨some 41,.mv (.t 0),some (39,true)⟩,[]⟩,
 ⟨⟨some 42,.mv (.t 9),some (39,true)⟩,[]⟩,
 ⟨⟨some 43,.iaddr 3 (.t 41) (.t 42),some (39,true)⟩,[]⟩,
 ⟨⟨some 44,.load true 3 (.t 43),some (39,true)⟩,[]⟩,
 ⟨⟨some 45,.load true 3 (.t 4),some (39,true)⟩,[]⟩,
 ⟨⟨some 46,.callv (.t 40) [(.t 44),(.t 45)],some (39,true)⟩,[]⟩,
 ⟨⟨some 47,.bin .eql (.t 46) (.c (.int .i64 0)),some (39,true)⟩,[]⟩,
 ⟨⟨some 48,.pick (.t 39) (.t 47) (.c (.bool false)),none⟩,[]⟩,
 ⟨⟨some 6,.mv (.t 35),none⟩,[]⟩,
 ⟨⟨some 7,.mv (.t 48),none⟩,[]⟩])
 z9e)
def zab:LCode:=(.seq (.region [⟨some 4,.box (.t 1),none⟩,
 ⟨some 6,.mv (.c (.int .i64 0)),none⟩,
 ⟨some 7,.mv (.c (.bool false)),none⟩])
 (.seq (.region [⟨some 12,.mv (.t 0),none⟩,
  ⟨some 13,.len false (.t 12),none⟩,
  ⟨some 8,.mv (.t 13),none⟩])
 (.seq (.region [⟨some 14,.mv (.t 8),none⟩,
  ⟨some 9,.mv (.c (.int .i64 0)),none⟩,
  ⟨some 10,.mv (.t 14),none⟩])
 (.seq (.block 0
  (.loop
   z2j))
 Vy))))
def Z2:Lay:=⟨49,[],false⟩
def z4h:List LRes:=[.t 6,.t 7]
def zer:LFn:=⟨3,Z2,zab,z4h⟩
theorem ziu:vi Try.prog [] 46=some zer:=by kernel_rfl
theorem zfy:Z6 Try.prog 46:=⟨_,Try.func46,rfl,rfl⟩
def Kk{σ:Type}(Hc:σ→AHeap)(fi0:Fn)(ff0 fc0:List AVal)(a0:G_QKey)(a1:List G_QKey)(z0:σ)(o:Int×Bool×σ):Exit→Env→AHeap→Nat→Prop:=Yb z4h (Qh 3 4 (.tup [.int .i64 o.1,.bool o.2.1]) ([((0,0),.rows 3 (a1.map z7))]++up 3 (Hc o.2.2)))
def V4{σ:Type}(Hc:σ→AHeap)(fi0:Fn)(ff0 fc0:List AVal)(a0:G_QKey)(a1:List G_QKey)(s:(Int×σ×Int)):Env:=[(0,.msl (0,0) 3 0 a1.length false),(2,.fn fi0 ff0 fc0),(4,.ptr (4,0) 0 0),(8,.int .i64 ((a1.length:Nat):Int)),(9,.int .i64 s.1),(10,.int .i64 s.2.2)]
def Ku{σ:Type}(Hc:σ→AHeap)(fi0:Fn)(ff0 fc0:List AVal)(a0:G_QKey)(a1:List G_QKey)(s:(Int×σ×Int)):AHeap:=([((0,0),.rows 3 (a1.map z7)),((4,0),.one [.int .i64 a0.f_Kind,.int .i64 a0.f_A,.int .i64 a0.f_B])]++up 3 (Hc s.2.1))
def z0j{σ:Type}(Hc:σ→AHeap)(fi0:Fn)(ff0 fc0:List AVal)(a0:G_QKey)(a1:List G_QKey)(z0:σ)(o:(Int×Bool×σ)):Exit→Env→AHeap→Nat→Prop:=(qp 0 (Z4 Try.prog Z2 3 Vy (Kk Hc fi0 ff0 fc0 a0 a1 z0 o)))
noncomputable def yu{σ:Type}(g0:σ→(G_QKey×G_QKey)→Option (Int×σ))(m:Option Nat)(a1:List G_QKey)(v2:Int)(v8:Bool)(v9:σ):Option (Int×Bool×σ):=
 some (v2,v8,v9)
noncomputable def qz{σ:Type}(g0:σ→(G_QKey×G_QKey)→Option (Int×σ))(m:Option Nat)(a0:G_QKey)(a1:List G_QKey)(v2:Int)(v3:σ):Option (Int×Bool×σ):=
 if(((decide (v2<((a1.length:Nat):Int)))==true)=true→(0:Int)≤v2∧v2<((a1.length:Nat):Int)) then
 if(((decide (v2<((a1.length:Nat):Int)))==true)=true→(0+v2.toNat)<a1.length) then
 if((decide (v2<((a1.length:Nat):Int)))==true)=true then
  (g0 v3 ((G_QKey.mk ((a1.getD (0+v2.toNat) default).f_Kind) ((a1.getD (0+v2.toNat) default).f_A) ((a1.getD (0+v2.toNat) default).f_B)),a0)).bind fun v7=>
  yu g0 m a1 v2 ((decide (v2<((a1.length:Nat):Int)))&&(v7.1==0)) v7.2
 else
  yu g0 m a1 v2 ((decide (v2<((a1.length:Nat):Int)))&&((0:Int)==0)) v3
 else none
 else none
noncomputable def zl{σ:Type}(g0:σ→(G_QKey×G_QKey)→Option (Int×σ))(m:Option Nat)(a0:G_QKey)(a1:List G_QKey)(v2:Int)(v3:σ)(v4:Int):Option ((Int×σ×Int) ⊕ (Int×Bool×σ)):=
 if(decide (v2<v4))=true then
  if(0:Int)≤(W ((IntKind.wrap .u64 (W (v2+v4))).fdiv (2 ^ (min (1:Int).toNat (IntKind.bits .u64)))))∧(W ((IntKind.wrap .u64 (W (v2+v4))).fdiv (2 ^ (min (1:Int).toNat (IntKind.bits .u64)))))<((a1.length:Nat):Int) then
  if(0+(W ((IntKind.wrap .u64 (W (v2+v4))).fdiv (2 ^ (min (1:Int).toNat (IntKind.bits .u64))))).toNat)<a1.length then
  (g0 v3 ((G_QKey.mk ((a1.getD (0+(W ((IntKind.wrap .u64 (W (v2+v4))).fdiv (2 ^ (min (1:Int).toNat (IntKind.bits .u64))))).toNat) default).f_Kind) ((a1.getD (0+(W ((IntKind.wrap .u64 (W (v2+v4))).fdiv (2 ^ (min (1:Int).toNat (IntKind.bits .u64))))).toNat) default).f_A) ((a1.getD (0+(W ((IntKind.wrap .u64 (W (v2+v4))).fdiv (2 ^ (min (1:Int).toNat (IntKind.bits .u64))))).toNat) default).f_B)),a0)).bind fun v6=>
  if(decide (v6.1<0))=true then
   some (.inl ((W ((W ((IntKind.wrap .u64 (W (v2+v4))).fdiv (2 ^ (min (1:Int).toNat (IntKind.bits .u64)))))+1)),v6.2,v4))
  else
   some (.inl (v2,v6.2,(W ((IntKind.wrap .u64 (W (v2+v4))).fdiv (2 ^ (min (1:Int).toNat (IntKind.bits .u64)))))))
  else none
  else none
 else
  Option.map Sum.inr (
   qz g0 m a0 a1 v2 v3)
noncomputable def zm{σ:Type}(g0:σ→(G_QKey×G_QKey)→Option (Int×σ))(m:Option Nat)(a0:G_QKey)(a1:List G_QKey)(v2:Int)(v3:σ)(v4:Int):Option (Int×Bool×σ):=ky m (fun(s:(Int×σ×Int))=>zl g0 m a0 a1 s.1 s.2.1 s.2.2) (v2,v3,v4)
theorem Kd{σ:Type}{Hc:σ→AHeap}{fi0:Fn}{ff0 fc0:List AVal}{g0:σ→(G_QKey×G_QKey)→Option (Int×σ)}(hg0:Clo Try.prog fi0 ff0 fc0 Hc (fun(x:(G_QKey×G_QKey))=>[.agg [.int .i64 x.1.f_Kind,.int .i64 x.1.f_A,.int .i64 x.1.f_B],.agg [.int .i64 x.2.f_Kind,.int .i64 x.2.f_A,.int .i64 x.2.f_B]]) (fun(b:Int)=>.int .i64 b) g0){a0:G_QKey}{z0:σ}{a1:List G_QKey}{v2:Int}{v8:Bool}{v9:σ}{m:Option Nat}{o:(Int×Bool×σ)}(h:yu g0 m a1 v2 v8 v9=some o) :
 LWp Try.prog Z2 3 z9e (Kk Hc fi0 ff0 fc0 a0 a1 z0 o) [(6,.int .i64 v2),(7,.bool v8)] ([((0,0),.rows 3 (a1.map z7))]++up 3 (Hc v9)) 4:=by
 unfold yu at h
 refine ua ?_
 cases h
 exact And.intro trivial (And.intro trivial (zso (n':=4) (q:=3) (lit':=[((0,0),.rows 3 (a1.map z7))]) (hg0.tl _) [] [] rfl rfl (Vw.same _ rfl) (And.intro (And.intro rfl (BVw.enc z7 (fun _=>rfl) _ a1)) trivial)))
theorem z6f{σ:Type}{Hc:σ→AHeap}{fi0:Fn}{ff0 fc0:List AVal}{g0:σ→(G_QKey×G_QKey)→Option (Int×σ)}(hg0:Clo Try.prog fi0 ff0 fc0 Hc (fun(x:(G_QKey×G_QKey))=>[.agg [.int .i64 x.1.f_Kind,.int .i64 x.1.f_A,.int .i64 x.1.f_B],.agg [.int .i64 x.2.f_Kind,.int .i64 x.2.f_A,.int .i64 x.2.f_B]]) (fun(b:Int)=>.int .i64 b) g0){z0:σ}{a0:G_QKey}{a1:List G_QKey}{v2:Int}{v3:σ}{m:Option Nat}{o:(Int×Bool×σ)}(h:qz g0 m a0 a1 v2 v3=some o) :
 LWp Try.prog Z2 3 Vy (Kk Hc fi0 ff0 fc0 a0 a1 z0 o) [(0,.msl (0,0) 3 0 a1.length false),(2,.fn fi0 ff0 fc0),(4,.ptr (4,0) 0 0),(8,.int .i64 ((a1.length:Nat):Int)),(9,.int .i64 v2)] ([((0,0),.rows 3 (a1.map z7)),((4,0),.one [.int .i64 a0.f_Kind,.int .i64 a0.f_A,.int .i64 a0.f_B])]++up 3 (Hc v3)) 5:=by
 unfold qz at h
 refine zh ?_
 refine z04 rfl ?_
 obtain⟨h16,h⟩:=zu h
 refine And.intro (fun hp=>(And.intro (And.intro hp hp) (h16 hp))) ?_
 show Y2 _ _ _ [(43,.cnd ((decide (v2<((a1.length:Nat):Int)))==true) (.ptr (0,0) (0+v2.toNat) 0)),(42,.cnd ((decide (v2<((a1.length:Nat):Int)))==true) (.int .i64 v2)),(41,.cnd ((decide (v2<((a1.length:Nat):Int)))==true) (.msl (0,0) 3 0 a1.length false)),(40,.cnd ((decide (v2<((a1.length:Nat):Int)))==true) (.fn fi0 ff0 fc0)),(39,.bool (decide (v2<((a1.length:Nat):Int)))),(38,.bool (decide (v2<((a1.length:Nat):Int)))),(37,.int .i64 ((a1.length:Nat):Int)),(36,.int .i64 v2),(35,.int .i64 v2),(0,.msl (0,0) 3 0 a1.length false),(2,.fn fi0 ff0 fc0),(4,.ptr (4,0) 0 0),(8,.int .i64 ((a1.length:Nat):Int)),(9,.int .i64 v2)] _ _
 obtain⟨h17,h⟩:=zu h
 refine Exists.intro (z7 (a1.getD (0+v2.toNat) default)) (And.intro (fun hp=>And.intro (je z7 _ _ (h17 hp)) (And.intro hp (And.intro (zgh z7 (h17 hp)) (Nat.le_of_ble_eq_true rfl)))) ?_)
 refine Or.inr (And.intro (fun h18=>?_) (fun h19=>?_))
 ·have h:=yt h18 h
  obtain⟨v7,h20,h⟩:=bind_some h
  refine And.intro (And.intro h18 (And.intro h18 h18)) ?_
  refine Clo.use (q:=3) (lit:=[((0,0),.rows 3 (a1.map z7)),((4,0),.one [.int .i64 a0.f_Kind,.int .i64 a0.f_A,.int .i64 a0.f_B])]) hg0 h20 rfl rfl (And.intro (Vw.same _ rfl) (And.intro (Vw.same _ rfl) trivial)) ?_
  refine And.intro (fun hc=>h18) ?_
  show Y2 _ _ _ [(48,.bool ((decide (v2<((a1.length:Nat):Int)))&&(v7.1==0))),(47,.cnd ((decide (v2<((a1.length:Nat):Int)))==true) (.bool (v7.1==0))),(46,.int .i64 v7.1),(45,.cnd ((decide (v2<((a1.length:Nat):Int)))==true) (.agg [.int .i64 a0.f_Kind,.int .i64 a0.f_A,.int .i64 a0.f_B])),(44,.cnd ((decide (v2<((a1.length:Nat):Int)))==true) (.agg [.int .i64 ((a1.getD (0+v2.toNat) default).f_Kind),.int .i64 ((a1.getD (0+v2.toNat) default).f_A),.int .i64 ((a1.getD (0+v2.toNat) default).f_B)])),(43,.cnd ((decide (v2<((a1.length:Nat):Int)))==true) (.ptr (0,0) (0+v2.toNat) 0)),(42,.cnd ((decide (v2<((a1.length:Nat):Int)))==true) (.int .i64 v2)),(41,.cnd ((decide (v2<((a1.length:Nat):Int)))==true) (.msl (0,0) 3 0 a1.length false)),(40,.cnd ((decide (v2<((a1.length:Nat):Int)))==true) (.fn fi0 ff0 fc0)),(39,.bool (decide (v2<((a1.length:Nat):Int)))),(38,.bool (decide (v2<((a1.length:Nat):Int)))),(37,.int .i64 ((a1.length:Nat):Int)),(36,.int .i64 v2),(35,.int .i64 v2),(0,.msl (0,0) 3 0 a1.length false),(2,.fn fi0 ff0 fc0),(4,.ptr (4,0) 0 0),(8,.int .i64 ((a1.length:Nat):Int)),(9,.int .i64 v2)] _ _
  refine LWp.sim ?_ (Kd hg0 h)
  exact zav (M:=[]) (lit':=[((0,0),.rows 3 (a1.map z7)),((4,0),.one [.int .i64 a0.f_Kind,.int .i64 a0.f_A,.int .i64 a0.f_B])]) (hg0.tl _) rfl (And.intro (Vw.same _ rfl) (And.intro (Vw.same _ rfl) trivial)) (And.intro (And.intro rfl (BVw.enc z7 (fun _=>rfl) _ a1)) trivial)
 ·have h:=qy h19 h
  refine Exists.intro (.cnd ((decide (v2<((a1.length:Nat):Int)))==true) (.int .i64 0)) (And.intro (Or.inr (Exists.intro _ (congrArg (fun q=>AVal.cnd q _) h19))) ?_)
  refine And.intro (fun hp=>hp) ?_
  refine And.intro (fun hc=>(bqt hc)) ?_
  show Y2 _ _ _ [(48,.bool ((decide (v2<((a1.length:Nat):Int)))&&((0:Int)==0))),(47,.cnd ((decide (v2<((a1.length:Nat):Int)))==true) (.bool ((0:Int)==0))),(46,.cnd ((decide (v2<((a1.length:Nat):Int)))==true) (.int .i64 0)),(45,.cnd ((decide (v2<((a1.length:Nat):Int)))==true) (.agg [.int .i64 a0.f_Kind,.int .i64 a0.f_A,.int .i64 a0.f_B])),(44,.cnd ((decide (v2<((a1.length:Nat):Int)))==true) (.agg [.int .i64 ((a1.getD (0+v2.toNat) default).f_Kind),.int .i64 ((a1.getD (0+v2.toNat) default).f_A),.int .i64 ((a1.getD (0+v2.toNat) default).f_B)])),(43,.cnd ((decide (v2<((a1.length:Nat):Int)))==true) (.ptr (0,0) (0+v2.toNat) 0)),(42,.cnd ((decide (v2<((a1.length:Nat):Int)))==true) (.int .i64 v2)),(41,.cnd ((decide (v2<((a1.length:Nat):Int)))==true) (.msl (0,0) 3 0 a1.length false)),(40,.cnd ((decide (v2<((a1.length:Nat):Int)))==true) (.fn fi0 ff0 fc0)),(39,.bool (decide (v2<((a1.length:Nat):Int)))),(38,.bool (decide (v2<((a1.length:Nat):Int)))),(37,.int .i64 ((a1.length:Nat):Int)),(36,.int .i64 v2),(35,.int .i64 v2),(0,.msl (0,0) 3 0 a1.length false),(2,.fn fi0 ff0 fc0),(4,.ptr (4,0) 0 0),(8,.int .i64 ((a1.length:Nat):Int)),(9,.int .i64 v2)] _ _
  refine LWp.sim ?_ (Kd hg0 h)
  exact zav (M:=[]) (lit':=[((0,0),.rows 3 (a1.map z7)),((4,0),.one [.int .i64 a0.f_Kind,.int .i64 a0.f_A,.int .i64 a0.f_B])]) (hg0.tl _) rfl (And.intro (Vw.same _ rfl) (And.intro (Vw.same _ rfl) trivial)) (And.intro (And.intro rfl (BVw.enc z7 (fun _=>rfl) _ a1)) trivial)
theorem z4x{σ:Type}{Hc:σ→AHeap}{fi0:Fn}{ff0 fc0:List AVal}{g0:σ→(G_QKey×G_QKey)→Option (Int×σ)}(hg0:Clo Try.prog fi0 ff0 fc0 Hc (fun(x:(G_QKey×G_QKey))=>[.agg [.int .i64 x.1.f_Kind,.int .i64 x.1.f_A,.int .i64 x.1.f_B],.agg [.int .i64 x.2.f_Kind,.int .i64 x.2.f_A,.int .i64 x.2.f_B]]) (fun(b:Int)=>.int .i64 b) g0){z0:σ}{a0:G_QKey}{a1:List G_QKey}{v2:Int}{v3:σ}{v4:Int}{m:Option Nat}{o:(Int×σ×Int) ⊕ (Int×Bool×σ)}(h:zl g0 m a0 a1 v2 v3 v4=some o) :
 LWp Try.prog Z2 3 z2j (vp 3 5 (V4 Hc fi0 ff0 fc0 a0 a1) (Ku Hc fi0 ff0 fc0 a0 a1) (z0j Hc fi0 ff0 fc0 a0 a1 z0) o) [(0,.msl (0,0) 3 0 a1.length false),(2,.fn fi0 ff0 fc0),(4,.ptr (4,0) 0 0),(8,.int .i64 ((a1.length:Nat):Int)),(9,.int .i64 v2),(10,.int .i64 v4)] ([((0,0),.rows 3 (a1.map z7)),((4,0),.one [.int .i64 a0.f_Kind,.int .i64 a0.f_A,.int .i64 a0.f_B])]++up 3 (Hc v3)) 5:=by
 unfold zl at h
 refine zh ?_
 refine zh ?_
 refine zy ?_
 refine wc (v:=(decide (v2<v4))) rfl trivial (fun h11=>?_) (fun h11=>?_)
 ·have h:=yt h11 h
  refine we ?_
  refine jd ?_
  refine zh ?_
  refine zy ?_
  refine And.intro (by decide) ?_
  show Y2 _ _ _ [(22,.int .u64 ((IntKind.wrap .u64 (W (v2+v4))).fdiv (2 ^ (min (1:Int).toNat (IntKind.bits .u64))))),(21,.int .u64 (IntKind.wrap .u64 (W (v2+v4)))),(20,.int .i64 (W (v2+v4))),(19,.int .i64 v4),(18,.int .i64 v2),(17,.bool (decide (v2<v4))),(16,.int .i64 v4),(15,.int .i64 v2),(0,.msl (0,0) 3 0 a1.length false),(2,.fn fi0 ff0 fc0),(4,.ptr (4,0) 0 0),(8,.int .i64 ((a1.length:Nat):Int)),(9,.int .i64 v2),(10,.int .i64 v4)] _ _
  refine LWp.sim (e:=[(0,.msl (0,0) 3 0 a1.length false),(2,.fn fi0 ff0 fc0),(4,.ptr (4,0) 0 0),(8,.int .i64 ((a1.length:Nat):Int)),(9,.int .i64 v2),(10,.int .i64 v4),(11,.int .i64 (W ((IntKind.wrap .u64 (W (v2+v4))).fdiv (2 ^ (min (1:Int).toNat (IntKind.bits .u64))))))]) (L:=([((0,0),.rows 3 (a1.map z7)),((4,0),.one [.int .i64 a0.f_Kind,.int .i64 a0.f_A,.int .i64 a0.f_B])]++up 3 (Hc v3))) (n:=5) ?_ ?_
  ·exact zav (M:=[((4,0),(4,0))]) (lit':=[((0,0),.rows 3 (a1.map z7)),((4,0),.one [.int .i64 a0.f_Kind,.int .i64 a0.f_A,.int .i64 a0.f_B])]) (hg0.tl _) rfl (And.intro (Vw.mslE rfl (by first|rfl|omega|(simp;done)|(simp only[List.length_map,List.length_replicate,Int.toNat_natCast] at *;omega)) rfl) (And.intro (Vw.clo hg0.hf hg0.hc (by decide) (Qf (ug (n:=5) (q:=3) (lit':=[((0,0),.rows 3 (a1.map z7)),((4,0),.one [.int .i64 a0.f_Kind,.int .i64 a0.f_A,.int .i64 a0.f_B])]) rfl))) (And.intro (Vw.ptr _ _ _ _ rfl) (And.intro (Vw.same _ rfl) (And.intro (Vw.same _ rfl) (And.intro (Vw.same _ rfl) (And.intro (Vw.same _ rfl) trivial))))))) (And.intro (And.intro rfl (BVw.enc z7 (fun _=>rfl) _ a1)) (And.intro (And.intro rfl (BVw.oneL (And.intro (Vw.same _ rfl) (And.intro (Vw.same _ rfl) (And.intro (Vw.same _ rfl) trivial))))) trivial))
  refine zh ?_
  refine z04 rfl ?_
  obtain⟨h12,h⟩:=zu h
  refine And.intro h12 ?_
  obtain⟨h13,h⟩:=zu h
  refine Exists.intro (z7 (a1.getD (0+(W ((IntKind.wrap .u64 (W (v2+v4))).fdiv (2 ^ (min (1:Int).toNat (IntKind.bits .u64))))).toNat) default)) (And.intro (je z7 _ _ h13) (And.intro (And.intro (zgh z7 h13) (Nat.le_of_ble_eq_true rfl)) ?_))
  obtain⟨v6,h14,h⟩:=bind_some h
  refine Clo.use (q:=3) (lit:=[((0,0),.rows 3 (a1.map z7)),((4,0),.one [.int .i64 a0.f_Kind,.int .i64 a0.f_A,.int .i64 a0.f_B])]) hg0 h14 rfl rfl (And.intro (Vw.same _ rfl) (And.intro (Vw.same _ rfl) trivial)) ?_
  show Y2 _ _ _ [(30,.int .i64 v6.1),(29,.agg [.int .i64 a0.f_Kind,.int .i64 a0.f_A,.int .i64 a0.f_B]),(28,.agg [.int .i64 ((a1.getD (0+(W ((IntKind.wrap .u64 (W (v2+v4))).fdiv (2 ^ (min (1:Int).toNat (IntKind.bits .u64))))).toNat) default).f_Kind),.int .i64 ((a1.getD (0+(W ((IntKind.wrap .u64 (W (v2+v4))).fdiv (2 ^ (min (1:Int).toNat (IntKind.bits .u64))))).toNat) default).f_A),.int .i64 ((a1.getD (0+(W ((IntKind.wrap .u64 (W (v2+v4))).fdiv (2 ^ (min (1:Int).toNat (IntKind.bits .u64))))).toNat) default).f_B)]),(27,.ptr (0,0) (0+(W ((IntKind.wrap .u64 (W (v2+v4))).fdiv (2 ^ (min (1:Int).toNat (IntKind.bits .u64))))).toNat) 0),(26,.int .i64 (W ((IntKind.wrap .u64 (W (v2+v4))).fdiv (2 ^ (min (1:Int).toNat (IntKind.bits .u64)))))),(25,.msl (0,0) 3 0 a1.length false),(24,.fn fi0 ff0 fc0),(0,.msl (0,0) 3 0 a1.length false),(2,.fn fi0 ff0 fc0),(4,.ptr (4,0) 0 0),(8,.int .i64 ((a1.length:Nat):Int)),(9,.int .i64 v2),(10,.int .i64 v4),(11,.int .i64 (W ((IntKind.wrap .u64 (W (v2+v4))).fdiv (2 ^ (min (1:Int).toNat (IntKind.bits .u64))))))] _ _
  refine LWp.sim (e:=[(0,.msl (0,0) 3 0 a1.length false),(2,.fn fi0 ff0 fc0),(4,.ptr (4,0) 0 0),(8,.int .i64 ((a1.length:Nat):Int)),(9,.int .i64 v2),(10,.int .i64 v4),(11,.int .i64 (W ((IntKind.wrap .u64 (W (v2+v4))).fdiv (2 ^ (min (1:Int).toNat (IntKind.bits .u64)))))),(31,.bool (decide (v6.1<0)))]) (L:=([((0,0),.rows 3 (a1.map z7)),((4,0),.one [.int .i64 a0.f_Kind,.int .i64 a0.f_A,.int .i64 a0.f_B])]++up 3 (Hc v6.2))) (n:=5) ?_ ?_
  ·exact zav (M:=[((4,0),(4,0))]) (lit':=[((0,0),.rows 3 (a1.map z7)),((4,0),.one [.int .i64 a0.f_Kind,.int .i64 a0.f_A,.int .i64 a0.f_B])]) (hg0.tl _) rfl (And.intro (Vw.mslE rfl (by first|rfl|omega|(simp;done)|(simp only[List.length_map,List.length_replicate,Int.toNat_natCast] at *;omega)) rfl) (And.intro (Vw.clo hg0.hf hg0.hc (by decide) (Qf (ug (n:=5) (q:=5) (lit':=[((0,0),.rows 3 (a1.map z7)),((4,0),.one [.int .i64 a0.f_Kind,.int .i64 a0.f_A,.int .i64 a0.f_B])]) rfl))) (And.intro (Vw.ptr _ _ _ _ rfl) (And.intro (Vw.same _ rfl) (And.intro (Vw.same _ rfl) (And.intro (Vw.same _ rfl) (And.intro (Vw.same _ rfl) (And.intro (Vw.same _ rfl) trivial)))))))) (And.intro (And.intro rfl (BVw.enc z7 (fun _=>rfl) _ a1)) (And.intro (And.intro rfl (BVw.oneL (And.intro (Vw.same _ rfl) (And.intro (Vw.same _ rfl) (And.intro (Vw.same _ rfl) trivial))))) trivial))
  refine wc (v:=(decide (v6.1<0))) rfl trivial (fun h15=>?_) (fun h15=>?_)
  ·have h:=yt h15 h
   refine zy ?_
   cases h
   exact And.intro rfl (zav (M:=[((4,0),(4,0))]) (lit':=[((0,0),.rows 3 (a1.map z7)),((4,0),.one [.int .i64 a0.f_Kind,.int .i64 a0.f_A,.int .i64 a0.f_B])]) (hg0.tl _) rfl (And.intro (Vw.mslE rfl (by first|rfl|omega|(simp;done)|(simp only[List.length_map,List.length_replicate,Int.toNat_natCast] at *;omega)) rfl) (And.intro (Vw.clo hg0.hf hg0.hc (by decide) (Qf (ug (n:=5) (q:=3) (lit':=[((0,0),.rows 3 (a1.map z7)),((4,0),.one [.int .i64 a0.f_Kind,.int .i64 a0.f_A,.int .i64 a0.f_B])]) rfl))) (And.intro (Vw.ptr _ _ _ _ rfl) (And.intro (Vw.same _ rfl) (And.intro (Vw.same _ rfl) (And.intro (Vw.same _ rfl) trivial)))))) (And.intro (And.intro rfl (BVw.enc z7 (fun _=>rfl) _ a1)) (And.intro (And.intro rfl (BVw.oneL (And.intro (Vw.same _ rfl) (And.intro (Vw.same _ rfl) (And.intro (Vw.same _ rfl) trivial))))) trivial)))
  ·have h:=qy h15 h
   refine zy ?_
   cases h
   exact And.intro rfl (zav (M:=[((4,0),(4,0))]) (lit':=[((0,0),.rows 3 (a1.map z7)),((4,0),.one [.int .i64 a0.f_Kind,.int .i64 a0.f_A,.int .i64 a0.f_B])]) (hg0.tl _) rfl (And.intro (Vw.mslE rfl (by first|rfl|omega|(simp;done)|(simp only[List.length_map,List.length_replicate,Int.toNat_natCast] at *;omega)) rfl) (And.intro (Vw.clo hg0.hf hg0.hc (by decide) (Qf (ug (n:=5) (q:=3) (lit':=[((0,0),.rows 3 (a1.map z7)),((4,0),.one [.int .i64 a0.f_Kind,.int .i64 a0.f_A,.int .i64 a0.f_B])]) rfl))) (And.intro (Vw.ptr _ _ _ _ rfl) (And.intro (Vw.same _ rfl) (And.intro (Vw.same _ rfl) (And.intro (Vw.same _ rfl) trivial)))))) (And.intro (And.intro rfl (BVw.enc z7 (fun _=>rfl) _ a1)) (And.intro (And.intro rfl (BVw.oneL (And.intro (Vw.same _ rfl) (And.intro (Vw.same _ rfl) (And.intro (Vw.same _ rfl) trivial))))) trivial)))
 ·have h:=qy h11 h
  refine Z7 ?_
  obtain⟨o,hq,rfl⟩:=Option.map_eq_some_iff.1 h
  replace h:=hq;clear hq
  refine And.intro nofun ?_
  refine LWp.sim ?_ (z6f hg0 h)
  exact zav (M:=[((4,0),(4,0))]) (lit':=[((0,0),.rows 3 (a1.map z7)),((4,0),.one [.int .i64 a0.f_Kind,.int .i64 a0.f_A,.int .i64 a0.f_B])]) (hg0.tl _) rfl (And.intro (Vw.mslE rfl (by first|rfl|omega|(simp;done)|(simp only[List.length_map,List.length_replicate,Int.toNat_natCast] at *;omega)) rfl) (And.intro (Vw.clo hg0.hf hg0.hc (by decide) (Qf (ug (n:=5) (q:=3) (lit':=[((0,0),.rows 3 (a1.map z7)),((4,0),.one [.int .i64 a0.f_Kind,.int .i64 a0.f_A,.int .i64 a0.f_B])]) rfl))) (And.intro (Vw.ptr _ _ _ _ rfl) (And.intro (Vw.same _ rfl) (And.intro (Vw.same _ rfl) trivial))))) (And.intro (And.intro rfl (BVw.enc z7 (fun _=>rfl) _ a1)) (And.intro (And.intro rfl (BVw.oneL (And.intro (Vw.same _ rfl) (And.intro (Vw.same _ rfl) (And.intro (Vw.same _ rfl) trivial))))) trivial))
theorem z73{σ:Type}{Hc:σ→AHeap}{fi0:Fn}{ff0 fc0:List AVal}{g0:σ→(G_QKey×G_QKey)→Option (Int×σ)}(hg0:Clo Try.prog fi0 ff0 fc0 Hc (fun(x:(G_QKey×G_QKey))=>[.agg [.int .i64 x.1.f_Kind,.int .i64 x.1.f_A,.int .i64 x.1.f_B],.agg [.int .i64 x.2.f_Kind,.int .i64 x.2.f_A,.int .i64 x.2.f_B]]) (fun(b:Int)=>.int .i64 b) g0){z0:σ}{a0:G_QKey}{a1:List G_QKey}{v2:Int}{v3:σ}{v4:Int}{m:Option Nat}{o:(Int×Bool×σ)}(h:zm g0 m a0 a1 v2 v3 v4=some o) :
 LWp Try.prog Z2 3 (.loop z2j) (qp 0 (Z4 Try.prog Z2 3 Vy (Kk Hc fi0 ff0 fc0 a0 a1 z0 o))) [(0,.msl (0,0) 3 0 a1.length false),(2,.fn fi0 ff0 fc0),(4,.ptr (4,0) 0 0),(8,.int .i64 ((a1.length:Nat):Int)),(9,.int .i64 v2),(10,.int .i64 v4)] ([((0,0),.rows 3 (a1.map z7)),((4,0),.one [.int .i64 a0.f_Kind,.int .i64 a0.f_A,.int .i64 a0.f_B])]++up 3 (Hc v3)) 5:=
 j7 (m:=m) (s:=((v2,v3,v4):(Int×σ×Int))) (r:=o) (fun(s:(Int×σ×Int))=>zl g0 m a0 a1 s.1 s.2.1 s.2.2) (V4 Hc fi0 ff0 fc0 a0 a1) (Ku Hc fi0 ff0 fc0 a0 a1) (z0j Hc fi0 ff0 fc0 a0 a1 z0) (fun s o h=>z4x hg0 h) h
noncomputable def yf{σ:Type}(g0:σ→(G_QKey×G_QKey)→Option (Int×σ))(m:Option Nat)(a0:G_QKey)(a1:List G_QKey)(z0:σ):Option (Int×Bool×σ):=
 zm g0 m a0 a1 0 z0 ((a1.length:Nat):Int)
theorem z6u{σ:Type}{Hc:σ→AHeap}{fi0:Fn}{ff0 fc0:List AVal}{g0:σ→(G_QKey×G_QKey)→Option (Int×σ)}(hg0:Clo Try.prog fi0 ff0 fc0 Hc (fun(x:(G_QKey×G_QKey))=>[.agg [.int .i64 x.1.f_Kind,.int .i64 x.1.f_A,.int .i64 x.1.f_B],.agg [.int .i64 x.2.f_Kind,.int .i64 x.2.f_A,.int .i64 x.2.f_B]]) (fun(b:Int)=>.int .i64 b) g0){a0:G_QKey}{a1:List G_QKey}{z0:σ}{m:Option Nat}{o:Int×Bool×σ}(h:yf g0 m a0 a1 z0=some o):LWp Try.prog Z2 3 zab (Kk Hc fi0 ff0 fc0 a0 a1 z0 o) (yy 0 [.msl (0,0) 3 0 a1.length false,.agg [.int .i64 a0.f_Kind,.int .i64 a0.f_A,.int .i64 a0.f_B],.fn fi0 ff0 fc0]) ([((0,0),.rows 3 (a1.map z7))]++Hc z0) 3:=by
 unfold yf at h
 refine LWp.sim (e:=[(0,.msl (0,0) 3 0 a1.length false),(1,.agg [.int .i64 a0.f_Kind,.int .i64 a0.f_A,.int .i64 a0.f_B]),(2,.fn fi0 ff0 fc0)]) (L:=([((0,0),.rows 3 (a1.map z7))]++up 3 (Hc z0))) (n:=4) (zgv (T:=Hc z0) (e':=yy 0 [.msl (0,0) 3 0 a1.length false,.agg [.int .i64 a0.f_Kind,.int .i64 a0.f_A,.int .i64 a0.f_B],.fn fi0 ff0 fc0]) (e:=[(0,.msl (0,0) 3 0 a1.length false),(1,.agg [.int .i64 a0.f_Kind,.int .i64 a0.f_A,.int .i64 a0.f_B]),(2,.fn fi0 ff0 fc0)]) (lit':=[((0,0),.rows 3 (a1.map z7))]) (lit:=[((0,0),.rows 3 (a1.map z7))]) (hg0.tl z0) rfl rfl (And.intro (Vw.mslE rfl (by first|rfl|omega|(simp;done)|(simp only[List.length_map,List.length_replicate,Int.toNat_natCast] at *;omega)) rfl) (And.intro (Vw.same _ rfl) (And.intro (Vw.clo hg0.hf hg0.hc (by decide) (zhc _)) trivial))) (And.intro (And.intro rfl (BVw.enc z7 (fun _=>rfl) _ a1)) trivial)) ?_
 refine zh ?_
 refine zy ?_
 refine zh ?_
 refine zy ?_
 refine zh ?_
 refine zy ?_
 refine LWp.sim (e:=[(0,.msl (0,0) 3 0 a1.length false),(2,.fn fi0 ff0 fc0),(4,.ptr (4,0) 0 0),(8,.int .i64 ((a1.length:Nat):Int)),(9,.int .i64 0),(10,.int .i64 ((a1.length:Nat):Int))]) (L:=([((0,0),.rows 3 (a1.map z7)),((4,0),.one [.int .i64 a0.f_Kind,.int .i64 a0.f_A,.int .i64 a0.f_B])]++up 3 (Hc z0))) (n:=5) ?_ ?_
 ·exact zav (M:=[((4,0),(4,0))]) (lit':=[((4,0),.one [.int .i64 a0.f_Kind,.int .i64 a0.f_A,.int .i64 a0.f_B]),((0,0),.rows 3 (a1.map z7))]) (hg0.tl _) rfl (And.intro (Vw.mslE rfl (by first|rfl|omega|(simp;done)|(simp only[List.length_map,List.length_replicate,Int.toNat_natCast] at *;omega)) rfl) (And.intro (Vw.clo hg0.hf hg0.hc (by decide) (Qf (ug (n:=5) (q:=3) (lit':=[((4,0),.one [.int .i64 a0.f_Kind,.int .i64 a0.f_A,.int .i64 a0.f_B]),((0,0),.rows 3 (a1.map z7))]) rfl))) (And.intro (Vw.ptr _ _ _ _ rfl) (And.intro (Vw.same _ rfl) (And.intro (Vw.same _ rfl) (And.intro (Vw.same _ rfl) trivial)))))) (And.intro (And.intro rfl (BVw.enc z7 (fun _=>rfl) _ a1)) (And.intro (And.intro rfl (BVw.oneL (And.intro (Vw.same _ rfl) (And.intro (Vw.same _ rfl) (And.intro (Vw.same _ rfl) trivial))))) trivial))
 refine zh ?_
 refine jd ?_
 refine LWp.sim ?_ (z73 hg0 h)
 exact zav (M:=[((4,0),(4,0))]) (lit':=[((0,0),.rows 3 (a1.map z7)),((4,0),.one [.int .i64 a0.f_Kind,.int .i64 a0.f_A,.int .i64 a0.f_B])]) (hg0.tl _) rfl (And.intro (Vw.mslE rfl (by first|rfl|omega|(simp;done)|(simp only[List.length_map,List.length_replicate,Int.toNat_natCast] at *;omega)) rfl) (And.intro (Vw.clo hg0.hf hg0.hc (by decide) (Qf (ug (n:=5) (q:=3) (lit':=[((0,0),.rows 3 (a1.map z7)),((4,0),.one [.int .i64 a0.f_Kind,.int .i64 a0.f_A,.int .i64 a0.f_B])]) rfl))) (And.intro (Vw.ptr _ _ _ _ rfl) (And.intro (Vw.same _ rfl) (And.intro (Vw.same _ rfl) (And.intro (Vw.same _ rfl) trivial)))))) (And.intro (And.intro rfl (BVw.enc z7 (fun _=>rfl) _ a1)) (And.intro (And.intro rfl (BVw.oneL (And.intro (Vw.same _ rfl) (And.intro (Vw.same _ rfl) (And.intro (Vw.same _ rfl) trivial))))) trivial))
theorem zkp{σ:Type}{Hc:σ→AHeap}{fi0:Fn}{ff0 fc0:List AVal}{g0:σ→(G_QKey×G_QKey)→Option (Int×σ)}(hg0:Clo Try.prog fi0 ff0 fc0 Hc (fun(x:(G_QKey×G_QKey))=>[.agg [.int .i64 x.1.f_Kind,.int .i64 x.1.f_A,.int .i64 x.1.f_B],.agg [.int .i64 x.2.f_Kind,.int .i64 x.2.f_A,.int .i64 x.2.f_B]]) (fun(b:Int)=>.int .i64 b) g0){a0:G_QKey}{a1:List G_QKey}{z0:σ}{m:Option Nat}{o:Int×Bool×σ}(h:yf g0 m a0 a1 z0=some o):ACalls Try.prog 46 [.msl (0,0) 3 0 a1.length false,.agg [.int .i64 a0.f_Kind,.int .i64 a0.f_A,.int .i64 a0.f_B],.fn fi0 ff0 fc0] ([((0,0),.rows 3 (a1.map z7))]++Hc z0) 3 (ub 4 (.tup [.int .i64 o.1,.bool o.2.1]) ([((0,0),.rows 3 (a1.map z7))]++up 3 (Hc o.2.2))):=Yf (L:=zer) ziu zfy (Nat.le_of_ble_eq_true rfl) (z6u hg0 h)
def Try.i47_ren:Go.Shelf.Ren:=⟨fun|22=>47|29=>52|30=>53|n=>n,fun|24=>27|9=>24|3=>3|4=>4|0=>0|n=>n,fun|n=>n⟩
theorem Try.i47:InsL Try.prog Try.i47_ren:={
 mixed:=by kernel_rfl
 f22:=⟨Try.f47.name,Try.func47.trans (congrArg some (by kernel_rfl))⟩
 f29:=⟨Try.f52.name,Try.func52.trans (congrArg some (by kernel_rfl)),by kernel_rfl,by kernel_rfl,by kernel_rfl⟩
 t0:=Try.underlying0
 a0:=Try.isAgg0
 z0:=Try.sizeOf0
 v0:=Try.zeroValue0
 t3:=Try.underlying3
 a3:=Try.isAgg3
 z3:=Try.sizeOf3
 v3:=Try.zeroValue3
 t4:=Try.underlying4
 a4:=Try.isAgg4
 z4:=Try.sizeOf4
 v4:=Try.zeroValue4
 t24:=Try.underlying27
 a24:=Try.isAgg27
 z24:=Try.sizeOf27
 v24:=Try.zeroValue27 }
def vh(m:Option Nat)(a0:Int)(a1:List G_QKey)(a2:List G_QKey):Option (List G_QKey):=zsn 24 a2 a0 a1
theorem zht:Z6 Try.prog 47:=⟨_,Try.func47,rfl,rfl⟩
theorem zk8{m:Option Nat}{a0:Int}{a1:List G_QKey}{a2:List G_QKey}{o:List G_QKey}(h:vh m a0 a1 a2=some o):ACalls Try.prog 47 [.msl (0,0) 3 0 a2.length false,.int .i64 a0,.isl 3 (a1.map z7) false] [((0,0),.rows 3 (a2.map z7))] 3 (ub 4 (.msl (3,0) 3 0 o.length false) [((3,0),.rows 3 (o.map z7))]):=
 z7x (zs:=[(.int .i64 0),(.int .i64 0),(.int .i64 0)]) z7 (fun _=>rfl) Try.i47 (by kernel_rfl) (by kernel_rfl) (by kernel_rfl) (by decide) (by decide) (by decide) zht rfl h _ _
def za9:LCode:=(.seq (.region [⟨some 20,.mv (.t 0),none⟩,
 ⟨some 4,.mv (.t 20),none⟩])
 .ret)
def z9g:LCode:=(.seq (.region [⟨some 3,.box (.t 1),none⟩,
 ⟨some 4,.mv (.c (.val (.slice none 0 0))),none⟩])
 (.seq (.seq (.region [⟨some 8,.mv (.t 0),none⟩,
  ⟨some 9,.load true 3 (.t 3),none⟩,
  ⟨some 10,.call 46 [(.t 8),(.t 9),(.c (.fn (.func 39) [] []))],none⟩,
  ⟨some 7,.mv (.t 10),none⟩,
  ⟨some 11,.ext 0 (.t 7),none⟩,
  ⟨some 12,.ext 1 (.t 7),none⟩,
  ⟨some 5,.mv (.t 11),none⟩,
  ⟨some 6,.mv (.t 12),none⟩])
 (.seq (.region [⟨some 13,.mv (.t 6),none⟩,
  ⟨some 14,.un .not (.t 13),none⟩])
 (.cond (.t 14)
  (.region [⟨some 15,.mv (.t 0),none⟩,
   ⟨some 16,.mv (.t 5),none⟩,
   ⟨some 17,.load true 3 (.t 3),none⟩,
   ⟨some 18,.mkSl true 3 [(.int .i64 0),(.int .i64 0),(.int .i64 0)] 1 [(0,(.t 17))],none⟩,
   ⟨some 19,.call 47 [(.t 15),(.t 16),(.t 18)],none⟩,
   ⟨some 0,.mv (.t 19),none⟩])
  .skip)))
 za9))
def Up:Lay:=⟨21,[],false⟩
def z4c:List LRes:=[.t 4]
def zgw:LFn:=⟨2,Up,z9g,z4c⟩
theorem zcs:vi Try.prog [] 36=some zgw:=by kernel_rfl
theorem zhw:Z6 Try.prog 36:=⟨_,Try.func36,rfl,rfl⟩
noncomputable def wl(m:Option Nat)(v3:List G_QKey):Option (List G_QKey):=
 some v3
def zdw(a0:G_QKey)(a1:List G_QKey)(o:(List G_QKey)):Exit→Env→AHeap→Nat→Prop:=Yb z4c (Qh 3 4 (.msl (3,0) 3 0 o.length false) [((3,0),.rows 3 (o.map z7))])
theorem Ks{a0:G_QKey}{a1:List G_QKey}{v3:List G_QKey}{m:Option Nat}{o:(List G_QKey)}(h:wl m v3=some o) :
 LWp Try.prog Up 3 za9 (zdw a0 a1 o) [(0,.msl (3,0) 3 0 v3.length false)] [((3,0),.rows 3 (v3.map z7))] 4:=by
 unfold wl at h
 refine zh ?_
 refine zy ?_
 refine ua ?_
 cases h
 exact And.intro trivial (ziz (n':=4) [((3,0),(3,0))] [] rfl rfl (Vw.mslE rfl (by first|rfl|omega|(simp;done)|(simp only[List.length_map,List.length_replicate,Int.toNat_natCast] at *;omega)) rfl) (And.intro (And.intro rfl (BVw.enc z7 (fun _=>rfl) _ v3)) trivial))
noncomputable def qi(m:Option Nat)(a0:G_QKey)(a1:List G_QKey):Option (List G_QKey):=
 (yf (fun(s:Unit) (x:(G_QKey×G_QKey))=>(yz m x.1 x.2).map fun o=>(o,())) m a0 a1 ()).bind fun v1=>
 if(!v1.2.1)=true then
  (vh m v1.1 ([a0]:List G_QKey) a1).bind fun v2=>
  wl m v2
 else
  wl m a1
theorem z7u{a0:G_QKey}{a1:List G_QKey}{m:Option Nat}{o:(List G_QKey)}(h:qi m a0 a1=some o):LWp Try.prog Up 3 z9g (zdw a0 a1 o) (yy 0 [.msl (0,0) 3 0 a1.length false,.agg [.int .i64 a0.f_Kind,.int .i64 a0.f_A,.int .i64 a0.f_B]]) [((0,0),.rows 3 (a1.map z7))] 3:=by
 unfold qi at h
 refine zh ?_
 refine zy ?_
 refine zh ?_
 refine zh ?_
 refine zy ?_
 obtain⟨v1,h1,h⟩:=bind_some h
 refine Y8 (k:=3) (m:=1) (L':=[((0,0),.rows 3 (a1.map z7))]) (rest:=[((3,0),.one [.int .i64 a0.f_Kind,.int .i64 a0.f_A,.int .i64 a0.f_B])]) (R':=.tup [.int .i64 v1.1,.bool v1.2.1]) [((0,0),(0,0))] (zkp (show Clo Try.prog (.func 39) [] [] (fun(s:Unit)=>[]) (fun(x:(G_QKey×G_QKey))=>[.agg [.int .i64 x.1.f_Kind,.int .i64 x.1.f_A,.int .i64 x.1.f_B],.agg [.int .i64 x.2.f_Kind,.int .i64 x.2.f_A,.int .i64 x.2.f_B]]) (fun(b:Int)=>.int .i64 b) (fun(s:Unit) (x:(G_QKey×G_QKey))=>(yz m x.1 x.2).map fun o=>(o,())) from Clo.mk' (fun s=>Tl.lit rfl trivial rfl) rfl rfl (fun _=>rfl) (fun s x o h=>by obtain⟨o1,h1,rfl⟩:=Option.map_eq_some_iff.1 h;exact Exists.intro _ (And.intro (zk3 h1) trivial))) h1) rfl rfl rfl (And.intro (Vw.mslE rfl (by first|rfl|omega|(simp;done)|(simp only[List.length_map,List.length_replicate,Int.toNat_natCast] at *;omega)) rfl) (And.intro (Vw.same _ rfl) (And.intro (Vw.same _ rfl) trivial))) (And.intro (h0I (0,0) rfl rfl (BVw.enc z7 (fun _=>rfl) _ a1)) trivial) (ki _ rfl) (And.intro rfl (And.intro (Y4 z7 (fun _=>rfl) _ _) trivial)) rfl ?_
 show Y2 _ _ _ [(10,.tup [.int .i64 v1.1,.bool v1.2.1]),(9,.agg [.int .i64 a0.f_Kind,.int .i64 a0.f_A,.int .i64 a0.f_B]),(8,.msl (0,0) 3 0 a1.length false),(4,.val (.slice none 0 0)),(3,.ptr (3,0) 0 0),(0,.msl (0,0) 3 0 a1.length false),(1,.agg [.int .i64 a0.f_Kind,.int .i64 a0.f_A,.int .i64 a0.f_B])] _ _
 refine LWp.sim (e:=[(0,.msl (3,0) 3 0 a1.length false),(3,.ptr (4,0) 0 0),(5,.int .i64 v1.1),(6,.bool v1.2.1)]) (L:=[((3,0),.rows 3 (a1.map z7)),((4,0),.one [.int .i64 a0.f_Kind,.int .i64 a0.f_A,.int .i64 a0.f_B])]) (n:=5) ?_ ?_
 ·exact jw (M:=[((3,0),(0,0)),((4,0),(3,0))]) rfl (And.intro (Vw.mslE rfl (by first|rfl|omega|(simp;done)|(simp only[List.length_map,List.length_replicate,Int.toNat_natCast] at *;omega)) rfl) (And.intro (Vw.ptr _ _ _ _ rfl) (And.intro (Vw.same _ rfl) (And.intro (Vw.same _ rfl) trivial)))) (And.intro (And.intro rfl (BVw.enc z7 (fun _=>rfl) _ a1)) (And.intro (And.intro rfl (BVw.oneL (And.intro (Vw.same _ rfl) (And.intro (Vw.same _ rfl) (And.intro (Vw.same _ rfl) trivial))))) trivial))
 refine zh ?_
 refine zy ?_
 refine wc (v:=(!v1.2.1)) rfl trivial (fun h2=>?_) (fun h2=>?_)
 ·have h:=yt h2 h
  refine zy ?_
  obtain⟨v2,h3,h⟩:=bind_some h
  refine Y8 (k:=3) (m:=1) (L':=[((5,0),.rows 3 (v2.map z7))]) (rest:=[((4,0),.one [.int .i64 a0.f_Kind,.int .i64 a0.f_A,.int .i64 a0.f_B])]) (R':=.msl (5,0) 3 0 v2.length false) [((0,0),(3,0))] (zk8 h3) rfl rfl rfl (And.intro (Vw.mslE rfl (by first|rfl|omega|(simp;done)|(simp only[List.length_map,List.length_replicate,Int.toNat_natCast] at *;omega)) rfl) (And.intro (Vw.same _ rfl) (And.intro (Vw.islF _ _ _) trivial))) (And.intro (h0I (3,0) rfl rfl (BVw.enc z7 (fun _=>rfl) _ a1)) trivial) rfl (And.intro rfl (And.intro (Y4 z7 (fun _=>rfl) _ _) trivial)) rfl ?_
  show Y2 _ _ _ [(19,.msl (5,0) 3 0 v2.length false),(18,.isl 3 (([a0]:List G_QKey).map z7) true),(17,.agg [.int .i64 a0.f_Kind,.int .i64 a0.f_A,.int .i64 a0.f_B]),(16,.int .i64 v1.1),(15,.msl (3,0) 3 0 a1.length false),(14,.bool (!v1.2.1)),(13,.bool v1.2.1),(0,.msl (3,0) 3 0 a1.length false),(3,.ptr (4,0) 0 0),(5,.int .i64 v1.1),(6,.bool v1.2.1)] _ _
  refine LWp.sim ?_ (Ks h)
  exact jw (M:=[((3,0),(5,0))]) rfl (And.intro (Vw.mslE rfl (by first|rfl|omega|(simp;done)|(simp only[List.length_map,List.length_replicate,Int.toNat_natCast] at *;omega)) rfl) trivial) (And.intro (And.intro rfl (BVw.enc z7 (fun _=>rfl) _ v2)) trivial)
 ·have h:=qy h2 h
  refine we ?_
  refine LWp.sim ?_ (Ks h)
  exact jw (M:=[((3,0),(3,0))]) rfl (And.intro (Vw.mslE rfl (by first|rfl|omega|(simp;done)|(simp only[List.length_map,List.length_replicate,Int.toNat_natCast] at *;omega)) rfl) trivial) (And.intro (And.intro rfl (BVw.enc z7 (fun _=>rfl) _ a1)) trivial)
theorem Vi{a0:G_QKey}{a1:List G_QKey}{m:Option Nat}{o:(List G_QKey)}(h:qi m a0 a1=some o):ACalls Try.prog 36 [.msl (0,0) 3 0 a1.length false,.agg [.int .i64 a0.f_Kind,.int .i64 a0.f_A,.int .i64 a0.f_B]] [((0,0),.rows 3 (a1.map z7))] 3 (ub 4 (.msl (3,0) 3 0 o.length false) [((3,0),.rows 3 (o.map z7))]):=Yf (L:=zgw) zcs zhw (Nat.le_of_ble_eq_true rfl) (z7u h)
def za5:LCode:=(.draw [⟨⟨some 43,.mv (.t 5),none⟩,[]⟩,
 ⟨⟨some 44,.mv (.t 5),none⟩,[]⟩,
 ⟨⟨some 45,.nilck (.t 44),none⟩,[]⟩,
 ⟨⟨some 46,.faddr 1 (.t 45),none⟩,[]⟩,
 ⟨⟨some 47,.load false 1 (.t 46),none⟩,[]⟩,
 ⟨⟨some 48,.load true 3 (.t 8),none⟩,[]⟩,
 ⟨⟨some 50,.load true 3 (.t 9),none⟩,[]⟩,
 ⟨⟨some 49,.call 36 [(.t 47),(.t 48)],none⟩,[6]⟩,
 ⟨⟨some 51,.call 36 [(.t 49),(.t 50)],none⟩,[]⟩,
 ⟨⟨some 52,.nilck (.t 43),none⟩,[]⟩,
 ⟨⟨some 53,.faddr 1 (.t 52),none⟩,[]⟩,
 ⟨⟨none,.store 1 (.t 53) (.t 51),none⟩,[]⟩])
def z8e:LCode:=(.seq (.draw [⟨⟨some 30,.mv (.t 5),none⟩,[]⟩,
 ⟨⟨some 31,.nilck (.t 30),none⟩,[]⟩,
 ⟨⟨some 32,.faddr 0 (.t 31),none⟩,[]⟩,
 ⟨⟨some 33,.load false 1 (.t 32),none⟩,[]⟩,
 ⟨⟨some 34,.load true 3 (.t 8),none⟩,[]⟩,
 ⟨⟨some 35,.mv (.t 5),none⟩,[]⟩,
 ⟨⟨some 36,.nilck (.t 35),none⟩,[]⟩,
 ⟨⟨some 37,.faddr 0 (.t 36),none⟩,[]⟩,
 ⟨⟨some 38,.load false 1 (.t 37),none⟩,[]⟩,
 ⟨⟨some 39,.load true 3 (.t 8),none⟩,[]⟩,
 ⟨⟨some 40,.mlook [.int,.int,.int] true false false [(.val (.slice none 0 0))] (.t 38) (.t 39),none⟩,[]⟩,
 ⟨⟨some 41,.load true 3 (.t 9),none⟩,[]⟩,
 ⟨⟨some 42,.call 36 [(.t 40),(.t 41)],none⟩,[3,4]⟩,
 ⟨⟨none,.mset [.int,.int,.int] true false [(.isl 3 [] true)] (.t 33) (.t 34) (.t 42),none⟩,[]⟩])
 za5)
def z1r:LCode:=(.region [⟨some 54,.bin .add (.t 19) (.c (.int .i64 1)),none⟩,
 ⟨some 19,.mv (.t 54),none⟩])
def z20:LCode:=(.seq (.region [⟨some 20,.bin .lss (.t 19) (.t 18),none⟩])
 (.seq (.cond (.t 20)
  .skip
  (.exit 0))
 (.seq (.block 1
  (.seq (.region [⟨some 21,.iaddr 6 (.t 17) (.t 19),none⟩,
   ⟨some 22,.load true 6 (.t 21),none⟩,
   ⟨some 7,.alloc [(.int .i64 0),(.int .i64 0),(.int .i64 0),(.int .i64 0),(.int .i64 0),(.int .i64 0)],none⟩,
   ⟨none,.store 6 (.t 7) (.t 22),none⟩])
  (.seq (.draw [⟨⟨some 23,.faddr 0 (.t 7),none⟩,[]⟩,
   ⟨⟨some 24,.load true 3 (.t 23),none⟩,[]⟩,
   ⟨⟨some 25,.faddr 3 (.t 7),none⟩,[]⟩,
   ⟨⟨some 26,.load true 3 (.t 25),none⟩,[]⟩,
   ⟨⟨some 8,.alloc [(.int .i64 0),(.int .i64 0),(.int .i64 0)],none⟩,[1,3]⟩,
   ⟨⟨some 9,.alloc [(.int .i64 0),(.int .i64 0),(.int .i64 0)],none⟩,[1,3]⟩,
   ⟨⟨none,.store 3 (.t 8) (.t 24),none⟩,[3]⟩,
   ⟨⟨none,.store 3 (.t 9) (.t 26),none⟩,[]⟩])
  (.seq (.seq (.region [⟨some 27,.mv (.t 1),none⟩])
  (.cond (.t 27)
   (.region [⟨some 28,.load true 3 (.t 9),none⟩,
    ⟨some 29,.load true 3 (.t 8),none⟩,
    ⟨none,.store 3 (.t 8) (.t 28),none⟩,
    ⟨none,.store 3 (.t 9) (.t 29),none⟩])
   .skip))
  z8e))))
 z1r)))
def Vo:LCode:=(.seq (.region [⟨some 55,.mv (.t 5),none⟩,
 ⟨some 4,.mv (.t 55),none⟩])
 .ret)
def z8u:LCode:=(.seq (.region [⟨some 4,.mv (.c (.val (.pointer none))),none⟩])
 (.seq (.region [⟨some 10,.mkmap none,none⟩,
  ⟨some 11,.build [(.val (.map none)),(.isl 3 [] true)] [(0,1,(.t 10))],none⟩,
  ⟨some 12,.box (.t 11),none⟩,
  ⟨some 5,.mv (.t 12),none⟩])
 (.seq (.seq (.region [⟨some 13,.mv (.t 0),none⟩,
  ⟨some 14,.mv (.t 0),none⟩,
  ⟨some 15,.len false (.t 14),none⟩,
  ⟨some 16,.mnx false [(.t 15),(.c (.int .i64 400))],none⟩,
  ⟨some 17,.slSl 6 (.t 13) none (some (.t 16)) none,none⟩,
  ⟨some 18,.len false (.t 17),none⟩,
  ⟨some 19,.mv (.c (.int .i64 0)),none⟩])
 (.block 0
  (.loop
   z20)))
 Vo)))
def kg:Lay:=⟨56,[12,40],false⟩
def z5j:List LRes:=[.t 4]
def zdr:LFn:=⟨2,kg,z8u,z5j⟩
theorem zd8:vi Try.prog [12,40] 21=some zdr:=by kernel_rfl
theorem zfk:Z6 Try.prog 21:=⟨_,Try.func21,rfl,rfl⟩
def z1o(a0:List G_QEdge)(a1:Bool)(o:(List G_QKey)×(List (G_QKey×(List G_QKey)))):Exit→Env→AHeap→Nat→Prop:=Yb z5j (Qh 3 7 (.ptr (3,0) 0 0) [((3,0),.one [.map (4,0),.isl 3 (o.1.map z7) false]),((4,0),.amap (o.2.map (em za z8)))])
def Y3(a0:List G_QEdge)(a1:Bool)(s:(Int×(List (G_QKey×(List G_QKey)))×(List G_QKey))):Env:=[(1,.bool a1),(5,.ptr (3,0) 0 0),(17,.isl 6 ((a0.take (if 400<((a0.map z6).length:Int) then 400 else((a0.map z6).length:Int)).toNat).map z6) false),(18,.int .i64 (((a0.take (if 400<((a0.map z6).length:Int) then 400 else((a0.map z6).length:Int)).toNat).map z6).length:Int)),(19,.int .i64 s.1)]
def Q4(a0:List G_QEdge)(a1:Bool)(s:(Int×(List (G_QKey×(List G_QKey)))×(List G_QKey))):AHeap:=([((3,0),.one [.map (4,0),.msl (5,0) 3 0 s.2.2.length false]),((4,0),.amap (Zx za 6 3 s.2.1)),((5,0),.rows 3 (s.2.2.map z7))]++(Y9 6 3 z7 s.2.1 none))
def X6(a0:List G_QEdge)(a1:Bool)(o:((List G_QKey)×(List (G_QKey×(List G_QKey))))):Exit→Env→AHeap→Nat→Prop:=(qp 0 (Z4 Try.prog kg 3 Vo (z1o a0 a1 o)))
noncomputable def jm(m:Option Nat)(a0:List G_QEdge)(a1:Bool)(v12:Int)(v14:List G_QKey)(v26:Int)(v27:Int)(v28:Int)(v29:Int)(v30:Int)(v31:Int)(v34:List (G_QKey×(List G_QKey))):Option ((Int×(List (G_QKey×(List G_QKey)))×(List G_QKey)) ⊕ ((List G_QKey)×(List (G_QKey×(List G_QKey))))):=
 (qi m (G_QKey.mk v26 v27 v28) v14).bind fun v35=>
 (qi m (G_QKey.mk v29 v30 v31) v35).bind fun v36=>
 some (.inl ((W (v12+1)),v34,v36))
theorem K7{a0:List G_QEdge}{a1:Bool}{v12:Int}{v14:List G_QKey}{v26:Int}{v27:Int}{v28:Int}{v29:Int}{v30:Int}{v31:Int}{v34:List (G_QKey×(List G_QKey))}{m:Option Nat}{o:((Int×(List (G_QKey×(List G_QKey)))×(List G_QKey)) ⊕ ((List G_QKey)×(List (G_QKey×(List G_QKey)))))}(h:jm m a0 a1 v12 v14 v26 v27 v28 v29 v30 v31 v34=some o) :
 LWp Try.prog kg 3 za5 (qp 1 (Z4 Try.prog kg 3 z1r (vp 3 7 (Y3 a0 a1) (Q4 a0 a1) (X6 a0 a1) o))) [(1,.bool a1),(5,.ptr (3,0) 0 0),(8,.ptr (4,0) 0 0),(9,.ptr (5,0) 0 0),(17,.isl 6 ((a0.take (if 400<((a0.map z6).length:Int) then 400 else((a0.map z6).length:Int)).toNat).map z6) false),(18,.int .i64 (((a0.take (if 400<((a0.map z6).length:Int) then 400 else((a0.map z6).length:Int)).toNat).map z6).length:Int)),(19,.int .i64 v12)] ([((3,0),.one [.map (6,0),.msl (7,0) 3 0 v14.length false]),((4,0),.one [.int .i64 v26,.int .i64 v27,.int .i64 v28]),((5,0),.one [.int .i64 v29,.int .i64 v30,.int .i64 v31]),((6,0),.amap (Zx za 8 3 v34)),((7,0),.rows 3 (v14.map z7))]++(Y9 8 3 z7 v34 none)) 9:=by
 unfold jm at h
 refine Vd ?_
 obtain⟨v35,h24,h⟩:=bind_some h
 refine Y8 (k:=3) (m:=1) (L':=[((9,0),.rows 3 (v35.map z7))]) (rest:=([((3,0),.one [.map (6,0),.msl (7,0) 3 0 v14.length false]),((4,0),.one [.int .i64 v26,.int .i64 v27,.int .i64 v28]),((5,0),.one [.int .i64 v29,.int .i64 v30,.int .i64 v31]),((6,0),.amap (Zx za 8 3 v34))]++(Y9 8 3 z7 v34 none))) (R':=.msl (9,0) 3 0 v35.length false) [((0,0),(7,0))] (Vi h24) rfl rfl rfl (And.intro (Vw.mslE rfl (by first|rfl|omega|(simp;done)|(simp only[List.length_map,List.length_replicate,Int.toNat_natCast] at *;omega)) rfl) (And.intro (Vw.same _ rfl) trivial)) (And.intro (h0I (7,0) rfl rfl (BVw.enc z7 (fun _=>rfl) _ v14)) trivial) rfl (And.intro rfl (And.intro (Y4 z7 (fun _=>rfl) _ _) trivial)) (Yw (lit:=[((3,0),.one [.map (6,0),.msl (7,0) 3 0 v14.length false]),((4,0),.one [.int .i64 v26,.int .i64 v27,.int .i64 v28]),((5,0),.one [.int .i64 v29,.int .i64 v30,.int .i64 v31]),((6,0),.amap (Zx za 8 3 v34)),((7,0),.rows 3 (v14.map z7))]) (T:=(Y9 8 3 z7 v34 none)) InQ.baseM (fun _=>rfl) rfl) ?_
 refine And.intro rfl ?_
 obtain⟨v36,h25,h⟩:=bind_some h
 refine Y8 (k:=3) (m:=1) (L':=[((11,0),.rows 3 (v36.map z7))]) (rest:=([((3,0),.one [.map (6,0),.msl (7,0) 3 0 v14.length false]),((4,0),.one [.int .i64 v26,.int .i64 v27,.int .i64 v28]),((5,0),.one [.int .i64 v29,.int .i64 v30,.int .i64 v31]),((6,0),.amap (Zx za 8 3 v34))]++(Y9 8 3 z7 v34 none))) (R':=.msl (11,0) 3 0 v36.length false) [((0,0),(9,0))] (Vi h25) rfl rfl rfl (And.intro (Vw.mslE rfl (by first|rfl|omega|(simp;done)|(simp only[List.length_map,List.length_replicate,Int.toNat_natCast] at *;omega)) rfl) (And.intro (Vw.same _ rfl) trivial)) (And.intro (h0I (9,0) rfl rfl (BVw.enc z7 (fun _=>rfl) _ v35)) trivial) rfl (And.intro rfl (And.intro (Y4 z7 (fun _=>rfl) _ _) trivial)) (Yw (lit:=[((9,0),.rows 3 (v35.map z7)),((3,0),.one [.map (6,0),.msl (7,0) 3 0 v14.length false]),((4,0),.one [.int .i64 v26,.int .i64 v27,.int .i64 v28]),((5,0),.one [.int .i64 v29,.int .i64 v30,.int .i64 v31]),((6,0),.amap (Zx za 8 3 v34))]) (T:=(Y9 8 3 z7 v34 none)) InQ.baseM (fun _=>rfl) rfl) ?_
 show yd _ _ _ _ _ [(51,.msl (11,0) 3 0 v36.length false),(49,.msl (9,0) 3 0 v35.length false),(50,.agg [.int .i64 v29,.int .i64 v30,.int .i64 v31]),(48,.agg [.int .i64 v26,.int .i64 v27,.int .i64 v28]),(47,.msl (7,0) 3 0 v14.length false),(46,.ptr (3,0) 0 1),(45,.ptr (3,0) 0 0),(44,.ptr (3,0) 0 0),(43,.ptr (3,0) 0 0),(1,.bool a1),(5,.ptr (3,0) 0 0),(8,.ptr (4,0) 0 0),(9,.ptr (5,0) 0 0),(17,.isl 6 ((a0.take (if 400<((a0.map z6).length:Int) then 400 else((a0.map z6).length:Int)).toNat).map z6) false),(18,.int .i64 (((a0.take (if 400<((a0.map z6).length:Int) then 400 else((a0.map z6).length:Int)).toNat).map z6).length:Int)),(19,.int .i64 v12)] _ _
 refine LWp.sim (e:=[(1,.bool a1),(5,.ptr (3,0) 0 0),(17,.isl 6 ((a0.take (if 400<((a0.map z6).length:Int) then 400 else((a0.map z6).length:Int)).toNat).map z6) false),(18,.int .i64 (((a0.take (if 400<((a0.map z6).length:Int) then 400 else((a0.map z6).length:Int)).toNat).map z6).length:Int)),(19,.int .i64 v12)]) (L:=([((3,0),.one [.map (4,0),.msl (5,0) 3 0 v36.length false]),((4,0),.amap (Zx za 6 3 v34)),((5,0),.rows 3 (v36.map z7))]++(Y9 6 3 z7 v34 none))) (n:=7) ?_ ?_
 ·exact z2o (M:=[((3,0),(3,0)),((4,0),(6,0)),((5,0),(11,0))]) (lit':=[((11,0),.rows 3 (v36.map z7)),((3,0),.one [.map (6,0),.msl (11,0) 3 0 v36.length false]),((4,0),.one [.int .i64 v26,.int .i64 v27,.int .i64 v28]),((5,0),.one [.int .i64 v29,.int .i64 v30,.int .i64 v31]),((6,0),.amap (Zx za 8 3 v34))]) (T:=(Y9 8 3 z7 v34 none)) (q:=8) (q':=6) wu rfl IsFamM.base (And.intro (Vw.same _ rfl) (And.intro (Vw.ptr _ _ _ _ rfl) (And.intro (Vw.same _ rfl) (And.intro (Vw.same _ rfl) (And.intro (Vw.same _ rfl) trivial))))) (And.intro (And.intro rfl (BVw.oneL (And.intro (Vw.map _ _ rfl) (And.intro (Vw.mslE rfl (by first|rfl|omega|(simp;done)|(simp only[List.length_map,List.length_replicate,Int.toNat_natCast] at *;omega)) rfl) trivial)))) (And.intro (And.intro rfl BVw.entJ) (And.intro (And.intro rfl (BVw.enc z7 (fun _=>rfl) _ v36)) trivial)))
 refine zy ?_
 cases h
 exact And.intro rfl (z2o (M:=[((3,0),(3,0)),((4,0),(4,0)),((5,0),(5,0))]) (lit':=[((3,0),.one [.map (4,0),.msl (5,0) 3 0 v36.length false]),((4,0),.amap (Zx za 6 3 v34)),((5,0),.rows 3 (v36.map z7))]) (T:=(Y9 6 3 z7 v34 none)) (q:=6) (q':=6) wu rfl IsFamM.base (And.intro (Vw.same _ rfl) (And.intro (Vw.ptr _ _ _ _ rfl) (And.intro (Vw.same _ rfl) (And.intro (Vw.same _ rfl) (And.intro (Vw.same _ rfl) trivial))))) (And.intro (And.intro rfl (BVw.oneL (And.intro (Vw.map _ _ rfl) (And.intro (Vw.mslE rfl (by first|rfl|omega|(simp;done)|(simp only[List.length_map,List.length_replicate,Int.toNat_natCast] at *;omega)) rfl) trivial)))) (And.intro (And.intro rfl BVw.entJ) (And.intro (And.intro rfl (BVw.enc z7 (fun _=>rfl) _ v36)) trivial))))
noncomputable def jl(m:Option Nat)(a0:List G_QEdge)(a1:Bool)(v12:Int)(v13:List (G_QKey×(List G_QKey)))(v14:List G_QKey)(v26:Int)(v27:Int)(v28:Int)(v29:Int)(v30:Int)(v31:Int):Option ((Int×(List (G_QKey×(List G_QKey)))×(List G_QKey)) ⊕ ((List G_QKey)×(List (G_QKey×(List G_QKey))))):=
 if(lk zd v13 (G_QKey.mk v26 v27 v28)).isSome=true then
  (qi m (G_QKey.mk v29 v30 v31) ((lk zd v13 (G_QKey.mk v26 v27 v28)).getD default)).bind fun v32=>
  jm m a0 a1 v12 v14 v26 v27 v28 v29 v30 v31 (mp zd v13 (G_QKey.mk v26 v27 v28) v32)
 else
  (qi m (G_QKey.mk v29 v30 v31) ([]:List G_QKey)).bind fun v33=>
  jm m a0 a1 v12 v14 v26 v27 v28 v29 v30 v31 (mp zd v13 (G_QKey.mk v26 v27 v28) v33)
theorem U5{a0:List G_QEdge}{a1:Bool}{v12:Int}{v13:List (G_QKey×(List G_QKey))}{v14:List G_QKey}{v26:Int}{v27:Int}{v28:Int}{v29:Int}{v30:Int}{v31:Int}{m:Option Nat}{o:((Int×(List (G_QKey×(List G_QKey)))×(List G_QKey)) ⊕ ((List G_QKey)×(List (G_QKey×(List G_QKey)))))}(h:jl m a0 a1 v12 v13 v14 v26 v27 v28 v29 v30 v31=some o) :
 LWp Try.prog kg 3 z8e (qp 1 (Z4 Try.prog kg 3 z1r (vp 3 7 (Y3 a0 a1) (Q4 a0 a1) (X6 a0 a1) o))) [(1,.bool a1),(5,.ptr (3,0) 0 0),(8,.ptr (4,0) 0 0),(9,.ptr (5,0) 0 0),(17,.isl 6 ((a0.take (if 400<((a0.map z6).length:Int) then 400 else((a0.map z6).length:Int)).toNat).map z6) false),(18,.int .i64 (((a0.take (if 400<((a0.map z6).length:Int) then 400 else((a0.map z6).length:Int)).toNat).map z6).length:Int)),(19,.int .i64 v12)] ([((3,0),.one [.map (6,0),.msl (7,0) 3 0 v14.length false]),((4,0),.one [.int .i64 v26,.int .i64 v27,.int .i64 v28]),((5,0),.one [.int .i64 v29,.int .i64 v30,.int .i64 v31]),((6,0),.amap (Zx za 8 3 v13)),((7,0),.rows 3 (v14.map z7))]++(Y9 8 3 z7 v13 none)) 9:=by
 unfold jl at h
 refine zh ?_
 rcases Bool.eq_false_or_eq_true (lk zd v13 (G_QKey.mk v26 v27 v28)).isSome with h21|h21
 ·have h:=yt h21 h
  refine LWp.sim (e:=[(1,.bool a1),(5,.ptr (3,0) 0 0),(8,.ptr (4,0) 0 0),(9,.ptr (5,0) 0 0),(17,.isl 6 ((a0.take (if 400<((a0.map z6).length:Int) then 400 else((a0.map z6).length:Int)).toNat).map z6) false),(18,.int .i64 (((a0.take (if 400<((a0.map z6).length:Int) then 400 else((a0.map z6).length:Int)).toNat).map z6).length:Int)),(19,.int .i64 v12)]) (L:=([((9,0),.rows 3 (((lk zd v13 (G_QKey.mk v26 v27 v28)).getD default).map z7)),((3,0),.one [.map (6,0),.msl (7,0) 3 0 v14.length false]),((4,0),.one [.int .i64 v26,.int .i64 v27,.int .i64 v28]),((5,0),.one [.int .i64 v29,.int .i64 v30,.int .i64 v31]),((6,0),.amap (z08 za 8 3 v13 (uw zd v13 (G_QKey.mk v26 v27 v28)) (G_QKey.mk v26 v27 v28) (.msl (9,0) 3 0 (((lk zd v13 (G_QKey.mk v26 v27 v28)).getD default).length) false))),((7,0),.rows 3 (v14.map z7))]++(Y9 8 3 z7 v13 (some (uw zd v13 (G_QKey.mk v26 v27 v28)))))) (n:=10) ?_ ?_
  ·exact zsr (m:=(9,0)) (i:=(uw zd v13 (G_QKey.mk v26 v27 v28))) (M:=[((3,0),(3,0)),((4,0),(4,0)),((5,0),(5,0)),((6,0),(6,0)),((7,0),(7,0))]) (lit':=[((3,0),.one [.map (6,0),.msl (7,0) 3 0 v14.length false]),((4,0),.one [.int .i64 v26,.int .i64 v27,.int .i64 v28]),((5,0),.one [.int .i64 v29,.int .i64 v30,.int .i64 v31]),((6,0),.amap (Zx za 8 3 v13)),((7,0),.rows 3 (v14.map z7))]) (T:=(Y9 8 3 z7 v13 none)) (q:=8) (q':=8) wu (zor (ze1 (bqt h21))) rfl (by decide) IsFamM.base (And.intro (Vw.same _ rfl) (And.intro (Vw.ptr _ _ _ _ rfl) (And.intro (Vw.ptr _ _ _ _ rfl) (And.intro (Vw.ptr _ _ _ _ rfl) (And.intro (Vw.same _ rfl) (And.intro (Vw.same _ rfl) (And.intro (Vw.same _ rfl) trivial))))))) (And.intro (And.intro rfl (BVw.oneL (And.intro (Vw.map _ _ rfl) (And.intro (Vw.mslE rfl (by first|rfl|omega|(simp;done)|(simp only[List.length_map,List.length_replicate,Int.toNat_natCast] at *;omega)) rfl) trivial)))) (And.intro (And.intro rfl (BVw.oneL (And.intro (Vw.same _ rfl) (And.intro (Vw.same _ rfl) (And.intro (Vw.same _ rfl) trivial))))) (And.intro (And.intro rfl (BVw.oneL (And.intro (Vw.same _ rfl) (And.intro (Vw.same _ rfl) (And.intro (Vw.same _ rfl) trivial))))) (And.intro (And.intro rfl (BVw.entF Jk (zrl (ze1 (bqt h21))) (by decide) rfl rfl)) (And.intro (And.intro rfl (BVw.enc z7 (fun _=>rfl) _ v14)) trivial)))))
  refine Vd ?_
  refine Exists.intro (.msl (9,0) 3 0 (((lk zd v13 (G_QKey.mk v26 v27 v28)).getD default).length) false) (And.intro (zi0 (ek:=za) xf Jk (ze1 (bqt h21))) (And.intro (zgq (ek:=za) xf Jk (ze1 (bqt h21))) ?_))
  obtain⟨v32,h22,h⟩:=bind_some h
  refine Y8 (k:=3) (m:=1) (L':=[((10,0),.rows 3 (v32.map z7))]) (rest:=([((3,0),.one [.map (6,0),.msl (7,0) 3 0 v14.length false]),((4,0),.one [.int .i64 v26,.int .i64 v27,.int .i64 v28]),((5,0),.one [.int .i64 v29,.int .i64 v30,.int .i64 v31]),((6,0),.amap (z08 za 8 3 v13 (uw zd v13 (G_QKey.mk v26 v27 v28)) (G_QKey.mk v26 v27 v28) (.msl (9,0) 3 0 (((lk zd v13 (G_QKey.mk v26 v27 v28)).getD default).length) false))),((7,0),.rows 3 (v14.map z7))]++(Y9 8 3 z7 v13 (some (uw zd v13 (G_QKey.mk v26 v27 v28)))))) (R':=.msl (10,0) 3 0 v32.length false) [((0,0),(9,0))] (Vi h22) rfl rfl rfl (And.intro (Vw.mslE rfl (by first|rfl|omega|(simp;done)|(simp only[List.length_map,List.length_replicate,Int.toNat_natCast] at *;omega)) rfl) (And.intro (Vw.same _ rfl) trivial)) (And.intro (h0I (9,0) rfl rfl (BVw.enc z7 (fun _=>rfl) _ ((lk zd v13 (G_QKey.mk v26 v27 v28)).getD default))) trivial) rfl (And.intro rfl (And.intro (Y4 z7 (fun _=>rfl) _ _) trivial)) (Yw (lit:=[((9,0),.rows 3 (((lk zd v13 (G_QKey.mk v26 v27 v28)).getD default).map z7)),((3,0),.one [.map (6,0),.msl (7,0) 3 0 v14.length false]),((4,0),.one [.int .i64 v26,.int .i64 v27,.int .i64 v28]),((5,0),.one [.int .i64 v29,.int .i64 v30,.int .i64 v31]),((6,0),.amap (z08 za 8 3 v13 (uw zd v13 (G_QKey.mk v26 v27 v28)) (G_QKey.mk v26 v27 v28) (.msl (9,0) 3 0 (((lk zd v13 (G_QKey.mk v26 v27 v28)).getD default).length) false))),((7,0),.rows 3 (v14.map z7))]) (T:=(Y9 8 3 z7 v13 (some (uw zd v13 (G_QKey.mk v26 v27 v28))))) InQ.baseM (fun _=>rfl) rfl) ?_
  refine And.intro rfl ?_
  refine And.intro rfl ?_
  refine Exists.intro (z08 za 8 3 v13 (uw zd v13 (G_QKey.mk v26 v27 v28)) (G_QKey.mk v26 v27 v28) (.msl (10,0) 3 0 v32.length false)) (And.intro (zk4 (ek:=za) xf Jk (ze1 (bqt h21))) ?_)
  refine LWp.sim (e:=[(1,.bool a1),(5,.ptr (3,0) 0 0),(8,.ptr (4,0) 0 0),(9,.ptr (5,0) 0 0),(17,.isl 6 ((a0.take (if 400<((a0.map z6).length:Int) then 400 else((a0.map z6).length:Int)).toNat).map z6) false),(18,.int .i64 (((a0.take (if 400<((a0.map z6).length:Int) then 400 else((a0.map z6).length:Int)).toNat).map z6).length:Int)),(19,.int .i64 v12)]) (L:=([((3,0),.one [.map (6,0),.msl (7,0) 3 0 v14.length false]),((4,0),.one [.int .i64 v26,.int .i64 v27,.int .i64 v28]),((5,0),.one [.int .i64 v29,.int .i64 v30,.int .i64 v31]),((6,0),.amap (Zx za 8 3 (mp zd v13 (G_QKey.mk v26 v27 v28) v32))),((7,0),.rows 3 (v14.map z7))]++(Y9 8 3 z7 (mp zd v13 (G_QKey.mk v26 v27 v28) v32) none))) (n:=10) ?_ ?_
  ·exact zqi (t:=(10,0)) (M:=[((3,0),(3,0)),((4,0),(4,0)),((5,0),(5,0)),((6,0),(6,0)),((7,0),(7,0))]) (lit':=[((10,0),.rows 3 (v32.map z7)),((3,0),.one [.map (6,0),.msl (7,0) 3 0 v14.length false]),((4,0),.one [.int .i64 v26,.int .i64 v27,.int .i64 v28]),((5,0),.one [.int .i64 v29,.int .i64 v30,.int .i64 v31]),((6,0),.amap (z08 za 8 3 v13 (uw zd v13 (G_QKey.mk v26 v27 v28)) (G_QKey.mk v26 v27 v28) (.msl (10,0) 3 0 v32.length false))),((7,0),.rows 3 (v14.map z7))]) (T:=(Y9 8 3 z7 v13 (some (uw zd v13 (G_QKey.mk v26 v27 v28))))) (q:=8) (q':=8) wu rfl (by decide) rfl IsFamM.base (And.intro (Vw.same _ rfl) (And.intro (Vw.ptr _ _ _ _ rfl) (And.intro (Vw.ptr _ _ _ _ rfl) (And.intro (Vw.ptr _ _ _ _ rfl) (And.intro (Vw.same _ rfl) (And.intro (Vw.same _ rfl) (And.intro (Vw.same _ rfl) trivial))))))) (And.intro (And.intro rfl (BVw.oneL (And.intro (Vw.map _ _ rfl) (And.intro (Vw.mslE rfl (by first|rfl|omega|(simp;done)|(simp only[List.length_map,List.length_replicate,Int.toNat_natCast] at *;omega)) rfl) trivial)))) (And.intro (And.intro rfl (BVw.oneL (And.intro (Vw.same _ rfl) (And.intro (Vw.same _ rfl) (And.intro (Vw.same _ rfl) trivial))))) (And.intro (And.intro rfl (BVw.oneL (And.intro (Vw.same _ rfl) (And.intro (Vw.same _ rfl) (And.intro (Vw.same _ rfl) trivial))))) (And.intro (And.intro rfl (BVw.entU rfl (by first|rfl|omega|(simp;done)|(simp only[List.length_map,List.length_replicate,Int.toNat_natCast] at *;omega)))) (And.intro (And.intro rfl (BVw.enc z7 (fun _=>rfl) _ v14)) trivial)))))
  refine LWp.sim ?_ (K7 h)
  exact z2o (M:=[((3,0),(3,0)),((4,0),(4,0)),((5,0),(5,0)),((6,0),(6,0)),((7,0),(7,0))]) (lit':=[((3,0),.one [.map (6,0),.msl (7,0) 3 0 v14.length false]),((4,0),.one [.int .i64 v26,.int .i64 v27,.int .i64 v28]),((5,0),.one [.int .i64 v29,.int .i64 v30,.int .i64 v31]),((6,0),.amap (Zx za 8 3 (mp zd v13 (G_QKey.mk v26 v27 v28) v32))),((7,0),.rows 3 (v14.map z7))]) (T:=(Y9 8 3 z7 (mp zd v13 (G_QKey.mk v26 v27 v28) v32) none)) (q:=8) (q':=8) wu rfl IsFamM.base (And.intro (Vw.same _ rfl) (And.intro (Vw.ptr _ _ _ _ rfl) (And.intro (Vw.ptr _ _ _ _ rfl) (And.intro (Vw.ptr _ _ _ _ rfl) (And.intro (Vw.same _ rfl) (And.intro (Vw.same _ rfl) (And.intro (Vw.same _ rfl) trivial))))))) (And.intro (And.intro rfl (BVw.oneL (And.intro (Vw.map _ _ rfl) (And.intro (Vw.mslE rfl (by first|rfl|omega|(simp;done)|(simp only[List.length_map,List.length_replicate,Int.toNat_natCast] at *;omega)) rfl) trivial)))) (And.intro (And.intro rfl (BVw.oneL (And.intro (Vw.same _ rfl) (And.intro (Vw.same _ rfl) (And.intro (Vw.same _ rfl) trivial))))) (And.intro (And.intro rfl (BVw.oneL (And.intro (Vw.same _ rfl) (And.intro (Vw.same _ rfl) (And.intro (Vw.same _ rfl) trivial))))) (And.intro (And.intro rfl BVw.entJ) (And.intro (And.intro rfl (BVw.enc z7 (fun _=>rfl) _ v14)) trivial)))))
 ·have h:=qy h21 h
  refine LWp.ghost 3 ?_
  refine Vd ?_
  refine Exists.intro (.val (.slice none 0 0)) (And.intro (zcl (ek:=za) xf rfl (zth (bqf h21))) (And.intro (zex (ek:=za) xf (G_QKey.mk v26 v27 v28)) ?_))
  obtain⟨v33,h23,h⟩:=bind_some h
  refine Y8 (k:=3) (m:=1) (L':=[((10,0),.rows 3 (v33.map z7))]) (rest:=([((3,0),.one [.map (6,0),.msl (7,0) 3 0 v14.length false]),((4,0),.one [.int .i64 v26,.int .i64 v27,.int .i64 v28]),((5,0),.one [.int .i64 v29,.int .i64 v30,.int .i64 v31]),((6,0),.amap (Zx za 8 3 v13)),((7,0),.rows 3 (v14.map z7))]++(Y9 8 3 z7 v13 none))) (R':=.msl (10,0) 3 0 v33.length false) [((0,0),(9,0))] (Vi h23) rfl rfl rfl (And.intro (Vw.nilM _ _ _ _ _ _ rfl rfl) (And.intro (Vw.same _ rfl) trivial)) (And.intro (h0I (9,0) rfl rfl (BVw.enc z7 (fun _=>rfl) _ ([]:List G_QKey))) trivial) rfl (And.intro rfl (And.intro (Y4 z7 (fun _=>rfl) _ _) trivial)) (Yw (lit:=[((9,0),.rows 3 (([]:List G_QKey).map z7)),((3,0),.one [.map (6,0),.msl (7,0) 3 0 v14.length false]),((4,0),.one [.int .i64 v26,.int .i64 v27,.int .i64 v28]),((5,0),.one [.int .i64 v29,.int .i64 v30,.int .i64 v31]),((6,0),.amap (Zx za 8 3 v13)),((7,0),.rows 3 (v14.map z7))]) (T:=(Y9 8 3 z7 v13 none)) InQ.baseM (fun _=>rfl) rfl) ?_
  refine And.intro rfl ?_
  refine And.intro rfl ?_
  refine Exists.intro (z08 za 8 3 v13 (uw zd v13 (G_QKey.mk v26 v27 v28)) (G_QKey.mk v26 v27 v28) (.msl (10,0) 3 0 v33.length false)) (And.intro (zlc (ek:=za) xf (G_QKey.mk v26 v27 v28)) ?_)
  refine LWp.sim (e:=[(1,.bool a1),(5,.ptr (3,0) 0 0),(8,.ptr (4,0) 0 0),(9,.ptr (5,0) 0 0),(17,.isl 6 ((a0.take (if 400<((a0.map z6).length:Int) then 400 else((a0.map z6).length:Int)).toNat).map z6) false),(18,.int .i64 (((a0.take (if 400<((a0.map z6).length:Int) then 400 else((a0.map z6).length:Int)).toNat).map z6).length:Int)),(19,.int .i64 v12)]) (L:=([((3,0),.one [.map (6,0),.msl (7,0) 3 0 v14.length false]),((4,0),.one [.int .i64 v26,.int .i64 v27,.int .i64 v28]),((5,0),.one [.int .i64 v29,.int .i64 v30,.int .i64 v31]),((6,0),.amap (Zx za 8 3 (mp zd v13 (G_QKey.mk v26 v27 v28) v33))),((7,0),.rows 3 (v14.map z7))]++(Y9 8 3 z7 (mp zd v13 (G_QKey.mk v26 v27 v28) v33) none))) (n:=10) ?_ ?_
  ·exact zqi (t:=(10,0)) (M:=[((3,0),(3,0)),((4,0),(4,0)),((5,0),(5,0)),((6,0),(6,0)),((7,0),(7,0))]) (lit':=[((10,0),.rows 3 (v33.map z7)),((3,0),.one [.map (6,0),.msl (7,0) 3 0 v14.length false]),((4,0),.one [.int .i64 v26,.int .i64 v27,.int .i64 v28]),((5,0),.one [.int .i64 v29,.int .i64 v30,.int .i64 v31]),((6,0),.amap (z08 za 8 3 v13 (uw zd v13 (G_QKey.mk v26 v27 v28)) (G_QKey.mk v26 v27 v28) (.msl (10,0) 3 0 v33.length false))),((7,0),.rows 3 (v14.map z7))]) (T:=(Y9 8 3 z7 v13 none)) (q:=8) (q':=8) wu rfl (by decide) rfl (IsFamM.hole IsFamM.base) (And.intro (Vw.same _ rfl) (And.intro (Vw.ptr _ _ _ _ rfl) (And.intro (Vw.ptr _ _ _ _ rfl) (And.intro (Vw.ptr _ _ _ _ rfl) (And.intro (Vw.same _ rfl) (And.intro (Vw.same _ rfl) (And.intro (Vw.same _ rfl) trivial))))))) (And.intro (And.intro rfl (BVw.oneL (And.intro (Vw.map _ _ rfl) (And.intro (Vw.mslE rfl (by first|rfl|omega|(simp;done)|(simp only[List.length_map,List.length_replicate,Int.toNat_natCast] at *;omega)) rfl) trivial)))) (And.intro (And.intro rfl (BVw.oneL (And.intro (Vw.same _ rfl) (And.intro (Vw.same _ rfl) (And.intro (Vw.same _ rfl) trivial))))) (And.intro (And.intro rfl (BVw.oneL (And.intro (Vw.same _ rfl) (And.intro (Vw.same _ rfl) (And.intro (Vw.same _ rfl) trivial))))) (And.intro (And.intro rfl (BVw.entU rfl (by first|rfl|omega|(simp;done)|(simp only[List.length_map,List.length_replicate,Int.toNat_natCast] at *;omega)))) (And.intro (And.intro rfl (BVw.enc z7 (fun _=>rfl) _ v14)) trivial)))))
  refine LWp.sim ?_ (K7 h)
  exact z2o (M:=[((3,0),(3,0)),((4,0),(4,0)),((5,0),(5,0)),((6,0),(6,0)),((7,0),(7,0))]) (lit':=[((3,0),.one [.map (6,0),.msl (7,0) 3 0 v14.length false]),((4,0),.one [.int .i64 v26,.int .i64 v27,.int .i64 v28]),((5,0),.one [.int .i64 v29,.int .i64 v30,.int .i64 v31]),((6,0),.amap (Zx za 8 3 (mp zd v13 (G_QKey.mk v26 v27 v28) v33))),((7,0),.rows 3 (v14.map z7))]) (T:=(Y9 8 3 z7 (mp zd v13 (G_QKey.mk v26 v27 v28) v33) none)) (q:=8) (q':=8) wu rfl IsFamM.base (And.intro (Vw.same _ rfl) (And.intro (Vw.ptr _ _ _ _ rfl) (And.intro (Vw.ptr _ _ _ _ rfl) (And.intro (Vw.ptr _ _ _ _ rfl) (And.intro (Vw.same _ rfl) (And.intro (Vw.same _ rfl) (And.intro (Vw.same _ rfl) trivial))))))) (And.intro (And.intro rfl (BVw.oneL (And.intro (Vw.map _ _ rfl) (And.intro (Vw.mslE rfl (by first|rfl|omega|(simp;done)|(simp only[List.length_map,List.length_replicate,Int.toNat_natCast] at *;omega)) rfl) trivial)))) (And.intro (And.intro rfl (BVw.oneL (And.intro (Vw.same _ rfl) (And.intro (Vw.same _ rfl) (And.intro (Vw.same _ rfl) trivial))))) (And.intro (And.intro rfl (BVw.oneL (And.intro (Vw.same _ rfl) (And.intro (Vw.same _ rfl) (And.intro (Vw.same _ rfl) trivial))))) (And.intro (And.intro rfl BVw.entJ) (And.intro (And.intro rfl (BVw.enc z7 (fun _=>rfl) _ v14)) trivial)))))
noncomputable def wz(m:Option Nat)(v13:List (G_QKey×(List G_QKey)))(v14:List G_QKey):Option ((List G_QKey)×(List (G_QKey×(List G_QKey)))):=
 some (v14,v13)
noncomputable def xm(m:Option Nat)(a0:List G_QEdge)(a1:Bool)(v12:Int)(v13:List (G_QKey×(List G_QKey)))(v14:List G_QKey):Option ((Int×(List (G_QKey×(List G_QKey)))×(List G_QKey)) ⊕ ((List G_QKey)×(List (G_QKey×(List G_QKey))))):=
 if(decide (v12<(((a0.take (if 400<((a0.map z6).length:Int) then 400 else((a0.map z6).length:Int)).toNat).map z6).length:Int)))=true then
  if(0:Int)≤v12∧v12<(((a0.take (if 400<((a0.map z6).length:Int) then 400 else((a0.map z6).length:Int)).toNat).map z6).length:Int) then
  if a1=true then
   jl m a0 a1 v12 v13 v14 ((((a0.take (if 400<((a0.map z6).length:Int) then 400 else((a0.map z6).length:Int)).toNat).getD v12.toNat default).f_To).f_Kind) ((((a0.take (if 400<((a0.map z6).length:Int) then 400 else((a0.map z6).length:Int)).toNat).getD v12.toNat default).f_To).f_A) ((((a0.take (if 400<((a0.map z6).length:Int) then 400 else((a0.map z6).length:Int)).toNat).getD v12.toNat default).f_To).f_B) ((((a0.take (if 400<((a0.map z6).length:Int) then 400 else((a0.map z6).length:Int)).toNat).getD v12.toNat default).f_From).f_Kind) ((((a0.take (if 400<((a0.map z6).length:Int) then 400 else((a0.map z6).length:Int)).toNat).getD v12.toNat default).f_From).f_A) ((((a0.take (if 400<((a0.map z6).length:Int) then 400 else((a0.map z6).length:Int)).toNat).getD v12.toNat default).f_From).f_B)
  else
   jl m a0 a1 v12 v13 v14 ((((a0.take (if 400<((a0.map z6).length:Int) then 400 else((a0.map z6).length:Int)).toNat).getD v12.toNat default).f_From).f_Kind) ((((a0.take (if 400<((a0.map z6).length:Int) then 400 else((a0.map z6).length:Int)).toNat).getD v12.toNat default).f_From).f_A) ((((a0.take (if 400<((a0.map z6).length:Int) then 400 else((a0.map z6).length:Int)).toNat).getD v12.toNat default).f_From).f_B) ((((a0.take (if 400<((a0.map z6).length:Int) then 400 else((a0.map z6).length:Int)).toNat).getD v12.toNat default).f_To).f_Kind) ((((a0.take (if 400<((a0.map z6).length:Int) then 400 else((a0.map z6).length:Int)).toNat).getD v12.toNat default).f_To).f_A) ((((a0.take (if 400<((a0.map z6).length:Int) then 400 else((a0.map z6).length:Int)).toNat).getD v12.toNat default).f_To).f_B)
  else none
 else
  Option.map Sum.inr (
   wz m v13 v14)
noncomputable def w9(m:Option Nat)(a0:List G_QEdge)(a1:Bool)(v12:Int)(v13:List (G_QKey×(List G_QKey)))(v14:List G_QKey):Option ((List G_QKey)×(List (G_QKey×(List G_QKey)))):=ky m (fun(s:(Int×(List (G_QKey×(List G_QKey)))×(List G_QKey)))=>xm m a0 a1 s.1 s.2.1 s.2.2) (v12,v13,v14)
theorem z6s{a0:List G_QEdge}{a1:Bool}{v13:List (G_QKey×(List G_QKey))}{v14:List G_QKey}{m:Option Nat}{o:((List G_QKey)×(List (G_QKey×(List G_QKey))))}(h:wz m v13 v14=some o) :
 LWp Try.prog kg 3 Vo (z1o a0 a1 o) [(5,.ptr (3,0) 0 0)] ([((3,0),.one [.map (4,0),.msl (5,0) 3 0 v14.length false]),((4,0),.amap (Zx za 6 3 v13)),((5,0),.rows 3 (v14.map z7))]++(Y9 6 3 z7 v13 none)) 7:=by
 unfold wz at h
 refine zh ?_
 refine zy ?_
 refine ua ?_
 cases h
 exact And.intro trivial (zua (n':=7) (q:=6) (lit':=[((3,0),.one [.map (4,0),.msl (5,0) 3 0 v14.length false]),((4,0),.amap (Zx za 6 3 v13)),((5,0),.rows 3 (v14.map z7))]) (T:=(Y9 6 3 z7 v13 none)) [((3,0),(3,0)),((4,0),(4,0))] [(5,0)] rfl rfl rfl rfl IsFamM.base (Vw.ptr _ _ _ _ rfl) (And.intro (And.intro rfl (BVw.oneL (And.intro (Vw.map _ _ rfl) (And.intro (Vw.frzB z7 Ut (fun h=>h) rfl rfl (by first|rfl|omega|(simp;done)|(simp only[List.length_map,List.length_replicate,Int.toNat_natCast] at *;omega))) trivial)))) (And.intro (And.intro rfl (BVw.entZ Ut (fun _=>rfl) (fun _ _ h=>IsFamM.app rfl IsFamM.base h nofun))) trivial)))
theorem z38{a0:List G_QEdge}{a1:Bool}{v12:Int}{v13:List (G_QKey×(List G_QKey))}{v14:List G_QKey}{m:Option Nat}{o:(Int×(List (G_QKey×(List G_QKey)))×(List G_QKey)) ⊕ ((List G_QKey)×(List (G_QKey×(List G_QKey))))}(h:xm m a0 a1 v12 v13 v14=some o) :
 LWp Try.prog kg 3 z20 (vp 3 7 (Y3 a0 a1) (Q4 a0 a1) (X6 a0 a1) o) [(1,.bool a1),(5,.ptr (3,0) 0 0),(17,.isl 6 ((a0.take (if 400<((a0.map z6).length:Int) then 400 else((a0.map z6).length:Int)).toNat).map z6) false),(18,.int .i64 (((a0.take (if 400<((a0.map z6).length:Int) then 400 else((a0.map z6).length:Int)).toNat).map z6).length:Int)),(19,.int .i64 v12)] ([((3,0),.one [.map (4,0),.msl (5,0) 3 0 v14.length false]),((4,0),.amap (Zx za 6 3 v13)),((5,0),.rows 3 (v14.map z7))]++(Y9 6 3 z7 v13 none)) 7:=by
 unfold xm at h
 refine zh ?_
 refine zy ?_
 refine zh ?_
 refine wc (v:=(decide (v12<(((a0.take (if 400<((a0.map z6).length:Int) then 400 else((a0.map z6).length:Int)).toNat).map z6).length:Int)))) rfl trivial (fun h18=>?_) (fun h18=>?_)
 ·have h:=yt h18 h
  refine we ?_
  refine zh ?_
  refine jd ?_
  refine zh ?_
  refine zy ?_
  obtain⟨h19,h⟩:=zu h
  refine And.intro h19 ?_
  refine Exists.intro (z6 ((a0.take (if 400<((a0.map z6).length:Int) then 400 else((a0.map z6).length:Int)).toNat).getD v12.toNat default)) (And.intro (je z6 _ _ (ws z6 h19)) (And.intro (And.intro (k9 h19) (Nat.le_of_ble_eq_true rfl)) ?_))
  refine zh ?_
  refine Vd ?_
  refine And.intro rfl ?_
  refine And.intro rfl ?_
  refine And.intro rfl ?_
  refine And.intro rfl ?_
  refine And.intro rfl ?_
  refine LWp.sim (e:=[(1,.bool a1),(5,.ptr (3,0) 0 0),(8,.ptr (4,0) 0 0),(9,.ptr (5,0) 0 0),(17,.isl 6 ((a0.take (if 400<((a0.map z6).length:Int) then 400 else((a0.map z6).length:Int)).toNat).map z6) false),(18,.int .i64 (((a0.take (if 400<((a0.map z6).length:Int) then 400 else((a0.map z6).length:Int)).toNat).map z6).length:Int)),(19,.int .i64 v12)]) (L:=([((3,0),.one [.map (6,0),.msl (7,0) 3 0 v14.length false]),((4,0),.one [.int .i64 ((((a0.take (if 400<((a0.map z6).length:Int) then 400 else((a0.map z6).length:Int)).toNat).getD v12.toNat default).f_From).f_Kind),.int .i64 ((((a0.take (if 400<((a0.map z6).length:Int) then 400 else((a0.map z6).length:Int)).toNat).getD v12.toNat default).f_From).f_A),.int .i64 ((((a0.take (if 400<((a0.map z6).length:Int) then 400 else((a0.map z6).length:Int)).toNat).getD v12.toNat default).f_From).f_B)]),((5,0),.one [.int .i64 ((((a0.take (if 400<((a0.map z6).length:Int) then 400 else((a0.map z6).length:Int)).toNat).getD v12.toNat default).f_To).f_Kind),.int .i64 ((((a0.take (if 400<((a0.map z6).length:Int) then 400 else((a0.map z6).length:Int)).toNat).getD v12.toNat default).f_To).f_A),.int .i64 ((((a0.take (if 400<((a0.map z6).length:Int) then 400 else((a0.map z6).length:Int)).toNat).getD v12.toNat default).f_To).f_B)]),((6,0),.amap (Zx za 8 3 v13)),((7,0),.rows 3 (v14.map z7))]++(Y9 8 3 z7 v13 none))) (n:=9) ?_ ?_
  ·exact z2o (M:=[((3,0),(3,0)),((4,0),(8,0)),((5,0),(9,0)),((6,0),(4,0)),((7,0),(5,0))]) (lit':=[((9,0),.one [.int .i64 ((((a0.take (if 400<((a0.map z6).length:Int) then 400 else((a0.map z6).length:Int)).toNat).getD v12.toNat default).f_To).f_Kind),.int .i64 ((((a0.take (if 400<((a0.map z6).length:Int) then 400 else((a0.map z6).length:Int)).toNat).getD v12.toNat default).f_To).f_A),.int .i64 ((((a0.take (if 400<((a0.map z6).length:Int) then 400 else((a0.map z6).length:Int)).toNat).getD v12.toNat default).f_To).f_B)]),((8,0),.one [.int .i64 ((((a0.take (if 400<((a0.map z6).length:Int) then 400 else((a0.map z6).length:Int)).toNat).getD v12.toNat default).f_From).f_Kind),.int .i64 ((((a0.take (if 400<((a0.map z6).length:Int) then 400 else((a0.map z6).length:Int)).toNat).getD v12.toNat default).f_From).f_A),.int .i64 ((((a0.take (if 400<((a0.map z6).length:Int) then 400 else((a0.map z6).length:Int)).toNat).getD v12.toNat default).f_From).f_B)]),((7,0),.one [.int .i64 ((((a0.take (if 400<((a0.map z6).length:Int) then 400 else((a0.map z6).length:Int)).toNat).getD v12.toNat default).f_From).f_Kind),.int .i64 ((((a0.take (if 400<((a0.map z6).length:Int) then 400 else((a0.map z6).length:Int)).toNat).getD v12.toNat default).f_From).f_A),.int .i64 ((((a0.take (if 400<((a0.map z6).length:Int) then 400 else((a0.map z6).length:Int)).toNat).getD v12.toNat default).f_From).f_B),.int .i64 ((((a0.take (if 400<((a0.map z6).length:Int) then 400 else((a0.map z6).length:Int)).toNat).getD v12.toNat default).f_To).f_Kind),.int .i64 ((((a0.take (if 400<((a0.map z6).length:Int) then 400 else((a0.map z6).length:Int)).toNat).getD v12.toNat default).f_To).f_A),.int .i64 ((((a0.take (if 400<((a0.map z6).length:Int) then 400 else((a0.map z6).length:Int)).toNat).getD v12.toNat default).f_To).f_B)]),((3,0),.one [.map (4,0),.msl (5,0) 3 0 v14.length false]),((4,0),.amap (Zx za 6 3 v13)),((5,0),.rows 3 (v14.map z7))]) (T:=(Y9 6 3 z7 v13 none)) (q:=6) (q':=8) wu rfl IsFamM.base (And.intro (Vw.same _ rfl) (And.intro (Vw.ptr _ _ _ _ rfl) (And.intro (Vw.ptr _ _ _ _ rfl) (And.intro (Vw.ptr _ _ _ _ rfl) (And.intro (Vw.same _ rfl) (And.intro (Vw.same _ rfl) (And.intro (Vw.same _ rfl) trivial))))))) (And.intro (And.intro rfl (BVw.oneL (And.intro (Vw.map _ _ rfl) (And.intro (Vw.mslE rfl (by first|rfl|omega|(simp;done)|(simp only[List.length_map,List.length_replicate,Int.toNat_natCast] at *;omega)) rfl) trivial)))) (And.intro (And.intro rfl (BVw.oneL (And.intro (Vw.same _ rfl) (And.intro (Vw.same _ rfl) (And.intro (Vw.same _ rfl) trivial))))) (And.intro (And.intro rfl (BVw.oneL (And.intro (Vw.same _ rfl) (And.intro (Vw.same _ rfl) (And.intro (Vw.same _ rfl) trivial))))) (And.intro (And.intro rfl BVw.entJ) (And.intro (And.intro rfl (BVw.enc z7 (fun _=>rfl) _ v14)) trivial)))))
  refine zh ?_
  refine zh ?_
  refine zy ?_
  refine wc (v:=a1) rfl trivial (fun h20=>?_) (fun h20=>?_)
  ·have h:=yt h20 h
   refine zy ?_
   refine LWp.sim ?_ (U5 h)
   exact z2o (M:=[((3,0),(3,0)),((4,0),(4,0)),((5,0),(5,0)),((6,0),(6,0)),((7,0),(7,0))]) (lit':=[((3,0),.one [.map (6,0),.msl (7,0) 3 0 v14.length false]),((4,0),.one [.int .i64 ((((a0.take (if 400<((a0.map z6).length:Int) then 400 else((a0.map z6).length:Int)).toNat).getD v12.toNat default).f_To).f_Kind),.int .i64 ((((a0.take (if 400<((a0.map z6).length:Int) then 400 else((a0.map z6).length:Int)).toNat).getD v12.toNat default).f_To).f_A),.int .i64 ((((a0.take (if 400<((a0.map z6).length:Int) then 400 else((a0.map z6).length:Int)).toNat).getD v12.toNat default).f_To).f_B)]),((5,0),.one [.int .i64 ((((a0.take (if 400<((a0.map z6).length:Int) then 400 else((a0.map z6).length:Int)).toNat).getD v12.toNat default).f_From).f_Kind),.int .i64 ((((a0.take (if 400<((a0.map z6).length:Int) then 400 else((a0.map z6).length:Int)).toNat).getD v12.toNat default).f_From).f_A),.int .i64 ((((a0.take (if 400<((a0.map z6).length:Int) then 400 else((a0.map z6).length:Int)).toNat).getD v12.toNat default).f_From).f_B)]),((6,0),.amap (Zx za 8 3 v13)),((7,0),.rows 3 (v14.map z7))]) (T:=(Y9 8 3 z7 v13 none)) (q:=8) (q':=8) wu rfl IsFamM.base (And.intro (Vw.same _ rfl) (And.intro (Vw.ptr _ _ _ _ rfl) (And.intro (Vw.ptr _ _ _ _ rfl) (And.intro (Vw.ptr _ _ _ _ rfl) (And.intro (Vw.same _ rfl) (And.intro (Vw.same _ rfl) (And.intro (Vw.same _ rfl) trivial))))))) (And.intro (And.intro rfl (BVw.oneL (And.intro (Vw.map _ _ rfl) (And.intro (Vw.mslE rfl (by first|rfl|omega|(simp;done)|(simp only[List.length_map,List.length_replicate,Int.toNat_natCast] at *;omega)) rfl) trivial)))) (And.intro (And.intro rfl (BVw.oneL (And.intro (Vw.same _ rfl) (And.intro (Vw.same _ rfl) (And.intro (Vw.same _ rfl) trivial))))) (And.intro (And.intro rfl (BVw.oneL (And.intro (Vw.same _ rfl) (And.intro (Vw.same _ rfl) (And.intro (Vw.same _ rfl) trivial))))) (And.intro (And.intro rfl BVw.entJ) (And.intro (And.intro rfl (BVw.enc z7 (fun _=>rfl) _ v14)) trivial)))))
  ·have h:=qy h20 h
   refine we ?_
   refine LWp.sim ?_ (U5 h)
   exact z2o (M:=[((3,0),(3,0)),((4,0),(4,0)),((5,0),(5,0)),((6,0),(6,0)),((7,0),(7,0))]) (lit':=[((3,0),.one [.map (6,0),.msl (7,0) 3 0 v14.length false]),((4,0),.one [.int .i64 ((((a0.take (if 400<((a0.map z6).length:Int) then 400 else((a0.map z6).length:Int)).toNat).getD v12.toNat default).f_From).f_Kind),.int .i64 ((((a0.take (if 400<((a0.map z6).length:Int) then 400 else((a0.map z6).length:Int)).toNat).getD v12.toNat default).f_From).f_A),.int .i64 ((((a0.take (if 400<((a0.map z6).length:Int) then 400 else((a0.map z6).length:Int)).toNat).getD v12.toNat default).f_From).f_B)]),((5,0),.one [.int .i64 ((((a0.take (if 400<((a0.map z6).length:Int) then 400 else((a0.map z6).length:Int)).toNat).getD v12.toNat default).f_To).f_Kind),.int .i64 ((((a0.take (if 400<((a0.map z6).length:Int) then 400 else((a0.map z6).length:Int)).toNat).getD v12.toNat default).f_To).f_A),.int .i64 ((((a0.take (if 400<((a0.map z6).length:Int) then 400 else((a0.map z6).length:Int)).toNat).getD v12.toNat default).f_To).f_B)]),((6,0),.amap (Zx za 8 3 v13)),((7,0),.rows 3 (v14.map z7))]) (T:=(Y9 8 3 z7 v13 none)) (q:=8) (q':=8) wu rfl IsFamM.base (And.intro (Vw.same _ rfl) (And.intro (Vw.ptr _ _ _ _ rfl) (And.intro (Vw.ptr _ _ _ _ rfl) (And.intro (Vw.ptr _ _ _ _ rfl) (And.intro (Vw.same _ rfl) (And.intro (Vw.same _ rfl) (And.intro (Vw.same _ rfl) trivial))))))) (And.intro (And.intro rfl (BVw.oneL (And.intro (Vw.map _ _ rfl) (And.intro (Vw.mslE rfl (by first|rfl|omega|(simp;done)|(simp only[List.length_map,List.length_replicate,Int.toNat_natCast] at *;omega)) rfl) trivial)))) (And.intro (And.intro rfl (BVw.oneL (And.intro (Vw.same _ rfl) (And.intro (Vw.same _ rfl) (And.intro (Vw.same _ rfl) trivial))))) (And.intro (And.intro rfl (BVw.oneL (And.intro (Vw.same _ rfl) (And.intro (Vw.same _ rfl) (And.intro (Vw.same _ rfl) trivial))))) (And.intro (And.intro rfl BVw.entJ) (And.intro (And.intro rfl (BVw.enc z7 (fun _=>rfl) _ v14)) trivial)))))
 ·have h:=qy h18 h
  refine Z7 ?_
  obtain⟨o,hq,rfl⟩:=Option.map_eq_some_iff.1 h
  replace h:=hq;clear hq
  refine And.intro nofun ?_
  refine LWp.sim ?_ (z6s h)
  exact z2o (M:=[((3,0),(3,0)),((4,0),(4,0)),((5,0),(5,0))]) (lit':=[((3,0),.one [.map (4,0),.msl (5,0) 3 0 v14.length false]),((4,0),.amap (Zx za 6 3 v13)),((5,0),.rows 3 (v14.map z7))]) (T:=(Y9 6 3 z7 v13 none)) (q:=6) (q':=6) wu rfl IsFamM.base (And.intro (Vw.ptr _ _ _ _ rfl) trivial) (And.intro (And.intro rfl (BVw.oneL (And.intro (Vw.map _ _ rfl) (And.intro (Vw.mslE rfl (by first|rfl|omega|(simp;done)|(simp only[List.length_map,List.length_replicate,Int.toNat_natCast] at *;omega)) rfl) trivial)))) (And.intro (And.intro rfl BVw.entJ) (And.intro (And.intro rfl (BVw.enc z7 (fun _=>rfl) _ v14)) trivial)))
theorem z6p{a0:List G_QEdge}{a1:Bool}{v12:Int}{v13:List (G_QKey×(List G_QKey))}{v14:List G_QKey}{m:Option Nat}{o:((List G_QKey)×(List (G_QKey×(List G_QKey))))}(h:w9 m a0 a1 v12 v13 v14=some o) :
 LWp Try.prog kg 3 (.loop z20) (qp 0 (Z4 Try.prog kg 3 Vo (z1o a0 a1 o))) [(1,.bool a1),(5,.ptr (3,0) 0 0),(17,.isl 6 ((a0.take (if 400<((a0.map z6).length:Int) then 400 else((a0.map z6).length:Int)).toNat).map z6) false),(18,.int .i64 (((a0.take (if 400<((a0.map z6).length:Int) then 400 else((a0.map z6).length:Int)).toNat).map z6).length:Int)),(19,.int .i64 v12)] ([((3,0),.one [.map (4,0),.msl (5,0) 3 0 v14.length false]),((4,0),.amap (Zx za 6 3 v13)),((5,0),.rows 3 (v14.map z7))]++(Y9 6 3 z7 v13 none)) 7:=
 j7 (m:=m) (s:=((v12,v13,v14):(Int×(List (G_QKey×(List G_QKey)))×(List G_QKey)))) (r:=o) (fun(s:(Int×(List (G_QKey×(List G_QKey)))×(List G_QKey)))=>xm m a0 a1 s.1 s.2.1 s.2.2) (Y3 a0 a1) (Q4 a0 a1) (X6 a0 a1) (fun s o h=>z38 h) h
noncomputable def qq(m:Option Nat)(a0:List G_QEdge)(a1:Bool):Option ((List G_QKey)×(List (G_QKey×(List G_QKey)))):=
 if(0:Int)≤(if 400<((a0.map z6).length:Int) then 400 else((a0.map z6).length:Int))∧(if 400<((a0.map z6).length:Int) then 400 else((a0.map z6).length:Int))≤((a0.map z6).length:Int) then
 w9 m a0 a1 0 ([]:List (G_QKey×(List G_QKey))) ([]:List G_QKey)
 else none
theorem z7c{a0:List G_QEdge}{a1:Bool}{m:Option Nat}{o:(List G_QKey)×(List (G_QKey×(List G_QKey)))}(h:qq m a0 a1=some o):LWp Try.prog kg 3 z8u (z1o a0 a1 o) (yy 0 [.isl 6 (a0.map z6) false,.bool a1]) [] 3:=by
 unfold qq at h
 refine zh ?_
 refine zy ?_
 refine zh ?_
 refine zy ?_
 refine LWp.ghost 3 ?_
 refine LWp.sim (e:=[(0,.isl 6 (a0.map z6) false),(1,.bool a1),(5,.ptr (3,0) 0 0)]) (L:=[((3,0),.one [.map (4,0),.msl (5,0) 3 0 (([]:List G_QKey).length) false]),((4,0),.amap []),((5,0),.rows 3 (([]:List G_QKey).map z7))]) (n:=6) ?_ ?_
 ·exact jw (M:=[((3,0),(4,0)),((4,0),(3,0)),((5,0),(5,0))]) rfl (And.intro (Vw.same _ rfl) (And.intro (Vw.same _ rfl) (And.intro (Vw.ptr _ _ _ _ rfl) trivial))) (And.intro (And.intro rfl (BVw.oneL (And.intro (Vw.map _ _ rfl) (And.intro (Vw.islM _ _ _ _ _ _ rfl rfl) trivial)))) (And.intro (And.intro rfl (BVw.amap [] (fun _ h=>by cases h))) (And.intro (And.intro rfl (BVw.enc z7 (fun _=>rfl) _ ([]:List G_QKey))) trivial)))
 refine LWp.sim (e:=[(0,.isl 6 (a0.map z6) false),(1,.bool a1),(5,.ptr (3,0) 0 0)]) (L:=([((3,0),.one [.map (4,0),.msl (5,0) 3 0 (([]:List G_QKey).length) false]),((4,0),.amap (Zx za 6 3 ([]:List (G_QKey×(List G_QKey))))),((5,0),.rows 3 (([]:List G_QKey).map z7))]++(Y9 6 3 z7 ([]:List (G_QKey×(List G_QKey))) none))) (n:=7) ?_ ?_
 ·exact zne (M:=[((3,0),(3,0)),((4,0),(4,0)),((5,0),(5,0))]) (lit':=[((3,0),.one [.map (4,0),.msl (5,0) 3 0 (([]:List G_QKey).length) false]),((4,0),.amap []),((5,0),.rows 3 (([]:List G_QKey).map z7))]) (T:=[]) (q:=106) (q':=6) wu rfl (And.intro (Vw.same _ rfl) (And.intro (Vw.same _ rfl) (And.intro (Vw.ptr _ _ _ _ rfl) trivial))) (And.intro (And.intro rfl (BVw.oneL (And.intro (Vw.map _ _ rfl) (And.intro (Vw.mslE rfl (by first|rfl|omega|(simp;done)|(simp only[List.length_map,List.length_replicate,Int.toNat_natCast] at *;omega)) rfl) trivial)))) (And.intro (And.intro rfl BVw.entNew) (And.intro (And.intro rfl (BVw.enc z7 (fun _=>rfl) _ ([]:List G_QKey))) trivial)))
 refine zh ?_
 refine zh ?_
 refine zy ?_
 obtain⟨h1,h⟩:=zu h
 refine Exists.intro (.isl 6 ((a0.take (if 400<((a0.map z6).length:Int) then 400 else((a0.map z6).length:Int)).toNat).map z6) false) (And.intro (zk6 z6 (slB z6 a0 _) rfl) (And.intro (And.intro rfl (And.intro (Int.le_refl _) h1)) ?_))
 refine jd ?_
 refine LWp.sim ?_ (z6p h)
 exact z2o (M:=[((3,0),(3,0)),((4,0),(4,0)),((5,0),(5,0))]) (lit':=[((3,0),.one [.map (4,0),.msl (5,0) 3 0 (([]:List G_QKey).length) false]),((4,0),.amap (Zx za 6 3 ([]:List (G_QKey×(List G_QKey))))),((5,0),.rows 3 (([]:List G_QKey).map z7))]) (T:=(Y9 6 3 z7 ([]:List (G_QKey×(List G_QKey))) none)) (q:=6) (q':=6) wu rfl IsFamM.base (And.intro (Vw.same _ rfl) (And.intro (Vw.ptr _ _ _ _ rfl) (And.intro (Vw.same _ rfl) (And.intro (Vw.same _ rfl) (And.intro (Vw.same _ rfl) trivial))))) (And.intro (And.intro rfl (BVw.oneL (And.intro (Vw.map _ _ rfl) (And.intro (Vw.mslE rfl (by first|rfl|omega|(simp;done)|(simp only[List.length_map,List.length_replicate,Int.toNat_natCast] at *;omega)) rfl) trivial)))) (And.intro (And.intro rfl BVw.entJ) (And.intro (And.intro rfl (BVw.enc z7 (fun _=>rfl) _ ([]:List G_QKey))) trivial)))
theorem Vs{a0:List G_QEdge}{a1:Bool}{m:Option Nat}{o:(List G_QKey)×(List (G_QKey×(List G_QKey)))}(h:qq m a0 a1=some o):ACalls Try.prog 21 [.isl 6 (a0.map z6) false,.bool a1] [] 3 (ub 7 (.ptr (3,0) 0 0) [((3,0),.one [.map (4,0),.isl 3 (o.1.map z7) false]),((4,0),.amap (o.2.map (em za z8)))]):=Yf (L:=zdr) zd8 zfk (Nat.le_of_ble_eq_true rfl) (z7c h)
def vj(m:Option Nat)(a0:List G_QKey):Option (List G_QKey):=zse 24 a0
theorem zfh:Z6 Try.prog 37:=⟨_,Try.func37,rfl,rfl⟩
theorem zjz{m:Option Nat}{a0:List G_QKey}{o:List G_QKey}(h:vj m a0=some o):ACalls Try.prog 37 [.isl 3 (a0.map z7) false] [] 3 (ub 4 (.msl (3,0) 3 0 o.length false) [((3,0),.rows 3 (o.map z7))]):=
 z7m (c:=24) (zs:=[(.int .i64 0),(.int .i64 0),(.int .i64 0)]) z7 zfh Try.func37 ⟨_,_,_,_,_,_,_,_,_,_,_,_,_,_,_,_,_,_,_,_,_,_,_,_,_,_,_,_,rfl,rfl,rfl⟩ (by kernel_rfl) (by kernel_rfl) (by kernel_rfl) (by kernel_rfl) (by decide) (by decide) rfl h _
def zm8:LCode:=(.seq (.region [⟨some 2,.box (.t 0),none⟩,
 ⟨some 3,.box (.t 1),none⟩,
 ⟨some 4,.mv (.c (.int .i64 0)),none⟩])
 (.seq (.draw [⟨⟨some 5,.faddr 0 (.t 2),none⟩,[]⟩,
  ⟨⟨some 6,.load false 1 (.t 5),none⟩,[]⟩,
  ⟨⟨some 7,.faddr 0 (.t 3),none⟩,[]⟩,
  ⟨⟨some 8,.load false 1 (.t 7),none⟩,[]⟩,
  ⟨⟨some 10,.faddr 1 (.t 2),none⟩,[]⟩,
  ⟨⟨some 11,.load false 1 (.t 10),none⟩,[]⟩,
  ⟨⟨some 12,.faddr 1 (.t 3),none⟩,[]⟩,
  ⟨⟨some 13,.load false 1 (.t 12),none⟩,[]⟩,
  ⟨⟨some 15,.faddr 2 (.t 2),none⟩,[]⟩,
  ⟨⟨some 16,.load false 1 (.t 15),none⟩,[]⟩,
  ⟨⟨some 17,.faddr 2 (.t 3),none⟩,[]⟩,
  ⟨⟨some 18,.load false 1 (.t 17),none⟩,[]⟩,
  ⟨⟨some 9,.call 51 [(.t 6),(.t 8)],none⟩,[5,7,9,11]⟩,
  ⟨⟨some 14,.call 51 [(.t 11),(.t 13)],none⟩,[9,11]⟩,
  ⟨⟨some 19,.call 51 [(.t 16),(.t 18)],none⟩,[]⟩,
  ⟨⟨some 20,.mkSl true 1 [(.int .i64 0)] 3 [(0,(.t 9)),(1,(.t 14)),(2,(.t 19))],none⟩,[]⟩,
  ⟨⟨some 21,.call 50 [(.t 20)],none⟩,[]⟩,
  ⟨⟨some 4,.mv (.t 21),none⟩,[]⟩])
 .ret))
def zix:Lay:=⟨22,[],false⟩
def zh5:List LRes:=[.t 4]
def zq2:LFn:=⟨2,zix,zm8,zh5⟩
theorem zno:vi Try.prog [] 39=some zq2:=by kernel_rfl
theorem zon:Z6 Try.prog 39:=⟨_,Try.func39,rfl,rfl⟩
noncomputable def qx(m:Option Nat)(a0:G_QKey)(a1:G_QKey):Option Int:=
 (qa m a0.f_Kind a1.f_Kind).bind fun v1=>
 (qa m a0.f_A a1.f_A).bind fun v2=>
 (qa m a0.f_B a1.f_B).bind fun v3=>
 (wh m ([v1,v2,v3]:List Int)).bind fun v4=>
 some v4
def ztf(a0:G_QKey)(a1:G_QKey)(o:Int):Exit→Env→AHeap→Nat→Prop:=Yb zh5 (wa (.int .i64 o))
theorem zfi{a0:G_QKey}{a1:G_QKey}{m:Option Nat}{o:Int}(h:qx m a0 a1=some o):LWp Try.prog zix 0 zm8 (ztf a0 a1 o) (yy 0 [.agg [.int .i64 a0.f_Kind,.int .i64 a0.f_A,.int .i64 a0.f_B],.agg [.int .i64 a1.f_Kind,.int .i64 a1.f_A,.int .i64 a1.f_B]]) [] 0:=by
 unfold qx at h
 refine zh ?_
 refine zy ?_
 refine zh ?_
 refine Vd ?_
 obtain⟨v1,h1,h⟩:=bind_some h
 refine PFn.call (z0g h1) (And.intro (Vw.same _ rfl) (And.intro (Vw.same _ rfl) trivial)) ?_
 refine And.intro rfl ?_
 refine And.intro rfl ?_
 refine And.intro rfl ?_
 refine And.intro rfl ?_
 obtain⟨v2,h2,h⟩:=bind_some h
 refine PFn.call (z0g h2) (And.intro (Vw.same _ rfl) (And.intro (Vw.same _ rfl) trivial)) ?_
 refine And.intro rfl ?_
 refine And.intro rfl ?_
 obtain⟨v3,h3,h⟩:=bind_some h
 refine PFn.call (z0g h3) (And.intro (Vw.same _ rfl) (And.intro (Vw.same _ rfl) trivial)) ?_
 show yd _ _ _ _ _ [(19,.int .i64 v3),(14,.int .i64 v2),(9,.int .i64 v1),(18,.int .i64 a1.f_B),(17,.ptr (1,0) 0 2),(16,.int .i64 a0.f_B),(15,.ptr (0,0) 0 2),(13,.int .i64 a1.f_A),(12,.ptr (1,0) 0 1),(11,.int .i64 a0.f_A),(10,.ptr (0,0) 0 1),(8,.int .i64 a1.f_Kind),(7,.ptr (1,0) 0 0),(6,.int .i64 a0.f_Kind),(5,.ptr (0,0) 0 0),(4,.int .i64 0),(3,.ptr (1,0) 0 0),(2,.ptr (0,0) 0 0),(0,.agg [.int .i64 a0.f_Kind,.int .i64 a0.f_A,.int .i64 a0.f_B]),(1,.agg [.int .i64 a1.f_Kind,.int .i64 a1.f_A,.int .i64 a1.f_B])] _ _
 obtain⟨v4,h4,h⟩:=bind_some h
 refine PFn.call (zlp h4) (And.intro (Vw.islF _ _ _) trivial) ?_
 show yd _ _ _ _ _ [(21,.int .i64 v4),(20,.isl 1 (([v1,v2,v3]:List Int).map Ym) true),(19,.int .i64 v3),(14,.int .i64 v2),(9,.int .i64 v1),(18,.int .i64 a1.f_B),(17,.ptr (1,0) 0 2),(16,.int .i64 a0.f_B),(15,.ptr (0,0) 0 2),(13,.int .i64 a1.f_A),(12,.ptr (1,0) 0 1),(11,.int .i64 a0.f_A),(10,.ptr (0,0) 0 1),(8,.int .i64 a1.f_Kind),(7,.ptr (1,0) 0 0),(6,.int .i64 a0.f_Kind),(5,.ptr (0,0) 0 0),(4,.int .i64 0),(3,.ptr (1,0) 0 0),(2,.ptr (0,0) 0 0),(0,.agg [.int .i64 a0.f_Kind,.int .i64 a0.f_A,.int .i64 a0.f_B]),(1,.agg [.int .i64 a1.f_Kind,.int .i64 a1.f_A,.int .i64 a1.f_B])] _ _
 refine LWp.sim (e:=[(4,.int .i64 v4)]) (L:=[]) (n:=0) ?_ ?_
 ·exact jw (M:=[]) rfl (And.intro (Vw.same _ rfl) trivial) trivial
 refine ua ?_
 cases h
 exact And.intro trivial (And.intro rfl (Vw.same _ rfl))
theorem zqt{a0:G_QKey}{a1:G_QKey}{m:Option Nat}{o:Int}(h:qx m a0 a1=some o):PFn Try.prog 39 [.agg [.int .i64 a0.f_Kind,.int .i64 a0.f_A,.int .i64 a0.f_B],.agg [.int .i64 a1.f_Kind,.int .i64 a1.f_A,.int .i64 a1.f_B]] (.int .i64 o):=PFn.ofFnW (L:=zq2) zno zon (Nat.le_of_ble_eq_true rfl) rfl (zfi h)
theorem zj3{x:Option Int}(h:x.isSome=true):x=some (x.getD 0):=by
 cases x with
 |none=>cases h
 |some v=>rfl
theorem z1w(m:Option Nat)(a b:Int):∃r,qa m a b=some r:=by
 unfold qa wy
 simp only[Option.bind_some]
 repeat' split
 all_goals exact⟨_,rfl⟩
theorem z2r{b:Int→Option (Int ⊕ Int)}{k:Nat}{s s':Int}(h:b s=some (.inl s')):kv b (k+1) s=kv b k s':=by simp only[kv,h]
theorem z1k{b:Int→Option (Int ⊕ Int)}{k:Nat}{s:Int}{x:Int}(h:b s=some (.inr x)):kv b (k+1) s=some x:=by simp only[kv,h]
theorem ztj(a b c:Int):∃r,wh (some 4096) [a,b,c]=some r:=by
 have hb:∀ (i:Nat),i<3→zz (some 4096) [a,b,c] (i:Int)=if(([a,b,c].getD i default) != 0)=true then some (.inr ([a,b,c].getD i default)) else some (.inl ((i+1:Nat):Int)):=by
  intro i hi
  unfold zz
  rw[if_pos (by simp;omega),if_pos (by simp;omega)]
  simp only[Int.toNat_natCast]
  split
  ·rfl
  ·have:i=0∨i=1∨i=2:=by omega
   rcases this with rfl|rfl|rfl<;>rfl
 have h3:zz (some 4096) [a,b,c] ((3:Nat):Int)=some (.inr 0):=by
  unfold zz kc
  rw[if_neg (by simp)];rfl
 have h0:=hb 0 (by omega);have h1:=hb 1 (by omega);have h2:=hb 2 (by omega)
 unfold wh kf
 show ∃r,kv _ (4095+1) ((0:Nat):Int)=some r
 split at h0
 ·exact⟨_,z1k h0⟩
 ·rw[z2r h0]
  show ∃r,kv _ (4094+1) _=some r
  split at h1
  ·exact⟨_,z1k h1⟩
  ·rw[z2r h1]
   show ∃r,kv _ (4093+1) _=some r
   split at h2
   ·exact⟨_,z1k h2⟩
   ·rw[z2r h2]
    exact⟨_,z1k (k:=4092) h3⟩
theorem zub(x y:G_QKey):(qx (some 4096) x y).isSome=true:=by
 obtain⟨a,h1⟩:=z1w (some 4096) x.f_Kind y.f_Kind
 obtain⟨b,h2⟩:=z1w (some 4096) x.f_A y.f_A
 obtain⟨c,h3⟩:=z1w (some 4096) x.f_B y.f_B
 obtain⟨d,h4⟩:=ztj a b c
 unfold qx
 rw[h1,Option.bind_some,h2,Option.bind_some,h3,Option.bind_some,h4]
 rfl
noncomputable def z67(x y:G_QKey):Int:=(qx (some 4096) x y).getD 0
theorem zn0(x y:G_QKey):qx (some 4096) x y=some (z67 x y):=by
 have ht:=zub x y
 unfold z67
 exact(zj3 ht)
noncomputable def ji(m:Option Nat)(a0:List G_QKey):Option (List G_QKey):=by classical exact if Go.Sort.SWO (Go.Proofs.ltOf z67)∧a0.length<4611686018427387904 then some (Zy z67 a0) else none
theorem zf5:Z6 Try.prog 38:=⟨_,Try.func38,rfl,rfl⟩
theorem zkd{m:Option Nat}{a0:List G_QKey}{o:List G_QKey}(h:ji m a0=some o):ACalls Try.prog 38 [.msl (0,0) 3 0 a0.length false,.fn (.func 39) [] []] [((0,0),.rows 3 (a0.map z7))] 3 (ub 3 (.tup []) [((0,0),.rows 3 (o.map z7))]):=by
 unfold ji at h
 split at h
 ·rename_i hc
  cases h
  exact U2 Try.l38 (by decide) Try.isAgg24 Try.sizeOf24 z7 (fun _=>⟨rfl,rfl⟩) z67 hc.1 39 (Go.Proofs.enters_of Try.func39 (by kernel_rfl) rfl) (fun x y W=>PFn.cmp (e:=z7) (fun _=>rfl) (zqt (zn0 x y)) W) zf5 rfl _ hc.2 _
 ·cases h
def z21:LCode:=(.seq (.seq (.region [⟨some 17,.mv (.t 7),none⟩,
 ⟨some 18,.len false (.t 17),none⟩,
 ⟨some 19,.bin .gtr (.t 18) (.c (.int .i64 0)),none⟩])
 (.cond (.t 19)
  .skip
  (.exit 0)))
 (.block 1
  (.seq (.region [⟨some 20,.mv (.t 7),none⟩,
   ⟨some 21,.mv (.t 7),none⟩,
   ⟨some 22,.len false (.t 21),none⟩,
   ⟨some 23,.bin .sub (.t 22) (.c (.int .i64 1)),none⟩,
   ⟨some 24,.iaddr 3 (.t 20) (.t 23),none⟩,
   ⟨some 25,.load true 3 (.t 24),none⟩,
   ⟨some 8,.alloc [(.int .i64 0),(.int .i64 0),(.int .i64 0)],none⟩,
   ⟨none,.store 3 (.t 8) (.t 25),none⟩])
  (.seq (.region [⟨some 26,.mv (.t 7),none⟩,
   ⟨some 27,.mv (.t 7),none⟩,
   ⟨some 28,.len false (.t 27),none⟩,
   ⟨some 29,.bin .sub (.t 28) (.c (.int .i64 1)),none⟩,
   ⟨some 30,.slSl 3 (.t 26) none (some (.t 29)) none,none⟩,
   ⟨some 7,.mv (.t 30),none⟩])
  (.seq (.seq (.region [⟨some 31,.mv (.t 6),none⟩,
   ⟨some 32,.load true 3 (.t 8),none⟩,
   ⟨some 33,.mlook [.int,.int,.int] true false false [(.int .i64 0)] (.t 31) (.t 32),none⟩,
   ⟨some 34,.bin .neq (.t 33) (.c (.int .i64 0)),none⟩])
  (.cond (.t 34)
   (.exit 1)
   .skip))
  (.seq (.region [⟨some 35,.mv (.t 6),none⟩,
   ⟨some 36,.load true 3 (.t 8),none⟩,
   ⟨none,.mset [.int,.int,.int] true false [(.int .i64 0)] (.t 35) (.t 36) (.c (.int .i64 1)),none⟩])
  (.seq (.region [⟨some 37,.mv (.t 5),none⟩,
   ⟨some 38,.load true 3 (.t 8),none⟩,
   ⟨some 39,.mkSl true 3 [(.int .i64 0),(.int .i64 0),(.int .i64 0)] 1 [(0,(.t 38))],none⟩,
   ⟨some 40,.app false 3 24 (.t 37) (.t 39),none⟩,
   ⟨some 5,.mv (.t 40),none⟩])
  (.draw [⟨⟨some 41,.mv (.t 7),none⟩,[]⟩,
   ⟨⟨some 42,.mv (.t 0),none⟩,[]⟩,
   ⟨⟨some 43,.nilck (.t 42),none⟩,[]⟩,
   ⟨⟨some 44,.faddr 0 (.t 43),none⟩,[]⟩,
   ⟨⟨some 45,.load false 1 (.t 44),none⟩,[]⟩,
   ⟨⟨some 46,.load true 3 (.t 8),none⟩,[]⟩,
   ⟨⟨some 47,.mlook [.int,.int,.int] true false false [(.isl 3 [] true)] (.t 45) (.t 46),none⟩,[]⟩,
   ⟨⟨some 48,.app false 3 24 (.t 41) (.t 47),none⟩,[]⟩,
   ⟨⟨some 7,.mv (.t 48),none⟩,[]⟩]))))))))
def Vq:LCode:=(.seq (.region [⟨some 49,.mv (.t 5),none⟩,
 ⟨some 50,.call 38 [(.t 49),(.c (.fn (.func 39) [] []))],none⟩])
 (.seq (.region [⟨some 51,.mv (.t 5),none⟩,
  ⟨some 4,.mv (.t 51),none⟩])
 .ret))
def z8h:LCode:=(.seq (.region [⟨some 3,.box (.t 1),none⟩,
 ⟨some 4,.mv (.c (.val (.slice none 0 0))),none⟩])
 (.seq (.region [⟨some 5,.mv (.c (.val (.slice none 0 0))),none⟩])
 (.seq (.region [⟨some 9,.mkmap none,none⟩,
  ⟨some 6,.mv (.t 9),none⟩])
 (.seq (.draw [⟨⟨some 10,.mv (.t 0),none⟩,[]⟩,
  ⟨⟨some 11,.nilck (.t 10),none⟩,[]⟩,
  ⟨⟨some 12,.faddr 0 (.t 11),none⟩,[]⟩,
  ⟨⟨some 13,.load false 1 (.t 12),none⟩,[]⟩,
  ⟨⟨some 14,.load true 3 (.t 3),none⟩,[]⟩,
  ⟨⟨some 15,.mlook [.int,.int,.int] true false false [(.isl 3 [] true)] (.t 13) (.t 14),none⟩,[]⟩,
  ⟨⟨some 16,.call 37 [(.t 15)],none⟩,[]⟩,
  ⟨⟨some 7,.mv (.t 16),none⟩,[]⟩])
 (.seq (.block 0
  (.loop
   z21))
 Vq)))))
def Zt:Lay:=⟨52,[40,48],false⟩
def z3v:List LRes:=[.t 4]
def zhr:LFn:=⟨2,Zt,z8h,z3v⟩
theorem zg3:vi Try.prog [40,48] 22=some zhr:=by kernel_rfl
theorem zei:Z6 Try.prog 22:=⟨_,Try.func22,rfl,rfl⟩
def z1z(a0:G_QKey)(a1:List G_QKey)(a2:List (G_QKey×(List G_QKey)))(o:(List G_QKey)):Exit→Env→AHeap→Nat→Prop:=Yb z3v (Qh 3 3 (.isl 3 (o.map z7) false) [((0,0),.one [.map (0,1),.isl 3 (a1.map z7) false]),((0,1),.amap (a2.map (em za z8)))])
def Vc(a1:List G_QKey)(a2:List (G_QKey×(List G_QKey)))(s:(Nat×(List G_QKey)×(List (G_QKey×Int))×(List G_QKey))):Env:=[(0,.ptr (0,0) 0 0),(5,.msl (3,0) 3 0 s.2.1.length false),(6,.map (4,0)),(7,.msl (5,0) 3 0 s.1 false)]
def Kb(a1:List G_QKey)(a2:List (G_QKey×(List G_QKey)))(s:(Nat×(List G_QKey)×(List (G_QKey×Int))×(List G_QKey))):AHeap:=[((0,0),.one [.map (0,1),.isl 3 (a1.map z7) false]),((0,1),.amap (a2.map (em za z8))),((3,0),.rows 3 (s.2.1.map z7)),((4,0),.amap (s.2.2.1.map (em za qb))),((5,0),.rows 3 (s.2.2.2.map z7))]
def z0o(a0:G_QKey)(a1:List G_QKey)(a2:List (G_QKey×(List G_QKey)))(o:(List G_QKey)):Exit→Env→AHeap→Nat→Prop:=(qp 0 (Z4 Try.prog Zt 3 Vq (z1z a0 a1 a2 o)))
noncomputable def xg(m:Option Nat)(a1:List G_QKey)(a2:List (G_QKey×(List G_QKey)))(v3:List G_QKey):Option (List G_QKey):=
 (ji m v3).bind fun v6=>
 if v6.length=v3.length then
 some v6
 else none
noncomputable def y8(m:Option Nat)(a1:List G_QKey)(a2:List (G_QKey×(List G_QKey)))(v2:Nat)(v3:List G_QKey)(v4:List (G_QKey×Int))(v5:List G_QKey):Option ((Nat×(List G_QKey)×(List (G_QKey×Int))×(List G_QKey)) ⊕ (List G_QKey)):=
 if(decide (((v2:Nat):Int) > 0))=true then
  if(0:Int)≤(W (((v2:Nat):Int)-1))∧(W (((v2:Nat):Int)-1))<((v2:Nat):Int) then
  if(0+(W (((v2:Nat):Int)-1)).toNat)<v5.length then
  if(0:Int)≤(W (((v2:Nat):Int)-1))∧(W (((v2:Nat):Int)-1))≤((v2:Nat):Int) then
  if(((lk zd v4 (G_QKey.mk ((v5.getD (0+(W (((v2:Nat):Int)-1)).toNat) default).f_Kind) ((v5.getD (0+(W (((v2:Nat):Int)-1)).toNat) default).f_A) ((v5.getD (0+(W (((v2:Nat):Int)-1)).toNat) default).f_B))).getD 0) != 0)=true then
   some (.inl ((W (((v2:Nat):Int)-1)).toNat,v3,v4,v5))
  else
   if((v3++([(G_QKey.mk ((v5.getD (0+(W (((v2:Nat):Int)-1)).toNat) default).f_Kind) ((v5.getD (0+(W (((v2:Nat):Int)-1)).toNat) default).f_A) ((v5.getD (0+(W (((v2:Nat):Int)-1)).toNat) default).f_B))]:List G_QKey)).map z7).length*24≤140737488355328 then
   if 0+(W (((v2:Nat):Int)-1)).toNat≤(v5.map z7).length then
   if(((v5.drop 0).take ((W (((v2:Nat):Int)-1)).toNat)++((lk zd a2 (G_QKey.mk ((v5.getD (0+(W (((v2:Nat):Int)-1)).toNat) default).f_Kind) ((v5.getD (0+(W (((v2:Nat):Int)-1)).toNat) default).f_A) ((v5.getD (0+(W (((v2:Nat):Int)-1)).toNat) default).f_B))).getD [])).map z7).length*24≤140737488355328 then
   some (.inl ((((v5.drop 0).take ((W (((v2:Nat):Int)-1)).toNat)++((lk zd a2 (G_QKey.mk ((v5.getD (0+(W (((v2:Nat):Int)-1)).toNat) default).f_Kind) ((v5.getD (0+(W (((v2:Nat):Int)-1)).toNat) default).f_A) ((v5.getD (0+(W (((v2:Nat):Int)-1)).toNat) default).f_B))).getD [])).map z7).length,(v3++([(G_QKey.mk ((v5.getD (0+(W (((v2:Nat):Int)-1)).toNat) default).f_Kind) ((v5.getD (0+(W (((v2:Nat):Int)-1)).toNat) default).f_A) ((v5.getD (0+(W (((v2:Nat):Int)-1)).toNat) default).f_B))]:List G_QKey)),(mp zd v4 (G_QKey.mk ((v5.getD (0+(W (((v2:Nat):Int)-1)).toNat) default).f_Kind) ((v5.getD (0+(W (((v2:Nat):Int)-1)).toNat) default).f_A) ((v5.getD (0+(W (((v2:Nat):Int)-1)).toNat) default).f_B)) 1),((v5.drop 0).take ((W (((v2:Nat):Int)-1)).toNat)++((lk zd a2 (G_QKey.mk ((v5.getD (0+(W (((v2:Nat):Int)-1)).toNat) default).f_Kind) ((v5.getD (0+(W (((v2:Nat):Int)-1)).toNat) default).f_A) ((v5.getD (0+(W (((v2:Nat):Int)-1)).toNat) default).f_B))).getD []))))
   else none
   else none
   else none
  else none
  else none
  else none
 else
  Option.map Sum.inr (
   xg m a1 a2 v3)
noncomputable def yr(m:Option Nat)(a1:List G_QKey)(a2:List (G_QKey×(List G_QKey)))(v2:Nat)(v3:List G_QKey)(v4:List (G_QKey×Int))(v5:List G_QKey):Option (List G_QKey):=ky m (fun(s:(Nat×(List G_QKey)×(List (G_QKey×Int))×(List G_QKey)))=>y8 m a1 a2 s.1 s.2.1 s.2.2.1 s.2.2.2) (v2,v3,v4,v5)
theorem z78{a0:G_QKey}{a1:List G_QKey}{a2:List (G_QKey×(List G_QKey))}{v3:List G_QKey}{m:Option Nat}{o:(List G_QKey)}(h:xg m a1 a2 v3=some o) :
 LWp Try.prog Zt 3 Vq (z1z a0 a1 a2 o) [(5,.msl (3,0) 3 0 v3.length false)] [((0,0),.one [.map (0,1),.isl 3 (a1.map z7) false]),((0,1),.amap (a2.map (em za z8))),((3,0),.rows 3 (v3.map z7))] 4:=by
 unfold xg at h
 refine zh ?_
 refine zy ?_
 obtain⟨v6,h26,h⟩:=bind_some h
 refine Y8 (k:=3) (m:=0) (L':=[((3,0),.rows 3 (v6.map z7))]) (rest:=[((0,0),.one [.map (0,1),.isl 3 (a1.map z7) false]),((0,1),.amap (a2.map (em za z8)))]) (R':=.tup []) [((0,0),(3,0))] (zkd h26) rfl rfl rfl (And.intro (Vw.mslE rfl (by first|rfl|omega|(simp;done)|(simp only[List.length_map,List.length_replicate,Int.toNat_natCast] at *;omega)) rfl) (And.intro (Vw.same _ rfl) trivial)) (And.intro (h0I (3,0) rfl rfl (BVw.enc z7 (fun _=>rfl) _ v3)) trivial) (ki _ rfl) (And.intro rfl (And.intro (Y4 z7 (fun _=>rfl) _ _) trivial)) rfl ?_
 obtain⟨h27,h⟩:=zu h
 refine zh ?_
 refine zy ?_
 refine ua ?_
 cases h
 exact And.intro trivial (ziz (n':=5) [] [(3,0)] rfl rfl (Vw.frzB z7 Ut (fun h=>h) rfl rfl (by first|rfl|omega|(simp;done)|(simp only[List.length_map,List.length_replicate,Int.toNat_natCast] at *;omega))) (And.intro (And.intro rfl (BVw.oneL (And.intro (Vw.map _ _ rfl) (And.intro (Vw.same _ rfl) trivial)))) (And.intro (And.intro rfl (BVw.ofMap za z8 zb a2)) trivial)))
theorem z3x{a0:G_QKey}{a1:List G_QKey}{a2:List (G_QKey×(List G_QKey))}{v2:Nat}{v3:List G_QKey}{v4:List (G_QKey×Int)}{v5:List G_QKey}{m:Option Nat}{o:(Nat×(List G_QKey)×(List (G_QKey×Int))×(List G_QKey)) ⊕ (List G_QKey)}(h:y8 m a1 a2 v2 v3 v4 v5=some o) :
 LWp Try.prog Zt 3 z21 (vp 3 6 (Vc a1 a2) (Kb a1 a2) (z0o a0 a1 a2) o) [(0,.ptr (0,0) 0 0),(5,.msl (3,0) 3 0 v3.length false),(6,.map (4,0)),(7,.msl (5,0) 3 0 v2 false)] [((0,0),.one [.map (0,1),.isl 3 (a1.map z7) false]),((0,1),.amap (a2.map (em za z8))),((3,0),.rows 3 (v3.map z7)),((4,0),.amap (v4.map (em za qb))),((5,0),.rows 3 (v5.map z7))] 6:=by
 unfold y8 at h
 refine zh ?_
 refine zh ?_
 refine zy ?_
 refine wc (v:=(decide (((v2:Nat):Int) > 0))) rfl trivial (fun h18=>?_) (fun h18=>?_)
 ·have h:=yt h18 h
  refine we ?_
  refine jd ?_
  refine zh ?_
  refine zy ?_
  obtain⟨h19,h⟩:=zu h
  refine And.intro h19 ?_
  show Y2 _ _ _ [(24,.ptr (5,0) (0+(W (((v2:Nat):Int)-1)).toNat) 0),(23,.int .i64 (W (((v2:Nat):Int)-1))),(22,.int .i64 ((v2:Nat):Int)),(21,.msl (5,0) 3 0 v2 false),(20,.msl (5,0) 3 0 v2 false),(19,.bool (decide (((v2:Nat):Int) > 0))),(18,.int .i64 ((v2:Nat):Int)),(17,.msl (5,0) 3 0 v2 false),(0,.ptr (0,0) 0 0),(5,.msl (3,0) 3 0 v3.length false),(6,.map (4,0)),(7,.msl (5,0) 3 0 v2 false)] _ _
  obtain⟨h20,h⟩:=zu h
  refine Exists.intro (z7 (v5.getD (0+(W (((v2:Nat):Int)-1)).toNat) default)) (And.intro (je z7 _ _ h20) (And.intro (And.intro (zgh z7 h20) (Nat.le_of_ble_eq_true rfl)) ?_))
  refine LWp.sim (e:=[(0,.ptr (0,0) 0 0),(5,.msl (3,0) 3 0 v3.length false),(6,.map (4,0)),(7,.msl (5,0) 3 0 v2 false),(8,.ptr (6,0) 0 0)]) (L:=[((0,0),.one [.map (0,1),.isl 3 (a1.map z7) false]),((0,1),.amap (a2.map (em za z8))),((3,0),.rows 3 (v3.map z7)),((4,0),.amap (v4.map (em za qb))),((5,0),.rows 3 (v5.map z7)),((6,0),.one [.int .i64 ((v5.getD (0+(W (((v2:Nat):Int)-1)).toNat) default).f_Kind),.int .i64 ((v5.getD (0+(W (((v2:Nat):Int)-1)).toNat) default).f_A),.int .i64 ((v5.getD (0+(W (((v2:Nat):Int)-1)).toNat) default).f_B)])]) (n:=7) ?_ ?_
  ·exact jw (M:=[((3,0),(3,0)),((4,0),(4,0)),((5,0),(5,0)),((6,0),(6,0))]) rfl (And.intro (Vw.ptr _ _ _ _ rfl) (And.intro (Vw.mslE rfl (by first|rfl|omega|(simp;done)|(simp only[List.length_map,List.length_replicate,Int.toNat_natCast] at *;omega)) rfl) (And.intro (Vw.map _ _ rfl) (And.intro (Vw.msl _ _ _ _ _ _ rfl) (And.intro (Vw.ptr _ _ _ _ rfl) trivial))))) (And.intro (And.intro rfl (BVw.oneL (And.intro (Vw.map _ _ rfl) (And.intro (Vw.same _ rfl) trivial)))) (And.intro (And.intro rfl (BVw.ofMap za z8 zb a2)) (And.intro (And.intro rfl (BVw.enc z7 (fun _=>rfl) _ v3)) (And.intro (And.intro rfl (BVw.ofMap za qb y7 v4)) (And.intro (And.intro rfl (BVw.enc z7 (fun _=>rfl) _ v5)) (And.intro (And.intro rfl (BVw.oneL (And.intro (Vw.same _ rfl) (And.intro (Vw.same _ rfl) (And.intro (Vw.same _ rfl) trivial))))) trivial))))))
  refine zh ?_
  refine zy ?_
  obtain⟨h21,h⟩:=zu h
  refine Exists.intro (.msl (5,0) 3 0 ((W (((v2:Nat):Int)-1)).toNat) false) (And.intro (by simp) (And.intro (And.intro rfl (And.intro (Int.le_refl _) h21)) ?_))
  refine zh ?_
  refine zh ?_
  refine zy ?_
  refine Exists.intro (.int .i64 ((lk zd v4 (G_QKey.mk ((v5.getD (0+(W (((v2:Nat):Int)-1)).toNat) default).f_Kind) ((v5.getD (0+(W (((v2:Nat):Int)-1)).toNat) default).f_A) ((v5.getD (0+(W (((v2:Nat):Int)-1)).toNat) default).f_B))).getD 0)) (And.intro (V1 (ek:=za) (ev:=qb) (z:=0) xf rfl (G_QKey.mk ((v5.getD (0+(W (((v2:Nat):Int)-1)).toNat) default).f_Kind) ((v5.getD (0+(W (((v2:Nat):Int)-1)).toNat) default).f_A) ((v5.getD (0+(W (((v2:Nat):Int)-1)).toNat) default).f_B)) v4) (And.intro (u7 (ek:=za) (ev:=qb) xf _ _) ?_))
  refine LWp.sim (e:=[(0,.ptr (0,0) 0 0),(5,.msl (3,0) 3 0 v3.length false),(6,.map (4,0)),(7,.msl (5,0) 3 0 ((W (((v2:Nat):Int)-1)).toNat) false),(8,.ptr (6,0) 0 0),(34,.bool (((lk zd v4 (G_QKey.mk ((v5.getD (0+(W (((v2:Nat):Int)-1)).toNat) default).f_Kind) ((v5.getD (0+(W (((v2:Nat):Int)-1)).toNat) default).f_A) ((v5.getD (0+(W (((v2:Nat):Int)-1)).toNat) default).f_B))).getD 0) != 0))]) (L:=[((0,0),.one [.map (0,1),.isl 3 (a1.map z7) false]),((0,1),.amap (a2.map (em za z8))),((3,0),.rows 3 (v3.map z7)),((4,0),.amap (v4.map (em za qb))),((5,0),.rows 3 (v5.map z7)),((6,0),.one [.int .i64 ((v5.getD (0+(W (((v2:Nat):Int)-1)).toNat) default).f_Kind),.int .i64 ((v5.getD (0+(W (((v2:Nat):Int)-1)).toNat) default).f_A),.int .i64 ((v5.getD (0+(W (((v2:Nat):Int)-1)).toNat) default).f_B)])]) (n:=7) ?_ ?_
  ·exact jw (M:=[((3,0),(3,0)),((4,0),(4,0)),((5,0),(5,0)),((6,0),(6,0))]) rfl (And.intro (Vw.ptr _ _ _ _ rfl) (And.intro (Vw.mslE rfl (by first|rfl|omega|(simp;done)|(simp only[List.length_map,List.length_replicate,Int.toNat_natCast] at *;omega)) rfl) (And.intro (Vw.map _ _ rfl) (And.intro (Vw.msl _ _ _ _ _ _ rfl) (And.intro (Vw.ptr _ _ _ _ rfl) (And.intro (Vw.same _ rfl) trivial)))))) (And.intro (And.intro rfl (BVw.oneL (And.intro (Vw.map _ _ rfl) (And.intro (Vw.same _ rfl) trivial)))) (And.intro (And.intro rfl (BVw.ofMap za z8 zb a2)) (And.intro (And.intro rfl (BVw.enc z7 (fun _=>rfl) _ v3)) (And.intro (And.intro rfl (BVw.ofMap za qb y7 v4)) (And.intro (And.intro rfl (BVw.enc z7 (fun _=>rfl) _ v5)) (And.intro (And.intro rfl (BVw.oneL (And.intro (Vw.same _ rfl) (And.intro (Vw.same _ rfl) (And.intro (Vw.same _ rfl) trivial))))) trivial))))))
  refine wc (v:=(((lk zd v4 (G_QKey.mk ((v5.getD (0+(W (((v2:Nat):Int)-1)).toNat) default).f_Kind) ((v5.getD (0+(W (((v2:Nat):Int)-1)).toNat) default).f_A) ((v5.getD (0+(W (((v2:Nat):Int)-1)).toNat) default).f_B))).getD 0) != 0)) rfl trivial (fun h22=>?_) (fun h22=>?_)
  ·have h:=yt h22 h
   refine Z7 ?_
   cases h
   exact And.intro rfl (jw (M:=[((3,0),(3,0)),((4,0),(4,0)),((5,0),(5,0))]) rfl (And.intro (Vw.ptr _ _ _ _ rfl) (And.intro (Vw.mslE rfl (by first|rfl|omega|(simp;done)|(simp only[List.length_map,List.length_replicate,Int.toNat_natCast] at *;omega)) rfl) (And.intro (Vw.map _ _ rfl) (And.intro (Vw.msl _ _ _ _ _ _ rfl) trivial)))) (And.intro (And.intro rfl (BVw.oneL (And.intro (Vw.map _ _ rfl) (And.intro (Vw.same _ rfl) trivial)))) (And.intro (And.intro rfl (BVw.ofMap za z8 zb a2)) (And.intro (And.intro rfl (BVw.enc z7 (fun _=>rfl) _ v3)) (And.intro (And.intro rfl (BVw.ofMap za qb y7 v4)) (And.intro (And.intro rfl (BVw.enc z7 (fun _=>rfl) _ v5)) trivial))))))
  ·have h:=qy h22 h
   refine we ?_
   refine zh ?_
   refine zy ?_
   refine Exists.intro ((mp zd v4 (G_QKey.mk ((v5.getD (0+(W (((v2:Nat):Int)-1)).toNat) default).f_Kind) ((v5.getD (0+(W (((v2:Nat):Int)-1)).toNat) default).f_A) ((v5.getD (0+(W (((v2:Nat):Int)-1)).toNat) default).f_B)) 1).map (em za qb)) (And.intro (Vu (ek:=za) (ev:=qb) xf (G_QKey.mk ((v5.getD (0+(W (((v2:Nat):Int)-1)).toNat) default).f_Kind) ((v5.getD (0+(W (((v2:Nat):Int)-1)).toNat) default).f_A) ((v5.getD (0+(W (((v2:Nat):Int)-1)).toNat) default).f_B)) 1 v4) ?_)
   refine zh ?_
   refine zy ?_
   obtain⟨h23,h⟩:=zu h
   refine And.intro (fun h=>Bool.noConfusion h) (And.intro (zu1 z7 (by first|rfl|omega|(simp;done)|(simp only[List.length_map,List.length_replicate,Int.toNat_natCast] at *;omega))) (Exists.intro ((v3++([(G_QKey.mk ((v5.getD (0+(W (((v2:Nat):Int)-1)).toNat) default).f_Kind) ((v5.getD (0+(W (((v2:Nat):Int)-1)).toNat) default).f_A) ((v5.getD (0+(W (((v2:Nat):Int)-1)).toNat) default).f_B))]:List G_QKey)).map z7) (And.intro (zuf z7 v3 ([(G_QKey.mk ((v5.getD (0+(W (((v2:Nat):Int)-1)).toNat) default).f_Kind) ((v5.getD (0+(W (((v2:Nat):Int)-1)).toNat) default).f_A) ((v5.getD (0+(W (((v2:Nat):Int)-1)).toNat) default).f_B))]:List G_QKey) (by first|rfl|omega|(simp;done)|(simp only[List.length_map,List.length_replicate,Int.toNat_natCast] at *;omega))) (And.intro h23 ?_))))
   refine LWp.sim (e:=[(0,.ptr (0,0) 0 0),(5,.msl (3,0) 3 0 (((v3++([(G_QKey.mk ((v5.getD (0+(W (((v2:Nat):Int)-1)).toNat) default).f_Kind) ((v5.getD (0+(W (((v2:Nat):Int)-1)).toNat) default).f_A) ((v5.getD (0+(W (((v2:Nat):Int)-1)).toNat) default).f_B))]:List G_QKey)).map z7).length) false),(6,.map (4,0)),(7,.msl (5,0) 3 0 ((W (((v2:Nat):Int)-1)).toNat) false),(8,.ptr (6,0) 0 0)]) (L:=[((0,0),.one [.map (0,1),.isl 3 (a1.map z7) false]),((0,1),.amap (a2.map (em za z8))),((3,0),.rows 3 ((v3++([(G_QKey.mk ((v5.getD (0+(W (((v2:Nat):Int)-1)).toNat) default).f_Kind) ((v5.getD (0+(W (((v2:Nat):Int)-1)).toNat) default).f_A) ((v5.getD (0+(W (((v2:Nat):Int)-1)).toNat) default).f_B))]:List G_QKey)).map z7)),((4,0),.amap ((mp zd v4 (G_QKey.mk ((v5.getD (0+(W (((v2:Nat):Int)-1)).toNat) default).f_Kind) ((v5.getD (0+(W (((v2:Nat):Int)-1)).toNat) default).f_A) ((v5.getD (0+(W (((v2:Nat):Int)-1)).toNat) default).f_B)) 1).map (em za qb))),((5,0),.rows 3 (v5.map z7)),((6,0),.one [.int .i64 ((v5.getD (0+(W (((v2:Nat):Int)-1)).toNat) default).f_Kind),.int .i64 ((v5.getD (0+(W (((v2:Nat):Int)-1)).toNat) default).f_A),.int .i64 ((v5.getD (0+(W (((v2:Nat):Int)-1)).toNat) default).f_B)])]) (n:=7) ?_ ?_
   ·exact jw (M:=[((3,0),(7,0)),((4,0),(4,0)),((5,0),(5,0)),((6,0),(6,0))]) rfl (And.intro (Vw.ptr _ _ _ _ rfl) (And.intro (Vw.mslE rfl (by first|rfl|omega|(simp;done)|(simp only[List.length_map,List.length_replicate,Int.toNat_natCast] at *;omega)) rfl) (And.intro (Vw.map _ _ rfl) (And.intro (Vw.msl _ _ _ _ _ _ rfl) (And.intro (Vw.ptr _ _ _ _ rfl) trivial))))) (And.intro (And.intro rfl (BVw.oneL (And.intro (Vw.map _ _ rfl) (And.intro (Vw.same _ rfl) trivial)))) (And.intro (And.intro rfl (BVw.ofMap za z8 zb a2)) (And.intro (And.intro rfl (BVw.enc z7 (fun _=>rfl) _ (v3++([(G_QKey.mk ((v5.getD (0+(W (((v2:Nat):Int)-1)).toNat) default).f_Kind) ((v5.getD (0+(W (((v2:Nat):Int)-1)).toNat) default).f_A) ((v5.getD (0+(W (((v2:Nat):Int)-1)).toNat) default).f_B))]:List G_QKey)))) (And.intro (And.intro rfl (BVw.ofMap za qb y7 (mp zd v4 (G_QKey.mk ((v5.getD (0+(W (((v2:Nat):Int)-1)).toNat) default).f_Kind) ((v5.getD (0+(W (((v2:Nat):Int)-1)).toNat) default).f_A) ((v5.getD (0+(W (((v2:Nat):Int)-1)).toNat) default).f_B)) 1))) (And.intro (And.intro rfl (BVw.enc z7 (fun _=>rfl) _ v5)) (And.intro (And.intro rfl (BVw.oneL (And.intro (Vw.same _ rfl) (And.intro (Vw.same _ rfl) (And.intro (Vw.same _ rfl) trivial))))) trivial))))))
   refine z04 rfl ?_
   refine Exists.intro (.isl 3 (((lk zd a2 (G_QKey.mk ((v5.getD (0+(W (((v2:Nat):Int)-1)).toNat) default).f_Kind) ((v5.getD (0+(W (((v2:Nat):Int)-1)).toNat) default).f_A) ((v5.getD (0+(W (((v2:Nat):Int)-1)).toNat) default).f_B))).getD []).map z7) false) (And.intro (V1 (ek:=za) (ev:=z8) (z:=[]) xf rfl (G_QKey.mk ((v5.getD (0+(W (((v2:Nat):Int)-1)).toNat) default).f_Kind) ((v5.getD (0+(W (((v2:Nat):Int)-1)).toNat) default).f_A) ((v5.getD (0+(W (((v2:Nat):Int)-1)).toNat) default).f_B)) a2) (And.intro (u7 (ek:=za) (ev:=z8) xf _ _) ?_))
   obtain⟨h24,h⟩:=zu h
   obtain⟨h25,h⟩:=zu h
   refine And.intro (fun h=>Bool.noConfusion h) (And.intro h24 (Exists.intro (((v5.drop 0).take ((W (((v2:Nat):Int)-1)).toNat)++((lk zd a2 (G_QKey.mk ((v5.getD (0+(W (((v2:Nat):Int)-1)).toNat) default).f_Kind) ((v5.getD (0+(W (((v2:Nat):Int)-1)).toNat) default).f_A) ((v5.getD (0+(W (((v2:Nat):Int)-1)).toNat) default).f_B))).getD [])).map z7) (And.intro (zu4 z7 v5 ((lk zd a2 (G_QKey.mk ((v5.getD (0+(W (((v2:Nat):Int)-1)).toNat) default).f_Kind) ((v5.getD (0+(W (((v2:Nat):Int)-1)).toNat) default).f_A) ((v5.getD (0+(W (((v2:Nat):Int)-1)).toNat) default).f_B))).getD []) _ _) (And.intro h25 ?_))))
   cases h
   exact And.intro rfl (jw (M:=[((3,0),(3,0)),((4,0),(4,0)),((5,0),(7,0))]) rfl (And.intro (Vw.ptr _ _ _ _ rfl) (And.intro (Vw.mslE rfl (by first|rfl|omega|(simp;done)|(simp only[List.length_map,List.length_replicate,Int.toNat_natCast] at *;omega)) rfl) (And.intro (Vw.map _ _ rfl) (And.intro (Vw.mslE rfl (by first|rfl|omega|(simp;done)|(simp only[List.length_map,List.length_replicate,Int.toNat_natCast] at *;omega)) rfl) trivial)))) (And.intro (And.intro rfl (BVw.oneL (And.intro (Vw.map _ _ rfl) (And.intro (Vw.same _ rfl) trivial)))) (And.intro (And.intro rfl (BVw.ofMap za z8 zb a2)) (And.intro (And.intro rfl (BVw.enc z7 (fun _=>rfl) _ (v3++([(G_QKey.mk ((v5.getD (0+(W (((v2:Nat):Int)-1)).toNat) default).f_Kind) ((v5.getD (0+(W (((v2:Nat):Int)-1)).toNat) default).f_A) ((v5.getD (0+(W (((v2:Nat):Int)-1)).toNat) default).f_B))]:List G_QKey)))) (And.intro (And.intro rfl (BVw.ofMap za qb y7 (mp zd v4 (G_QKey.mk ((v5.getD (0+(W (((v2:Nat):Int)-1)).toNat) default).f_Kind) ((v5.getD (0+(W (((v2:Nat):Int)-1)).toNat) default).f_A) ((v5.getD (0+(W (((v2:Nat):Int)-1)).toNat) default).f_B)) 1))) (And.intro (And.intro rfl (BVw.enc z7 (fun _=>rfl) _ ((v5.drop 0).take ((W (((v2:Nat):Int)-1)).toNat)++((lk zd a2 (G_QKey.mk ((v5.getD (0+(W (((v2:Nat):Int)-1)).toNat) default).f_Kind) ((v5.getD (0+(W (((v2:Nat):Int)-1)).toNat) default).f_A) ((v5.getD (0+(W (((v2:Nat):Int)-1)).toNat) default).f_B))).getD [])))) trivial))))))
 ·have h:=qy h18 h
  refine Z7 ?_
  obtain⟨o,hq,rfl⟩:=Option.map_eq_some_iff.1 h
  replace h:=hq;clear hq
  refine And.intro nofun ?_
  refine LWp.sim ?_ (z78 h)
  exact jw (M:=[((3,0),(3,0))]) rfl (And.intro (Vw.mslE rfl (by first|rfl|omega|(simp;done)|(simp only[List.length_map,List.length_replicate,Int.toNat_natCast] at *;omega)) rfl) trivial) (And.intro (And.intro rfl (BVw.oneL (And.intro (Vw.map _ _ rfl) (And.intro (Vw.same _ rfl) trivial)))) (And.intro (And.intro rfl (BVw.ofMap za z8 zb a2)) (And.intro (And.intro rfl (BVw.enc z7 (fun _=>rfl) _ v3)) trivial)))
theorem z7v{a0:G_QKey}{a1:List G_QKey}{a2:List (G_QKey×(List G_QKey))}{v2:Nat}{v3:List G_QKey}{v4:List (G_QKey×Int)}{v5:List G_QKey}{m:Option Nat}{o:(List G_QKey)}(h:yr m a1 a2 v2 v3 v4 v5=some o) :
 LWp Try.prog Zt 3 (.loop z21) (qp 0 (Z4 Try.prog Zt 3 Vq (z1z a0 a1 a2 o))) [(0,.ptr (0,0) 0 0),(5,.msl (3,0) 3 0 v3.length false),(6,.map (4,0)),(7,.msl (5,0) 3 0 v2 false)] [((0,0),.one [.map (0,1),.isl 3 (a1.map z7) false]),((0,1),.amap (a2.map (em za z8))),((3,0),.rows 3 (v3.map z7)),((4,0),.amap (v4.map (em za qb))),((5,0),.rows 3 (v5.map z7))] 6:=
 j7 (m:=m) (s:=((v2,v3,v4,v5):(Nat×(List G_QKey)×(List (G_QKey×Int))×(List G_QKey)))) (r:=o) (fun(s:(Nat×(List G_QKey)×(List (G_QKey×Int))×(List G_QKey)))=>y8 m a1 a2 s.1 s.2.1 s.2.2.1 s.2.2.2) (Vc a1 a2) (Kb a1 a2) (z0o a0 a1 a2) (fun s o h=>z3x h) h
noncomputable def zp(m:Option Nat)(a0:G_QKey)(a1:List G_QKey)(a2:List (G_QKey×(List G_QKey))):Option (List G_QKey):=
 (vj m ((lk zd a2 a0).getD [])).bind fun v1=>
 yr m a1 a2 v1.length ([]:List G_QKey) ([]:List (G_QKey×Int)) v1
theorem z88{a0:G_QKey}{a1:List G_QKey}{a2:List (G_QKey×(List G_QKey))}{m:Option Nat}{o:(List G_QKey)}(h:zp m a0 a1 a2=some o):LWp Try.prog Zt 3 z8h (z1z a0 a1 a2 o) (yy 0 [.ptr (0,0) 0 0,.agg [.int .i64 a0.f_Kind,.int .i64 a0.f_A,.int .i64 a0.f_B]]) [((0,0),.one [.map (0,1),.isl 3 (a1.map z7) false]),((0,1),.amap (a2.map (em za z8)))] 3:=by
 unfold zp at h
 refine zh ?_
 refine LWp.ghost 3 ?_
 refine zy ?_
 refine LWp.sim (e:=[(0,.ptr (0,0) 0 0),(3,.ptr (3,0) 0 0)]) (L:=[((0,0),.one [.map (0,1),.isl 3 (a1.map z7) false]),((0,1),.amap (a2.map (em za z8))),((3,0),.one [.int .i64 a0.f_Kind,.int .i64 a0.f_A,.int .i64 a0.f_B])]) (n:=4) ?_ ?_
 ·exact jw (M:=[((3,0),(4,0))]) rfl (And.intro (Vw.ptr _ _ _ _ rfl) (And.intro (Vw.ptr _ _ _ _ rfl) trivial)) (And.intro (And.intro rfl (BVw.oneL (And.intro (Vw.map _ _ rfl) (And.intro (Vw.same _ rfl) trivial)))) (And.intro (And.intro rfl (BVw.ofMap za z8 zb a2)) (And.intro (And.intro rfl (BVw.oneL (And.intro (Vw.same _ rfl) (And.intro (Vw.same _ rfl) (And.intro (Vw.same _ rfl) trivial))))) trivial)))
 refine zh ?_
 refine LWp.ghost 3 ?_
 refine zy ?_
 refine LWp.sim (e:=[(0,.ptr (0,0) 0 0),(3,.ptr (3,0) 0 0),(5,.msl (4,0) 3 0 (([]:List G_QKey).length) false)]) (L:=[((0,0),.one [.map (0,1),.isl 3 (a1.map z7) false]),((0,1),.amap (a2.map (em za z8))),((3,0),.one [.int .i64 a0.f_Kind,.int .i64 a0.f_A,.int .i64 a0.f_B]),((4,0),.rows 3 (([]:List G_QKey).map z7))]) (n:=5) ?_ ?_
 ·exact jw (M:=[((3,0),(3,0)),((4,0),(4,0))]) rfl (And.intro (Vw.ptr _ _ _ _ rfl) (And.intro (Vw.ptr _ _ _ _ rfl) (And.intro (Vw.nilM _ _ _ _ _ _ rfl rfl) trivial))) (And.intro (And.intro rfl (BVw.oneL (And.intro (Vw.map _ _ rfl) (And.intro (Vw.same _ rfl) trivial)))) (And.intro (And.intro rfl (BVw.ofMap za z8 zb a2)) (And.intro (And.intro rfl (BVw.oneL (And.intro (Vw.same _ rfl) (And.intro (Vw.same _ rfl) (And.intro (Vw.same _ rfl) trivial))))) (And.intro (And.intro rfl (BVw.enc z7 (fun _=>rfl) _ ([]:List G_QKey))) trivial))))
 refine zh ?_
 refine zy ?_
 refine zh ?_
 refine z04 rfl ?_
 refine Exists.intro (.isl 3 (((lk zd a2 a0).getD []).map z7) false) (And.intro (V1 (ek:=za) (ev:=z8) (z:=[]) xf rfl a0 a2) (And.intro (u7 (ek:=za) (ev:=z8) xf _ _) ?_))
 obtain⟨v1,h1,h⟩:=bind_some h
 refine Y8 (k:=3) (m:=1) (L':=[((6,0),.rows 3 (v1.map z7))]) (rest:=[((5,0),.amap (([]:List (G_QKey×Int)).map (em za qb))),((0,0),.one [.map (0,1),.isl 3 (a1.map z7) false]),((0,1),.amap (a2.map (em za z8))),((3,0),.one [.int .i64 a0.f_Kind,.int .i64 a0.f_A,.int .i64 a0.f_B]),((4,0),.rows 3 (([]:List G_QKey).map z7))]) (R':=.msl (6,0) 3 0 v1.length false) [] (zjz h1) rfl rfl rfl (And.intro (Vw.same _ rfl) trivial) trivial rfl (And.intro rfl (And.intro (Y4 z7 (fun _=>rfl) _ _) trivial)) rfl ?_
 show Y2 _ _ _ [(16,.msl (6,0) 3 0 v1.length false),(15,.isl 3 (((lk zd a2 a0).getD []).map z7) false),(14,.agg [.int .i64 a0.f_Kind,.int .i64 a0.f_A,.int .i64 a0.f_B]),(13,.map (0,1)),(12,.ptr (0,0) 0 0),(11,.ptr (0,0) 0 0),(10,.ptr (0,0) 0 0),(6,.map (5,0)),(9,.map (5,0)),(0,.ptr (0,0) 0 0),(3,.ptr (3,0) 0 0),(5,.msl (4,0) 3 0 (([]:List G_QKey).length) false)] _ _
 refine LWp.sim (e:=[(0,.ptr (0,0) 0 0),(5,.msl (3,0) 3 0 (([]:List G_QKey).length) false),(6,.map (4,0)),(7,.msl (5,0) 3 0 v1.length false)]) (L:=[((0,0),.one [.map (0,1),.isl 3 (a1.map z7) false]),((0,1),.amap (a2.map (em za z8))),((3,0),.rows 3 (([]:List G_QKey).map z7)),((4,0),.amap (([]:List (G_QKey×Int)).map (em za qb))),((5,0),.rows 3 (v1.map z7))]) (n:=6) ?_ ?_
 ·exact jw (M:=[((3,0),(4,0)),((4,0),(5,0)),((5,0),(6,0))]) rfl (And.intro (Vw.ptr _ _ _ _ rfl) (And.intro (Vw.mslE rfl (by first|rfl|omega|(simp;done)|(simp only[List.length_map,List.length_replicate,Int.toNat_natCast] at *;omega)) rfl) (And.intro (Vw.map _ _ rfl) (And.intro (Vw.mslE rfl (by first|rfl|omega|(simp;done)|(simp only[List.length_map,List.length_replicate,Int.toNat_natCast] at *;omega)) rfl) trivial)))) (And.intro (And.intro rfl (BVw.oneL (And.intro (Vw.map _ _ rfl) (And.intro (Vw.same _ rfl) trivial)))) (And.intro (And.intro rfl (BVw.ofMap za z8 zb a2)) (And.intro (And.intro rfl (BVw.enc z7 (fun _=>rfl) _ ([]:List G_QKey))) (And.intro (And.intro rfl (BVw.ofMap za qb y7 ([]:List (G_QKey×Int)))) (And.intro (And.intro rfl (BVw.enc z7 (fun _=>rfl) _ v1)) trivial)))))
 refine zh ?_
 refine jd ?_
 refine LWp.sim ?_ (z7v h)
 exact jw (M:=[((3,0),(3,0)),((4,0),(4,0)),((5,0),(5,0))]) rfl (And.intro (Vw.ptr _ _ _ _ rfl) (And.intro (Vw.mslE rfl (by first|rfl|omega|(simp;done)|(simp only[List.length_map,List.length_replicate,Int.toNat_natCast] at *;omega)) rfl) (And.intro (Vw.map _ _ rfl) (And.intro (Vw.mslE rfl (by first|rfl|omega|(simp;done)|(simp only[List.length_map,List.length_replicate,Int.toNat_natCast] at *;omega)) rfl) trivial)))) (And.intro (And.intro rfl (BVw.oneL (And.intro (Vw.map _ _ rfl) (And.intro (Vw.same _ rfl) trivial)))) (And.intro (And.intro rfl (BVw.ofMap za z8 zb a2)) (And.intro (And.intro rfl (BVw.enc z7 (fun _=>rfl) _ ([]:List G_QKey))) (And.intro (And.intro rfl (BVw.ofMap za qb y7 ([]:List (G_QKey×Int)))) (And.intro (And.intro rfl (BVw.enc z7 (fun _=>rfl) _ v1)) trivial)))))
theorem z32{a0:G_QKey}{a1:List G_QKey}{a2:List (G_QKey×(List G_QKey))}{m:Option Nat}{o:(List G_QKey)}(h:zp m a0 a1 a2=some o):ACalls Try.prog 22 [.ptr (0,0) 0 0,.agg [.int .i64 a0.f_Kind,.int .i64 a0.f_A,.int .i64 a0.f_B]] [((0,0),.one [.map (0,1),.isl 3 (a1.map z7) false]),((0,1),.amap (a2.map (em za z8)))] 3 (ub 3 (.isl 3 (o.map z7) false) [((0,0),.one [.map (0,1),.isl 3 (a1.map z7) false]),((0,1),.amap (a2.map (em za z8)))]):=Yf (L:=zhr) zg3 zei (Nat.le_of_ble_eq_true rfl) (z88 h)
def zq9:LCode:=(.seq (.region [⟨some 3,.box (.t 1),none⟩,
 ⟨some 4,.mv (.c (.val (.slice none 0 0))),none⟩])
 (.seq (.draw [⟨⟨some 5,.mv (.t 0),none⟩,[]⟩,
  ⟨⟨some 7,.load true 3 (.t 3),none⟩,[]⟩,
  ⟨⟨some 6,.call 21 [(.t 5),(.c (.bool false))],none⟩,[1]⟩,
  ⟨⟨some 8,.call 22 [(.t 6),(.t 7)],none⟩,[]⟩,
  ⟨⟨some 4,.mv (.t 8),none⟩,[]⟩])
 .ret))
def zmk:Lay:=⟨9,[],false⟩
def zmw:List LRes:=[.t 4]
def ztq:LFn:=⟨2,zmk,zq9,zmw⟩
theorem zqk:vi Try.prog [] 9=some ztq:=by kernel_rfl
theorem zrs:Z6 Try.prog 9:=⟨_,Try.func9,rfl,rfl⟩
noncomputable def xb(m:Option Nat)(a0:List G_QEdge)(a1:G_QKey):Option (List G_QKey):=
 (qq m a0 false).bind fun v1=>
 (zp m a1 v1.1 v1.2).bind fun v2=>
 some v2
def zu0(a0:List G_QEdge)(a1:G_QKey)(o:(List G_QKey)):Exit→Env→AHeap→Nat→Prop:=Yb zmw (wa (.isl 3 (o.map z7) false))
theorem zln{a0:List G_QEdge}{a1:G_QKey}{m:Option Nat}{o:(List G_QKey)}(h:xb m a0 a1=some o):LWp Try.prog zmk 0 zq9 (zu0 a0 a1 o) (yy 0 [.isl 6 (a0.map z6) false,.agg [.int .i64 a1.f_Kind,.int .i64 a1.f_A,.int .i64 a1.f_B]]) [] 0:=by
 unfold xb at h
 refine zh ?_
 refine zy ?_
 refine zh ?_
 refine Vd ?_
 obtain⟨v1,h1,h⟩:=bind_some h
 refine Y8 (k:=3) (m:=4) (L':=[((1,0),.one [.map (2,0),.isl 3 (v1.1.map z7) false]),((2,0),.amap (v1.2.map (em za z8)))]) (rest:=[((0,0),.one [.int .i64 a1.f_Kind,.int .i64 a1.f_A,.int .i64 a1.f_B])]) (R':=.ptr (1,0) 0 0) [] (Vs h1) rfl rfl rfl (And.intro (Vw.same _ rfl) (And.intro (Vw.same _ rfl) trivial)) trivial rfl (And.intro rfl (And.intro rfl (And.intro rfl (And.intro (ve za z8 qu zb _) trivial)))) rfl ?_
 refine And.intro rfl ?_
 obtain⟨v2,h2,h⟩:=bind_some h
 refine Y8 (k:=3) (m:=0) (L':=[((1,0),.one [.map (2,0),.isl 3 (v1.1.map z7) false]),((2,0),.amap (v1.2.map (em za z8)))]) (rest:=[((0,0),.one [.int .i64 a1.f_Kind,.int .i64 a1.f_A,.int .i64 a1.f_B])]) (R':=.isl 3 (v2.map z7) false) [((0,0),(1,0)),((0,1),(2,0))] (z32 h2) rfl rfl rfl (And.intro (Vw.ptr _ _ _ _ rfl) (And.intro (Vw.same _ rfl) trivial)) (And.intro (h0I (1,0) rfl rfl (BVw.oneL (And.intro (Vw.map _ _ rfl) (And.intro (Vw.same _ rfl) trivial)))) (And.intro (h0I (2,0) rfl rfl (BVw.ofMap za z8 zb v1.2)) trivial)) (ki _ rfl) (And.intro rfl (And.intro rfl (And.intro rfl (And.intro (ve za z8 qu zb _) trivial)))) rfl ?_
 show yd _ _ _ _ _ [(8,.isl 3 (v2.map z7) false),(6,.ptr (1,0) 0 0),(7,.agg [.int .i64 a1.f_Kind,.int .i64 a1.f_A,.int .i64 a1.f_B]),(5,.isl 6 (a0.map z6) false),(4,.val (.slice none 0 0)),(3,.ptr (0,0) 0 0),(0,.isl 6 (a0.map z6) false),(1,.agg [.int .i64 a1.f_Kind,.int .i64 a1.f_A,.int .i64 a1.f_B])] _ _
 refine ua ?_
 cases h
 exact And.intro trivial (And.intro rfl (Vw.same _ rfl))
theorem zt7{a0:List G_QEdge}{a1:G_QKey}{m:Option Nat}{o:(List G_QKey)}(h:xb m a0 a1=some o):PFn Try.prog 9 [.isl 6 (a0.map z6) false,.agg [.int .i64 a1.f_Kind,.int .i64 a1.f_A,.int .i64 a1.f_B]] (.isl 3 (o.map z7) false):=PFn.ofFnW (L:=ztq) zqk zrs (Nat.le_of_ble_eq_true rfl) rfl (zln h)
def zo0:LCode:=(.seq (.region [⟨some 15,.bin .lss (.t 14) (.t 13),none⟩])
 (.seq (.cond (.t 15)
  .skip
  (.exit 0))
 (.seq (.block 1
  (.seq (.region [⟨some 16,.mv (.t 14),none⟩,
   ⟨some 17,.iaddr 3 (.t 12) (.t 14),none⟩,
   ⟨some 18,.load true 3 (.t 17),none⟩,
   ⟨some 6,.alloc [(.int .i64 0),(.int .i64 0),(.int .i64 0)],none⟩,
   ⟨some 5,.mv (.t 16),none⟩,
   ⟨none,.store 3 (.t 6) (.t 18),none⟩])
  (.seq (.quiet [⟨some 19,.load true 3 (.t 6),none⟩,
   ⟨some 20,.mv (.t 1),none⟩,
   ⟨some 21,.mv (.t 5),none⟩,
   ⟨some 22,.iaddr 3 (.t 20) (.t 21),none⟩,
   ⟨some 23,.load true 3 (.t 22),none⟩,
   ⟨some 24,.eq true (.agg [.int,.int,.int]) (.t 19) (.t 23),none⟩])
  (.cond (.t 24)
   (.seq (.region [⟨some 4,.mv (.c (.bool false)),none⟩])
   .ret)
   .skip))))
 (.region [⟨some 25,.bin .add (.t 14) (.c (.int .i64 1)),none⟩,
  ⟨some 14,.mv (.t 25),none⟩]))))
def zkl:LCode:=(.seq (.region [⟨some 4,.mv (.c (.bool true)),none⟩])
 .ret)
def zro:LCode:=(.seq (.region [⟨some 4,.mv (.c (.bool false)),none⟩])
 (.seq (.seq (.region [⟨some 7,.mv (.t 0),none⟩,
  ⟨some 8,.len false (.t 7),none⟩,
  ⟨some 9,.mv (.t 1),none⟩,
  ⟨some 10,.len false (.t 9),none⟩,
  ⟨some 11,.bin .neq (.t 8) (.t 10),none⟩])
 (.cond (.t 11)
  (.seq (.region [⟨some 4,.mv (.c (.bool false)),none⟩])
  .ret)
  .skip))
 (.seq (.seq (.region [⟨some 12,.mv (.t 0),none⟩,
  ⟨some 13,.len false (.t 12),none⟩,
  ⟨some 14,.mv (.c (.int .i64 0)),none⟩])
 (.block 0
  (.loop
   zo0)))
 zkl)))
def Uc:Lay:=⟨26,[],false⟩
def zm1:List LRes:=[.t 4]
def zts:LFn:=⟨2,Uc,zro,zm1⟩
theorem zrz:vi Try.prog [] 8=some zts:=by kernel_rfl
theorem zqd:Z6 Try.prog 8:=⟨_,Try.func8,rfl,rfl⟩
def zsm(a0:List G_QKey)(a1:List G_QKey)(o:Bool):Exit→Env→AHeap→Nat→Prop:=Yb zm1 (wa (.bool o))
def z5g(a0:List G_QKey)(a1:List G_QKey)(s:Int):Env:=[(1,.isl 3 (a1.map z7) false),(12,.isl 3 (a0.map z7) false),(13,.int .i64 ((a0.map z7).length:Int)),(14,.int .i64 s)]
def z9z(a0:List G_QKey)(a1:List G_QKey)(s:Int):AHeap:=[]
def zfc(a0:List G_QKey)(a1:List G_QKey)(o:Bool):Exit→Env→AHeap→Nat→Prop:=(qp 0 (Z4 Try.prog Uc 0 zkl (zsm a0 a1 o)))
noncomputable def xw(m:Option Nat):Option Bool:=
 some true
noncomputable def ym(m:Option Nat)(a0:List G_QKey)(a1:List G_QKey)(v1:Int):Option (Int ⊕ Bool):=
 if(decide (v1<((a0.map z7).length:Int)))=true then
  if(0:Int)≤v1∧v1<((a0.map z7).length:Int) then
  if(0:Int)≤v1∧v1<((a1.map z7).length:Int) then
  if(!(((a0.getD v1.toNat default).f_Kind==(a1.getD v1.toNat default).f_Kind)&&(((a0.getD v1.toNat default).f_A==(a1.getD v1.toNat default).f_A)&&(((a0.getD v1.toNat default).f_B==(a1.getD v1.toNat default).f_B)&&true))))=true then
   Option.map Sum.inr (
    some false)
  else
   some (.inl (W (v1+1)))
  else none
  else none
 else
  Option.map Sum.inr (
   xw m)
noncomputable def ql(m:Option Nat)(a0:List G_QKey)(a1:List G_QKey)(v1:Int):Option Bool:=ky m (fun(s:Int)=>ym m a0 a1 s) v1
theorem zk7{a0:List G_QKey}{a1:List G_QKey}{m:Option Nat}{o:Bool}(h:xw m=some o) :
 LWp Try.prog Uc 0 zkl (zsm a0 a1 o) [] [] 0:=by
 unfold xw at h
 refine zh ?_
 refine zy ?_
 refine ua ?_
 cases h
 exact And.intro trivial (And.intro rfl (Vw.same _ rfl))
theorem zdg{a0:List G_QKey}{a1:List G_QKey}{v1:Int}{m:Option Nat}{o:Int ⊕ Bool}(h:ym m a0 a1 v1=some o) :
 LWp Try.prog Uc 0 zo0 (vp 0 0 (z5g a0 a1) (z9z a0 a1) (zfc a0 a1) o) [(1,.isl 3 (a1.map z7) false),(12,.isl 3 (a0.map z7) false),(13,.int .i64 ((a0.map z7).length:Int)),(14,.int .i64 v1)] [] 0:=by
 unfold ym at h
 refine zh ?_
 refine zy ?_
 refine zh ?_
 refine wc (v:=(decide (v1<((a0.map z7).length:Int)))) rfl trivial (fun h10=>?_) (fun h10=>?_)
 ·have h:=yt h10 h
  refine we ?_
  refine zh ?_
  refine jd ?_
  refine zh ?_
  refine zy ?_
  obtain⟨h11,h⟩:=zu h
  refine And.intro h11 ?_
  refine Exists.intro (z7 (a0.getD v1.toNat default)) (And.intro (je z7 _ _ (ws z7 h11)) (And.intro (And.intro (k9 h11) (Nat.le_of_ble_eq_true rfl)) ?_))
  refine zh ?_
  refine z3g ?_
  obtain⟨h12,h⟩:=zu h
  refine And.intro h12 ?_
  show yqs _ _ [(22,.iptr 3 (a1.map z7) v1.toNat 0),(21,.int .i64 v1),(20,.isl 3 (a1.map z7) false),(19,.agg [.int .i64 ((a0.getD v1.toNat default).f_Kind),.int .i64 ((a0.getD v1.toNat default).f_A),.int .i64 ((a0.getD v1.toNat default).f_B)]),(5,.int .i64 v1),(6,.ptr (0,0) 0 0),(18,.agg [.int .i64 ((a0.getD v1.toNat default).f_Kind),.int .i64 ((a0.getD v1.toNat default).f_A),.int .i64 ((a0.getD v1.toNat default).f_B)]),(17,.iptr 3 (a0.map z7) v1.toNat 0),(16,.int .i64 v1),(15,.bool (decide (v1<((a0.map z7).length:Int)))),(1,.isl 3 (a1.map z7) false),(12,.isl 3 (a0.map z7) false),(13,.int .i64 ((a0.map z7).length:Int)),(14,.int .i64 v1)] _ _
  refine Exists.intro (z7 (a1.getD v1.toNat default)) (And.intro (je z7 _ _ (ws z7 h12)) (And.intro (And.intro (k9 h12) (Nat.le_of_ble_eq_true rfl)) ?_))
  refine LWp.sim (e:=[(1,.isl 3 (a1.map z7) false),(12,.isl 3 (a0.map z7) false),(13,.int .i64 ((a0.map z7).length:Int)),(14,.int .i64 v1),(24,.bool (!(((a0.getD v1.toNat default).f_Kind==(a1.getD v1.toNat default).f_Kind)&&(((a0.getD v1.toNat default).f_A==(a1.getD v1.toNat default).f_A)&&(((a0.getD v1.toNat default).f_B==(a1.getD v1.toNat default).f_B)&&true)))))]) (L:=[]) (n:=0) ?_ ?_
  ·exact jw (M:=[]) rfl (And.intro (Vw.same _ rfl) (And.intro (Vw.same _ rfl) (And.intro (Vw.same _ rfl) (And.intro (Vw.same _ rfl) (And.intro (Vw.same _ rfl) trivial))))) trivial
  refine wc (v:=(!(((a0.getD v1.toNat default).f_Kind==(a1.getD v1.toNat default).f_Kind)&&(((a0.getD v1.toNat default).f_A==(a1.getD v1.toNat default).f_A)&&(((a0.getD v1.toNat default).f_B==(a1.getD v1.toNat default).f_B)&&true))))) rfl trivial (fun h13=>?_) (fun h13=>?_)
  ·have h:=yt h13 h
   refine zh ?_
   refine zy ?_
   refine ua ?_
   obtain⟨o,hq,rfl⟩:=Option.map_eq_some_iff.1 h
   replace h:=hq;clear hq
   refine And.intro nofun ?_
   cases h
   exact And.intro trivial (And.intro rfl (Vw.same _ rfl))
  ·have h:=qy h13 h
   refine we ?_
   refine zy ?_
   cases h
   exact And.intro rfl (jw (M:=[]) rfl (And.intro (Vw.same _ rfl) (And.intro (Vw.same _ rfl) (And.intro (Vw.same _ rfl) (And.intro (Vw.same _ rfl) trivial)))) trivial)
 ·have h:=qy h10 h
  refine Z7 ?_
  obtain⟨o,hq,rfl⟩:=Option.map_eq_some_iff.1 h
  replace h:=hq;clear hq
  refine And.intro nofun ?_
  refine LWp.sim ?_ (zk7 h)
  exact jw (M:=[]) rfl trivial trivial
theorem zl9{a0:List G_QKey}{a1:List G_QKey}{v1:Int}{m:Option Nat}{o:Bool}(h:ql m a0 a1 v1=some o) :
 LWp Try.prog Uc 0 (.loop zo0) (qp 0 (Z4 Try.prog Uc 0 zkl (zsm a0 a1 o))) [(1,.isl 3 (a1.map z7) false),(12,.isl 3 (a0.map z7) false),(13,.int .i64 ((a0.map z7).length:Int)),(14,.int .i64 v1)] [] 0:=
 j7 (m:=m) (s:=(v1:Int)) (r:=o) (fun(s:Int)=>ym m a0 a1 s) (z5g a0 a1) (z9z a0 a1) (zfc a0 a1) (fun s o h=>zdg h) h
noncomputable def yh(m:Option Nat)(a0:List G_QKey)(a1:List G_QKey):Option Bool:=
 if(((a0.map z7).length:Int) != ((a1.map z7).length:Int))=true then
  some false
 else
  ql m a0 a1 0
theorem zl0{a0:List G_QKey}{a1:List G_QKey}{m:Option Nat}{o:Bool}(h:yh m a0 a1=some o):LWp Try.prog Uc 0 zro (zsm a0 a1 o) (yy 0 [.isl 3 (a0.map z7) false,.isl 3 (a1.map z7) false]) [] 0:=by
 unfold yh at h
 refine zh ?_
 refine zy ?_
 refine zh ?_
 refine zh ?_
 refine zy ?_
 refine wc (v:=(((a0.map z7).length:Int) != ((a1.map z7).length:Int))) rfl trivial (fun h1=>?_) (fun h1=>?_)
 ·have h:=yt h1 h
  refine zh ?_
  refine zy ?_
  refine ua ?_
  cases h
  exact And.intro trivial (And.intro rfl (Vw.same _ rfl))
 ·have h:=qy h1 h
  refine we ?_
  refine zh ?_
  refine zh ?_
  refine zy ?_
  refine LWp.sim (e:=[(1,.isl 3 (a1.map z7) false),(12,.isl 3 (a0.map z7) false),(13,.int .i64 ((a0.map z7).length:Int)),(14,.int .i64 0)]) (L:=[]) (n:=0) ?_ ?_
  ·exact jw (M:=[]) rfl (And.intro (Vw.same _ rfl) (And.intro (Vw.same _ rfl) (And.intro (Vw.same _ rfl) (And.intro (Vw.same _ rfl) trivial)))) trivial
  refine jd ?_
  refine LWp.sim ?_ (zl9 h)
  exact jw (M:=[]) rfl (And.intro (Vw.same _ rfl) (And.intro (Vw.same _ rfl) (And.intro (Vw.same _ rfl) (And.intro (Vw.same _ rfl) trivial)))) trivial
theorem zrp{a0:List G_QKey}{a1:List G_QKey}{m:Option Nat}{o:Bool}(h:yh m a0 a1=some o):PFn Try.prog 8 [.isl 3 (a0.map z7) false,.isl 3 (a1.map z7) false] (.bool o):=PFn.ofFnW (L:=zts) zrz zqd (Nat.le_of_ble_eq_true rfl) rfl (zl0 h)
def zlx:LCode:=(.seq (.region [⟨some 3,.box (.t 1),none⟩,
 ⟨some 4,.mv (.c (.val (.slice none 0 0))),none⟩])
 (.seq (.draw [⟨⟨some 5,.mv (.t 0),none⟩,[]⟩,
  ⟨⟨some 7,.load true 3 (.t 3),none⟩,[]⟩,
  ⟨⟨some 6,.call 21 [(.t 5),(.c (.bool true))],none⟩,[1]⟩,
  ⟨⟨some 8,.call 22 [(.t 6),(.t 7)],none⟩,[]⟩,
  ⟨⟨some 4,.mv (.t 8),none⟩,[]⟩])
 .ret))
def zdf:Lay:=⟨9,[],false⟩
def zgl:List LRes:=[.t 4]
def zrb:LFn:=⟨2,zdf,zlx,zgl⟩
theorem zoo:vi Try.prog [] 11=some zrb:=by kernel_rfl
theorem zo3:Z6 Try.prog 11:=⟨_,Try.func11,rfl,rfl⟩
noncomputable def jb(m:Option Nat)(a0:List G_QEdge)(a1:G_QKey):Option (List G_QKey):=
 (qq m a0 true).bind fun v1=>
 (zp m a1 v1.1 v1.2).bind fun v2=>
 some v2
def zti(a0:List G_QEdge)(a1:G_QKey)(o:(List G_QKey)):Exit→Env→AHeap→Nat→Prop:=Yb zgl (wa (.isl 3 (o.map z7) false))
theorem zfz{a0:List G_QEdge}{a1:G_QKey}{m:Option Nat}{o:(List G_QKey)}(h:jb m a0 a1=some o):LWp Try.prog zdf 0 zlx (zti a0 a1 o) (yy 0 [.isl 6 (a0.map z6) false,.agg [.int .i64 a1.f_Kind,.int .i64 a1.f_A,.int .i64 a1.f_B]]) [] 0:=by
 unfold jb at h
 refine zh ?_
 refine zy ?_
 refine zh ?_
 refine Vd ?_
 obtain⟨v1,h1,h⟩:=bind_some h
 refine Y8 (k:=3) (m:=4) (L':=[((1,0),.one [.map (2,0),.isl 3 (v1.1.map z7) false]),((2,0),.amap (v1.2.map (em za z8)))]) (rest:=[((0,0),.one [.int .i64 a1.f_Kind,.int .i64 a1.f_A,.int .i64 a1.f_B])]) (R':=.ptr (1,0) 0 0) [] (Vs h1) rfl rfl rfl (And.intro (Vw.same _ rfl) (And.intro (Vw.same _ rfl) trivial)) trivial rfl (And.intro rfl (And.intro rfl (And.intro rfl (And.intro (ve za z8 qu zb _) trivial)))) rfl ?_
 refine And.intro rfl ?_
 obtain⟨v2,h2,h⟩:=bind_some h
 refine Y8 (k:=3) (m:=0) (L':=[((1,0),.one [.map (2,0),.isl 3 (v1.1.map z7) false]),((2,0),.amap (v1.2.map (em za z8)))]) (rest:=[((0,0),.one [.int .i64 a1.f_Kind,.int .i64 a1.f_A,.int .i64 a1.f_B])]) (R':=.isl 3 (v2.map z7) false) [((0,0),(1,0)),((0,1),(2,0))] (z32 h2) rfl rfl rfl (And.intro (Vw.ptr _ _ _ _ rfl) (And.intro (Vw.same _ rfl) trivial)) (And.intro (h0I (1,0) rfl rfl (BVw.oneL (And.intro (Vw.map _ _ rfl) (And.intro (Vw.same _ rfl) trivial)))) (And.intro (h0I (2,0) rfl rfl (BVw.ofMap za z8 zb v1.2)) trivial)) (ki _ rfl) (And.intro rfl (And.intro rfl (And.intro rfl (And.intro (ve za z8 qu zb _) trivial)))) rfl ?_
 show yd _ _ _ _ _ [(8,.isl 3 (v2.map z7) false),(6,.ptr (1,0) 0 0),(7,.agg [.int .i64 a1.f_Kind,.int .i64 a1.f_A,.int .i64 a1.f_B]),(5,.isl 6 (a0.map z6) false),(4,.val (.slice none 0 0)),(3,.ptr (0,0) 0 0),(0,.isl 6 (a0.map z6) false),(1,.agg [.int .i64 a1.f_Kind,.int .i64 a1.f_A,.int .i64 a1.f_B])] _ _
 refine ua ?_
 cases h
 exact And.intro trivial (And.intro rfl (Vw.same _ rfl))
theorem zq8{a0:List G_QEdge}{a1:G_QKey}{m:Option Nat}{o:(List G_QKey)}(h:jb m a0 a1=some o):PFn Try.prog 11 [.isl 6 (a0.map z6) false,.agg [.int .i64 a1.f_Kind,.int .i64 a1.f_A,.int .i64 a1.f_B]] (.isl 3 (o.map z7) false):=PFn.ofFnW (L:=zrb) zoo zo3 (Nat.le_of_ble_eq_true rfl) rfl (zfz h)
def zqf:LCode:=(.seq (.region [⟨some 0,.mv (.c (.bool false)),none⟩])
 (.seq (.region [⟨some 5,.build [(.int .i64 0),(.int .i64 0),(.int .i64 0)] [(1,1,(.c (.int .i64 1)))],none⟩,
  ⟨some 6,.build [(.int .i64 0),(.int .i64 0),(.int .i64 0)] [(1,1,(.c (.int .i64 2)))],none⟩,
  ⟨some 7,.build [(.int .i64 0),(.int .i64 0),(.int .i64 0)] [(1,1,(.c (.int .i64 3)))],none⟩,
  ⟨some 1,.alloc [(.int .i64 0),(.int .i64 0),(.int .i64 0)],none⟩,
  ⟨some 2,.alloc [(.int .i64 0),(.int .i64 0),(.int .i64 0)],none⟩,
  ⟨some 3,.alloc [(.int .i64 0),(.int .i64 0),(.int .i64 0)],none⟩,
  ⟨none,.store 3 (.t 1) (.t 5),none⟩,
  ⟨none,.store 3 (.t 2) (.t 6),none⟩,
  ⟨none,.store 3 (.t 3) (.t 7),none⟩])
 (.seq (.region [⟨some 8,.load true 3 (.t 3),none⟩,
  ⟨some 9,.load true 3 (.t 2),none⟩,
  ⟨some 10,.build [(.int .i64 0),(.int .i64 0),(.int .i64 0),(.int .i64 0),(.int .i64 0),(.int .i64 0)] [(0,3,(.t 8)),(3,3,(.t 9))],none⟩,
  ⟨some 11,.load true 3 (.t 2),none⟩,
  ⟨some 12,.load true 3 (.t 1),none⟩,
  ⟨some 13,.build [(.int .i64 0),(.int .i64 0),(.int .i64 0),(.int .i64 0),(.int .i64 0),(.int .i64 0)] [(0,3,(.t 11)),(3,3,(.t 12))],none⟩,
  ⟨some 14,.mkSl true 6 [(.int .i64 0),(.int .i64 0),(.int .i64 0),(.int .i64 0),(.int .i64 0),(.int .i64 0)] 2 [(0,(.t 10)),(1,(.t 13))],none⟩,
  ⟨some 4,.mv (.t 14),none⟩])
 (.seq (.draw [⟨⟨some 15,.mv (.t 4),none⟩,[]⟩,
  ⟨⟨some 16,.load true 3 (.t 3),none⟩,[]⟩,
  ⟨⟨some 18,.load true 3 (.t 1),none⟩,[]⟩,
  ⟨⟨some 19,.load true 3 (.t 2),none⟩,[]⟩,
  ⟨⟨some 20,.mkSl true 3 [(.int .i64 0),(.int .i64 0),(.int .i64 0)] 2 [(0,(.t 18)),(1,(.t 19))],none⟩,[]⟩,
  ⟨⟨some 17,.call 9 [(.t 15),(.t 16)],none⟩,[2,3]⟩,
  ⟨⟨some 21,.call 8 [(.t 17),(.t 20)],none⟩,[]⟩,
  ⟨⟨some 22,.mv (.t 21),none⟩,[]⟩,
  ⟨⟨some 23,.mv (.t 4),some (22,true)⟩,[]⟩,
  ⟨⟨some 24,.load true 3 (.t 1),some (22,true)⟩,[]⟩,
  ⟨⟨some 26,.load true 3 (.t 2),some (22,true)⟩,[]⟩,
  ⟨⟨some 27,.load true 3 (.t 3),some (22,true)⟩,[]⟩,
  ⟨⟨some 28,.mkSl true 3 [(.int .i64 0),(.int .i64 0),(.int .i64 0)] 2 [(0,(.t 26)),(1,(.t 27))],some (22,true)⟩,[]⟩,
  ⟨⟨some 25,.call 11 [(.t 23),(.t 24)],some (22,true)⟩,[10,11]⟩,
  ⟨⟨some 29,.call 8 [(.t 25),(.t 28)],some (22,true)⟩,[]⟩,
  ⟨⟨some 30,.pick (.t 22) (.t 29) (.c (.bool false)),none⟩,[]⟩,
  ⟨⟨some 0,.mv (.t 30),none⟩,[]⟩])
 .ret))))
def zmg:Lay:=⟨31,[],false⟩
def zlv:List LRes:=[.t 0]
def ztt:LFn:=⟨0,zmg,zqf,zlv⟩
theorem zs9:vi Try.prog [] 7=some ztt:=by kernel_rfl
theorem zr6:Z6 Try.prog 7:=⟨_,Try.func7,rfl,rfl⟩
noncomputable def y9(m:Option Nat):Option Bool:=
 (xb m ([(G_QEdge.mk (G_QKey.mk 0 3 0) (G_QKey.mk 0 2 0)),(G_QEdge.mk (G_QKey.mk 0 2 0) (G_QKey.mk 0 1 0))]:List G_QEdge) (G_QKey.mk 0 3 0)).bind fun v1=>
 (yh m v1 ([(G_QKey.mk 0 1 0),(G_QKey.mk 0 2 0)]:List G_QKey)).bind fun v2=>
 (if(v2==true)=true then jb m ([(G_QEdge.mk (G_QKey.mk 0 3 0) (G_QKey.mk 0 2 0)),(G_QEdge.mk (G_QKey.mk 0 2 0) (G_QKey.mk 0 1 0))]:List G_QEdge) (G_QKey.mk 0 1 0) else some default).bind fun v3=>
 (if(v2==true)=true then yh m v3 ([(G_QKey.mk 0 2 0),(G_QKey.mk 0 3 0)]:List G_QKey) else some default).bind fun v4=>
 some (v2&&v4)
def zue(o:Bool):Exit→Env→AHeap→Nat→Prop:=Yb zlv (wa (.bool o))
theorem zj5{m:Option Nat}{o:Bool}(h:y9 m=some o):LWp Try.prog zmg 0 zqf (zue o) (yy 0 []) [] 0:=by
 unfold y9 at h
 refine zh ?_
 refine zy ?_
 refine zh ?_
 refine zy ?_
 refine LWp.sim (e:=[(1,.ptr (0,0) 0 0),(2,.ptr (1,0) 0 0),(3,.ptr (2,0) 0 0)]) (L:=[((0,0),.one [.int .i64 0,.int .i64 1,.int .i64 0]),((1,0),.one [.int .i64 0,.int .i64 2,.int .i64 0]),((2,0),.one [.int .i64 0,.int .i64 3,.int .i64 0])]) (n:=3) ?_ ?_
 ·exact jw (M:=[((0,0),(0,0)),((1,0),(1,0)),((2,0),(2,0))]) rfl (And.intro (Vw.ptr _ _ _ _ rfl) (And.intro (Vw.ptr _ _ _ _ rfl) (And.intro (Vw.ptr _ _ _ _ rfl) trivial))) (And.intro (And.intro rfl (BVw.oneL (And.intro (Vw.same _ rfl) (And.intro (Vw.same _ rfl) (And.intro (Vw.same _ rfl) trivial))))) (And.intro (And.intro rfl (BVw.oneL (And.intro (Vw.same _ rfl) (And.intro (Vw.same _ rfl) (And.intro (Vw.same _ rfl) trivial))))) (And.intro (And.intro rfl (BVw.oneL (And.intro (Vw.same _ rfl) (And.intro (Vw.same _ rfl) (And.intro (Vw.same _ rfl) trivial))))) trivial)))
 refine zh ?_
 refine zy ?_
 refine LWp.sim (e:=[(1,.ptr (0,0) 0 0),(2,.ptr (1,0) 0 0),(3,.ptr (2,0) 0 0),(4,.isl 6 (([(G_QEdge.mk (G_QKey.mk 0 3 0) (G_QKey.mk 0 2 0)),(G_QEdge.mk (G_QKey.mk 0 2 0) (G_QKey.mk 0 1 0))]:List G_QEdge).map z6) true)]) (L:=[((0,0),.one [.int .i64 0,.int .i64 1,.int .i64 0]),((1,0),.one [.int .i64 0,.int .i64 2,.int .i64 0]),((2,0),.one [.int .i64 0,.int .i64 3,.int .i64 0])]) (n:=3) ?_ ?_
 ·exact jw (M:=[((0,0),(0,0)),((1,0),(1,0)),((2,0),(2,0))]) rfl (And.intro (Vw.ptr _ _ _ _ rfl) (And.intro (Vw.ptr _ _ _ _ rfl) (And.intro (Vw.ptr _ _ _ _ rfl) (And.intro (Vw.same _ rfl) trivial)))) (And.intro (And.intro rfl (BVw.oneL (And.intro (Vw.same _ rfl) (And.intro (Vw.same _ rfl) (And.intro (Vw.same _ rfl) trivial))))) (And.intro (And.intro rfl (BVw.oneL (And.intro (Vw.same _ rfl) (And.intro (Vw.same _ rfl) (And.intro (Vw.same _ rfl) trivial))))) (And.intro (And.intro rfl (BVw.oneL (And.intro (Vw.same _ rfl) (And.intro (Vw.same _ rfl) (And.intro (Vw.same _ rfl) trivial))))) trivial)))
 refine zh ?_
 refine Vd ?_
 obtain⟨v1,h1,h⟩:=bind_some h
 refine PFn.call (zt7 h1) (And.intro (Vw.islF _ _ _) (And.intro (Vw.same _ rfl) trivial)) ?_
 refine And.intro rfl ?_
 refine And.intro rfl ?_
 obtain⟨v2,h2,h⟩:=bind_some h
 refine PFn.call (zrp h2) (And.intro (Vw.same _ rfl) (And.intro (Vw.islF _ _ _) trivial)) ?_
 show yd _ _ _ _ _ [(21,.bool v2),(17,.isl 3 (v1.map z7) false),(20,.isl 3 (([(G_QKey.mk 0 1 0),(G_QKey.mk 0 2 0)]:List G_QKey).map z7) true),(19,.agg [.int .i64 0,.int .i64 2,.int .i64 0]),(18,.agg [.int .i64 0,.int .i64 1,.int .i64 0]),(16,.agg [.int .i64 0,.int .i64 3,.int .i64 0]),(15,.isl 6 (([(G_QEdge.mk (G_QKey.mk 0 3 0) (G_QKey.mk 0 2 0)),(G_QEdge.mk (G_QKey.mk 0 2 0) (G_QKey.mk 0 1 0))]:List G_QEdge).map z6) true),(1,.ptr (0,0) 0 0),(2,.ptr (1,0) 0 0),(3,.ptr (2,0) 0 0),(4,.isl 6 (([(G_QEdge.mk (G_QKey.mk 0 3 0) (G_QKey.mk 0 2 0)),(G_QEdge.mk (G_QKey.mk 0 2 0) (G_QKey.mk 0 1 0))]:List G_QEdge).map z6) true)] _ _
 refine Or.inl (Exists.intro (.isl 3 (([(G_QKey.mk 0 2 0),(G_QKey.mk 0 3 0)]:List G_QKey).map z7) true) (And.intro (fun hp=>And.intro (And.intro hp hp) (And.intro rfl (And.intro rfl rfl))) ?_))
 obtain⟨v3,h3,h⟩:=bind_some h
 refine Or.inl (Exists.intro (.isl 3 (v3.map z7) false) (And.intro (fun hp=>And.intro (And.intro hp hp) (PFn.call (zq8 (yt hp h3)) (And.intro (Vw.islF _ _ _) (And.intro (Vw.same _ rfl) trivial)) (And.intro rfl (And.intro rfl rfl)))) ?_))
 refine And.intro (And.intro rfl (fun hp=>rfl)) ?_
 refine And.intro (And.intro rfl (fun hp=>rfl)) ?_
 obtain⟨v4,h4,h⟩:=bind_some h
 refine Or.inl (Exists.intro (.bool v4) (And.intro (fun hp=>And.intro (And.intro hp hp) (PFn.call (zrp (yt hp h4)) (And.intro (Vw.same _ rfl) (And.intro (Vw.islF _ _ _) trivial)) (And.intro rfl (And.intro rfl rfl)))) ?_))
 refine And.intro (fun hc=>(bqt hc)) ?_
 show yd _ _ _ _ _ [(30,.bool (v2&&v4)),(29,.cnd (v2==true) (.bool v4)),(25,.cnd (v2==true) (.isl 3 (v3.map z7) false)),(28,.cnd (v2==true) (.isl 3 (([(G_QKey.mk 0 2 0),(G_QKey.mk 0 3 0)]:List G_QKey).map z7) true)),(27,.cnd (v2==true) (.agg [.int .i64 0,.int .i64 3,.int .i64 0])),(26,.cnd (v2==true) (.agg [.int .i64 0,.int .i64 2,.int .i64 0])),(24,.cnd (v2==true) (.agg [.int .i64 0,.int .i64 1,.int .i64 0])),(23,.cnd (v2==true) (.isl 6 (([(G_QEdge.mk (G_QKey.mk 0 3 0) (G_QKey.mk 0 2 0)),(G_QEdge.mk (G_QKey.mk 0 2 0) (G_QKey.mk 0 1 0))]:List G_QEdge).map z6) true)),(22,.bool v2),(21,.bool v2),(17,.isl 3 (v1.map z7) false),(20,.isl 3 (([(G_QKey.mk 0 1 0),(G_QKey.mk 0 2 0)]:List G_QKey).map z7) true),(19,.agg [.int .i64 0,.int .i64 2,.int .i64 0]),(18,.agg [.int .i64 0,.int .i64 1,.int .i64 0]),(16,.agg [.int .i64 0,.int .i64 3,.int .i64 0]),(15,.isl 6 (([(G_QEdge.mk (G_QKey.mk 0 3 0) (G_QKey.mk 0 2 0)),(G_QEdge.mk (G_QKey.mk 0 2 0) (G_QKey.mk 0 1 0))]:List G_QEdge).map z6) true),(1,.ptr (0,0) 0 0),(2,.ptr (1,0) 0 0),(3,.ptr (2,0) 0 0),(4,.isl 6 (([(G_QEdge.mk (G_QKey.mk 0 3 0) (G_QKey.mk 0 2 0)),(G_QEdge.mk (G_QKey.mk 0 2 0) (G_QKey.mk 0 1 0))]:List G_QEdge).map z6) true)] _ _
 refine LWp.sim (e:=[(0,.bool (v2&&v4))]) (L:=[]) (n:=0) ?_ ?_
 ·exact jw (M:=[]) rfl (And.intro (Vw.same _ rfl) trivial) trivial
 refine ua ?_
 cases h
 exact And.intro trivial (And.intro rfl (Vw.same _ rfl))
theorem zn7{m:Option Nat}{o:Bool}(h:y9 m=some o):PFn Try.prog 7 [] (.bool o):=PFn.ofFnW (L:=ztt) zs9 zr6 (Nat.le_of_ble_eq_true rfl) rfl (zj5 h)
def z9k:LCode:=(.seq (.region [⟨some 2,.box (.t 0),none⟩,
 ⟨some 3,.mv (.c (.bool false)),none⟩])
 (.seq (.region [⟨some 4,.load false 1 (.t 1),none⟩,
  ⟨some 5,.load true 3 (.t 2),none⟩,
  ⟨some 6,.mlook [.int,.int,.int] true false false [(.int .i64 0)] (.t 4) (.t 5),none⟩,
  ⟨some 7,.bin .eql (.t 6) (.c (.int .i64 0)),none⟩,
  ⟨some 3,.mv (.t 7),none⟩])
 .ret))
def z3y:Lay:=⟨8,[],false⟩
def z4j:List LRes:=[.t 3]
def zgb:LFn:=⟨2,z3y,z9k,z4j⟩
theorem zfr:vi Try.prog [] 42=some zgb:=by kernel_rfl
theorem zfn:Z6 Try.prog 42:=⟨_,Try.func42,rfl,rfl⟩
noncomputable def ju(m:Option Nat)(a0:G_QKey)(a1:List (G_QKey×Int)):Option Bool:=
 some (((lk zd a1 a0).getD 0)==0)
def znv(a0:G_QKey)(a1:List (G_QKey×Int))(o:Bool):Exit→Env→AHeap→Nat→Prop:=Yb z4j (Qh 3 3 (.bool o) [((0,0),.one [.map (0,1)]),((0,1),.amap (a1.map (em za qb)))])
theorem z6h{a0:G_QKey}{a1:List (G_QKey×Int)}{m:Option Nat}{o:Bool}(h:ju m a0 a1=some o):LWp Try.prog z3y 3 z9k (znv a0 a1 o) (yy 0 [.agg [.int .i64 a0.f_Kind,.int .i64 a0.f_A,.int .i64 a0.f_B],.ptr (0,0) 0 0]) [((0,0),.one [.map (0,1)]),((0,1),.amap (a1.map (em za qb)))] 3:=by
 unfold ju at h
 refine zh ?_
 refine zy ?_
 refine zh ?_
 refine zy ?_
 refine Exists.intro (.int .i64 ((lk zd a1 a0).getD 0)) (And.intro (V1 (ek:=za) (ev:=qb) (z:=0) xf rfl a0 a1) (And.intro (u7 (ek:=za) (ev:=qb) xf _ _) ?_))
 refine ua ?_
 cases h
 exact And.intro trivial (ziz (n':=4) [] [] rfl rfl (Vw.same _ rfl) (And.intro (And.intro rfl (BVw.oneL (And.intro (Vw.map _ _ rfl) trivial))) (And.intro (And.intro rfl (BVw.ofMap za qb y7 a1)) trivial)))
theorem zla{a0:G_QKey}{a1:List (G_QKey×Int)}{m:Option Nat}{o:Bool}(h:ju m a0 a1=some o):ACalls Try.prog 42 [.agg [.int .i64 a0.f_Kind,.int .i64 a0.f_A,.int .i64 a0.f_B],.ptr (0,0) 0 0] [((0,0),.one [.map (0,1)]),((0,1),.amap (a1.map (em za qb)))] 3 (ub 3 (.bool o) [((0,0),.one [.map (0,1)]),((0,1),.amap (a1.map (em za qb)))]):=Yf (L:=zgb) zfr zfn (Nat.le_of_ble_eq_true rfl) (z6h h)
def z2f:LCode:=(.seq (.region [⟨some 9,.bin .lss (.t 8) (.t 7),none⟩])
 (.seq (.cond (.t 9)
  .skip
  (.exit 0))
 (.seq (.block 1
  (.seq (.region [⟨some 10,.mv (.t 8),none⟩,
   ⟨some 5,.mv (.t 10),none⟩])
  (.seq (.region [⟨some 11,.mv (.t 1),none⟩,
   ⟨some 12,.mv (.t 0),none⟩,
   ⟨some 13,.mv (.t 5),none⟩,
   ⟨some 14,.iaddr 3 (.t 12) (.t 13),none⟩,
   ⟨some 15,.load true 3 (.t 14),none⟩,
   ⟨some 16,.callv (.t 11) [(.t 15)],none⟩])
  (.cond (.t 16)
   (.seq (.region [⟨some 17,.mv (.t 5),none⟩,
    ⟨some 4,.mv (.t 17),none⟩])
   .ret)
   .skip))))
 (.region [⟨some 18,.bin .add (.t 8) (.c (.int .i64 1)),none⟩,
  ⟨some 8,.mv (.t 18),none⟩]))))
def Vg:LCode:=(.seq (.region [⟨some 4,.mv (.c (.int .i64 (-1))),none⟩])
 .ret)
def zai:LCode:=(.seq (.region [⟨some 4,.mv (.c (.int .i64 0)),none⟩])
 (.seq (.seq (.region [⟨some 6,.mv (.t 0),none⟩,
  ⟨some 7,.len false (.t 6),none⟩,
  ⟨some 8,.mv (.c (.int .i64 0)),none⟩])
 (.block 0
  (.loop
   z2f)))
 Vg))
def Zu:Lay:=⟨19,[],false⟩
def z3l:List LRes:=[.t 4]
def zd5:LFn:=⟨2,Zu,zai,z3l⟩
theorem ze0:vi Try.prog [] 25=some zd5:=by kernel_rfl
theorem zgu:Z6 Try.prog 25:=⟨_,Try.func25,rfl,rfl⟩
def z2i(a0:List G_QKey)(a1:List (G_QKey×Int))(o:Int):Exit→Env→AHeap→Nat→Prop:=Yb z3l (Qh 3 3 (.int .i64 o) [((0,0),.one [.map (0,1)]),((0,1),.amap (a1.map (em za qb)))])
def V7(a0:List G_QKey)(a1:List (G_QKey×Int))(s:Int):Env:=[(0,.isl 3 (a0.map z7) false),(1,.fn (.func 42) [] [.ptr (0,0) 0 0]),(7,.int .i64 ((a0.map z7).length:Int)),(8,.int .i64 s)]
def Ux(a0:List G_QKey)(a1:List (G_QKey×Int))(s:Int):AHeap:=[((0,0),.one [.map (0,1)]),((0,1),.amap (a1.map (em za qb)))]
def z11(a0:List G_QKey)(a1:List (G_QKey×Int))(o:Int):Exit→Env→AHeap→Nat→Prop:=(qp 0 (Z4 Try.prog Zu 3 Vg (z2i a0 a1 o)))
noncomputable def jk(m:Option Nat)(a1:List (G_QKey×Int)):Option Int:=
 some (-1)
noncomputable def yi(m:Option Nat)(a0:List G_QKey)(a1:List (G_QKey×Int))(v2:Int):Option (Int ⊕ Int):=
 if(decide (v2<((a0.map z7).length:Int)))=true then
  if(0:Int)≤v2∧v2<((a0.map z7).length:Int) then
  (ju m (G_QKey.mk ((a0.getD v2.toNat default).f_Kind) ((a0.getD v2.toNat default).f_A) ((a0.getD v2.toNat default).f_B)) a1).bind fun v4=>
  if v4=true then
   Option.map Sum.inr (
    some v2)
  else
   some (.inl (W (v2+1)))
  else none
 else
  Option.map Sum.inr (
   jk m a1)
noncomputable def yk(m:Option Nat)(a0:List G_QKey)(a1:List (G_QKey×Int))(v2:Int):Option Int:=ky m (fun(s:Int)=>yi m a0 a1 s) v2
theorem z6y{a0:List G_QKey}{a1:List (G_QKey×Int)}{m:Option Nat}{o:Int}(h:jk m a1=some o) :
 LWp Try.prog Zu 3 Vg (z2i a0 a1 o) [] [((0,0),.one [.map (0,1)]),((0,1),.amap (a1.map (em za qb)))] 3:=by
 unfold jk at h
 refine zh ?_
 refine zy ?_
 refine ua ?_
 cases h
 exact And.intro trivial (ziz (n':=3) [] [] rfl rfl (Vw.same _ rfl) (And.intro (And.intro rfl (BVw.oneL (And.intro (Vw.map _ _ rfl) trivial))) (And.intro (And.intro rfl (BVw.ofMap za qb y7 a1)) trivial)))
theorem z37{a0:List G_QKey}{a1:List (G_QKey×Int)}{v2:Int}{m:Option Nat}{o:Int ⊕ Int}(h:yi m a0 a1 v2=some o) :
 LWp Try.prog Zu 3 z2f (vp 3 3 (V7 a0 a1) (Ux a0 a1) (z11 a0 a1) o) [(0,.isl 3 (a0.map z7) false),(1,.fn (.func 42) [] [.ptr (0,0) 0 0]),(7,.int .i64 ((a0.map z7).length:Int)),(8,.int .i64 v2)] [((0,0),.one [.map (0,1)]),((0,1),.amap (a1.map (em za qb)))] 3:=by
 unfold yi at h
 refine zh ?_
 refine zy ?_
 refine zh ?_
 refine wc (v:=(decide (v2<((a0.map z7).length:Int)))) rfl trivial (fun h9=>?_) (fun h9=>?_)
 ·have h:=yt h9 h
  refine we ?_
  refine zh ?_
  refine jd ?_
  refine zh ?_
  refine zy ?_
  refine zh ?_
  refine zy ?_
  obtain⟨h10,h⟩:=zu h
  refine And.intro h10 ?_
  show Y2 _ _ _ [(14,.iptr 3 (a0.map z7) v2.toNat 0),(13,.int .i64 v2),(12,.isl 3 (a0.map z7) false),(11,.fn (.func 42) [] [.ptr (0,0) 0 0]),(5,.int .i64 v2),(10,.int .i64 v2),(9,.bool (decide (v2<((a0.map z7).length:Int)))),(0,.isl 3 (a0.map z7) false),(1,.fn (.func 42) [] [.ptr (0,0) 0 0]),(7,.int .i64 ((a0.map z7).length:Int)),(8,.int .i64 v2)] _ _
  refine Exists.intro (z7 (a0.getD v2.toNat default)) (And.intro (je z7 _ _ (ws z7 h10)) (And.intro (And.intro (k9 h10) (Nat.le_of_ble_eq_true rfl)) ?_))
  obtain⟨v4,h11,h⟩:=bind_some h
  refine Y8 (k:=3) (m:=0) (L':=[((0,0),.one [.map (0,1)]),((0,1),.amap (a1.map (em za qb)))]) (rest:=[]) (R':=.bool v4) [((0,0),(0,0)),((0,1),(0,1))] (zla h11) rfl rfl rfl (And.intro (Vw.same _ rfl) (And.intro (Vw.ptr _ _ _ _ rfl) trivial)) (And.intro (h0I (0,0) rfl rfl (BVw.oneL (And.intro (Vw.map _ _ rfl) trivial))) (And.intro (h0I (0,1) rfl rfl (BVw.ofMap za qb y7 a1)) trivial)) (ki _ rfl) (And.intro rfl (And.intro rfl (And.intro rfl (And.intro (ve za qb qu y7 _) trivial)))) rfl ?_
  refine LWp.sim (e:=[(0,.isl 3 (a0.map z7) false),(1,.fn (.func 42) [] [.ptr (0,0) 0 0]),(5,.int .i64 v2),(7,.int .i64 ((a0.map z7).length:Int)),(8,.int .i64 v2),(16,.bool v4)]) (L:=[((0,0),.one [.map (0,1)]),((0,1),.amap (a1.map (em za qb)))]) (n:=3) ?_ ?_
  ·exact jw (M:=[]) rfl (And.intro (Vw.same _ rfl) (And.intro (Vw.fnL trivial (And.intro (Vw.ptr _ _ _ _ rfl) trivial)) (And.intro (Vw.same _ rfl) (And.intro (Vw.same _ rfl) (And.intro (Vw.same _ rfl) (And.intro (Vw.same _ rfl) trivial)))))) (And.intro (And.intro rfl (BVw.oneL (And.intro (Vw.map _ _ rfl) trivial))) (And.intro (And.intro rfl (BVw.ofMap za qb y7 a1)) trivial))
  refine wc (v:=v4) rfl trivial (fun h12=>?_) (fun h12=>?_)
  ·have h:=yt h12 h
   refine zh ?_
   refine zy ?_
   refine ua ?_
   obtain⟨o,hq,rfl⟩:=Option.map_eq_some_iff.1 h
   replace h:=hq;clear hq
   refine And.intro nofun ?_
   cases h
   exact And.intro trivial (ziz (n':=3) [] [] rfl rfl (Vw.same _ rfl) (And.intro (And.intro rfl (BVw.oneL (And.intro (Vw.map _ _ rfl) trivial))) (And.intro (And.intro rfl (BVw.ofMap za qb y7 a1)) trivial)))
  ·have h:=qy h12 h
   refine we ?_
   refine zy ?_
   cases h
   exact And.intro rfl (jw (M:=[]) rfl (And.intro (Vw.same _ rfl) (And.intro (Vw.fnL trivial (And.intro (Vw.ptr _ _ _ _ rfl) trivial)) (And.intro (Vw.same _ rfl) (And.intro (Vw.same _ rfl) trivial)))) (And.intro (And.intro rfl (BVw.oneL (And.intro (Vw.map _ _ rfl) trivial))) (And.intro (And.intro rfl (BVw.ofMap za qb y7 a1)) trivial)))
 ·have h:=qy h9 h
  refine Z7 ?_
  obtain⟨o,hq,rfl⟩:=Option.map_eq_some_iff.1 h
  replace h:=hq;clear hq
  refine And.intro nofun ?_
  refine LWp.sim ?_ (z6y h)
  exact jw (M:=[]) rfl trivial (And.intro (And.intro rfl (BVw.oneL (And.intro (Vw.map _ _ rfl) trivial))) (And.intro (And.intro rfl (BVw.ofMap za qb y7 a1)) trivial))
theorem z7n{a0:List G_QKey}{a1:List (G_QKey×Int)}{v2:Int}{m:Option Nat}{o:Int}(h:yk m a0 a1 v2=some o) :
 LWp Try.prog Zu 3 (.loop z2f) (qp 0 (Z4 Try.prog Zu 3 Vg (z2i a0 a1 o))) [(0,.isl 3 (a0.map z7) false),(1,.fn (.func 42) [] [.ptr (0,0) 0 0]),(7,.int .i64 ((a0.map z7).length:Int)),(8,.int .i64 v2)] [((0,0),.one [.map (0,1)]),((0,1),.amap (a1.map (em za qb)))] 3:=
 j7 (m:=m) (s:=(v2:Int)) (r:=o) (fun(s:Int)=>yi m a0 a1 s) (V7 a0 a1) (Ux a0 a1) (z11 a0 a1) (fun s o h=>z37 h) h
noncomputable def j9(m:Option Nat)(a0:List G_QKey)(a1:List (G_QKey×Int)):Option Int:=
 yk m a0 a1 0
theorem z7f{a0:List G_QKey}{a1:List (G_QKey×Int)}{m:Option Nat}{o:Int}(h:j9 m a0 a1=some o):LWp Try.prog Zu 3 zai (z2i a0 a1 o) (yy 0 [.isl 3 (a0.map z7) false,.fn (.func 42) [] [.ptr (0,0) 0 0]]) [((0,0),.one [.map (0,1)]),((0,1),.amap (a1.map (em za qb)))] 3:=by
 unfold j9 at h
 refine zh ?_
 refine zy ?_
 refine zh ?_
 refine zh ?_
 refine zy ?_
 refine jd ?_
 refine LWp.sim ?_ (z7n h)
 exact jw (M:=[]) rfl (And.intro (Vw.same _ rfl) (And.intro (Vw.fnL trivial (And.intro (Vw.ptr _ _ _ _ rfl) trivial)) (And.intro (Vw.same _ rfl) (And.intro (Vw.same _ rfl) trivial)))) (And.intro (And.intro rfl (BVw.oneL (And.intro (Vw.map _ _ rfl) trivial))) (And.intro (And.intro rfl (BVw.ofMap za qb y7 a1)) trivial))
theorem zjo{a0:List G_QKey}{a1:List (G_QKey×Int)}{m:Option Nat}{o:Int}(h:j9 m a0 a1=some o):ACalls Try.prog 25 [.isl 3 (a0.map z7) false,.fn (.func 42) [] [.ptr (0,0) 0 0]] [((0,0),.one [.map (0,1)]),((0,1),.amap (a1.map (em za qb)))] 3 (ub 3 (.int .i64 o) [((0,0),.one [.map (0,1)]),((0,1),.amap (a1.map (em za qb)))]):=Yf (L:=zd5) ze0 zgu (Nat.le_of_ble_eq_true rfl) (z7f h)
def z8g:LCode:=(.seq (.region [⟨some 4,.mv (.c (.bool false)),none⟩])
 (.seq (.region [⟨some 5,.mv (.t 0),none⟩,
  ⟨some 6,.mv (.t 1),none⟩,
  ⟨some 7,.call 25 [(.t 5),(.t 6)],none⟩,
  ⟨some 8,.bin .geq (.t 7) (.c (.int .i64 0)),none⟩,
  ⟨some 4,.mv (.t 8),none⟩])
 .ret))
def z3e:Lay:=⟨9,[],false⟩
def z4s:List LRes:=[.t 4]
def zhl:LFn:=⟨2,z3e,z8g,z4s⟩
theorem zg9:vi Try.prog [] 31=some zhl:=by kernel_rfl
theorem zep:Z6 Try.prog 31:=⟨_,Try.func31,rfl,rfl⟩
noncomputable def x9(m:Option Nat)(a0:List G_QKey)(a1:List (G_QKey×Int)):Option Bool:=
 (j9 m a0 a1).bind fun v1=>
 some (decide (v1≥0))
def zp5(a0:List G_QKey)(a1:List (G_QKey×Int))(o:Bool):Exit→Env→AHeap→Nat→Prop:=Yb z4s (Qh 3 3 (.bool o) [((0,0),.one [.map (0,1)]),((0,1),.amap (a1.map (em za qb)))])
theorem z7w{a0:List G_QKey}{a1:List (G_QKey×Int)}{m:Option Nat}{o:Bool}(h:x9 m a0 a1=some o):LWp Try.prog z3e 3 z8g (zp5 a0 a1 o) (yy 0 [.isl 3 (a0.map z7) false,.fn (.func 42) [] [.ptr (0,0) 0 0]]) [((0,0),.one [.map (0,1)]),((0,1),.amap (a1.map (em za qb)))] 3:=by
 unfold x9 at h
 refine zh ?_
 refine zy ?_
 refine zh ?_
 refine zy ?_
 obtain⟨v1,h1,h⟩:=bind_some h
 refine Y8 (k:=3) (m:=0) (L':=[((0,0),.one [.map (0,1)]),((0,1),.amap (a1.map (em za qb)))]) (rest:=[]) (R':=.int .i64 v1) [((0,0),(0,0)),((0,1),(0,1))] (zjo h1) rfl rfl rfl (And.intro (Vw.same _ rfl) (And.intro (Vw.fnL trivial (And.intro (Vw.ptr _ _ _ _ rfl) trivial)) trivial)) (And.intro (h0I (0,0) rfl rfl (BVw.oneL (And.intro (Vw.map _ _ rfl) trivial))) (And.intro (h0I (0,1) rfl rfl (BVw.ofMap za qb y7 a1)) trivial)) (ki _ rfl) (And.intro rfl (And.intro rfl (And.intro rfl (And.intro (ve za qb qu y7 _) trivial)))) rfl ?_
 refine ua ?_
 cases h
 exact And.intro trivial (ziz (n':=4) [] [] rfl rfl (Vw.same _ rfl) (And.intro (And.intro rfl (BVw.oneL (And.intro (Vw.map _ _ rfl) trivial))) (And.intro (And.intro rfl (BVw.ofMap za qb y7 a1)) trivial)))
theorem zlk{a0:List G_QKey}{a1:List (G_QKey×Int)}{m:Option Nat}{o:Bool}(h:x9 m a0 a1=some o):ACalls Try.prog 31 [.isl 3 (a0.map z7) false,.fn (.func 42) [] [.ptr (0,0) 0 0]] [((0,0),.one [.map (0,1)]),((0,1),.amap (a1.map (em za qb)))] 3 (ub 3 (.bool o) [((0,0),.one [.map (0,1)]),((0,1),.amap (a1.map (em za qb)))]):=Yf (L:=zhl) zg9 zep (Nat.le_of_ble_eq_true rfl) (z7w h)
end Go.Proofs.Ytejfgjggcoemeaa
