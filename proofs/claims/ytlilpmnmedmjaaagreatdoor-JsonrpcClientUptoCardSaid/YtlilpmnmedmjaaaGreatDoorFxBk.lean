/-
  Own framework.
-/
import Derived.Test.YtlilpmnmedmjaaaGreatDoorFxRg
import Derived.Test.YtlilpmnmedmjaaaGreatDoorFxEw
namespace Go.Fx
set_option linter.unusedVariables false
variable {P:Program}
section
variable {N:Lay}
theorem z7h{ι:Type}{n0:Nat}(pre:ι→Prop)(env:ι→Env)(L:ι→AHeap)(nn μ:ι→Nat){Q:Exit→Env→AHeap→Nat→Prop}{body:LCode}
 (round:∀x,pre x→LWp P N n0 body (fun ex e H n=>match ex with|.normal=>∃y,pre y∧μ y<μ x∧env y=e∧L y=H∧nn y=n|ex=>Q ex e H n) (env x) (L x) (nn x)) :
 ∀x,pre x→LWp P N n0 (.loop body) Q (env x) (L x) (nn x):=by
 intro x0 hx0 c hc ro hro J0 γ0 G0 w0 I β w a hX hI hE hN hD QQ hQ
 cases c with
 |loop c=>
  simp only[y1,Option.map_eq_some_iff] at hc
  obtain⟨b',hb,hc⟩:=hc
  simp only[LCode.loop.injEq] at hc
  subst hc
  let Inside:Nat→Act→World→Prop:=fun m a w=>∃x I β,μ x=m∧pre x∧Ext J0 γ0 n0 G0 w0 I β (nn x) (L x) w∧Inv I β (nn x) (L x) w∧RepEnv I β (nn x) w (env x) a∧a.tmps.size=N.n∧Dfr P w0.heap.size w a.defers
  let mu:Act→World→Nat:=fun a w=>by
   classical
   exact if h:∃m,Inside m a w then Classical.choose (Z5 _ h) else 0
  have mu_spec:∀a w,(∃m,Inside m a w)→Inside (mu a w) a w∧∀k,k<mu a w→¬Inside k a w:=by
   intro a w h
   have:mu a w=Classical.choose (Z5 _ h):=by simp only[mu];rw[dif_pos h]
   rw[this]
   exact Classical.choose_spec (Z5 _ h)
  refine wpIn_loop (fun a w=>∃m,Inside m a w) mu ⟨_,x0,I,β,rfl,hx0,hX,hI,hE,hN,hD⟩ ?_
  intro a w h
  obtain⟨⟨x,I,β,hm,hp,k1,k2,k3,k4,k5⟩,_⟩:=mu_spec a w h
  refine round x hp c hb ro hro J0 γ0 G0 w0 I β w a k1 k2 k3 k4 k5 _ ?_
  intro ex e' H' n' I' β' w' a' g1 g2 g3 g4 g5 g6
  cases ex with
  |normal=>
   obtain⟨y,hy,hlt,rfl,rfl,rfl⟩:=g1
   have hin:Inside (μ y) a' w':=⟨y,_,_,rfl,hy,g6,g2,g3,g4,g5⟩
   refine⟨⟨_,hin⟩,?_⟩
   obtain⟨_,hleast⟩:=mu_spec a' w' ⟨_,hin⟩
   have:¬μ y<mu a' w':=fun h=>hleast _ h hin
   omega
  |_=>exact hQ _ _ _ _ _ _ _ _ g1 g2 g3 g4 g5 g6
 |skip=>cases hc
 |region id ops draw=>simp only[y1] at hc;split at hc<;>(try split at hc)<;>(try split at hc)<;>(try split at hc)<;>(try split at hc)<;>(first|(simp at hc;done)|(rcases ub hc with⟨_,h⟩|⟨_,_,_,h⟩<;>cases h))
 |seq a b=>simp only[y1] at hc;split at hc<;>simp at hc
 |cond c a b=>simp only[y1] at hc;split at hc<;>simp at hc
 |block id c=>simp[y1] at hc
 |exit id=>cases hc
 |ret=>cases hc
 |rangeFunc g ps x y=>simp only[y1] at hc;split at hc<;>simp at hc
 |_=>cases hc
end
def z60(ag:Bool)(s:Nat):LCode:=
 .seq (.region [⟨some 4,.load false 1 (.t 1),none⟩,⟨some 5,.len false (.t 4),none⟩,⟨some 6,.bin .sub (.t 5) (.c (.int .i64 1)),none⟩,⟨some 3,.mv (.t 6),none⟩])
 (.block 0 (.loop (.seq
  (.seq (.region [⟨some 7,.mv (.t 3),none⟩,⟨some 8,.bin .geq (.t 7) (.c (.int .i64 0)),none⟩]) (.cond (.t 8) .skip (.exit 0)))
  (.seq (.block 1 (.seq (.region [⟨some 11,.mv (.t 0),none⟩,⟨some 12,.mv (.t 3),none⟩,⟨some 13,.load false 1 (.t 1),none⟩,⟨some 14,.mv (.t 3),none⟩,⟨some 15,.iaddr s (.t 13) (.t 14),none⟩,⟨some 16,.load ag s (.t 15),none⟩,⟨some 17,.callv (.t 11) [.t 12,.t 16],none⟩,⟨some 18,.un .not (.t 17),none⟩])
   (.cond (.t 18) .ret .skip)))
   (.region [⟨some 9,.mv (.t 3),none⟩,⟨some 10,.bin .sub (.t 9) (.c (.int .i64 1)),none⟩,⟨some 3,.mv (.t 10),none⟩])))))
def AVal.plain(x:AVal):Prop:=x.strip=x∧x.need
theorem zz6{i:Nat}(h:i≤4611686018427387904):IntKind.i64.wrap ((i:Int)-1)=(i:Int)-1:=z09 (by omega) (by omega)
theorem Vz(k:IntKind)(z:Int):(AVal.int k z).strip=.int k z:=rfl
theorem z8n(b:Id)(i o:Nat):(AVal.ptr b i o).strip=.ptr b i o:=rfl
theorem zro(f:Fn)(a c:List AVal):(AVal.fn f a c).strip=.fn f a c:=rfl
theorem Yc(b:Bool):(AVal.bool b).strip=.bool b:=rfl
theorem z0m(k:IntKind)(z:Int):(AVal.int k z).need=True:=rfl
theorem zf6(b:Id)(i o:Nat):(AVal.ptr b i o).need=True:=rfl
theorem zuu(f:Fn)(a c:List AVal):(AVal.fn f a c).need=True:=rfl
theorem X4(b:Bool):(AVal.bool b).need=True:=rfl
theorem zh6{f:FuncId}{bm:List Nat}{L:LFn}(hL:wb P bm f=some L)(hok:uk P f)(hn:2≤L.lay.n){ag:Bool}{s:Nat}(hb:L.body=z60 ag s)(hr:L.res=[]){l:Nat}{bx:Id}{K:AHeap→Nat→Prop}(G:Nat→AHeap→Nat→Prop)
 (hstep:∀i H n,G (i+1) H n→i<4611686018427387904∧∃sl p el,sl.plain∧p.plain∧el.plain∧XOk (z05 false 1 H (.ptr bx 0 0)) sl∧XOk (z1x s sl.rd (.int .i64 (i:Int))) p∧XOk (z05 ag s H p) el ∧
  ACalls P (.yield l) [.int .i64 (i:Int),el] H n (fun v H' n'=>(v=.bool true∧G i H' n')∨(v=.bool false∧K H' n')))
 (hend:∀H n,G 0 H n→K H n) {len:Nat} {H:AHeap} {n:Nat} (hG:G len H n) (hlen:len≤4611686018427387904) {sl:AVal} (h1:sl.plain) (h2:XOk (z05 false 1 H (.ptr bx 0 0)) sl) (h3:XOk (zct sl.rd) (.int .i64 (len:Int))) :
 ACalls P (.func f) [.fn (.yield l) [] [],.ptr bx 0 0] H n (fun _ H' n'=>K H' n'):=by
 refine ACalls.ofFnW hL hok (by simpa using hn) ?_
 rw[hb,hr]
 unfold z60
 refine J3 (yx (.region _) _ _ _ _ ?_)
 obtain⟨s1,e1,d1⟩:=h2
 obtain⟨s2,e2,d2⟩:=h3
 have h1a:=h1.1
 have h1b:=h1.2
 simp[Ju,V7,ws,w5,LOpd.ev,LOpd.need,Env.get,Env.put,ye,Vz,z8n,z0m,zf6,e1,XR.and,h1a,h1b,e2,zku,d1,d2]
 rw[zz6 hlen]
 refine Xe ?_
 refine z7h (ι:=Nat×Env×AHeap×Nat) (fun y=>y.1≤4611686018427387904∧G y.1 y.2.2.1 y.2.2.2∧y.2.1.get 3=.int .i64 ((y.1:Int)-1)∧y.2.1.get 0=.fn (.yield l) [] []∧y.2.1.get 1=.ptr bx 0 0) (fun y=>y.2.1) (fun y=>y.2.2.1) (fun y=>y.2.2.2) (fun y=>y.1) ?_ (len,_,H,n) ⟨hlen,hG,by simp[Env.get],by simp[Env.get],by simp[Env.get]⟩
 rintro⟨i,e,H,n⟩ ⟨hi,hG,q3,q0,q1⟩
 simp only at hi hG q3 q0 q1 ⊢
 refine J3 (J3 (yx (.region _) _ _ _ _ ?_))
 simp[Ju,V7,ws,w5,LOpd.ev,LOpd.need,Env.get,Env.put,Vz,z0m,XR.and,zku,q3]
 cases i with
 |zero=>
  refine Q9 (v:=false) (by simp[LOpd.ev,Env.get,Yc]) (by simp[LOpd.need,Env.get,X4]) (fun h=>by cases h) (fun _=>yx (.exit 0) _ _ _ _ ?_)
  simp only[V7,if_true]
  exact hend _ _ hG
 |succ i=>
  obtain⟨hi2,sl,p,el,hsl,hp,hel,⟨t1,k1,c1⟩,⟨t2,k2,c2⟩,⟨t3,k3,c3⟩,hcall⟩:=hstep _ _ _ hG
  refine Q9 (v:=true) (by simp[LOpd.ev,Env.get,Yc];omega) (by simp[LOpd.need,Env.get,X4]) (fun _=>yx .skip _ _ _ _ ?_) (fun h=>by cases h)
  simp only[V7]
  have a1:=hsl.1
  have a2:=hsl.2
  have a3:=hp.1
  have a4:=hp.2
  have a5:=hel.1
  have a6:=hel.2
  have hcast:((i+1:Nat):Int)-1=(i:Int):=by omega
  rw[hcast] at q3 ⊢
  refine J3 (Xe (J3 (yx (.region _) _ _ _ _ ?_)))
  simp[Ju,V7,ws,w5,ky,evs,Jh,LOpd.ev,LOpd.need,Env.get,Env.put,Vz,z0m,z8n,zf6,zro,zuu,XR.and,q3,q0,q1,k1,c1,k2,c2,k3,c3,a1,a2,a3,a4,a5,a6]
  refine ACallsC.mono (f:=.yield l) (first:=[]) (caps:=[]) ⟨rfl,by simpa using hcall⟩ ?_
  rintro v H' n' (⟨rfl,hG'⟩|⟨rfl,hK⟩)
  ·simp[Yc,X4,xun]
   refine Q9 (v:=false) (by simp[LOpd.ev,Env.get,Yc]) (by simp[LOpd.need,Env.get,X4]) (fun h=>by cases h) (fun _=>yx .skip _ _ _ _ ?_)
   simp only[V7]
   refine yx (.region _) _ _ _ _ ?_
   simp[Ju,V7,ws,w5,LOpd.ev,LOpd.need,Env.get,Env.put,Vz,z0m,XR.and,zku,q3]
   exact⟨i,_,_,_,⟨by omega,hG',by simp[Env.get];exact zz6 (by omega),by simp[Env.get,q0],by simp[Env.get,q1]⟩,by omega,rfl,rfl,rfl⟩
  ·simp[Yc,X4,xun]
   refine Q9 (v:=true) (by simp[LOpd.ev,Env.get,Yc]) (by simp[LOpd.need,Env.get,X4]) (fun _=>yx .ret _ _ _ _ ?_) (fun h=>by cases h)
   simp only[V7]
   exact hK
end Go.Fx
