/-
  Own framework.
-/
import Derived.Test.YtlilpmnmedmjaaaGreatDoorFxZ
namespace Go.Fx
set_option linter.unusedVariables false
variable {P:Program} {N:Lay} {n0:Nat}
def Sim(n0:Nat)(e':Env)(H':AHeap)(n':Nat)(e:Env)(L:AHeap)(n:Nat):Prop:=
 ∀ (I0:Nat→Nat→Prop) (β0:Id→Option CLoc) (H0:AHeap) (w0:World) (I:Nat→Nat→Prop) (β:Id→Option CLoc) (w:World) (a:Act),Ext I0 β0 n0 H0 w0 I β n' H' w→Inv I β n' H' w→RepEnv I β n' w e' a →
  ∃I2 β2,Ext I0 β0 n0 H0 w0 I2 β2 n L w∧Inv I2 β2 n L w∧RepEnv I2 β2 n w e a
theorem Sim.of{n n':Nat}{e e':Env}{H' L:AHeap}(h:y3f n0 n e' H' e L):Sim n0 e' H' n' e L n:=by
 intro I0 β0 H0 w0 I β w a hX hI hE
 obtain⟨F,ρ,hρ,hEnv,hHeap⟩:=h
 obtain⟨k1,k2⟩:=zds hX hI hρ hHeap
 exact⟨_,_,k1,k2,fun t=>z00 hI hρ (hEnv.get t) (hE t)⟩
theorem Sim.trans{n n' n'':Nat}{e e' e'':Env}{H H' H'':AHeap}(a:Sim n0 e'' H'' n'' e' H' n')(b:Sim n0 e' H' n' e H n):Sim n0 e'' H'' n'' e H n:=by
 intro I0 β0 H0 w0 I β w ac hX hI hE
 obtain⟨I2,β2,h1,h2,h3⟩:=a I0 β0 H0 w0 I β w ac hX hI hE
 exact b I0 β0 H0 w0 I2 β2 w ac h1 h2 h3
theorem LWp.sim{n n':Nat}{lc:LCode}{Q:Exit→Env→AHeap→Nat→Prop}{H' L:AHeap}{e e':Env}(hs:Sim n0 e' H' n' e L n)(h:LWp P N n0 lc Q e L n):LWp P N n0 lc Q e' H' n':=by
 intro c hc ro hro J0 γ0 G0 w0 I β w a hX hI hE hN hD QQ hQ
 obtain⟨I2,β2,k1,k2,k3⟩:=hs J0 γ0 G0 w0 I β w a hX hI hE
 exact h c hc ro hro J0 γ0 G0 w0 I2 β2 w a k1 k2 k3 hN hD QQ hQ
def Ya(P:Program)(N:Lay)(n0:Nat)(b:LCode)(Q:Exit→Env→AHeap→Nat→Prop):Exit→Env→AHeap→Nat→Prop:=fun ex e H n=>match ex with
 |.normal=>LWp P N n0 b Q e H n
 |ex=>Q ex e H n
def xa(id:Nat)(Q:Exit→Env→AHeap→Nat→Prop):Exit→Env→AHeap→Nat→Prop:=fun ex e H n=>match ex with
 |.exit i=>(match Nat.beq i id with|true=>Q .normal e H n|false=>Q (.exit i) e H n)
 |ex=>Q ex e H n
theorem zc{a b:LCode}{Q:Exit→Env→AHeap→Nat→Prop}{e:Env}{H:AHeap}{n:Nat}(h:LWp P N n0 a (Ya P N n0 b Q) e H n):LWp P N n0 (.seq a b) Q e H n:=
 J3 (h.mono fun ex e H n hx=>by cases ex<;>exact hx)
theorem jj{id:Nat}{a:LCode}{Q:Exit→Env→AHeap→Nat→Prop}{e:Env}{H:AHeap}{n:Nat}(h:LWp P N n0 a (xa id Q) e H n):LWp P N n0 (.block id a) Q e H n:=
 Xe (h.mono fun ex e H n hx=>by
  cases ex with
  |exit i=>
   simp only[xa] at hx
   simp only
   split at hx
   ·rename_i hi;rw[if_pos (Nat.eq_of_beq_eq_true hi)];exact hx
   ·rename_i hi;rw[if_neg (Nat.ne_of_beq_eq_false hi)];exact hx
  |_=>exact hx)
theorem yp{c:LOpd}{a b:LCode}{v:Bool}{Q:Exit→Env→AHeap→Nat→Prop}{e:Env}{H:AHeap}{n:Nat}(hv:c.ev e=.bool v)(hn:c.need e)(h1:v=true→LWp P N n0 a Q e H n)(h2:v=false→LWp P N n0 b Q e H n):LWp P N n0 (.cond c a b) Q e H n:=Q9 hv hn h1 h2
theorem xr{Q:Exit→Env→AHeap→Nat→Prop}{e:Env}{H:AHeap}{n:Nat}(h:Q .normal e H n):LWp P N n0 .skip Q e H n:=Za .skip h
theorem wo{Q:Exit→Env→AHeap→Nat→Prop}{e:Env}{H:AHeap}{n:Nat}(h:Q .ret e H n):LWp P N n0 .ret Q e H n:=Za .ret h
theorem Jr{i:Nat}{Q:Exit→Env→AHeap→Nat→Prop}{e:Env}{H:AHeap}{n:Nat}(h:Q (.exit i) e H n):LWp P N n0 (.exit i) Q e H n:=Za (.exit i) h
theorem zh{ops:List LOper}{Q:Exit→Env→AHeap→Nat→Prop}{e:Env}{H:AHeap}{n:Nat}(h:zpg P ops (Q .normal) e H n):LWp P N n0 (.region ops) Q e H n:=Za (.region ops) h
theorem zyx{ops:List LOper}{Q:Exit→Env→AHeap→Nat→Prop}{e:Env}{H:AHeap}{n:Nat}(h:yqs ops (Q .normal) e H n):LWp P N n0 (.quiet ops) Q e H n:=Za (.quiet ops) h
theorem U8{items:List DItem}{Q:Exit→Env→AHeap→Nat→Prop}{e:Env}{H:AHeap}{n:Nat}(h:yd P items 0 [] (Q .normal) e H n):LWp P N n0 (.draw items) Q e H n:=Za (.draw items) h
def Wy{σ ρ:Type}(b:σ→Option (σ ⊕ ρ)):Nat→σ→Option ρ
 |0,_=>none
 |m+1,s=>match b s with
  |none=>none
  |some (.inl s')=>Wy b m s'
  |some (.inr r)=>some r
theorem U0{σ ρ:Type}{b:σ→Option (σ ⊕ ρ)}:∀ {m k:Nat} {s:σ} {r:ρ},m≤k→Wy b m s=some r→Wy b k s=some r
 |0,_,_,_,_,h=>by cases h
 |m+1,0,_,_,hk,_=>by omega
 |m+1,k+1,s,r,hk,h=>by
  unfold Wy at h ⊢
  split at h
  ·cases h
  ·exact U0 (by omega) h
  ·exact h
noncomputable def zax{σ ρ:Type}(b:σ→Option (σ ⊕ ρ))(s:σ):Option ρ:=by
 classical
 exact if h:∃m r,Wy b m s=some r then some (Classical.choose (Classical.choose_spec h)) else none
theorem Qw{σ ρ:Type}{b:σ→Option (σ ⊕ ρ)}{s:σ}{r:ρ}:zax b s=some r↔∃m,Wy b m s=some r:=by
 unfold zax
 constructor
 ·intro h
  split at h
  ·rename_i hex
   simp only[Option.some.injEq] at h
   exact⟨_,by rw[←h];exact Classical.choose_spec (Classical.choose_spec hex)⟩
  ·cases h
 ·rintro⟨m,hm⟩
  have hex:∃m r,Wy b m s=some r:=⟨m,r,hm⟩
  rw[dif_pos hex]
  have h2:=Classical.choose_spec (Classical.choose_spec hex)
  have h3:=U0 (Nat.le_max_left m (Classical.choose hex)) hm
  have h4:=U0 (Nat.le_max_right m (Classical.choose hex)) h2
  rw[h3] at h4
  rw[h4]
theorem zr1{σ ρ:Type}(b:σ→Option (σ ⊕ ρ))(s:σ):zax b s=match b s with
 |none=>none
 |some (.inl s')=>zax b s'
 |some (.inr r)=>some r:=by
 apply Option.ext
 intro r
 cases hb:b s with
 |none=>
  simp only[reduceCtorEq,iff_false]
  rw[Qw]
  rintro⟨m,hm⟩
  cases m with
  |zero=>cases hm
  |succ m=>simp[Wy,hb] at hm
 |some x=>
  cases x with
  |inl s'=>
   simp only
   rw[Qw,Qw]
   constructor
   ·rintro⟨m,hm⟩
    cases m with
    |zero=>cases hm
    |succ m=>exact⟨m,by simpa[Wy,hb] using hm⟩
   ·rintro⟨m,hm⟩
    exact⟨m+1,by simpa[Wy,hb] using hm⟩
  |inr r'=>
   simp only[Option.some.injEq]
   rw[Qw]
   constructor
   ·rintro⟨m,hm⟩
    cases m with
    |zero=>cases hm
    |succ m=>simpa[Wy,hb] using hm
   ·intro h
    exact⟨1,by simp[Wy,hb,h]⟩
def Z2{σ ρ:Type}(n0 nL:Nat)(env:σ→Env)(hp:σ→AHeap)(QX:ρ→Exit→Env→AHeap→Nat→Prop):σ ⊕ ρ→Exit→Env→AHeap→Nat→Prop
 |.inl s,ex,e,H,n=>ex=.normal∧Sim n0 e H n (env s) (hp s) nL
 |.inr r,ex,e,H,n=>ex≠.normal∧QX r ex e H n
theorem zjp{σ ρ:Type}{c:LCode}{nL:Nat}(body:σ→Option (σ ⊕ ρ))(env:σ→Env)(hp:σ→AHeap)(QX:ρ→Exit→Env→AHeap→Nat→Prop)
 (h:∀s o,body s=some o→LWp P N n0 c (Z2 n0 nL env hp QX o) (env s) (hp s) nL) {s:σ} {r:ρ} (hr:zax body s=some r):LWp P N n0 (.loop c) (QX r) (env s) (hp s) nL:=by
 obtain⟨m0,hm0⟩:=Qw.1 hr
 intro cc hc ro hro J0 γ0 G0 w0 I β w a hX hI hE hN hD QQ hQ
 cases cc with
 |loop c'=>
  simp only[y1,Option.map_eq_some_iff] at hc
  obtain⟨b',hb,hc⟩:=hc
  simp only[LCode.loop.injEq] at hc
  subst hc
  let Inside:Nat→Act→World→Prop:=fun m a w=>∃s I β,Wy body m s=some r∧Ext J0 γ0 n0 G0 w0 I β nL (hp s) w∧Inv I β nL (hp s) w∧RepEnv I β nL w (env s) a∧a.tmps.size=N.n∧Dfr P w0.heap.size w a.defers
  let mu:Act→World→Nat:=fun a w=>by
   classical
   exact if h:∃m,Inside m a w then Classical.choose (Z5 _ h) else 0
  have mu_spec:∀a w,(∃m,Inside m a w)→Inside (mu a w) a w∧∀k,k<mu a w→¬Inside k a w:=by
   intro a w h
   have:mu a w=Classical.choose (Z5 _ h):=by simp only[mu];rw[dif_pos h]
   rw[this]
   exact Classical.choose_spec (Z5 _ h)
  refine wpIn_loop (fun a w=>∃m,Inside m a w) mu ⟨m0,s,I,β,hm0,hX,hI,hE,hN,hD⟩ ?_
  intro a w hin
  obtain⟨⟨s,I,β,hm,k1,k2,k3,k4,k5⟩,_⟩:=mu_spec a w hin
  cases hmu:mu a w with
  |zero=>rw[hmu] at hm;cases hm
  |succ m=>
   rw[hmu] at hm
   unfold Wy at hm
   cases hbs:body s with
   |none=>rw[hbs] at hm;cases hm
   |some o=>
    rw[hbs] at hm
    refine h s o hbs c' hb ro hro J0 γ0 G0 w0 I β w a k1 k2 k3 k4 k5 _ ?_
    intro ex e' H' n' I' β' w' a' g1 g2 g3 g4 g5 g6
    cases o with
    |inl s'=>
     obtain⟨rfl,hsim⟩:=g1
     obtain⟨I2,β2,q1,q2,q3⟩:=hsim J0 γ0 G0 w0 I' β' w' a' g6 g2 g3
     have hin':Inside m a' w':=⟨s',I2,β2,hm,q1,q2,q3,g4,g5⟩
     refine⟨⟨_,hin'⟩,?_⟩
     obtain⟨_,hleast⟩:=mu_spec a' w' ⟨_,hin'⟩
     have:¬m<mu a' w':=fun h=>hleast _ h hin'
     omega
    |inr r'=>
     obtain⟨hne,hq⟩:=g1
     simp only[Option.some.injEq] at hm
     subst hm
     cases ex with
     |normal=>exact absurd rfl hne
     |_=>exact hQ _ _ _ _ _ _ _ _ hq g2 g3 g4 g5 g6
 |skip=>cases hc
 |region id ops draw=>simp only[y1] at hc;split at hc<;>(try split at hc)<;>(try split at hc)<;>(try split at hc)<;>(try split at hc)<;>(first|(simp at hc;done)|(rcases ub hc with⟨_,h⟩|⟨_,_,_,h⟩<;>cases h))
 |seq a b=>simp only[y1] at hc;split at hc<;>simp at hc
 |cond c a b=>simp only[y1] at hc;split at hc<;>simp at hc
 |block id c=>simp[y1] at hc
 |exit id=>cases hc
 |ret=>cases hc
 |rangeFunc g ps x y=>simp only[y1] at hc;split at hc<;>simp at hc
 |_=>cases hc
noncomputable def Y1{σ ρ:Type}(m:Option Nat)(b:σ→Option (σ ⊕ ρ))(s:σ):Option ρ:=match m with
 |none=>zax b s
 |some k=>Wy b k s
theorem zwm{σ ρ:Type}{m:Option Nat}{b:σ→Option (σ ⊕ ρ)}{s:σ}{r:ρ}(h:Y1 m b s=some r):zax b s=some r:=by
 cases m with
 |none=>exact h
 |some k=>exact Qw.2 ⟨k,h⟩
theorem ww{σ ρ:Type}{c:LCode}{nL:Nat}{m:Option Nat}(body:σ→Option (σ ⊕ ρ))(env:σ→Env)(hp:σ→AHeap)(QX:ρ→Exit→Env→AHeap→Nat→Prop)
 (h:∀s o,body s=some o→LWp P N n0 c (Z2 n0 nL env hp QX o) (env s) (hp s) nL) {s:σ} {r:ρ} (hr:Y1 m body s=some r):LWp P N n0 (.loop c) (QX r) (env s) (hp s) nL:=zjp body env hp QX h (zwm hr)
def z7s:List (Id×Id)→Id→Option Id
 |[],_=>none
 |(a,b)::r,i=>if a=i then some b else z7s r i
theorem ux:∀ {M:List (Id×Id)} {i k:Id},z7s M i=some k→(i,k)∈M
 |[],i,k,h=>by cases h
 |(a,b)::r,i,k,h=>by
  unfold z7s at h
  split at h
  ·rename_i hab
   simp only[Option.some.injEq] at h
   subst hab;subst h
   exact List.mem_cons_self ..
  ·exact List.mem_cons_of_mem _ (ux h)
def rho(n0:Nat)(M:List (Id×Id))(id:Id):Option Id:=match z7s M id with
 |some k=>some k
 |none=>if id.1<n0∧¬(M.map (·.2)).contains id=true then some id else none
def Ur(n0 n:Nat)(H:AHeap)(M:List (Id×Id)):Bool:=
 Nat.ble n0 n&&M.all (fun x=>Nat.ble n0 x.1.1&&Nat.ble (x.1.1+1) n&&(Nat.ble n0 x.2.1 || (H.get x.2).isSome))&&(M.map (·.2)).Nodup
theorem Vq{M:List (Id×Id)}{i j k:Id}(h:(M.map (·.2)).Nodup)(h1:(i,k)∈M)(h2:(j,k)∈M):i=j:=by
 induction M with
 |nil=>cases h1
 |cons x r ih=>
  simp only[List.map_cons,List.nodup_cons] at h
  rcases List.mem_cons.1 h1 with e1|h1<;>rcases List.mem_cons.1 h2 with e2|h2
  ·rw[←e1] at e2;simp only[Prod.mk.injEq] at e2;exact e2.1.symm
  ·exact absurd (List.mem_map.2 ⟨_,h2,by rw[←e1]⟩) h.1
  ·exact absurd (List.mem_map.2 ⟨_,h1,by rw[←e2]⟩) h.1
  ·exact ih h.2 h1 h2
theorem Xj{n0:Nat}{M:List (Id×Id)}{i k:Id}(h:rho n0 M i=some k):(i,k)∈M∨(i.1<n0∧k=i∧k∉M.map (·.2)):=by
 unfold rho at h
 split at h
 ·rename_i k' hk;simp only[Option.some.injEq] at h;subst h;exact .inl (ux hk)
 ·split at h
  ·rename_i hc
   simp only[Option.some.injEq] at h
   subst h
   exact .inr ⟨hc.1,rfl,by simpa using hc.2⟩
  ·cases h
structure RhoChk(n0 n:Nat)(H:AHeap)(M:List (Id×Id)):Prop where
 le:n0≤n
 all:∀x∈M,n0≤x.1.1∧x.1.1<n∧(n0≤x.2.1∨H.get x.2≠none)
 nd:(M.map (·.2)).Nodup
theorem z93{n0 n:Nat}{H:AHeap}{M:List (Id×Id)}(h:Ur n0 n H M=true):RhoChk n0 n H M:=by
 unfold Ur at h
 simp only[Bool.and_eq_true,List.all_eq_true,decide_eq_true_eq,Bool.or_eq_true] at h
 obtain⟨⟨h0,h1⟩,h2⟩:=h
 refine⟨Nat.le_of_ble_eq_true h0,fun x hx=>?_,h2⟩
 obtain⟨⟨a,b⟩,c⟩:=h1 x hx
 refine⟨Nat.le_of_ble_eq_true a,Nat.le_of_ble_eq_true b,?_⟩
 rcases c with c|c
 ·exact .inl (Nat.le_of_ble_eq_true c)
 ·right;intro hn;rw[hn] at c;cases c
theorem zk1{n0 n:Nat}{H:AHeap}{M:List (Id×Id)}(h:RhoChk n0 n H M){i:Id}(hi:i.1<n0):rho n0 M i=some i∨(rho n0 M i=none∧H.get i≠none):=by
 have hl:z7s M i=none:=by
  cases hk:z7s M i with
  |none=>rfl
  |some k=>have:=(h.all _ (ux hk)).1;simp only at this;omega
 unfold rho
 rw[hl]
 by_cases hc:(M.map (·.2)).contains i=true
 ·right
  refine⟨by simp only;rw[if_neg (fun hh=>hh.2 hc)],?_⟩
  simp only[List.contains_eq_any_beq,List.any_eq_true,beq_iff_eq] at hc
  obtain⟨k,hk,rfl⟩:=hc
  obtain⟨x,hx,rfl⟩:=List.mem_map.1 hk
  rcases(h.all x hx).2.2 with h3|h3
  ·omega
  ·exact h3
 ·left
  simp only
  rw[if_pos ⟨hi,hc⟩]
theorem zyv{n0 n:Nat}{H:AHeap}{M:List (Id×Id)}{F:Id→Bool}(h:RhoChk n0 n H M)(hF:∀i:Id,i.1<n0→F i=false):RhoOk n0 n F H (rho n0 M):=by
 refine⟨fun i j k hi hj=>?_,fun i k hi=>?_,fun i hi=>?_,fun i k hi hk=>?_,h.le⟩
 ·rcases Xj hi with g1|⟨g1,g1',g1''⟩<;>rcases Xj hj with g2|⟨g2,g2',g2''⟩
  ·exact Vq h.nd g1 g2
  ·exact absurd (List.mem_map.2 ⟨_,g1,rfl⟩) g2''
  ·exact absurd (List.mem_map.2 ⟨_,g2,rfl⟩) g1''
  ·rw[←g1',←g2']
 ·rcases Xj hi with g|⟨g,g',_⟩
  ·exact(h.all _ g).2.1
  ·have:=h.le;omega
 ·rcases zk1 h hi with g|g
  ·exact .inl ⟨g,hF i hi⟩
  ·exact .inr g
 ·rcases Xj hk with g|⟨g,g',_⟩
  ·exact(h.all _ g).2.2
  ·omega
theorem zqv{n0 n:Nat}{H:AHeap}{M:List (Id×Id)}{F:Id→Bool}(h:Ur n0 n H M=true)(hF:∀i:Id,i.1<n0→F i=false):RhoOk n0 n F H (rho n0 M):=zyv (z93 h) hF
theorem um{α:Type}[Inhabited α](f:α→List AVal)(l:List α)(i:Nat)(h:i<l.length):(l.map f).getD i []=f (l.getD i default):=by
 simp[List.getD_eq_getElem?_getD,h]
theorem Ze{α:Type}{l:List α}{j:Int}(h:0≤j∧j<(l.length:Int)):j.toNat<l.length:=by omega
theorem qv{c:Prop}[Decidable c]{α:Type}{x:Option α}{o:α}(h:(if c then x else none)=some o):c∧x=some o:=by
 split at h
 ·exact⟨by assumption,h⟩
 ·cases h
theorem zj{c:Bool}{α:Type}{x y:Option α}{o:α}(hc:c=true)(h:(if c=true then x else y)=some o):x=some o:=by rw[if_pos hc] at h;exact h
theorem zo{c:Bool}{α:Type}{x y:Option α}{o:α}(hc:c=false)(h:(if c=true then x else y)=some o):y=some o:=by subst hc;exact h
theorem bind_some{α γ:Type}{x:Option α}{f:α→Option γ}{o:γ}(h:x.bind f=some o):∃r,x=some r∧f r=some o:=Option.bind_eq_some_iff.1 h
theorem bqt{c:Bool}(h:c=true):(c==true)=true:=by rw[h];rfl
theorem bqf{c:Bool}(h:c=false):(c==false)=true:=by rw[h];rfl
theorem z5z{a b:Bool}(h1:a=true)(h2:b=true):(a&&b)=true:=by rw[h1,h2];rfl
theorem Ww{α:Type}(f:α→List AVal)(l m:List α):l.map f++m.map f=(l++m).map f:=List.map_append.symm
theorem zvt{α:Type}(f:α→List AVal)(tok:Id)(s:Nat)(l:List α)(a:Nat):AVal.osl tok s ((l.map f).drop a)=.osl tok s ((l.drop a).map f):=by
 rw[List.map_drop]
abbrev W(n:Int):Int:=IntKind.wrap .i64 n
def y4a(c:UInt8):Int:=(c.toNat:Int)
def y46(n:Int):UInt8:=UInt8.ofNat n.toNat
def y49(x:Int):List AVal:=[.int .u8 x]
def VwL(F:Id→Bool)(H:AHeap)(ρ:Id→Option Id)(n:Nat):List AVal→List AVal→Prop
 |[],[]=>True
 |x::xs,y::ys=>Vw F H ρ n x y∧VwL F H ρ n xs ys
 |_,_=>False
theorem Yl{F:Id→Bool}{H:AHeap}{ρ:Id→Option Id}{n:Nat}:∀ {xs ys:List AVal},VwL F H ρ n xs ys→xs.length=ys.length∧∀ (i:Nat) (x y:AVal),xs[i]?=some x→ys[i]?=some y→Vw F H ρ n x y
 |[],[],_=>⟨rfl,fun i x y h _=>by simp at h⟩
 |[],_::_,h=>h.elim
 |_::_,[],h=>h.elim
 |x::xs,y::ys,h=>by
  obtain⟨h1,h2⟩:=Yl h.2
  refine⟨by simp[h1],fun i a b ha hb=>?_⟩
  cases i with
  |zero=>simp only[List.getElem?_cons_zero,Option.some.injEq] at ha hb;subst ha;subst hb;exact h.1
  |succ i=>exact h2 i a b (by simpa using ha) (by simpa using hb)
theorem Vw.tupL{F:Id→Bool}{H:AHeap}{ρ:Id→Option Id}{n:Nat}{xs ys:List AVal}(h:VwL F H ρ n xs ys):Vw F H ρ n (.tup xs) (.tup ys):=.tup _ _ (Yl h).1 (Yl h).2
theorem Vw.aggL{F:Id→Bool}{H:AHeap}{ρ:Id→Option Id}{n:Nat}{xs ys:List AVal}(h:VwL F H ρ n xs ys):Vw F H ρ n (.agg xs) (.agg ys):=.agg _ _ (Yl h).1 (Yl h).2
theorem BVw.oneL{F:Id→Bool}{H:AHeap}{ρ:Id→Option Id}{n:Nat}{xs ys:List AVal}(h:VwL F H ρ n xs ys):BVw F H ρ n (.one xs) (.one ys):=.one _ _ (Yl h).1 (Yl h).2
theorem zeq{F:Id→Bool}{H:AHeap}{ρ:Id→Option Id}{n:Nat}:∀ {xs:List AVal},AVal.nid.nidL xs=true→∀ (i:Nat) (x y:AVal),xs[i]?=some x→xs[i]?=some y→Vw F H ρ n x y
 |[],_,i,x,y,h,_=>by simp at h
 |z::r,hn,i,x,y,h,h'=>by
  simp only[AVal.nid.nidL,Bool.and_eq_true] at hn
  cases i with
  |zero=>simp only[List.getElem?_cons_zero,Option.some.injEq] at h h';subst h;subst h';exact .same _ hn.1
  |succ i=>exact zeq hn.2 i x y (by simpa using h) (by simpa using h')
theorem BVw.enc{F:Id→Bool}{H:AHeap}{ρ:Id→Option Id}{n:Nat}{α:Type}(f:α→List AVal)(hf:∀x,AVal.nid.nidL (f x)=true)(s:Nat)(l:List α):BVw F H ρ n (.rows s (l.map f)) (.rows s (l.map f)):=by
 refine .rows s _ _ rfl fun i r r' h h'=>?_
 rw[h] at h'
 simp only[Option.some.injEq] at h'
 subst h'
 rw[List.getElem?_map] at h
 cases hl:l[i]? with
 |none=>rw[hl] at h;cases h
 |some x=>
  rw[hl] at h
  simp only[Option.map_some,Option.some.injEq] at h
  subst h
  exact⟨rfl,zeq (hf x)⟩
theorem Un:∀H:AHeap,AHeap.without (fun _=>false) H=H
 |[]=>rfl
 |(k,b)::r=>by
  simp only[AHeap.without,Bool.false_eq_true,if_false]
  rw[Un r]
theorem PFn.call{f:FuncId}{args args0:List AVal}{R:AVal}(h:PFn P f args0 R){H:AHeap}{n:Nat}{K:AVal→AHeap→Nat→Prop}(ha:ArgsTo (fun _=>false) H (fun _=>none) 0 args args0)(hk:K R H n):ACalls P f args H n K:=
 PFn.use h ha (fun x hx=>by cases hx) (by rw[Un];exact hk)
theorem qq{n n':Nat}{M:List (Id×Id)}{e' e:Env}{H' L:AHeap}(hρ:Ur n0 n H' M=true)(hE:EnvTo (fun _=>false) H' (rho n0 M) n e' e)(hH:HeapTo (fun _=>false) H' (rho n0 M) n0 n L):Sim n0 e' H' n' e L n:=Sim.of ⟨_,_,zqv hρ (fun _ _=>rfl),hE,hH.get⟩
theorem u5{α:Type}(f:α→List AVal){l:List α}{j:Int}(h:0≤j∧j<((l.map f).length:Int)):j.toNat<l.length:=by rw[List.length_map] at h;omega
theorem zwx{α:Type}(f:α→List AVal){s:Nat}{rows:List (List AVal)}{l:List α}{a b:Bool}(h1:rows=l.map f)(h2:a=b):AVal.isl s rows a=.isl s (l.map f) b:=by rw[h1,h2]
theorem slB{α:Type}(f:α→List AVal)(l:List α)(b:Nat):((l.map f).take b).drop 0=(l.take b).map f:=by rw[List.map_take];rfl
end Go.Fx
