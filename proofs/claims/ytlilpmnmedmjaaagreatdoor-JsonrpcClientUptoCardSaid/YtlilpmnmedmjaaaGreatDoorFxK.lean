/-
  Own framework.
-/
import Derived.Test.YtlilpmnmedmjaaaGreatDoorFxJ
import Derived.OrdersIn
import Derived.LoopIn
import Derived.RangeFuncLeaves
import Derived.RangeFuncCalls
namespace Go.Fx
set_option linter.unusedVariables false
def z0h(ro:Option Nat):Fence:={ Fence.wide with round:=ro }
theorem zbg{ro:Option Nat}{m:Nat}{P:Program}{f:FuncId}{args:Array Value}{w:World}{R:Ending→World→Prop}:CallsIn (z0h ro) m P f args w R↔Calls P f args w R:=by
 cases ro with
 |none=>exact callsIn_wide
 |some l=>exact callsIn_wide (n:=m)
theorem zyg{ro:Option Nat}{m:Nat}{P:Program}{row:String}{args:Array Value}{w:World}{R:Value→World→Prop}(h:Rows P row args w R):_root_.Go.RowsIn (z0h ro) m P row args w R:=by
 intro c cs _
 obtain⟨v,w',h1,h2⟩:=h c cs
 exact⟨v,w',h1,(stepsIn_wide (P:=P)).2 h2⟩
theorem W0{P:Program}{ro:Option Nat}{o:Oper}{a:Act}{w:World}{K:Act→World→Prop}{Q:Exit→Act→World→Prop}(hd:∀c,o.op≠.defer c)(h:o.wp P a w K Q):o.wpIn (z0h ro) 0 P a w K Q:=by
 refine⟨fun _ _=>trivial,?_⟩
 rw[Oper.semAt_eq _ _ _ hd]
 unfold Oper.wp at h
 revert h
 generalize (execOp a.eval o).run P w=r
 intro h
 have hdep:(z0h ro).depth.isSome=true→1≤0:=fun h=>by cases h
 cases r with
 |ok x w'=>
  cases x with
  |value v=>exact h
  |skip=>exact h
  |defer d=>exact h
  |enter f args=>exact⟨hdep,zbg.2 h⟩
  |row row args=>exact⟨hdep,zyg h⟩
  |_=>exact h.elim
 |halt x w'=>
  cases x with
  |panic v=>exact h
  |_=>exact h.elim
theorem zv1{ro:Option Nat}{m l:Nat}{P:Program}{f:FuncId}{tmps:Array Value}{assign body:Code}{w:World}{R:Ending→World→Prop}(h:RoundIn Fence.wide 0 P l f tmps assign body w R):RoundIn (z0h ro) m P l f tmps assign body w R:=by
 exact⟨trivial,fun c cs _=>h.2 c cs (room_wide _)⟩
theorem Xw{P:Program}{ro:Option Nat}{o:Oper}{a:Act}{w:World}{K:Act→World→Prop}{Q:Exit→Act→World→Prop}(hd:∀c,o.op≠.defer c)(h:wpR P o a w K Q):o.wpIn (z0h ro) 0 P a w K Q:=by
 rcases h with h|⟨l,fn,tmps,assign,body,h1,h2⟩
 ·exact W0 hd h
 ·refine⟨fun _ _=>trivial,?_⟩
  rw[Oper.semAt_eq _ _ _ hd,h1,Oper.uponIn_round]
  refine⟨fun h=>(by cases h),zv1 (h2.mono ?_)⟩
  rintro e w' ⟨v,rfl,h3⟩
  exact h3
def zk2(P:Program)(d:Deferred):Prop:=∀w:World,∃fv cap f args,d.target=.fn fv cap∧(invoke d.target d.args).run P w=.ok (.enter f args) w ∧
 CallsDIn Fence.wide 0 P f args .returning w (fun e u' w'=>(∃v,e=.returned v)∧u'=.returning∧w'=w)
def zgg(P:Program)(f:FuncId):Prop:=∀caps:Array Value,zk2 P { target:=.fn (.func f) caps,args:=#[] }
def MarkD(k:Nat)(w:World)(d:Deferred):Prop:=∃r,d={ target:=.collected r,args:=#[] }∧k≤r∧w.heap[r]?=some (.deferred (some []))
theorem MarkD.busy{P:Program}{k:Nat}{w:World}{d:Deferred}(h:MarkD k w d):¬zk2 P d:=by
 obtain⟨r,rfl,_⟩:=h
 intro h
 obtain⟨_,_,_,_,h,_⟩:=h w
 cases h
def Dfr(P:Program)(k:Nat)(w:World)(ds:List Deferred):Prop:=ds.Pairwise (fun a b=>a≠b∨zk2 P a)∧∀d∈ds,zk2 P d∨MarkD k w d
theorem Dfr.idle{P:Program}{k:Nat}{w:World}{ds:List Deferred}{d:Deferred}(h:Dfr P k w ds)(hd:zk2 P d):Dfr P k w (d::ds):=
 ⟨List.pairwise_cons.2 ⟨fun _ _=>.inr hd,h.1⟩,fun x hx=>by
  rcases List.mem_cons.1 hx with rfl|hx
  ·exact .inl hd
  ·exact h.2 x hx⟩
theorem Dfr.nil(P:Program)(k:Nat)(w:World):Dfr P k w []:=⟨.nil,fun _ h=>by cases h⟩
theorem zaj{I:Nat→Nat→Prop}{β:Id→Option CLoc}{n:Nat}{w:World}{c:CLoc}{b:ABlock}{r:Nat}{ds:Option (List Deferred)}(hB:RepB I β n w c b)(h3:w.heap[r]?=some (.deferred ds)):∀k,¬c.has r k:=by
 intro q hk
 have e:c.blk=r:=hk.1
 cases b with
 |rows s es=>
  obtain⟨_,⟨arr,el,fr,h,_⟩|⟨_,z,_⟩,_⟩:=hB
  ·rw[e,h3] at h;cases h
  ·have:=hk.2.2;omega
 |one cs=>
  obtain⟨_,⟨arr,el,fr,h,_⟩|⟨_,_,z⟩,_⟩:=hB
  ·rw[e,h3] at h;cases h
  ·cases z
 |amap es=>obtain⟨_,_,arr,ck,h,_⟩:=hB;rw[e,h3] at h;cases h
 |lrec l r e'=>obtain⟨_,_,_,h,_⟩:=hB;rw[e,h3] at h;cases h
 |rmap es arr ck=>obtain⟨_,_,h,_⟩:=hB;rw[e,h3] at h;cases h
 |itr m arr ck seen=>obtain⟨_,_,_,q,h,_⟩:=hB;rw[e,h3] at h;cases h
 |mbox b'=>obtain⟨_,_,_,q,h,_⟩:=hB;unfold World.cell? at h;rw[e] at h;simp[h3] at h
 |bld T g=>obtain⟨_,_,_,_,p,v,h,_⟩:=hB;rw[e,h3] at h;cases h
 |buf el bs=>
  obtain⟨h1,_,h2|⟨_,arr,fr,h,_⟩⟩:=hB
  ·have:=hk.2.2;omega
  ·rw[e,h3] at h;cases h
 |tok=>
  obtain⟨⟨v,hv⟩,_⟩:=hB q hk.2.1 hk.2.2
  unfold World.cell? at hv
  rw[e,h3] at hv
  cases hv
theorem Dfr.mono{P:Program}{I I':Nat→Nat→Prop}{β β':Id→Option CLoc}{n n':Nat}{H H':AHeap}{w w':World}{k:Nat}{ds:List Deferred}(h:Dfr P k w ds)(hI:Inv I β n H w)(hX:Ext I β n H w I' β' n' H' w'):Dfr P k w' ds:=by
 refine⟨h.1,fun d hd=>?_⟩
 rcases h.2 d hd with hi|⟨r,h1,h2,h3⟩
 ·exact .inl hi
 refine .inr ⟨r,h1,h2,?_⟩
 have hlt:r<w.heap.size:=by
  rcases Nat.lt_or_ge r w.heap.size with h|h
  ·exact h
  ·rw[Array.getElem?_eq_none h] at h3;cases h3
 rw[hX.frame r hlt fun id c q hc hg hk=>?_]
 ·exact h3
 cases hb:H.get id with
 |none=>exact hg hb
 |some b=>
  obtain⟨c',hc',hB⟩:=hI.blocks id b hb
  rw[hc] at hc'
  simp only[Option.some.injEq] at hc'
  subst hc'
  exact zaj hB h3 q hk
theorem zrp{I:Nat→Nat→Prop}{β:Id→Option CLoc}{n:Nat}{H:AHeap}{w:World}{r:Nat}{ds:Option (List Deferred)}(o:Obj)(hI:Inv I β n H w)(hr:w.heap[r]?=some (.deferred ds)) :
 Inv I β n H (w.putObj r o)∧(∀x v,Rep I β n w x v→Rep I β n (w.putObj r o) x v) ∧
 (∀ (I0:Nat→Nat→Prop) (β0:Id→Option CLoc) (n0:Nat) (H0:AHeap) (w0:World),w0.heap.size≤r→Ext I0 β0 n0 H0 w0 I β n H w→Ext I0 β0 n0 H0 w0 I β n H (w.putObj r o)):=by
 have hcell:∀b k v,w.cell? ⟨b,k,none⟩=some v→(w.putObj r o).cell? ⟨b,k,none⟩=some v:=by
  intro b k v hv
  have hne:b≠r:=by
   rintro rfl
   unfold World.cell? at hv
   rw[hr] at hv
   cases hv
  rw[cell?_of_heap (World.putObj_heap_other hne)];exact hv
 have hImm:∀b k,I b k→(w.putObj r o).cell? ⟨b,k,none⟩=w.cell? ⟨b,k,none⟩:=by
  intro b k hb
  obtain⟨v,hv⟩:=hI.imm b k hb
  rw[hv];exact hcell b k v hv
 have hobj:∀ (b:Nat) (ob:Obj),w.heap[b]?=some ob→(∀x,ob≠.deferred x)→(w.putObj r o).heap[b]?=some ob:=by
  intro b ob hb hne
  have:b≠r:=by rintro rfl;rw[hr] at hb;simp only[Option.some.injEq] at hb;exact hne _ hb.symm
  rw[World.putObj_heap_other this];exact hb
 refine⟨⟨fun id blk hid=>?_,hI.inj,fun i c b k hi hc=>by rw[World.putObj_size];exact hI.own i c b k hi hc,fun b k hb=>by rw[hImm b k hb];exact hI.imm b k hb,hI.fresh,hI.glob.mono (fun _ _ h=>h) hImm (fun b arr el fr h=>⟨arr,fr,hobj _ _ h nofun,rfl⟩)⟩,fun x v hx=>hx.mono' (fun _ _ h=>h) hImm (Nat.le_refl _) (fun _ _ _ h=>h),?_⟩
 ·obtain⟨c,hc,hB⟩:=hI.blocks id blk hid
  exact⟨c,hc,hB.mono' (fun _ _ h=>h) hImm (Nat.le_refl _) (fun _ _ _ h=>h) (fun arr el fr h=>⟨arr,fr,hobj _ _ h nofun,rfl,.inl rfl⟩) (fun b k v _ hv=>hcell b k v hv) (fun ob ho _ h=>hobj _ _ h (fun x hx=>by subst hx;cases ho))⟩
 ·intro I0 β0 n0 H0 w0 hle hX
  have hlt:∀b (ob:Obj),w0.heap[b]?=some ob→b≠r:=by
   rintro b ob hb rfl
   rw[Array.getElem?_eq_none hle] at hb;cases hb
  refine⟨hX.os,⟨hX.tape.eq,hX.tape.le⟩,hX.output,by rw[World.putObj_size];exact hX.size,fun b hb hn=>?_,fun b k v hv hn=>hcell b k v (hX.cells b k v hv hn),fun b arr el fr hb=>?_,fun b es ck hb hn=>?_,hX.imm,hX.immNew,hX.old,hX.new,hX.dom,hX.le⟩
  ·rw[World.putObj_heap_other (by omega)];exact hX.frame b hb hn
  ·obtain⟨arr',fr',h1,h2⟩:=hX.shape b arr el fr hb
   exact⟨arr',fr',by rw[World.putObj_heap_other (hlt b _ hb)];exact h1,h2⟩
  ·rw[World.putObj_heap_other (hlt b _ hb)];exact hX.maps b es ck hb hn
theorem Dfr.of_heap{P:Program}{k:Nat}{w w':World}{ds:List Deferred}(h:Dfr P k w ds)(hw:w'.heap=w.heap):Dfr P k w' ds:=⟨h.1,fun d hd=>by
 rcases h.2 d hd with hi|⟨r,h1,h2,h3⟩
 ·exact .inl hi
 exact .inr ⟨r,h1,h2,by rw[hw];exact h3⟩⟩
theorem Z0{P:Program}{vm:Bool}{o:Op}{l:LOp}(h:xq P vm o=some l):∀c,o≠.defer c:=by
 rintro c rfl
 cases h
def Z4:AVal→Bool→Option Bool
 |.bool b,want=>some (b==want)
 |.cnd q (.bool b),want=>some (q&&(b==want))
 |.tup [],_=>some false
 |_,_=>none
def z89(a:AVal):Prop:=a=.tup []∨∃x,a=.cnd false x
def Uo(p:Bool)(H:AHeap)(n:Nat)(E:(AVal→AHeap→Nat→Prop)→Prop)(K:AVal→AHeap→Nat→Prop):Prop:=
 (∃R,(p=true→E (fun r H' n'=>r=R∧H'=H∧n'=n))∧K (.cnd p R) H n)∨((p=true→E K)∧(p=false→∃u,z89 u∧K u H n))
def Ju(P:Program):List LOper→(Env→AHeap→Nat→Prop)→Env→AHeap→Nat→Prop
 |[],Q,e,H,n=>Q e H n
 |⟨d,op,none⟩::os,Q,e,H,n=>
  match ws op with
  |true=>match w5 e H op with
   |.ok side v=>side∧Ju P os Q (e.put d v) H n
   |.bad=>False
  |false=>ky P e H n (fun r H' n'=>Ju P os Q (e.put d r) H' n') op
 |⟨d,op,some (g,want)⟩::os,Q,e,H,n=>
  match Z4 (e.get g) want with
  |some p=>match ws op with
   |true=>match w5 e H op with
    |.ok side v=>(∃u,(p=true→side∧v=u)∧Ju P os Q (e.put d (.cnd p u)) H n)∨(p=false∧Ju P os Q (e.put d (.tup [])) H n)
    |.bad=>p=false∧Ju P os Q (e.put d (.tup [])) H n
   |false=>Uo p H n (fun K=>ky P e H n K op) (fun r H' n'=>Ju P os Q (e.put d r) H' n')
  |none=>False
def xqs:List LOper→(Env→AHeap→Nat→Prop)→Env→AHeap→Nat→Prop
 |[],Q,e,H,n=>Q e H n
 |⟨d,op,none⟩::os,Q,e,H,n=>match w5 e H op with
  |.ok side v=>side∧xqs os Q (e.put d v) H n
  |.bad=>False
 |⟨d,op,some (g,want)⟩::os,Q,e,H,n=>
  match Z4 (e.get g) want with
  |some p=>match w5 e H op with
   |.ok side v=>(∃u,(p=true→side∧v=u)∧xqs os Q (e.put d (.cnd p u)) H n)∨(p=false∧xqs os Q (e.put d (.tup [])) H n)
   |.bad=>p=false∧xqs os Q (e.put d (.tup [])) H n
  |none=>False
def LOper.sees(lo:LOper)(e:Env):Env:=lo.looks.map fun t=>(t,e.get t)
def Xp(e:Env)(H:AHeap)(lo:LOper):XR:=
 match lo.guard with
 |none=>w5 e H lo.op
 |some (g,want)=>match Z4 (e.get g) want with
  |some p=>match w5 e H lo.op with
   |.ok side v=>.ok (p=true→side) (.cnd p v)
   |.bad=>.ok (p=false) (.tup [])
  |none=>.bad
def z07(P:Program)(e:Env)(H:AHeap)(n:Nat)(K:AVal→AHeap→Nat→Prop)(lo:LOper):Prop:=
 match lo.guard with
 |none=>ky P e H n K lo.op
 |some (g,want)=>match Z4 (e.get g) want with
  |some p=>Uo p H n (fun K=>ky P e H n K lo.op) K
  |none=>False
def zz3(a b:AVal):Prop:=a=b∨(z89 a∧z89 b)∨∃p x y,a=.cnd p x∧b=.cnd p y∧(p=true→x=y)
def XR.gives(r:XR)(v:AVal):Prop:=match r with
 |.ok side u=>side∧zz3 u v
 |.bad=>False
def xd(P:Program):List DItem→Nat→List (Nat×LOper×Env×AVal)→(Env→AHeap→Nat→Prop)→Env→AHeap→Nat→Prop
 |[],_,_,R,e,H,n=>R e H n
 |it::rest,p,done,R,e,H,n=>
  match ws it.lo.op with
  |true=>∃v,(Xp (it.lo.sees e) H it.lo).gives v∧xd P rest (p+1) (if Zc it.lo.op then(p,it.lo,it.lo.sees e,v)::done else done) R (e.put it.lo.dst v) H n
  |false=>z07 P (it.lo.sees e) H n (fun v H' n'=>(∀x∈done,x.1∈it.loose→(Xp x.2.2.1 H' x.2.1).gives x.2.2.2)∧xd P rest (p+1) done R (e.put it.lo.dst v) H' n') it.lo
def zy9(P:Program)(N:Lay)(I:Nat→Nat→Prop)(β:Id→Option CLoc)(n:Nat)(H:AHeap)(w:World)(Q:Exit→Env→AHeap→Nat→Prop)(QQ:Exit→Act→World→Prop):Prop:=
 ∀ex e' H' n' I' β' w' a',Q ex e' H' n'→Inv I' β' n' H' w'→RepEnv I' β' n' w' e' a'→a'.tmps.size=N.n→Dfr P w.heap.size w' a'.defers→Ext I β n H w I' β' n' H' w'→QQ ex a' w'
def LWp(P:Program)(N:Lay)(n0:Nat)(lc:LCode)(Q:Exit→Env→AHeap→Nat→Prop)(e:Env)(H:AHeap)(n:Nat):Prop:=
 ∀c,y1 P N c=some lc→∀ro,(N.rd=false→ro=none)→∀I0 β0 H0 w0 I β w a,Ext I0 β0 n0 H0 w0 I β n H w→Inv I β n H w→RepEnv I β n w e a→a.tmps.size=N.n→Dfr P w0.heap.size w a.defers→∀QQ,zy9 P N I0 β0 n0 H0 w0 Q QQ→c.wpIn (z0h ro) 0 P QQ a w
def z87:AVal→AVal→Prop
 |.ptr b _ _,.ptr c _ _=>b≠c
 |_,_=>False
def V7(P:Program)(N:Lay)(n0:Nat):LCode→(Exit→Env→AHeap→Nat→Prop)→Env→AHeap→Nat→Prop
 |.skip,Q,e,H,n=>Q .normal e H n
 |.region ops,Q,e,H,n=>Ju P ops (Q .normal) e H n
 |.quiet ops,Q,e,H,n=>xqs ops (Q .normal) e H n
 |.draw items,Q,e,H,n=>xd P items 0 [] (Q .normal) e H n
 |.draw2 a b items,Q,e,H,n=>xd P items 0 [] (fun e H n=>z87 (a.ev e) (b.ev e)∧Q .normal e H n) e H n
 |.seq a b,Q,e,H,n=>V7 P N n0 a (fun ex e H n=>match ex with|.normal=>V7 P N n0 b Q e H n|ex=>Q ex e H n) e H n
 |.cond c a b,Q,e,H,n=>match c.ev e with
  |.bool v=>c.need e∧(v=true→V7 P N n0 a Q e H n)∧(v=false→V7 P N n0 b Q e H n)
  |_=>False
 |.block id c,Q,e,H,n=>V7 P N n0 c (fun ex e H n=>match ex with|.exit i=>if i=id then Q .normal e H n else Q (.exit i) e H n|ex=>Q ex e H n) e H n
 |.loop c,Q,e,H,n=>LWp P N n0 (.loop c) Q e H n
 |.rng g ps a b,Q,e,H,n=>LWp P N n0 (.rng g ps a b) Q e H n
 |.dfr f t,Q,e,H,n=>zgg P f∧Q .normal (e.put (some t) .any) H n
 |.exit id,Q,e,H,n=>Q (.exit id) e H n
 |.ret,Q,e,H,n=>Q .ret e H n
variable {P:Program}
section
variable {I:Nat→Nat→Prop} {β:Id→Option CLoc} {N:Lay} {n:Nat} {H:AHeap} {w:World} {e:Env} {a:Act}
def z91:Value→Option Bool
 |.bool b=>some b
 |_=>none
theorem Qd{x:AVal}{want p:Bool}{v:Value}(hx:Rep I β n w x v)(h:Z4 x want=some p):(z91 v==some want)=p:=by
 unfold Z4 at h
 split at h
 ·rename_i _ b
  simp only[Option.some.injEq] at h
  subst h
  rw[hx.bool_inv]
  simp[z91]
 ·rename_i _ q b
  simp only[Option.some.injEq] at h
  subst h
  cases hx with
  |imm _ _ hx=>cases hx
  |cnd _ _ _ h1 h2=>
   cases q with
   |true=>rw[(h1 rfl).bool_inv];simp[z91]
   |false=>rw[h2 rfl];simp[undef,z91]
 ·simp only[Option.some.injEq] at h
  subst h
  have:v=.tuple #[]:=by
   cases hx with
   |imm _ _ hx=>cases hx with|tup _ vs h1 h2=>have:=Array.size_eq_zero_iff.1 h1;subst this;rfl
   |tup _ vs h1 h2=>have:=Array.size_eq_zero_iff.1 h1;subst this;rfl
  subst this
  rfl
 ·cases h
theorem zfu{a:AVal}(h:z89 a){v:Value}(hr:Rep I β n w a v):v=undef:=by
 rcases h with rfl|⟨x,rfl⟩
 ·cases hr with
  |imm _ _ hx=>cases hx with|tup _ vs h1 h2=>have:=Array.size_eq_zero_iff.1 h1;subst this;rfl
  |tup _ vs h1 h2=>have:=Array.size_eq_zero_iff.1 h1;subst this;rfl
 ·cases hr with
  |imm _ _ hx=>cases hx
  |cnd _ _ _ h1 h2=>exact h2 rfl
theorem z17{a:AVal}(h:z89 a):Rep I β n w a undef:=by
 rcases h with rfl|⟨x,rfl⟩
 ·exact .tup [] #[] rfl (by simp)
 ·exact .cnd false x undef (fun h=>by cases h) (fun _=>rfl)
theorem Kb{a b:AVal}(h:zz3 a b){v:Value}(hr:Rep I β n w a v):Rep I β n w b v:=by
 rcases h with rfl|⟨h1,h2⟩|⟨p,x,y,rfl,rfl,h⟩
 ·exact hr
 ·rw[zfu h1 hr];exact z17 h2
 ·cases hr with
  |imm _ _ hr=>cases hr
  |cnd _ _ _ h1 h2=>exact .cnd p y v (fun hp=>by rw[←h hp];exact h1 hp) h2
theorem Z1{o:Oper}(h:o.guard=none)(y:Nat→Option Bool):Region.wanted o y=true:=by
 unfold Region.wanted;rw[h]
theorem J1{o:Oper}{j:Nat}{want:Bool}(h:o.guard=some (j,want))(y:Nat→Option Bool):Region.wanted o y=(y j==some want):=by
 unfold Region.wanted;rw[h]
theorem uh{ops:Array Oper}{o:Oper}{lo:LOper}(h:Yy P N ops o=some lo) :
 (∀t,o.dst=some t→t<N.n)∧lo.dst=o.dst∧lo.op=(xq P (N.vm o.dst) o.op).getD .bad∧((o.guard=none∧lo.guard=none)∨∃j want g,o.guard=some (j,want)∧lo.guard=some (g,want)∧(ops[j]?).bind (·.dst)=some g∧g<N.n):=by
 unfold Yy at h
 split at h
 ·cases h
 ·rename_i hd hg
  simp only[Option.some.injEq] at h
  subst h
  refine⟨?_,rfl,rfl,.inl ⟨hg,rfl⟩⟩
  intro t ht
  rw[ht] at hd
  simpa using hd
 ·rename_i j want hd hg
  split at h
  ·rename_i g hgd
   split at h<;>try (cases h;done)
   rename_i hlt
   simp only[Option.some.injEq] at h
   subst h
   refine⟨?_,rfl,rfl,.inr ⟨j,want,g,hg,rfl,hgd,hlt⟩⟩
   intro t ht
   rw[ht] at hd
   simpa using hd
  ·cases h
theorem Yj{vm:Bool}{o:Oper}{lo:LOper}(h:lo.op=(xq P vm o.op).getD .bad)(hne:lo.op≠.bad):xq P vm o.op=some lo.op:=by
 cases hl:xq P vm o.op with
 |none=>rw[hl] at h;exact absurd h hne
 |some x=>rw[hl] at h;exact congrArg some h.symm
theorem Jc:Rep I β n w (.tup []) undef:=.imm _ _ (.tup [] #[] rfl (by simp))
theorem Jj{ops:Array Oper}:∀ (l:List Oper) (ll:List LOper),W7 P N ops l=some ll→l.length=ll.length∧∀ (i:Nat) (o:Oper) (lo:LOper),l[i]?=some o→ll[i]?=some lo→Yy P N ops o=some lo
 |[],ll,h=>by simp[W7] at h;subst h;simp
 |o::l,ll,h=>by
  simp only[W7] at h
  cases h1:Yy P N ops o with
  |none=>simp[h1] at h
  |some lo=>
  cases h2:W7 P N ops l with
  |none=>simp[h1,h2] at h
  |some l'=>
   simp only[h1,h2,Option.some.injEq] at h
   subst h
   obtain⟨k1,k2⟩:=Jj l l' h2
   refine⟨by simp[k1],fun i o' lo' hi hi'=>?_⟩
   cases i with
   |zero=>simp at hi hi';subst hi;subst hi';exact h1
   |succ i=>exact k2 i o' lo' (by simpa using hi) (by simpa using hi')
theorem Jy{ops:Array Oper}{tmps:Array Value}{j g:Nat}(h:(ops[j]?).bind (·.dst)=some g)(hg:g<tmps.size):yielded ops tmps j=z91 (tmps.getD g undef):=by
 unfold yielded
 rw[h]
 have:tmps[g]?=some tmps[g]:=Array.getElem?_eq_getElem hg
 simp only[Option.bind_some,this]
 have:tmps.getD g undef=tmps[g]:=by simp[hg]
 rw[this]
 cases tmps[g]<;>rfl
theorem z4r{ro:Option Nat}{K0:Nat}{ops:Array Oper}{Q:Env→AHeap→Nat→Prop}{QQ:Exit→Act→World→Prop}:∀ (is:List Nat) (ll:List LOper),is.length=ll.length →
 (∀ (k i:Nat) (lo:LOper),is[k]?=some i→ll[k]?=some lo→∃o,ops[i]?=some o∧Yy P N ops o=some lo) →
 ∀ {I:Nat→Nat→Prop} {β:Id→Option CLoc} {n:Nat} {H:AHeap} {w:World} {e:Env} {a:Act},Ju P ll Q e H n→Inv I β n H w→RepEnv I β n w e a→a.tmps.size=N.n→Dfr P K0 w a.defers →
 (∀e' H' n' I' β' w' a',Q e' H' n'→Inv I' β' n' H' w'→RepEnv I' β' n' w' e' a'→a'.tmps.size=N.n→Dfr P K0 w' a'.defers→Ext I β n H w I' β' n' H' w'→QQ .normal a' w')→wpOpsIn (z0h ro) 0 P ops QQ is a w
 |[],ll,hl,_,I,β,n,H,w,e,a,h,hI,hE,hN,hD,hQ=>by
  cases ll with
  |cons _ _=>simp at hl
  |nil=>exact hQ _ _ _ _ _ _ _ h hI hE hN hD (Ext.refl _ _ _ _ _ hI.fresh)
 |i::is,ll,hl,hlow,I,β,n,H,w,e,a,h,hI,hE,hN,hD,hQ=>by
  cases ll with
  |nil=>simp at hl
  |cons lo ll=>
   obtain⟨o,ho,hlo⟩:=hlow 0 i lo rfl rfl
   obtain⟨hd,hdst,hop,hg⟩:=uh hlo
   obtain⟨d,op,guard⟩:=lo
   simp only at hdst hop hg
   subst hdst
   have hdN:∀t,o.dst=some t→t<a.tmps.size:=fun t ht=>by rw[hN];exact hd t ht
   have rest:∀ {I:Nat→Nat→Prop} {β:Id→Option CLoc} {n:Nat} {H:AHeap} {w:World} {e:Env} {a:Act},Ju P ll Q e H n→Inv I β n H w→RepEnv I β n w e a→a.tmps.size=N.n→Dfr P K0 w a.defers →
    (∀e' H' n' I' β' w' a',Q e' H' n'→Inv I' β' n' H' w'→RepEnv I' β' n' w' e' a'→a'.tmps.size=N.n→Dfr P K0 w' a'.defers→Ext I β n H w I' β' n' H' w'→QQ .normal a' w')→wpOpsIn (z0h ro) 0 P ops QQ is a w:=
    fun h1 h2 h3 h4 h5 h6=>z4r (ro:=ro) (K0:=K0) (ops:=ops) (Q:=Q) (QQ:=QQ) is ll (by simpa using hl) (fun k i lo h1 h2=>hlow (k+1) i lo h1 h2) h1 h2 h3 h4 h5 h6
   unfold wpOpsIn
   simp only[ho]
   -- the next operation, behind one that is carried out
   have eff:∀ {Kop:LOp},Kop=op→xq P (N.vm o.dst) o.op=some Kop→ky P e H n (fun r H' n'=>Ju P ll Q (e.put o.dst r) H' n') Kop→o.wpIn (z0h ro) 0 P a w (wpOpsIn (z0h ro) 0 P ops QQ is) QQ:=by
    intro Kop _ hl h
    refine Xw (Z0 hl) (W8 hI hE hl h ?_)
    intro v w' ⟨r,H',n',I',β',hK,hI',hr',hx'⟩
    refine rest hK hI' (RepEnv.put (fun t=>(hE t).mono hx' hI) hdN hr') (by rw[Act.put_size];exact hN) (by rw[Act.put_defers];exact hD.mono hI hx') ?_
    intro e' H'' n'' I'' β'' w'' a' h1 h2 h3 h4 h5 h6
    exact hQ e' H'' n'' I'' β'' w'' a' h1 h2 h3 h4 h5 (hx'.trans h6)
   have pure:∀ {Kop:LOp} {side:Prop} {v y:AVal},Kop=op→xq P (N.vm o.dst) o.op=some Kop→w5 e H Kop=.ok side v→side→(∀r,Rep I β n w v r→Rep I β n w y r)→Ju P ll Q (e.put o.dst y) H n→o.wpIn (z0h ro) 0 P a w (wpOpsIn (z0h ro) 0 P ops QQ is) QQ:=by
    intro Kop side v y _ hl hp hs hy h
    obtain⟨r,hr,hrep⟩:=V1 hI hE hl hp hs
    refine W0 (Z0 hl) ?_
    unfold Oper.wp
    rw[hr,Oper.upon_value]
    exact rest h hI (hE.put hdN (hy r hrep)) (by rw[Act.put_size];exact hN) (by rw[Act.put_defers];exact hD) hQ
   have skip:∀ {y:AVal},Rep I β n w y undef→Ju P ll Q (e.put o.dst y) H n→wpOpsIn (z0h ro) 0 P ops QQ is (a.put o.dst undef) w:=by
    intro y hy h
    exact rest h hI (hE.put hdN hy) (by rw[Act.put_size];exact hN) (by rw[Act.put_defers];exact hD) hQ
   rcases hg with⟨hg1,rfl⟩|⟨j,want,g,hg1,rfl,hg2,hg3⟩
   ·rw[Z1 hg1,if_pos rfl]
    simp only[Ju] at h
    split at h
    ·split at h
     ·rename_i side v hp
      have hne:op≠.bad:=by intro hb;rw[hb] at hp;cases hp
      exact pure rfl (Yj (lo:=⟨o.dst,op,none⟩) hop hne) hp h.1 (fun _ h=>h) h.2
     ·exact h.elim
    ·have hne:op≠.bad:=by intro hb;rw[hb] at h;exact h.elim
     exact eff rfl (Yj (lo:=⟨o.dst,op,none⟩) hop hne) h
   ·rw[J1 hg1,Jy hg2 (by rw[hN];exact hg3)]
    simp only[Ju] at h
    split at h
    ·rename_i p hp
     rw[Qd (hE g) hp]
     split at h
     ·split at h
      ·rename_i side v hpu
       have hne:op≠.bad:=by intro hb;rw[hb] at hpu;cases hpu
       rcases h with⟨u,hu,h⟩|⟨rfl,h⟩
       rotate_left
       ·rw[if_neg (by simp)];refine⟨fun _ _=>trivial,?_⟩
        exact skip Jc h
       cases p with
       |true=>
        obtain⟨hs,rfl⟩:=hu rfl
        rw[if_pos rfl]
        exact(pure rfl (Yj (lo:=⟨o.dst,op,some (g,want)⟩) hop hne) hpu hs (fun r hr=>.cnd true v r (fun _=>hr) (fun h=>by cases h)) h)
       |false=>
        rw[if_neg (by simp)];refine⟨fun _ _=>trivial,?_⟩
        exact skip (.cnd false u undef (fun h=>by cases h) (fun _=>rfl)) h
      ·obtain⟨rfl,h⟩:=h
       rw[if_neg (by simp)];refine⟨fun _ _=>trivial,?_⟩
       exact skip Jc h
     ·cases p with
      |true=>
       rw[if_pos rfl]
       rcases h with⟨R,h1,h2⟩|h
       ·have h:=h1 rfl
        have hne:op≠.bad:=by intro hb;rw[hb] at h;exact h.elim
        refine Xw (Z0 (Yj (lo:=⟨o.dst,op,some (g,want)⟩) hop hne)) (W8 hI hE (Yj (lo:=⟨o.dst,op,some (g,want)⟩) hop hne) h ?_)
        rintro v w' ⟨r,H',n',I',β',⟨rfl,rfl,rfl⟩,hI',hr',hx'⟩
        refine rest h2 hI' (RepEnv.put (fun t=>(hE t).mono hx' hI) hdN (.cnd true r v (fun _=>hr') (fun h=>by cases h))) (by rw[Act.put_size];exact hN) (by rw[Act.put_defers];exact hD.mono hI hx') ?_
        intro e' H'' n'' I'' β'' w'' a' h1 h2 h3 h4 h5 h6
        exact hQ e' H'' n'' I'' β'' w'' a' h1 h2 h3 h4 h5 (hx'.trans h6)
       ·have h:=h.1 rfl
        have hne:op≠.bad:=by intro hb;rw[hb] at h;exact h.elim
        exact(eff rfl (Yj (lo:=⟨o.dst,op,some (g,want)⟩) hop hne) h)
      |false=>
       rw[if_neg (by simp)];refine⟨fun _ _=>trivial,?_⟩
       rcases h with⟨R,_,h2⟩|h
       ·exact skip (.cnd false R undef (fun h=>by cases h) (fun _=>rfl)) h2
       ·obtain⟨u,h1,h2⟩:=h.2 rfl
        exact skip (z17 h1) h2
    ·exact h.elim
theorem z97{K0:Nat}{w0:World}{ops:Array Oper}{Q:Env→AHeap→Nat→Prop}{Qa:Act→Prop}{C:World→Prop}(hC:∀w',C w'→w'=w)(hI:Inv I β n H w):∀ (l:List Oper) (ll:List LOper),l.length=ll.length →
 (∀ (k:Nat) (o:Oper) (lo:LOper),l[k]?=some o→ll[k]?=some lo→Yy P N ops o=some lo) →
 ∀ {e:Env} {a:Act},xqs ll Q e H n→RepEnv I β n w e a→a.tmps.size=N.n→Dfr P K0 w0 a.defers →
 (∀e' a',Q e' H n→RepEnv I β n w e' a'→a'.tmps.size=N.n→Dfr P K0 w0 a'.defers→Qa a')→wpQuiet P ops C Qa l a
 |[],ll,hl,_,e,a,h,hE,hN,hD,hQ=>by
  cases ll with
  |cons _ _=>simp at hl
  |nil=>exact hQ _ _ h hE hN hD
 |o::l,ll,hl,hlow,e,a,h,hE,hN,hD,hQ=>by
  cases ll with
  |nil=>simp at hl
  |cons lo ll=>
   have hlo:=hlow 0 o lo rfl rfl
   obtain⟨hd,hdst,hop,hg⟩:=uh hlo
   obtain⟨d,op,guard⟩:=lo
   simp only at hdst hop hg
   subst hdst
   have hdN:∀t,o.dst=some t→t<a.tmps.size:=fun t ht=>by rw[hN];exact hd t ht
   have rest:∀ {y:AVal} {r:Value},Rep I β n w y r→xqs ll Q (e.put o.dst y) H n→wpQuiet P ops C Qa l (a.put o.dst r):=fun hy h=>
    z97 hC hI l ll (by simpa using hl) (fun k o lo h1 h2=>hlow (k+1) o lo h1 h2) h (hE.put hdN hy) (by rw[Act.put_size];exact hN) (by rw[Act.put_defers];exact hD) hQ
   have pure:∀ {side:Prop} {v y:AVal},w5 e H op=.ok side v→side→(∀r,Rep I β n w v r→Rep I β n w y r)→xqs ll Q (e.put o.dst y) H n→o.quiet P a C (wpQuiet P ops C Qa l):=by
    intro side v y hp hs hy h
    have hne:op≠.bad:=by intro hb;rw[hb] at hp;cases hp
    obtain⟨r,hr,hrep⟩:=V1 hI hE (Yj (lo:=⟨o.dst,op,guard⟩) hop hne) hp hs
    refine⟨r,fun w' hw'=>?_,rest (hy r hrep) h⟩
    obtain rfl:=hC w' hw'
    unfold Oper.quietAt
    rw[hr]
    exact⟨rfl,rfl⟩
   unfold wpQuiet
   rcases hg with⟨hg1,rfl⟩|⟨j,want,g,hg1,rfl,hg2,hg3⟩
   ·rw[Z1 hg1,if_pos rfl]
    simp only[xqs] at h
    split at h
    ·rename_i side v hp
     exact pure hp h.1 (fun _ h=>h) h.2
    ·exact h.elim
   ·rw[J1 hg1,Jy hg2 (by rw[hN];exact hg3)]
    simp only[xqs] at h
    split at h
    ·rename_i p hp
     rw[Qd (hE g) hp]
     split at h
     ·rename_i side v hpu
      rcases h with⟨u,hu,h⟩|⟨rfl,h⟩
      rotate_left
      ·rw[if_neg (by simp)]
       exact rest Jc h
      cases p with
      |true=>
       obtain⟨hs,rfl⟩:=hu rfl
       rw[if_pos rfl]
       exact pure hpu hs (fun r hr=>.cnd true v r (fun _=>hr) (fun h=>by cases h)) h
      |false=>
       rw[if_neg (by simp)]
       exact rest (.cnd false u undef (fun h=>by cases h) (fun _=>rfl)) h
     ·obtain⟨rfl,h⟩:=h
      rw[if_neg (by simp)]
      exact rest Jc h
    ·exact h.elim
end
end Go.Fx
