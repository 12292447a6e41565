/-
  Own framework.
-/
import Derived.Test.YtlilpmnmedmjaaaDoorFc
import Derived.Shelf.Small.Strs
import Derived.Sort.Grow
import Derived.Shelf.Unicode.ValidAny
import Derived.Lib.LaidTab
set_option linter.unusedVariables false
set_option linter.unusedSimpArgs false
open Bool renaming and_eq_true→p1
open Go.DataW renaming trod→p9
open List renaming getElem?_eq_getElem→p3,getElem?_map→p5,getD_eq_getElem?_getD→p6,getElem?_range→p7
open Nat renaming beq→p4
open Option renaming map_some→p8
open Option.some renaming injEq→p0
open Prod.mk renaming injEq→p2
namespace Go.Fx
variable {D:Id→Option ABlock} {P:Program} {H:AHeap} {n:Nat} {S S':Sh} {e:Env}
abbrev KS(D:Id→Option ABlock)(v:AVal)(S':Sh):AVal→AHeap→Nat→Prop:=fun r H' n'=>r=v∧StR D H' n' S'
def z2s(P:Program)(C:Nat→List AVal→Sh→Rs):Prop:=
 ∀ (f:Nat) aq S r S',C f aq S=some (r,S')→∀ {D:Id→Option ABlock} H n,StR D H n S→ACalls P (.func f) aq H n (KS D r S')
theorem ub{v r:AVal}{o:Option Sh}(h:Xw v o=some (r,S')):r=v∧o=some S':=by
 cases o with
 |none=>cases h
 |some S0=>
  simp only[Xw,p0,p2] at h
  exact⟨h.1.symm,by rw[h.2]⟩
theorem StR.le(hs:StR D H n S):HLe S.t.at H.get:=hs.h
theorem z0c{s:Nat}{x:AVal}{rows:List (List AVal)}(h:We H.get s x=some rows):∃p,Q4 H s x=some (p,rows)∧p:=by
 unfold We at h
 split at h
 ·split at h<;>simp only[p0,reduceCtorEq] at h
  rename_i hb
  subst h
  exact⟨_,rfl,x3.1 hb⟩
 ·split at h<;>simp only[p0,reduceCtorEq] at h
  rename_i hb
  subst h
  exact⟨_,rfl,x3.1 hb⟩
 ·split at h<;>try (cases h;done)
  rename_i hg
  split at h<;>simp only[p0,reduceCtorEq] at h
  rename_i hb
  subst h
  simp only[p1,x3,vr,and_assoc] at hb
  simp only[Q4,hg]
  exact⟨_,rfl,hb⟩
 ·simp only[p0] at h
  subst h
  exact⟨_,rfl,trivial⟩
 ·split at h<;>simp only[p0,reduceCtorEq] at h
  rename_i hb
  subst h
  exact⟨_,rfl,x3.1 hb⟩
 ·cases h
theorem Uu:∀ {ps:List (Nat×AVal)} {rows rs:List (List AVal)},z04 rows ps=some rs→∃p,Wf rows ps=some (p,rs)∧p
 |[],rows,rs,h=>by simp only[z04,p0] at h;subst h;exact⟨_,rfl,trivial⟩
 |(i,x)::r,rows,rs,h=>by
  unfold z04 at h
  split at h<;>try (cases h;done)
  rename_i cs hc
  split at h<;>try (cases h;done)
  rename_i hb
  simp only[p1,x3,vr] at hb
  obtain⟨p,h1,h2⟩:=Uu h
  simp only[Wf,hc,h1]
  exact⟨_,rfl,hb.1,hb.2,h2⟩
theorem zcq:∀ {ps:List (Nat×LOpd)} {l:List (Nat×AVal)},y2k e.get ps=some l→evI e ps=l∧Uo e ps
 |[],l,h=>by simp only[y2k,p0] at h;exact⟨h,trivial⟩
 |(i,x)::r,l,h=>by
  unfold y2k at h
  split at h<;>try (cases h;done)
  rename_i a ha
  split at h<;>simp only[p0,reduceCtorEq] at h
  rename_i l' hl
  obtain⟨h1,h2⟩:=y1 ha
  obtain⟨h3,h4⟩:=zcq hl
  exact⟨by unfold evI;rw[h1,h3];exact h,h2,h4⟩
theorem z63:∀ {rows:List (List AVal)},z6t rows=true→∀r∈rows,∃m,r=[.int .u8 m]
 |[],_,r,hr=>by cases hr
 |x::rows,h,r,hr=>by
  unfold z6t at h
  split at h
  ·cases ‹_::_=[]›
  ·rename_i k m r' heq
   simp only[List.cons.injEq] at heq
   obtain⟨rfl,rfl⟩:=heq
   simp only[p1,Ua] at h
   obtain⟨rfl,h2⟩:=h
   cases hr with
   |head=>exact⟨m,rfl⟩
   |tail _ hr=>exact z63 h2 r hr
  ·cases h
theorem zz9{s bytes:Nat}{x v:AVal}{rows2:List (List AVal)}(hs:StR D H n S)(h:y6x s bytes S x rows2=some (v,S')):zth s bytes H n (KS D v S') x rows2:=by
 unfold y6x at h
 unfold zth
 split at h
 ·simp only
  split at h
  ·simp only[p0,p2] at h
   obtain⟨rfl,rfl⟩:=h
   exact⟨fun _=>⟨rfl,hs⟩,fun hne=>absurd rfl hne⟩
  ·rename_i hne
   split at h<;>try (cases h;done)
   rename_i hb
   obtain⟨rfl,hw⟩:=ub h
   refine⟨fun he=>absurd he hne,fun _=>⟨vr.1 hb,by rw[hs.n],hs.new hw⟩⟩
 ·simp only
  split at h<;>try (cases h;done)
  rename_i he
  refine⟨x3.1 he,?_⟩
  split at h
  ·simp only[p0,p2] at h
   obtain⟨rfl,rfl⟩:=h
   exact⟨fun _=>⟨rfl,hs⟩,fun hne=>absurd rfl hne⟩
  ·rename_i hne
   split at h<;>try (cases h;done)
   rename_i hb
   simp only[p1,vr] at hb
   obtain⟨rfl,hw⟩:=ub h
   exact⟨fun he=>absurd he hne,fun _=>⟨hb.1,hb.2,by rw[hs.n],hs.new hw⟩⟩
 ·simp only
  split at h<;>try (cases h;done)
  rename_i hg
  rw[hs.h _ _ hg]
  simp only
  split at h<;>try (cases h;done)
  rename_i hb
  simp only[p1,x3,vr,and_assoc] at hb
  obtain⟨b1,b2,b3,b4⟩:=hb
  refine⟨b1,b2,b3,?_⟩
  split at h
  ·simp only[p0,p2] at h
   obtain⟨rfl,rfl⟩:=h
   exact⟨fun _ _=>⟨rfl,hs⟩,fun hne=>absurd rfl (hne rfl)⟩
  ·rename_i hne
   obtain⟨rfl,hw⟩:=ub h
   refine⟨fun _ he=>absurd he hne,fun _=>⟨b4,by rw[hs.n],?_⟩⟩
   rw[if_pos rfl]
   exact hs.new hw
  ·split at h<;>try (cases h;done)
   rename_i S1 hc
   obtain⟨rfl,hw⟩:=ub h
   have h1:=hs.cut hg hc
   refine⟨fun he=>(by cases he),fun _=>⟨b4,by rw[h1.n],?_⟩⟩
   rw[if_neg (by simp)]
   exact h1.new hw
 ·cases h
theorem zm9{C:Nat→List AVal→Sh→Rs}(hC:z2s P C){op:LOp}{v:AVal}(hs:StR D H n S)(h:y68 C e.get S op=some (v,S')):Z1 P e H n (KS D v S') op:=by
 have hn:=hs.n
 unfold y68 at h
 split at h
 ·obtain⟨rfl,hw⟩:=ub h;exact⟨by rw[hn],hs.new hw⟩
 ·obtain⟨rfl,hw⟩:=ub h;exact⟨by rw[hn],hs.new hw⟩
 ·obtain⟨rfl,hw⟩:=ub h;rw[←hn] at hw;exact⟨by rw[hn],hs.new2 hw⟩
 ·split at h<;>try (cases h;done)
  rename_i a ha
  split at h<;>try (cases h;done)
  rename_i cs hc
  obtain⟨h1,h2⟩:=y1 ha
  obtain⟨rfl,hw⟩:=ub h
  simp only[Z1,h1,hc]
  exact⟨h2,by rw[hn],hs.new hw⟩
 ·split at h<;>try (cases h;done)
  rename_i ps hps
  split at h<;>try (cases h;done)
  rename_i rows hr
  split at h<;>try (cases h;done)
  rename_i hz
  obtain⟨rfl,hw⟩:=ub h
  obtain⟨h1,h2⟩:=zcq hps
  obtain⟨p,h3,h4⟩:=Uu hr
  simp only[Z1,h1,h3]
  exact⟨x3.1 hz,h2,h4,_,.inr rfl,by rw[hn],hs.new hw⟩
 ·split at h<;>try (cases h;done)
  rename_i ps hps
  split at h<;>try (cases h;done)
  rename_i rows hr
  split at h<;>try (cases h;done)
  rename_i rows' him
  split at h<;>try (cases h;done)
  rename_i hz
  simp only[p0,p2] at h
  obtain⟨rfl,rfl⟩:=h
  obtain⟨h1,h2⟩:=zcq hps
  obtain⟨p,h3,h4⟩:=Uu hr
  simp only[Z1,h1,h3,him]
  exact⟨x3.1 hz,h2,h4,rfl,hs⟩
 ·split at h<;>try (cases h;done)
  rename_i b i off ha
  split at h<;>try (cases h;done)
  rename_i y hy
  split at h<;>try (cases h;done)
  rename_i cs hc
  obtain⟨h1,h2⟩:=y1 ha
  obtain⟨h3,h4⟩:=y1 hy
  simp only[Z1,h1,h3,hc]
  split at h<;>try (cases h;done)
  ·rename_i hg
   split at h<;>try (cases h;done)
   rename_i hb
   simp only[p1,x3,vr,and_assoc] at hb
   obtain⟨rfl,hw⟩:=ub h
   have hg':=hs.h _ _ hg
   simp only[hg']
   exact⟨h2,h4,hb.1,hb.2.1,hb.2.2,rfl,hs.upd hg hw⟩
  ·rename_i hg
   split at h<;>try (cases h;done)
   rename_i hb
   simp only[p1,x3,vr,and_assoc] at hb
   obtain⟨rfl,hw⟩:=ub h
   have hg':=hs.h _ _ hg
   simp only[hg']
   exact⟨h2,h4,hb.1,hb.2.1,hb.2.2,rfl,hs.upd hg hw⟩
 ·split at h<;>try (cases h;done)
  rename_i l ha
  obtain⟨h1,h2⟩:=y1 ha
  obtain⟨rfl,hw⟩:=ub h
  simp only[Z1,h1]
  exact⟨h2,by rw[hn],hs.new hw⟩
 ·split at h<;>try (cases h;done)
  rename_i a ha hne
  split at h<;>try (cases h;done)
  rename_i rows hr
  replace hr:=Wx hs.le hr
  split at h<;>simp only[p0,p2,reduceCtorEq] at h
  rename_i hb
  obtain⟨rfl,rfl⟩:=h
  obtain⟨h1,h2⟩:=y1 hne
  obtain⟨p,h3,h4⟩:=z0c hr
  simp only[Z1,h1,h3]
  refine⟨h2,fun l hl=>?_,h4,z63 hb,rfl,hs⟩
  subst hl
  exact ha l rfl
 ·split at h<;>try (cases h;done)
  rename_i l' c' hl hc
  split at h<;>try (cases h;done)
  rename_i hb
  simp only[p1,Yb,and_assoc] at hb
  obtain⟨h1,h2⟩:=y1 hl
  obtain⟨h3,h4⟩:=y1 hc
  obtain⟨rfl,hw⟩:=ub h
  simp only[Z1,h1,h3]
  exact⟨h2,h4,hb.1,hb.2.1,hb.2.2,_,.inl rfl,by rw[hn],hs.new hw⟩
 ·split at h<;>try (cases h;done)
  rename_i aq ha
  obtain⟨h1,h2⟩:=V6 ha
  simp only[Z1,h1]
  exact⟨h2,hC _ _ _ _ _ h H n hs⟩
 ·split at h<;>try (cases h;done)
  rename_i f first caps hx
  split at h<;>try (cases h;done)
  rename_i aq ha
  obtain⟨h1,h2⟩:=y1 hx
  obtain⟨h3,h4⟩:=V6 ha
  simp only[Z1,h1,h3]
  exact⟨h2,h4,hC _ _ _ _ _ h H n hs⟩
 ·split at h<;>try (cases h;done)
  rename_i b hb
  split at h<;>try (cases h;done)
  rename_i rows2 hr
  replace hr:=Wx hs.le hr
  split at h<;>try (cases h;done)
  rename_i a ha
  obtain⟨h1,h2⟩:=y1 hb
  obtain⟨h3,h4⟩:=y1 ha
  obtain⟨p,h5,h6⟩:=z0c hr
  simp only[Z1,h1,h3,h5]
  exact⟨h4,h2,h6,zz9 hs h⟩
 ·split at h<;>try (cases h;done)
  rename_i b s' off len f hx
  split at h<;>try (cases h;done)
  rename_i y hy
  split at h<;>try (cases h;done)
  rename_i rows2 hr
  split at h<;>try (cases h;done)
  rename_i s'' es hg
  split at h<;>try (cases h;done)
  rename_i hb
  replace hr:=Wx hs.le hr
  simp only[p1,x3,vr,and_assoc] at hb
  obtain⟨h1,h2⟩:=y1 hx
  obtain⟨h3,h4⟩:=y1 hy
  obtain⟨p,h5,h6⟩:=z0c hr
  obtain⟨rfl,hw⟩:=ub h
  have hg':=hs.h _ _ hg
  simp only[Z1,h1,h3,h5,hg']
  exact⟨h2,h4,h6,hb.1,hb.2.1,hb.2.2,rfl,hs.upd hg hw⟩
 ·obtain⟨rfl,hw⟩:=ub h;exact⟨by rw[hn],hs.new hw⟩
 ·split at h<;>try (cases h;done)
  rename_i b hm
  split at h<;>try (cases h;done)
  rename_i x hx
  split at h<;>try (cases h;done)
  rename_i y hy
  split at h<;>try (cases h;done)
  rename_i es hg
  split at h<;>try (cases h;done)
  rename_i k hk
  split at h<;>try (cases h;done)
  rename_i es' he
  split at h<;>try (cases h;done)
  rename_i ho
  obtain⟨h1,h2⟩:=y1 hm
  obtain⟨h3,h4⟩:=y1 hx
  obtain⟨h5,h6⟩:=y1 hk
  obtain⟨rfl,hw⟩:=ub h
  have hg':=hs.h _ _ hg
  simp only[Z1,h1,h3,hy,h5,hg',zgi he]
  exact⟨h2,h6,h4,Ud ho,rfl,hs.upd hg hw⟩
 ·split at h<;>try (cases h;done)
  rename_i b hm
  split at h<;>try (cases h;done)
  rename_i es hg
  split at h<;>try (cases h;done)
  rename_i k hk
  split at h<;>try (cases h;done)
  rename_i es' he
  split at h<;>try (cases h;done)
  rename_i ho
  obtain⟨h1,h2⟩:=y1 hm
  obtain⟨h5,h6⟩:=y1 hk
  obtain⟨rfl,hw⟩:=ub h
  have hg':=hs.h _ _ hg
  simp only[Z1,h1,h5,hg',z9y he]
  exact⟨h2,h6,Ud ho,rfl,hs.upd hg hw⟩
 ·cases h
theorem zaz{lo:LOper}{v:AVal}(h:Vq e.get H.get lo=some v):(Jq e H lo).gives v:=by
 unfold Vq at h
 unfold Jq
 cases hg:lo.guard with
 |none=>
  rw[hg] at h
  obtain⟨s,h1,h2⟩:=z1s h
  simp only[h1]
  exact⟨h2,.inl rfl⟩
 |some g=>
  obtain⟨q,want⟩:=g
  rw[hg] at h
  simp only[z94] at h ⊢
  split at h
  ·rename_i hp
   simp only[hp]
   split at h<;>simp only[p0,reduceCtorEq] at h
   rename_i u hu
   subst h
   obtain⟨s,h1,h2⟩:=z1s hu
   rw[h1]
   exact⟨fun _=>h2,.inl rfl⟩
  ·rename_i hp
   simp only[hp]
   simp only[p0] at h
   subst h
   cases vu e H lo.op with
   |ok s u=>exact⟨fun h=>(by cases h),.inr (.inl ⟨.inr ⟨_,rfl⟩,.inl rfl⟩)⟩
   |bad=>exact⟨trivial,.inl rfl⟩
  ·cases h
theorem zg0{C:Nat→List AVal→Sh→Rs}(hC:z2s P C){lo:LOper}{v:AVal}(hs:StR D H n S)(h:ztm C e.get S lo=some (v,S')):z1g P e H n (KS D v S') lo:=by
 unfold ztm at h
 unfold z1g
 cases hg:lo.guard with
 |none=>
  rw[hg] at h
  exact zm9 hC hs h
 |some g=>
  obtain⟨q,want⟩:=g
  rw[hg] at h
  simp only[z94] at h ⊢
  split at h
  ·rename_i hp
   simp only[hp]
   exact .inr ⟨fun _=>zm9 hC hs h,fun h=>by cases h⟩
  ·rename_i hp
   simp only[hp]
   simp only[p0,p2] at h
   obtain⟨rfl,rfl⟩:=h
   exact .inr ⟨fun h=>(by cases h),fun _=>⟨_,.inl rfl,rfl,hs⟩⟩
  ·cases h
def EnR(e:Env)(E:Ev):Prop:=∀t,e.get t=E.g t
theorem EnR.get{E:Ev}(h:EnR e E):E.g=e.get:=funext fun t=>(h t).symm
theorem EnR.put{E E':Ev}{d:Option Nat}{v:AVal}(h:EnR e E)(hp:E.p d v=some E'):EnR (e.put d v) E':=by
 cases d with
 |none=>simp only[Ev.p,p0] at hp;subst hp;exact h
 |some d=>
  simp only[Ev.p] at hp
  have hg:=Tr.put_get _ _ _ _ _ hp
  intro t
  unfold Ev.g
  rw[hg]
  by_cases hd:t=d
  ·subst hd;rw[if_pos rfl,Env.get_put_same]
  ·rw[if_neg hd,Env.get_put_other _ _ (fun he=>hd he.symm)];exact h t
theorem zdl{lo:LOper}{v:AVal}(h:Vq e.get H.get lo=some v):∀ {K:Env→Prop},K (e.put lo.dst v) →
 match lo.guard with
 |none=>(match vu e H lo.op with|.ok side u=>side∧K (e.put lo.dst u)|.bad=>False)
 |some (g,want)=>match Y4 (e.get g) want with
  |some p=>(match vu e H lo.op with
   |.ok side v=>(∃u,(p=true→side∧v=u)∧K (e.put lo.dst (.cnd p u)))∨(p=false∧K (e.put lo.dst (.tup [])))
   |.bad=>p=false∧K (e.put lo.dst (.tup [])))
  |none=>False:=by
 intro K hK
 unfold Vq at h
 cases hg:lo.guard with
 |none=>
  rw[hg] at h
  obtain⟨s,h1,h2⟩:=z1s h
  simp only[h1]
  exact⟨h2,hK⟩
 |some g=>
  obtain⟨q,want⟩:=g
  rw[hg] at h
  simp only[z94] at h ⊢
  split at h
  ·rename_i hp
   simp only[hp]
   split at h<;>simp only[p0,reduceCtorEq] at h
   rename_i u hu
   subst h
   obtain⟨s,h1,h2⟩:=z1s hu
   simp only[h1]
   exact .inl ⟨_,fun _=>⟨h2,rfl⟩,hK⟩
  ·rename_i hp
   simp only[hp]
   simp only[p0] at h
   subst h
   cases vu e H lo.op with
   |ok s u=>exact .inr ⟨trivial,hK⟩
   |bad=>exact⟨trivial,hK⟩
  ·cases h
theorem z0n{p:Bool}{H:AHeap}{n:Nat}{E:(AVal→AHeap→Nat→Prop)→Prop}{K K':AVal→AHeap→Nat→Prop}(hE:∀ {K K'},E K→(∀r H n,K r H n→K' r H n)→E K')(h:z10 p H n E K)(hk:∀r H n,K r H n→K' r H n):z10 p H n E K':=by
 rcases h with⟨R,h1,h2⟩|⟨h1,h2⟩
 ·exact .inl ⟨R,h1,hk _ _ _ h2⟩
 ·exact .inr ⟨fun h=>hE (h1 h) hk,fun h=>by obtain⟨u,a,b⟩:=h2 h;exact⟨u,a,hk _ _ _ b⟩⟩
theorem z6f{C:Nat→List AVal→Sh→Rs}(hC:z2s P C){Q:Env→AHeap→Nat→Prop}{E':Ev}{S':Sh}(hQ:∀e H n,EnR e E'→StR D H n S'→Q e H n):∀ {os:List LOper} {E:Ev} {S:Sh} {e:Env} {H:AHeap} {n:Nat},zyg C os E S=some (E',S')→EnR e E→StR D H n S→Wo P os Q e H n
 |[],E,S,e,H,n,h,hE,hs=>by
  simp only[zyg,p0,p2] at h
  obtain⟨rfl,rfl⟩:=h
  exact hQ _ _ _ hE hs
 |lo::os,E,S,e,H,n,h,hE,hs=>by
  unfold zyg at h
  split at h
  ·rename_i hp
   split at h<;>try (cases h;done)
   rename_i v hv
   split at h<;>try (cases h;done)
   rename_i E1 hE1
   rw[hE.get] at hv
   replace hv:=Ki hs.le hv
   have ih:=z6f hC hQ h (hE.put hE1) hs
   have:=zdl (K:=fun e=>Wo P os Q e H n) hv ih
   obtain⟨d,op,g⟩:=lo
   cases g with
   |none=>simp only[Wo,hp];exact this
   |some g=>
    obtain⟨g,want⟩:=g
    simp only[Wo]
    simp only at this
    cases hgp:Y4 (e.get g) want with
    |none=>rw[hgp] at this;exact this
    |some p=>
     rw[hgp] at this
     simp only[hp]
     exact this
  ·rename_i hp
   split at h<;>try (cases h;done)
   rename_i v S1 hv
   split at h<;>try (cases h;done)
   rename_i E1 hE1
   rw[hE.get] at hv
   have heff:=zg0 hC hs hv
   have key:∀r H' n',KS D v S1 r H' n'→Wo P os Q (e.put lo.dst r) H' n':=by
    rintro r H' n' ⟨rfl,hs'⟩
    exact z6f hC hQ h (hE.put hE1) hs'
   obtain⟨d,op,g⟩:=lo
   cases g with
   |none=>simp only[Wo,hp];exact J9 key heff
   |some g=>
    obtain⟨g,want⟩:=g
    simp only[Wo]
    unfold z1g at heff
    simp only at heff
    cases hgp:Y4 (e.get g) want with
    |none=>rw[hgp] at heff;exact heff
    |some p=>
     rw[hgp] at heff
     simp only[hp]
     exact z0n (fun h hk=>J9 hk h) heff key
mutual
theorem zds(x y:AVal)(h:y2m x y=true):x=y:=by
 unfold y2m at h
 split at h
 ·simp only[beq_iff_eq] at h;rw[h]
 ·simp only[p1,Ua,decide_eq_true_eq] at h;rw[h.1,h.2]
 ·simp only[beq_iff_eq] at h;rw[h]
 ·simp only[p1,x3] at h
  obtain⟨⟨⟨h1,h2⟩,rfl⟩,rfl⟩:=h
  congr 1
  exact Prod.ext h1 h2
 ·simp only[p1,x3,beq_iff_eq] at h
  obtain⟨⟨⟨⟨⟨h1,h2⟩,rfl⟩,rfl⟩,rfl⟩,rfl⟩:=h
  congr 1
  exact Prod.ext h1 h2
 ·simp only[p1,x3] at h
  congr 1
  exact Prod.ext h.1 h.2
 ·rw[z7m _ _ h]
 ·rw[z7m _ _ h]
 ·rfl
 ·rfl
 ·rfl
 ·rfl
 ·simp only[p1,beq_iff_eq] at h
  rw[h.1,zds _ _ h.2]
 ·simp only[p1,x3,beq_iff_eq] at h
  rw[h.1,h.2]
 ·cases h
termination_by SizeOf.sizeOf x
theorem z7m(xs ys:List AVal)(h:zns xs ys=true):xs=ys:=by
 unfold zns at h
 split at h
 ·rfl
 ·simp only[p1] at h
  rw[zds _ _ h.1,z7m _ _ h.2]
 ·cases h
termination_by SizeOf.sizeOf xs
end
theorem zwe{lo:LOper}{E:Ev}(h:EnR e E):lo.bsees E=lo.sees e:=by
 unfold LOper.bsees LOper.sees
 apply List.map_congr_left
 intro t _
 rw[h t]
theorem za0{loose:List Nat}:∀ {done:List (Nat×LOper×Env×AVal)},z3h H.get loose done=true→∀x∈done,x.1∈loose→(Jq x.2.2.1 H x.2.1).gives x.2.2.2
 |[],_,x,hx,_=>by cases hx
 |(p,lo,e,v)::r,h,x,hx,hl=>by
  unfold z3h at h
  simp only[p1] at h
  cases hx with
  |tail _ hx=>exact za0 h.2 x hx hl
  |head=>
   have h1:=h.1
   rw[List.contains_iff_mem.2 hl] at h1
   simp only at h1
   split at h1<;>try (cases h1;done)
   rename_i u hu
   have:=zaz hu
   rw[zds _ _ h1] at this
   exact this
theorem zq4{lo:LOper}{K K':AVal→AHeap→Nat→Prop}(h:z1g P e H n K lo)(hk:∀r H n,K r H n→K' r H n):z1g P e H n K' lo:=by
 unfold z1g at h ⊢
 cases hg:lo.guard with
 |none=>rw[hg] at h;exact J9 hk h
 |some g=>
  obtain⟨q,want⟩:=g
  rw[hg] at h
  simp only at h ⊢
  cases hp:Y4 (e.get q) want with
  |none=>rw[hp] at h;exact h.elim
  |some p=>
   rw[hp] at h
   exact z0n (fun h hk=>J9 hk h) h hk
theorem z24{C:Nat→List AVal→Sh→Rs}(hC:z2s P C){Q:Env→AHeap→Nat→Prop}{E':Ev}{S':Sh}(hQ:∀e H n,EnR e E'→StR D H n S'→Q e H n):∀ {items:List DItem} {p:Nat} {done:List (Nat×LOper×Env×AVal)} {E:Ev} {S:Sh} {e:Env} {H:AHeap} {n:Nat},zez C items p done E S=some (E',S')→EnR e E→StR D H n S→xd P items p done Q e H n
 |[],p,done,E,S,e,H,n,h,hE,hs=>by
  simp only[zez,p0,p2] at h
  obtain⟨rfl,rfl⟩:=h
  exact hQ _ _ _ hE hs
 |it::rest,p,done,E,S,e,H,n,h,hE,hs=>by
  unfold zez at h
  unfold xd
  rw[zwe hE] at h
  split at h
  ·rename_i hp
   simp only[hp]
   split at h<;>try (cases h;done)
   rename_i v hv
   split at h<;>try (cases h;done)
   rename_i E1 hE1
   replace hv:=Ki hs.le hv
   exact⟨v,zaz hv,z24 hC hQ h (hE.put hE1) hs⟩
  ·rename_i hp
   simp only[hp]
   split at h<;>try (cases h;done)
   rename_i v S1 hv
   split at h<;>try (cases h;done)
   rename_i hl
   split at h<;>try (cases h;done)
   rename_i E1 hE1
   refine zq4 (zg0 hC hs hv) ?_
   rintro r H' n' ⟨rfl,hs'⟩
   replace hl:=z3c hs'.le hl
   exact⟨za0 hl,z24 hC hQ h (hE.put hE1) hs'⟩
theorem Ka{Q:Env→AHeap→Nat→Prop}:∀ {os:List LOper} {e:Env} {H:AHeap} {n:Nat},(∀lo∈os,kv lo.op=true)→Wo P os Q e H n→xqs os Q e H n
 |[],e,H,n,_,h=>h
 |⟨d,op,none⟩::os,e,H,n,hp,h=>by
  have h0:kv op=true:=hp _ (List.mem_cons_self ..)
  simp only[Wo,h0] at h
  simp only[xqs]
  split at h<;>try (exact h.elim)
  exact⟨h.1,Ka (fun lo hl=>hp lo (List.mem_cons_of_mem _ hl)) h.2⟩
 |⟨d,op,some (g,want)⟩::os,e,H,n,hp,h=>by
  have h0:kv op=true:=hp _ (List.mem_cons_self ..)
  simp only[Wo,h0] at h
  simp only[xqs]
  split at h<;>try (exact h.elim)
  have ih:∀ {e},Wo P os Q e H n→xqs os Q e H n:=fun h=>Ka (fun lo hl=>hp lo (List.mem_cons_of_mem _ hl)) h
  split at h
  ·rcases h with⟨u,h1,h2⟩|⟨h1,h2⟩
   ·exact .inl ⟨u,h1,ih h2⟩
   ·exact .inr ⟨h1,ih h2⟩
  ·exact⟨h.1,ih h.2⟩
abbrev KX(D:Id→Option ABlock)(x:Exit×Ev×Sh):Exit→Env→AHeap→Nat→Prop:=fun ex e H n=>ex=x.1∧EnR e x.2.1∧StR D H n x.2.2
def Jh(P:Program)(n:Nat):LCode→Prop
 |.seq a b=>Jh P n a∧Jh P n b
 |.cond _ a b=>Jh P n a∧Jh P n b
 |.block _ c=>Jh P n c
 |.loop c=>Jh P n c
 |.rng _ ps a b=>(ps.all fun p=>Nat.blt p n)=true∧Jh P n a∧Jh P n b
 |.dfr f _=>zjn P f
 |_=>True
def Xk(l:List Nat)(n:Nat):LCode→Bool
 |.seq a b=>Xk l n a&&Xk l n b
 |.cond _ a b=>Xk l n a&&Xk l n b
 |.block _ c=>Xk l n c
 |.loop c=>Xk l n c
 |.rng _ ps a b=>(ps.all fun p=>Nat.blt p n)&&(Xk l n a&&Xk l n b)
 |.dfr f _=>l.any fun i=>p4 i f
 |_=>true
theorem Yf{P:Program}{l:List Nat}{n:Nat}(hl:∀f∈l,zjn P f):∀ {c:LCode},Xk l n c=true→Jh P n c
 |.skip,_|.region _,_|.quiet _,_|.draw _,_|.draw2 _ _ _,_|.exit _,_|.ret,_=>trivial
 |.seq a b,h=>by
  simp only[Xk,p1] at h
  exact⟨Yf hl h.1,Yf hl h.2⟩
 |.cond _ a b,h=>by
  simp only[Xk,p1] at h
  exact⟨Yf hl h.1,Yf hl h.2⟩
 |.rng _ ps a b,h=>by
  simp only[Xk,p1] at h
  exact⟨h.1,Yf hl h.2.1,Yf hl h.2.2⟩
 |.block _ c,h=>Yf (c:=c) hl h
 |.loop c,h=>Yf (c:=c) hl h
 |.dfr f _,h=>by
  simp only[Xk,List.any_eq_true] at h
  obtain⟨i,h1,h2⟩:=h
  exact hl f (Nat.eq_of_beq_eq_true h2▸h1)
def zil(P:Program)(L:LCode→Ev→Sh→Cs):Prop:=
 ∀c E S x,L c E S=some x→∀ {D:Id→Option ABlock} (N:Lay) (n0:Nat) e H n,Jh P N.n c→EnR e E→StR D H n S→LWp P N n0 (.loop c) (KX D x) e H n
def za7(P:Program)(B:Nat→Option (Bool×Nat)):Prop:=
 ∀f ag s,B f=some (ag,s)→∃bm fn,wm P bm f=some fn∧Zc P f∧2≤fn.lay.n∧fn.body=z75 ag s∧fn.res=[]
def Vn(e:Env):Env:=e.map fun x=>(x.1,e.get x.1)
theorem zjq(e:Env)(t:Nat):(Vn e).get t=e.get t:=by
 have:∀ (l:Env),Env.get (l.map fun x=>(x.1,e.get x.1)) t=if(∃y∈l,y.1=t) then e.get t else .any:=by
  intro l
  induction l with
  |nil=>simp[Env.get]
  |cons y r ih=>
   simp only[List.map_cons,Env.get]
   by_cases hy:y.1=t
   ·rw[if_pos hy,if_pos ⟨y,List.mem_cons_self ..,hy⟩,hy]
   ·rw[if_neg hy,ih]
    by_cases hr:∃z∈r,z.1=t
    ·obtain⟨z,hz,hzt⟩:=hr
     rw[if_pos ⟨z,hz,hzt⟩,if_pos ⟨z,List.mem_cons_of_mem _ hz,hzt⟩]
    ·rw[if_neg hr,if_neg]
     rintro⟨z,hz,hzt⟩
     rcases List.mem_cons.1 hz with rfl|hz
     ·exact hy hzt
     ·exact hr ⟨z,hz,hzt⟩
 unfold Vn
 rw[this]
 split
 ·rfl
 ·rename_i hn
  have:∀ (l:Env),(¬∃y∈l,y.1=t)→Env.get l t=.any:=by
   intro l
   induction l with
   |nil=>intro _;rfl
   |cons y r ih=>
    intro h
    simp only[Env.get]
    rw[if_neg (fun hy=>h ⟨y,List.mem_cons_self ..,hy⟩)]
    exact ih fun⟨z,hz,hzt⟩=>h ⟨z,List.mem_cons_of_mem _ hz,hzt⟩
  exact(this e hn).symm
theorem zj3(e:Env):SubE (Vn e) e:=by
 have:∀ (l:Env),SubE (l.map fun x=>(x.1,e.get x.1)) e:=by
  intro l
  induction l with
  |nil=>trivial
  |cons y r ih=>exact⟨rfl,ih⟩
 exact this e
theorem zqr:∀ {ps:List Nat} {xs:List AVal} {e:Env} {E E':Ev},y3z ps xs E=some E'→EnR e E→EnR (zq1 e ps xs) E'∧xs.length=ps.length
 |[],[],e,E,E',h,hE=>by simp only[y3z,p0] at h;subst h;exact⟨hE,rfl⟩
 |[],_::_,e,E,E',h,hE=>by cases h
 |_::_,[],e,E,E',h,hE=>by cases h
 |p::ps,x::xs,e,E,E',h,hE=>by
  unfold y3z at h
  split at h<;>try (cases h;done)
  rename_i E1 h1
  obtain⟨g1,g2⟩:=zqr h (hE.put h1)
  exact⟨g1,by simp[g2]⟩
theorem Um{x:AVal}(h:z8l x=true):x.plain:=by
 cases x with
 |cnd p y=>cases h
 |_=>exact⟨rfl,trivial⟩
def U8(D:Id→Option ABlock)(k:Id)(b:ABlock)(id:Id):Option ABlock:=if id=k then some b else D id
theorem StR.hide(h:StR D H n S){b:ABlock}(h0:S.t.at (S.n,0)=none):StR (U8 D (n,0) b) (((n,0),b)::H) (n+1) ⟨S.t,S.n+1⟩:=by
 refine⟨by simp[h.n],fun id c hc=>?_,fun id c hc=>?_⟩
 ·simp only at hc
  have hj:(n,0)≠id:=fun e=>by subst e;rw[h.n,h0] at hc;cases hc
  rw[AHeap.get_cons_other _ _ hj];exact h.h _ _ hc
 ·unfold U8 at hc
  split at hc
  ·rename_i hk;subst hk;cases hc
   exact⟨AHeap.get_cons_same _ _ _,by simp only;rw[h.n];exact h0,Nat.lt_succ_self _⟩
  ·rename_i hk
   obtain⟨g1,g2,g3⟩:=h.d id c hc
   exact⟨by rw[AHeap.get_cons_other _ _ (fun e=>hk e.symm)];exact g1,g2,by omega⟩
theorem StR.hidden{k:Id}{b:ABlock}(h:StR (U8 D k b) H n S):H.get k=some b:=(h.d k b (by simp[U8])).1
theorem StR.turn{k:Id}{b b':ABlock}(h:StR (U8 D k b) H n S):StR (U8 D k b') (H.set k b') n S:=by
 have hk:=h.hidden
 refine⟨h.n,fun id c hc=>?_,fun id c hc=>?_⟩
 ·have hj:k≠id:=fun e=>by subst e;rw[(h.d k b (by simp[U8])).2.1] at hc;cases hc
  rw[AHeap.get_set,if_neg hj];exact h.h _ _ hc
 ·unfold U8 at hc
  split at hc
  ·rename_i he;subst he;cases hc
   obtain⟨_,g2,g3⟩:=h.d id b (by simp[U8])
   exact⟨by rw[AHeap.get_set,if_pos rfl,hk];rfl,g2,g3⟩
  ·rename_i he
   obtain⟨g1,g2,g3⟩:=h.d id c (by simp[U8,he];exact hc)
   exact⟨by rw[AHeap.get_set,if_neg (fun e=>he e.symm)];exact g1,g2,g3⟩
theorem StR.unhide{k:Id}{b:ABlock}(h:StR (U8 D k b) H n S)(hk:D k=none):StR D (H.del k) n S:=by
 refine⟨h.n,fun id c hc=>?_,fun id c hc=>?_⟩
 ·have hj:k≠id:=fun e=>by subst e;rw[(h.d k b (by simp[U8])).2.1] at hc;cases hc
  rw[AHeap.get_del,if_neg hj];exact h.h _ _ hc
 ·have hj:id≠k:=fun e=>by subst e;rw[hk] at hc;cases hc
  obtain⟨g1,g2,g3⟩:=h.d id c (by simp[U8,hj];exact hc)
  exact⟨by rw[AHeap.get_del,if_neg (fun e=>hj e.symm)];exact g1,g2,g3⟩
theorem zdv{o:Es}{x:Exit×Ev×Sh}(h:y4t o=some x):∃E S,o=some (E,S)∧x=(.normal,E,S):=by
 cases o with
 |none=>cases h
 |some y=>obtain⟨E,S⟩:=y;simp only[y4t,p0] at h;exact⟨E,S,rfl,h.symm⟩
theorem Zg{C:Nat→List AVal→Sh→Rs}{L:LCode→Ev→Sh→Cs}{B:Nat→Option (Bool×Nat)}(hC:z2s P C)(hL:zil P L)(hB:za7 P B):∀ (lc:LCode) {D:Id→Option ABlock} (N:Lay) (n0:Nat) {E:Ev} {S:Sh} {x:Exit×Ev×Sh} {e:Env} {H:AHeap} {n:Nat},Q6 C L B lc E S=some x→Jh P N.n lc→EnR e E→StR D H n S→LWp P N n0 lc (KX D x) e H n
 |.skip,D,N,n0,E,S,x,e,H,n,h,hi,hE,hs=>by
  simp only[Q6,p0] at h
  subst h
  exact yz .skip _ e H n ⟨rfl,hE,hs⟩
 |.region ops,D,N,n0,E,S,x,e,H,n,h,hi,hE,hs=>by
  obtain⟨E1,S1,h1,rfl⟩:=zdv h
  refine yz (.region ops) _ e H n (z6f hC (fun e H n hE hs=>?_) h1 hE hs)
  exact⟨rfl,hE,hs⟩
 |.quiet ops,D,N,n0,E,S,x,e,H,n,h,hi,hE,hs=>by
  simp only[Q6] at h
  split at h<;>try (cases h;done)
  rename_i hp
  obtain⟨E1,S1,h1,rfl⟩:=zdv h
  refine yz (.quiet ops) _ e H n (Ka (P:=P) (fun lo hl=>List.all_eq_true.1 hp lo hl) (z6f hC (fun e H n hE hs=>?_) h1 hE hs))
  exact⟨rfl,hE,hs⟩
 |.draw items,D,N,n0,E,S,x,e,H,n,h,hi,hE,hs=>by
  obtain⟨E1,S1,h1,rfl⟩:=zdv h
  refine yz (.draw items) _ e H n (z24 hC (fun e H n hE hs=>?_) h1 hE hs)
  exact⟨rfl,hE,hs⟩
 |.draw2 a b items,D,N,n0,E,S,x,e,H,n,h,hi,hE,hs=>by
  simp only[Q6] at h
  split at h<;>try (cases h;done)
  rename_i E1 S1 h1
  split at h<;>try (cases h;done)
  rename_i ha
  simp only[p0] at h
  subst h
  refine yz (.draw2 a b items) _ e H n (z24 hC (fun e H n hE hs=>⟨?_,rfl,hE,hs⟩) h1 hE hs)
  rw[hE.get] at ha
  unfold zwq at ha
  split at ha<;>try (cases ha;done)
  rename_i b1 i1 o1 c1 i2 o2 q1 q2
  rw[(y1 q1).1,(y1 q2).1]
  simp only[z8v]
  intro he
  rw[he] at ha
  simp at ha
 |.seq a b,D,N,n0,E,S,x,e,H,n,h,hi,hE,hs=>by
  unfold Q6 at h
  split at h
  ·rename_i E1 S1 h1
   refine W5 ((Zg hC hL hB a N n0 h1 hi.1 hE hs).mono ?_)
   rintro ex e' H' n' ⟨rfl,hE',hs'⟩
   exact Zg hC hL hB b N n0 h hi.2 hE' hs'
  ·rename_i hne
   refine W5 ((Zg hC hL hB a N n0 h hi.1 hE hs).mono ?_)
   rintro ex e' H' n' ⟨rfl,hE',hs'⟩
   obtain⟨ex,E1,S1⟩:=x
   cases ex with
   |normal=>exact absurd h (hne _ _)
   |_=>exact⟨rfl,hE',hs'⟩
 |.cond c a b,D,N,n0,E,S,x,e,H,n,h,hi,hE,hs=>by
  unfold Q6 at h
  rw[hE.get] at h
  split at h<;>try (cases h;done)
  ·rename_i hc
   obtain⟨h1,h2⟩:=y1 hc
   exact Xj h1 h2 (fun _=>Zg hC hL hB a N n0 h hi.1 hE hs) (fun h=>by cases h)
  ·rename_i hc
   obtain⟨h1,h2⟩:=y1 hc
   exact Xj h1 h2 (fun h=>by cases h) (fun _=>Zg hC hL hB b N n0 h hi.2 hE hs)
 |.block id c,D,N,n0,E,S,x,e,H,n,h,hi,hE,hs=>by
  unfold Q6 at h
  split at h
  ·rename_i i E1 S1 h1
   refine Jf ((Zg hC hL hB c N n0 h1 hi hE hs).mono ?_)
   rintro ex e' H' n' ⟨rfl,hE',hs'⟩
   simp only
   split at h
   ·rename_i hi
    rw[if_pos (x3.1 hi)]
    simp only[p0] at h
    subst h
    exact⟨rfl,hE',hs'⟩
   ·rename_i hi
    rw[if_neg (Nat.ne_of_beq_eq_false hi)]
    simp only[p0] at h
    subst h
    exact⟨rfl,hE',hs'⟩
  ·rename_i hne
   refine Jf ((Zg hC hL hB c N n0 h hi hE hs).mono ?_)
   rintro ex e' H' n' ⟨rfl,hE',hs'⟩
   obtain⟨ex,E1,S1⟩:=x
   cases ex with
   |exit i=>exact absurd h (hne _ _ _)
   |_=>exact⟨rfl,hE',hs'⟩
 |.loop c,D,N,n0,E,S,x,e,H,n,h,hi,hE,hs=>hL c E S x h N n0 e H n hi hE hs
 |.rng g ps a b,D,N,n0,E,S,x,e,H,n,h,hi,hE,hs=>by
  unfold Q6 at h
  rw[hE.get] at h
  split at h<;>try (cases h;done)
  rename_i gf bx hg
  split at h<;>try (cases h;done)
  rename_i ag s hBf
  split at h<;>try (cases h;done)
  rename_i sl hsl
  split at h<;>try (cases h;done)
  rename_i z hz
  split at h<;>try (cases h;done)
  rename_i hb h0
  simp only[p1,Yb] at hb
  obtain⟨bm,L',hL',hok,hn2,hbody,hres⟩:=hB gf ag s hBf
  obtain⟨hg1,hg2⟩:=y1 hg
  obtain⟨hps,hia,hib⟩:=hi
  have hDn:D (n,0)=none:=by
   cases hd:D (n,0) with
   |none=>rfl
   |some c=>exact absurd (hs.d _ _ hd).2.2 (Nat.lt_irrefl _)
  have hEc:EnR (Vn e) E:=fun t=>by rw[zjq];exact hE t
  refine zvx (Vn e) hg1 hg2 (zj3 e) (fun l r hR=>?_)
  have hst:=hs.hide (b:=.lrec l r (Vn e)) h0
  obtain⟨k,hk⟩:∃k:Nat,z=k:=Int.eq_ofNat_of_zero_le hb.1.2
  subst hk
  refine zkj hL' hok hn2 hbody hres (K:=fun H' n'=>∃k e',(H'.get k=some (.lrec l r e')∧KX D x .normal e' (H'.del k) n')∨∃ex code,zn9 ex=some code∧H'.get k=some (.lrec l (ztj r code) e')∧KX D x ex e' (H'.del k) n')
   (fun i H' n'=>∃S',y5u (Q6 C L B a) (Q6 C L B b) ps ag s bx E i S'=some x∧StR (U8 D (n,0) (.lrec l r (Vn e))) H' n' S') ?_ ?_ (len:=k) ⟨_,h,hst⟩ (by omega) (Um hb.1.1) (Kx (Qq hst.le hsl)) (zid hz)
  ·rintro i H' n' ⟨S',hr,hst'⟩
   unfold y5u at hr
   split at hr<;>try (cases hr;done)
   rename_i sl' hsl'
   split at hr<;>try (cases hr;done)
   rename_i p hp
   split at hr<;>try (cases hr;done)
   rename_i el hel
   split at hr<;>try (cases hr;done)
   rename_i hpl
   split at hr<;>try (cases hr;done)
   rename_i e1 he1
   split at hr<;>try (cases hr;done)
   rename_i e2 S2 hA
   simp only[p1,vr] at hpl
   refine⟨by omega,sl',p,el,Um hpl.1.1.1,Um hpl.1.1.2,Um hpl.1.2,Kx (Qq hst'.le hsl'),z8h hp,Kx (Qq hst'.le hel),?_⟩
   obtain⟨hEp,hlen⟩:=zqr he1 hEc
   refine ziu hR hst'.hidden hps hlen ?_
   refine(Zg hC hL hB a (ztk N) n' hA hia hEp hst').mono ?_
   rintro ex e' H'' n'' ⟨rfl,hE',hs'⟩
   refine⟨rfl,_,hs'.hidden,?_⟩
   split at hr<;>try (cases hr;done)
   ·rename_i E3 S3 hRb
    refine(Zg hC hL hB b (ztk N) n' hRb hib hE' (hs'.turn (b':=.lrec l (busy r) (Vn e)))).mono ?_
    rintro ex e3 H3 n3 ⟨rfl,hE3,hs3⟩
    exact .inr ⟨rfl,_,hs3.hidden,.inl ⟨rfl,S3,hr,hs3.turn⟩⟩
   ·rename_i E3 S3 hRb
    refine(Zg hC hL hB b (ztk N) n' hRb hib hE' (hs'.turn (b':=.lrec l (busy r) (Vn e)))).mono ?_
    rintro ex e3 H3 n3 ⟨rfl,hE3,hs3⟩
    simp only[p0] at hr
    subst hr
    exact .inl ⟨_,rfl,_,hs3.hidden,.inr ⟨rfl,(n,0),_,.inr ⟨.ret,_,rfl,(hs3.turn).hidden,rfl,hEc,(hs3.turn).unhide hDn⟩⟩⟩
   ·rename_i id E3 S3 hRb
    refine(Zg hC hL hB b (ztk N) n' hRb hib hE' (hs'.turn (b':=.lrec l (busy r) (Vn e)))).mono ?_
    rintro ex e3 H3 n3 ⟨rfl,hE3,hs3⟩
    simp only[p0] at hr
    subst hr
    exact .inl ⟨_,rfl,_,hs3.hidden,.inr ⟨rfl,(n,0),_,.inr ⟨.exit id,_,rfl,(hs3.turn).hidden,rfl,hEc,(hs3.turn).unhide hDn⟩⟩⟩
  ·rintro H' n' ⟨S',hr,hst'⟩
   simp only[y5u,p0] at hr
   subst hr
   exact⟨(n,0),_,.inl ⟨hst'.hidden,rfl,hEc,hst'.unhide hDn⟩⟩
 |.dfr f t,D,N,n0,E,S,x,e,H,n,h,hi,hE,hs=>by
  simp only[Q6] at h
  split at h<;>try (cases h;done)
  rename_i E1 h1
  simp only[p0] at h
  subst h
  exact yz (.dfr f t) _ e H n ⟨hi,rfl,hE.put h1,hs⟩
 |.exit id,D,N,n0,E,S,x,e,H,n,h,hi,hE,hs=>by
  simp only[Q6,p0] at h
  subst h
  exact yz (.exit id) _ e H n ⟨rfl,hE,hs⟩
 |.ret,D,N,n0,E,S,x,e,H,n,h,hi,hE,hs=>by
  simp only[Q6,p0] at h
  subst h
  exact yz .ret _ e H n ⟨rfl,hE,hs⟩
end Go.Fx
namespace Go.Fx
variable {D:Id→Option ABlock} {P:Program} {N:Lay}
theorem zac:∀ (l:List AVal) (k:Nat) (E0 E:Ev),zd5 k l E0=some E→∀t,E.g t=if k≤t∧t<k+l.length then(l[t-k]?).getD .any else E0.g t
 |[],k,E0,E,h,t=>by
  simp only[zd5,p0] at h
  subst h
  rw[if_neg (by simp)]
 |x::l,k,E0,E,h,t=>by
  unfold zd5 at h
  split at h<;>try (cases h;done)
  rename_i E1 h1
  rw[zac l (k+1) E1 E h t]
  have h1g:E1.g t=if t=k then x else E0.g t:=by
   simp only[Ev.p] at h1
   unfold Ev.g
   rw[Tr.put_get _ _ _ _ _ h1]
   by_cases ht:t=k
   ·rw[if_pos ht,if_pos ht]
   ·rw[if_neg ht,if_neg ht]
  rw[h1g]
  by_cases ht:t=k
  ·subst ht
   rw[if_neg (by omega),if_pos rfl,if_pos (by simp)]
   simp
  ·rw[if_neg ht]
   by_cases h2:k+1≤t∧t<k+1+l.length
   ·rw[if_pos h2,if_pos (by simp only[List.length_cons];omega)]
    have:t-k=(t-(k+1))+1:=by omega
    rw[this,List.getElem?_cons_succ]
   ·rw[if_neg h2,if_neg (by simp only[List.length_cons];omega)]
theorem zui{args:List AVal}{E:Ev}(h:zd5 0 args .nil=some E):EnR (zu 0 args) E:=by
 intro t
 rw[zac _ _ _ _ h t,Kc]
 rw[if_pos (Nat.zero_le _)]
 by_cases ht:t<args.length
 ·rw[if_pos ⟨Nat.zero_le _,by omega⟩]
 ·rw[if_neg (by omega),List.getElem?_eq_none (by omega)];rfl
variable {e:Env} {H:AHeap} {n:Nat} {S S':Sh}
theorem zyo{E:Ev}(hE:EnR e E)(hs:StR D H n S){r:LRes}{v:AVal}(h:zz4 E S.t.at r=some v):XOk (y2e e H r) v:=by
 replace h:=zqc hs.le h
 cases r with
 |t i=>
  simp only[zz4] at h
  rw[hE.get] at h
  obtain⟨h1,h2⟩:=y1 h
  exact⟨_,by simp only[y2e];exact congrArg _ h1,h2⟩
 |cell i ag m=>
  simp only[zz4] at h
  rw[hE.get] at h
  split at h<;>try (cases h;done)
  rename_i a ha
  obtain⟨h1,h2⟩:=y1 ha
  have h3:=Kx h
  simp only[y2e]
  have h1':(e.get i).strip=a:=h1
  rw[h1']
  exact h3.and h2
theorem z7r{E:Ev}(hE:EnR e E)(hs:StR D H n S):∀ {rs:List LRes} {l:List AVal} {k:List AVal→Prop},zkf E S.t.at rs=some l→k l→z70 e H rs k
 |[],l,k,h,hk=>by simp only[zkf,p0] at h;subst h;exact hk
 |r::rs,l,k,h,hk=>by
  unfold zkf at h
  split at h<;>try (cases h;done)
  rename_i v hv
  split at h<;>simp only[p0,reduceCtorEq] at h
  rename_i l' hl
  subst h
  obtain⟨s,h1,h2⟩:=zyo hE hs hv
  unfold z70
  rw[h1]
  exact⟨h2,z7r hE hs hl hk⟩
theorem zzi{res:List LRes}{x:Cs}{v:AVal}(h:y62 res x=some (v,S')):∃y,x=some y∧∀ex e H n,KX D y ex e H n→Y2 res (KS D v S') ex e H n:=by
 unfold y62 at h
 split at h
 ·split at h<;>simp only[p0,p2,reduceCtorEq] at h
  rename_i l hl
  obtain⟨rfl,rfl⟩:=h
  refine⟨_,rfl,?_⟩
  rintro ex e H n ⟨rfl,hE,hs⟩
  exact z7r hE hs hl ⟨rfl,hs⟩
 ·split at h<;>simp only[p0,p2,reduceCtorEq] at h
  rename_i l hl
  obtain⟨rfl,rfl⟩:=h
  refine⟨_,rfl,?_⟩
  rintro ex e H n ⟨rfl,hE,hs⟩
  exact z7r hE hs hl ⟨rfl,hs⟩
 ·cases h
def zaq(P:Program)(F:Nat→Option LFn):Prop:=∀f fn,F f=some fn→(∃bm,wm P bm f=some fn)∧Zc P f∧Jh P fn.lay.n fn.body
def W9(P:Program)(X:Nat→List AVal→Sh→Option Rs):Prop:=
 ∀ (f:Nat) aq S r S',X f aq S=some (some (r,S'))→∀ {D:Id→Option ABlock} H n,StR D H n S→ACalls P (.func f) aq H n (KS D r S')
variable {F:Nat→Option LFn} {X:Nat→List AVal→Sh→Option Rs} {B:Nat→Option (Bool×Nat)}
theorem y1z(hB:za7 P B)(m:Nat)(hC:∀j,j<m→z2s P (ev F X B j).1∧zil P (ev F X B j).2):zil P (ev F X B m).2:=by
 intro c E S x h D N n0 e H n hi hE hs
 refine zav (ι:=Nat×Ev×Sh×Env×AHeap×Nat) (fun y=>y.1≤m∧(ev F X B y.1).2 c y.2.1 y.2.2.1=some x∧EnR y.2.2.2.1 y.2.1∧StR D y.2.2.2.2.1 y.2.2.2.2.2 y.2.2.1) (fun y=>y.2.2.2.1) (fun y=>y.2.2.2.2.1) (fun y=>y.2.2.2.2.2) (fun y=>y.1) ?_ (m,E,S,e,H,n) ⟨Nat.le_refl _,h,hE,hs⟩
 rintro⟨k,E,S,e,H,n⟩ ⟨hk,h,hE,hs⟩
 simp only at hk h hE hs ⊢
 cases k with
 |zero=>cases h
 |succ j=>
  have h:(match Q6 (ev F X B j).1 (ev F X B j).2 B c E S with
   |some (.normal,e,S)=>(ev F X B j).2 c e S
   |x=>x)=some x:=h
  obtain⟨hc,hl⟩:=hC j (by omega)
  split at h
  ·rename_i E1 S1 h1
   refine(Zg hc hl hB c N n0 h1 hi hE hs).mono ?_
   rintro ex e' H' n' ⟨rfl,hE',hs'⟩
   exact⟨(j,E1,S1,e',H',n'),⟨by simp only;omega,h,hE',hs'⟩,Nat.lt_succ_self _,rfl,rfl,rfl⟩
  ·rename_i hne
   refine(Zg hc hl hB c N n0 h hi hE hs).mono ?_
   rintro ex e' H' n' ⟨rfl,hE',hs'⟩
   obtain⟨ex,E1,S1⟩:=x
   cases ex with
   |normal=>exact absurd h (hne _ _)
   |_=>exact⟨rfl,hE',hs'⟩
theorem zwf(hF:zaq P F)(hX:W9 P X)(hB:za7 P B):∀m,z2s P (ev F X B m).1∧zil P (ev F X B m).2:=by
 intro m
 induction m using Nat.strongRecOn with
 |ind m ih=>
  refine⟨?_,y1z hB m ih⟩
  cases m with
  |zero=>intro f aq S r S' h;cases h
  |succ j=>
   intro f aq S r S' h D H n hs
   obtain⟨hc,hl⟩:=ih j (Nat.lt_succ_self _)
   have h:(match X f aq S with
    |some r=>r
    |none=>match F f with
     |some fn=>match Nat.ble aq.length fn.lay.n with
      |true=>match zd5 0 aq .nil with
       |some e=>y62 fn.res (Q6 (ev F X B j).1 (ev F X B j).2 B fn.body e S)
       |none=>none
      |false=>none
     |none=>none)=some (r,S'):=h
   split at h
   ·rename_i hx
    rw[h] at hx
    exact hX f aq S r S' hx H n hs
   ·split at h<;>try (cases h;done)
    rename_i fn hfn
    split at h<;>try (cases h;done)
    rename_i hlen
    split at h<;>try (cases h;done)
    rename_i E hE
    obtain⟨⟨bm,h1⟩,h2,h3⟩:=hF f fn hfn
    obtain⟨y,hy,hfin⟩:=zzi h
    exact ACalls.ofFnW h1 h2 (vr.1 hlen) ((Zg hc hl hB fn.body fn.lay n hy h3 (zui hE) hs).mono hfin)
theorem StR.empty:StR (fun _=>none) [] 0 ⟨.nil,0⟩:=⟨rfl,fun id b h=>(by
 simp only[Tr.at] at h
 split at h
 ·cases h
 ·cases h),fun id b h=>by cases h⟩
theorem y01(hF:zaq P F)(hX:W9 P X)(hB:za7 P B){m f:Nat}{aq:List AVal}{R:AVal}(hR:R.nid=true)(h:((ev F X B m).1 f aq ⟨.nil,0⟩).map (·.1)=some R):PFn P f aq R:=by
 cases hx:(ev F X B m).1 f aq ⟨.nil,0⟩ with
 |none=>rw[hx] at h;cases h
 |some y=>
  obtain⟨r,S'⟩:=y
  rw[hx] at h
  simp only[p8,p0] at h
  subst h
  have hc:=(zwf hF hX hB m).1 f aq _ _ _ hx [] 0 StR.empty
  refine⟨hR,0,(hc.mono fun r' H' n' hk=>?_).fin⟩
  obtain⟨rfl,hs⟩:=hk
  exact⟨fun _=>false,fun _=>none,⟨fun i j k h=>(by cases h),fun i k h=>(by cases h),fun i h=>absurd h (Nat.not_lt_zero _),fun i k _ h=>(by cases h),Nat.le_refl _⟩,.same _ (hR),fun id blk h=>by cases h⟩
def noB:Nat→Option (Bool×Nat):=fun _=>none
theorem y45:za7 P noB:=fun f ag s h=>by cases h
theorem y4r(hF:zaq P F)(hX:W9 P X){m f:Nat}{aq:List AVal}{R:AVal}(hR:R.nid=true)(h:((ev F X noB m).1 f aq ⟨.nil,0⟩).map (·.1)=some R):PFn P f aq R:=y01 hF hX y45 hR h
end Go.Fx
namespace Go.Fx
variable {P:Program}
def z2q(l:List Nat):Option LFn→Option LFn
 |some fn=>match Xk l fn.lay.n fn.body with
  |true=>some fn
  |false=>none
 |none=>none
theorem zag{l:List Nat}(hl:∀f∈l,zjn P f){o:Option LFn}{fn:LFn}(h:z2q l o=some fn):o=some fn∧Jh P fn.lay.n fn.body:=by
 cases o with
 |none=>cases h
 |some g=>
  simp only[z2q] at h
  split at h<;>try (cases h;done)
  rename_i hc
  cases h
  exact⟨rfl,Yf hl hc⟩
def mkF(P:Program)(f:Nat):Option LFn:=match P.funcs[f]? with
 |some fn=>match fn.body.isSome&&!(fn.name=="runtime.NumGoroutine") with
  |true=>z2q [] (wm P (List.range fn.ntmps) f)
  |false=>none
 |none=>none
theorem y4p:zaq P (mkF P):=by
 intro f fn h
 unfold mkF at h
 split at h<;>try (cases h;done)
 rename_i g hg
 split at h<;>try (cases h;done)
 rename_i hb
 simp only[p1,Bool.not_eq_true'] at hb
 obtain⟨h,hi⟩:=zag (P:=P) (fun f h=>by cases h) h
 exact⟨⟨_,h⟩,⟨g,hg,hb.1,hb.2⟩,hi⟩
def noX:Nat→List AVal→Sh→Option Rs:=fun _ _ _=>none
def y7h(fw fs:Nat)(T e:TypeId)(f:Nat)(aq:List AVal)(S:Sh):Option Rs:=
 match p4 f fw with
 |true=>match aq with
  |[.ptr b 0 0,.str s]=>match S.t.at b with
   |some (.bld T' g)=>match S.t.at g with
    |some (.buf e' bs)=>match p4 T' T&&p4 e' e&&Nat.ble (bs.length+s.length) 140737488355328 with
     |true=>match S.upd b (.bld T (S.n,0)) with
      |some S1=>match S1.cut g with
       |some S2=>some (Xw (.tup [.int .i64 (s.length:Int),.val .nilIface]) (S2.new (.buf e (bs++s))))
       |none=>some none
      |none=>some none
     |false=>some none
    |_=>some none
   |_=>some none
  |_=>some none
 |false=>match p4 f fs with
  |true=>match aq with
   |[.ptr b 0 0]=>match S.t.at b with
    |some (.bld T' g)=>match S.t.at g with
     |some (.buf e' bs)=>match p4 T' T&&p4 e' e&&Nat.ble bs.length 9223372036854775807 with
      |true=>some (some (.str bs,S))
      |false=>some none
     |_=>some none
    |_=>some none
   |_=>some none
  |false=>none
theorem zys{fw fs:Nat}{T e tb ts:TypeId}(hW:BWrite P fw T e tb ts)(hS:BStr P fs T e):W9 P (y7h fw fs T e):=by
 intro f aq S r S' h D H n hs
 unfold y7h at h
 split at h
 ·rename_i hf
  have hf:=x3.1 hf
  subst hf
  split at h<;>try (cases h;done)
  rename_i b s
  split at h<;>try (cases h;done)
  rename_i T' g hb
  split at h<;>try (cases h;done)
  rename_i e' bs hg
  split at h<;>try (cases h;done)
  rename_i hc
  simp only[p1,x3,vr] at hc
  obtain⟨⟨rfl,rfl⟩,hlen⟩:=hc
  split at h<;>try (cases h;done)
  rename_i S1 h1
  split at h<;>try (cases h;done)
  rename_i S2 h2
  simp only[p0] at h
  obtain⟨rfl,hw⟩:=ub h
  have r1:=hs.upd hb h1
  obtain⟨gc,hgc⟩:=Sh.upd_at h1 hg
  have r2:=r1.cut hgc h2
  have r3:=r2.new hw
  replace hb:=hs.h _ _ hb
  replace hg:=hs.h _ _ hg
  rw[←hs.n] at r3
  exact zqg hW hb hg hlen ⟨rfl,r3⟩
 ·split at h<;>try (cases h;done)
  rename_i hf
  have hf:=x3.1 hf
  subst hf
  split at h<;>try (cases h;done)
  rename_i b
  split at h<;>try (cases h;done)
  rename_i T' g hb
  split at h<;>try (cases h;done)
  rename_i e' bs hg
  split at h<;>try (cases h;done)
  rename_i hc
  simp only[p1,x3,vr] at hc
  obtain⟨⟨rfl,rfl⟩,hlen⟩:=hc
  simp only[p0,p2] at h
  obtain⟨rfl,rfl⟩:=h
  replace hb:=hs.h _ _ hb
  replace hg:=hs.h _ _ hg
  exact zio hS hb hg hlen ⟨rfl,hs⟩
end Go.Fx
namespace Go.Fx
noncomputable def y84{ρ:Type}(l:List Nat)(F:Nat→Option ρ):Option ρ:=match l with
 |[]=>none
 |[j]=>F j
 |l=>by classical exact if h:∃r,∀j∈l,F j=some r then some (Classical.choose h) else none
section
variable {σ ρ:Type} (N:Nat) (b:Nat→σ→Option (σ ⊕ ρ)) (d:σ→Option (σ ⊕ ρ))
def y7d(seen:List Nat):List Nat:=(List.range N).filter fun j=>!seen.contains j
noncomputable def y4k:Nat→List Nat→σ→Option ρ
 |0,_,_=>none
 |k+1,seen,s=>match y7d N seen with
  |[]=>(d s).bind fun o=>match o with
   |.inl _=>none
   |.inr r=>some r
  |l=>y84 l fun j=>(b j s).bind fun o=>match o with
   |.inl s'=>y4k k (j::seen) s'
   |.inr r=>some r
def y49:List Nat→σ→Option ρ
 |[],s=>(d s).bind fun o=>match o with
  |.inl _=>none
  |.inr r=>some r
 |j::l,s=>(b j s).bind fun o=>match o with
  |.inl s'=>y49 l s'
  |.inr r=>some r
variable {N b d}
end
variable {P:Program} {N:Lay} {n0:Nat}
def y81{σ ρ:Type}(n0 nL:Nat)(F:Nat→List Nat→σ→Option ρ)(env:List Nat→σ→Env)(hp:List Nat→σ→AHeap)(QX:ρ→Exit→Env→AHeap→Nat→Prop)(k:Nat)(r:ρ):Exit→Env→AHeap→Nat→Prop:=fun ex e H n=>
 (ex=.normal∧∃seen s,F k seen s=some r∧Sim n0 e H n (env seen s) (hp seen s) nL)∨(ex≠.normal∧QX r ex e H n)
end Go.Fx
namespace Go.Fx
open Go.Shelf Go.RowKit Go.Lib Go.Sort Go.Proofs
def zxe:AVal→Value
 |.bool b=>.bool b
 |.int k n=>.int k n
 |.str l=>.string ⟨⟨l⟩⟩
 |_=>.nilFunc
def z2f:AVal→Bool
 |.bool _=>true
 |.int _ _=>true
 |.str _=>true
 |_=>false
section
variable {I:Nat→Nat→Prop} {β:Id→Option CLoc} {n:Nat} {H:AHeap} {w w':World}
theorem zhw{x:AVal}(h:z2f x=true){v:Value}(hr:Rep I β n w x v):v=zxe x:=by
 cases x with
 |bool b=>exact hr.bool_inv
 |int k m=>exact hr.int_inv
 |str l=>exact hr.str_inv
 |_=>cases h
theorem y4y{x:AVal}(h:z2f x=true):RepI I w x (zxe x):=by
 cases x with
 |bool b=>exact .bool b
 |int k m=>exact .int k m
 |str l=>exact .str l
 |_=>cases h
theorem zg8{x:AVal}(h:z2f x=true):x.nid=true:=by
 cases x with
 |bool b=>rfl
 |int k m=>rfl
 |str l=>rfl
 |_=>cases h
theorem zgx(hI:Inv I β n H w)(hc:Chg w w' fun _ _=>False):Inv I β n H w'∧Ext I β n H w I β n H w':=
 Z4 hI hc (Nat.le_refl n) (fun _ _ h=>h.elim) (fun _ _ h=>h) (fun _ _ h h'=>absurd h h') (fun id hid=>.inl rfl)
  (fun id d b' k hid hd _=>by rw[hI.fresh id hid] at hd;cases hd) hI.fresh (fun i j d d' b' k hi hj h h' _=>hI.inj i j d d' b' k hi hj h h') (fun _ _ _ _ _ _ h=>h) (fun _ _ h=>h) (fun id blk h=>.inl ⟨h,rfl,fun _ _ _ _ _ h=>h⟩)
theorem zuq(n:Nat)(os:Array Obj):Chg w (grow (w.drewN n) os) fun _ _=>False:=by
 refine⟨rfl,⟨rfl,fun _=>Nat.le_add_right _ _⟩,rfl,by simp,fun b hb _=>heap_grow_old _ os hb,fun b k hb _=>?_,fun b arr el fr h=>⟨arr,?_,rfl⟩,fun b o ho h _=>?_⟩
 ·exact cell?_of_heap (heap_grow_old (w.drewN n) os hb)
 all_goals
  have hlt:b<w.heap.size:=by
   rcases Nat.lt_or_ge b w.heap.size with h'|h'
   ·exact h'
   ·rw[Array.getElem?_eq_none h'] at h;cases h
  rw[show(grow (w.drewN n) os).heap[b]?=w.heap[b]? from heap_grow_old (w.drewN n) os hlt];exact h
theorem PFn.lib{P:Program}{f:FuncId}{args:List AVal}{R:AVal}(hok:Zc P f)(ha:args.all z2f=true)(hR:z2f R=true)
 (h:∀w,Calls P f (args.map zxe).toArray w fun e w'=>e=.returned (zxe R)∧∃n os,w'=grow (w.drewN n) os):PFn P f args R:=by
 refine⟨zg8 hR,0,hok,fun I β w vs hI hl hr=>?_⟩
 have hvs:vs=args.map zxe:=by
  refine List.ext_getElem (by rw[List.length_map];exact hl) fun i h1 h2=>?_
  have h3:i<args.length:=by omega
  have:=hr i args[i] vs[i] (p3 h3) (p3 h1)
  rw[List.getElem_map]
  exact zhw (List.all_eq_true.1 ha _ (List.getElem_mem h3)) this
 subst hvs
 refine(h w).mono ?_
 rintro e w' ⟨rfl,q,os,rfl⟩
 obtain⟨g1,g2⟩:=zgx hI (zuq q os)
 exact⟨R,_,[],0,I,β,rfl,⟨rfl,rfl,rfl⟩,g1,.imm _ _ (y4y hR),g2⟩
theorem zp2{w w':World}(h:w'=w):∃n os,w'=grow (w.drewN n) os:=⟨0,#[],by rw[h,grow_empty];rfl⟩
end
end Go.Fx
namespace Go.Fx
open Go.Shelf Go.RowKit Go.Lib Go.Sort Go.Proofs
theorem zrl{w w':World}(hk:z43=false)(h:Below w.heap.size w w'):Chg w w' fun _ _=>False:=by
 refine⟨h.os,⟨h.tape,fun hh=>by rw[hk] at hh;cases hh⟩,h.output,h.size,fun b hb _=>h.block b hb,fun b k hb _=>cell?_of_heap (h.block b hb),fun b arr el fr hh=>⟨arr,?_,rfl⟩,fun b o ho hh _=>?_⟩
 all_goals
  have hlt:b<w.heap.size:=by
   rcases Nat.lt_or_ge b w.heap.size with h'|h'
   ·exact h'
   ·rw[Array.getElem?_eq_none h'] at hh;cases hh
  rw[h.block b hlt];exact hh
theorem PFn.libG{P:Program}{f:FuncId}{args:List AVal}{R:AVal}(hok:Zc P f)(ha:args.all z2f=true)(hR:z2f R=true)
 (h:∀I w,GlobOk I w→Calls P f (args.map zxe).toArray w fun e w'=>e=.returned (zxe R)∧Chg w w' fun _ _=>False):PFn P f args R:=by
 refine⟨zg8 hR,0,hok,fun I β w vs hI hl hr=>?_⟩
 have hvs:vs=args.map zxe:=by
  refine List.ext_getElem (by rw[List.length_map];exact hl) fun i h1 h2=>?_
  have h3:i<args.length:=by omega
  have:=hr i args[i] vs[i] (p3 h3) (p3 h1)
  rw[List.getElem_map]
  exact zhw (List.all_eq_true.1 ha _ (List.getElem_mem h3)) this
 subst hvs
 refine(h I w hI.glob).mono ?_
 rintro e w' ⟨rfl,hc⟩
 obtain⟨g1,g2⟩:=zgx hI hc
 exact⟨R,_,[],0,I,β,rfl,⟨rfl,rfl,rfl⟩,g1,.imm _ _ (y4y hR),g2⟩
def z0t:List Value:=(List.range 256).map fun c=>.int .u8 (firstT c)
def W6:List Value:=(List.range 32).map fun j=>.int .u8 (if j % 2=0 then accLo (j / 2) else accHi (j / 2))
theorem z1a{g3 g4:Nat}(h3:(g3,z0t)∈GL)(h4:(g4,W6)∈GL){I:Nat→Nat→Prop}{w:World}(h:GlobOk I w):Lib.Utf8Tabs g3 g4 w:=by
 refine⟨fun c hc=>((h.1 _ h3).2 c _ (by simp[z0t,hc])).2,fun i hi=>⟨((h.1 _ h4).2 (2*i) _ ?_).2,((h.1 _ h4).2 (2*i+1) _ ?_).2⟩⟩
 ·have h1:2*i<32:=by omega
  simp only[W6,p5,p7 h1,p8]
  rw[if_pos (by omega),show 2*i / 2=i by omega]
 ·have h1:2*i+1<32:=by omega
  simp only[W6,p5,p7 h1,p8]
  rw[if_neg (by omega),show(2*i+1) / 2=i by omega]
theorem z6v{g3 g4:Nat}{w:World}(h:Lib.Utf8Tabs g3 g4 w):∀x∈[(g3,z0t),(g4,W6)],∀ (i:Nat) (v:Value),x.2[i]?=some v→(∃v,w.cell? ⟨x.1,i,none⟩=some v)∧w.cell? ⟨x.1,i,none⟩=some v:=by
 intro x hx i v hv
 rcases List.mem_cons.1 hx with rfl|hx
 ·have hi:i<256:=by
   rcases Nat.lt_or_ge i 256 with h'|h'
   ·exact h'
   ·rw[List.getElem?_eq_none (by simp[z0t];exact h')] at hv;cases hv
  have hv:v=.int .u8 (firstT i):=by
   simp only[z0t,p5,p7 hi,p8,p0] at hv
   exact hv.symm
  subst hv
  exact⟨⟨_,h.1 i hi⟩,h.1 i hi⟩
 ·simp only[List.mem_singleton] at hx
  subst hx
  have hi:i<32:=by
   rcases Nat.lt_or_ge i 32 with h'|h'
   ·exact h'
   ·rw[List.getElem?_eq_none (by simp[W6];exact h')] at hv;cases hv
  simp only[W6,p5,p7 hi,p8,p0] at hv
  have h2:=h.2 (i / 2) (by omega)
  by_cases he:i % 2=0
  ·rw[if_pos he] at hv
   subst hv
   have:i=2*(i / 2):=by omega
   have h3:=h2.1
   rw[←this] at h3
   exact⟨⟨_,h3⟩,h3⟩
  ·rw[if_neg he] at hv
   subst hv
   have:i=2*(i / 2)+1:=by omega
   have h3:=h2.2
   rw[←this] at h3
   exact⟨⟨_,h3⟩,h3⟩
theorem zb9{g3 g4:Nat}(hGL:GL=[(g3,z0t),(g4,W6)])(hGS:GLS=[])(hGA:GA=[]){w:World}(h:Lib.Utf8Tabs g3 g4 w):GlobOk (fun b k=>∃v,w.cell? ⟨b,k,none⟩=some v) w:=by
 refine⟨fun x hx=>?_,fun g hg=>by rw[hGA] at hg;cases hg⟩
 rw[hGL] at hx
 refine⟨fun hm=>?_,fun i v hv=>z6v h x hx i v hv⟩
 rw[hGS] at hm;cases hm
def y8g(k:IntKind)(zs:List Int):List Value:=zs.map fun z=>.int k z
theorem zc2{P:Program}{ρ:Ren}(L:Lays.n196 P ρ)(hk:z43=false){f:FuncId}(hf:ρ.f 196=f)(hok:Zc P f)(h3:(ρ.g 3,z0t)∈GL)(h4:(ρ.g 4,W6)∈GL){s:List UInt8}(hs:s.length≤9223372036854775807) :
 PFn P f [.str s] (.bool (Lib.validD s)):=by
 subst hf
 refine PFn.libG hok rfl rfl fun I w hg=>?_
 refine(Any.utf8_ValidString L ⟨⟨s⟩⟩ w (by simpa[ByteArray.size] using hs) (z1a h3 h4 hg)).mono ?_
 rintro e w' ⟨rfl,hb⟩
 exact⟨rfl,zrl hk hb⟩
end Go.Fx
namespace Go.Fx
open Go.Shelf
variable {P:Program}
def orX(X1 X2:Nat→List AVal→Sh→Option Rs):Nat→List AVal→Sh→Option Rs:=fun f xs S=>match X1 f xs S with
 |some r=>some r
 |none=>X2 f xs S
theorem zh5{X1 X2:Nat→List AVal→Sh→Option Rs}(h1:W9 P X1)(h2:W9 P X2):W9 P (orX X1 X2):=by
 intro f xs S r S' h
 unfold orX at h
 split at h
 ·rename_i h'
  simp only[p0] at h
  subst h
  exact h1 f xs S r S' h'
 ·exact h2 f xs S r S' h
def zyu(fb fl:Nat)(T e:TypeId)(f:Nat)(xs:List AVal)(S:Sh):Option Rs:=
 match p4 f fb with
 |true=>match xs with
  |[.ptr b 0 0,.int .u8 (.ofNat k)]=>match S.t.at b with
   |some (.bld T' g)=>match S.t.at g with
    |some (.buf e' bs)=>match p4 T' T&&p4 e' e&&Nat.ble (bs.length+1) 140737488355328&&Nat.ble k 255 with
     |true=>match S.upd b (.bld T (S.n,0)) with
      |some S1=>match S1.cut g with
       |some S2=>some (Xw (.val .nilIface) (S2.new (.buf e (bs++[UInt8.ofNat k]))))
       |none=>some none
      |none=>some none
     |false=>some none
    |_=>some none
   |_=>some none
  |_=>some none
 |false=>match p4 f fl with
  |true=>match xs with
   |[.ptr b 0 0]=>match S.t.at b with
    |some (.bld T' g)=>match S.t.at g with
     |some (.buf _ bs)=>match p4 T' T with
      |true=>some (some (.int .i64 (bs.length:Int),S))
      |false=>some none
     |_=>some none
    |_=>some none
   |_=>some none
  |false=>none
theorem zuh{fb fl:Nat}{T e tb:TypeId}(hW:BByte P fb T e tb)(hS:BLen P fl T):W9 P (zyu fb fl T e):=by
 intro f xs S r S' h D H n hs
 unfold zyu at h
 split at h
 ·rename_i hf
  have hf:=x3.1 hf
  subst hf
  split at h<;>try (cases h;done)
  rename_i b k
  split at h<;>try (cases h;done)
  rename_i T' g hb
  split at h<;>try (cases h;done)
  rename_i e' bs hg
  split at h<;>try (cases h;done)
  rename_i hc
  simp only[p1,x3,vr] at hc
  obtain⟨⟨⟨rfl,rfl⟩,hlen⟩,hk⟩:=hc
  split at h<;>try (cases h;done)
  rename_i S1 h1
  split at h<;>try (cases h;done)
  rename_i S2 h2
  simp only[p0] at h
  obtain⟨rfl,hw⟩:=ub h
  have r1:=hs.upd hb h1
  obtain⟨gc,hgc⟩:=Sh.upd_at h1 hg
  have r2:=r1.cut hgc h2
  have r3:=r2.new hw
  replace hb:=hs.h _ _ hb
  replace hg:=hs.h _ _ hg
  rw[←hs.n] at r3
  have hx:(Int.ofNat k)=((UInt8.ofNat k).toNat:Int):=by
   have:(UInt8.ofNat k).toNat=k:=by simp[UInt8.toNat_ofNat'];omega
   rw[this];rfl
  rw[hx]
  exact ziw hW hb hg hlen ⟨rfl,r3⟩
 ·split at h<;>try (cases h;done)
  rename_i hf
  have hf:=x3.1 hf
  subst hf
  split at h<;>try (cases h;done)
  rename_i b
  split at h<;>try (cases h;done)
  rename_i T' g hb
  split at h<;>try (cases h;done)
  rename_i e' bs hg
  split at h<;>try (cases h;done)
  rename_i hc
  have hc:=x3.1 hc
  subst hc
  simp only[p0,p2] at h
  obtain⟨rfl,rfl⟩:=h
  replace hb:=hs.h _ _ hb
  replace hg:=hs.h _ _ hg
  exact y22 hS hb hg ⟨rfl,hs⟩
theorem zt4{I:Nat→Nat→Prop}{β:Id→Option CLoc}{n:Nat}{w:World}{b:Id}{s s' off:Nat}{f:Bool}{v:Value}(h:Rep I β n w (.msl b s off 0 f) v):Rep I β n w (.isl s' [] false) v:=by
 obtain⟨a,cap,rfl,_,_,hn⟩:=h.msl_inv
 cases a with
 |none=>rw[hn rfl];exact .imm _ _ (.islNil s' false)
 |some a=>exact .imm _ _ (.islEmpty s' false a cap (fun h=>by cases h))
theorem z9q{f:Fn}{b:Id}{s s' off:Nat}{fl:Bool}{H:AHeap}{n:Nat}{K:AVal→AHeap→Nat→Prop}(h:ACalls P f [.isl s' [] false] H n K):ACalls P f [.msl b s off 0 fl] H n K:=
 ⟨h.1,fun I β w vs hI hl hr=>h.2 I β w vs hI hl fun i x v hx hv=>by
  cases i with
  |zero=>
   simp only[List.getElem?_cons_zero,p0] at hx
   subst hx
   exact zt4 (hr 0 _ v rfl hv)
  |succ i=>simp at hx⟩
def zdh(fc s:Nat)(f:Nat)(xs:List AVal)(S:Sh):Option Rs:=
 match p4 f fc with
 |true=>match xs with
  |[.isl s' [] _]=>match p4 s' s with
   |true=>some (some (.isl s [] false,S))
   |false=>none
  |[.val (.slice none 0 0)]=>some (some (.isl s [] false,S))
  |[.msl _ _ _ 0 _]=>some (some (.isl s [] false,S))
  |_=>none
 |false=>none
theorem zjo{fc s:Nat}(h0:PFn P fc [.isl s [] false] (.isl s [] false)):W9 P (zdh fc s):=by
 intro f xs S r S' h D H n hs
 unfold zdh at h
 split at h<;>try (cases h;done)
 rename_i hf
 have hf:=x3.1 hf
 subst hf
 split at h<;>try (cases h;done)
 ·split at h<;>try (cases h;done)
  rename_i hc
  have hc:=x3.1 hc
  subst hc
  simp only[p0,p2] at h
  obtain⟨rfl,rfl⟩:=h
  exact PFn.call h0 (And.intro (Vw.islF _ _ _) trivial) ⟨rfl,hs⟩
 ·simp only[p0,p2] at h
  obtain⟨rfl,rfl⟩:=h
  exact PFn.call h0 (And.intro (Vw.nilI _ _) trivial) ⟨rfl,hs⟩
 ·simp only[p0,p2] at h
  obtain⟨rfl,rfl⟩:=h
  exact z9q (s':=s) (PFn.call h0 (And.intro (Vw.islF _ _ _) trivial) ⟨rfl,hs⟩)
def y61:List UInt8→Bool
 |[]=>true
 |b::r=>match Nat.ble b.toNat 127 with
  |true=>y61 r
  |false=>false
theorem zsl:∀ {l:List UInt8},y61 l=true→Lib.validD l=true
 |[],_=>rfl
 |b::r,h=>by
  unfold y61 at h
  split at h<;>try (cases h;done)
  rename_i hb
  have hb:=vr.1 hb
  rw[Lib.validD_cons b r (by omega)]
  exact zsl h
def zrs(fv:Nat)(f:Nat)(xs:List AVal)(S:Sh):Option Rs:=
 match p4 f fv with
 |true=>match xs with
  |[.str s]=>match y61 s&&Nat.ble s.length 9223372036854775807 with
   |true=>some (some (.bool true,S))
   |false=>match Nat.ble s.length 9223372036854775807 with
    |true=>some (some (.bool (Lib.validD s),S))
    |false=>none
  |_=>none
 |false=>none
theorem zq2{fv:Nat}(h0:∀s:List UInt8,s.length≤9223372036854775807→PFn P fv [.str s] (.bool (Lib.validD s))):W9 P (zrs fv):=by
 intro f xs S r S' h D H n hs
 unfold zrs at h
 split at h<;>try (cases h;done)
 rename_i hf
 have hf:=x3.1 hf
 subst hf
 split at h<;>try (cases h;done)
 rename_i s
 split at h
 ·rename_i hc
  simp only[p1,vr] at hc
  simp only[p0,p2] at h
  obtain⟨rfl,rfl⟩:=h
  have:=h0 s hc.2
  rw[zsl hc.1] at this
  exact PFn.call this (And.intro (Vw.same _ rfl) trivial) ⟨rfl,hs⟩
 ·split at h<;>try (cases h;done)
  rename_i hc
  simp only[p0,p2] at h
  obtain⟨rfl,rfl⟩:=h
  exact PFn.call (h0 s (vr.1 hc)) (And.intro (Vw.same _ rfl) trivial) ⟨rfl,hs⟩
def zv8(c:Nat):List UInt8→Bool
 |[]=>true
 |b::r=>match p4 b.toNat c with
  |true=>false
  |false=>zv8 c r
theorem zhd{c:Nat}(hc:c≤255):∀ {l:List UInt8},zv8 c l=true→Lib.indexByte l c.toUInt8=-1
 |[],_=>rfl
 |b::r,h=>by
  unfold zv8 at h
  split at h<;>try (cases h;done)
  rename_i hb
  have hb:=Nat.ne_of_beq_eq_false hb
  unfold Lib.indexByte
  rw[zhd hc h]
  have:(b==c.toUInt8)=false:=by
   rw[beq_eq_false_iff_ne]
   intro he
   apply hb
   rw[he]
   simp[Nat.toUInt8]
   omega
  rw[this]
  rfl
def zrw(fi:Nat)(f:Nat)(xs:List AVal)(S:Sh):Option Rs:=
 match p4 f fi with
 |true=>match xs with
  |[.str s,.int .u8 (.ofNat k)]=>match zv8 k s&&Nat.ble k 255 with
   |true=>some (some (.int .i64 (-1),S))
   |false=>some (some (.int .i64 (Lib.indexByte s k.toUInt8),S))
  |_=>none
 |false=>none
theorem zqn{fi:Nat}(h0:∀ (s:List UInt8) (c:Int),PFn P fi [.str s,.int .u8 c] (.int .i64 (Lib.indexByte s c.toNat.toUInt8))):W9 P (zrw fi):=by
 intro f xs S r S' h D H n hs
 unfold zrw at h
 split at h<;>try (cases h;done)
 rename_i hf
 have hf:=x3.1 hf
 subst hf
 split at h<;>try (cases h;done)
 rename_i s k
 have h1:=h0 s (.ofNat k)
 split at h
 ·rename_i hc
  simp only[p1,vr] at hc
  simp only[p0,p2] at h
  obtain⟨rfl,rfl⟩:=h
  have h2:=zhd hc.2 hc.1
  rw[show(Int.ofNat k).toNat=k from rfl,h2] at h1
  exact PFn.call h1 (And.intro (Vw.same _ rfl) (And.intro (Vw.same _ rfl) trivial)) ⟨rfl,hs⟩
 ·simp only[p0,p2] at h
  obtain⟨rfl,rfl⟩:=h
  exact PFn.call h1 (And.intro (Vw.same _ rfl) (And.intro (Vw.same _ rfl) trivial)) ⟨rfl,hs⟩
theorem zsx{P:Program}{ρ:Ren}(L:Proofs.Lays.n137 P ρ){f:FuncId}(hf:ρ.f 137=f)(hok:Zc P f)(s:List UInt8)(c:Int) :
 PFn P f [.str s,.int .u8 c] (.int .i64 (Lib.indexByte s c.toNat.toUInt8)):=by
 subst hf
 exact PFn.lib hok rfl rfl fun w=>(Proofs.Any.strings_IndexByte L ⟨⟨s⟩⟩ c w).mono fun e w' h=>⟨h.1,zp2 h.2⟩
def y7r(P:Program)(l:List Nat)(f:Nat):Option LFn:=match l.any fun i=>p4 i f with
 |false=>mkF P f
 |true=>match P.funcs[f]? with
  |some fn=>match fn.body.isSome&&!(fn.name=="runtime.NumGoroutine") with
   |true=>z2q [] (wm P [] f)
   |false=>none
  |none=>none
theorem zyk{P:Program}{l:List Nat}:zaq P (y7r P l):=by
 intro f fn h
 unfold y7r at h
 split at h
 ·exact y4p f fn h
 ·split at h<;>try (cases h;done)
  rename_i g hg
  split at h<;>try (cases h;done)
  rename_i hb
  simp only[p1,Bool.not_eq_true'] at hb
  obtain⟨h,hi⟩:=zag (P:=P) (fun f h=>by cases h) h
  exact⟨⟨_,h⟩,⟨g,hg,hb.1,hb.2⟩,hi⟩
def y8h(P:Program)(z l:List Nat)(f:Nat):Option LFn:=match P.funcs[f]? with
 |some fn=>match fn.body.isSome&&!(fn.name=="runtime.NumGoroutine") with
  |true=>match l.any fun i=>p4 i f with
   |true=>z2q z (wm P [] f)
   |false=>z2q z (wm P (List.range fn.ntmps) f)
  |false=>none
 |none=>none
def ztn(u:List (Nat×List Nat))(f:Nat):List Nat:=match u.find? (fun x=>p4 x.1 f) with
 |some x=>x.2
 |none=>[]
def y06(u:List (Nat×List Nat))(f n:Nat):List Nat:=match ztn u f with
 |[]=>List.range n
 |l=>(List.range n).filter fun i=>!(l.any fun j=>p4 j i)
def y8d(P:Program)(z:List Nat)(u:List (Nat×List Nat))(f:Nat):Option LFn:=match P.funcs[f]? with
 |some fn=>match fn.body.isSome&&!(fn.name=="runtime.NumGoroutine") with
  |true=>z2q z (wm P (y06 u f fn.ntmps) f)
  |false=>none
 |none=>none
end Go.Fx
namespace Go.Fx
universe u
theorem TT:True:=True.intro
theorem AI{a b:Prop}(x:a)(y:b):a∧b:=⟨x,y⟩
theorem VS{F:Id→Bool}{H:AHeap}{ρ:Id→Option Id}{n:Nat}{x:AVal}(h:x.nid=true):Vw F H ρ n x x:=.same x h
theorem NB{a b:Nat}(h:Nat.ble a b=true):a≤b:=Nat.le_of_ble_eq_true h
theorem SR{P:Program}{N:Lay}{n0:Nat}{ops:List LOper}{b:LCode}{Q:Exit→Env→AHeap→Nat→Prop}{e:Env}{H:AHeap}{n:Nat}(h:zpm P ops (Yk P N n0 b Q .normal) e H n):LWp P N n0 (.seq (.region ops) b) Q e H n:=wn (J1 h)
theorem HP{p q:Prop}(h:q):(p→p)∧q:=⟨fun x=>x,h⟩
theorem HB{c:Bool}{q:Prop}(h:q):(c=true→(c==true)=true)∧q:=⟨bqt,h⟩
theorem EX{α:Sort u}{p:α→Prop}(w:α)(h:p w):Exists p:=⟨w,h⟩
theorem S2{F:Id→Bool}{H:AHeap}{ρ:Id→Option Id}{n:Nat}{a b:AVal}{R:Prop}(h1:a.nid=true)(h2:b.nid=true)(r:R):Vw F H ρ n a a∧Vw F H ρ n b b∧R:=⟨VS h1,VS h2,r⟩
theorem S4{F:Id→Bool}{H:AHeap}{ρ:Id→Option Id}{n:Nat}{a b c d:AVal}{R:Prop}(h1:a.nid=true)(h2:b.nid=true)(h3:c.nid=true)(h4:d.nid=true)(r:R):Vw F H ρ n a a∧Vw F H ρ n b b∧Vw F H ρ n c c∧Vw F H ρ n d d∧R:=⟨VS h1,VS h2,VS h3,VS h4,r⟩
theorem SP{F:Id→Bool}{H:AHeap}{ρ:Id→Option Id}{n:Nat}{b b':Id}{i o:Nat}{R:Prop}(h:ρ b'=some b)(r:R):Vw F H ρ n (.ptr b i o) (.ptr b' i o)∧R:=⟨.ptr _ _ _ _ h,r⟩
theorem VL{F:Id→Bool}{H:AHeap}{ρ:Id→Option Id}{n:Nat}:∀ {l:List AVal},AVal.nid.nidL l=true→VwL F H ρ n l l
 |[],_=>trivial
 |x::l,h=>by
  simp only[AVal.nid.nidL,p1] at h
  exact⟨VS h.1,VL h.2⟩
theorem OL{F:Id→Bool}{H:AHeap}{ρ:Id→Option Id}{n:Nat}{l:List AVal}(h:AVal.nid.nidL l=true):BVw F H ρ n (.one l) (.one l):=BVw.oneL (VL h)
abbrev Qo(d:Nat)(o:LOp):LOper:=⟨some d,o,none⟩
abbrev Qg(d:Nat)(o:LOp)(g:Nat×Bool):LOper:=⟨some d,o,some g⟩
abbrev Qm(d s:Nat):LOper:=⟨some d,.mv (.t s),none⟩
abbrev Qn(d s:Nat)(g:Nat×Bool):LOper:=⟨some d,.mv (.t s),some g⟩
abbrev Qf(d k s:Nat):LOper:=⟨some d,.faddr k (.t s),none⟩
abbrev Qe(d k s:Nat)(g:Nat×Bool):LOper:=⟨some d,.faddr k (.t s),some g⟩
abbrev Ql(d n s:Nat):LOper:=⟨some d,.load false n (.t s),none⟩
abbrev Qk(d n s:Nat)(g:Nat×Bool):LOper:=⟨some d,.load false n (.t s),some g⟩
abbrev Qt(d n s:Nat):LOper:=⟨some d,.load true n (.t s),none⟩
abbrev Qp(d a b:Nat):LOper:=⟨some d,.pick (.t a) (.t b) (.c (.bool false)),none⟩
abbrev Qi(d:Nat)(n:Int):LOper:=⟨some d,.mv (.c (.int .i64 n)),none⟩
abbrev Qb(d:Nat):LOper:=⟨some d,.mv (.c (.bool false)),none⟩
abbrev Qc(d f s:Nat):LOper:=⟨some d,.call f [(.t s)],none⟩
abbrev i6(n:Int):AVal:=.int .i64 n
end Go.Fx
namespace Go.Fx
def inR(x:Int):Prop:=-9223372036854775808≤x∧x≤9223372036854775807
theorem ztt{x:Int}(h:inR x):W x=x:=z21 h.1 h.2
theorem z6n{σ ρ:Type}(b:σ→Option (σ ⊕ ρ))(s:σ):Y5 none b s=match b s with
 |none=>none
 |some (.inl s')=>Y5 none b s'
 |some (.inr r)=>some r:=zvz b s
theorem wz{σ ρ:Type}{b:σ→Option (σ ⊕ ρ)}{s s':σ}(h:b s=some (.inl s')):Y5 none b s=Y5 none b s':=by rw[z6n,h]
theorem qw{σ ρ:Type}{b:σ→Option (σ ⊕ ρ)}{s:σ}{x:Option ρ}(h:b s=x.map .inr):Y5 none b s=x:=by rw[z6n,h];cases x<;>rfl
end Go.Fx
namespace Go.Fx
theorem Wi{i:Nat}(h:i≤4611686018427387904):W ((i:Int)+1)=((i+1:Nat):Int):=by rw[ztt (by unfold inR;omega)];omega
theorem z36{α:Type}[Inhabited α]{l:List α}{i:Nat}(h:i<l.length):l.getD i default=l[i]:=by
 simp[p6,h]
def y7v(x:List UInt8)(l:List (List UInt8)):List (List UInt8):=l.takeWhile fun y=>decide (y<x)
def y7z(x:List UInt8)(l:List (List UInt8)):List (List UInt8):=l.dropWhile fun y=>decide (y<x)
def y8c(l:List (List UInt8))(x:List UInt8):List (List UInt8):=match y7z x l with
 |[]=>y7v x l++[x]
 |y::r=>if y=x then l else y7v x l++(x::y::r)
def y86(l:List (List UInt8)):List (List UInt8):=l.foldl y8c []
section
variable {κ ν:Type} [DecidableEq κ] {q:κ→κ→Bool}
end
end Go.Fx
namespace Go.Fx
mutual
def sz{H:Type}:DataW H→Nat
 |.lit (.string bytes)=>bytes.length+1
 |.lit _=>1
 |.nil=>1
 |.ptr d=>sz d+1
 |.slice es sp=>szL es+szL sp+1
 |.agg ds=>szL ds+1
 |.iface _ d=>sz d+1
 |.map _=>1
 |.held _=>1
def szL{H:Type}:List (DataW H)→Nat
 |[]=>0
 |d::r=>sz d+szL r
end
theorem zxb{H:Type}:∀ (l:List (DataW H×List MemPlace)),szL (l.map (·.1))=(l.map fun z=>sz z.1).sum
 |[]=>rfl
 |x::l=>by simp only[List.map_cons,szL,List.sum_cons,zxb l]
structure RB(P:Program)(F:Nat)(t:TypeId)(α:Type)(e:α→List AVal)(ok:α→Nat→Prop):Prop where
 size:∀x,(e x).length=P.cellsOf t
 reads:∀ {H:Type} {enc:TypeId×Value→H} {w:World} {fuel:Nat} {cs:List Value} {d:DataW H} {ps:List MemPlace},fuel≤F→p9 enc P w 0 (fun _=>true) true fuel t cs=some (d,ps)→(∀n∈d.weights P t,n≤reachBytes)→∃x,ok x (sz d)∧z28 (old w) w (e x) cs
variable {P:Program}
theorem RB.of{F:Nat}{t:TypeId}{α:Type}{e:α→List AVal}{ok:α→Prop}(h:RA P t α e ok):RB P F t α e (fun x _=>ok x):=
 ⟨h.size,fun _ hd hw=>h.reads hd hw⟩
theorem RB.string{F:Nat}{t:TypeId}(ht:P.underlying t=some .string)(hs:P.cellsOf t=1):RB P F t (List UInt8) (fun l=>[.str l]) (fun l k=>l.length+1≤k):=by
 refine⟨fun _=>hs.symm,fun {H enc w fuel cs d ps} _ h hw=>?_⟩
 cases fuel with
 |zero=>cases h
 |succ fuel=>
  unfold p9 at h
  simp only[ht] at h
  split at h<;>try (simp at *;done)
  rename_i s _
  split at h<;>try (cases h;done)
  simp only[p0,p2] at h
  obtain⟨rfl,_⟩:=h
  refine⟨s.data.toList,?_,Q1 ?_ rfl⟩
  ·simp[sz]
  ·exact .str s.data.toList
theorem RB.map{F:Nat}{t:TypeId}{α γ:Type}{e:α→List AVal}{ok:α→Nat→Prop}(h:RB P F t α e ok)(g:α→γ){e':γ→List AVal}{ok':γ→Nat→Prop}(hs:∀x,(e' x).length=P.cellsOf t)(hg:∀x k,ok x k→ok' (g x) k∧e' (g x)=e x):RB P F t γ e' ok':=
 ⟨hs,fun hF hd hw=>by
  obtain⟨x,h1,h2⟩:=h.reads hF hd hw
  obtain⟨h3,h4⟩:=hg x _ h1
  exact⟨g x,h3,by rw[h4];exact h2⟩⟩
theorem RB.zero{t:TypeId}{α:Type}{e:α→List AVal}{ok:α→Nat→Prop}(hs:∀x,(e x).length=P.cellsOf t):RB P 0 t α e ok:=
 ⟨hs,fun hF hd _=>by
  obtain rfl:=Nat.le_zero.1 hF
  cases hd⟩
def OkL{α:Type}(b:Nat)(ok:α→Nat→Prop)(l:List α)(k:Nat):Prop:=
 l.length≤maxLen∧l.length*b≤reachBytes∧∃ks:List Nat,ks.length=l.length∧(∀ (i:Nat) (x:α) (m:Nat),l[i]?=some x→ks[i]?=some m→ok x m)∧ks.sum≤k
theorem RB.slice{F:Nat}{t c:TypeId}{α:Type}{e:α→List AVal}{ok:α→Nat→Prop}(ht:P.underlying t=some (.slice c))(hs:P.cellsOf t=1)(hc:0<P.cellsOf c)(h:RB P F c α e ok) :
 RB P (F+1) t (List α) (fun l=>[.isl (P.cellsOf c) (l.map e) false]) (OkL (P.bytesOf c) ok):=by
 refine⟨fun _=>hs.symm,fun {H enc w fuel cs d ps} hF hd hw=>?_⟩
 cases fuel with
 |zero=>cases hd
 |succ fuel=>
  unfold p9 at hd
  rcases cs with _|⟨v,_|⟨v2,r⟩⟩
  ·simp[ht] at hd
  ·cases v<;>simp only[ht] at hd<;>try (cases hd;done)
   rename_i ad len cap
   cases ad with
   |none=>
    rcases len with _|len<;>rcases cap with _|cap<;>simp only at hd<;>try (cases hd;done)
    exact⟨[],⟨Nat.zero_le _,by simp,[],rfl,by simp,Nat.zero_le _⟩,Q1 (.islNil _ _) rfl⟩
   |some ad=>
    simp only at hd
    split at hd<;>try (cases hd;done)
    rename_i hcond
    obtain⟨_,hlc,hcm⟩:=hcond
    cases hel:(List.range len).mapM (fun i=>(w.cells? 0 (ad.add (i*P.cellsOf c)) (P.cellsOf c)).bind (p9 enc P w 0 (fun _=>true) true fuel c)) with
    |none=>rw[hel] at hd;cases hd
    |some elems=>
     rw[hel] at hd
     simp only[Option.bind_some,if_true,Option.map_eq_some_iff,p2] at hd
     obtain⟨rest,hrest,hd1,_⟩:=hd
     obtain⟨k1,k2⟩:=Ja hel
     obtain⟨k3,_⟩:=Ja hrest
     subst hd1
     have hw1:(elems.length+rest.length)*P.bytesOf c≤reachBytes:=by
      have:=hw ((elems.length+rest.length)*P.bytesOf c) (by simp[DataW.weights,ht])
      exact this
     have hle:len*P.bytesOf c≤reachBytes:=by
      have:len*P.bytesOf c≤(elems.length+rest.length)*P.bytesOf c:=Nat.mul_le_mul_right _ (by rw[k1];simp)
      omega
     -- every element reads
     have each:∀i,i<len→∃x,ok x ((elems.map fun z=>sz z.1).getD i 0)∧∃cs',w.cells? 0 (ad.add (i*P.cellsOf c)) (P.cellsOf c)=some cs'∧z28 (old w) w (e x) cs':=by
      intro i hi
      have hli:i<elems.length:=by rw[k1];simpa using hi
      have hget:=k2 i i elems[i] (p7 hi) (p3 hli)
      cases hcs:w.cells? 0 (ad.add (i*P.cellsOf c)) (P.cellsOf c) with
      |none=>rw[hcs] at hget;cases hget
      |some cs'=>
       rw[hcs] at hget
       simp only[Option.bind_some] at hget
       obtain⟨x,hx1,hx2⟩:=h.reads (d:=elems[i].1) (ps:=elems[i].2) (by omega) hget (fun m hm=>hw m (by
        simp only[DataW.weights,ht,List.mem_cons,List.mem_append]
        exact .inr (.inl (Xy (List.mem_map_of_mem (List.getElem_mem hli)) m hm))))
       refine⟨x,?_,cs',rfl,hx2⟩
       rw[p6,p5,p3 hli];exact hx1
     obtain⟨l,hl1,hl2⟩:=Kd (fun i x=>ok x ((elems.map fun z=>sz z.1).getD i 0)∧∃cs',w.cells? 0 (ad.add (i*P.cellsOf c)) (P.cellsOf c)=some cs'∧z28 (old w) w (e x) cs') len each
     subst hl1
     have hel':elems.length=l.length:=by simpa using k1
     refine⟨l,⟨by omega,hle,elems.map fun z=>sz z.1,by simp[hel'],fun i x k hx hk=>?_,?_⟩,Q1 ?_ rfl⟩
     ·have:=(hl2 i x hx).1
      rwa [p6,hk] at this
     ·rw[←zxb]
      simp only[sz]
      omega
     ·by_cases h0:l=[]
      ·subst h0
       exact .islEmpty _ _ _ _ (fun h=>by cases h)
      ·have hpos:0<l.length:=List.length_pos_iff.2 h0
       -- the block
       obtain⟨_,cs0,hcs0,hcell0⟩:=hl2 0 l[0] (p3 hpos)
       obtain⟨hn0,hg0⟩:=cells?_get hcs0
       have hc0:=hg0 0 cs0[0] (p3 (by omega))
       have hsp:=World.cell?_spot hc0
       obtain⟨b,o,sp⟩:=ad
       have hsp:sp=none:=by simpa[Addr.add] using hsp
       subst hsp
       have hb:b<w.heap.size:=by
        have:=World.block_lt_of_cell? _ _ hc0
        rwa [w5,w5] at this
       let vf:Nat→Nat→Value:=fun i j=>((w.cells? 0 ((⟨b,o,none⟩:Addr).add (i*P.cellsOf c)) (P.cellsOf c)).getD []).getD j default
       have key:∀i r j x,(l.map e)[i]?=some r→r[j]?=some x→w.cell? ⟨b,o+i*P.cellsOf c+j,none⟩=some (vf i j)∧jf (vf i j)=true∧RepI (old w) w x (vf i j):=by
        intro i r j x hr hx
        rw[p5] at hr
        cases hli:l[i]? with
        |none=>rw[hli] at hr;cases hr
        |some y=>
         rw[hli] at hr
         simp only[p8,p0] at hr
         subst hr
         obtain⟨_,cs',hcs',hl3,hl4,hl5⟩:=hl2 i y hli
         obtain⟨hn,hg⟩:=cells?_get hcs'
         have hj:j<cs'.length:=by
          rw[hl3]
          rcases Nat.lt_or_ge j (e y).length with h|h
          ·exact h
          ·rw[List.getElem?_eq_none h] at hx;cases hx
         have hv:vf i j=cs'[j]:=by simp only[vf,hcs',Option.getD_some,p6,p3 hj]
         have:=hg j cs'[j] (p3 hj)
         rw[w5,w5] at this
         rw[hv]
         exact⟨this,hl4 _ (List.getElem_mem hj),hl5 j x _ hx (p3 hj)⟩
       have:=RepI.isl (I:=old w) (w:=w) (P.cellsOf c) (l.map e) false b o cap vf (fun i r j x h1 h2=>⟨_,(key i r j x h1 h2).1⟩) (by simpa using hlc) (fun h=>by cases h)
        (fun i r hr=>by
         rw[p5] at hr
         cases hli:l[i]? with
         |none=>rw[hli] at hr;cases hr
         |some y=>rw[hli] at hr;simp at hr;rw[←hr];exact h.size y)
        (fun i r j x h1 h2=>(key i r j x h1 h2).1) (fun i r j x h1 h2=>(key i r j x h1 h2).2.1) (fun i r j x h1 h2=>(key i r j x h1 h2).2.2)
       simpa using this
  ·simp[ht] at hd
structure RG(P:Program)(F:Nat)(fs:List Field)(off tot:Nat)(α:Type)(e:α→List AVal)(ok:α→Nat→Prop):Prop where
 size:∀x,(e x).length=tot
 reads:∀ {H:Type} {enc:TypeId×Value→H} {w:World} {fuel:Nat} {cs:List Value} {xs:List (DataW H×List MemPlace)},fuel≤F→fs.mapM (fun f=>p9 enc P w 0 (fun _=>true) true fuel f.type ((cs.drop f.offset).take (P.cellsOf f.type)))=some xs →
  (∀n∈DataW.weightsEach P (fs.map (·.type)) (xs.map (·.1)),n≤reachBytes)→∃x,ok x (szL (xs.map (·.1)))∧z28 (old w) w (e x) ((cs.drop off).take tot)
theorem RG.nil{F:Nat}(off:Nat):RG P F [] off 0 Unit (fun _=>[]) (fun _ _=>True):=
 ⟨fun _=>rfl,fun _ _ _=>⟨(),trivial,by simp[z28]⟩⟩
theorem RG.cons{F:Nat}{f:Field}{fs:List Field}{off tot m:Nat}{α γ:Type}{e:α→List AVal}{ok:α→Nat→Prop}{e':γ→List AVal}{ok':γ→Nat→Prop}(ho:f.offset=off)(hm:P.cellsOf f.type=m)(h:RB P F f.type α e ok)(h':RG P F fs (off+m) tot γ e' ok') :
 RG P F (f::fs) off (m+tot) (α×γ) (fun x=>e x.1++e' x.2) (fun x k=>∃k1 k2,ok x.1 k1∧ok' x.2 k2∧k1+k2≤k):=by
 refine⟨fun x=>by rw[List.length_append,h.size,h'.size,hm],fun {H enc w fuel cs xs} hF hd hw=>?_⟩
 rw[List.mapM_cons] at hd
 cases h1:p9 enc P w 0 (fun _=>true) true fuel f.type ((cs.drop f.offset).take (P.cellsOf f.type)) with
 |none=>rw[h1] at hd;cases hd
 |some y=>
  rw[h1] at hd
  cases h2:fs.mapM (fun f=>p9 enc P w 0 (fun _=>true) true fuel f.type ((cs.drop f.offset).take (P.cellsOf f.type))) with
  |none=>rw[h2] at hd;cases hd
  |some ys=>
   rw[h2] at hd
   simp at hd
   subst hd
   simp only[List.map_cons,DataW.weightsEach,List.mem_append] at hw
   obtain⟨x,hx1,hx2,hx3,hx4⟩:=h.reads (d:=y.1) (ps:=y.2) hF h1 (fun n hn=>hw n (.inl hn))
   obtain⟨z,hz1,hz2,hz3,hz4⟩:=h'.reads hF h2 (fun n hn=>hw n (.inr hn))
   refine⟨(x,z),⟨_,_,hx1,hz1,by simp only[List.map_cons,szL];exact Nat.le_refl _⟩,?_⟩
   subst ho
   have e1:(cs.drop f.offset).take (m+tot)=(cs.drop f.offset).take m++(cs.drop (f.offset+m)).take tot:=by
    rw[List.take_add,List.drop_drop]
   rw[e1]
   rw[hm] at hx2 hx3 hx4
   refine⟨by simp only[List.length_append,hx2,hz2],fun v hv=>?_,fun i a v ha hv=>?_⟩
   ·rcases List.mem_append.1 hv with h|h
    ·exact hx3 v h
    ·exact hz3 v h
   ·rw[List.getElem?_append] at ha hv
    rw[hx2] at hv
    split at ha
    ·rename_i hlt
     rw[if_pos hlt] at hv
     exact hx4 i a v ha hv
    ·rename_i hlt
     rw[if_neg hlt] at hv
     exact hz4 _ a v ha hv
theorem RB.struct{F:Nat}{t:TypeId}{fs:Array Field}{α:Type}{e:α→List AVal}{ok:α→Nat→Prop}(ht:P.underlying t=some (.struct fs))(h:RG P F fs.toList 0 (P.cellsOf t) α e ok):RB P (F+1) t α e (fun x k=>∃k0,ok x k0∧k0+1≤k):=by
 refine⟨h.size,fun {H enc w fuel cs d ps} hF hd hw=>?_⟩
 cases fuel with
 |zero=>cases hd
 |succ fuel=>
  unfold p9 at hd
  have hd:(if cs.length=P.cellsOf t then(fs.toList.mapM fun f=>p9 enc P w 0 (fun _=>true) true fuel f.type ((cs.drop f.offset).take (P.cellsOf f.type))).map (fun xs=>(DataW.agg (xs.map (·.1)),xs.flatMap (·.2))) else none)=some (d,ps):=by
   rw[ht] at hd
   rcases cs with _|⟨v,_|⟨v2,r⟩⟩<;>simpa using hd
  split at hd<;>try (cases hd;done)
  rename_i hlen
  simp only[Option.map_eq_some_iff,p2] at hd
  obtain⟨xs,hxs,rfl,_⟩:=hd
  obtain⟨x,hx1,hx2⟩:=h.reads (by omega) hxs (fun n hn=>hw n (by simp only[DataW.weights,ht];exact hn))
  refine⟨x,⟨_,hx1,by simp only[sz];omega⟩,?_⟩
  rw[List.drop_zero,←hlen,List.take_length] at hx2
  exact hx2
theorem RB.structN{F:Nat}{t:TypeId}{fs:Array Field}{m:Nat}{α:Type}{e:α→List AVal}{ok:α→Nat→Prop}(ht:P.underlying t=some (.struct fs))(hm:P.cellsOf t=m)(h:RG P F fs.toList 0 m α e ok):RB P (F+1) t α e (fun x k=>∃k0,ok x k0∧k0+1≤k):=by
 subst hm
 exact RB.struct ht h
theorem z6m{α:Type}{f:α→Nat}:∀ {l:List α} {ks:List Nat},ks.length=l.length→(∀ (i:Nat) (x:α) (m:Nat),l[i]?=some x→ks[i]?=some m→f x≤m)→(l.map f).sum≤ks.sum
 |[],_,_,_=>Nat.zero_le _
 |x::l,[],h,_=>by cases h
 |x::l,k::ks,h,h1=>by
  have h2:=h1 0 x k rfl rfl
  have h3:=z6m (f:=f) (l:=l) (ks:=ks) (by simpa using h) (fun i y m hy hm=>h1 (i+1) y m (by simpa using hy) (by simpa using hm))
  simp only[List.map_cons,List.sum_cons]
  omega
end Go.Fx
namespace Go.Fx
open Go.ChangeShapes Go.WideShapes Go.ChangeAt Go.RowKit
variable {P:Program}
def RVB(P:Program)(t:TypeId)(α:Type)(e:α→AVal)(ok:α→Nat→Prop):Prop:=
 ∀ {H:Type} {enc:TypeId×Value→H} {w:World} {v:Value} {d:DataW H} {ps:List MemPlace} {base:Nat},Value.okWide P w .any base t v→DataW.Trod enc P w 0 (fun _=>true) true t v d ps→(∀n∈d.weights P t,n≤reachBytes)→∃x,ok x (sz d)∧RepI (old w) w (e x) v
theorem RVB.of{t:TypeId}{α:Type}{e:α→AVal}{ok:α→Prop}(h:RV P t α e ok):RVB P t α e (fun x _=>ok x):=fun hv hd hw=>h hv hd hw
theorem RVB.struct{t:TypeId}{fs:Array Field}{α:Type}{e:α→List AVal}{ok:α→Nat→Prop}(ht:P.underlying t=some (.struct fs))(h:∀F,RB P F t α e ok):RVB P t α (fun x=>.agg (e x)) ok:=by
 intro H enc w v d ps base hv hd hw
 obtain⟨cs,rfl,hsz⟩:=okWide_struct ht hv
 obtain⟨fuel,hd⟩:=hd
 obtain⟨x,h1,h2,h3,h4⟩:=(h fuel).reads (Nat.le_refl _) hd hw
 have e1:(Value.agg cs).cells.toList=cs.toList:=rfl
 rw[e1] at h2 h3 h4
 refine⟨x,h1,.agg _ cs (by rw[←Array.length_toList];exact h2) h3 (fun i y u hy hu=>h4 i y u hy (by rw[Array.getElem?_toList];exact hu))⟩
theorem RVB.cell{t:TypeId}{α:Type}{e:α→AVal}{ok:α→Nat→Prop}(hc:∀ {w:World} {v:Value} {base:Nat},Value.okWide P w .any base t v→v.cells=#[v])(h:∀F,RB P F t α (fun x=>[e x]) ok):RVB P t α e ok:=by
 intro H enc w v d ps base hv hd hw
 obtain⟨fuel,hd⟩:=hd
 obtain⟨x,h1,h2,h3,h4⟩:=(h fuel).reads (Nat.le_refl _) hd hw
 rw[hc hv] at h2 h3 h4
 exact⟨x,h1,h4 0 _ v rfl rfl⟩
theorem RVB.string{t:TypeId}(ht:P.underlying t=some .string)(hs:P.cellsOf t=1):RVB P t (List UInt8) (fun l=>.str l) (fun l k=>l.length+1≤k):=
 RVB.cell (fun hv=>by obtain⟨s,rfl⟩:=okWide_string ht hv;rfl) fun F=>RB.string ht hs
theorem RVB.slice{t el:TypeId}{α:Type}{e:α→AVal}{ok:α→Nat→Prop}(ht:P.underlying t=some (.slice el))(h:∀F,RB P F t α (fun x=>[e x]) ok):RVB P t α e ok:=
 RVB.cell (fun hv=>by obtain⟨a,l,c,rfl⟩:=okWide_slice ht hv;rfl) h
def RVsB(P:Program)(ts:List TypeId)(α:Type)(e:α→List AVal)(ok:α→Nat→Prop):Prop:=
 ∀ {H:Type} {enc:TypeId×Value→H} {w:World} {vs:List Value} {ds:List (DataW H)} {ps:List MemPlace} {base:Nat},(∀ (j:Nat) t v,ts[j]?=some t→vs[j]?=some v→Value.okWide P w .any base t v) →
  DataW.TrodAll enc P w 0 (fun _=>true) true ts vs ds ps→(∀n∈DataW.weightsEach P ts ds,n≤reachBytes)→∃x,ok x (szL ds)∧vs.length=(e x).length∧∀ (i:Nat) (a:AVal) (v:Value),(e x)[i]?=some a→vs[i]?=some v→RepI (old w) w a v
theorem RVsB.nil:RVsB P [] Unit (fun _=>[]) (fun _ _=>True):=by
 intro H enc w vs ds ps base _ h _
 obtain⟨rfl,rfl,rfl⟩:=trodAll_nil h
 exact⟨(),trivial,rfl,by simp⟩
theorem RVsB.cons{t:TypeId}{ts:List TypeId}{α γ:Type}{e:α→AVal}{e':γ→List AVal}{ok:α→Nat→Prop}{ok':γ→Nat→Prop}(h:RVB P t α e ok)(h':RVsB P ts γ e' ok') :
 RVsB P (t::ts) (α×γ) (fun x=>e x.1::e' x.2) (fun x k=>∃k1 k2,ok x.1 k1∧ok' x.2 k2∧k1+k2≤k):=by
 intro H enc w vs ds ps base hv hd hw
 obtain⟨v,vs',d,ds',p,q,rfl,rfl,rfl,h1,h2⟩:=trodAll_cons hd
 simp only[DataW.weightsEach,List.mem_append] at hw
 obtain⟨x,hx1,hx2⟩:=h (hv 0 t v rfl rfl) h1 (fun n hn=>hw n (.inl hn))
 obtain⟨y,hy1,hy2,hy3⟩:=h' (fun j t' v' ht hv'=>hv (j+1) t' v' (by simpa using ht) (by simpa using hv')) h2 (fun n hn=>hw n (.inr hn))
 refine⟨(x,y),⟨_,_,hx1,hy1,by simp only[szL];exact Nat.le_refl _⟩,by simp[hy2],fun i a u ha hu=>?_⟩
 cases i with
 |zero=>simp at ha hu;subst ha;subst hu;exact hx2
 |succ i=>exact hy3 i a u (by simpa using ha) (by simpa using hu)
end Go.Fx
