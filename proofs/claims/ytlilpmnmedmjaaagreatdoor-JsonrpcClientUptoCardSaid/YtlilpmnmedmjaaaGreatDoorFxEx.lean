/-
  Own framework.
-/
import Derived.Test.YtlilpmnmedmjaaaGreatDoorFxBk
import Derived.Test.YtlilpmnmedmjaaaGreatDoorFxEw
import Derived.Test.YtlilpmnmedmjaaaGreatDoorFxN
namespace Go.Fx
set_option linter.unusedVariables false
variable {D:Id→Option ABlock} {P:Program} {H:AHeap} {n:Nat} {S S':Sh} {e:Env}
abbrev KS(D:Id→Option ABlock)(v:AVal)(S':Sh):AVal→AHeap→Nat→Prop:=fun r H' n'=>r=v∧StR D H' n' S'
def z1j(P:Program)(C:Nat→List AVal→Sh→Rs):Prop:=
 ∀ (f:Nat) as S r S',C f as S=some (r,S')→∀ {D:Id→Option ABlock} H n,StR D H n S→ACalls P (.func f) as H n (KS D r S')
theorem vo{v r:AVal}{o:Option Sh}(h:Qv v o=some (r,S')):r=v∧o=some S':=by
 cases o with
 |none=>cases h
 |some S0=>
  simp only[Qv,Option.some.injEq,Prod.mk.injEq] at h
  exact⟨h.1.symm,by rw[h.2]⟩
theorem StR.le(hs:StR D H n S):HLe S.t.at H.get:=hs.h
theorem U9{s:Nat}{x:AVal}{rows:List (List AVal)}(h:Ji H.get s x=some rows):∃p,Y2 H s x=some (p,rows)∧p:=by
 unfold Ji at h
 split at h
 ·split at h<;>simp only[Option.some.injEq,reduceCtorEq] at h
  rename_i hb
  subst h
  exact⟨_,rfl,qr.1 hb⟩
 ·split at h<;>simp only[Option.some.injEq,reduceCtorEq] at h
  rename_i hb
  subst h
  exact⟨_,rfl,qr.1 hb⟩
 ·split at h<;>try (cases h;done)
  rename_i hg
  split at h<;>simp only[Option.some.injEq,reduceCtorEq] at h
  rename_i hb
  subst h
  simp only[Bool.and_eq_true,qr,jz,and_assoc] at hb
  simp only[Y2,hg]
  exact⟨_,rfl,hb⟩
 ·simp only[Option.some.injEq] at h
  subst h
  exact⟨_,rfl,trivial⟩
 ·split at h<;>simp only[Option.some.injEq,reduceCtorEq] at h
  rename_i hb
  subst h
  exact⟨_,rfl,qr.1 hb⟩
 ·cases h
theorem U5:∀ {ps:List (Nat×AVal)} {rows rs:List (List AVal)},U2 rows ps=some rs→∃p,Je rows ps=some (p,rs)∧p
 |[],rows,rs,h=>by simp only[U2,Option.some.injEq] at h;subst h;exact⟨_,rfl,trivial⟩
 |(i,x)::r,rows,rs,h=>by
  unfold U2 at h
  split at h<;>try (cases h;done)
  rename_i cs hc
  split at h<;>try (cases h;done)
  rename_i hb
  simp only[Bool.and_eq_true,qr,jz] at hb
  obtain⟨p,h1,h2⟩:=U5 h
  simp only[Je,hc,h1]
  exact⟨_,rfl,hb.1,hb.2,h2⟩
theorem zbr:∀ {ps:List (Nat×LOpd)} {l:List (Nat×AVal)},zxw e.get ps=some l→evI e ps=l∧U1 e ps
 |[],l,h=>by simp only[zxw,Option.some.injEq] at h;exact⟨h,trivial⟩
 |(i,x)::r,l,h=>by
  unfold zxw at h
  split at h<;>try (cases h;done)
  rename_i a ha
  split at h<;>simp only[Option.some.injEq,reduceCtorEq] at h
  rename_i l' hl
  obtain⟨h1,h2⟩:=y5 ha
  obtain⟨h3,h4⟩:=zbr hl
  exact⟨by unfold evI;rw[h1,h3];exact h,h2,h4⟩
theorem z3y:∀ {rows:List (List AVal)},z6h rows=true→∀r∈rows,∃m,r=[.int .u8 m]
 |[],_,r,hr=>by cases hr
 |x::rows,h,r,hr=>by
  unfold z6h at h
  split at h
  ·cases ‹_::_=[]›
  ·rename_i k m r' heq
   simp only[List.cons.injEq] at heq
   obtain⟨rfl,rfl⟩:=heq
   simp only[Bool.and_eq_true,Vn] at h
   obtain⟨rfl,h2⟩:=h
   cases hr with
   |head=>exact⟨m,rfl⟩
   |tail _ hr=>exact z3y h2 r hr
  ·cases h
theorem zwa{s bytes:Nat}{x v:AVal}{rows2:List (List AVal)}(hs:StR D H n S)(h:y1w s bytes S x rows2=some (v,S')):zpf s bytes H n (KS D v S') x rows2:=by
 unfold y1w at h
 unfold zpf
 split at h
 ·simp only
  split at h
  ·simp only[Option.some.injEq,Prod.mk.injEq] at h
   obtain⟨rfl,rfl⟩:=h
   exact⟨fun _=>⟨rfl,hs⟩,fun hne=>absurd rfl hne⟩
  ·rename_i hne
   split at h<;>try (cases h;done)
   rename_i hb
   obtain⟨rfl,hw⟩:=vo h
   refine⟨fun he=>absurd he hne,fun _=>⟨jz.1 hb,by rw[hs.n],hs.new hw⟩⟩
 ·simp only
  split at h<;>try (cases h;done)
  rename_i he
  refine⟨qr.1 he,?_⟩
  split at h
  ·simp only[Option.some.injEq,Prod.mk.injEq] at h
   obtain⟨rfl,rfl⟩:=h
   exact⟨fun _=>⟨rfl,hs⟩,fun hne=>absurd rfl hne⟩
  ·rename_i hne
   split at h<;>try (cases h;done)
   rename_i hb
   simp only[Bool.and_eq_true,jz] at hb
   obtain⟨rfl,hw⟩:=vo h
   exact⟨fun he=>absurd he hne,fun _=>⟨hb.1,hb.2,by rw[hs.n],hs.new hw⟩⟩
 ·simp only
  split at h<;>try (cases h;done)
  rename_i hg
  rw[hs.h _ _ hg]
  simp only
  split at h<;>try (cases h;done)
  rename_i hb
  simp only[Bool.and_eq_true,qr,jz,and_assoc] at hb
  obtain⟨b1,b2,b3,b4⟩:=hb
  refine⟨b1,b2,b3,?_⟩
  split at h
  ·simp only[Option.some.injEq,Prod.mk.injEq] at h
   obtain⟨rfl,rfl⟩:=h
   exact⟨fun _ _=>⟨rfl,hs⟩,fun hne=>absurd rfl (hne rfl)⟩
  ·rename_i hne
   obtain⟨rfl,hw⟩:=vo h
   refine⟨fun _ he=>absurd he hne,fun _=>⟨b4,by rw[hs.n],?_⟩⟩
   rw[if_pos rfl]
   exact hs.new hw
  ·split at h<;>try (cases h;done)
   rename_i S1 hc
   obtain⟨rfl,hw⟩:=vo h
   have h1:=hs.cut hg hc
   refine⟨fun he=>(by cases he),fun _=>⟨b4,by rw[h1.n],?_⟩⟩
   rw[if_neg (by simp)]
   exact h1.new hw
 ·cases h
theorem zoh{C:Nat→List AVal→Sh→Rs}(hC:z1j P C){op:LOp}{v:AVal}(hs:StR D H n S)(h:y1q C e.get S op=some (v,S')):ky P e H n (KS D v S') op:=by
 have hn:=hs.n
 unfold y1q at h
 split at h
 ·obtain⟨rfl,hw⟩:=vo h;exact⟨by rw[hn],hs.new hw⟩
 ·obtain⟨rfl,hw⟩:=vo h;exact⟨by rw[hn],hs.new hw⟩
 ·obtain⟨rfl,hw⟩:=vo h;rw[←hn] at hw;exact⟨by rw[hn],hs.new2 hw⟩
 ·split at h<;>try (cases h;done)
  rename_i a ha
  split at h<;>try (cases h;done)
  rename_i cs hc
  obtain⟨h1,h2⟩:=y5 ha
  obtain⟨rfl,hw⟩:=vo h
  simp only[ky,h1,hc]
  exact⟨h2,by rw[hn],hs.new hw⟩
 ·split at h<;>try (cases h;done)
  rename_i ps hps
  split at h<;>try (cases h;done)
  rename_i rows hr
  split at h<;>try (cases h;done)
  rename_i hz
  obtain⟨rfl,hw⟩:=vo h
  obtain⟨h1,h2⟩:=zbr hps
  obtain⟨p,h3,h4⟩:=U5 hr
  simp only[ky,h1,h3]
  exact⟨qr.1 hz,h2,h4,_,.inr rfl,by rw[hn],hs.new hw⟩
 ·split at h<;>try (cases h;done)
  rename_i ps hps
  split at h<;>try (cases h;done)
  rename_i rows hr
  split at h<;>try (cases h;done)
  rename_i rows' him
  split at h<;>try (cases h;done)
  rename_i hz
  simp only[Option.some.injEq,Prod.mk.injEq] at h
  obtain⟨rfl,rfl⟩:=h
  obtain⟨h1,h2⟩:=zbr hps
  obtain⟨p,h3,h4⟩:=U5 hr
  simp only[ky,h1,h3,him]
  exact⟨qr.1 hz,h2,h4,rfl,hs⟩
 ·split at h<;>try (cases h;done)
  rename_i b i off ha
  split at h<;>try (cases h;done)
  rename_i y hy
  split at h<;>try (cases h;done)
  rename_i cs hc
  obtain⟨h1,h2⟩:=y5 ha
  obtain⟨h3,h4⟩:=y5 hy
  simp only[ky,h1,h3,hc]
  split at h<;>try (cases h;done)
  ·rename_i hg
   split at h<;>try (cases h;done)
   rename_i hb
   simp only[Bool.and_eq_true,qr,jz,and_assoc] at hb
   obtain⟨rfl,hw⟩:=vo h
   have hg':=hs.h _ _ hg
   simp only[hg']
   exact⟨h2,h4,hb.1,hb.2.1,hb.2.2,rfl,hs.upd hg hw⟩
  ·rename_i hg
   split at h<;>try (cases h;done)
   rename_i hb
   simp only[Bool.and_eq_true,qr,jz,and_assoc] at hb
   obtain⟨rfl,hw⟩:=vo h
   have hg':=hs.h _ _ hg
   simp only[hg']
   exact⟨h2,h4,hb.1,hb.2.1,hb.2.2,rfl,hs.upd hg hw⟩
 ·split at h<;>try (cases h;done)
  rename_i l ha
  obtain⟨h1,h2⟩:=y5 ha
  obtain⟨rfl,hw⟩:=vo h
  simp only[ky,h1]
  exact⟨h2,by rw[hn],hs.new hw⟩
 ·split at h<;>try (cases h;done)
  rename_i a ha hne
  split at h<;>try (cases h;done)
  rename_i rows hr
  replace hr:=Jk hs.le hr
  split at h<;>simp only[Option.some.injEq,Prod.mk.injEq,reduceCtorEq] at h
  rename_i hb
  obtain⟨rfl,rfl⟩:=h
  obtain⟨h1,h2⟩:=y5 hne
  obtain⟨p,h3,h4⟩:=U9 hr
  simp only[ky,h1,h3]
  refine⟨h2,fun l hl=>?_,h4,z3y hb,rfl,hs⟩
  subst hl
  exact ha l rfl
 ·split at h<;>try (cases h;done)
  rename_i l' c' hl hc
  split at h<;>try (cases h;done)
  rename_i hb
  simp only[Bool.and_eq_true,Z8,and_assoc] at hb
  obtain⟨h1,h2⟩:=y5 hl
  obtain⟨h3,h4⟩:=y5 hc
  obtain⟨rfl,hw⟩:=vo h
  simp only[ky,h1,h3]
  exact⟨h2,h4,hb.1,hb.2.1,hb.2.2,_,.inl rfl,by rw[hn],hs.new hw⟩
 ·split at h<;>try (cases h;done)
  rename_i as ha
  obtain⟨h1,h2⟩:=W1 ha
  simp only[ky,h1]
  exact⟨h2,hC _ _ _ _ _ h H n hs⟩
 ·split at h<;>try (cases h;done)
  rename_i f first caps hx
  split at h<;>try (cases h;done)
  rename_i as ha
  obtain⟨h1,h2⟩:=y5 hx
  obtain⟨h3,h4⟩:=W1 ha
  simp only[ky,h1,h3]
  exact⟨h2,h4,hC _ _ _ _ _ h H n hs⟩
 ·split at h<;>try (cases h;done)
  rename_i b hb
  split at h<;>try (cases h;done)
  rename_i rows2 hr
  replace hr:=Jk hs.le hr
  split at h<;>try (cases h;done)
  rename_i a ha
  obtain⟨h1,h2⟩:=y5 hb
  obtain⟨h3,h4⟩:=y5 ha
  obtain⟨p,h5,h6⟩:=U9 hr
  simp only[ky,h1,h3,h5]
  exact⟨h4,h2,h6,zwa hs h⟩
 ·split at h<;>try (cases h;done)
  rename_i b s' off len f hx
  split at h<;>try (cases h;done)
  rename_i y hy
  split at h<;>try (cases h;done)
  rename_i rows2 hr
  split at h<;>try (cases h;done)
  rename_i s'' es hg
  split at h<;>try (cases h;done)
  rename_i hb
  replace hr:=Jk hs.le hr
  simp only[Bool.and_eq_true,qr,jz,and_assoc] at hb
  obtain⟨h1,h2⟩:=y5 hx
  obtain⟨h3,h4⟩:=y5 hy
  obtain⟨p,h5,h6⟩:=U9 hr
  obtain⟨rfl,hw⟩:=vo h
  have hg':=hs.h _ _ hg
  simp only[ky,h1,h3,h5,hg']
  exact⟨h2,h4,h6,hb.1,hb.2.1,hb.2.2,rfl,hs.upd hg hw⟩
 ·obtain⟨rfl,hw⟩:=vo h;exact⟨by rw[hn],hs.new hw⟩
 ·split at h<;>try (cases h;done)
  rename_i b hm
  split at h<;>try (cases h;done)
  rename_i x hx
  split at h<;>try (cases h;done)
  rename_i y hy
  split at h<;>try (cases h;done)
  rename_i es hg
  split at h<;>try (cases h;done)
  rename_i k hk
  split at h<;>try (cases h;done)
  rename_i es' he
  split at h<;>try (cases h;done)
  rename_i ho
  obtain⟨h1,h2⟩:=y5 hm
  obtain⟨h3,h4⟩:=y5 hx
  obtain⟨h5,h6⟩:=y5 hk
  obtain⟨rfl,hw⟩:=vo h
  have hg':=hs.h _ _ hg
  simp only[ky,h1,h3,hy,h5,hg',zex he]
  exact⟨h2,h6,h4,K9 ho,rfl,hs.upd hg hw⟩
 ·split at h<;>try (cases h;done)
  rename_i b hm
  split at h<;>try (cases h;done)
  rename_i es hg
  split at h<;>try (cases h;done)
  rename_i k hk
  split at h<;>try (cases h;done)
  rename_i es' he
  split at h<;>try (cases h;done)
  rename_i ho
  obtain⟨h1,h2⟩:=y5 hm
  obtain⟨h5,h6⟩:=y5 hk
  obtain⟨rfl,hw⟩:=vo h
  have hg':=hs.h _ _ hg
  simp only[ky,h1,h5,hg',z8t he]
  exact⟨h2,h6,K9 ho,rfl,hs.upd hg hw⟩
 ·cases h
theorem z8i{lo:LOper}{v:AVal}(h:Wk e.get H.get lo=some v):(Xp e H lo).gives v:=by
 unfold Wk at h
 unfold Xp
 cases hg:lo.guard with
 |none=>
  rw[hg] at h
  obtain⟨s,h1,h2⟩:=z0p h
  simp only[h1]
  exact⟨h2,.inl rfl⟩
 |some g=>
  obtain⟨q,want⟩:=g
  rw[hg] at h
  simp only[z8y] at h ⊢
  split at h
  ·rename_i hp
   simp only[hp]
   split at h<;>simp only[Option.some.injEq,reduceCtorEq] at h
   rename_i u hu
   subst h
   obtain⟨s,h1,h2⟩:=z0p hu
   rw[h1]
   exact⟨fun _=>h2,.inl rfl⟩
  ·rename_i hp
   simp only[hp]
   simp only[Option.some.injEq] at h
   subst h
   cases w5 e H lo.op with
   |ok s u=>exact⟨fun h=>(by cases h),.inr (.inl ⟨.inr ⟨_,rfl⟩,.inl rfl⟩)⟩
   |bad=>exact⟨trivial,.inl rfl⟩
  ·cases h
theorem zdr{C:Nat→List AVal→Sh→Rs}(hC:z1j P C){lo:LOper}{v:AVal}(hs:StR D H n S)(h:zpr C e.get S lo=some (v,S')):z07 P e H n (KS D v S') lo:=by
 unfold zpr at h
 unfold z07
 cases hg:lo.guard with
 |none=>
  rw[hg] at h
  exact zoh hC hs h
 |some g=>
  obtain⟨q,want⟩:=g
  rw[hg] at h
  simp only[z8y] at h ⊢
  split at h
  ·rename_i hp
   simp only[hp]
   exact .inr ⟨fun _=>zoh hC hs h,fun h=>by cases h⟩
  ·rename_i hp
   simp only[hp]
   simp only[Option.some.injEq,Prod.mk.injEq] at h
   obtain⟨rfl,rfl⟩:=h
   exact .inr ⟨fun h=>(by cases h),fun _=>⟨_,.inl rfl,rfl,hs⟩⟩
  ·cases h
def EnR(e:Env)(E:Ev):Prop:=∀t,e.get t=E.g t
theorem EnR.get{E:Ev}(h:EnR e E):E.g=e.get:=funext fun t=>(h t).symm
theorem EnR.put{E E':Ev}{d:Option Nat}{v:AVal}(h:EnR e E)(hp:E.p d v=some E'):EnR (e.put d v) E':=by
 cases d with
 |none=>simp only[Ev.p,Option.some.injEq] at hp;subst hp;exact h
 |some d=>
  simp only[Ev.p] at hp
  have hg:=Tr.put_get _ _ _ _ _ hp
  intro t
  unfold Ev.g
  rw[hg]
  by_cases hd:t=d
  ·subst hd;rw[if_pos rfl,Env.get_put_same]
  ·rw[if_neg hd,Env.get_put_other _ _ (fun he=>hd he.symm)];exact h t
theorem zay{lo:LOper}{v:AVal}(h:Wk e.get H.get lo=some v):∀ {K:Env→Prop},K (e.put lo.dst v) →
 match lo.guard with
 |none=>(match w5 e H lo.op with|.ok side u=>side∧K (e.put lo.dst u)|.bad=>False)
 |some (g,want)=>match Z4 (e.get g) want with
  |some p=>(match w5 e H lo.op with
   |.ok side v=>(∃u,(p=true→side∧v=u)∧K (e.put lo.dst (.cnd p u)))∨(p=false∧K (e.put lo.dst (.tup [])))
   |.bad=>p=false∧K (e.put lo.dst (.tup [])))
  |none=>False:=by
 intro K hK
 unfold Wk at h
 cases hg:lo.guard with
 |none=>
  rw[hg] at h
  obtain⟨s,h1,h2⟩:=z0p h
  simp only[h1]
  exact⟨h2,hK⟩
 |some g=>
  obtain⟨q,want⟩:=g
  rw[hg] at h
  simp only[z8y] at h ⊢
  split at h
  ·rename_i hp
   simp only[hp]
   split at h<;>simp only[Option.some.injEq,reduceCtorEq] at h
   rename_i u hu
   subst h
   obtain⟨s,h1,h2⟩:=z0p hu
   simp only[h1]
   exact .inl ⟨_,fun _=>⟨h2,rfl⟩,hK⟩
  ·rename_i hp
   simp only[hp]
   simp only[Option.some.injEq] at h
   subst h
   cases w5 e H lo.op with
   |ok s u=>exact .inr ⟨trivial,hK⟩
   |bad=>exact⟨trivial,hK⟩
  ·cases h
theorem Us{p:Bool}{H:AHeap}{n:Nat}{E:(AVal→AHeap→Nat→Prop)→Prop}{K K':AVal→AHeap→Nat→Prop}(hE:∀ {K K'},E K→(∀r H n,K r H n→K' r H n)→E K')(h:Uo p H n E K)(hk:∀r H n,K r H n→K' r H n):Uo p H n E K':=by
 rcases h with⟨R,h1,h2⟩|⟨h1,h2⟩
 ·exact .inl ⟨R,h1,hk _ _ _ h2⟩
 ·exact .inr ⟨fun h=>hE (h1 h) hk,fun h=>by obtain⟨u,a,b⟩:=h2 h;exact⟨u,a,hk _ _ _ b⟩⟩
theorem z5h{C:Nat→List AVal→Sh→Rs}(hC:z1j P C){Q:Env→AHeap→Nat→Prop}{E':Ev}{S':Sh}(hQ:∀e H n,EnR e E'→StR D H n S'→Q e H n):∀ {os:List LOper} {E:Ev} {S:Sh} {e:Env} {H:AHeap} {n:Nat},zv3 C os E S=some (E',S')→EnR e E→StR D H n S→Ju P os Q e H n
 |[],E,S,e,H,n,h,hE,hs=>by
  simp only[zv3,Option.some.injEq,Prod.mk.injEq] at h
  obtain⟨rfl,rfl⟩:=h
  exact hQ _ _ _ hE hs
 |lo::os,E,S,e,H,n,h,hE,hs=>by
  unfold zv3 at h
  split at h
  ·rename_i hp
   split at h<;>try (cases h;done)
   rename_i v hv
   split at h<;>try (cases h;done)
   rename_i E1 hE1
   rw[hE.get] at hv
   replace hv:=V5 hs.le hv
   have ih:=z5h hC hQ h (hE.put hE1) hs
   have:=zay (K:=fun e=>Ju P os Q e H n) hv ih
   obtain⟨d,op,g⟩:=lo
   cases g with
   |none=>simp only[Ju,hp];exact this
   |some g=>
    obtain⟨g,want⟩:=g
    simp only[Ju]
    simp only at this
    cases hgp:Z4 (e.get g) want with
    |none=>rw[hgp] at this;exact this
    |some p=>
     rw[hgp] at this
     simp only[hp]
     exact this
  ·rename_i hp
   split at h<;>try (cases h;done)
   rename_i v S1 hv
   split at h<;>try (cases h;done)
   rename_i E1 hE1
   rw[hE.get] at hv
   have heff:=zdr hC hs hv
   have key:∀r H' n',KS D v S1 r H' n'→Ju P os Q (e.put lo.dst r) H' n':=by
    rintro r H' n' ⟨rfl,hs'⟩
    exact z5h hC hQ h (hE.put hE1) hs'
   obtain⟨d,op,g⟩:=lo
   cases g with
   |none=>simp only[Ju,hp];exact Xa key heff
   |some g=>
    obtain⟨g,want⟩:=g
    simp only[Ju]
    unfold z07 at heff
    simp only at heff
    cases hgp:Z4 (e.get g) want with
    |none=>rw[hgp] at heff;exact heff
    |some p=>
     rw[hgp] at heff
     simp only[hp]
     exact Us (fun h hk=>Xa hk h) heff key
mutual
theorem zc5(x y:AVal)(h:y05 x y=true):x=y:=by
 unfold y05 at h
 split at h
 ·simp only[beq_iff_eq] at h;rw[h]
 ·simp only[Bool.and_eq_true,Vn,decide_eq_true_eq] at h;rw[h.1,h.2]
 ·simp only[beq_iff_eq] at h;rw[h]
 ·simp only[Bool.and_eq_true,qr] at h
  obtain⟨⟨⟨h1,h2⟩,rfl⟩,rfl⟩:=h
  congr 1
  exact Prod.ext h1 h2
 ·simp only[Bool.and_eq_true,qr,beq_iff_eq] at h
  obtain⟨⟨⟨⟨⟨h1,h2⟩,rfl⟩,rfl⟩,rfl⟩,rfl⟩:=h
  congr 1
  exact Prod.ext h1 h2
 ·simp only[Bool.and_eq_true,qr] at h
  congr 1
  exact Prod.ext h.1 h.2
 ·rw[z5j _ _ h]
 ·rw[z5j _ _ h]
 ·rfl
 ·rfl
 ·rfl
 ·rfl
 ·simp only[Bool.and_eq_true,beq_iff_eq] at h
  rw[h.1,zc5 _ _ h.2]
 ·simp only[Bool.and_eq_true,qr,beq_iff_eq] at h
  rw[h.1,h.2]
 ·cases h
termination_by SizeOf.sizeOf x
theorem z5j(xs ys:List AVal)(h:zhp xs ys=true):xs=ys:=by
 unfold zhp at h
 split at h
 ·rfl
 ·simp only[Bool.and_eq_true] at h
  rw[zc5 _ _ h.1,z5j _ _ h.2]
 ·cases h
termination_by SizeOf.sizeOf xs
end
theorem zrz{lo:LOper}{E:Ev}(h:EnR e E):lo.bsees E=lo.sees e:=by
 unfold LOper.bsees LOper.sees
 apply List.map_congr_left
 intro t _
 rw[h t]
theorem z8w{loose:List Nat}:∀ {done:List (Nat×LOper×Env×AVal)},z2p H.get loose done=true→∀x∈done,x.1∈loose→(Xp x.2.2.1 H x.2.1).gives x.2.2.2
 |[],_,x,hx,_=>by cases hx
 |(p,lo,e,v)::r,h,x,hx,hl=>by
  unfold z2p at h
  simp only[Bool.and_eq_true] at h
  cases hx with
  |tail _ hx=>exact z8w h.2 x hx hl
  |head=>
   have h1:=h.1
   rw[List.contains_iff_mem.2 hl] at h1
   simp only at h1
   split at h1<;>try (cases h1;done)
   rename_i u hu
   have:=z8i hu
   rw[zc5 _ _ h1] at this
   exact this
theorem znm{lo:LOper}{K K':AVal→AHeap→Nat→Prop}(h:z07 P e H n K lo)(hk:∀r H n,K r H n→K' r H n):z07 P e H n K' lo:=by
 unfold z07 at h ⊢
 cases hg:lo.guard with
 |none=>rw[hg] at h;exact Xa hk h
 |some g=>
  obtain⟨q,want⟩:=g
  rw[hg] at h
  simp only at h ⊢
  cases hp:Z4 (e.get q) want with
  |none=>rw[hp] at h;exact h.elim
  |some p=>
   rw[hp] at h
   exact Us (fun h hk=>Xa hk h) h hk
theorem z0c{C:Nat→List AVal→Sh→Rs}(hC:z1j P C){Q:Env→AHeap→Nat→Prop}{E':Ev}{S':Sh}(hQ:∀e H n,EnR e E'→StR D H n S'→Q e H n):∀ {items:List DItem} {p:Nat} {done:List (Nat×LOper×Env×AVal)} {E:Ev} {S:Sh} {e:Env} {H:AHeap} {n:Nat},zb4 C items p done E S=some (E',S')→EnR e E→StR D H n S→xd P items p done Q e H n
 |[],p,done,E,S,e,H,n,h,hE,hs=>by
  simp only[zb4,Option.some.injEq,Prod.mk.injEq] at h
  obtain⟨rfl,rfl⟩:=h
  exact hQ _ _ _ hE hs
 |it::rest,p,done,E,S,e,H,n,h,hE,hs=>by
  unfold zb4 at h
  unfold xd
  rw[zrz hE] at h
  split at h
  ·rename_i hp
   simp only[hp]
   split at h<;>try (cases h;done)
   rename_i v hv
   split at h<;>try (cases h;done)
   rename_i E1 hE1
   replace hv:=V5 hs.le hv
   exact⟨v,z8i hv,z0c hC hQ h (hE.put hE1) hs⟩
  ·rename_i hp
   simp only[hp]
   split at h<;>try (cases h;done)
   rename_i v S1 hv
   split at h<;>try (cases h;done)
   rename_i hl
   split at h<;>try (cases h;done)
   rename_i E1 hE1
   refine znm (zdr hC hs hv) ?_
   rintro r H' n' ⟨rfl,hs'⟩
   replace hl:=z1u hs'.le hl
   exact⟨z8w hl,z0c hC hQ h (hE.put hE1) hs'⟩
theorem V3{Q:Env→AHeap→Nat→Prop}:∀ {os:List LOper} {e:Env} {H:AHeap} {n:Nat},(∀lo∈os,ws lo.op=true)→Ju P os Q e H n→xqs os Q e H n
 |[],e,H,n,_,h=>h
 |⟨d,op,none⟩::os,e,H,n,hp,h=>by
  have h0:ws op=true:=hp _ (List.mem_cons_self ..)
  simp only[Ju,h0] at h
  simp only[xqs]
  split at h<;>try (exact h.elim)
  exact⟨h.1,V3 (fun lo hl=>hp lo (List.mem_cons_of_mem _ hl)) h.2⟩
 |⟨d,op,some (g,want)⟩::os,e,H,n,hp,h=>by
  have h0:ws op=true:=hp _ (List.mem_cons_self ..)
  simp only[Ju,h0] at h
  simp only[xqs]
  split at h<;>try (exact h.elim)
  have ih:∀ {e},Ju P os Q e H n→xqs os Q e H n:=fun h=>V3 (fun lo hl=>hp lo (List.mem_cons_of_mem _ hl)) h
  split at h
  ·rcases h with⟨u,h1,h2⟩|⟨h1,h2⟩
   ·exact .inl ⟨u,h1,ih h2⟩
   ·exact .inr ⟨h1,ih h2⟩
  ·exact⟨h.1,ih h.2⟩
abbrev KX(D:Id→Option ABlock)(x:Exit×Ev×Sh):Exit→Env→AHeap→Nat→Prop:=fun ex e H n=>ex=x.1∧EnR e x.2.1∧StR D H n x.2.2
def Xh(P:Program)(n:Nat):LCode→Prop
 |.seq a b=>Xh P n a∧Xh P n b
 |.cond _ a b=>Xh P n a∧Xh P n b
 |.block _ c=>Xh P n c
 |.loop c=>Xh P n c
 |.rng _ ps a b=>(ps.all fun p=>Nat.blt p n)=true∧Xh P n a∧Xh P n b
 |.dfr f _=>zgg P f
 |_=>True
def Qj(l:List Nat)(n:Nat):LCode→Bool
 |.seq a b=>Qj l n a&&Qj l n b
 |.cond _ a b=>Qj l n a&&Qj l n b
 |.block _ c=>Qj l n c
 |.loop c=>Qj l n c
 |.rng _ ps a b=>(ps.all fun p=>Nat.blt p n)&&(Qj l n a&&Qj l n b)
 |.dfr f _=>l.any fun i=>Nat.beq i f
 |_=>true
theorem Zj{P:Program}{l:List Nat}{n:Nat}(hl:∀f∈l,zgg P f):∀ {c:LCode},Qj l n c=true→Xh P n c
 |.skip,_|.region _,_|.quiet _,_|.draw _,_|.draw2 _ _ _,_|.exit _,_|.ret,_=>trivial
 |.seq a b,h=>by
  simp only[Qj,Bool.and_eq_true] at h
  exact⟨Zj hl h.1,Zj hl h.2⟩
 |.cond _ a b,h=>by
  simp only[Qj,Bool.and_eq_true] at h
  exact⟨Zj hl h.1,Zj hl h.2⟩
 |.rng _ ps a b,h=>by
  simp only[Qj,Bool.and_eq_true] at h
  exact⟨h.1,Zj hl h.2.1,Zj hl h.2.2⟩
 |.block _ c,h=>Zj (c:=c) hl h
 |.loop c,h=>Zj (c:=c) hl h
 |.dfr f _,h=>by
  simp only[Qj,List.any_eq_true] at h
  obtain⟨i,h1,h2⟩:=h
  exact hl f (Nat.eq_of_beq_eq_true h2▸h1)
def zel(P:Program)(L:LCode→Ev→Sh→Cs):Prop:=
 ∀c E S x,L c E S=some x→∀ {D:Id→Option ABlock} (N:Lay) (n0:Nat) e H n,Xh P N.n c→EnR e E→StR D H n S→LWp P N n0 (.loop c) (KX D x) e H n
def z9e(P:Program)(B:Nat→Option (Bool×Nat)):Prop:=
 ∀f ag s,B f=some (ag,s)→∃bm fn,wb P bm f=some fn∧uk P f∧2≤fn.lay.n∧fn.body=z60 ag s∧fn.res=[]
def We(e:Env):Env:=e.map fun x=>(x.1,e.get x.1)
theorem zgc(e:Env)(t:Nat):(We e).get t=e.get t:=by
 have:∀ (l:Env),Env.get (l.map fun x=>(x.1,e.get x.1)) t=if(∃y∈l,y.1=t) then e.get t else .any:=by
  intro l
  induction l with
  |nil=>simp[Env.get]
  |cons y r ih=>
   simp only[List.map_cons,Env.get]
   by_cases hy:y.1=t
   ·rw[if_pos hy,if_pos ⟨y,List.mem_cons_self ..,hy⟩,hy]
   ·rw[if_neg hy,ih]
    by_cases hr:∃z∈r,z.1=t
    ·obtain⟨z,hz,hzt⟩:=hr
     rw[if_pos ⟨z,hz,hzt⟩,if_pos ⟨z,List.mem_cons_of_mem _ hz,hzt⟩]
    ·rw[if_neg hr,if_neg]
     rintro⟨z,hz,hzt⟩
     rcases List.mem_cons.1 hz with rfl|hz
     ·exact hy hzt
     ·exact hr ⟨z,hz,hzt⟩
 unfold We
 rw[this]
 split
 ·rfl
 ·rename_i hn
  have:∀ (l:Env),(¬∃y∈l,y.1=t)→Env.get l t=.any:=by
   intro l
   induction l with
   |nil=>intro _;rfl
   |cons y r ih=>
    intro h
    simp only[Env.get]
    rw[if_neg (fun hy=>h ⟨y,List.mem_cons_self ..,hy⟩)]
    exact ih fun⟨z,hz,hzt⟩=>h ⟨z,List.mem_cons_of_mem _ hz,hzt⟩
  exact(this e hn).symm
theorem zgy(e:Env):SubE (We e) e:=by
 have:∀ (l:Env),SubE (l.map fun x=>(x.1,e.get x.1)) e:=by
  intro l
  induction l with
  |nil=>trivial
  |cons y r ih=>exact⟨rfl,ih⟩
 exact this e
theorem zkh:∀ {ps:List Nat} {xs:List AVal} {e:Env} {E E':Ev},y11 ps xs E=some E'→EnR e E→EnR (zj5 e ps xs) E'∧xs.length=ps.length
 |[],[],e,E,E',h,hE=>by simp only[y11,Option.some.injEq] at h;subst h;exact⟨hE,rfl⟩
 |[],_::_,e,E,E',h,hE=>by cases h
 |_::_,[],e,E,E',h,hE=>by cases h
 |p::ps,x::xs,e,E,E',h,hE=>by
  unfold y11 at h
  split at h<;>try (cases h;done)
  rename_i E1 h1
  obtain⟨g1,g2⟩:=zkh h (hE.put h1)
  exact⟨g1,by simp[g2]⟩
theorem Kh{x:AVal}(h:z8u x=true):x.plain:=by
 cases x with
 |cnd p y=>cases h
 |_=>exact⟨rfl,trivial⟩
def Vf(D:Id→Option ABlock)(k:Id)(b:ABlock)(id:Id):Option ABlock:=if id=k then some b else D id
theorem StR.hide(h:StR D H n S){b:ABlock}(h0:S.t.at (S.n,0)=none):StR (Vf D (n,0) b) (((n,0),b)::H) (n+1) ⟨S.t,S.n+1⟩:=by
 refine⟨by simp[h.n],fun id c hc=>?_,fun id c hc=>?_⟩
 ·simp only at hc
  have hj:(n,0)≠id:=fun e=>by subst e;rw[h.n,h0] at hc;cases hc
  rw[AHeap.get_cons_other _ _ hj];exact h.h _ _ hc
 ·unfold Vf at hc
  split at hc
  ·rename_i hk;subst hk;cases hc
   exact⟨AHeap.get_cons_same _ _ _,by simp only;rw[h.n];exact h0,Nat.lt_succ_self _⟩
  ·rename_i hk
   obtain⟨g1,g2,g3⟩:=h.d id c hc
   exact⟨by rw[AHeap.get_cons_other _ _ (fun e=>hk e.symm)];exact g1,g2,by omega⟩
theorem StR.hidden{k:Id}{b:ABlock}(h:StR (Vf D k b) H n S):H.get k=some b:=(h.d k b (by simp[Vf])).1
theorem StR.turn{k:Id}{b b':ABlock}(h:StR (Vf D k b) H n S):StR (Vf D k b') (H.set k b') n S:=by
 have hk:=h.hidden
 refine⟨h.n,fun id c hc=>?_,fun id c hc=>?_⟩
 ·have hj:k≠id:=fun e=>by subst e;rw[(h.d k b (by simp[Vf])).2.1] at hc;cases hc
  rw[AHeap.get_set,if_neg hj];exact h.h _ _ hc
 ·unfold Vf at hc
  split at hc
  ·rename_i he;subst he;cases hc
   obtain⟨_,g2,g3⟩:=h.d id b (by simp[Vf])
   exact⟨by rw[AHeap.get_set,if_pos rfl,hk];rfl,g2,g3⟩
  ·rename_i he
   obtain⟨g1,g2,g3⟩:=h.d id c (by simp[Vf,he];exact hc)
   exact⟨by rw[AHeap.get_set,if_neg (fun e=>he e.symm)];exact g1,g2,g3⟩
theorem StR.unhide{k:Id}{b:ABlock}(h:StR (Vf D k b) H n S)(hk:D k=none):StR D (H.del k) n S:=by
 refine⟨h.n,fun id c hc=>?_,fun id c hc=>?_⟩
 ·have hj:k≠id:=fun e=>by subst e;rw[(h.d k b (by simp[Vf])).2.1] at hc;cases hc
  rw[AHeap.get_del,if_neg hj];exact h.h _ _ hc
 ·have hj:id≠k:=fun e=>by subst e;rw[hk] at hc;cases hc
  obtain⟨g1,g2,g3⟩:=h.d id c (by simp[Vf,hj];exact hc)
  exact⟨by rw[AHeap.get_del,if_neg (fun e=>hj e.symm)];exact g1,g2,g3⟩
theorem zcz{o:Es}{x:Exit×Ev×Sh}(h:y12 o=some x):∃E S,o=some (E,S)∧x=(.normal,E,S):=by
 cases o with
 |none=>cases h
 |some y=>obtain⟨E,S⟩:=y;simp only[y12,Option.some.injEq] at h;exact⟨E,S,rfl,h.symm⟩
theorem ug{C:Nat→List AVal→Sh→Rs}{L:LCode→Ev→Sh→Cs}{B:Nat→Option (Bool×Nat)}(hC:z1j P C)(hL:zel P L)(hB:z9e P B):∀ (lc:LCode) {D:Id→Option ABlock} (N:Lay) (n0:Nat) {E:Ev} {S:Sh} {x:Exit×Ev×Sh} {e:Env} {H:AHeap} {n:Nat},Y5 C L B lc E S=some x→Xh P N.n lc→EnR e E→StR D H n S→LWp P N n0 lc (KX D x) e H n
 |.skip,D,N,n0,E,S,x,e,H,n,h,hi,hE,hs=>by
  simp only[Y5,Option.some.injEq] at h
  subst h
  exact yx .skip _ e H n ⟨rfl,hE,hs⟩
 |.region ops,D,N,n0,E,S,x,e,H,n,h,hi,hE,hs=>by
  obtain⟨E1,S1,h1,rfl⟩:=zcz h
  refine yx (.region ops) _ e H n (z5h hC (fun e H n hE hs=>?_) h1 hE hs)
  exact⟨rfl,hE,hs⟩
 |.quiet ops,D,N,n0,E,S,x,e,H,n,h,hi,hE,hs=>by
  simp only[Y5] at h
  split at h<;>try (cases h;done)
  rename_i hp
  obtain⟨E1,S1,h1,rfl⟩:=zcz h
  refine yx (.quiet ops) _ e H n (V3 (P:=P) (fun lo hl=>List.all_eq_true.1 hp lo hl) (z5h hC (fun e H n hE hs=>?_) h1 hE hs))
  exact⟨rfl,hE,hs⟩
 |.draw items,D,N,n0,E,S,x,e,H,n,h,hi,hE,hs=>by
  obtain⟨E1,S1,h1,rfl⟩:=zcz h
  refine yx (.draw items) _ e H n (z0c hC (fun e H n hE hs=>?_) h1 hE hs)
  exact⟨rfl,hE,hs⟩
 |.draw2 a b items,D,N,n0,E,S,x,e,H,n,h,hi,hE,hs=>by
  simp only[Y5] at h
  split at h<;>try (cases h;done)
  rename_i E1 S1 h1
  split at h<;>try (cases h;done)
  rename_i ha
  simp only[Option.some.injEq] at h
  subst h
  refine yx (.draw2 a b items) _ e H n (z0c hC (fun e H n hE hs=>⟨?_,rfl,hE,hs⟩) h1 hE hs)
  rw[hE.get] at ha
  unfold ztb at ha
  split at ha<;>try (cases ha;done)
  rename_i b1 i1 o1 c1 i2 o2 q1 q2
  rw[(y5 q1).1,(y5 q2).1]
  simp only[z87]
  intro he
  rw[he] at ha
  simp at ha
 |.seq a b,D,N,n0,E,S,x,e,H,n,h,hi,hE,hs=>by
  unfold Y5 at h
  split at h
  ·rename_i E1 S1 h1
   refine J3 ((ug hC hL hB a N n0 h1 hi.1 hE hs).mono ?_)
   rintro ex e' H' n' ⟨rfl,hE',hs'⟩
   exact ug hC hL hB b N n0 h hi.2 hE' hs'
  ·rename_i hne
   refine J3 ((ug hC hL hB a N n0 h hi.1 hE hs).mono ?_)
   rintro ex e' H' n' ⟨rfl,hE',hs'⟩
   obtain⟨ex,E1,S1⟩:=x
   cases ex with
   |normal=>exact absurd h (hne _ _)
   |_=>exact⟨rfl,hE',hs'⟩
 |.cond c a b,D,N,n0,E,S,x,e,H,n,h,hi,hE,hs=>by
  unfold Y5 at h
  rw[hE.get] at h
  split at h<;>try (cases h;done)
  ·rename_i hc
   obtain⟨h1,h2⟩:=y5 hc
   exact Q9 h1 h2 (fun _=>ug hC hL hB a N n0 h hi.1 hE hs) (fun h=>by cases h)
  ·rename_i hc
   obtain⟨h1,h2⟩:=y5 hc
   exact Q9 h1 h2 (fun h=>by cases h) (fun _=>ug hC hL hB b N n0 h hi.2 hE hs)
 |.block id c,D,N,n0,E,S,x,e,H,n,h,hi,hE,hs=>by
  unfold Y5 at h
  split at h
  ·rename_i i E1 S1 h1
   refine Xe ((ug hC hL hB c N n0 h1 hi hE hs).mono ?_)
   rintro ex e' H' n' ⟨rfl,hE',hs'⟩
   simp only
   split at h
   ·rename_i hi
    rw[if_pos (qr.1 hi)]
    simp only[Option.some.injEq] at h
    subst h
    exact⟨rfl,hE',hs'⟩
   ·rename_i hi
    rw[if_neg (Nat.ne_of_beq_eq_false hi)]
    simp only[Option.some.injEq] at h
    subst h
    exact⟨rfl,hE',hs'⟩
  ·rename_i hne
   refine Xe ((ug hC hL hB c N n0 h hi hE hs).mono ?_)
   rintro ex e' H' n' ⟨rfl,hE',hs'⟩
   obtain⟨ex,E1,S1⟩:=x
   cases ex with
   |exit i=>exact absurd h (hne _ _ _)
   |_=>exact⟨rfl,hE',hs'⟩
 |.loop c,D,N,n0,E,S,x,e,H,n,h,hi,hE,hs=>hL c E S x h N n0 e H n hi hE hs
 |.rng g ps a b,D,N,n0,E,S,x,e,H,n,h,hi,hE,hs=>by
  unfold Y5 at h
  rw[hE.get] at h
  split at h<;>try (cases h;done)
  rename_i gf bx hg
  split at h<;>try (cases h;done)
  rename_i ag s hBf
  split at h<;>try (cases h;done)
  rename_i sl hsl
  split at h<;>try (cases h;done)
  rename_i z hz
  split at h<;>try (cases h;done)
  rename_i hb h0
  simp only[Bool.and_eq_true,Z8] at hb
  obtain⟨bm,L',hL',hok,hn2,hbody,hres⟩:=hB gf ag s hBf
  obtain⟨hg1,hg2⟩:=y5 hg
  obtain⟨hps,hia,hib⟩:=hi
  have hDn:D (n,0)=none:=by
   cases hd:D (n,0) with
   |none=>rfl
   |some c=>exact absurd (hs.d _ _ hd).2.2 (Nat.lt_irrefl _)
  have hEc:EnR (We e) E:=fun t=>by rw[zgc];exact hE t
  refine zr7 (We e) hg1 hg2 (zgy e) (fun l r hR=>?_)
  have hst:=hs.hide (b:=.lrec l r (We e)) h0
  obtain⟨k,hk⟩:∃k:Nat,z=k:=Int.eq_ofNat_of_zero_le hb.1.2
  subst hk
  refine zh6 hL' hok hn2 hbody hres (K:=fun H' n'=>∃k e',(H'.get k=some (.lrec l r e')∧KX D x .normal e' (H'.del k) n')∨∃ex code,zou ex=some code∧H'.get k=some (.lrec l (zpb r code) e')∧KX D x ex e' (H'.del k) n')
   (fun i H' n'=>∃S',y0j (Y5 C L B a) (Y5 C L B b) ps ag s bx E i S'=some x∧StR (Vf D (n,0) (.lrec l r (We e))) H' n' S') ?_ ?_ (len:=k) ⟨_,h,hst⟩ (by omega) (Kh hb.1.1) (Kf (Yf hst.le hsl)) (zei hz)
  ·rintro i H' n' ⟨S',hr,hst'⟩
   unfold y0j at hr
   split at hr<;>try (cases hr;done)
   rename_i sl' hsl'
   split at hr<;>try (cases hr;done)
   rename_i p hp
   split at hr<;>try (cases hr;done)
   rename_i el hel
   split at hr<;>try (cases hr;done)
   rename_i hpl
   split at hr<;>try (cases hr;done)
   rename_i e1 he1
   split at hr<;>try (cases hr;done)
   rename_i e2 S2 hA
   simp only[Bool.and_eq_true,jz] at hpl
   refine⟨by omega,sl',p,el,Kh hpl.1.1.1,Kh hpl.1.1.2,Kh hpl.1.2,Kf (Yf hst'.le hsl'),z7i hp,Kf (Yf hst'.le hel),?_⟩
   obtain⟨hEp,hlen⟩:=zkh he1 hEc
   refine zg4 hR hst'.hidden hps hlen ?_
   refine(ug hC hL hB a (zpd N) n' hA hia hEp hst').mono ?_
   rintro ex e' H'' n'' ⟨rfl,hE',hs'⟩
   refine⟨rfl,_,hs'.hidden,?_⟩
   split at hr<;>try (cases hr;done)
   ·rename_i E3 S3 hRb
    refine(ug hC hL hB b (zpd N) n' hRb hib hE' (hs'.turn (b':=.lrec l (busy r) (We e)))).mono ?_
    rintro ex e3 H3 n3 ⟨rfl,hE3,hs3⟩
    exact .inr ⟨rfl,_,hs3.hidden,.inl ⟨rfl,S3,hr,hs3.turn⟩⟩
   ·rename_i E3 S3 hRb
    refine(ug hC hL hB b (zpd N) n' hRb hib hE' (hs'.turn (b':=.lrec l (busy r) (We e)))).mono ?_
    rintro ex e3 H3 n3 ⟨rfl,hE3,hs3⟩
    simp only[Option.some.injEq] at hr
    subst hr
    exact .inl ⟨_,rfl,_,hs3.hidden,.inr ⟨rfl,(n,0),_,.inr ⟨.ret,_,rfl,(hs3.turn).hidden,rfl,hEc,(hs3.turn).unhide hDn⟩⟩⟩
   ·rename_i id E3 S3 hRb
    refine(ug hC hL hB b (zpd N) n' hRb hib hE' (hs'.turn (b':=.lrec l (busy r) (We e)))).mono ?_
    rintro ex e3 H3 n3 ⟨rfl,hE3,hs3⟩
    simp only[Option.some.injEq] at hr
    subst hr
    exact .inl ⟨_,rfl,_,hs3.hidden,.inr ⟨rfl,(n,0),_,.inr ⟨.exit id,_,rfl,(hs3.turn).hidden,rfl,hEc,(hs3.turn).unhide hDn⟩⟩⟩
  ·rintro H' n' ⟨S',hr,hst'⟩
   simp only[y0j,Option.some.injEq] at hr
   subst hr
   exact⟨(n,0),_,.inl ⟨hst'.hidden,rfl,hEc,hst'.unhide hDn⟩⟩
 |.dfr f t,D,N,n0,E,S,x,e,H,n,h,hi,hE,hs=>by
  simp only[Y5] at h
  split at h<;>try (cases h;done)
  rename_i E1 h1
  simp only[Option.some.injEq] at h
  subst h
  exact yx (.dfr f t) _ e H n ⟨hi,rfl,hE.put h1,hs⟩
 |.exit id,D,N,n0,E,S,x,e,H,n,h,hi,hE,hs=>by
  simp only[Y5,Option.some.injEq] at h
  subst h
  exact yx (.exit id) _ e H n ⟨rfl,hE,hs⟩
 |.ret,D,N,n0,E,S,x,e,H,n,h,hi,hE,hs=>by
  simp only[Y5,Option.some.injEq] at h
  subst h
  exact yx .ret _ e H n ⟨rfl,hE,hs⟩
end Go.Fx
