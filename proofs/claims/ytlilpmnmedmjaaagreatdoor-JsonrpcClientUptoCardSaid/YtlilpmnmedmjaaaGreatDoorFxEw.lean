/-
  Own framework.
-/
import Derived.Test.YtlilpmnmedmjaaaGreatDoorFxEv
import Derived.Test.YtlilpmnmedmjaaaGreatDoorFxZ
namespace Go.Fx
set_option linter.unusedVariables false
namespace Tr
variable {α:Type}
theorem z11(v:Option α)(l r:Tr α)(j:Nat):(Tr.nd v l r).get j=if j=0 then v else if j % 2=1 then l.get (j / 2) else r.get (j / 2-1):=by
 show(match Nat.beq j 0 with
  |true=>v
  |false=>match Nat.beq (j % 2) 1 with
   |true=>get l (j / 2)
   |false=>get r (j / 2-1))=_
 by_cases h:j=0
 ·subst h;rfl
 ·rw[if_neg h]
  have h0:Nat.beq j 0=false:=Bool.eq_false_iff.2 fun h'=>h (Nat.eq_of_beq_eq_true h')
  rw[h0]
  simp only
  by_cases h1:j % 2=1
  ·rw[if_pos h1,h1]
  ·rw[if_neg h1]
   have:j % 2=0:=by omega
   rw[this]
theorem put_get:∀ (d:Nat) (t:Tr α) (k:Nat) (x:Option α) (t':Tr α),put d t k x=some t'→∀j,t'.get j=if j=k then x else t.get j
 |0,_,_,_,_,h=>by simp[put] at h
 |d+1,t,k,x,t',h=>by
  have key:∀ (v:Option α) (l r:Tr α),(match Nat.beq k 0 with
   |true=>some (Tr.nd x l r)
   |false=>match Nat.beq (k % 2) 1 with
    |true=>match put d l (k / 2) x with|some l=>some (.nd v l r)|none=>none
    |false=>match put d r (k / 2-1) x with|some r=>some (.nd v l r)|none=>none)=some t'→∀j,t'.get j=if j=k then x else(Tr.nd v l r).get j:=by
   intro v l r h j
   split at h
   ·rename_i hk
    have hk:=Nat.eq_of_beq_eq_true hk
    simp only[Option.some.injEq] at h
    subst h hk
    rw[z11,z11]
    by_cases hj:j=0
    ·rw[if_pos hj,if_pos hj]
    ·rw[if_neg hj,if_neg hj,if_neg hj]
   ·rename_i hk
    have hk:=Nat.ne_of_beq_eq_false hk
    split at h
    ·rename_i hk1
     have hk1:=Nat.eq_of_beq_eq_true hk1
     split at h<;>simp only[Option.some.injEq,reduceCtorEq] at h
     rename_i l' hl
     subst h
     have ih:=put_get d l (k / 2) x l' hl
     rw[z11,z11,ih]
     by_cases hj:j=k
     ·subst hj;rw[if_neg hk,if_pos hk1,if_pos rfl,if_pos rfl]
     ·rw[if_neg hj]
      by_cases h0:j=0
      ·rw[if_pos h0,if_pos h0]
      ·rw[if_neg h0,if_neg h0]
       by_cases h1:j % 2=1
       ·rw[if_pos h1,if_pos h1,if_neg (by omega)]
       ·rw[if_neg h1,if_neg h1]
    ·rename_i hk1
     have hk1:=Nat.ne_of_beq_eq_false hk1
     split at h<;>simp only[Option.some.injEq,reduceCtorEq] at h
     rename_i r' hr
     subst h
     have ih:=put_get d r (k / 2-1) x r' hr
     rw[z11,z11,ih]
     by_cases hj:j=k
     ·subst hj;rw[if_neg hk,if_neg hk1,if_pos rfl,if_pos rfl]
     ·rw[if_neg hj]
      by_cases h0:j=0
      ·rw[if_pos h0,if_pos h0]
      ·rw[if_neg h0,if_neg h0]
       by_cases h1:j % 2=1
       ·rw[if_pos h1,if_pos h1]
       ·rw[if_neg h1,if_neg h1,if_neg (by omega)]
  cases t with
  |nil=>
   intro j
   have hn:(Tr.nil:Tr α).get j=(Tr.nd none .nil .nil).get j:=by rw[z11];simp[get]
   rw[hn]
   exact key none .nil .nil (by unfold put at h;exact h) j
  |nd v l r=>exact key v l r (by unfold put at h;exact h)
end Tr
theorem zxp{i j:Id}{k:Nat}(hi:hix i=some k)(hj:hix j=some k):i=j:=by
 obtain⟨a,b⟩:=i
 obtain⟨c,d⟩:=j
 unfold hix at hi hj
 simp only at hi hj
 split at hi<;>split at hj<;>simp only[Option.some.injEq,reduceCtorEq] at hi hj
 all_goals first|(exfalso;omega)|(have:a=c:=(by omega);subst this;rfl)
theorem Jo{t t':Tr ABlock}{id:Id}{b:Option ABlock}(h:t.sat id b=some t')(j:Id):t'.at j=if j=id then b else t.at j:=by
 unfold Tr.sat at h
 split at h<;>try (cases h;done)
 rename_i k hk
 have hp:=Tr.put_get _ _ _ _ _ h
 unfold Tr.at
 by_cases hj:j=id
 ·subst hj
  rw[hk,if_pos rfl]
  simp only
  rw[hp,if_pos rfl]
 ·rw[if_neg hj]
  cases hx:hix j with
  |none=>rfl
  |some k'=>
   simp only
   rw[hp,if_neg]
   rintro rfl
   exact hj (zxp hx hk)
structure StR(D:Id→Option ABlock)(H:AHeap)(nn:Nat)(S:Sh):Prop where
 n:nn=S.n
 h:∀id b,S.t.at id=some b→H.get id=some b
 d:∀id b,D id=some b→H.get id=some b∧S.t.at id=none∧id.1<nn
variable {D:Id→Option ABlock} {H:AHeap} {n:Nat} {S S':Sh}
theorem StR.new{b:ABlock}(h:StR D H n S)(hs:S.new b=some S'):StR D (((n,0),b)::H) (n+1) S':=by
 unfold Sh.new at hs
 split at hs<;>simp only[Option.some.injEq,reduceCtorEq] at hs
 rename_i t ht
 subst hs
 refine⟨by simp[h.n],fun id c hc=>?_,fun id c hc=>?_⟩
 ·simp only at hc
  rw[Jo ht] at hc
  by_cases hj:(n,0)=id
  ·subst hj;rw[AHeap.get_cons_same];rw[if_pos (by rw[h.n])] at hc;exact hc
  ·rw[AHeap.get_cons_other _ _ hj];rw[if_neg (by rw[←h.n];exact fun e=>hj e.symm)] at hc;exact h.h _ _ hc
 ·obtain⟨g1,g2,g3⟩:=h.d id c hc
  have hj:(n,0)≠id:=fun e=>by subst e;exact absurd g3 (Nat.lt_irrefl _)
  simp only
  rw[Jo ht,AHeap.get_cons_other _ _ hj,if_neg (by rw[←h.n];exact fun e=>hj e.symm)]
  exact⟨g1,g2,by omega⟩
theorem StR.new2{b c:ABlock}(h:StR D H n S)(hs:S.new2 b c=some S'):StR D (((n,0),b)::((n,1),c)::H) (n+1) S':=by
 unfold Sh.new2 at hs
 split at hs<;>try (cases hs;done)
 rename_i t ht
 split at hs<;>simp only[Option.some.injEq,reduceCtorEq] at hs
 rename_i t' ht'
 subst hs
 refine⟨by simp[h.n],fun id u hu=>?_,fun id u hu=>?_⟩
 ·simp only at hu
  rw[Jo ht',Jo ht,←h.n] at hu
  by_cases hj:(n,0)=id
  ·subst hj;rw[AHeap.get_cons_same];rw[if_neg (by simp),if_pos rfl] at hu;exact hu
  ·rw[AHeap.get_cons_other _ _ hj]
   by_cases hj1:(n,1)=id
   ·subst hj1;rw[AHeap.get_cons_same];rw[if_pos rfl] at hu;exact hu
   ·rw[AHeap.get_cons_other _ _ hj1];rw[if_neg (fun e=>hj1 e.symm),if_neg (fun e=>hj e.symm)] at hu;exact h.h _ _ hu
 ·obtain⟨g1,g2,g3⟩:=h.d id u hu
  have hj:(n,0)≠id:=fun e=>by subst e;exact absurd g3 (Nat.lt_irrefl _)
  have hj1:(n,1)≠id:=fun e=>by subst e;exact absurd g3 (Nat.lt_irrefl _)
  simp only
  rw[Jo ht',Jo ht,←h.n,AHeap.get_cons_other _ _ hj,AHeap.get_cons_other _ _ hj1,if_neg (fun e=>hj1 e.symm),if_neg (fun e=>hj e.symm)]
  exact⟨g1,g2,by omega⟩
theorem StR.upd{id:Id}{b b0:ABlock}(h:StR D H n S)(h0:S.t.at id=some b0)(hs:S.upd id b=some S'):StR D (H.set id b) n S':=by
 unfold Sh.upd at hs
 split at hs<;>simp only[Option.some.injEq,reduceCtorEq] at hs
 rename_i t ht
 subst hs
 refine⟨h.n,fun j c hc=>?_,fun j c hc=>?_⟩
 ·simp only at hc
  rw[Jo ht] at hc
  rw[AHeap.get_set]
  by_cases hj:id=j
  ·subst hj;rw[if_pos rfl] at hc ⊢;rw[h.h _ _ h0];exact hc
  ·rw[if_neg hj];rw[if_neg (fun e=>hj e.symm)] at hc;exact h.h _ _ hc
 ·obtain⟨g1,g2,g3⟩:=h.d j c hc
  have hj:id≠j:=fun e=>by subst e;rw[h0] at g2;cases g2
  simp only
  rw[Jo ht,AHeap.get_set,if_neg hj,if_neg (fun e=>hj e.symm)]
  exact⟨g1,g2,g3⟩
theorem StR.cut{id:Id}{b0:ABlock}(h:StR D H n S)(h0:S.t.at id=some b0)(hs:S.cut id=some S'):StR D (H.del id) n S':=by
 unfold Sh.cut at hs
 split at hs<;>simp only[Option.some.injEq,reduceCtorEq] at hs
 rename_i t ht
 subst hs
 refine⟨h.n,fun j c hc=>?_,fun j c hc=>?_⟩
 ·simp only at hc
  rw[Jo ht] at hc
  rw[AHeap.get_del]
  by_cases hj:id=j
  ·subst hj;rw[if_pos rfl] at hc;cases hc
  ·rw[if_neg hj];rw[if_neg (fun e=>hj e.symm)] at hc;exact h.h _ _ hc
 ·obtain⟨g1,g2,g3⟩:=h.d j c hc
  have hj:id≠j:=fun e=>by subst e;rw[h0] at g2;cases g2
  simp only
  rw[Jo ht,AHeap.get_del,if_neg hj,if_neg (fun e=>hj e.symm)]
  exact⟨g1,g2,g3⟩
theorem Sh.upd_at{id j:Id}{b c:ABlock}(hs:S.upd id b=some S')(hj:S.t.at j=some c):∃c',S'.t.at j=some c':=by
 unfold Sh.upd at hs
 split at hs<;>simp only[Option.some.injEq,reduceCtorEq] at hs
 rename_i t ht
 subst hs
 simp only
 rw[Jo ht]
 split
 ·exact⟨_,rfl⟩
 ·exact⟨_,hj⟩
def HLe(h h':Hp):Prop:=∀id b,h id=some b→h' id=some b
theorem Yf{h h':Hp}(hl:HLe h h'){ag:Bool}{n:Nat}:∀ {x v:AVal},z2z ag n h x=some v→z2z ag n h' x=some v:=by
 intro x v hx
 unfold z2z at hx ⊢
 split at hx
 ·exact hx
 ·rename_i b i off
  cases hb:h b with
  |none=>rw[hb] at hx;cases hx
  |some blk=>rw[hb] at hx;simp only[hl _ _ hb];exact hx
 ·cases hx
theorem z6t{h h':Hp}(hl:HLe h h'){len s:Nat}{x y v:AVal}(hx:Uc len s h x y=some v):Uc len s h' x y=some v:=by
 unfold Uc at hx ⊢
 split at hx
 ·rename_i b i k j
  cases hb:h b with
  |none=>rw[hb] at hx;cases hx
  |some blk=>rw[hb] at hx;simp only[hl _ _ hb];exact hx
 ·cases hx
theorem z3i{h h':Hp}(hl:HLe h h'){len s:Nat}{x v:AVal}(hx:zh9 len s h x=some v):zh9 len s h' x=some v:=by
 unfold zh9 at hx ⊢
 split at hx
 ·rename_i b i
  cases hb:h b with
  |none=>rw[hb] at hx;cases hx
  |some blk=>rw[hb] at hx;simp only[hl _ _ hb];exact hx
 ·cases hx
theorem zc9{h h':Hp}(hl:HLe h h'){ks:List CK}{ka g ok:Bool}{zs:List AVal}{k x v:AVal}(hx:z3n ks ka g ok zs h k x=some v):z3n ks ka g ok zs h' k x=some v:=by
 unfold z3n at hx ⊢
 split at hx
 ·exact hx
 ·rename_i b
  cases hb:h b with
  |none=>rw[hb] at hx;cases hx
  |some blk=>rw[hb] at hx;simp only[hl _ _ hb];exact hx
 ·cases hx
theorem zgf{h h':Hp}(hl:HLe h h'){x v:AVal}(hx:zhf h x=some v):zhf h' x=some v:=by
 unfold zhf at hx ⊢
 split at hx
 ·exact hx
 ·rename_i b
  cases hb:h b with
  |none=>rw[hb] at hx;cases hx
  |some blk=>rw[hb] at hx;simp only[hl _ _ hb];exact hx
 ·cases hx
theorem Jk{h h':Hp}(hl:HLe h h'){s:Nat}{x:AVal}{v:List (List AVal)}(hx:Ji h s x=some v):Ji h' s x=some v:=by
 unfold Ji at hx ⊢
 split at hx
 case h_3 b s' off len f=>
  cases hb:h b with
  |none=>rw[hb] at hx;cases hx
  |some blk=>rw[hb] at hx;simp only[hl _ _ hb];exact hx
 all_goals first|exact hx|cases hx
theorem Zb{α β:Type}{o:Option α}{f f':α→Option β}{v:β}(hx:o.bind f=some v)(hf:∀a,f a=some v→f' a=some v):o.bind f'=some v:=by
 cases o with
 |none=>cases hx
 |some a=>exact hf a hx
theorem z4l{h h':Hp}(hl:HLe h h'){g:Nat→AVal}{op:LOp}{v:AVal}(hx:zcf g h op=some v):zcf g h' op=some v:=by
 unfold zcf at hx ⊢
 split at hx
 case h_4=>exact Zb hx fun a h=>Yf hl h
 case h_14=>exact Zb hx fun a h=>z3i hl h
 all_goals first
  |exact hx
  |exact Zb hx fun a h=>zgf hl h
  |exact Zb hx fun a h=>Zb h fun b h=>z6t hl h
  |exact Zb hx fun a h=>Zb h fun b h=>zc9 hl h
  |exact Zb hx fun a h=>Yf hl h
  |exact Zb hx fun a h=>z3i hl h
  |cases hx
theorem V5{h h':Hp}(hl:HLe h h'){g:Nat→AVal}{lo:LOper}{v:AVal}(hx:Wk g h lo=some v):Wk g h' lo=some v:=by
 unfold Wk at hx ⊢
 split at hx
 ·exact z4l hl hx
 ·split at hx
  ·split at hx<;>try (cases hx;done)
   rename_i v' hv
   rw[z4l hl hv]
   exact hx
  ·exact hx
  ·cases hx
theorem z1u{h h':Hp}(hl:HLe h h'){lo:List Nat}:∀ {d:List (Nat×LOper×Env×AVal)},z2p h lo d=true→z2p h' lo d=true
 |[],_=>rfl
 |(p,o,e,v)::r,hx=>by
  unfold z2p at hx ⊢
  simp only[Bool.and_eq_true] at hx ⊢
  refine⟨?_,z1u hl hx.2⟩
  have h1:=hx.1
  split at h1
  ·split at h1
   ·rename_i u hu
    rw[V5 hl hu]
    exact h1
   ·cases h1
  ·rfl
theorem zjy{h h':Hp}(hl:HLe h h'){e:Ev}{r:LRes}{v:AVal}(hx:zwe e h r=some v):zwe e h' r=some v:=by
 unfold zwe at hx ⊢
 split at hx
 ·exact hx
 ·split at hx
  ·exact Yf hl hx
  ·cases hx
theorem Vn{a b:IntKind}:z3g a b=true↔a=b:=by cases a<;>cases b<;>decide
theorem Z8{a b:Int}:ile a b=true↔a≤b:=by simp[ile]
theorem z1v{a b:Int}:ilt a b=true↔a<b:=by simp[ilt]
theorem qr{a b:Nat}:Nat.beq a b=true↔a=b:=⟨Nat.eq_of_beq_eq_true,fun h=>by subst h;exact Nat.beq_refl a⟩
theorem jz{a b:Nat}:Nat.ble a b=true↔a≤b:=by rw[Nat.ble_eq]
theorem Xg{p:Bool}{v y:AVal}(h:ck p v=some y):p=true∧v=y:=by
 unfold ck at h
 split at h<;>simp only[Option.some.injEq,reduceCtorEq] at h
 exact⟨rfl,h⟩
def XOk(x:XR)(y:AVal):Prop:=∃s,x=.ok s y∧s
theorem XOk.of{x:XR}{s:Prop}{y:AVal}(h:x=.ok s y)(hs:s):XOk x y:=⟨s,h,hs⟩
theorem XOk.and{x:XR}{p:Prop}{y:AVal}(h:XOk x y)(hp:p):XOk (x.and p) y:=by
 obtain⟨s,rfl,hs⟩:=h
 exact⟨p∧s,rfl,hp,hs⟩
theorem ztz{op:BinOp}{a b y:AVal}(h:y1u op a b=some y):XOk (zku op a b) y:=by
 unfold y1u at h
 split at h
 ·unfold zku
  cases op<;>simp only at h ⊢<;>(obtain⟨h1,rfl⟩:=Xg h;refine⟨_,rfl,?_⟩) <;>
   simp only[Bool.and_eq_true,Vn,Z8,Bool.not_eq_true',decide_eq_false_iff_not] at h1<;>exact h1
 ·unfold zku
  cases op<;>first
   |(cases h;done)
   |(obtain⟨h1,rfl⟩:=Xg h;exact⟨_,rfl,Z8.1 h1⟩)
   |(simp only[Option.some.injEq] at h;subst h;exact⟨_,rfl,trivial⟩)
 ·cases h
theorem y16{op:UnOp}{a y:AVal}(h:bun op a=some y):XOk (xun op a) y:=by
 unfold bun at h
 split at h
 ·unfold xun
  split at h<;>simp only[Option.some.injEq,reduceCtorEq] at h
  subst h;exact⟨_,rfl,trivial⟩
 ·unfold xun
  split at h<;>simp only[Option.some.injEq,reduceCtorEq] at h<;>(subst h;exact⟨_,rfl,trivial⟩)
 ·cases h
theorem zfr{k:CK}{x y:AVal}{b:Bool}(h:zcb k x y=some b):Q7 k x y=some b:=by
 unfold zcb at h
 split at h
 ·split at h<;>simp only[Option.some.injEq,reduceCtorEq] at h
  rename_i hk
  subst h
  simp[Q7,Vn.1 hk]
 ·simpa[Q7] using h
 ·simpa[Q7] using h
 ·cases h
theorem Yx:∀ {ks:List CK} {xs ys:List AVal} {b:Bool},Y7 ks xs ys=some b→yz ks xs ys=some b
 |[],[],[],b,h=>by simpa[Y7,yz] using h
 |k::ks,x::xs,y::ys,b,h=>by
  unfold Y7 at h
  split at h<;>try (cases h;done)
  rename_i a ha
  split at h<;>try (cases h;done)
  rename_i c hc
  unfold yz
  rw[zfr ha,Yx hc]
  exact h
 |[],[],_::_,_,h=>by cases h
 |[],_::_,_,_,h=>by cases h
 |_::_,[],_,_,h=>by cases h
 |_::_,_::_,[],_,h=>by cases h
theorem zpn{x y:AVal}{b:Bool}(h:zw3 x y=some b):XOk (Ua x y) (.bool b):=by
 unfold zw3 at h
 split at h
 ·simp only[Option.some.injEq] at h;subst h;exact⟨_,rfl,trivial⟩
 ·rename_i len _
  cases hz:Nat.beq len 0<;>rw[hz] at h<;>simp only[Option.some.injEq,reduceCtorEq] at h
  subst h;exact⟨_,rfl,Nat.ne_of_beq_eq_false hz⟩
 ·rename_i len _
  cases hz:Nat.beq len 0<;>rw[hz] at h<;>simp only[Option.some.injEq,reduceCtorEq] at h
  subst h;exact⟨_,rfl,Nat.ne_of_beq_eq_false hz⟩
 ·rename_i es _
  cases es<;>simp only[Option.some.injEq,reduceCtorEq] at h
  subst h;exact⟨_,rfl,by simp⟩
 ·rename_i es _
  cases es<;>simp only[Option.some.injEq,reduceCtorEq] at h
  subst h;exact⟨_,rfl,by simp⟩
 ·cases h
theorem zul{k:EqK}{x y:AVal}{b:Bool}(h:y2e k x y=some b):XOk (ziq k x y) (.bool b):=by
 unfold y2e at h
 unfold ziq
 split at h
 ·split at h<;>simp only[Option.some.injEq,reduceCtorEq] at h
  subst h;exact⟨_,rfl,trivial⟩
 ·simp only
  unfold zso at h
  split at h<;>simp only[Option.some.injEq,reduceCtorEq] at h<;>(subst h;exact⟨_,rfl,trivial⟩)
 ·simp only
  exact zpn h
 ·simp only
  unfold ztg at h
  split at h<;>simp only[Option.some.injEq,reduceCtorEq] at h<;>(subst h;exact⟨_,rfl,trivial⟩)
 ·simp only
  split at h<;>try (cases h;done)
  simp only[zo7,Yx h]
  exact⟨_,rfl,trivial⟩
 ·simp only
  unfold zj3 at h
  split at h<;>simp only[Option.some.injEq,reduceCtorEq] at h<;>(subst h;exact⟨_,rfl,trivial⟩)
 ·simp only
  unfold zmk at h
  split at h<;>simp only[Option.some.injEq,reduceCtorEq] at h<;>(subst h;exact⟨_,rfl,trivial⟩)
 ·cases h
theorem zxf{neg:Bool}{k:EqK}{x y z:AVal}(h:y29 neg k x y=some z):XOk (xeq neg k x y) z:=by
 unfold y29 at h
 split at h<;>simp only[Option.some.injEq,reduceCtorEq] at h
 rename_i b hb
 obtain⟨s,h1,h2⟩:=zul hb
 unfold xeq
 subst h
 cases neg with
 |true=>simp only[if_true,h1,XR.neg];exact⟨_,rfl,h2⟩
 |false=>simp only[Bool.false_eq_true,if_false,h1];exact⟨_,rfl,h2⟩
theorem Kf{ag:Bool}{m:Nat}{x y:AVal}(h:z2z ag m H.get x=some y):XOk (z05 ag m H x) y:=by
 unfold z2z at h
 unfold z05
 split at h
 ·obtain⟨h1,rfl⟩:=Xg h
  simp only[Bool.and_eq_true,jz] at h1
  exact⟨_,rfl,h1⟩
 ·rename_i b i off
  simp only
  split at h<;>try (cases h;done)
  ·rename_i hg
   obtain⟨h1,rfl⟩:=Xg h
   simp only[Bool.and_eq_true,jz] at h1
   rw[hg]
   exact⟨_,rfl,h1⟩
  ·rename_i hg
   obtain⟨h1,rfl⟩:=Xg h
   simp only[Bool.and_eq_true,jz,qr] at h1
   rw[hg]
   exact⟨_,rfl,h1⟩
 ·cases h
theorem zna{off:Nat}{x y:AVal}(h:ziu off x=some y):XOk (z3p off x) y:=by
 unfold ziu at h
 split at h<;>simp only[Option.some.injEq,reduceCtorEq] at h<;>(subst h;exact⟨_,rfl,trivial⟩)
theorem zi4{ag:Bool}{m off:Nat}{x y:AVal}(h:zns ag m off x=some y):XOk (z4s ag m off x) y:=by
 unfold zns at h
 split at h<;>try (cases h;done)
 obtain⟨h1,rfl⟩:=Xg h
 exact⟨_,rfl,jz.1 h1⟩
theorem z7i{s:Nat}{x i y:AVal}(h:zfh s x i=some y):XOk (z1x s x i) y:=by
 unfold zfh at h
 split at h<;>try (cases h;done)
 all_goals
  obtain⟨h1,rfl⟩:=Xg h
  simp only[Bool.and_eq_true,qr,Z8,z1v,and_assoc] at h1
  exact⟨_,rfl,h1⟩
theorem zg1{len s:Nat}{x i y:AVal}(h:zbl len s x i=some y):XOk (z1b len s x i) y:=by
 unfold zbl at h
 split at h<;>try (cases h;done)
 all_goals
  obtain⟨h1,rfl⟩:=Xg h
  simp only[Bool.and_eq_true,Z8,z1v] at h1
  exact⟨_,rfl,h1⟩
theorem zg3{len s:Nat}{x i y:AVal}(h:Uc len s H.get x i=some y):XOk (Wq len s H x i) y:=by
 unfold Uc at h
 split at h<;>try (cases h;done)
 split at h<;>try (cases h;done)
 rename_i hg
 obtain⟨h1,rfl⟩:=Xg h
 simp only[Bool.and_eq_true,qr,Z8,z1v,and_assoc] at h1
 simp only[Wq,hg]
 exact⟨_,rfl,h1⟩
theorem zra{len s:Nat}{x y:AVal}(h:zh9 len s H.get x=some y):XOk (zhe len s H x) y:=by
 unfold zh9 at h
 split at h<;>try (cases h;done)
 split at h<;>try (cases h;done)
 rename_i hg
 obtain⟨h1,rfl⟩:=Xg h
 simp only[Bool.and_eq_true,qr,jz] at h1
 simp only[zhe,hg]
 exact⟨_,rfl,h1⟩
theorem zrj{x i y:AVal}(h:zvm x i=some y):XOk (zlc x i) y:=by
 unfold zvm at h
 split at h<;>try (cases h;done)
 obtain⟨h1,rfl⟩:=Xg h
 simp only[Bool.and_eq_true,Z8,z1v] at h1
 exact⟨_,rfl,h1⟩
theorem zr4{len s:Nat}{ag:Bool}{x i y:AVal}(h:zxk len s ag x i=some y):XOk (zmr len s ag x i) y:=by
 unfold zxk at h
 split at h<;>try (cases h;done)
 obtain⟨h1,rfl⟩:=Xg h
 simp only[Bool.and_eq_true,Z8,z1v,jz,and_assoc] at h1
 exact⟨_,rfl,h1⟩
theorem zxh{k:Nat}{x y:AVal}(h:y2s k x=some y):XOk (zxx k x) y:=by
 unfold y2s at h
 split at h<;>try (cases h;done)
 obtain⟨h1,rfl⟩:=Xg h
 exact⟨_,rfl,jz.1 h1⟩
theorem zpv{x y:AVal}(h:zvh x=some y):XOk (zgt x) y:=by
 unfold zvh at h
 split at h<;>simp only[Option.some.injEq,reduceCtorEq] at h
 subst h;exact⟨_,rfl,trivial⟩
theorem zei{x y:AVal}(h:zqe x=some y):XOk (zct x) y:=by
 unfold zqe at h
 split at h<;>simp only[Option.some.injEq,reduceCtorEq] at h<;>(subst h;exact⟨_,rfl,trivial⟩)
theorem zlu{x y:AVal}(h:zov x=some y):XOk (z43 x) y:=by
 unfold zov at h
 split at h<;>simp only[Option.some.injEq,reduceCtorEq] at h<;>(subst h;exact⟨_,rfl,trivial⟩)
variable {e:Env}
theorem y5{x:LOpd}{v:AVal}(h:uy e.get x=some v):x.ev e=v∧x.need e:=by
 cases x with
 |c u=>simp only[uy,Option.some.injEq] at h;exact⟨h,trivial⟩
 |t i=>
  simp only[uy] at h
  show(e.get i).strip=v∧(e.get i).need
  split at h
  ·rename_i u hu
   simp only[Option.some.injEq] at h
   rw[hu]
   exact⟨h,rfl⟩
  ·cases h
  ·rename_i h1 h2
   simp only[Option.some.injEq] at h
   cases hg:e.get i with
   |cnd p u=>
    cases p with
    |true=>exact absurd hg (h1 u)
    |false=>exact absurd hg (h2 u)
   |_=>rw[hg] at h;subst h;exact⟨rfl,trivial⟩
theorem W1:∀ {xs:List LOpd} {vs:List AVal},z5q e.get xs=some vs→evs e xs=vs∧Jh e xs
 |[],vs,h=>by simp only[z5q,Option.some.injEq] at h;exact⟨h,trivial⟩
 |x::xs,vs,h=>by
  unfold z5q at h
  split at h<;>try (cases h;done)
  rename_i a ha
  split at h<;>simp only[Option.some.injEq,reduceCtorEq] at h
  rename_i l hl
  obtain⟨h1,h2⟩:=y5 ha
  obtain⟨h3,h4⟩:=W1 hl
  exact⟨by unfold evs;rw[h1,h3];exact h,h2,h4⟩
theorem uq{d:Nat}{o:Option LOpd}{j:Int}(h:Xi e.get d o=some j):js e d o=some j∧Y0 e o:=by
 cases o with
 |none=>simp only[Xi,Option.some.injEq] at h;exact⟨by simp[js,h],trivial⟩
 |some x=>
  simp only[Xi] at h
  split at h<;>simp only[Option.some.injEq,reduceCtorEq] at h
  rename_i k z hx
  obtain⟨h1,h2⟩:=y5 hx
  subst h
  exact⟨by simp only[js,h1],h2⟩
theorem zio{lo hi:Option LOpd}{x y:AVal}(h:zhv e.get lo hi x=some y):XOk (z3k (fun d=>js e d lo) (fun d=>js e d hi) x) y∧Y0 e lo∧Y0 e hi:=by
 unfold zhv at h
 split at h<;>try (cases h;done)
 split at h<;>try (cases h;done)
 rename_i a b ha hb
 obtain⟨h1,rfl⟩:=Xg h
 obtain⟨ha1,ha2⟩:=uq ha
 obtain⟨hb1,hb2⟩:=uq hb
 simp only[Bool.and_eq_true,Z8,and_assoc] at h1
 refine⟨?_,ha2,hb2⟩
 simp only[z3k,ha1,hb1]
 exact⟨_,rfl,h1⟩
theorem zrk{s:Nat}{lo hi mx:Option LOpd}{x y:AVal}(h:zun e.get s lo hi mx x=some y)(kp:Bool):XOk (zk5 s (fun d=>js e d lo) (fun d=>js e d hi) (z39 e mx) kp x) y∧Y0 e lo∧Y0 e hi∧Y0 e mx:=by
 unfold zun at h
 split at h
 ·split at h<;>try (cases h;done)
  rename_i a b ha hb
  obtain⟨ha1,ha2⟩:=uq ha
  obtain⟨hb1,hb2⟩:=uq hb
  split at h
  ·obtain⟨h1,rfl⟩:=Xg h
   simp only[Bool.and_eq_true,qr,Z8,and_assoc] at h1
   refine⟨?_,ha2,hb2,trivial⟩
   simp only[zk5,z52,ha1,hb1,z39]
   exact⟨_,rfl,h1⟩
  ·split at h<;>try (cases h;done)
   rename_i z hz
   obtain⟨hz1,hz2⟩:=uq hz
   obtain⟨h1,rfl⟩:=Xg h
   simp only[Bool.and_eq_true,qr,Z8,and_assoc] at h1
   refine⟨?_,ha2,hb2,hz2⟩
   simp only[zk5,z52,ha1,hb1,z39,hz1]
   exact⟨_,rfl,h1⟩
 ·split at h<;>try (cases h;done)
  rename_i a b ha hb
  obtain⟨ha1,ha2⟩:=uq ha
  obtain⟨hb1,hb2⟩:=uq hb
  split at h
  ·obtain⟨h1,rfl⟩:=Xg h
   simp only[Bool.and_eq_true,qr,Z8,and_assoc] at h1
   refine⟨?_,ha2,hb2,trivial⟩
   simp only[zk5,z52,ha1,hb1,z39]
   exact⟨_,rfl,h1⟩
  ·split at h<;>try (cases h;done)
   rename_i z hz
   obtain⟨hz1,hz2⟩:=uq hz
   obtain⟨h1,rfl⟩:=Xg h
   simp only[Bool.and_eq_true,qr,Z8,and_assoc] at h1
   refine⟨?_,ha2,hb2,hz2⟩
   simp only[zk5,z52,ha1,hb1,z39,hz1]
   exact⟨_,rfl,h1⟩
 ·split at h<;>try (cases h;done)
  rename_i a b ha hb
  obtain⟨ha1,ha2⟩:=uq ha
  obtain⟨hb1,hb2⟩:=uq hb
  obtain⟨h1,rfl⟩:=Xg h
  simp only[Bool.and_eq_true,decide_eq_true_eq] at h1
  refine⟨?_,ha2,hb2,trivial⟩
  simp only[zk5,z52,ha1,hb1,z39]
  exact⟨_,rfl,h1⟩
 ·cases h
theorem z92:∀ {ps:List (Nat×Nat×AVal)} {cells:List AVal} {y:AVal},z7f cells ps=some y→XOk (Q4 cells ps) y
 |[],cells,y,h=>by simp only[z7f,Option.some.injEq] at h;subst h;exact⟨_,rfl,trivial⟩
 |(off,m,x)::r,cells,y,h=>by
  unfold z7f at h
  split at h<;>try (cases h;done)
  rename_i cs hc
  split at h<;>try (cases h;done)
  rename_i hb
  simp only[Bool.and_eq_true,qr,jz] at hb
  obtain⟨s,h1,h2⟩:=z92 h
  simp only[Q4,hc,h1]
  exact⟨_,rfl,hb.1,hb.2,h2⟩
theorem z73:∀ {ps:List (Nat×Nat×LOpd)} {l:List (Nat×Nat×AVal)},z7w e.get ps=some l→kx e ps=l∧kb e ps
 |[],l,h=>by simp only[z7w,Option.some.injEq] at h;exact⟨h,trivial⟩
 |(o,m,x)::r,l,h=>by
  unfold z7w at h
  split at h<;>try (cases h;done)
  rename_i a ha
  split at h<;>simp only[Option.some.injEq,reduceCtorEq] at h
  rename_i l' hl
  obtain⟨h1,h2⟩:=y5 ha
  obtain⟨h3,h4⟩:=z73 hl
  exact⟨by unfold kx;rw[h1,h3];exact h,h2,h4⟩
theorem zp4{mx:Bool}:∀ {l:List AVal} {v y:AVal},zwb mx v l=some y→XOk (zjg mx v l) y
 |[],v,y,h=>by
  cases v<;>simp only[zwb,Option.some.injEq] at h<;>(subst h;exact⟨_,rfl,trivial⟩)
 |x::r,v,y,h=>by
  cases v<;>try (simp[zwb] at h;done)
  cases x<;>try (simp[zwb] at h;done)
  simp only[zwb] at h
  split at h<;>try (cases h;done)
  rename_i hk
  obtain⟨s,h1,h2⟩:=zp4 h
  simp only[zjg,h1]
  exact⟨_,rfl,Vn.1 hk,h2⟩
theorem zqk{mx:Bool}{l:List AVal}{y:AVal}(h:zw4 mx l=some y):XOk (zkn mx l) y:=by
 unfold zw4 at h
 split at h<;>try (cases h;done)
 exact zp4 h
theorem K9{ks:List CK}{ka:Bool}{k:AVal}(h:z4o ks ka k=true):Jb ks ka k=true:=by
 unfold z4o at h
 unfold Jb
 simp only[Bool.and_eq_true] at h ⊢
 refine⟨h.1,?_⟩
 cases hc:Y7 ks (xv k) (xv k) with
 |none=>rw[hc] at h;cases h.2
 |some b=>rw[Yx hc];rfl
theorem Qx{ks:List CK}{k k':AVal}{b:Bool}(h:z7n ks k k'=some b):X6 ks k k'=some b:=by
 unfold z7n at h
 unfold X6
 split at h<;>try (cases h;done)
 ·rename_i h1 h2;rw[h1,h2];exact Yx h
 ·rename_i h1 h2;rw[h1,h2];exact Yx h
theorem z82{ks:List CK}{k:AVal}:∀ {es:List (AVal×AVal)} {r:Option AVal},ze7 ks k es=some r→V9 ks k es=some r
 |[],r,h=>h
 |(k',x)::es,r,h=>by
  unfold ze7 at h
  unfold V9
  split at h<;>try (cases h;done)
  ·rename_i hk;rw[Qx hk];exact h
  ·rename_i hk;rw[Qx hk];exact z82 h
theorem zex{ks:List CK}{k x:AVal}:∀ {es r:List (AVal×AVal)},zr6 ks k x es=some r→zie ks k x es=some r
 |[],r,h=>h
 |(k',y)::es,r,h=>by
  unfold zr6 at h
  unfold zie
  split at h<;>try (cases h;done)
  ·rename_i hk;rw[Qx hk];exact h
  ·rename_i hk
   rw[Qx hk]
   split at h<;>simp only[Option.some.injEq,reduceCtorEq] at h
   rename_i l hl
   subst h
   simp only[zex hl,Option.map_some]
theorem z8t{ks:List CK}{k:AVal}:∀ {es r:List (AVal×AVal)},zed ks k es=some r→z29 ks k es=some r
 |[],r,h=>h
 |(k',y)::es,r,h=>by
  unfold zed at h
  unfold z29
  split at h<;>try (cases h;done)
  ·rename_i hk;rw[Qx hk];exact h
  ·rename_i hk
   rw[Qx hk]
   split at h<;>simp only[Option.some.injEq,reduceCtorEq] at h
   rename_i l hl
   subst h
   simp only[z8t hl,Option.map_some]
theorem zlm{ks:List CK}{ka ag ok:Bool}{zs:List AVal}{k x y:AVal}(h:z3n ks ka ag ok zs H.get k x=some y):XOk (z01 ks ka ag ok zs H k x) y:=by
 unfold z3n at h
 split at h
 ·obtain⟨h1,rfl⟩:=Xg h
  simp only[z01,K9 h1,if_true]
  exact⟨_,rfl,trivial⟩
 ·split at h<;>try (cases h;done)
  rename_i hg
  split at h<;>try (cases h;done)
  rename_i hk
  split at h<;>simp only[Option.some.injEq,reduceCtorEq] at h
  rename_i r hr
  subst h
  simp only[z01,hg,K9 hk,if_true,z82 hr]
  exact⟨_,rfl,rfl⟩
 ·cases h
theorem zrl{x y:AVal}(h:zhf H.get x=some y):XOk (zcr H x) y:=by
 unfold zhf at h
 split at h
 ·simp only[Option.some.injEq] at h;subst h;exact⟨_,rfl,trivial⟩
 ·split at h<;>simp only[Option.some.injEq,reduceCtorEq] at h
  rename_i hg
  subst h
  simp only[zcr,hg]
  exact⟨_,rfl,trivial⟩
 ·cases h
theorem ur{α γ:Type}{x:Option α}{f:α→Option γ}{o:γ}(h:x.bind f=some o):∃r,x=some r∧f r=some o:=by
 cases x with
 |none=>cases h
 |some r=>exact⟨r,rfl,h⟩
theorem z0p{op:LOp}{v:AVal}(h:zcf e.get H.get op=some v):XOk (w5 e H op) v:=by
 cases op<;>simp only[zcf,reduceCtorEq] at h<;>simp only[w5]
 case mv x=>obtain⟨h1,h2⟩:=y5 h;rw[h1];exact⟨_,rfl,h2⟩
 case pick c a b=>
  split at h<;>try (cases h;done)
  ·rename_i hc
   obtain⟨c1,c2⟩:=y5 hc
   obtain⟨a1,a2⟩:=y5 h
   rw[c1]
   subst a1;exact XOk.and (XOk.of rfl ⟨fun _=>a2,fun h=>by cases h⟩) c2
  ·rename_i hc
   obtain⟨c1,c2⟩:=y5 hc
   obtain⟨a1,a2⟩:=y5 h
   rw[c1]
   subst a1;exact XOk.and (XOk.of rfl ⟨fun h=>(by cases h),fun _=>a2⟩) c2
 case build zs parts=>
  obtain⟨ps,h1,h2⟩:=ur h
  obtain⟨p1,p2⟩:=z73 h1
  rw[p1]
  exact(z92 h2).and p2
 case load ag m a=>obtain⟨x,h1,h2⟩:=ur h;obtain⟨p1,p2⟩:=y5 h1;rw[p1];exact(Kf h2).and p2
 case nilck a=>obtain⟨x,h1,h2⟩:=ur h;obtain⟨p1,p2⟩:=y5 h1;rw[p1];exact(zlu h2).and p2
 case bin op x y=>obtain⟨a,h1,h2⟩:=ur h;obtain⟨b,h3,h4⟩:=ur h2;obtain⟨p1,p2⟩:=y5 h1;obtain⟨q1,q2⟩:=y5 h3;rw[p1,q1];exact(ztz h4).and ⟨p2,q2⟩
 case eq neg k x y=>obtain⟨a,h1,h2⟩:=ur h;obtain⟨b,h3,h4⟩:=ur h2;obtain⟨p1,p2⟩:=y5 h1;obtain⟨q1,q2⟩:=y5 h3;rw[p1,q1];exact(zxf h4).and ⟨p2,q2⟩
 case un op x=>obtain⟨a,h1,h2⟩:=ur h;obtain⟨p1,p2⟩:=y5 h1;rw[p1];exact(y16 h2).and p2
 case conv k x=>
  cases k with
  |int k=>
   simp only at h ⊢
   split at h<;>simp only[Option.some.injEq,reduceCtorEq] at h
   rename_i hx
   obtain⟨p1,p2⟩:=y5 hx
   subst h
   simp only[p1]
   exact⟨_,rfl,p2⟩
  |same=>
   simp only at h ⊢
   split at h<;>simp only[Option.some.injEq,reduceCtorEq] at h
   rename_i hx
   obtain⟨p1,p2⟩:=y5 hx
   subst h
   simp only[p1]
   exact⟨_,rfl,p2⟩
  |s2b vm=>cases h
  |b2s=>cases h
 case mkfn f a c=>
  obtain⟨as,h1,h2⟩:=ur h
  obtain⟨cs,h3,h4⟩:=ur h2
  obtain⟨p1,p2⟩:=W1 h1
  obtain⟨q1,q2⟩:=W1 h3
  simp only[Option.some.injEq] at h4
  subst h4
  rw[p1,q1]
  exact⟨_,rfl,p2,q2⟩
 case slStr x lo hi=>obtain⟨a,h1,h2⟩:=ur h;obtain⟨p1,p2⟩:=y5 h1;obtain⟨q1,q2⟩:=zio h2;rw[p1];exact q1.and ⟨p2,q2⟩
 case slSl s x lo hi mx=>obtain⟨a,h1,h2⟩:=ur h;obtain⟨p1,p2⟩:=y5 h1;obtain⟨q1,q2⟩:=zrk h2 (hi.isNone&&mx.isNone);rw[p1];exact q1.and ⟨p2,q2⟩
 case slAr m s x=>obtain⟨a,h1,h2⟩:=ur h;obtain⟨p1,p2⟩:=y5 h1;rw[p1];exact(zra h2).and p2
 case faddr off x=>obtain⟨a,h1,h2⟩:=ur h;obtain⟨p1,p2⟩:=y5 h1;rw[p1];exact(zna h2).and p2
 case field ag m off x=>obtain⟨a,h1,h2⟩:=ur h;obtain⟨p1,p2⟩:=y5 h1;rw[p1];exact(zi4 h2).and p2
 case iaddr s x i=>obtain⟨a,h1,h2⟩:=ur h;obtain⟨b,h3,h4⟩:=ur h2;obtain⟨p1,p2⟩:=y5 h1;obtain⟨q1,q2⟩:=y5 h3;rw[p1,q1];exact(z7i h4).and ⟨p2,q2⟩
 case iaddrA m s x i=>obtain⟨a,h1,h2⟩:=ur h;obtain⟨b,h3,h4⟩:=ur h2;obtain⟨p1,p2⟩:=y5 h1;obtain⟨q1,q2⟩:=y5 h3;rw[p1,q1];exact(zg1 h4).and ⟨p2,q2⟩
 case iaddrR m s x i=>obtain⟨a,h1,h2⟩:=ur h;obtain⟨b,h3,h4⟩:=ur h2;obtain⟨p1,p2⟩:=y5 h1;obtain⟨q1,q2⟩:=y5 h3;rw[p1,q1];exact(zg3 h4).and ⟨p2,q2⟩
 case idxS x i=>obtain⟨a,h1,h2⟩:=ur h;obtain⟨b,h3,h4⟩:=ur h2;obtain⟨p1,p2⟩:=y5 h1;obtain⟨q1,q2⟩:=y5 h3;rw[p1,q1];exact(zrj h4).and ⟨p2,q2⟩
 case idxA m s ag x i=>obtain⟨a,h1,h2⟩:=ur h;obtain⟨b,h3,h4⟩:=ur h2;obtain⟨p1,p2⟩:=y5 h1;obtain⟨q1,q2⟩:=y5 h3;rw[p1,q1];exact(zr4 h4).and ⟨p2,q2⟩
 case ext k x=>obtain⟨a,h1,h2⟩:=ur h;obtain⟨p1,p2⟩:=y5 h1;rw[p1];exact(zxh h2).and p2
 case len st x=>
  cases st with
  |true=>simp only at h ⊢;obtain⟨a,h1,h2⟩:=ur h;obtain⟨p1,p2⟩:=y5 h1;rw[p1];exact(zpv h2).and p2
  |false=>simp only at h ⊢;obtain⟨a,h1,h2⟩:=ur h;obtain⟨p1,p2⟩:=y5 h1;rw[p1];exact(zei h2).and p2
 case mnx m args=>obtain⟨a,h1,h2⟩:=ur h;obtain⟨p1,p2⟩:=W1 h1;rw[p1];exact(zqk h2).and p2
 case mlook ks ka ag ok zs x k=>obtain⟨a,h1,h2⟩:=ur h;obtain⟨b,h3,h4⟩:=ur h2;obtain⟨p1,p2⟩:=y5 h1;obtain⟨q1,q2⟩:=y5 h3;rw[p1,q1];exact(zlm h4).and ⟨p2,q2⟩
 case mlen x=>obtain⟨a,h1,h2⟩:=ur h;obtain⟨p1,p2⟩:=y5 h1;rw[p1];exact(zrl h2).and p2
end Go.Fx
