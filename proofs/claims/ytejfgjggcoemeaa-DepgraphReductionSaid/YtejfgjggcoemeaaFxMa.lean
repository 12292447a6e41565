/-
  Own framework.
-/
import Derived.Test.YtejfgjggcoemeaaFxD
import Derived.MapKept
namespace Go.Fx
set_option linter.unusedVariables false
variable {P:Program}
section
variable {I:Nat→Nat→Prop} {β:Id→Option CLoc} {n:Nat} {H:AHeap} {w:World} {e:Env} {a:Act}
theorem Zs{ks:List CK}{ka:Bool}{k:AVal}(h:J5 ks ka k=true):ul k=ka∧∃b,qc ks (w7 k) (w7 k)=some b:=by
 unfold J5 at h
 simp only[Bool.and_eq_true] at h
 refine⟨?_,Option.isSome_iff_exists.1 h.2⟩
 cases ka<;>cases hk:ul k<;>simp[hk] at h ⊢
theorem Ub{ks:List CK}{k k':AVal}{b:Bool}(h:Y6 ks k k'=some b):ul k'=ul k∧qc ks (w7 k) (w7 k')=some b:=by
 unfold Y6 at h
 split at h
 ·rename_i h1 h2;exact⟨by rw[h1,h2],h⟩
 ·rename_i h1 h2;exact⟨by rw[h1,h2],h⟩
 ·cases h
theorem Yl{k:AVal}{v:Value}(h:Rep I β n w k v):OfCells I β n w (ul k) (w7 k) v:=by
 unfold OfCells
 cases k<;>simp[ul,w7,j4]<;>exact h
theorem OfCells.ofI{k:AVal}{v:Value}(h:RepI I w k v):OfCells I β n w (ul k) (w7 k) v:=Yl (.imm _ _ h)
theorem Yr(em:Bool):∀ (d:Nat) (t:TypeId) (ks:List CK),u6 P d t=some ks→∀ (D:Nat),d≤D→∀ {cs:List AVal} {x:Value} {g:Bool},Xc P t=some g→OfCells I β n w g cs x →
 ∀b,qc ks cs cs=some b→(Instr.checkKey em D t x).run P w=.ok () w:=by
 intro d
 induction d with
 |zero=>intro t ks h;simp[u6] at h
 |succ d ih=>
  intro t ks h D hD cs x g hg hx b hb
  obtain⟨D,rfl⟩:∃D',D=D'+1:=⟨D-1,by omega⟩
  obtain⟨hl1,hl2⟩:=kx hb
  unfold u6 at h
  split at h
  ·rename_i hu
   unfold Instr.checkKey
   simp only[Sem.run_bind,ze hu,Result.andThen_ok,Sem.run_pure]
  ·rename_i hu
   unfold Instr.checkKey
   simp only[Sem.run_bind,ze hu,Result.andThen_ok,Sem.run_pure]
  ·rename_i hu
   unfold Instr.checkKey
   simp only[Sem.run_bind,ze hu,Result.andThen_ok,Sem.run_pure]
  ·rename_i fs hu
   split at h<;>try (cases h;done)
   rename_i hst
   simp only[Xc,hu,Option.some.injEq] at hg
   subst hg
   simp only[OfCells,j4,if_true,List.drop_zero,List.take_length] at hx
   obtain⟨xs,rfl,hx1,hx2,hx3⟩:=hx.agg_inv
   unfold Instr.checkKey
   simp only[Sem.run_bind,ze hu,Result.andThen_ok]
   rw[←Array.forIn_toList]
   have key:∀ (fl:List Field) (off:Nat) (ks:List CK),eqFields P (u6 P d) off fl=some ks→off≤cs.length→∀b,qc ks (cs.drop off) (cs.drop off)=some b →
    (forIn (m:=Sem) fl PUnit.unit (fun f _=>do
     if f.name≠"_" then do
      let x ←part f.type xs f.offset
      Instr.checkKey em D f.type x
      pure (ForInStep.yield PUnit.unit)
     else pure (ForInStep.yield PUnit.unit))).run P w=.ok PUnit.unit w:=by
    intro fl
    induction fl with
    |nil=>intro off ks h ho b hb;rfl
    |cons f fl ihf=>
     intro off ks h ho b hb
     simp only[eqFields] at h
     split at h<;>try (cases h;done)
     rename_i hcond
     simp only[Bool.or_eq_true,not_or,bne_iff_ne,ne_eq,Decidable.not_not,beq_iff_eq] at hcond
     obtain⟨hname,hoff⟩:=hcond
     split at h<;>try (cases h;done)
     rename_i l g m hl hg hm
     split at h<;>try (cases h;done)
     rename_i hc2
     simp only[Bool.and_eq_true,Bool.or_eq_true,beq_iff_eq] at hc2
     obtain⟨hlm,hgm⟩:=hc2
     simp only[Option.map_eq_some_iff] at h
     obtain⟨ks2,hks2,rfl⟩:=h
     obtain⟨b1,b2,h1,h2,rfl⟩:=Q8 hb
     rw[hlm] at h1 h2
     rw[List.drop_drop] at h2
     obtain⟨l1,l2⟩:=kx h1
     simp only[List.length_take,List.length_drop] at l1 l2
     obtain⟨rx,hrx,hRx⟩:=Yk (w:=w) (off:=off) hg hm hgm hx1 hx2 hx3 (by omega)
     have conv:OfCells I β n w g ((cs.drop off).take m) rx:=by
      have hle:off+m≤cs.length:=by omega
      have hlen:((cs.drop off).take m).length=m:=by simp;omega
      unfold OfCells
      rw[hlen]
      cases g with
      |true=>simpa[j4,List.take_take] using hRx
      |false=>
       have hm1:m=1:=by rcases hgm with h|h;cases h;exact h
       subst hm1
       simp only[j4,Bool.false_eq_true,if_false] at hRx ⊢
       have:((cs.drop off).take 1).getD 0 .any=cs.getD off .any:=by
        simp[List.getD_eq_getElem?_getD,List.getElem?_take_of_lt,List.getElem?_drop]
       rw[this];exact hRx
     have hck:=ih f.type l hl D (by omega) hg conv b1 h1
     simp only[List.forIn_cons,Sem.run_bind,ne_eq,hname,not_false_eq_true,if_true,hoff,hrx,Result.andThen_ok,hck,Sem.run_pure]
     simpa using ihf (off+m) ks2 hks2 (by omega) b2 h2
   have:=key fs.toList 0 ks h (Nat.zero_le _) b (by simpa using hb)
   rw[this];rfl
  ·cases h
def EntsAt(I:Nat→Nat→Prop)(β:Id→Option CLoc)(n:Nat)(w:World):List (AVal×AVal)→List MapEntry→Prop
 |[],[]=>True
 |(k,x)::r,m::ms=>RepI I w k m.key∧Rep I β n w x m.val∧EntsAt I β n w r ms
 |_,_=>False
theorem EntsAt.of:∀ {es:List (AVal×AVal)} {l:List MapEntry},l.length=es.length→(∀ (i:Nat) (k x:AVal) (e:MapEntry),es[i]?=some (k,x)→l[i]?=some e→RepI I w k e.key∧Rep I β n w x e.val)→EntsAt I β n w es l
 |[],[],_,_=>trivial
 |[],_::_,h,_=>by simp at h
 |_::_,[],h,_=>by simp at h
 |(k,x)::r,m::ms,h,hr=>by
  obtain⟨h1,h2⟩:=hr 0 k x m rfl rfl
  exact⟨h1,h2,EntsAt.of (by simpa using h) (fun i k x e hi he=>hr (i+1) k x e (by simpa using hi) (by simpa using he))⟩
theorem EntsAt.get:∀ {es:List (AVal×AVal)} {l:List MapEntry},EntsAt I β n w es l→l.length=es.length∧∀ (i:Nat) (k x:AVal) (e:MapEntry),es[i]?=some (k,x)→l[i]?=some e→RepI I w k e.key∧Rep I β n w x e.val
 |[],[],_=>⟨rfl,fun i k x e hi _=>by simp at hi⟩
 |[],_::_,h=>h.elim
 |_::_,[],h=>h.elim
 |(k,x)::r,m::ms,h=>by
  obtain⟨h1,h2,h3⟩:=h
  obtain⟨g1,g2⟩:=EntsAt.get h3
  refine⟨by simp[g1],fun i k' x' e hi he=>?_⟩
  cases i with
  |zero=>simp only[List.getElem?_cons_zero,Option.some.injEq,Prod.mk.injEq] at hi he;obtain⟨rfl,rfl⟩:=hi;subst he;exact⟨h1,h2⟩
  |succ i=>exact g2 i k' x' e (by simpa using hi) (by simpa using he)
def Zo(ks:List CK)(k:AVal):List (AVal×AVal)→Option (Option Nat)
 |[]=>some none
 |(k',_)::r=>match Y6 ks k k' with
  |some true=>some (some 0)
  |some false=>(Zo ks k r).map (·.map (·+1))
  |none=>none
theorem Ud{ks:List CK}{k:AVal}:∀ {es:List (AVal×AVal)} {r:Option AVal},Yg ks k es=some r→∃p,Zo ks k es=some p∧(match p,r with|none,none=>True|some i,some x=>∃k',es[i]?=some (k',x)|_,_=>False)
 |[],r,h=>by simp only[Yg,Option.some.injEq] at h;subst h;exact⟨none,rfl,trivial⟩
 |(k',x)::t,r,h=>by
  simp only[Yg] at h
  simp only[Zo]
  split at h
  ·rename_i hc
   simp only[Option.some.injEq] at h
   subst h
   exact⟨some 0,by simp only[hc],k',rfl⟩
  ·rename_i hc
   obtain⟨p,h1,h2⟩:=Ud h
   simp only[hc,h1,Option.map_some]
   refine⟨_,rfl,?_⟩
   cases p<;>cases r<;>simp only[Option.map_none,Option.map_some] at h2 ⊢
   obtain⟨k2,h2⟩:=h2
   exact⟨k2,by simpa using h2⟩
  ·cases h
theorem Uy{α:Type}{l:List α}{j:Nat}{x:α}(h:l[j]?=some x):j<l.length:=by
 rcases Nat.lt_or_ge j l.length with h'|h'
 ·exact h'
 ·rw[List.getElem?_eq_none h'] at h;cases h
theorem zjh{α:Type}{l:List α}{j:Nat}{x:α}(h:l[j]?=some x):j<l.length:=Uy h
theorem Ue{cs:List AVal}(h:cs.length=1):∃c,cs=[c]:=List.length_eq_one_iff.1 h
def ur(l:List MapEntry)(j:Nat)(p:Option Nat):Option (Nat×Value):=p.bind fun i=>(l[i]?).map fun m=>(j+i,m.val)
theorem V6(m:MapEntry)(ms:List MapEntry)(j:Nat)(q:Option Nat):ur (m::ms) j (q.map (·+1))=ur ms (j+1) q:=by
 cases q with
 |none=>rfl
 |some i=>simp only[ur,Option.map_some,Option.bind_some,List.getElem?_cons_succ];congr 1;funext x;rw[show j+(i+1)=j+1+i by omega]
theorem Xd{kt:TypeId}{ks:List CK}{ka:Bool}(hks:u6 P 50 kt=some ks)(hka:Xc P kt=some ka){k:AVal}{v:Value}(hk:Rep I β n w k v)(hok:J5 ks ka k=true){es:List (AVal×AVal)}{l:List MapEntry}(hl:EntsAt I β n w es l)
 {p:Option Nat} (hp:Zo ks k es=some p) :
 (Instr.findKey kt v l).run P w=.ok (ur l 0 p) w:=by
 obtain⟨hkag,b0,hb0⟩:=Zs hok
 have hkc:=Yl hk
 rw[hkag] at hkc
 -- the search that asks
 have asks:∀ {es:List (AVal×AVal)} {l:List MapEntry},EntsAt I β n w es l→∀ {p:Option Nat},Zo ks k es=some p→∀j,(Instr.findAsking kt v l j).run P w=.ok (ur l j p) w:=by
  intro es
  induction es with
  |nil=>
   intro l hl p hp j
   cases l with
   |cons _ _=>exact hl.elim
   |nil=>simp only[Zo,Option.some.injEq] at hp;subst hp;rfl
  |cons x r ih=>
   intro l hl p hp j
   obtain⟨k',y⟩:=x
   cases l with
   |nil=>exact hl.elim
   |cons m ms=>
    obtain⟨h1,h2,h3⟩:=hl
    simp only[Zo] at hp
    cases hce0:Y6 ks k k' with
    |none=>rw[hce0] at hp;cases hp
    |some b=>
     obtain⟨hag,hce⟩:=Ub hce0
     have hka':ul k'=ka:=by rw[hag,hkag]
     have hkc':=OfCells.ofI (β:=β) (n:=n) h1
     rw[hka'] at hkc'
     have heq:=z5d 50 kt ks hks Op.maxDepth (by unfold Op.maxDepth;omega) hka hkc hkc' b hce
     rw[hce0] at hp
     simp only[Instr.findAsking,Sem.run_bind]
     unfold Op.equal
     simp only[heq,Result.andThen_ok]
     cases b with
     |true=>
      simp only[Option.some.injEq] at hp
      subst hp
      simp[ur]
     |false=>
      simp only[Option.map_eq_some_iff] at hp
      obtain⟨q,hq,rfl⟩:=hp
      simp only[Bool.false_eq_true,if_false]
      rw[ih h3 hq (j+1),V6]
 -- the search at once, for numbers, strings, bools
 have now:∀ (kd:TypeDesc),P.underlying kt=some kd→(∀fs,kd≠.struct fs)→∀ {es:List (AVal×AVal)} {l:List MapEntry},EntsAt I β n w es l→∀ {p:Option Nat},Zo ks k es=some p→∀j,
  Instr.findNow kd v l j=some (ur l j p):=by
  intro kd hkd hns es
  have same:∀ {k':AVal} {u:Value} {b:Bool},ul k'=ka→RepI I w k' u→qc ks (w7 k) (w7 k')=some b→Instr.sameNow kd v u=some b:=by
   intro k' u b hk' hu hce
   unfold u6 at hks
   rw[hkd] at hks
   have hkc':=OfCells.ofI (β:=β) (n:=n) hu
   rw[hk'] at hkc'
   obtain⟨hl1,hl2⟩:=kx hce
   split at hks
   ·rename_i heq
    simp only[Option.some.injEq] at heq hks
    subst heq;subst hks
    simp only[Xc,hkd,Option.some.injEq] at hka
    subst hka
    obtain⟨c,hc⟩:=Ue hl1
    obtain⟨c',hc'⟩:=Ue hl2
    rw[hc] at hce hkc;rw[hc'] at hce hkc'
    simp only[OfCells,j4,Bool.false_eq_true,if_false,List.getD_cons_zero] at hkc hkc'
    cases c<;>cases c'<;>simp[qc,Xo] at hce
    obtain rfl:=hkc.bool_inv
    obtain rfl:=hkc'.bool_inv
    subst hce
    rfl
   ·rename_i q heq
    simp only[Option.some.injEq] at heq hks
    subst heq;subst hks
    simp only[Xc,hkd,Option.some.injEq] at hka
    subst hka
    obtain⟨c,hc⟩:=Ue hl1
    obtain⟨c',hc'⟩:=Ue hl2
    rw[hc] at hce hkc;rw[hc'] at hce hkc'
    simp only[OfCells,j4,Bool.false_eq_true,if_false,List.getD_cons_zero] at hkc hkc'
    cases c<;>cases c'<;>simp[qc,Xo] at hce
    rename_i k1 a1 k2 a2
    obtain rfl:=hkc.int_inv
    obtain rfl:=hkc'.int_inv
    by_cases hkk:k1=k2
    ·subst hkk;simp at hce;subst hce;simp[Instr.sameNow]
    ·simp[hkk] at hce
   ·rename_i heq
    simp only[Option.some.injEq] at heq hks
    subst heq;subst hks
    simp only[Xc,hkd,Option.some.injEq] at hka
    subst hka
    obtain⟨c,hc⟩:=Ue hl1
    obtain⟨c',hc'⟩:=Ue hl2
    rw[hc] at hce hkc;rw[hc'] at hce hkc'
    simp only[OfCells,j4,Bool.false_eq_true,if_false,List.getD_cons_zero] at hkc hkc'
    cases c<;>cases c'<;>simp[qc,Xo] at hce
    rename_i s1 s2
    obtain rfl:=hkc.str_inv
    obtain rfl:=hkc'.str_inv
    subst hce
    simp only[Instr.sameNow,Option.some.injEq]
    rw[beq_toListBytes,Y0,Y0]
   ·rename_i fs heq
    simp only[Option.some.injEq] at heq
    exact absurd heq (hns fs)
   ·cases hks
  induction es with
  |nil=>
   intro l hl p hp j
   cases l with
   |cons _ _=>exact hl.elim
   |nil=>simp only[Zo,Option.some.injEq] at hp;subst hp;rfl
  |cons x r ih=>
   intro l hl p hp j
   obtain⟨k',y⟩:=x
   cases l with
   |nil=>exact hl.elim
   |cons m ms=>
    obtain⟨h1,h2,h3⟩:=hl
    simp only[Zo] at hp
    cases hce0:Y6 ks k k' with
    |none=>rw[hce0] at hp;cases hp
    |some b=>
     obtain⟨hag,hce⟩:=Ub hce0
     rw[hce0] at hp
     simp only[Instr.findNow,same (by rw[hag,hkag]) h1 hce]
     cases b with
     |true=>simp only[Option.some.injEq] at hp;subst hp;simp[ur]
     |false=>
      simp only[Option.map_eq_some_iff] at hp
      obtain⟨q,hq,rfl⟩:=hp
      simp only
      rw[ih h3 hq (j+1),V6]
 -- one of the two
 unfold Instr.findKey
 cases hu:P.underlying kt with
 |none=>unfold u6 at hks;rw[hu] at hks;cases hks
 |some kd=>
  simp only[Sem.run_bind,ze hu,Result.andThen_ok]
  by_cases hs:∃fs,kd=.struct fs
  ·obtain⟨fs,rfl⟩:=hs
   cases hf:Instr.findNow (.struct fs) v l 0 with
   |none=>simpa using asks hl hp 0
   |some r=>
    -- no key is found at once in a struct type, but in the empty map
    cases l with
    |nil=>
     cases es with
     |nil=>
      simp only[Zo,Option.some.injEq] at hp
      subst hp
      simp only[Instr.findNow,Option.some.injEq] at hf
      subst hf
      rfl
     |cons _ _=>exact hl.elim
    |cons m ms=>
     simp[Instr.findNow,Instr.sameNow] at hf
  ·have:=now kd hu (fun fs h=>hs ⟨fs,h⟩) hl hp 0
   rw[this]
   simp
theorem z6k(z:AVal){x:AVal}{v:Value}(h:RepI I w x v):RepI I w (Qg z x) v:=by
 unfold Qg
 split
 ·cases h with|val _ _=>exact .islNil _ _
 ·cases h with
  |isl _ _ _ b o cap vf h1 h2 h3 h4 h5 h6 h7=>exact .isl _ _ false b o cap vf h1 h2 (fun h=>by cases h) h4 h5 h6 h7
  |islEmpty _ _ b cap h1=>exact .islEmpty _ _ b cap (fun h=>by cases h)
  |islNil _ _=>exact .islNil _ _
 ·exact h
theorem J9(z:AVal){x:AVal}{v:Value}(h:Rep I β n w x v):Rep I β n w (Qg z x) v:=by
 unfold Qg
 split
 ·rw[h.val_inv];exact .imm _ _ (.islNil _ _)
 ·rename_i s es f
  cases h with
  |imm _ _ h=>
   have:=z6k (I:=I) (w:=w) (.isl 0 [] false) h
   exact .imm _ _ this
 ·exact h
theorem Uw:∀ (zs r:List AVal),(wg zs r).length=r.length∧∀ (j:Nat) (y:AVal),(wg zs r)[j]?=some y→∃x z,r[j]?=some x∧(y=x∨y=Qg z x)
 |[],r=>⟨by simp[wg],fun j y h=>⟨y,y,by simpa[wg] using h,.inl rfl⟩⟩
 |z::zs,[]=>⟨by simp[wg],fun j y h=>by simp[wg] at h⟩
 |z::zs,x::r=>by
  obtain⟨h1,h2⟩:=Uw zs r
  refine⟨by simp[wg,h1],fun j y hy=>?_⟩
  cases j with
  |zero=>simp[wg] at hy;exact⟨x,z,rfl,.inr hy.symm⟩
  |succ j=>simpa using h2 j y (by simpa[wg] using hy)
theorem zhm{et:TypeId}{g:Bool}{zs:List AVal}(hz:jx P et=some zs)(hzg:z1q P et=some g)(hgl:g=true∨zs.length=1):∃v,(zeroValue et).run P w=.ok v w∧Rep I β n w (z2s g zs) v:=by
 obtain⟨v,i,h1,h2,h3,h4,h5⟩:=vu (I:=I) (β:=β) (n:=n) (w:=w) hz
 refine⟨v,h4,?_⟩
 unfold z1q at hzg
 rw[h1] at hzg
 simp only[h2] at hzg
 obtain⟨k1,k2⟩:=h5
 unfold z2s
 cases v with
 |agg vs=>
  simp only[Option.some.injEq] at hzg
  subst hzg
  simp only[if_true]
  obtain⟨q1,q2⟩:=Uw zs zs
  refine .agg _ vs (by rw[q1];simpa[Value.cells] using k1) k2.1 (fun i x u hx hu=>?_)
  obtain⟨x0,z0,h1,h2⟩:=q2 i x hx
  have:=k2.2 i x0 u h1 hu
  rcases h2 with rfl|rfl
  ·exact this
  ·exact J9 z0 this
 |_=>
  simp only[Option.some.injEq] at hzg
  subst hzg
  have hl:zs.length=1:=by rcases hgl with h|h;cases h;exact h
  obtain⟨z,rfl⟩:=Ue hl
  show Rep I β n w (Qg z z) _
  exact J9 z (k2.2 0 z _ rfl rfl)
theorem zf3{et:TypeId}(h:zsk P et=true):∃v,(zeroValue et).run P w=.ok v w∧Rep I β n w (z2s false [.val (.slice none 0 0)]) v:=by
 unfold zsk at h
 split at h
 ·rename_i i hi
  split at h
  ·rename_i hz
   refine⟨.slice none 0 0,by simp[zeroValue,typeInfo,hi,hz],?_⟩
   show Rep I β n w (.val (.slice none 0 0)) _
   exact .imm _ _ (.val _ rfl)
  ·cases h
 ·cases h
theorem zbp{et:TypeId}{g vm:Bool}{zs:List AVal}(hz:jx P et=some zs)(hzg:z1q P et=some g)(hgl:g=true∨zs.length=1) :
 ∃v,(zeroValue et).run P w=.ok v w∧Rep I β n w (z2s g (if !vm&&!g&&zsk P et then [.val (.slice none 0 0)] else zs)) v:=by
 split
 ·rename_i hc
  simp only[Bool.and_eq_true,Bool.not_eq_true'] at hc
  obtain⟨⟨_,rfl⟩,h⟩:=hc
  exact zf3 h
 ·exact zhm hz hzg hgl
theorem z2a{g ok:Bool}{zs:List AVal}{r:Option AVal}{v:Value}(h:Rep I β n w (r.getD (z2s g zs)) v):Rep I β n w (zj2 g ok zs r) (if ok then .tuple #[v,.bool r.isSome] else v):=by
 unfold zj2
 cases ok with
 |false=>simpa using h
 |true=>
  simp only[if_true]
  refine .tup _ _ rfl (fun i x u hx hu=>?_)
  match i with
  |0=>simp at hx hu;subst hx;subst hu;exact h
  |1=>simp at hx hu;subst hx;subst hu;exact .imm _ _ (.bool _)
  |i+2=>simp at hx
theorem zd0{es:List (AVal×AVal)}{arr:Array MapEntry}{ck:Nat}(h:MapIn I β n w es arr ck):EntsAt I β n w es arr.toList:=
 EntsAt.of (by simpa using h.len) (fun i k x e hi he=>h.ent i k x e hi (by simpa using he))
theorem z6t{t kt et:TypeId}{ks:List CK}{ka g ok:Bool}{zs:List AVal}(ht:P.underlying t=some (.map kt et))(hks:u6 P 50 kt=some ks)(hka:Xc P kt=some ka)(hzz:∃v,(zeroValue et).run P w=.ok v w∧Rep I β n w (z2s g zs) v)
 (hI:Inv I β n H w) {x k y:AVal} {v u:Value} (hx:Rep I β n w x v) (hk:Rep I β n w k u) {side:Prop} (h:z4z ks ka g ok zs H k x=.ok side y) (hside:side):∃r,(Instr.lookup t v u ok).run P w=.ok r w∧Rep I β n w y r:=by
 obtain⟨zv,hzr,hzR⟩:=hzz
 unfold z4z at h
 split at h
 ·split at h<;>try (cases h;done)
  rename_i hok
  simp only[XR.ok.injEq] at h
  obtain⟨rfl,rfl⟩:=h
  obtain rfl:=hx.val_inv
  obtain⟨hag,b,hb⟩:=Zs hok
  have hkc:=Yl hk
  rw[hag] at hkc
  have hck:=Yr (P:=P) (w:=w) (I:=I) (β:=β) (n:=n) true 50 kt ks hks 10000 (by omega) hka hkc b hb
  refine⟨_,?_,z2a (r:=none) hzR⟩
  unfold Instr.lookup
  simp only[Sem.run_bind,ze ht,Result.andThen_ok,Sem.run_pure]
  have hf:(Instr.findKey kt u (#[]:Array MapEntry).toList).run P w=.ok none w:=Xd hks hka hk hok (es:=[]) (l:=[]) trivial rfl
  simp only[Array.isEmpty_empty,hck,Result.andThen_ok,hf,Sem.run_bind,hzr,Sem.run_pure]
  cases ok<;>rfl
 ·rename_i b
  split at h<;>try (cases h;done)
  rename_i es hg
  split at h<;>try (cases h;done)
  rename_i hok
  simp only[XR.ok.injEq] at h
  obtain⟨rfl,rfl⟩:=h
  obtain⟨r,hr⟩:=Option.isSome_iff_exists.1 hside
  rw[hr,Option.getD_some]
  obtain⟨c,hc,h1,h2,arr,ck,h3,h4⟩:=hI.blocks b _ hg
  have hv:v=.map (some c.blk):=by
   cases hx with
   |imm _ _ h=>cases h
   |map _ q _ hq=>rw[hq c hc]
  subst hv
  obtain⟨hag,b0,hb0⟩:=Zs hok
  have hkc:=Yl hk
  rw[hag] at hkc
  have hck:=Yr (P:=P) (w:=w) (I:=I) (β:=β) (n:=n) arr.isEmpty 50 kt ks hks 10000 (by omega) hka hkc b0 hb0
  obtain⟨p,hp,hpr⟩:=Ud hr
  have hf:=Xd hks hka hk hok (zd0 h4) hp
  have run:∀ (q:Option (Nat×Value)) (vv:Value),(Instr.findKey kt u arr.toList).run P w=.ok q w→(match q with|some (_,v)=>(pure (v,true):Sem (Value×Bool))|none=>do pure (←zeroValue et,false)).run P w=.ok (vv,r.isSome) w →
   (Instr.lookup t (.map (some c.blk)) u ok).run P w=.ok (if ok then .tuple #[vv,.bool r.isSome] else vv) w:=by
   intro q vv h5 h6
   unfold Instr.lookup
   simp only[Sem.run_bind,ze ht,Result.andThen_ok,MapKept.run_getObj_map h3,Sem.run_pure,hck,h5]
   cases q with
   |none=>
    simp only[Sem.run_bind,hzr,Result.andThen_ok,Sem.run_pure,Result.ok.injEq,Prod.mk.injEq,and_true] at h6 ⊢
    obtain⟨rfl,h6⟩:=h6
    rw[←h6]
    try (cases ok<;>simp)
   |some z=>
    obtain⟨zi,zv⟩:=z
    simp only[Sem.run_pure,Result.ok.injEq,Prod.mk.injEq,and_true] at h6 ⊢
    obtain⟨rfl,h6⟩:=h6
    rw[←h6]
    try (cases ok<;>simp)
  cases p with
  |none=>
   cases r with
   |some x=>exact hpr.elim
   |none=>
    refine⟨_,run none zv hf ?_,z2a (r:=none) hzR⟩
    simp only[Sem.run_bind,hzr,Result.andThen_ok,Sem.run_pure]
    rfl
  |some i=>
   cases r with
   |none=>exact hpr.elim
   |some x=>
    obtain⟨k',hk'⟩:=hpr
    have hi:i<arr.size:=by rw[h4.len];exact zjh hk'
    obtain⟨_,g2⟩:=h4.ent i k' x arr[i] hk' (Array.getElem?_eq_getElem hi)
    refine⟨_,run (some (i,arr[i].val)) arr[i].val ?_ ?_,z2a (r:=some x) g2⟩
    ·rw[hf]
     simp[ur,hi]
    ·simp only[Sem.run_pure];rfl
 ·cases h
theorem zbz{t kt et rt:TypeId}(ht:P.underlying t=some (.map kt et))(hI:Inv I β n H w){x y:AVal}{v:Value}(hx:Rep I β n w x v){side:Prop}(h:zfp H x=.ok side y) :
 ∃r,(Builtin.len_ #[t] rt #[v]).run P w=.ok r w∧Rep I β n w y r:=by
 unfold zfp at h
 split at h
 ·simp only[XR.ok.injEq] at h
  obtain⟨rfl,rfl⟩:=h
  obtain rfl:=hx.val_inv
  refine⟨_,?_,.imm _ _ (.int .i64 0)⟩
  simp[Builtin.len_,ze ht,goInt]
 ·rename_i b
  split at h<;>try (cases h;done)
  rename_i es hg
  simp only[XR.ok.injEq] at h
  obtain⟨rfl,rfl⟩:=h
  obtain⟨c,hc,h1,h2,arr,ck,h3,h4⟩:=hI.blocks b _ hg
  have hv:v=.map (some c.blk):=by
   cases hx with
   |imm _ _ h=>cases h
   |map _ q _ hq=>rw[hq c hc]
  subst hv
  refine⟨.int .i64 (arr.size:Int),?_,by rw[h4.len];exact .imm _ _ (.int .i64 _)⟩
  simp[Builtin.len_,ze ht,goInt,MapKept.run_getObj_map h3]
 ·cases h
end
end Go.Fx
