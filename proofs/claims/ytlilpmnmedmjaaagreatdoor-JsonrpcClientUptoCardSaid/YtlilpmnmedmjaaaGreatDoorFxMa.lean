/-
  Own framework.
-/
import Derived.Test.YtlilpmnmedmjaaaGreatDoorFxD
import Derived.MapKept
namespace Go.Fx
set_option linter.unusedVariables false
variable {P:Program}
section
variable {I:Nat→Nat→Prop} {β:Id→Option CLoc} {n:Nat} {H:AHeap} {w:World} {e:Env} {a:Act}
theorem Yz{ks:List CK}{ka:Bool}{k:AVal}(h:Jb ks ka k=true):uw k=ka∧∃b,yz ks (xv k) (xv k)=some b:=by
 unfold Jb at h
 simp only[Bool.and_eq_true] at h
 refine⟨?_,Option.isSome_iff_exists.1 h.2⟩
 cases ka<;>cases hk:uw k<;>simp[hk] at h ⊢
theorem z2v{ks:List CK}{k k':AVal}{b:Bool}(h:X6 ks k k'=some b):uw k'=uw k∧yz ks (xv k) (xv k')=some b:=by
 unfold X6 at h
 split at h
 ·rename_i h1 h2;exact⟨by rw[h1,h2],h⟩
 ·rename_i h1 h2;exact⟨by rw[h1,h2],h⟩
 ·cases h
theorem X5{k:AVal}{v:Value}(h:Rep I β n w k v):OfCells I β n w (uw k) (xv k) v:=by
 unfold OfCells
 cases k<;>simp[uw,xv,xh]<;>exact h
theorem OfCells.ofI{k:AVal}{v:Value}(h:RepI I w k v):OfCells I β n w (uw k) (xv k) v:=X5 (.imm _ _ h)
theorem Xq(em:Bool):∀ (d:Nat) (t:TypeId) (ks:List CK),Z3 P d t=some ks→∀ (D:Nat),d≤D→∀ {cs:List AVal} {x:Value} {g:Bool},W5 P t=some g→OfCells I β n w g cs x →
 ∀b,yz ks cs cs=some b→(Instr.checkKey em D t x).run P w=.ok () w:=by
 intro d
 induction d with
 |zero=>intro t ks h;simp[Z3] at h
 |succ d ih=>
  intro t ks h D hD cs x g hg hx b hb
  obtain⟨D,rfl⟩:∃D',D=D'+1:=⟨D-1,by omega⟩
  obtain⟨hl1,hl2⟩:=uz hb
  unfold Z3 at h
  split at h
  ·rename_i hu
   unfold Instr.checkKey
   simp only[Sem.run_bind,zf hu,Result.andThen_ok,Sem.run_pure]
  ·rename_i hu
   unfold Instr.checkKey
   simp only[Sem.run_bind,zf hu,Result.andThen_ok,Sem.run_pure]
  ·rename_i hu
   unfold Instr.checkKey
   simp only[Sem.run_bind,zf hu,Result.andThen_ok,Sem.run_pure]
  ·rename_i fs hu
   split at h<;>try (cases h;done)
   rename_i hst
   simp only[W5,hu,Option.some.injEq] at hg
   subst hg
   simp only[OfCells,xh,if_true,List.drop_zero,List.take_length] at hx
   obtain⟨xs,rfl,hx1,hx2,hx3⟩:=hx.agg_inv
   unfold Instr.checkKey
   simp only[Sem.run_bind,zf hu,Result.andThen_ok]
   rw[←Array.forIn_toList]
   have key:∀ (fl:List Field) (off:Nat) (ks:List CK),eqFields P (Z3 P d) off fl=some ks→off≤cs.length→∀b,yz ks (cs.drop off) (cs.drop off)=some b →
    (forIn (m:=Sem) fl PUnit.unit (fun f _=>do
     if f.name≠"_" then do
      let x ←part f.type xs f.offset
      Instr.checkKey em D f.type x
      pure (ForInStep.yield PUnit.unit)
     else pure (ForInStep.yield PUnit.unit))).run P w=.ok PUnit.unit w:=by
    intro fl
    induction fl with
    |nil=>intro off ks h ho b hb;rfl
    |cons f fl ihf=>
     intro off ks h ho b hb
     simp only[eqFields] at h
     split at h<;>try (cases h;done)
     rename_i hcond
     simp only[Bool.or_eq_true,not_or,bne_iff_ne,ne_eq,Decidable.not_not,beq_iff_eq] at hcond
     obtain⟨hname,hoff⟩:=hcond
     split at h<;>try (cases h;done)
     rename_i l g m hl hg hm
     split at h<;>try (cases h;done)
     rename_i hc2
     simp only[Bool.and_eq_true,Bool.or_eq_true,beq_iff_eq] at hc2
     obtain⟨hlm,hgm⟩:=hc2
     simp only[Option.map_eq_some_iff] at h
     obtain⟨ks2,hks2,rfl⟩:=h
     obtain⟨b1,b2,h1,h2,rfl⟩:=Xo hb
     rw[hlm] at h1 h2
     rw[List.drop_drop] at h2
     obtain⟨l1,l2⟩:=uz h1
     simp only[List.length_take,List.length_drop] at l1 l2
     obtain⟨rx,hrx,hRx⟩:=Xb (w:=w) (off:=off) hg hm hgm hx1 hx2 hx3 (by omega)
     have conv:OfCells I β n w g ((cs.drop off).take m) rx:=by
      have hle:off+m≤cs.length:=by omega
      have hlen:((cs.drop off).take m).length=m:=by simp;omega
      unfold OfCells
      rw[hlen]
      cases g with
      |true=>simpa[xh,List.take_take] using hRx
      |false=>
       have hm1:m=1:=by rcases hgm with h|h;cases h;exact h
       subst hm1
       simp only[xh,Bool.false_eq_true,if_false] at hRx ⊢
       have:((cs.drop off).take 1).getD 0 .any=cs.getD off .any:=by
        simp[List.getD_eq_getElem?_getD,List.getElem?_take_of_lt,List.getElem?_drop]
       rw[this];exact hRx
     have hck:=ih f.type l hl D (by omega) hg conv b1 h1
     simp only[List.forIn_cons,Sem.run_bind,ne_eq,hname,not_false_eq_true,if_true,hoff,hrx,Result.andThen_ok,hck,Sem.run_pure]
     simpa using ihf (off+m) ks2 hks2 (by omega) b2 h2
   have:=key fs.toList 0 ks h (Nat.zero_le _) b (by simpa using hb)
   rw[this];rfl
  ·cases h
def EntsAt(I:Nat→Nat→Prop)(β:Id→Option CLoc)(n:Nat)(w:World):List (AVal×AVal)→List MapEntry→Prop
 |[],[]=>True
 |(k,x)::r,m::ms=>RepI I w k m.key∧Rep I β n w x m.val∧EntsAt I β n w r ms
 |_,_=>False
theorem EntsAt.of:∀ {es:List (AVal×AVal)} {l:List MapEntry},l.length=es.length→(∀ (i:Nat) (k x:AVal) (e:MapEntry),es[i]?=some (k,x)→l[i]?=some e→RepI I w k e.key∧Rep I β n w x e.val)→EntsAt I β n w es l
 |[],[],_,_=>trivial
 |[],_::_,h,_=>by simp at h
 |_::_,[],h,_=>by simp at h
 |(k,x)::r,m::ms,h,hr=>by
  obtain⟨h1,h2⟩:=hr 0 k x m rfl rfl
  exact⟨h1,h2,EntsAt.of (by simpa using h) (fun i k x e hi he=>hr (i+1) k x e (by simpa using hi) (by simpa using he))⟩
theorem EntsAt.get:∀ {es:List (AVal×AVal)} {l:List MapEntry},EntsAt I β n w es l→l.length=es.length∧∀ (i:Nat) (k x:AVal) (e:MapEntry),es[i]?=some (k,x)→l[i]?=some e→RepI I w k e.key∧Rep I β n w x e.val
 |[],[],_=>⟨rfl,fun i k x e hi _=>by simp at hi⟩
 |[],_::_,h=>h.elim
 |_::_,[],h=>h.elim
 |(k,x)::r,m::ms,h=>by
  obtain⟨h1,h2,h3⟩:=h
  obtain⟨g1,g2⟩:=EntsAt.get h3
  refine⟨by simp[g1],fun i k' x' e hi he=>?_⟩
  cases i with
  |zero=>simp only[List.getElem?_cons_zero,Option.some.injEq,Prod.mk.injEq] at hi he;obtain⟨rfl,rfl⟩:=hi;subst he;exact⟨h1,h2⟩
  |succ i=>exact g2 i k' x' e (by simpa using hi) (by simpa using he)
def Yt(ks:List CK)(k:AVal):List (AVal×AVal)→Option (Option Nat)
 |[]=>some none
 |(k',_)::r=>match X6 ks k k' with
  |some true=>some (some 0)
  |some false=>(Yt ks k r).map (·.map (·+1))
  |none=>none
theorem z1g{ks:List CK}{k:AVal}:∀ {es:List (AVal×AVal)} {r:Option AVal},V9 ks k es=some r→∃p,Yt ks k es=some p∧(match p,r with|none,none=>True|some i,some x=>∃k',es[i]?=some (k',x)|_,_=>False)
 |[],r,h=>by simp only[V9,Option.some.injEq] at h;subst h;exact⟨none,rfl,trivial⟩
 |(k',x)::t,r,h=>by
  simp only[V9] at h
  simp only[Yt]
  split at h
  ·rename_i hc
   simp only[Option.some.injEq] at h
   subst h
   exact⟨some 0,by simp only[hc],k',rfl⟩
  ·rename_i hc
   obtain⟨p,h1,h2⟩:=z1g h
   simp only[hc,h1,Option.map_some]
   refine⟨_,rfl,?_⟩
   cases p<;>cases r<;>simp only[Option.map_none,Option.map_some] at h2 ⊢
   obtain⟨k2,h2⟩:=h2
   exact⟨k2,by simpa using h2⟩
  ·cases h
theorem zas{α:Type}{l:List α}{j:Nat}{x:α}(h:l[j]?=some x):j<l.length:=by
 rcases Nat.lt_or_ge j l.length with h'|h'
 ·exact h'
 ·rw[List.getElem?_eq_none h'] at h;cases h
theorem zqd{α:Type}{l:List α}{j:Nat}{x:α}(h:l[j]?=some x):j<l.length:=zas h
theorem z2t{cs:List AVal}(h:cs.length=1):∃c,cs=[c]:=List.length_eq_one_iff.1 h
def Zs(l:List MapEntry)(j:Nat)(p:Option Nat):Option (Nat×Value):=p.bind fun i=>(l[i]?).map fun m=>(j+i,m.val)
theorem Up(m:MapEntry)(ms:List MapEntry)(j:Nat)(q:Option Nat):Zs (m::ms) j (q.map (·+1))=Zs ms (j+1) q:=by
 cases q with
 |none=>rfl
 |some i=>simp only[Zs,Option.map_some,Option.bind_some,List.getElem?_cons_succ];congr 1;funext x;rw[show j+(i+1)=j+1+i by omega]
theorem Jz{kt:TypeId}{ks:List CK}{ka:Bool}(hks:Z3 P 50 kt=some ks)(hka:W5 P kt=some ka){k:AVal}{v:Value}(hk:Rep I β n w k v)(hok:Jb ks ka k=true){es:List (AVal×AVal)}{l:List MapEntry}(hl:EntsAt I β n w es l)
 {p:Option Nat} (hp:Yt ks k es=some p) :
 (Instr.findKey kt v l).run P w=.ok (Zs l 0 p) w:=by
 obtain⟨hkag,b0,hb0⟩:=Yz hok
 have hkc:=X5 hk
 rw[hkag] at hkc
 -- the search that asks
 have asks:∀ {es:List (AVal×AVal)} {l:List MapEntry},EntsAt I β n w es l→∀ {p:Option Nat},Yt ks k es=some p→∀j,(Instr.findAsking kt v l j).run P w=.ok (Zs l j p) w:=by
  intro es
  induction es with
  |nil=>
   intro l hl p hp j
   cases l with
   |cons _ _=>exact hl.elim
   |nil=>simp only[Yt,Option.some.injEq] at hp;subst hp;rfl
  |cons x r ih=>
   intro l hl p hp j
   obtain⟨k',y⟩:=x
   cases l with
   |nil=>exact hl.elim
   |cons m ms=>
    obtain⟨h1,h2,h3⟩:=hl
    simp only[Yt] at hp
    cases hce0:X6 ks k k' with
    |none=>rw[hce0] at hp;cases hp
    |some b=>
     obtain⟨hag,hce⟩:=z2v hce0
     have hka':uw k'=ka:=by rw[hag,hkag]
     have hkc':=OfCells.ofI (β:=β) (n:=n) h1
     rw[hka'] at hkc'
     have heq:=z7p 50 kt ks hks Op.maxDepth (by unfold Op.maxDepth;omega) hka hkc hkc' b hce
     rw[hce0] at hp
     simp only[Instr.findAsking,Sem.run_bind]
     unfold Op.equal
     simp only[heq,Result.andThen_ok]
     cases b with
     |true=>
      simp only[Option.some.injEq] at hp
      subst hp
      simp[Zs]
     |false=>
      simp only[Option.map_eq_some_iff] at hp
      obtain⟨q,hq,rfl⟩:=hp
      simp only[Bool.false_eq_true,if_false]
      rw[ih h3 hq (j+1),Up]
 -- the search at once, for numbers, strings, bools
 have now:∀ (kd:TypeDesc),P.underlying kt=some kd→(∀fs,kd≠.struct fs)→∀ {es:List (AVal×AVal)} {l:List MapEntry},EntsAt I β n w es l→∀ {p:Option Nat},Yt ks k es=some p→∀j,
  Instr.findNow kd v l j=some (Zs l j p):=by
  intro kd hkd hns es
  have same:∀ {k':AVal} {u:Value} {b:Bool},uw k'=ka→RepI I w k' u→yz ks (xv k) (xv k')=some b→Instr.sameNow kd v u=some b:=by
   intro k' u b hk' hu hce
   unfold Z3 at hks
   rw[hkd] at hks
   have hkc':=OfCells.ofI (β:=β) (n:=n) hu
   rw[hk'] at hkc'
   obtain⟨hl1,hl2⟩:=uz hce
   split at hks
   ·rename_i heq
    simp only[Option.some.injEq] at heq hks
    subst heq;subst hks
    simp only[W5,hkd,Option.some.injEq] at hka
    subst hka
    obtain⟨c,hc⟩:=z2t hl1
    obtain⟨c',hc'⟩:=z2t hl2
    rw[hc] at hce hkc;rw[hc'] at hce hkc'
    simp only[OfCells,xh,Bool.false_eq_true,if_false,List.getD_cons_zero] at hkc hkc'
    cases c<;>cases c'<;>simp[yz,Q7] at hce
    obtain rfl:=hkc.bool_inv
    obtain rfl:=hkc'.bool_inv
    subst hce
    rfl
   ·rename_i q heq
    simp only[Option.some.injEq] at heq hks
    subst heq;subst hks
    simp only[W5,hkd,Option.some.injEq] at hka
    subst hka
    obtain⟨c,hc⟩:=z2t hl1
    obtain⟨c',hc'⟩:=z2t hl2
    rw[hc] at hce hkc;rw[hc'] at hce hkc'
    simp only[OfCells,xh,Bool.false_eq_true,if_false,List.getD_cons_zero] at hkc hkc'
    cases c<;>cases c'<;>simp[yz,Q7] at hce
    rename_i k1 a1 k2 a2
    obtain rfl:=hkc.int_inv
    obtain rfl:=hkc'.int_inv
    by_cases hkk:k1=k2
    ·subst hkk;simp at hce;subst hce;simp[Instr.sameNow]
    ·simp[hkk] at hce
   ·rename_i heq
    simp only[Option.some.injEq] at heq hks
    subst heq;subst hks
    simp only[W5,hkd,Option.some.injEq] at hka
    subst hka
    obtain⟨c,hc⟩:=z2t hl1
    obtain⟨c',hc'⟩:=z2t hl2
    rw[hc] at hce hkc;rw[hc'] at hce hkc'
    simp only[OfCells,xh,Bool.false_eq_true,if_false,List.getD_cons_zero] at hkc hkc'
    cases c<;>cases c'<;>simp[yz,Q7] at hce
    rename_i s1 s2
    obtain rfl:=hkc.str_inv
    obtain rfl:=hkc'.str_inv
    subst hce
    simp only[Instr.sameNow,Option.some.injEq]
    rw[beq_toListBytes,Qh,Qh]
   ·rename_i fs heq
    simp only[Option.some.injEq] at heq
    exact absurd heq (hns fs)
   ·cases hks
  induction es with
  |nil=>
   intro l hl p hp j
   cases l with
   |cons _ _=>exact hl.elim
   |nil=>simp only[Yt,Option.some.injEq] at hp;subst hp;rfl
  |cons x r ih=>
   intro l hl p hp j
   obtain⟨k',y⟩:=x
   cases l with
   |nil=>exact hl.elim
   |cons m ms=>
    obtain⟨h1,h2,h3⟩:=hl
    simp only[Yt] at hp
    cases hce0:X6 ks k k' with
    |none=>rw[hce0] at hp;cases hp
    |some b=>
     obtain⟨hag,hce⟩:=z2v hce0
     rw[hce0] at hp
     simp only[Instr.findNow,same (by rw[hag,hkag]) h1 hce]
     cases b with
     |true=>simp only[Option.some.injEq] at hp;subst hp;simp[Zs]
     |false=>
      simp only[Option.map_eq_some_iff] at hp
      obtain⟨q,hq,rfl⟩:=hp
      simp only
      rw[ih h3 hq (j+1),Up]
 -- one of the two
 unfold Instr.findKey
 cases hu:P.underlying kt with
 |none=>unfold Z3 at hks;rw[hu] at hks;cases hks
 |some kd=>
  simp only[Sem.run_bind,zf hu,Result.andThen_ok]
  by_cases hs:∃fs,kd=.struct fs
  ·obtain⟨fs,rfl⟩:=hs
   cases hf:Instr.findNow (.struct fs) v l 0 with
   |none=>simpa using asks hl hp 0
   |some r=>
    -- no key is found at once in a struct type, but in the empty map
    cases l with
    |nil=>
     cases es with
     |nil=>
      simp only[Yt,Option.some.injEq] at hp
      subst hp
      simp only[Instr.findNow,Option.some.injEq] at hf
      subst hf
      rfl
     |cons _ _=>exact hl.elim
    |cons m ms=>
     simp[Instr.findNow,Instr.sameNow] at hf
  ·have:=now kd hu (fun fs h=>hs ⟨fs,h⟩) hl hp 0
   rw[this]
   simp
theorem zbt(z:AVal){x:AVal}{v:Value}(h:RepI I w x v):RepI I w (J7 z x) v:=by
 unfold J7
 split
 ·cases h with|val _ _=>exact .islNil _ _
 ·cases h with
  |isl _ _ _ b o cap vf h1 h2 h3 h4 h5 h6 h7=>exact .isl _ _ false b o cap vf h1 h2 (fun h=>by cases h) h4 h5 h6 h7
  |islEmpty _ _ b cap h1=>exact .islEmpty _ _ b cap (fun h=>by cases h)
  |islNil _ _=>exact .islNil _ _
 ·exact h
theorem Wn(z:AVal){x:AVal}{v:Value}(h:Rep I β n w x v):Rep I β n w (J7 z x) v:=by
 unfold J7
 split
 ·rw[h.val_inv];exact .imm _ _ (.islNil _ _)
 ·rename_i s es f
  cases h with
  |imm _ _ h=>
   have:=zbt (I:=I) (w:=w) (.isl 0 [] false) h
   exact .imm _ _ this
 ·exact h
theorem z2s:∀ (zs r:List AVal),(wm zs r).length=r.length∧∀ (j:Nat) (y:AVal),(wm zs r)[j]?=some y→∃x z,r[j]?=some x∧(y=x∨y=J7 z x)
 |[],r=>⟨by simp[wm],fun j y h=>⟨y,y,by simpa[wm] using h,.inl rfl⟩⟩
 |z::zs,[]=>⟨by simp[wm],fun j y h=>by simp[wm] at h⟩
 |z::zs,x::r=>by
  obtain⟨h1,h2⟩:=z2s zs r
  refine⟨by simp[wm,h1],fun j y hy=>?_⟩
  cases j with
  |zero=>simp[wm] at hy;exact⟨x,z,rfl,.inr hy.symm⟩
  |succ j=>simpa using h2 j y (by simpa[wm] using hy)
theorem zo9{et:TypeId}{g:Bool}{zs:List AVal}(hz:wa P et=some zs)(hzg:z5x P et=some g)(hgl:g=true∨zs.length=1):∃v,(zeroValue et).run P w=.ok v w∧Rep I β n w (z5g g zs) v:=by
 obtain⟨v,i,h1,h2,h3,h4,h5⟩:=ui (I:=I) (β:=β) (n:=n) (w:=w) hz
 refine⟨v,h4,?_⟩
 unfold z5x at hzg
 rw[h1] at hzg
 simp only[h2] at hzg
 obtain⟨k1,k2⟩:=h5
 unfold z5g
 cases v with
 |agg vs=>
  simp only[Option.some.injEq] at hzg
  subst hzg
  simp only[if_true]
  obtain⟨q1,q2⟩:=z2s zs zs
  refine .agg _ vs (by rw[q1];simpa[Value.cells] using k1) k2.1 (fun i x u hx hu=>?_)
  obtain⟨x0,z0,h1,h2⟩:=q2 i x hx
  have:=k2.2 i x0 u h1 hu
  rcases h2 with rfl|rfl
  ·exact this
  ·exact Wn z0 this
 |_=>
  simp only[Option.some.injEq] at hzg
  subst hzg
  have hl:zs.length=1:=by rcases hgl with h|h;cases h;exact h
  obtain⟨z,rfl⟩:=z2t hl
  show Rep I β n w (J7 z z) _
  exact Wn z (k2.2 0 z _ rfl rfl)
theorem zml{et:TypeId}(h:y1j P et=true):∃v,(zeroValue et).run P w=.ok v w∧Rep I β n w (z5g false [.val (.slice none 0 0)]) v:=by
 unfold y1j at h
 split at h
 ·rename_i i hi
  split at h
  ·rename_i hz
   refine⟨.slice none 0 0,by simp[zeroValue,typeInfo,hi,hz],?_⟩
   show Rep I β n w (.val (.slice none 0 0)) _
   exact .imm _ _ (.val _ rfl)
  ·cases h
 ·cases h
theorem zgm{et:TypeId}{g vm:Bool}{zs:List AVal}(hz:wa P et=some zs)(hzg:z5x P et=some g)(hgl:g=true∨zs.length=1) :
 ∃v,(zeroValue et).run P w=.ok v w∧Rep I β n w (z5g g (if !vm&&!g&&y1j P et then [.val (.slice none 0 0)] else zs)) v:=by
 split
 ·rename_i hc
  simp only[Bool.and_eq_true,Bool.not_eq_true'] at hc
  obtain⟨⟨_,rfl⟩,h⟩:=hc
  exact zml h
 ·exact zo9 hz hzg hgl
theorem z55{g ok:Bool}{zs:List AVal}{r:Option AVal}{v:Value}(h:Rep I β n w (r.getD (z5g g zs)) v):Rep I β n w (zhg g ok zs r) (if ok then .tuple #[v,.bool r.isSome] else v):=by
 unfold zhg
 cases ok with
 |false=>simpa using h
 |true=>
  simp only[if_true]
  refine .tup _ _ rfl (fun i x u hx hu=>?_)
  match i with
  |0=>simp at hx hu;subst hx;subst hu;exact h
  |1=>simp at hx hu;subst hx;subst hu;exact .imm _ _ (.bool _)
  |i+2=>simp at hx
theorem zjv{es:List (AVal×AVal)}{arr:Array MapEntry}{ck:Nat}(h:MapIn I β n w es arr ck):EntsAt I β n w es arr.toList:=
 EntsAt.of (by simpa using h.len) (fun i k x e hi he=>h.ent i k x e hi (by simpa using he))
theorem zbp{t kt et:TypeId}{ks:List CK}{ka g ok:Bool}{zs:List AVal}(ht:P.underlying t=some (.map kt et))(hks:Z3 P 50 kt=some ks)(hka:W5 P kt=some ka)(hzz:∃v,(zeroValue et).run P w=.ok v w∧Rep I β n w (z5g g zs) v)
 (hI:Inv I β n H w) {x k y:AVal} {v u:Value} (hx:Rep I β n w x v) (hk:Rep I β n w k u) {side:Prop} (h:z01 ks ka g ok zs H k x=.ok side y) (hside:side):∃r,(Instr.lookup t v u ok).run P w=.ok r w∧Rep I β n w y r:=by
 obtain⟨zv,hzr,hzR⟩:=hzz
 unfold z01 at h
 split at h
 ·split at h<;>try (cases h;done)
  rename_i hok
  simp only[XR.ok.injEq] at h
  obtain⟨rfl,rfl⟩:=h
  obtain rfl:=hx.val_inv
  obtain⟨hag,b,hb⟩:=Yz hok
  have hkc:=X5 hk
  rw[hag] at hkc
  have hck:=Xq (P:=P) (w:=w) (I:=I) (β:=β) (n:=n) true 50 kt ks hks 10000 (by omega) hka hkc b hb
  refine⟨_,?_,z55 (r:=none) hzR⟩
  unfold Instr.lookup
  simp only[Sem.run_bind,zf ht,Result.andThen_ok,Sem.run_pure]
  have hf:(Instr.findKey kt u (#[]:Array MapEntry).toList).run P w=.ok none w:=Jz hks hka hk hok (es:=[]) (l:=[]) trivial rfl
  simp only[Array.isEmpty_empty,hck,Result.andThen_ok,hf,Sem.run_bind,hzr,Sem.run_pure]
  cases ok<;>rfl
 ·rename_i b
  split at h<;>try (cases h;done)
  rename_i es hg
  split at h<;>try (cases h;done)
  rename_i hok
  simp only[XR.ok.injEq] at h
  obtain⟨rfl,rfl⟩:=h
  obtain⟨r,hr⟩:=Option.isSome_iff_exists.1 hside
  rw[hr,Option.getD_some]
  obtain⟨c,hc,h1,h2,arr,ck,h3,h4⟩:=hI.blocks b _ hg
  have hv:v=.map (some c.blk):=by
   cases hx with
   |imm _ _ h=>cases h
   |map _ q _ hq=>rw[hq c hc]
  subst hv
  obtain⟨hag,b0,hb0⟩:=Yz hok
  have hkc:=X5 hk
  rw[hag] at hkc
  have hck:=Xq (P:=P) (w:=w) (I:=I) (β:=β) (n:=n) arr.isEmpty 50 kt ks hks 10000 (by omega) hka hkc b0 hb0
  obtain⟨p,hp,hpr⟩:=z1g hr
  have hf:=Jz hks hka hk hok (zjv h4) hp
  have run:∀ (q:Option (Nat×Value)) (vv:Value),(Instr.findKey kt u arr.toList).run P w=.ok q w→(match q with|some (_,v)=>(pure (v,true):Sem (Value×Bool))|none=>do pure (←zeroValue et,false)).run P w=.ok (vv,r.isSome) w →
   (Instr.lookup t (.map (some c.blk)) u ok).run P w=.ok (if ok then .tuple #[vv,.bool r.isSome] else vv) w:=by
   intro q vv h5 h6
   unfold Instr.lookup
   simp only[Sem.run_bind,zf ht,Result.andThen_ok,MapKept.run_getObj_map h3,Sem.run_pure,hck,h5]
   cases q with
   |none=>
    simp only[Sem.run_bind,hzr,Result.andThen_ok,Sem.run_pure,Result.ok.injEq,Prod.mk.injEq,and_true] at h6 ⊢
    obtain⟨rfl,h6⟩:=h6
    rw[←h6]
    try (cases ok<;>simp)
   |some z=>
    obtain⟨zi,zv⟩:=z
    simp only[Sem.run_pure,Result.ok.injEq,Prod.mk.injEq,and_true] at h6 ⊢
    obtain⟨rfl,h6⟩:=h6
    rw[←h6]
    try (cases ok<;>simp)
  cases p with
  |none=>
   cases r with
   |some x=>exact hpr.elim
   |none=>
    refine⟨_,run none zv hf ?_,z55 (r:=none) hzR⟩
    simp only[Sem.run_bind,hzr,Result.andThen_ok,Sem.run_pure]
    rfl
  |some i=>
   cases r with
   |none=>exact hpr.elim
   |some x=>
    obtain⟨k',hk'⟩:=hpr
    have hi:i<arr.size:=by rw[h4.len];exact zqd hk'
    obtain⟨_,g2⟩:=h4.ent i k' x arr[i] hk' (Array.getElem?_eq_getElem hi)
    refine⟨_,run (some (i,arr[i].val)) arr[i].val ?_ ?_,z55 (r:=some x) g2⟩
    ·rw[hf]
     simp[Zs,hi]
    ·simp only[Sem.run_pure];rfl
 ·cases h
theorem zgx{t kt et rt:TypeId}(ht:P.underlying t=some (.map kt et))(hI:Inv I β n H w){x y:AVal}{v:Value}(hx:Rep I β n w x v){side:Prop}(h:zcr H x=.ok side y) :
 ∃r,(Builtin.len_ #[t] rt #[v]).run P w=.ok r w∧Rep I β n w y r:=by
 unfold zcr at h
 split at h
 ·simp only[XR.ok.injEq] at h
  obtain⟨rfl,rfl⟩:=h
  obtain rfl:=hx.val_inv
  refine⟨_,?_,.imm _ _ (.int .i64 0)⟩
  simp[Builtin.len_,zf ht,goInt]
 ·rename_i b
  split at h<;>try (cases h;done)
  rename_i es hg
  simp only[XR.ok.injEq] at h
  obtain⟨rfl,rfl⟩:=h
  obtain⟨c,hc,h1,h2,arr,ck,h3,h4⟩:=hI.blocks b _ hg
  have hv:v=.map (some c.blk):=by
   cases hx with
   |imm _ _ h=>cases h
   |map _ q _ hq=>rw[hq c hc]
  subst hv
  refine⟨.int .i64 (arr.size:Int),?_,by rw[h4.len];exact .imm _ _ (.int .i64 _)⟩
  simp[Builtin.len_,zf ht,goInt,MapKept.run_getObj_map h3]
 ·cases h
end
end Go.Fx
