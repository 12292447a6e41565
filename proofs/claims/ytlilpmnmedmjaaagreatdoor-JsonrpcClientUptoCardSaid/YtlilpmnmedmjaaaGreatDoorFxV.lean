/-
  Own framework.
-/
import Derived.Test.YtlilpmnmedmjaaaGreatDoorFxK
namespace Go.Fx
set_option linter.unusedVariables false
variable {P:Program}
theorem zhd{e:Env}{H H':AHeap}{op:LOp}(h:Zc op=false):w5 e H op=w5 e H' op:=by
 cases op<;>first|rfl|(rename_i k x;cases k<;>rfl)|(simp[Zc] at h)
theorem Kr{e:Env}{H H':AHeap}{lo:LOper}(h:Zc lo.op=false):Xp e H lo=Xp e H' lo:=by
 unfold Xp;rw[zhd (H:=H) (H':=H') h]
section
variable {I:Nat→Nat→Prop} {β:Id→Option CLoc} {N:Lay} {n:Nat} {H:AHeap} {w:World} {e:Env} {a:Act}
theorem zfw{ro:Option Nat}{ops:Array Oper}{QQ:Exit→Act→World→Prop}{K:Act→World→Prop}{i:Nat}{o:Oper}{lo:LOper}(ho:ops[i]?=some o)(hlo:Yy P N ops o=some lo){v:AVal}(hv:(Xp e H lo).gives v)
 (hI:Inv I β n H w) (hE:RepEnv I β n w e a) (hN:a.tmps.size=N.n) (hK:∀r,Rep I β n w v r→K (a.put o.dst r) w):wpOpIn (z0h ro) 0 P ops QQ i K a w:=by
 obtain⟨hd,hdst,hop,hg⟩:=uh hlo
 unfold wpOpIn
 simp only[ho]
 have pure:∀ {side:Prop} {u:AVal},w5 e H lo.op=.ok side u→side→(∀r,Rep I β n w u r→Rep I β n w v r)→o.wpIn (z0h ro) 0 P a w K QQ:=by
  intro side u hp hs hy
  have hne:lo.op≠.bad:=by intro hb;rw[hb] at hp;cases hp
  obtain⟨r,hr,hrep⟩:=V1 hI hE (Yj hop hne) hp hs
  refine W0 (Z0 (Yj hop hne)) ?_
  unfold Oper.wp
  rw[hr,Oper.upon_value]
  exact hK r (hy r hrep)
 unfold Xp at hv
 rcases hg with⟨hg1,hg0⟩|⟨j,want,g,hg1,hg0,hg2,hg3⟩
 ·rw[hg0] at hv
  rw[Z1 hg1,if_pos rfl]
  simp only at hv
  cases hp:w5 e H lo.op with
  |bad=>rw[hp] at hv;exact hv.elim
  |ok side u=>
   rw[hp] at hv
   obtain⟨h1,hs⟩:=hv
   exact(pure hp h1 (fun _ h=>Kb hs h))
 ·rw[hg0] at hv
  simp only at hv
  rw[J1 hg1,Jy hg2 (by rw[hN];exact hg3)]
  cases hgp:Z4 (e.get g) want with
  |none=>rw[hgp] at hv;exact hv.elim
  |some p=>
   rw[hgp] at hv
   simp only at hv
   rw[Qd (hE g) hgp]
   cases hp:w5 e H lo.op with
   |bad=>
    rw[hp] at hv
    obtain⟨rfl,hs⟩:=hv
    rw[if_neg (by simp)];refine⟨fun _ _=>trivial,?_⟩
    exact hK _ (Kb hs Jc)
   |ok side u=>
    rw[hp] at hv
    obtain⟨h1,hs⟩:=hv
    cases p with
    |true=>
     rw[if_pos rfl]
     exact(pure hp (h1 rfl) (fun r hr=>Kb hs (.cnd true u r (fun _=>hr) (fun h=>by cases h))))
    |false=>
     rw[if_neg (by simp)];refine⟨fun _ _=>trivial,?_⟩
     exact hK _ (Kb hs (.cnd false u undef (fun h=>by cases h) (fun _=>rfl)))
theorem z2y{ro:Option Nat}{ops:Array Oper}{QQ:Exit→Act→World→Prop}{K:Act→World→Prop}{KK:AVal→AHeap→Nat→Prop}{i:Nat}{o:Oper}{lo:LOper}(ho:ops[i]?=some o)(hlo:Yy P N ops o=some lo)(hv:z07 P e H n KK lo)
 (hI:Inv I β n H w) (hE:RepEnv I β n w e a) (hN:a.tmps.size=N.n) (hK:∀r v H' n' I' β' w',KK v H' n'→Inv I' β' n' H' w'→Rep I' β' n' w' v r→Ext I β n H w I' β' n' H' w'→K (a.put o.dst r) w'):wpOpIn (z0h ro) 0 P ops QQ i K a w:=by
 obtain⟨hd,hdst,hop,hg⟩:=uh hlo
 unfold wpOpIn
 simp only[ho]
 have eff:ky P e H n KK lo.op→o.wpIn (z0h ro) 0 P a w K QQ:=by
  intro h
  have hne:lo.op≠.bad:=by intro hb;rw[hb] at h;exact h.elim
  refine Xw (Z0 (Yj hop hne)) (W8 hI hE (Yj hop hne) h ?_)
  intro v w' ⟨r,H',n',I',β',h1,h2,h3,h4⟩
  exact hK v r H' n' I' β' w' h1 h2 h3 h4
 unfold z07 at hv
 rcases hg with⟨hg1,hg0⟩|⟨j,want,g,hg1,hg0,hg2,hg3⟩
 ·rw[hg0] at hv
  rw[Z1 hg1,if_pos rfl]
  exact(eff hv)
 ·rw[hg0] at hv
  simp only at hv
  rw[J1 hg1,Jy hg2 (by rw[hN];exact hg3)]
  cases hgp:Z4 (e.get g) want with
  |none=>rw[hgp] at hv;exact hv.elim
  |some p=>
   rw[hgp] at hv
   simp only at hv
   rw[Qd (hE g) hgp]
   cases p with
   |true=>
    rw[if_pos rfl]
    rcases hv with⟨R,h1,h2⟩|hv
    ·have h:=h1 rfl
     have hne:lo.op≠.bad:=by intro hb;rw[hb] at h;exact h.elim
     refine Xw (Z0 (Yj hop hne)) (W8 hI hE (Yj hop hne) h ?_)
     rintro v w' ⟨r,H',n',I',β',⟨rfl,rfl,rfl⟩,hI',hr',hx'⟩
     exact hK v _ _ _ _ _ _ h2 hI' (.cnd true r v (fun _=>hr') (fun h=>by cases h)) hx'
    ·exact(eff (hv.1 rfl))
   |false=>
    rw[if_neg (by simp)];refine⟨fun _ _=>trivial,?_⟩
    rcases hv with⟨R,_,h2⟩|hv
    ·exact hK undef _ _ _ _ _ _ h2 hI (.cnd false R undef (fun h=>by cases h) (fun _=>rfl)) (Ext.refl _ _ _ _ _ hI.fresh)
    ·obtain⟨u,h1,h2⟩:=hv.2 rfl
     exact hK _ _ _ _ _ _ _ h2 hI (z17 h1) (Ext.refl _ _ _ _ _ hI.fresh)
end
structure DOk(sw:Bool)(ops:Array Oper)(m:Nat)(lo:Nat→LOper)(loose:Nat→List Nat)(ord:Nat→Nat)(pre:Nat→List Nat):Prop where
 size:ops.size=m
 lt:∀p,p<m→ord p<m
 inj:∀p q,p<m→q<m→ord p=ord q→p=q
 surj:∀i,i<m→∃p,p<m∧ord p=i
 topo:∀p,p<m→∀d∈Zd ops (ord p),∃q,q<p∧ord q=d
 just:∀j,j<m→∀i∈pre j,i∈Zd ops j∨∃d∈Zd ops j,i∈pre d
 war:∀p q,p<q→q<m→∀d,(lo q).dst=some d→d∈(lo p).looks→ord p∈pre (ord q)
 raw:∀p q,p<q→q<m→∀d,(lo p).dst=some d→d∈(lo q).looks→ord p∈pre (ord q)
 waw:∀p q,p<q→q<m→∀d,(lo p).dst=some d→(lo q).dst≠some d
 eff:∀p q,p<q→q<m→ws (lo p).op=false→z4m (lo p)=false→ord p∈pre (ord q)∨zp8 (lo q)=true∨(sw=true∧p+2=m∧zbe (lo p)=true∧zbe (lo q)=true)
 swl:sw=true→∀x,x+2<m→Zc (lo x).op=true→ord x∈pre (ord (m-1))∧ord x∈pre (ord (m-2))
 loose:∀p q,p<q→q<m→ws (lo q).op=false→z4m (lo q)=false→Zc (lo p).op=true→ord p∈pre (ord q)∨p∈loose q
theorem z6n{sw:Bool}{m:Nat}{los:List LOper}{i j:Nat}{pre loose:List Nat}{p:Nat}(h:z6a sw m los i j pre loose p=true) :
 i≠j∧(∀d,(los.getD j vr).dst=some d→d∈(los.getD i vr).looks→i∈pre)∧(∀d,(los.getD i vr).dst=some d→d∈(los.getD j vr).looks→i∈pre) ∧
 (∀d,(los.getD i vr).dst=some d→(los.getD j vr).dst≠some d)∧(ws (los.getD i vr).op=false→z4m (los.getD i vr)=false→i∈pre∨zp8 (los.getD j vr)=true∨(sw=true∧p+2=m∧zbe (los.getD i vr)=true∧zbe (los.getD j vr)=true)) ∧
 (ws (los.getD j vr).op=false→z4m (los.getD j vr)=false→Zc (los.getD i vr).op=true→i∈pre∨p∈loose):=by
 unfold z6a at h
 simp only[Bool.and_eq_true,Bool.or_eq_true,List.contains_iff_mem] at h
 obtain⟨⟨⟨⟨⟨h1,h2⟩,h3⟩,h4⟩,h5⟩,h6⟩:=h
 refine⟨by simpa using h1,?_,?_,?_,?_,?_⟩
 ·intro d hd hl
  rcases h2 with h2|h2
  ·exact h2
  ·rw[hd] at h2;simp at h2;exact absurd hl h2
 ·intro d hd hl
  rcases h3 with h3|h3
  ·exact h3
  ·rw[hd] at h3;simp at h3;exact absurd hl h3
 ·intro d hd hd2
  rw[hd,hd2] at h4
  simp at h4
 ·intro hp hm
  rcases h5 with(((h5|h5)|h5)|h5)|h5
  ·rw[hp] at h5;cases h5
  ·rw[hm] at h5;cases h5
  ·exact .inl h5
  ·exact .inr (.inl h5)
  ·exact .inr (.inr ⟨h5.1.1.1,Nat.eq_of_beq_eq_true h5.1.1.2,h5.1.2,h5.2⟩)
 ·intro hp hm hl
  rcases h6 with(((h6|h6)|h6)|h6)|h6
  ·rw[hp] at h6;cases h6
  ·rw[hm] at h6;cases h6
  ·rw[hl] at h6;cases h6
  ·exact .inl h6
  ·exact .inr h6
theorem z3a{sw:Bool}{ops:Array Oper}{los:List LOper}{items:List DItem}(h:Jq sw ops los=some items) :
 ∃ (ord:Nat→Nat) (pre loose:Nat→List Nat),DOk sw ops ops.size (fun p=>los.getD (ord p) vr) loose ord pre∧items.length=ops.size∧los.length=ops.size ∧
  ∀i it,items[i]?=some it→it.lo=los.getD (ord i) vr∧it.loose=loose i:=by
 unfold Jq at h
 simp only at h
 generalize zcx ops los ops.size []=acc at h
 generalize z96 los acc=loose at h
 split at h<;>try (cases h;done)
 rename_i hc
 simp only[Option.some.injEq] at h
 subst h
 unfold zl4 at hc
 simp only[Bool.and_eq_true,beq_iff_eq,List.all_eq_true,List.mem_range,List.any_eq_true,decide_eq_true_eq] at hc
 obtain⟨⟨⟨⟨⟨⟨⟨c1,c2⟩,c3⟩,c4⟩,c5⟩,c6⟩,c8⟩,c7⟩:=hc
 have key:∀x∈acc,∃p,p<ops.size∧(acc.getD p (0,[])).1=x.1:=by
  intro x hx
  obtain⟨p,hp⟩:=List.getElem?_of_mem hx
  have hlt:p<acc.length:=by
   rcases Nat.lt_or_ge p acc.length with h|h
   ·exact h
   ·rw[List.getElem?_eq_none h] at hp;cases hp
  exact⟨p,by omega,by rw[List.getD_eq_getElem?_getD,hp];rfl⟩
 have mem:∀p,p<ops.size→acc.getD p (0,[])∈acc:=by
  intro p hp
  rw[List.getD_eq_getElem?_getD,List.getElem?_eq_getElem (by omega)]
  exact List.getElem_mem _
 have pair:∀p q,p<q→q<ops.size→_:=fun p q hpq hq=>z6n (c7 q hq p hpq)
 refine⟨fun p=>(acc.getD p (0,[])).1,z9t acc,fun q=>loose.getD q [],⟨rfl,?_,?_,?_,?_,?_,?_,?_,?_,?_,?_,?_⟩,by simp[c1],c2,?_⟩
 ·intro p hp
  exact c4 _ (List.mem_map.2 ⟨_,mem p hp,rfl⟩)
 ·intro p q hp hq he
  rcases Nat.lt_trichotomy p q with h|h|h
  ·exact absurd he (pair p q h hq).1
  ·exact h
  ·exact absurd he.symm (pair q p h hp).1
 ·intro i hi
  obtain⟨x,hx,he⟩:=c3 i hi
  obtain⟨p,hp,hpe⟩:=key x hx
  exact⟨p,hp,by rw[hpe];exact he⟩
 ·intro p hp d hd
  obtain⟨x,hx,he⟩:=c5 p hp d hd
  obtain⟨q,hq⟩:=List.getElem?_of_mem hx
  have hqp:q<p:=by
   rcases Nat.lt_or_ge q p with h|h
   ·exact h
   ·rw[List.getElem?_eq_none (by simp;omega)] at hq;cases hq
  refine⟨q,hqp,?_⟩
  rw[List.getElem?_take_of_lt hqp] at hq
  show(acc.getD q (0,[])).1=d
  rw[List.getD_eq_getElem?_getD,hq]
  exact he
 ·intro j hj i hi
  obtain⟨x,hx,he⟩:=c3 j hj
  obtain⟨p,hp,hpe⟩:=key x hx
  have hj2:(acc.getD p (0,[])).1=j:=by rw[hpe];exact he
  have:=c6 p hp i (by rw[hj2];exact hi)
  rw[hj2] at this
  simp only[Bool.or_eq_true,List.contains_iff_mem,List.any_eq_true] at this
  exact this
 ·exact fun p q hpq hq=>(pair p q hpq hq).2.1
 ·exact fun p q hpq hq=>(pair p q hpq hq).2.2.1
 ·exact fun p q hpq hq=>(pair p q hpq hq).2.2.2.1
 ·exact fun p q hpq hq=>(pair p q hpq hq).2.2.2.2.1
 ·intro hsw x hx hl
  simp only[Bool.or_eq_true,Bool.not_eq_true',hsw,Bool.true_eq_false,false_or,List.all_eq_true,List.mem_range,Bool.and_eq_true,List.contains_iff_mem,Bool.and_eq_false_imp] at c8
  rcases c8 x (by omega) with h|h
  ·rw[h (Nat.ble_eq_true_of_le (by omega))] at hl;cases hl
  ·exact h
 ·exact fun p q hpq hq=>(pair p q hpq hq).2.2.2.2.2
 ·intro i it hi
  simp only[List.getElem?_map,Option.map_eq_some_iff] at hi
  obtain⟨a,ha,rfl⟩:=hi
  have:a=i:=by
   rcases Nat.lt_or_ge i acc.length with h|h
   ·rw[List.getElem?_range h] at ha;exact(Option.some.inj ha).symm
   ·rw[List.getElem?_eq_none (by simpa using h)] at ha;cases ha
  subst this
  exact⟨rfl,rfl⟩
theorem ub{ops:Array Oper}{los:List LOper}{lc:LCode}(h:z0a ops los=some lc):(∃items,lc=.draw items)∨∃a b items,lc=.draw2 a b items:=by
 unfold z0a at h
 split at h
 ·cases h;exact .inl ⟨_,rfl⟩
 ·unfold U3 at h
  split at h<;>try (cases h;done)
  split at h<;>try (cases h;done)
  split at h<;>try (cases h;done)
  split at h<;>try (cases h;done)
  cases h;exact .inr ⟨_,_,_,rfl⟩
section
variable {sw:Bool} {ops:Array Oper} {N:Lay} {m:Nat} {lo:Nat→LOper} {loose:Nat→List Nat} {ord:Nat→Nat} {pre:Nat→List Nat}
def Down(ops:Array Oper)(listed:Array Bool):Prop:=∀j,listed.getD j false=true→∀d∈Zd ops j,listed.getD d false=true
theorem DOk.ancestors(D:DOk sw ops m lo loose ord pre){listed:Array Bool}(hd:Down ops listed):∀p,p<m→(∀d∈Zd ops (ord p),listed.getD d false=true)→∀i∈pre (ord p),listed.getD i false=true:=by
 intro p
 induction p using Nat.strongRecOn with
 |_ p ih=>
  intro hp hl i hi
  rcases D.just _ (D.lt p hp) i hi with h|⟨d,h1,h2⟩
  ·exact hl i h
  ·obtain⟨q,hq,rfl⟩:=D.topo p hp d h1
   exact ih q hq (by omega) (hd _ (hl _ h1)) i h2
def Xt(m:Nat)(lo:Nat→LOper)(e0:Env)(v:Nat→AVal)(S:Nat→Bool)(t:Nat):AVal:=
 match (List.range m).find? (fun p=>S p&&((lo p).dst==some t)) with
 |some p=>v p
 |none=>e0.get t
theorem Kn{α:Type}{f g:α→Bool}:∀ {l:List α},(∀x∈l,f x=g x)→l.find? f=l.find? g
 |[],_=>rfl
 |x::l,h=>by
  simp only[List.find?_cons,h x (List.mem_cons_self ..)]
  rw[Kn (fun y hy=>h y (List.mem_cons_of_mem _ hy))]
theorem vb{e0:Env}{v v':Nat→AVal}{S S':Nat→Bool}{t:Nat}(h:∀p,p<m→(lo p).dst=some t→S p=S' p∧(S p=true→v p=v' p)):Xt m lo e0 v S t=Xt m lo e0 v' S' t:=by
 unfold Xt
 have e:(List.range m).find? (fun p=>S p&&((lo p).dst==some t))=(List.range m).find? (fun p=>S' p&&((lo p).dst==some t)):=by
  refine Kn fun p hp=>?_
  by_cases hd:(lo p).dst=some t
  ·rw[(h p (List.mem_range.1 hp) hd).1]
  ·have:((lo p).dst==some t)=false:=by simpa using hd
   rw[this,Bool.and_false,Bool.and_false]
 rw[←e]
 cases hf:(List.range m).find? (fun p=>S p&&((lo p).dst==some t)) with
 |none=>rfl
 |some p=>
  have h1:=List.find?_some hf
  simp only[Bool.and_eq_true,beq_iff_eq] at h1
  exact(h p (List.mem_range.1 (List.mem_of_find?_eq_some hf)) h1.2).2 h1.1
theorem W2(D:DOk sw ops m lo loose ord pre){e0:Env}{v:Nat→AVal}{S:Nat→Bool}{p t:Nat}(hp:p<m)(hS:S p=true)(hd:(lo p).dst=some t):Xt m lo e0 v S t=v p:=by
 unfold Xt
 cases hf:(List.range m).find? (fun p=>S p&&((lo p).dst==some t)) with
 |none=>
  have:=List.find?_eq_none.1 hf p (List.mem_range.2 hp)
  simp[hS,hd] at this
 |some q=>
  have h1:=List.find?_some hf
  simp only[Bool.and_eq_true,beq_iff_eq] at h1
  have hq:=List.mem_range.1 (List.mem_of_find?_eq_some hf)
  rcases Nat.lt_trichotomy p q with h|h|h
  ·exact absurd h1.2 (D.waw p q h hq t hd)
  ·rw[h]
  ·exact absurd hd (D.waw q p h hp t h1.2)
end
end Go.Fx
