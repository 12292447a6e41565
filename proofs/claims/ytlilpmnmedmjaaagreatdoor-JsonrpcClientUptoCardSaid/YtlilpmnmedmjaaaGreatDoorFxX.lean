/-
  Own framework.
-/
import Derived.Test.YtlilpmnmedmjaaaGreatDoorFxV
namespace Go.Fx
set_option linter.unusedVariables false
variable {sw:Bool} {P:Program} {ops:Array Oper} {N:Lay} {m:Nat} {lo:Nat→LOper} {loose:Nat→List Nat} {ord:Nat→Nat} {pre:Nat→List Nat}
def unl(m:Nat)(listed:Array Bool):Nat:=((List.range m).filter (fun i=>!listed.getD i false)).length
theorem z7l{α:Type}{f g:α→Bool}:∀ {l:List α},(∀x,g x=true→f x=true)→(∃x∈l,f x=true∧g x=false)→(l.filter g).length<(l.filter f).length
 |[],_,h=>by obtain⟨x,hx,_⟩:=h;cases hx
 |y::l,hfg,h=>by
  have hle:∀l:List α,(l.filter g).length≤(l.filter f).length:=by
   intro l
   induction l with
   |nil=>simp
   |cons z l ih=>
    simp only[List.filter_cons]
    cases hg:g z with
    |true=>rw[if_pos rfl,if_pos (hfg z hg)];simp only[List.length_cons];omega
    |false=>
     rw[if_neg (by simp)]
     split
     ·simp only[List.length_cons];omega
     ·exact ih
  obtain⟨x,hx,h1,h2⟩:=h
  simp only[List.filter_cons]
  rcases List.mem_cons.1 hx with rfl|hx
  ·rw[h1,h2,if_pos rfl,if_neg (by simp)]
   have:=hle l
   simp only[List.length_cons];omega
  ·have ih:=z7l hfg ⟨x,hx,h1,h2⟩
   cases hg:g y with
   |true=>rw[if_pos rfl,if_pos (hfg y hg)];simp only[List.length_cons];omega
   |false=>
    rw[if_neg (by simp)]
    split
    ·simp only[List.length_cons];omega
    ·exact ih
def ue(m:Nat)(lo:Nat→LOper)(e0:Env)(v:Nat→AVal)(p:Nat):Env:=(lo p).looks.map fun t=>(t,Xt m lo e0 v (fun x=>decide (x<p)) t)
def Vu(v:Nat→AVal)(q:Nat)(x:AVal):Nat→AVal:=fun p=>if p=q then x else v p
theorem ua{e0:Env}{v:Nat→AVal}{q p:Nat}{x:AVal}(h:p≤q):ue m lo e0 (Vu v q x) p=ue m lo e0 v p:=by
 unfold ue
 refine List.map_congr_left fun t _=>?_
 congr 1
 refine vb fun r hr hd=>⟨rfl,fun hlt=>?_⟩
 have:r<p:=by simpa using hlt
 unfold Vu
 rw[if_neg (by omega)]
theorem zg6{e0:Env}{v:Nat→AVal}{p t:Nat}:(ue m lo e0 v p).get t=if t∈(lo p).looks then Xt m lo e0 v (fun x=>decide (x<p)) t else .any:=by
 unfold ue
 induction(lo p).looks with
 |nil=>simp[Env.get]
 |cons u l ih=>
  simp only[List.map_cons,Env.get,ih]
  by_cases h:u=t
  ·subst h;simp
  ·rw[if_neg h]
   by_cases h2:t∈l
   ·rw[if_pos h2,if_pos (List.mem_cons_of_mem _ h2)]
   ·rw[if_neg h2,if_neg (by intro h3;rcases List.mem_cons.1 h3 with rfl|h3;exact h rfl;exact h2 h3)]
theorem zlp{listed:Array Bool}{i:Nat}(hi:i<listed.size):listed.getD i true=listed.getD i false:=by simp[hi]
section
variable {P:Program} {I:Nat→Nat→Prop} {β:Id→Option CLoc} {n:Nat} {H:AHeap} {w:World}
theorem zuf{vm:Bool}{zs:List AVal}:∀ {op:Op},xq P vm op=some (.alloc zs)→∃t,op=.alloc t∧wa P t=some zs:=by
 intro op hl
 cases op with
 |alloc t=>
  refine⟨t,rfl,?_⟩
  simp only[xq] at hl
  repeat' (split at hl<;>try (cases hl;done))
  all_goals (first|(simp only[Option.some.injEq,LOp.alloc.injEq] at hl;subst hl;assumption)|(simp only[Option.map_eq_some_iff] at hl;obtain⟨z,hz,hl⟩:=hl;cases hl;exact hz))
 |call c=>
  exfalso
  obtain⟨callee,args,argTypes⟩:=c
  cases callee with
  |_=>
   simp only[xq] at hl
   unfold Kv at hl
   simp only at hl
   repeat' (split at hl<;>try (cases hl;done))
   all_goals (first|(simp only[Option.map_eq_some_iff] at hl;obtain⟨_,_,hl⟩:=hl;cases hl;done)|(cases hl;done)|skip)
 |_=>
  exfalso
  simp only[xq] at hl
  try unfold Ul at hl
  repeat' (split at hl<;>try (cases hl;done))
  all_goals (first|(simp only[Option.map_eq_some_iff] at hl;obtain⟨_,_,hl⟩:=hl;cases hl;done)|(cases hl;done)|skip)
def zuq(I:Nat→Nat→Prop)(β:Id→Option CLoc)(K0:Nat)(w:World)(c:CLoc):Prop:=
 ∀b k,c.has b k→¬I b k∧(∀id d,β id=some d→¬d.has b k)∧K0≤b∧b<w.heap.size
theorem zmm{I':Nat→Nat→Prop}{β':Id→Option CLoc}{n':Nat}{H':AHeap}{w':World}{K0:Nat}{c:CLoc}(hf:zuq I β K0 w c)(hX:Ext I β n H w I' β' n' H' w'):zuq I' β' K0 w' c:=by
 intro b k hk
 obtain⟨h1,h2,h3,h4⟩:=hf b k hk
 refine⟨fun h=>?_,fun id d hd hh=>?_,h3,Nat.lt_of_lt_of_le h4 hX.size⟩
 ·obtain⟨id,d,g1,g2,_⟩:=hX.immNew b k h h1 h4
  exact h2 id d g1 g2
 ·by_cases hid:id.1<n
  ·rcases hX.old id hid with g|⟨g,_⟩
   ·exact h2 id d (g▸hd) hh
   ·rw[g] at hd;cases hd
  ·rcases hX.new id d b k (by omega) hd hh with g|⟨i0,c0,g1,g2,_⟩
   ·omega
   ·exact h2 i0 c0 g1 g2
theorem zrs{I':Nat→Nat→Prop}{β':Id→Option CLoc}{n':Nat}{H':AHeap}{w':World}{K0:Nat}{c:CLoc}{zs:List AVal}(hI:Inv I β n H w)(hf:zuq I β K0 w c)(hX:Ext I β n H w I' β' n' H' w')(hB:RepB I β n w c (.one zs)):RepB I' β' n' w' c (.one zs):=by
 refine hB.mono' hX.imm (hX.heapI hI) hX.le hX.back (fun arr el fr h=>?_) (fun b k v hk hv=>?_) (fun o ho hk hm=>?_)
 ·obtain⟨arr',fr',g1,g2,g3⟩:=hX.shape c.blk arr el fr h
  refine⟨arr',fr',g1,g2,?_⟩
  rcases g3 with g3|g3
  ·exact .inl g3
  ·refine .inr fun k hk hc=>?_
   obtain⟨id,d,e1,_,e3⟩:=g3 k hk
   exact(hf c.blk k hc).2.1 id d e1 e3
 ·exact hX.cells b k v hv (fun id d e1 _ e3=>(hf b k hk).2.1 id d e1 e3)
 ·exact hX.maps c.blk o ho hm (fun id d e1 _ e3=>(hf c.blk 0 hk).2.1 id d e1 e3)
theorem zop{K0:Nat}{c:CLoc}{zs:List AVal}(hI:Inv I β n H w)(hf:zuq I β K0 w c)(hB:RepB I β n w c (.one zs)):Inv I (upd β (n,0) (some c)) (n+1) (((n,0),.one zs)::H) w:=by
 have hup:∀ (id:Id) d,id.1<n→upd β (n,0) (some c) id=some d→β id=some d:=fun id d hid h=>by rwa [zz _ _ (Z6 hid)] at h
 have hmono:∀ {d:CLoc} {b:ABlock},RepB I β n w d b→RepB I (upd β (n,0) (some c)) (n+1) w d b:=fun h=>
  h.mono' (fun _ _ h=>h) (fun _ _ _=>rfl) (Nat.le_succ n) hup (fun arr el fr h=>⟨arr,fr,h,rfl,.inl rfl⟩) (fun _ _ _ _ h=>h) (fun _ _ _ h=>h)
 refine⟨fun id blk hid=>?_,fun i j d e b k hi hj hd he=>?_,fun i d b k hi hd=>?_,hI.imm,fun id hid=>?_,hI.glob⟩
 ·by_cases h:(n,0)=id
  ·subst h
   rw[AHeap.get_cons_same] at hid
   simp only[Option.some.injEq] at hid
   subst hid
   exact⟨c,xz _ _ _,hmono hB⟩
  ·rw[AHeap.get_cons_other _ _ h] at hid
   obtain⟨d,hd,hb⟩:=hI.blocks id blk hid
   exact⟨d,by rw[zz _ _ (fun h'=>h h'.symm)];exact hd,hmono hb⟩
 ·rcases vq hi hI.fresh with⟨rfl,rfl⟩|⟨_,h1⟩
  ·rcases vq hj hI.fresh with⟨rfl,_⟩|⟨_,h2⟩
   ·rfl
   ·exact absurd he ((hf b k hd).2.1 j e h2)
  ·rcases vq hj hI.fresh with⟨rfl,rfl⟩|⟨_,h2⟩
   ·exact absurd hd ((hf b k he).2.1 i d h1)
   ·exact hI.inj i j d e b k h1 h2 hd he
 ·rcases vq hi hI.fresh with⟨rfl,rfl⟩|⟨_,h1⟩
  ·exact⟨(hf b k hd).1,(hf b k hd).2.2.2⟩
  ·exact hI.own i d b k h1 hd
 ·rw[zz _ _ (fun h=>by subst h;exact absurd hid (Nat.not_succ_le_self n))]
  exact hI.fresh id (by omega)
theorem zhz{I0:Nat→Nat→Prop}{β0:Id→Option CLoc}{n0:Nat}{H0:AHeap}{w0:World}{c:CLoc}{zs:List AVal}(hI:Inv I β n H w)(hf:zuq I β w0.heap.size w c)(hX:Ext I0 β0 n0 H0 w0 I β n H w) :
 Ext I0 β0 n0 H0 w0 I (upd β (n,0) (some c)) (n+1) (((n,0),.one zs)::H) w:=by
 refine⟨hX.os,hX.tape,hX.output,hX.size,hX.frame,hX.cells,hX.shape,hX.maps,hX.imm,hX.immNew,fun id hid=>?_,fun id d b k hid hd hk=>?_,fun id hid hg=>?_,Nat.le_succ_of_le hX.le⟩
 ·rw[zz _ _ (Z6 (Nat.lt_of_lt_of_le hid hX.le))];exact hX.old id hid
 ·rcases vq hd hI.fresh with⟨rfl,rfl⟩|⟨_,h1⟩
  ·exact .inl (hf b k hk).2.2.1
  ·exact hX.new id d b k hid h1 hk
 ·rw[AHeap.get_cons_other _ _ (Z6 (Nat.lt_of_lt_of_le hid hX.le)).symm] at hg
  exact hX.dom id hid hg
theorem z7j(hI:Inv I β n H w)(o:Obj):Inv I β n H (w.alloc o)∧Ext I β n H w I β n H (w.alloc o):=by
 have hp:Pushed w (w.alloc o) o:=⟨rfl,⟨rfl,fun _=>Nat.le_refl _⟩,rfl,rfl⟩
 exact kw hI hp.chg (Nat.le_refl n) (fun _ _ h=>h.elim) (fun _ _ h=>h) (fun _ _ h h'=>absurd h h') (fun id hid=>.inl rfl) (fun id c b k hid hc _=>by rw[hI.fresh id hid] at hc;cases hc) hI.fresh
  (fun i j c d b k hi hj h h' _=>hI.inj i j c d b k hi hj h h') (fun _ _ _ _ _ _ h=>h) (fun _ _ h=>h) (fun id blk hid=>.inl ⟨hid,rfl,fun _ _ _ _ _ h=>h⟩)
theorem zqp{N:Lay}{ro:Option Nat}{ops:Array Oper}{QQ:Exit→Act→World→Prop}{K:Act→World→Prop}{i:Nat}{o:Oper}{lo:LOper}{a:Act}{zs:List AVal}(ho:ops[i]?=some o)(hlo:Yy P N ops o=some lo)(hop:lo.op=.alloc zs)(hg:lo.guard=none)(hI:Inv I β n H w){K0:Nat}(hK0:K0≤w.heap.size)
 (hK:∀c w',c.blk=w.heap.size→Inv I β n H w'→Ext I β n H w I β n H w'→zuq I β K0 w' c→RepB I β n w' c (.one zs)→K (a.put o.dst (.pointer (some ⟨c.blk,c.base,none⟩))) w'):wpOpIn (z0h ro) 0 P ops QQ i K a w:=by
 obtain⟨hd,hdst,hopx,hgx⟩:=uh hlo
 have hne:lo.op≠.bad:=by rw[hop];exact fun h=>by cases h
 have hl:=Yj hopx hne
 rw[hop] at hl
 obtain⟨t,h1,hz⟩:=zuf hl
 unfold wpOpIn
 simp only[ho]
 rcases hgx with⟨hg1,hg0⟩|⟨j,want,g,hg1,hg0,hg2,hg3⟩
 ·rw[Z1 hg1,if_pos rfl]
  refine W0 (Z0 (Yj hopx hne)) ?_
  obtain⟨zv,zi,_,_,_,hzv,_⟩:=ui (I:=I) (β:=β) (n:=n) (w:=w) hz
  have hex:(execOp a.eval o).run P w=.ok (.value (.pointer (some ⟨w.heap.size,0,none⟩))) (w.alloc (.cells zv.cells t)):=by
   obtain⟨dst,op,type,pos,after,guard⟩:=o
   simp only at h1
   subst h1
   simp only[execOp,Sem.run_bind,Instr.alloc,hzv,Result.andThen_ok,newVar,newRow,run_newObj,Sem.run_pure,World.alloc_eq]
  unfold Oper.wp
  rw[hex,Oper.upon_value]
  have hp:=kl w (.cells zv.cells t)
  obtain⟨i1,x1⟩:=z7j hI (.cells zv.cells t)
  obtain⟨zv2,zi2,_,_,_,hzv2,hzr2⟩:=ui (I:=I) (β:=β) (n:=n) (w:=w) hz
  have:zv2=zv:=by rw[hzv] at hzv2;cases hzv2;rfl
  subst this
  obtain⟨k1,_⟩:=z5y hI hp (fun k _=>by simp) EndOk.zero (Ye hzr2)
  obtain⟨c,hc,hB⟩:=k1.blocks (n,0) _ (AHeap.get_cons_same _ _ _)
  rw[xz] at hc
  simp only[Option.some.injEq] at hc
  subst hc
  refine hK ⟨w.heap.size,0,zv2.cells.size,0,zs.length⟩ _ rfl i1 x1 (fun b k hk=>?_) ?_
  ·have hb:w.heap.size=b:=hk.1
   subst hb
   refine⟨fun h=>?_,fun id d e1 e3=>?_,hK0,by simp⟩
   ·obtain⟨v,hv⟩:=hI.imm _ _ h
    exact absurd (uf hv) (Nat.lt_irrefl _)
   ·exact Wj hI e1 e3 (Nat.le_refl _)
  ·refine u0.2 ⟨rfl,.inl ⟨zv2.cells,t,(0,0),hp.new,Nat.le_refl _,fun _=>⟨rfl,rfl,EndOk.zero⟩⟩,fun k _ hk=>hp.unfrozen (fun k _=>by simp) k hk,Nat.le_refl _,?_,?_,?_⟩
   ·simpa using(Ye hzr2).1
   ·exact(Ye hzr2).2.1
   ·intro i r j x hi hj
    obtain⟨v,g1,g2,g3⟩:=(Ye hzr2).2.2 i r j x hi hj
    exact⟨v,by rw[hp.cell];exact g1,g2,g3.mono x1 hI⟩
 ·rw[hg0] at hg;cases hg
end
section
variable (D:DOk sw ops m lo loose ord pre)
include D
theorem DOk.agree{listed:Array Bool}(hd:Down ops listed){e0:Env}{v:Nat→AVal}{p t:Nat}(hp:p<m)(hun:listed.getD (ord p) false=false)(hall:∀d∈Zd ops (ord p),listed.getD d false=true)(ht:t∈(lo p).looks) :
 Xt m lo e0 v (fun x=>listed.getD (ord x) false) t=Xt m lo e0 v (fun x=>decide (x<p)) t:=by
 refine vb fun r hr hdst=>⟨?_,fun _=>rfl⟩
 have anc:=D.ancestors hd p hp hall
 rcases Nat.lt_trichotomy r p with h|h|h
 ·rw[decide_eq_true h]
  exact anc _ (D.raw r p h hp t hdst ht)
 ·subst h
  rw[hun,decide_eq_false (by omega)]
 ·rw[decide_eq_false (by omega)]
  cases hl:listed.getD (ord r) false with
  |false=>rfl
  |true=>
   have:=D.ancestors hd r hr (hd _ hl) _ (D.war p r h hr t hdst ht)
   rw[hun] at this;cases this
omit D in
theorem z0d{listed:Array Bool}{i j:Nat}(hi:i<listed.size):(listed.setIfInBounds i true).getD j false=if i=j then true else listed.getD j false:=by
 by_cases h:i=j
 ·subst h;simp[hi]
 ·simp[h]
omit D in
theorem zef{a:Act}{d:Nat}{v:Value}(h:d<a.tmps.size):(a.put (some d) v).tmps.getD d undef=v:=by simp[Act.put,h]
omit D in
theorem z7k{a:Act}{d:Option Nat}{t:Nat}{v:Value}(h:d≠some t):(a.put d v).tmps.getD t undef=a.tmps.getD t undef:=by
 cases d with
 |none=>rfl
 |some d=>
  have hdt:d≠t:=fun h'=>h (by rw[h'])
  simp[Act.put,Array.getD_eq_getD_getElem?,hdt]
omit D in
theorem zvo{listed:Array Bool}(hs:listed.size=m){i:Nat}(hi:i<m)(hun:listed.getD i false=false){fuel:Nat}(hf:unl m listed≤fuel+1):unl m (listed.setIfInBounds i true)≤fuel:=by
 have:unl m (listed.setIfInBounds i true)<unl m listed:=by
  refine z7l (fun x hx=>?_) ⟨i,List.mem_range.2 hi,by rw[hun];rfl,by rw[z0d (by omega),if_pos rfl];rfl⟩
  rw[z0d (by omega)] at hx
  split at hx
  ·simp at hx
  ·exact hx
 omega
omit D in
theorem Down.set{listed:Array Bool}(hd:Down ops listed)(hs:listed.size=m){i:Nat}(hi:i<m)(hall:∀d∈Zd ops i,listed.getD d false=true):Down ops (listed.setIfInBounds i true):=by
 intro j hj d hdj
 rw[z0d (by omega)] at hj ⊢
 split
 ·rfl
 ·split at hj
  ·rename_i h;subst h;exact hall d hdj
  ·exact hd j hj d hdj
omit D in
theorem zqx{l:LOper}(h:z4m l=true):∃s zs len parts,l.op=.mkSl true s zs len parts:=by
 unfold z4m at h
 split at h
 ·rename_i h1;exact⟨_,_,_,_,h1⟩
 ·cases h
omit D in
theorem z0y{l:LOper}(h:z4m l=true):ws l.op=false:=by
 obtain⟨_,_,_,_,h1⟩:=zqx h
 rw[h1];rfl
omit D in
theorem z4f{l:LOper}{zs:List AVal}(h:z4m l=true)(ha:l.op=.alloc zs):False:=by
 obtain⟨_,_,_,_,h1⟩:=zqx h
 rw[h1] at ha;cases ha
omit D in
theorem zc0{e:Env}{H:AHeap}{n:Nat}{K:AVal→AHeap→Nat→Prop}{s:Nat}{zs:List AVal}{len:Nat}{parts:List (Nat×LOpd)}(hx:ky P e H n K (.mkSl true s zs len parts)) :
 ∃val,(∀ (H:AHeap) (n:Nat) (K':AVal→AHeap→Nat→Prop),K' val H n→ky P e H n K' (.mkSl true s zs len parts))∧K val H n:=by
 simp only[ky] at hx ⊢
 split at hx<;>try (exact hx.elim)
 rename_i p rows hrows
 split at hx<;>try (exact hx.elim)
 rename_i rows' himm
 obtain⟨g1,g2,g3,g4⟩:=hx
 exact⟨_,fun H n K' hk=>⟨g1,g2,g3,hk⟩,g4⟩
omit D in
theorem zqt{l:LOper}{e:Env}{H:AHeap}{n:Nat}{K:AVal→AHeap→Nat→Prop}(h:z4m l=true)(hx:z07 P e H n K l):∃val,(∀H n,z07 P e H n (fun x H' n'=>x=val∧H'=H∧n'=n) l)∧K val H n:=by
 obtain⟨s,zs,len,parts,h1⟩:=zqx h
 unfold z07 at hx ⊢
 rw[h1] at hx ⊢
 cases hg:l.guard with
 |none=>
  rw[hg] at hx
  simp only at hx ⊢
  obtain⟨val,k1,k2⟩:=zc0 hx
  exact⟨val,fun H n=>k1 H n _ ⟨rfl,rfl,rfl⟩,k2⟩
 |some gw=>
  obtain⟨g,want⟩:=gw
  rw[hg] at hx
  simp only at hx ⊢
  cases hp:Z4 (e.get g) want with
  |none=>rw[hp] at hx;exact hx.elim
  |some p=>
   rw[hp] at hx
   simp only at hx ⊢
   rcases hx with⟨R,k1,k2⟩|⟨k1,k2⟩
   ·refine⟨.cnd p R,fun H n=>.inl ⟨R,fun hpt=>?_,rfl,rfl,rfl⟩,k2⟩
    obtain⟨val,q1,q2⟩:=zc0 (k1 hpt)
    obtain⟨rfl,_,_⟩:=q2
    exact q1 H n _ ⟨rfl,rfl,rfl⟩
   ·cases p with
    |true=>
     obtain⟨val,q1,q2⟩:=zc0 (k1 rfl)
     exact⟨val,fun H n=>.inr ⟨fun _=>q1 H n _ ⟨rfl,rfl,rfl⟩,nofun⟩,q2⟩
    |false=>
     obtain⟨u,hu,hk⟩:=k2 rfl
     exact⟨u,fun H n=>.inr ⟨nofun,fun _=>⟨u,hu,rfl,rfl,rfl⟩⟩,hk⟩
def ztr(P:Program)(m:Nat)(lo:Nat→LOper)(e0:Env)(v:Nat→AVal)(H:AHeap)(p:Nat):Prop:=
 (z4m (lo p)=false→(Xp (ue m lo e0 v p) H (lo p)).gives (v p))∧(z4m (lo p)=true→∀H n,z07 P (ue m lo e0 v p) H n (fun x H' n'=>x=v p∧H'=H∧n'=n) (lo p))
def Ear(lo:Nat→LOper)(I:Nat→Nat→Prop)(β:Id→Option CLoc)(n:Nat)(w:World)(K0:Nat)(a:Act)(loc:Nat→CLoc)(p:Nat):Prop:=
 zuq I β K0 w (loc p)∧∃zs d,(lo p).op=.alloc zs∧(lo p).guard=none∧(lo p).dst=some d∧RepB I β n w (loc p) (.one zs)∧a.tmps.getD d undef=.pointer (some ⟨(loc p).blk,(loc p).base,none⟩)
end
theorem Xs{l:LOper}(h:zbe l=true):l.dst=none∧l.guard=none∧∃k a x,l.op=.store k a x:=by
 unfold zbe at h
 split at h
 ·rename_i g1 g2 g3;exact⟨g3,g2,_,_,_,g1⟩
 ·cases h
theorem zjn{l:LOper}(h:zbe l=true):ws l.op=false∧z4m l=false∧Zc l.op=false:=by
 obtain⟨_,_,k,a,x,h1⟩:=Xs h
 unfold z4m
 rw[h1]
 exact⟨rfl,rfl,rfl⟩
def ApR(sw:Bool)(l l':LOper)(R:Env→AHeap→Nat→Prop):Prop:=
 sw=true→∀k a x k' a' x',l.op=.store k a x→l'.op=.store k' a' x'→∀e H n,R e H n→z87 (a.ev e) (a'.ev e)
theorem zfz{x y:AVal}(h:z87 x y):z87 y x:=by
 unfold z87 at h
 split at h
 ·exact fun h'=>h h'.symm
 ·exact h.elim
theorem AHeap.set_comm:∀ (H:AHeap) {b c:Id} (x y:ABlock),b≠c→(H.set b x).set c y=(H.set c y).set b x
 |[],_,_,_,_,_=>rfl
 |(k,v)::r,b,c,x,y,h=>by
  by_cases h1:k=b
  ·subst h1
   by_cases h2:k=c
   ·exact absurd h2 h
   ·simp[AHeap.set,h2]
  ·by_cases h2:k=c
   ·subst h2
    simp[AHeap.set,h1]
   ·simp[AHeap.set,h1,h2,AHeap.set_comm r x y h]
def sg(q x:Nat):Nat:=if x=q then q+1 else if x=q+1 then q else x
theorem zge{q:Nat}:sg q q=q+1:=by simp[sg]
theorem zpc{q:Nat}:sg q (q+1)=q:=by simp[sg]
theorem Kw{q x:Nat}(h:x<q):sg q x=x:=by unfold sg;rw[if_neg (by omega),if_neg (by omega)]
theorem zvw{q x m:Nat}(hm:q+2=m)(h:x<m):sg q x<m:=by unfold sg;split;omega;split<;>omega
theorem zx5{q x:Nat}:sg q (sg q x)=x:=by
 by_cases h:x=q
 ·subst h;rw[zge,zpc]
 ·by_cases h2:x=q+1
  ·subst h2;rw[zpc,zge]
  ·have:sg q x=x:=by unfold sg;rw[if_neg h,if_neg h2]
   rw[this,this]
theorem z10{q x y m:Nat}(hm:q+2=m)(h:x<y)(hy:y<m):(x=q∧y=q+1)∨(x<q∧sg q x=x∧x<sg q y∧sg q y<m):=by
 by_cases h1:x=q
 ·left;omega
 ·right
  have:x<q:=by omega
  refine⟨this,Kw this,?_,zvw hm hy⟩
  unfold sg;split;omega;split<;>omega
theorem DOk.swap(D:DOk sw ops m lo loose ord pre){q:Nat}(hsw:sw=true)(hm:q+2=m)(h1:zbe (lo q)=true)(h2:zbe (lo (q+1))=true)(hnd:ord q∉Zd ops (ord (q+1))) :
 DOk sw ops m (fun x=>lo (sg q x)) (fun x=>loose (sg q x)) (fun x=>ord (sg q x)) pre:=by
 have d1:=(Xs h1).1
 have d2:=(Xs h2).1
 refine⟨D.size,fun p hp=>D.lt _ (zvw hm hp),fun p q' hp hq h=>?_,fun i hi=>?_,fun p hp d hd=>?_,D.just,fun p q' hpq hq d hd hl=>?_,fun p q' hpq hq d hd hl=>?_,fun p q' hpq hq d hd hd2=>?_,fun p q' hpq hq hp hmf=>?_,fun _ x hx hl=>?_,fun p q' hpq hq hp hmf hl=>?_⟩
 ·have:=D.inj _ _ (zvw hm hp) (zvw hm hq) h
  rw[←zx5 (q:=q) (x:=p),this,zx5]
 ·obtain⟨p,hp,rfl⟩:=D.surj i hi
  exact⟨sg q p,zvw hm hp,by rw[zx5]⟩
 ·obtain⟨y,hy,rfl⟩:=D.topo _ (zvw hm hp) d hd
  rcases Nat.lt_trichotomy p q with h|h|h
  ·rw[Kw h] at hy
   exact⟨y,hy,by rw[Kw (by omega)]⟩
  ·subst h
   rw[zge] at hy hd
   have:y<p:=by
    rcases Nat.lt_or_ge y p with h|h
    ·exact h
    ·have:y=p:=by omega
     subst this;exact absurd hd hnd
   exact⟨y,this,by rw[Kw this]⟩
  ·have:p=q+1:=by omega
   subst this
   rw[zpc] at hy
   exact⟨y,by omega,by rw[Kw hy]⟩
 ·rcases z10 hm hpq hq with⟨rfl,rfl⟩|⟨g1,g2,g3,g4⟩
  ·rw[zpc,d1] at hd;cases hd
  ·rw[g2] at hl ⊢
   exact D.war _ _ g3 g4 d hd hl
 ·rcases z10 hm hpq hq with⟨rfl,rfl⟩|⟨g1,g2,g3,g4⟩
  ·rw[zge,d2] at hd;cases hd
  ·rw[g2] at hd ⊢
   exact D.raw _ _ g3 g4 d hd hl
 ·rcases z10 hm hpq hq with⟨rfl,rfl⟩|⟨g1,g2,g3,g4⟩
  ·rw[zge,d2] at hd;cases hd
  ·rw[g2] at hd
   exact D.waw _ _ g3 g4 d hd hd2
 ·rcases z10 hm hpq hq with⟨rfl,rfl⟩|⟨g1,g2,g3,g4⟩
  ·rw[zge,zpc]
   exact .inr (.inr ⟨hsw,hm,h2,h1⟩)
  ·rw[g2] at hp hmf ⊢
   rcases D.eff _ _ g3 g4 hp hmf with h|h|⟨_,h,_⟩
   ·exact .inl h
   ·exact .inr (.inl h)
   ·omega
 ·have hxq:x<q:=by omega
  rw[Kw hxq] at hl ⊢
  have:=D.swl hsw x hx hl
  have e1:m-1=q+1:=by omega
  have e2:m-2=q:=by omega
  rw[e1,e2] at this ⊢
  rw[zge,zpc]
  exact⟨this.2,this.1⟩
 ·rcases z10 hm hpq hq with⟨rfl,rfl⟩|⟨g1,g2,g3,g4⟩
  ·rw[zge,(zjn h2).2.2] at hl;cases hl
  ·rw[g2] at hl ⊢
   exact D.loose _ _ g3 g4 hp hmf hl
theorem z6o{q:Nat}(hm:q+2=m)(h1:zbe (lo q)=true)(h2:zbe (lo (q+1))=true){e0:Env}{v:Nat→AVal}{S S':Nat→Bool}{t:Nat}(hS:∀x,x<q→S x=S' x):Xt m (fun x=>lo (sg q x)) e0 v S t=Xt m lo e0 v S' t:=by
 have d1:=(Xs h1).1
 have d2:=(Xs h2).1
 unfold Xt
 rw[Kn (g:=fun p=>S' p&&((lo p).dst==some t)) (fun x hx=>?_)]
 have hxm:=List.mem_range.1 hx
 show(S x&&(lo (sg q x)).dst==some t)=_
 rcases Nat.lt_trichotomy x q with h|h|h
 ·rw[Kw h,hS x h]
 ·subst h;rw[zge,d1,d2];simp
 ·have:x=q+1:=by omega
  subst this;rw[zpc,d1,d2];simp
theorem zk4{lo:LOper}{e:Env}{a:LOpd}(h:∀t∈a.tmps,t∈lo.looks):a.ev (lo.sees e)=a.ev e:=by
 cases a with
 |t i=>
  simp only[LOpd.ev]
  unfold LOper.sees
  have hi:i∈lo.looks:=h i (by simp[LOpd.tmps])
  generalize lo.looks=l at hi
  induction l with
  |nil=>cases hi
  |cons u l ih=>
   simp only[List.map_cons,Env.get]
   by_cases hu:u=i
   ·subst hu;simp
   ·rw[if_neg hu]
    rcases List.mem_cons.1 hi with rfl|hi
    ·exact absurd rfl hu
    ·exact ih hi
 |c v=>rfl
theorem z8r{e:Env}{H:AHeap}{n:Nat}{K:AVal→AHeap→Nat→Prop}{m:Nat}{a x:LOpd}(h:ky P e H n K (.store m a x)) :
 ∃b i off bl bl',a.ev e=.ptr b i off∧H.get b=some bl∧(∀ (H:AHeap) (n:Nat) (K':AVal→AHeap→Nat→Prop),H.get b=some bl→K' .any (H.set b bl') n→ky P e H n K' (.store m a x))∧K .any (H.set b bl') n:=by
 simp only[ky] at h ⊢
 split at h<;>try (exact h.elim)
 rename_i b i off cs ha hc
 split at h<;>try (exact h.elim)
 ·rename_i s es hb
  obtain⟨q1,q2,q3,q4,q5,q6⟩:=h
  refine⟨b,i,off,_,_,ha,hb,fun H n K' hg hk=>?_,q6⟩
  simp only[hg]
  exact⟨q1,q2,q3,q4,q5,hk⟩
 ·rename_i rs hb
  obtain⟨q1,q2,q3,q4,q5,q6⟩:=h
  refine⟨b,i,off,_,_,ha,hb,fun H n K' hg hk=>?_,q6⟩
  simp only[hg]
  exact⟨q1,q2,q3,q4,q5,hk⟩
theorem zwz{l1 l2:LOper}{e:Env}{H:AHeap}{n:Nat}{C1 C2:AHeap→Prop}{R:Env→AHeap→Nat→Prop}(h1:zbe l1=true)(h2:zbe l2=true)(hap:ApR true l1 l2 R){K':AVal→AHeap→Nat→Prop}(hK':∀v H n,R e H n→K' v H n)
 (hx:z07 P (l1.sees e) H n (fun v H' n'=>C1 H'∧z07 P (l2.sees e) H' n' (fun v2 H2 n2=>C2 H2∧R e H2 n2) l2) l1) :
 z07 P (l2.sees e) H n (fun v H' n'=>n'=n∧z07 P (l1.sees e) H' n' K' l1) l2:=by
 obtain⟨_,g1,k,a,x,o1⟩:=Xs h1
 obtain⟨_,g2,k',a',x',o2⟩:=Xs h2
 have ea:a.ev (l1.sees e)=a.ev e:=zk4 (fun t ht=>by unfold LOper.looks;rw[o1];simp[LOp.tmps,ht])
 have ea':a'.ev (l2.sees e)=a'.ev e:=zk4 (fun t ht=>by unfold LOper.looks;rw[o2];simp[LOp.tmps,ht])
 have hap:=hap rfl k a x k' a' x' o1 o2
 unfold z07 at hx ⊢
 simp only[g1,g2,o1,o2] at hx ⊢
 obtain⟨b1,i1,f1,bl1,bl1',q1,q2,q3,_,hx⟩:=z8r hx
 obtain⟨b2,i2,f2,bl2,bl2',r1,r2,r3,_,hx⟩:=z8r hx
 rw[ea] at q1
 rw[ea'] at r1
 have hne:=hap _ _ _ hx
 rw[q1,r1] at hne
 have hne:b1≠b2:=hne
 rw[AHeap.get_set,if_neg hne] at r2
 refine r3 H n _ r2 ⟨rfl,?_⟩
 refine q3 _ n _ ?_ ?_
 ·rw[AHeap.get_set,if_neg (fun h=>hne h.symm)];exact q2
 ·rw[←AHeap.set_comm H bl1' bl2' hne];exact hK' _ _ _ hx
theorem y1a{ro:Option Nat}{R:Env→AHeap→Nat→Prop}{QQ:Exit→Act→World→Prop}{e0:Env}{I0:Nat→Nat→Prop}{β0:Id→Option CLoc}{n0:Nat}{H0:AHeap}{w0:World}
 (hR:∀e H n I β w a,R e H n→Inv I β n H w→RepEnv I β n w e a→a.tmps.size=N.n→Dfr P w0.heap.size w a.defers→Ext I0 β0 n0 H0 w0 I β n H w→QQ .normal a w) :
 ∀ (k:Nat) (lo:Nat→LOper) (loose:Nat→List Nat) (ord:Nat→Nat) (D:DOk sw ops m lo loose ord pre) (hops:∀p,p<m→∃o,ops[ord p]?=some o∧Yy P N ops o=some (lo p)) (hap:sw=true→2≤m→ApR sw (lo (m-2)) (lo (m-1)) R) (fuel q:Nat) (items:List DItem) (listed:Array Bool) (loc:Nat→CLoc) (v:Nat→AVal) (done:List (Nat×LOper×Env×AVal)) (e:Env) (H:AHeap) (n:Nat) (I:Nat→Nat→Prop) (β:Id→Option CLoc) (w:World) (a:Act),fuel+items.length≤k →
  items.length+q=m→(∀i it,items[i]?=some it→it.lo=lo (q+i)∧it.loose=loose (q+i))→listed.size=m→Down ops listed→(∀p,p<m→listed.getD (ord p) false=true→p<q∨Ear lo I β n w w0.heap.size a loc p) →
  (∀p p',q≤p→q≤p'→p<m→p'<m→listed.getD (ord p) false=true→listed.getD (ord p') false=true→p≠p'→∀b k,(loc p).has b k→¬(loc p').has b k)→(∀p,q≤p→v p=.any) →
  (∀p,p<q→ws (lo p).op=false→z4m (lo p)=false→listed.getD (ord p) false=true)→unl m listed≤fuel →
  (∀t,e.get t=Xt m lo e0 v (fun x=>decide (x<q)) t)→(∀t,Rep I β n w (Xt m lo e0 v (fun x=>listed.getD (ord x) false) t) (a.tmps.getD t undef)) →
  (∀p,p<q→listed.getD (ord p) false=false→ztr P m lo e0 v H p) →
  (∀p,p<q→listed.getD (ord p) false=false→Zc (lo p).op=true→(p,lo p,ue m lo e0 v p,v p)∈done) →
  xd P items q done R e H n→Inv I β n H w→a.tmps.size=N.n→Dfr P w0.heap.size w a.defers→Ext I0 β0 n0 H0 w0 I β n H w→wpAnyIn (z0h ro) 0 P .any ops QQ fuel listed a w:=by
 intro k
 induction k using Nat.strongRecOn with
 |_ k ih=>
 intro lo loose ord D hops hap fuel q items listed loc v done e H n I β w a hk hlen hits hsz hdn hsub hdis hany heff hun henv hrep hpend hdone hx hI hN hD hX
 -- an item at the head that leaves the heap alone is put among the pending
 by_cases hpure:∃it rest,items=it::rest∧ws it.lo.op=true
 ·obtain⟨it,rest,rfl,hp⟩:=hpure
  obtain⟨h1,h2⟩:=hits 0 it rfl
  simp only[Nat.add_zero] at h1 h2
  simp only[List.length_cons] at hlen hk
  have hq:q<m:=by omega
  unfold xd at hx
  rw[hp] at hx
  simp only at hx
  obtain⟨val,hgv,hx⟩:=hx
  ·have hsees:ue m lo e0 (Vu v q val) q=it.lo.sees e:=by
    rw[ua (Nat.le_refl q),h1]
    unfold ue LOper.sees
    exact List.map_congr_left fun t _=>by rw[henv t]
   have hqun:listed.getD (ord q) false=false:=by
    cases hl:listed.getD (ord q) false with
    |false=>rfl
    |true=>
     rcases hsub q hq hl with h|⟨_,zs,d,h,_⟩
     ·omega
     ·rw[←h1] at h;rw[h] at hp;cases hp
   have hlt:∀p,p<q→Vu v q val p=v p:=fun p hp=>by unfold Vu;rw[if_neg (by omega)]
   have hqv:Vu v q val q=val:=by unfold Vu;rw[if_pos rfl]
   refine ih (fuel+rest.length) (by omega) lo loose ord D hops hap fuel (q+1) rest listed loc (Vu v q val) _ _ H n I β w a (Nat.le_refl _) (by omega) ?_ hsz hdn (fun p hp hl=>(hsub p hp hl).imp (fun h=>Nat.lt_succ_of_lt h) id) (fun p p' h1 h2=>hdis p p' (by omega) (by omega)) (fun p hp=>by unfold Vu;rw[if_neg (by omega)];exact hany p (by omega)) ?_ hun ?_ ?_ ?_ ?_ hx hI hN hD hX
   ·intro i it' hi
    have:=hits (i+1) it' (by simpa using hi)
    rw[show q+1+i=q+(i+1) by omega]
    exact this
   ·intro p hp2 hef hmf
    rcases Nat.lt_or_ge p q with h|h
    ·exact heff p h hef hmf
    ·have:p=q:=by omega
     subst this
     rw[←h1,hp] at hef;cases hef
   ·intro t
    by_cases hd:it.lo.dst=some t
    ·rw[hd,Env.get_put_same,W2 D hq (by simp) (by rw[←h1];exact hd),hqv]
    ·have:(e.put it.lo.dst val).get t=e.get t:=by
      cases hdd:it.lo.dst with
      |none=>rfl
      |some d=>exact Env.get_put_other e val (by intro h;subst h;exact hd hdd)
     rw[this,henv t]
     refine vb fun p hp2 hdst=>?_
     have hne:p≠q:=by intro h;subst h;rw[←h1] at hdst;exact hd hdst
     refine⟨by by_cases h:p<q<;>simp[h]<;>omega,fun hl=>(hlt p (by simpa using hl)).symm⟩
   ·intro t
    rw[vb (S':=fun x=>listed.getD (ord x) false) (v':=v) (fun p hp2 _=>⟨rfl,fun hl=>by unfold Vu;rw[if_neg (fun h=>by subst h;rw[hqun] at hl;cases hl)]⟩)]
    exact hrep t
   ·intro p hp2 hl
    rcases Nat.lt_or_ge p q with h|h
    ·unfold ztr;rw[ua (by omega),hlt p h];exact hpend p h hl
    ·have:p=q:=by omega
     subst this
     unfold ztr
     rw[hsees,hqv,←h1]
     exact⟨fun _=>hgv,fun hm=>by have:=z0y hm;rw[hp] at this;cases this⟩
   ·intro p hp2 hl hld
    rcases Nat.lt_or_ge p q with h|h
    ·rw[ua (by omega),hlt p h]
     have:=hdone p h hl hld
     split
     ·exact List.mem_cons_of_mem _ this
     ·exact this
    ·have:p=q:=by omega
     subst this
     rw[hsees,hqv,←h1]
     rw[←h1] at hld
     rw[if_pos hld]
     exact List.mem_cons_self ..
 by_cases hmk:∃it rest,items=it::rest∧z4m it.lo=true
 ·-- a slice literal waits for its turn, too
  obtain⟨it,rest,rfl,hp⟩:=hmk
  obtain⟨h1,h2⟩:=hits 0 it rfl
  simp only[Nat.add_zero] at h1 h2
  simp only[List.length_cons] at hlen hk
  have hq:q<m:=by omega
  have hnp:=z0y hp
  unfold xd at hx
  rw[hnp] at hx
  simp only at hx
  obtain⟨val,hgv,_,hx⟩:=zqt hp hx
  have hsees:ue m lo e0 (Vu v q val) q=it.lo.sees e:=by
   rw[ua (Nat.le_refl q),h1]
   unfold ue LOper.sees
   exact List.map_congr_left fun t _=>by rw[henv t]
  have hqun:listed.getD (ord q) false=false:=by
   cases hl:listed.getD (ord q) false with
   |false=>rfl
   |true=>
    rcases hsub q hq hl with h|⟨_,zs,d,h,_⟩
    ·omega
    ·rw[←h1] at h;exact(z4f hp h).elim
  have hlt:∀p,p<q→Vu v q val p=v p:=fun p hp=>by unfold Vu;rw[if_neg (by omega)]
  have hqv:Vu v q val q=val:=by unfold Vu;rw[if_pos rfl]
  refine ih (fuel+rest.length) (by omega) lo loose ord D hops hap fuel (q+1) rest listed loc (Vu v q val) _ _ H n I β w a (Nat.le_refl _) (by omega) ?_ hsz hdn (fun p hp hl=>(hsub p hp hl).imp (fun h=>Nat.lt_succ_of_lt h) id) (fun p p' h1 h2=>hdis p p' (by omega) (by omega)) (fun p hp=>by unfold Vu;rw[if_neg (by omega)];exact hany p (by omega)) ?_ hun ?_ ?_ ?_ ?_ hx hI hN hD hX
  ·intro i it' hi
   have:=hits (i+1) it' (by simpa using hi)
   rw[show q+1+i=q+(i+1) by omega]
   exact this
  ·intro p hp2 hef hmf
   rcases Nat.lt_or_ge p q with h|h
   ·exact heff p h hef hmf
   ·have:p=q:=by omega
    subst this
    rw[←h1,hp] at hmf;cases hmf
  ·intro t
   by_cases hd:it.lo.dst=some t
   ·rw[hd,Env.get_put_same,W2 D hq (by simp) (by rw[←h1];exact hd),hqv]
   ·have:(e.put it.lo.dst val).get t=e.get t:=by
     cases hdd:it.lo.dst with
     |none=>rfl
     |some d=>exact Env.get_put_other e val (by intro h;subst h;exact hd hdd)
    rw[this,henv t]
    refine vb fun p hp2 hdst=>?_
    have hne:p≠q:=by intro h;subst h;rw[←h1] at hdst;exact hd hdst
    refine⟨by by_cases h:p<q<;>simp[h]<;>omega,fun hl=>(hlt p (by simpa using hl)).symm⟩
  ·intro t
   rw[vb (S':=fun x=>listed.getD (ord x) false) (v':=v) (fun p hp2 _=>⟨rfl,fun hl=>by unfold Vu;rw[if_neg (fun h=>by subst h;rw[hqun] at hl;cases hl)]⟩)]
   exact hrep t
  ·intro p hp2 hl
   rcases Nat.lt_or_ge p q with h|h
   ·unfold ztr;rw[ua (by omega),hlt p h];exact hpend p h hl
   ·have:p=q:=by omega
    subst this
    unfold ztr
    rw[hsees,hqv,←h1]
    exact⟨fun hm=>(by rw[hp] at hm;cases hm),fun _=>hgv⟩
  ·intro p hp2 hl hld
   rcases Nat.lt_or_ge p q with h|h
   ·rw[ua (by omega),hlt p h]
    exact hdone p h hl hld
   ·have:p=q:=by omega
    subst this
    rw[←h1] at hld
    exfalso
    obtain⟨_,_,_,_,g1⟩:=zqx hp
    rw[g1] at hld
    cases hld
 by_cases hclaim:∃it rest,items=it::rest∧ws it.lo.op=false∧listed.getD (ord q) false=true
 ·-- the head has been carried out ahead of its place
  obtain⟨it,rest,rfl,hnp,hlq⟩:=hclaim
  obtain⟨h1,h2⟩:=hits 0 it rfl
  simp only[Nat.add_zero] at h1 h2
  simp only[List.length_cons] at hlen hk
  have hq:q<m:=by omega
  obtain⟨hf,zs,d,hop,hgd,hdq,hB,hptr⟩:=(hsub q hq hlq).resolve_left (Nat.lt_irrefl q)
  unfold xd at hx
  rw[hnp] at hx
  simp only at hx
  have hsees:it.lo.sees e=ue m lo e0 v q:=by
   rw[h1]
   unfold ue LOper.sees
   exact List.map_congr_left fun t _=>by rw[henv t]
  rw[hsees,h1] at hx
  unfold z07 at hx
  rw[hgd] at hx
  simp only[hop,ky] at hx
  obtain⟨hloose,hx2⟩:=hx
  have i2:=zop hI hf hB
  have x2:=zhz (zs:=zs) hI hf hX
  have hup:∀ (id:Id) c,id.1<n→upd β (n,0) (some (loc q)) id=some c→β id=some c:=fun id c hid h=>by rwa [zz _ _ (Z6 hid)] at h
  have hmono:∀ {x:AVal} {r:Value},Rep I β n w x r→Rep I (upd β (n,0) (some (loc q))) (n+1) w x r:=fun h=>h.mono' (fun _ _ h=>h) (fun _ _ _=>rfl) (Nat.le_succ n) hup
  have hlt:∀x,x≠q→Vu v q (.ptr (n,0) 0 0) x=v x:=fun x hx=>by unfold Vu;rw[if_neg hx]
  have hqv:Vu v q (.ptr (n,0) 0 0) q=.ptr (n,0) 0 0:=by unfold Vu;rw[if_pos rfl]
  refine ih (fuel+rest.length) (by omega) lo loose ord D hops hap fuel (q+1) rest listed loc (Vu v q (.ptr (n,0) 0 0)) done _ _ (n+1) I (upd β (n,0) (some (loc q))) w a (Nat.le_refl _) (by omega) ?_ hsz hdn ?_ (fun p p' g1 g2=>hdis p p' (by omega) (by omega)) (fun p hp=>by rw[hlt p (by omega)];exact hany p (by omega)) ?_ hun ?_ ?_ ?_ ?_ hx2 i2 hN hD x2
  ·intro i it' hi
   have:=hits (i+1) it' (by simpa using hi)
   rw[show q+1+i=q+(i+1) by omega]
   exact this
  ·intro p hp hl
   by_cases hpq:p=q
   ·left;omega
   ·rcases hsub p hp hl with h|⟨g1,zs',d',g2,g3,g4,g5,g6⟩
    ·left;omega
    ·by_cases hlt2:p<q
     ·left;omega
     ·refine .inr ⟨fun b k hk=>?_,zs',d',g2,g3,g4,?_,g6⟩
      ·obtain⟨e1,e2,e3,e4⟩:=g1 b k hk
       refine⟨e1,fun id c hc hh=>?_,e3,e4⟩
       rcases vq hc hI.fresh with⟨rfl,rfl⟩|⟨_,h1⟩
       ·exact hdis p q (by omega) (Nat.le_refl q) hp hq hl hlq hpq b k hk hh
       ·exact e2 id c h1 hh
      ·exact g5.mono' (fun _ _ h=>h) (fun _ _ _=>rfl) (Nat.le_succ n) hup (fun arr el fr h=>⟨arr,fr,h,rfl,.inl rfl⟩) (fun _ _ _ _ h=>h) (fun _ _ _ h=>h)
  ·intro p hp hef hmf
   rcases Nat.lt_or_ge p q with h|h
   ·exact heff p h hef hmf
   ·have:p=q:=by omega
    subst this;exact hlq
  ·intro t
   by_cases hd:(lo q).dst=some t
   ·rw[hd,Env.get_put_same,W2 D hq (by simp) hd,hqv]
   ·have:(e.put (lo q).dst (.ptr (n,0) 0 0)).get t=e.get t:=by
     cases hdd:(lo q).dst with
     |none=>rfl
     |some d=>exact Env.get_put_other e _ (by intro h;subst h;exact hd hdd)
    rw[this,henv t]
    refine vb fun x hx2 hdx=>?_
    have hne:x≠q:=by intro h;subst h;exact hd hdx
    refine⟨by by_cases h:x<q<;>simp[h]<;>omega,fun _=>(hlt x hne).symm⟩
  ·intro t
   by_cases hd:(lo q).dst=some t
   ·rw[W2 D hq hlq hd,hqv]
    rw[hdq] at hd
    simp only[Option.some.injEq] at hd
    subst hd
    rw[hptr]
    refine .ptr (n,0) 0 0 _ (Nat.lt_succ_self n) (fun c hc=>?_)
    rw[xz] at hc
    simp only[Option.some.injEq] at hc
    subst hc
    simp
   ·have:=hmono (hrep t)
    rw[vb (S':=fun x=>listed.getD (ord x) false) (v':=Vu v q (.ptr (n,0) 0 0)) (fun x hx hdx=>?_)] at this
    ·exact this
    ·have hne:x≠q:=by intro h;subst h;exact hd hdx
     exact⟨rfl,fun _=>(hlt x hne).symm⟩
  ·intro x hx hlx
   have hxq:x<q:=by
    rcases Nat.lt_or_ge x q with h|h
    ·exact h
    ·have:x=q:=by omega
     subst this;rw[hlq] at hlx;cases hlx
   unfold ztr
   rw[ua (by omega),hlt x (by omega)]
   refine⟨fun hmf=>?_,fun hm=>(hpend x hxq hlx).2 hm⟩
   cases hld:Zc (lo x).op with
   |false=>rw[Kr (H':=H) hld];exact(hpend x hxq hlx).1 hmf
   |true=>
    have hmem:=hdone x hxq hlx hld
    have hl2:=D.loose x q hxq hq (by rw[←h1];exact hnp) (Bool.eq_false_iff.2 fun hm=>z4f hm hop) hld
    rcases hl2 with h3|h3
    ·have:=D.ancestors hdn q hq (hdn _ hlq) _ h3
     rw[hlx] at this;cases this
    ·exact hloose _ hmem (by rw[h2];exact h3)
  ·intro x hx hlx hld
   have hxq:x<q:=by
    rcases Nat.lt_or_ge x q with h|h
    ·exact h
    ·have:x=q:=by omega
     subst this;rw[hlq] at hlx;cases hlx
   rw[ua (by omega),hlt x (by omega)]
   exact hdone x hxq hlx hld
 ·-- all listed: the end
  have fin:(∀p,p<m→listed.getD (ord p) false=true)→QQ .normal a w:=by
   intro hall
   have hqm:q=m:=by
    cases items with
    |nil=>simp only[List.length_nil] at hlen;omega
    |cons it rest=>
     exfalso
     simp only[List.length_cons] at hlen
     have hnp:ws it.lo.op=false:=by
      cases h:ws it.lo.op with
      |false=>rfl
      |true=>exact absurd ⟨it,rest,rfl,h⟩ hpure
     exact hclaim ⟨it,rest,rfl,hnp,hall q (by omega)⟩
   have:items=[]:=List.length_eq_zero_iff.1 (by omega)
   subst this
   refine hR e H n I β w a hx hI (fun t=>?_) hN hD hX
   rw[henv t,vb (S':=fun x=>listed.getD (ord x) false) (v':=v) (fun p hp _=>⟨by rw[hall p hp];simp;omega,fun _=>rfl⟩)]
   exact hrep t
  have ready_spec:∀i,i∈Region.ready .any ops listed→∃p,p<m∧ord p=i∧listed.getD i false=false∧∀d∈Zd ops i,listed.getD d false=true:=by
   intro i hi
   obtain⟨h1,oi,h2,h3⟩:=mem_ready.1 hi
   have him:i<m:=by rw[←D.size];exact(Array.getElem?_eq_some_iff.1 h2).1
   obtain⟨p,hp,rfl⟩:=D.surj i him
   refine⟨p,hp,rfl,by rw[←zlp (by omega)];exact h1,fun d hd=>?_⟩
   unfold Zd at hd
   rw[h2] at hd
   simp only[List.mem_map,List.mem_filter,Array.mem_toList_iff] at hd
   obtain⟨ed,⟨h4,h5⟩,rfl⟩:=hd
   exact h3 ed h4 h5
  have all_of:Region.ready .any ops listed=[]→∀p,p<m→listed.getD (ord p) false=true:=by
   intro hr p
   induction p using Nat.strongRecOn with
   |_ p ihp=>
    intro hp
    cases hl:listed.getD (ord p) false with
    |true=>rfl
    |false=>
     exfalso
     obtain⟨o,ho,_⟩:=hops p hp
     have:ord p∈Region.ready .any ops listed:=by
      refine mem_ready.2 ⟨by rw[zlp (by rw[hsz];exact D.lt p hp)];exact hl,o,ho,fun ed hed hb=>?_⟩
      have hmem:ed.on∈Zd ops (ord p):=by
       unfold Zd
       rw[ho]
       exact List.mem_map.2 ⟨ed,List.mem_filter.2 ⟨by simpa using hed,hb⟩,rfl⟩
      obtain⟨r,hr2,hre⟩:=D.topo p hp _ hmem
      rw[←hre]
      exact ihp r hr2 (by omega)
     rw[hr] at this
     cases this
  cases fuel with
  |zero=>
   have hall:∀p,p<m→listed.getD (ord p) false=true:=by
    intro p hp
    cases hl:listed.getD (ord p) false with
    |true=>rfl
    |false=>
     have hmem:ord p∈(List.range m).filter (fun i=>!listed.getD i false):=List.mem_filter.2 ⟨List.mem_range.2 (D.lt p hp),by rw[hl];rfl⟩
     have:=List.length_pos_of_mem hmem
     unfold unl at hun
     omega
   refine⟨?_,fin hall⟩
   rw[List.eq_nil_iff_forall_not_mem]
   intro i hi
   obtain⟨p,hp,rfl,hl,_⟩:=ready_spec i hi
   rw[hall p hp] at hl;cases hl
  |succ fuel=>
   refine⟨fun hr=>fin (all_of hr),fun i hi=>?_⟩
   obtain⟨p,hp,rfl,hl,hall⟩:=ready_spec i hi
   obtain⟨o,ho,hlo⟩:=hops p hp
   have hdN:=(uh hlo).1
   have hdst:=(uh hlo).2.1
   have hE:RepEnv I β n w (ue m lo e0 v p) a:=by
    intro t
    rw[zg6]
    split
    ·rename_i ht
     rw[←D.agree hdn hp hl hall ht]
     exact hrep t
    ·exact .any _
   have hset:∀x,(listed.setIfInBounds (ord p) true).getD (ord x) false=if ord p=ord x then true else listed.getD (ord x) false:=fun x=>z0d (by rw[hsz];exact D.lt p hp)
   have hother:∀x,x<m→x≠p→(listed.setIfInBounds (ord p) true).getD (ord x) false=listed.getD (ord x) false:=fun x hx hne=>by
    rw[hset,if_neg (fun h=>hne (D.inj x p hx hp h.symm))]
   have hself:(listed.setIfInBounds (ord p) true).getD (ord p) false=true:=by rw[hset,if_pos rfl]
   have hdn':Down ops (listed.setIfInBounds (ord p) true):=hdn.set hsz (D.lt p hp) hall
   have hun':=zvo hsz (D.lt p hp) hl hun
   -- the slots behind it
   have hrep':∀ {I':Nat→Nat→Prop} {β':Id→Option CLoc} {n':Nat} {w':World} {v':Nat→AVal} {r:Value},(∀t,Rep I' β' n' w' (Xt m lo e0 v (fun x=>listed.getD (ord x) false) t) (a.tmps.getD t undef))→Rep I' β' n' w' (v' p) r→(∀x,x≠p→v' x=v x) →
    ∀t,Rep I' β' n' w' (Xt m lo e0 v' (fun x=>(listed.setIfInBounds (ord p) true).getD (ord x) false) t) ((a.put o.dst r).tmps.getD t undef):=by
    intro I' β' n' w' v' r h1 h2 h3 t
    by_cases hd:(lo p).dst=some t
    ·rw[W2 D hp hself hd]
     rw[hdst] at hd
     rw[hd,zef (by rw[hN];exact hdN t hd)]
     exact h2
    ·rw[z7k (by rw[←hdst];exact hd)]
     have:=h1 t
     rw[vb (S':=fun x=>(listed.setIfInBounds (ord p) true).getD (ord x) false) (v':=v') (fun x hx hdx=>?_)] at this
     ·exact this
     ·have hne:x≠p:=by intro h;subst h;exact hd hdx
      exact⟨(hother x hx hne).symm,fun _=>(h3 x hne).symm⟩
   have hear:∀ {I':Nat→Nat→Prop} {β':Id→Option CLoc} {n':Nat} {H':AHeap} {w':World} {r:Value} {x:Nat},Ext I β n H w I' β' n' H' w'→x<m→x≠p→Ear lo I β n w w0.heap.size a loc x→Ear lo I' β' n' w' w0.heap.size (a.put o.dst r) loc x:=by
    intro I' β' n' H' w' r x hxt hx hne ⟨g1,zs',d',g2,g3,g4,g5,g6⟩
    refine⟨zmm g1 hxt,zs',d',g2,g3,g4,zrs hI g1 hxt g5,?_⟩
    rw[z7k (fun hd=>?_)]
    ·exact g6
    ·rw[←hdst] at hd
     rcases Nat.lt_or_ge x p with h|h
     ·exact D.waw x p h hp d' g4 hd
     ·exact D.waw p x (by omega) hx d' hd g4
   rcases Nat.lt_trichotomy p q with hpq|hpq|hpq
   ·-- a pending one
    by_cases hmp:z4m (lo p)=true
    ·refine z2y (ro:=ro) ho hlo ((hpend p hpq hl).2 hmp H n) hI hE hN (fun r val H' n' I' β' w' hK hI' hr' hx'=>?_)
     obtain⟨rfl,rfl,rfl⟩:=hK
     refine ih (fuel+items.length) (by omega) lo loose ord D hops hap fuel q items _ loc v done e H' n' I' β' w' _ (Nat.le_refl _) hlen hits (by simp[hsz]) hdn' ?_ ?_ hany ?_ hun' henv (hrep' (fun t=>(hrep t).mono hx' hI) hr' (fun _ _=>rfl)) ?_ ?_ hx hI' (by rw[Act.put_size];exact hN) (by rw[Act.put_defers];exact hD.mono hI hx') (hX.trans hx')
     ·intro x hx hlx
      by_cases h:x=p
      ·subst h;exact .inl hpq
      ·rw[hother x hx h] at hlx;exact(hsub x hx hlx).imp id (hear hx' hx h)
     ·intro x x' g1 g2 g3 g4 g5 g6
      rw[hother x g3 (by omega)] at g5
      rw[hother x' g4 (by omega)] at g6
      exact hdis x x' g1 g2 g3 g4 g5 g6
     ·intro x hx hef hmf
      by_cases h:x=p
      ·subst h;exact hself
      ·rw[hother x (by omega) h];exact heff x hx hef hmf
     ·intro x hx hlx
      by_cases h:x=p
      ·subst h;rw[hself] at hlx;cases hlx
      ·rw[hother x (by omega) h] at hlx;exact hpend x hx hlx
     ·intro x hx hlx hld
      by_cases h:x=p
      ·subst h;rw[hself] at hlx;cases hlx
      ·rw[hother x (by omega) h] at hlx;exact hdone x hx hlx hld
    refine zfw (ro:=ro) ho hlo ((hpend p hpq hl).1 (Bool.eq_false_iff.2 hmp)) hI hE hN (fun r hr=>?_)
    refine ih (fuel+items.length) (by omega) lo loose ord D hops hap fuel q items _ loc v done e H n I β w _ (Nat.le_refl _) hlen hits (by simp[hsz]) hdn' ?_ ?_ hany ?_ hun' henv (hrep' hrep hr (fun _ _=>rfl)) ?_ ?_ hx hI (by rw[Act.put_size];exact hN) (by rw[Act.put_defers];exact hD) hX
    ·intro x hx hlx
     by_cases h:x=p
     ·subst h;exact .inl hpq
     ·rw[hother x hx h] at hlx;exact(hsub x hx hlx).imp id (hear (Ext.refl I β n H w hI.fresh) hx h)
    ·intro x x' g1 g2 g3 g4 g5 g6
     rw[hother x g3 (by omega)] at g5
     rw[hother x' g4 (by omega)] at g6
     exact hdis x x' g1 g2 g3 g4 g5 g6
    ·intro x hx hef hmf
     by_cases h:x=p
     ·subst h;exact hself
     ·rw[hother x (by omega) h];exact heff x hx hef hmf
    ·intro x hx hlx
     by_cases h:x=p
     ·subst h;rw[hself] at hlx;cases hlx
     ·rw[hother x (by omega) h] at hlx;exact hpend x hx hlx
    ·intro x hx hlx hld
     by_cases h:x=p
     ·subst h;rw[hself] at hlx;cases hlx
     ·rw[hother x (by omega) h] at hlx;exact hdone x hx hlx hld
   ·-- the head, which changes the heap
    subst hpq
    cases items with
    |nil=>simp only[List.length_nil] at hlen;omega
    |cons it rest=>
     obtain⟨h1,h2⟩:=hits 0 it rfl
     simp only[Nat.add_zero] at h1 h2
     simp only[List.length_cons] at hlen hk
     have hnp:ws it.lo.op=false:=by
      cases h:ws it.lo.op with
      |false=>rfl
      |true=>exact absurd ⟨it,rest,rfl,h⟩ hpure
     unfold xd at hx
     rw[hnp] at hx
     simp only at hx
     have hsees:it.lo.sees e=ue m lo e0 v p:=by
      rw[h1]
      unfold ue LOper.sees
      exact List.map_congr_left fun t _=>by rw[henv t]
     rw[hsees,h1] at hx
     refine z2y (ro:=ro) ho hlo hx hI hE hN (fun r val H' n' I' β' w' hK hI' hr' hx'=>?_)
     obtain⟨hloose,hx2⟩:=hK
     have hlt:∀x,x≠p→Vu v p val x=v x:=fun x hx=>by unfold Vu;rw[if_neg hx]
     have hqv:Vu v p val p=val:=by unfold Vu;rw[if_pos rfl]
     refine ih (fuel+rest.length) (by omega) lo loose ord D hops hap fuel (p+1) rest _ loc (Vu v p val) done _ H' n' I' β' w' _ (Nat.le_refl _) (by omega) ?_ (by simp[hsz]) hdn' ?_ ?_ (fun x hx=>by rw[hlt x (by omega)];exact hany x (by omega)) ?_ hun' ?_
      (hrep' (fun t=>(hrep t).mono hx' hI) (by rw[hqv];exact hr') hlt) ?_ ?_ hx2 hI' (by rw[Act.put_size];exact hN) (by rw[Act.put_defers];exact hD.mono hI hx') (hX.trans hx')
     ·intro i it' hi
      have:=hits (i+1) it' (by simpa using hi)
      rw[show p+1+i=p+(i+1) by omega]
      exact this
     ·intro x hx hlx
      by_cases h:x=p
      ·left;omega
      ·rw[hother x hx h] at hlx;exact(hsub x hx hlx).imp (fun h=>Nat.lt_succ_of_lt h) (hear hx' hx h)
     ·intro x x' g1 g2 g3 g4 g5 g6
      rw[hother x g3 (by omega)] at g5
      rw[hother x' g4 (by omega)] at g6
      exact hdis x x' (by omega) (by omega) g3 g4 g5 g6
     ·intro x hx hef hmf
      by_cases h:x=p
      ·subst h;exact hself
      ·rw[hother x (by omega) h];exact heff x (by omega) hef hmf
     ·intro t
      by_cases hd:(lo p).dst=some t
      ·rw[hd,Env.get_put_same,W2 D hp (by simp) hd,hqv]
      ·have:(e.put (lo p).dst val).get t=e.get t:=by
        cases hdd:(lo p).dst with
        |none=>rfl
        |some d=>exact Env.get_put_other e val (by intro h;subst h;exact hd hdd)
       rw[this,henv t]
       refine vb fun x hx2 hdx=>?_
       have hne:x≠p:=by intro h;subst h;exact hd hdx
       refine⟨by by_cases h:x<p<;>simp[h]<;>omega,fun _=>(hlt x hne).symm⟩
     ·intro x hx hlx
      by_cases h:x=p
      ·subst h;rw[hself] at hlx;cases hlx
      ·have hxp:x<p:=by omega
       rw[hother x (by omega) h] at hlx
       unfold ztr
       rw[ua (by omega),hlt x h]
       refine⟨fun hmf=>?_,fun hm=>(hpend x hxp hlx).2 hm⟩
       cases hld:Zc (lo x).op with
       |false=>rw[Kr (H':=H) hld];exact(hpend x hxp hlx).1 hmf
       |true=>
        have hmem:=hdone x hxp hlx hld
        have hl2:=D.loose x p hxp hp (by rw[←h1];exact hnp) (by rw[←h1];exact Bool.eq_false_iff.2 fun hm=>hmk ⟨it,rest,rfl,hm⟩) hld
        rcases hl2 with h3|h3
        ·have:=D.ancestors hdn p hp hall _ h3
         rw[hlx] at this;cases this
        ·exact hloose _ hmem (by rw[h2];exact h3)
     ·intro x hx hlx hld
      by_cases h:x=p
      ·subst h;rw[hself] at hlx;cases hlx
      ·rw[hother x (by omega) h] at hlx
       rw[ua (by omega),hlt x h]
       exact hdone x (by omega) hlx hld
   ·-- one behind the head waits for the head; or it is a variable that is made ahead of its place
    have hqm:q<m:=by omega
    obtain⟨it,rest,rfl⟩:∃it rest,items=it::rest:=by
     cases items with
     |nil=>simp only[List.length_nil] at hlen;omega
     |cons it rest=>exact⟨it,rest,rfl⟩
    obtain⟨h1,_⟩:=hits 0 it rfl
    simp only[Nat.add_zero] at h1
    have hnp:ws it.lo.op=false:=by
     cases h:ws it.lo.op with
     |false=>rfl
     |true=>exact absurd ⟨it,rest,rfl,h⟩ hpure
    rcases D.eff q p hpq hp (by rw[←h1];exact hnp) (by rw[←h1];exact Bool.eq_false_iff.2 fun hm=>hmk ⟨it,rest,rfl,hm⟩) with hpre|halc|⟨hsw,hqm2,hst1,hst2⟩
    ·exfalso
     have:=D.ancestors hdn p hp hall _ hpre
     exact hclaim ⟨it,rest,rfl,hnp,this⟩
    ·obtain⟨zs,d,hop,hgd,hdp⟩:∃zs d,(lo p).op=.alloc zs∧(lo p).guard=none∧(lo p).dst=some d:=by
      unfold zp8 at halc
      split at halc
      ·rename_i g1 g2 g3;exact⟨_,_,g1,g2,g3⟩
      ·cases halc
     refine zqp (ro:=ro) (K0:=w0.heap.size) ho hlo hop hgd hI hX.size (fun c w' hcb i1 x1 hf hB=>?_)
     have hloc:∀x,x≠p→(fun y=>if y=p then c else loc y) x=loc x:=fun x hx=>by simp[hx]
     have hear':∀ {r:Value} {x:Nat},x<m→x≠p→Ear lo I β n w w0.heap.size a loc x→Ear lo I β n w' w0.heap.size (a.put o.dst r) (fun y=>if y=p then c else loc y) x:=by
      intro r x hx hne h
      have:=hear (r:=r) x1 hx hne h
      unfold Ear at this ⊢
      rw[hloc x hne]
      exact this
     refine ih (fuel+(it::rest).length) (by omega) lo loose ord D hops hap fuel q (it::rest) _ (fun y=>if y=p then c else loc y) v done e H n I β w' _ (Nat.le_refl _) hlen hits (by simp[hsz]) hdn' ?_ ?_ hany ?_ hun' henv
      (hrep' (fun t=>(hrep t).mono x1 hI) (by rw[hany p (by omega)];exact .any _) (fun _ _=>rfl)) ?_ ?_ hx i1 (by rw[Act.put_size];exact hN) (by rw[Act.put_defers];exact hD.mono hI x1) (hX.trans x1)
     ·intro x hx hlx
      by_cases h:x=p
      ·subst h
       refine .inr ⟨by simpa using hf,zs,d,hop,hgd,hdp,by simpa using hB,?_⟩
       have hdp2:o.dst=some d:=by rw[←hdst];exact hdp
       rw[hdp2,zef (by rw[hN];exact hdN d hdp2)]
       simp
      ·rw[hother x hx h] at hlx;exact(hsub x hx hlx).imp id (hear' hx h)
     ·intro x x' g1 g2 g3 g4 g5 g6 hne b k hk hk'
      have far:∀y,y<m→y≠p→q≤y→(listed.setIfInBounds (ord p) true).getD (ord y) false=true→(loc y).has b k→c.has b k→False:=by
       intro y hy hyp hqy hly h1 h2
       rw[hother y hy hyp] at hly
       rcases hsub y hy hly with h|⟨g,_⟩
       ·omega
       ·have:=(g b k h1).2.2.2
        have e2:c.blk=b:=h2.1
        omega
      by_cases hxp:x=p
      ·subst hxp
       rw[if_pos rfl] at hk
       rw[if_neg (fun h=>hne h.symm)] at hk'
       exact far x' g4 (fun h=>hne h.symm) g2 g6 hk' hk
      ·rw[if_neg hxp] at hk
       by_cases hxp':x'=p
       ·subst hxp'
        rw[if_pos rfl] at hk'
        exact far x g3 hxp g1 g5 hk hk'
       ·rw[if_neg hxp'] at hk'
        rw[hother x g3 hxp] at g5
        rw[hother x' g4 hxp'] at g6
        exact hdis x x' g1 g2 g3 g4 g5 g6 hne b k hk hk'
     ·intro x hx hef hmf
      rw[hother x (by omega) (by omega)];exact heff x hx hef hmf
     ·intro x hx hlx
      rw[hother x (by omega) (by omega)] at hlx;exact hpend x hx hlx
     ·intro x hx hlx hld
      rw[hother x (by omega) (by omega)] at hlx;exact hdone x hx hlx hld
    ·-- the last two change places
     have hpq1:p=q+1:=by omega
     subst hpq1
     subst hsw
     obtain⟨it2,rfl⟩:∃it2,rest=[it2]:=by
      cases rest with
      |nil=>simp only[List.length_cons,List.length_nil] at hlen;omega
      |cons it2 r=>cases r with
       |nil=>exact⟨it2,rfl⟩
       |cons _ _=>simp only[List.length_cons] at hlen;omega
     have hap':=hap rfl (by omega)
     rw[show m-2=q by omega,show m-1=q+1 by omega] at hap'
     obtain⟨e1,e2⟩:=hits 0 it rfl
     obtain⟨e3,e4⟩:=hits 1 it2 rfl
     simp only[Nat.add_zero] at e1 e2
     have d1:=(Xs hst1).1
     have d2:=(Xs hst2).1
     have hqun:listed.getD (ord q) false=false:=by
      cases hlq:listed.getD (ord q) false with
      |false=>rfl
      |true=>exact absurd ⟨it,[it2],rfl,hnp,hlq⟩ hclaim
     have hnd:ord q∉Zd ops (ord (q+1)):=fun h=>by
      have:=hall _ h
      rw[hqun] at this;cases this
     have hloads:∀x,x<q→Zc (lo x).op=true→listed.getD (ord x) false=true:=fun x hx hld=>by
      have:=(D.swl rfl x (by omega) hld).1
      rw[show m-1=q+1 by omega] at this
      exact D.ancestors hdn (q+1) hp hall _ this
     have hsq:ue m lo e0 v q=(lo q).sees e:=by
      unfold ue LOper.sees
      exact List.map_congr_left fun t _=>by rw[henv t]
     have hsp:ue m lo e0 v (q+1)=(lo (q+1)).sees e:=by
      unfold ue LOper.sees
      refine List.map_congr_left fun t _=>?_
      rw[henv t]
      congr 1
      refine vb fun r hr hd=>⟨?_,fun _=>rfl⟩
      have:r≠q:=by intro h;subst h;rw[d1] at hd;cases hd
      by_cases h:r<q<;>simp[h]<;>omega
     have hx2:z07 P ((lo (q+1)).sees e) H n (fun v H' n'=>n'=n∧z07 P ((lo q).sees e) H' n' (fun v1 H2 n2=>(∀x∈([]:List (Nat×LOper×Env×AVal)),x.1∈it.loose→(Xp x.2.2.1 H2 x.2.1).gives x.2.2.2)∧R e H2 n2) (lo q)) (lo (q+1)):=by
      unfold xd at hx
      rw[hnp] at hx
      simp only at hx
      unfold xd at hx
      rw[e3,(zjn hst2).1] at hx
      simp only[xd] at hx
      rw[e1,d1,d2] at hx
      simp only[Env.put] at hx
      exact zwz hst1 hst2 hap' (fun _ _ _ h=>⟨fun _ h=>by(cases h),h⟩) hx
     refine z2y (ro:=ro) ho hlo (by rw[hsp];exact hx2) hI hE hN (fun r val H' n' I' β' w' hK hI' hr' hx'=>?_)
     obtain⟨rfl,hK⟩:=hK
     have D':=D.swap rfl hqm2 hst1 hst2 hnd
     have hvp:v (q+1)=.any:=hany _ (by omega)
     refine ih (fuel+1) (by simp only[List.length_cons,List.length_nil] at hk;omega) (fun x=>lo (sg q x)) (fun x=>loose (sg q x)) (fun x=>ord (sg q x)) D' (fun x hx=>hops _ (zvw hqm2 hx)) ?_ fuel (q+1) [it] _ loc v [] e H' n' I' β' w' _ (Nat.le_refl _) (by simp only[List.length_cons,List.length_nil];omega) ?_ (by simp[hsz]) hdn' ?_ ?_ (fun x hx=>hany x (by omega)) ?_ hun' ?_ ?_ ?_ ?_ ?_ hI' (by rw[Act.put_size];exact hN) (by rw[Act.put_defers];exact hD.mono hI hx') (hX.trans hx')
     ·intro _ _
      rw[show m-2=q by omega,show m-1=q+1 by omega]
      simp only[zge,zpc]
      exact fun hs k a x k' a' x' g1 g2 e H n hr=>zfz (hap' hs k' a' x' k a x g2 g1 e H n hr)
     ·intro i it' hi
      cases i with
      |zero=>
       simp only[List.getElem?_cons_zero,Option.some.injEq] at hi
       subst hi
       simp only[Nat.add_zero,zpc]
       exact⟨e1,e2⟩
      |succ i=>simp at hi
     ·intro x hx hlx
      rcases Nat.lt_or_ge x (q+1) with h|h
      ·exact .inl h
      ·exfalso
       have:x=q+1:=by omega
       subst this
       simp only[zpc] at hlx
       rw[hother q (by omega) (by omega),hqun] at hlx
       cases hlx
     ·intro x x' g1 g2 g3 g4 g5 g6 hne
      omega
     ·intro x hx hef hmf
      rcases Nat.lt_or_ge x q with h|h
      ·simp only[Kw h] at hef hmf ⊢
       rw[hother x (by omega) (by omega)]
       exact heff x h hef hmf
      ·have:x=q:=by omega
       subst this
       simp only[zge]
       exact hself
     ·intro t
      rw[z6o hqm2 hst1 hst2 (S':=fun x=>decide (x<q)) (fun x hx=>by simp[hx];omega)]
      exact henv t
     ·intro t
      rw[z6o hqm2 hst1 hst2 (S':=fun x=>(listed.setIfInBounds (ord (q+1)) true).getD (ord x) false) (fun x hx=>by rw[Kw hx])]
      exact hrep' (fun t=>(hrep t).mono hx' hI) (by rw[hvp];exact .any _) (fun _ _=>rfl) t
     ·intro x hx hlx
      rcases Nat.lt_or_ge x q with h|h
      ·simp only[Kw h] at hlx
       rw[hother x (by omega) (by omega)] at hlx
       have hse:ue m (fun x=>lo (sg q x)) e0 v x=ue m lo e0 v x:=by
        unfold ue
        simp only[Kw h]
        refine List.map_congr_left fun t _=>?_
        rw[z6o hqm2 hst1 hst2 (S':=fun y=>decide (y<x)) (fun y hy=>rfl)]
       unfold ztr
       rw[hse]
       simp only[Kw h]
       refine⟨fun hmf=>?_,fun hm=>(hpend x h hlx).2 hm⟩
       cases hld:Zc (lo x).op with
       |false=>rw[Kr (H':=H) hld];exact(hpend x h hlx).1 hmf
       |true=>have:=hloads x h hld;rw[hlx] at this;cases this
      ·have:x=q:=by omega
       subst this
       simp only[zge] at hlx
       rw[hself] at hlx;cases hlx
     ·intro x hx hlx hld
      exfalso
      rcases Nat.lt_or_ge x q with h|h
      ·simp only[Kw h] at hlx hld
       rw[hother x (by omega) (by omega)] at hlx
       have:=hloads x h hld
       rw[hlx] at this;cases this
      ·have:x=q:=by omega
       subst this
       simp only[zge] at hlx
       rw[hself] at hlx;cases hlx
     ·unfold xd
      rw[hnp]
      simp only[xd]
      rw[e1,d1]
      simp only[Env.put]
      exact hK
end Go.Fx
