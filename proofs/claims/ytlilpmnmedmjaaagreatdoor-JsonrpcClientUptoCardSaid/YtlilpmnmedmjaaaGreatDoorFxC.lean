/-
  Own framework.
-/
import Derived.Test.YtlilpmnmedmjaaaGreatDoorFxB
namespace Go.Fx
set_option linter.unusedVariables false
variable {P:Program}
theorem z7x{t:TypeId}{g:Bool}(h:W5 P t=some g)(w:World):(isAgg t).run P w=.ok g w:=by
 unfold W5 at h
 unfold isAgg underlying
 cases hu:P.underlying t with
 |none=>simp[hu] at h
 |some d=>cases d<;>simp[hu] at h ⊢<;>simp[←h]
theorem x7{t:TypeId}{n:Nat}(h:wj P t=some n)(w:World):(sizeOf t).run P w=.ok n w:=by
 unfold wj at h
 unfold sizeOf typeInfo
 cases hu:P.info? t with
 |none=>simp[hu] at h
 |some i=>simp[hu] at h ⊢;exact h
theorem zf{t:TypeId}{d:TypeDesc}(h:P.underlying t=some d)(w:World):(underlying t).run P w=.ok d w:=by
 unfold underlying;simp[h]
theorem j5(b o j:Nat):(⟨b,o,none⟩:Addr).add j=⟨b,o+j,none⟩:=by
 unfold Addr.add;split
 ·simp_all
 ·rfl
theorem z5t{w:World}{a:Addr}{v:Value}(h:w.cell? a=some v):(load a).run P w=.ok v w:=by simp[h]
theorem Xf{w:World}{b o:Nat}(f:Nat→Value):∀ (n i:Nat) (acc:Array Value),(∀j,i≤j→j<i+n→w.cell? ⟨b,o+j,none⟩=some (f j)) →
 (loadCellsFrom ⟨b,o,none⟩ i n acc).run P w=.ok (acc++((List.range' i n).map f).toArray) w
 |0,i,acc,_=>by simp[loadCellsFrom]
 |n+1,i,acc,h=>by
  unfold loadCellsFrom
  rw[Sem.run_bind,j5,z5t (h i (Nat.le_refl _) (by omega)),Result.andThen_ok,Xf f n (i+1) _ (fun j h1 h2=>h j (by omega) (by omega))]
  simp[List.range'_succ]
theorem Xm{w:World}{b o:Nat}(f:Nat→Value)(n:Nat)(h:∀j,j<n→w.cell? ⟨b,o+j,none⟩=some (f j)) :
 (loadCells ⟨b,o,none⟩ n).run P w=.ok ((List.range n).map f).toArray w:=by
 unfold loadCells
 rw[Xf f n 0 #[] (fun j _ h2=>h j (by omega))]
 simp[List.range_eq_range']
section
variable {I:Nat→Nat→Prop} {β:Id→Option CLoc} {n:Nat} {H:AHeap} {w:World} {e:Env} {a:Act}
theorem Ve{v:Value}(h:xp v=true):v.cells=#[v]:=by cases v<;>simp[xp] at h<;>rfl
theorem z18{x:AVal}{v:Value}{cs:List AVal}(h:Rep I β n w x v)(hc:x.cells? = some cs) :
 v.cells.size=cs.length∧(∀u∈v.cells.toList,xp u=true)∧∀ (i:Nat) (y:AVal) (u:Value),cs[i]?=some y→v.cells[i]?=some u→Rep I β n w y u:=by
 have one:x.cells? = some [x]→xp v=true→Rep I β n w x v→cs=[x]→v.cells.size=cs.length∧(∀u∈v.cells.toList,xp u=true)∧∀ (i:Nat) (y:AVal) (u:Value),cs[i]?=some y→v.cells[i]?=some u→Rep I β n w y u:=by
  intro _ h2 h3 h4
  subst h4
  rw[Ve h2]
  refine⟨rfl,by simpa using h2,?_⟩
  intro i y u hy hu
  cases i with
  |zero=>simp at hy hu;subst hy;subst hu;exact h3
  |succ i=>simp at hy
 cases h with
 |any _=>simp[AVal.cells?] at hc
 |cnd _ _ _ _ _=>simp[AVal.cells?] at hc
 |tup _ _ _ _=>simp[AVal.cells?] at hc
 |agg cs' vs h1 h2 h3=>simp[AVal.cells?] at hc;subst hc;exact⟨h1,h2,h3⟩
 |fn f a c fs gs h1 h2 h3 h4=>simp[AVal.cells?] at hc;exact one rfl rfl (.fn f a c fs gs h1 h2 h3 h4) hc.symm
 |ifc t x v h=>simp[AVal.cells?] at hc;exact one rfl rfl (.ifc t x v h) hc.symm
 |osl tok s es v h1 h2 h3=>
  simp[AVal.cells?] at hc
  have hcell:xp v=true:=by cases h2<;>rfl
  exact one rfl hcell (.osl tok s es v h1 h2 h3) hc.symm
 |ptr b i off ad h1 h2=>simp[AVal.cells?] at hc;exact one rfl rfl (.ptr b i off ad h1 h2) hc.symm
 |msl b s off len f ad cap h0 h1 h2 h3=>simp[AVal.cells?] at hc;exact one rfl rfl (.msl b s off len f ad cap h0 h1 h2 h3) hc.symm
 |map b r h1 h2=>simp[AVal.cells?] at hc;exact one rfl rfl (.map b r h1 h2) hc.symm
 |optp b r h1 h2=>simp[AVal.cells?] at hc;exact one rfl rfl (.optp b r h1 h2) hc.symm
 |imm x v h=>
  cases h with
  |agg cs' vs h1 h2 h3=>simp[AVal.cells?] at hc;subst hc;exact⟨h1,h2,fun i y u hy hu=>.imm _ _ (h3 i y u hy hu)⟩
  |tup _ _ _ _=>simp[AVal.cells?] at hc
  |val v hv=>
   have hc':cs=[.val v]:=by cases v<;>simp[AVal.cells?,xp] at hc hv<;>exact hc.symm
   exact one (by cases v<;>simp[AVal.cells?,xp] at hc hv ⊢) hv (.imm _ _ (.val v hv)) hc'
  |_=>simp[AVal.cells?] at hc;exact one rfl rfl (.imm _ _ (by constructor<;>assumption)) hc.symm
theorem Uz{t:TypeId}{g:Bool}{m:Nat}(ht:W5 P t=some g)(hs:wj P t=some m)(hg:g=true∨m=1){b o off:Nat}{r:List AVal}(f:Nat→Value)
 (hc:∀j,j<m→w.cell? ⟨b,o+j,none⟩=some (f j)) (hi:∀j,j<m→xp (f j)=true) (hr:∀j,j<m→Rep I β n w (r.getD (off+j) .any) (f j)) (hl:off+m≤r.length) :
 ∃v,(loadVar t ⟨b,o,none⟩).run P w=.ok v w∧Rep I β n w (xh g m off r) v:=by
 unfold loadVar
 rw[Sem.run_bind,z7x ht,Result.andThen_ok]
 cases g with
 |true=>
  refine⟨.agg ((List.range m).map f).toArray,?_,?_⟩
  ·simp[x7 hs,Xm f m hc]
  ·simp only[xh,if_true]
   refine .agg _ _ (by simp;omega) (by simpa using hi) ?_
   intro i x v hx hv
   simp only[List.getElem?_toArray,List.getElem?_map] at hv
   by_cases hlt:i<m
   ·rw[List.getElem?_range hlt] at hv
    simp at hv;subst hv
    rw[List.getElem?_take_of_lt hlt,List.getElem?_drop] at hx
    have:=hr i hlt
    rwa [List.getD_eq_getElem?_getD,hx,Option.getD_some] at this
   ·rw[List.getElem?_eq_none (by simp;omega)] at hv;simp at hv
 |false=>
  have hm:m=1:=by rcases hg with h|h;cases h;exact h
  subst hm
  refine⟨f 0,?_,?_⟩
  ·have:=hc 0 (by omega)
   simp at this ⊢
   rw[this]
  ·simpa[xh] using hr 0 (by omega)
theorem getD_of_getElem? {r:List AVal} {i:Nat} {x:AVal} (h:r[i]?=some x):r.getD i .any=x:=by
 rw[List.getD_eq_getElem?_getD,h];rfl
theorem z3j{t:TypeId}{g:Bool}{m:Nat}(ht:W5 P t=some g)(hs:wj P t=some m)(hg:g=true∨m=1){b:Id}{i off s:Nat}{es:List (List AVal)}{v:Value}(hx:Rep I β n w (.ptr b i off) v)
 {c:CLoc} (hc:β b=some c) (hB:RepB I β n w c (.rows s es)) (h1:i<es.length) (h2:off+m≤s):∃u,(Instr.loadAt t v).run P w=.ok u w∧Rep I β n w (xh g m off (es.getD i [])) u:=by
 obtain⟨rfl,_,_,_,_,hlen,hcell⟩:=hB
 cases hx with
 |imm _ _ hx=>cases hx
 |ptr _ _ _ ad _ hp=>
  have hp:=hp c hc
  subst hp
  have hri:es[i]?=some (es.getD i []):=by simp[List.getElem?_eq_getElem h1]
  have hl:=hlen i _ hri
  simp only[Instr.loadAt,Instr.sureAddr,pure_bind]
  have key:∀j,j<m→∃u,w.cell? ⟨c.blk,c.base+i*c.s+off+j,none⟩=some u∧xp u=true∧Rep I β n w ((es.getD i []).getD (off+j) .any) u:=by
   intro j hj
   obtain⟨u,h1,h2,h3⟩:=hcell i _ (off+j) _ hri (List.getElem?_eq_getElem (by omega:off+j<(es.getD i []).length))
   refine⟨u,?_,h2,?_⟩
   ·rw[←h1];congr 2;omega
   ·rw[getD_of_getElem? (List.getElem?_eq_getElem (by omega:off+j<(es.getD i []).length))];exact h3
  refine Uz ht hs hg (fun j=>if h:j<m then Classical.choose (key j h) else default) ?_ ?_ ?_ (by omega)
  all_goals
   intro j hj
   simp only[hj,dif_pos]
   have:=Classical.choose_spec (key j hj)
   first|exact this.1|exact this.2.1|exact this.2.2
theorem z2m{t:TypeId}{g:Bool}{m:Nat}(ht:W5 P t=some g)(hs:wj P t=some m)(hg:g=true∨m=1)(hI:Inv I β n H w){x y:AVal}{v:Value}(hx:Rep I β n w x v)
 {side:Prop} (h:z05 g m H x=.ok side y) (hside:side):∃u,(Instr.loadAt t v).run P w=.ok u w∧Rep I β n w y u:=by
 cases x<;>simp only[z05] at h<;>try (cases h;done)
 case iptr s es i off=>
  simp only[XR.ok.injEq] at h
  obtain⟨rfl,rfl⟩:=h
  obtain⟨h1,h2⟩:=hside
  cases hx with
  |imm _ _ hx=>
   cases hx with
   |iptr _ _ b o _ _ vf hb hlen hcell hic hrep=>
    have hri:es[i]?=some (es.getD i []):=by simp[List.getElem?_eq_getElem h1]
    have hl:=hlen i _ hri
    simp only[Instr.loadAt,Instr.sureAddr,pure_bind]
    refine Uz ht hs hg (fun j=>vf i (off+j)) ?_ ?_ ?_ (by omega)
    ·intro j hj
     have:=hcell i _ (off+j) _ hri (List.getElem?_eq_getElem (by omega:off+j<(es.getD i []).length))
     rw[←this];congr 2;omega
    ·intro j hj
     exact hic i _ (off+j) _ hri (List.getElem?_eq_getElem (by omega:off+j<(es.getD i []).length))
    ·intro j hj
     have:=hrep i _ (off+j) _ hri (List.getElem?_eq_getElem (by omega:off+j<(es.getD i []).length))
     rw[getD_of_getElem? (List.getElem?_eq_getElem (by omega:off+j<(es.getD i []).length))]
     exact .imm _ _ this
 case ptr b i off=>
  cases hb:H.get b with
  |none=>simp[hb] at h
  |some blk=>
   cases blk with
   |amap es=>simp[hb] at h
   |tok=>simp[hb] at h
   |bld T g=>simp[hb] at h
   |lrec l r e=>simp[hb] at h
   |rmap es arr ck=>simp[hb] at h
   |itr m arr ck seen=>simp[hb] at h
   |mbox b'=>simp[hb] at h
   |buf e bs=>simp[hb] at h
   |one cs=>
    simp only[hb,XR.ok.injEq] at h
    obtain⟨rfl,rfl⟩:=h
    obtain⟨rfl,h2⟩:=hside
    obtain⟨c,hc,hB⟩:=hI.blocks b _ hb
    exact z3j ht hs hg hx hc (u0.1 hB) (by simp) h2
   |rows s es=>
    simp only[hb,XR.ok.injEq] at h
    obtain⟨rfl,rfl⟩:=h
    obtain⟨h1,h2⟩:=hside
    obtain⟨c,hc,hB⟩:=hI.blocks b _ hb
    exact z3j ht hs hg hx hc hB h1 h2
theorem Rep.int_inv{k:IntKind}{m:Int}{v:Value}(h:Rep I β n w (.int k m) v):v=.int k m:=by
 cases h with
 |imm _ _ h=>cases h;rfl
theorem Rep.bool_inv{b:Bool}{v:Value}(h:Rep I β n w (.bool b) v):v=.bool b:=by
 cases h with
 |imm _ _ h=>cases h;rfl
theorem Rep.str_inv{l:List UInt8}{v:Value}(h:Rep I β n w (.str l) v):v=.string ⟨⟨l⟩⟩:=by
 cases h with
 |imm _ _ h=>cases h;rfl
theorem Rep.val_inv{u v:Value}(h:Rep I β n w (.val u) v):v=u:=by
 cases h with
 |imm _ _ h=>cases h;rfl
theorem Qh(l:List UInt8):(⟨⟨l⟩⟩:ByteArray).toList=l:=by rw[ByteArray.toList_eq]
theorem z9c(l m:List UInt8):(⟨⟨l⟩⟩:ByteArray)++(⟨⟨m⟩⟩:ByteArray)=⟨⟨l++m⟩⟩:=by
 apply ByteArray.ext;simp[ByteArray.data_append]
theorem zgd{op:BinOp}{t:TypeId}{xo yo:Operand}{x y z:AVal}{v u:Value}(hx:Rep I β n w x v)(hy:Rep I β n w y u){side:Prop}(h:zku op x y=.ok side z)(hside:side) :
 ∃r,(do eqGuard op t xo yo v u;binOp op t v u:Sem Value).run P w=.ok r w∧Rep I β n w z r:=by
 cases x<;>cases y<;>simp only[zku] at h<;>try (cases h;done)
 case int.int k p k' q=>
  obtain rfl:=hx.int_inv
  obtain rfl:=hy.int_inv
  cases op<;>simp only[XR.ok.injEq] at h<;>obtain⟨rfl,rfl⟩:=h
  all_goals (try (obtain⟨hk,hq⟩:=hside))<;>(try subst hk)<;>(try (subst hside))
  all_goals refine⟨_,?_,.imm _ _ (by constructor)⟩
  all_goals simp[eqGuard,binOp,Op.intArith,Op.intDiv,Op.intBits,Op.intCmp,Op.shift,V8, *]
  all_goals (intro hq;omega)
 case str.str l m=>
  obtain rfl:=hx.str_inv
  obtain rfl:=hy.str_inv
  have e1:(⟨⟨l⟩⟩:ByteArray).size=l.length:=rfl
  have e2:(⟨⟨m⟩⟩:ByteArray).size=m.length:=rfl
  have e3:IntKind.i64.max=9223372036854775807:=by decide
  cases op<;>simp only[XR.ok.injEq,reduceCtorEq] at h<;>(try (cases h;done))<;>obtain⟨rfl,rfl⟩:=h
  all_goals refine⟨_,?_,.imm _ _ (by constructor)⟩
  all_goals simp[eqGuard,binOp,Op.stringOp,e1,e2,e3]
  rw[if_neg (by omega),z9c]
theorem zl9{op:UnOp}{x z:AVal}{v:Value}(hx:Rep I β n w x v){side:Prop}(h:xun op x=.ok side z):∃r,(Op.unary op v).run P w=.ok r w∧Rep I β n w z r:=by
 cases x<;>simp only[xun] at h<;>try (cases h;done)
 case bool b=>
  obtain rfl:=hx.bool_inv
  cases op<;>simp only[XR.ok.injEq,reduceCtorEq] at h<;>(try (cases h;done))
  obtain⟨rfl,rfl⟩:=h
  exact⟨_,rfl,.imm _ _ (.bool _)⟩
 case int k m=>
  obtain rfl:=hx.int_inv
  cases op<;>simp only[XR.ok.injEq,reduceCtorEq] at h<;>(try (cases h;done))<;>obtain⟨rfl,rfl⟩:=h
  all_goals exact⟨_,rfl,.imm _ _ (.int _ _)⟩
theorem Rep.ptr_inv{b:Id}{i off:Nat}{v:Value}(h:Rep I β n w (.ptr b i off) v):∃a,v=.pointer (some a):=by
 cases h with
 |imm _ _ h=>cases h
 |ptr _ _ _ a _ _=>exact⟨a,rfl⟩
theorem Rep.iptr_inv{s i off:Nat}{es:List (List AVal)}{v:Value}(h:Rep I β n w (.iptr s es i off) v):∃b o,v=.pointer (some ⟨b,o,none⟩):=by
 cases h with
 |imm _ _ h=>cases h;exact⟨_,_,rfl⟩
theorem Rep.msl_inv{b:Id}{s off len:Nat}{f:Bool}{v:Value}(h:Rep I β n w (.msl b s off len f) v):∃a cap,v=.slice a len cap∧len≤cap∧(f=true→cap=len)∧(a=none→cap=0):=by
 cases h with
 |imm _ _ h=>cases h
 |msl _ _ _ _ _ a cap _ h1 h2 _=>exact⟨a,cap,rfl,h1.1,h2,h1.2⟩
theorem Rep.isl_inv{s:Nat}{es:List (List AVal)}{f:Bool}{v:Value}(h:Rep I β n w (.isl s es f) v):∃a cap,v=.slice a es.length cap∧es.length≤cap∧(f=true→cap=es.length)∧(es≠[]→a≠none):=by
 cases h with
 |imm _ _ h=>
  cases h with
  |islNil=>exact⟨none,0,rfl,Nat.le_refl _,fun _=>rfl,fun h=>absurd rfl h⟩
  |islEmpty _ _ a cap h=>exact⟨some a,cap,rfl,Nat.zero_le _,h,fun h=>absurd rfl h⟩
  |isl _ _ _ b o cap vf h1 h2 h3=>exact⟨_,cap,rfl,h2,h3,fun _ h=>by cases h⟩
theorem Rep.rd{x:AVal}{v:Value}(h:Rep I β n w x v):Rep I β n w x.rd v:=by
 cases x with
 |osl tok s es=>
  cases h with
  |imm _ _ h=>cases h
  |osl _ _ _ _ _ h=>exact .imm _ _ h
 |_=>exact h
theorem z86{t:TypeId}{fs:Array Field}{i:Nat}{f:Field}{m:Nat}(ht:P.underlying t=some (.struct fs))(hf:fs[i]?=some f)(hs:wj P f.type=some m)(hm:m≠0)
 {x y:AVal} {v:Value} (hx:Rep I β n w x v) {side:Prop} (h:z3p f.offset x=.ok side y):∃u,(Instr.fieldAt t v i).run P w=.ok u w∧Rep I β n w y u:=by
 have key:∀ad:Addr,(Instr.fieldAt t (.pointer (some ad)) i).run P w=.ok (.pointer (some (ad.add f.offset))) w:=by
  intro ad
  simp only[Instr.fieldAt,Instr.sureAddr,fieldPlace,Sem.run_bind,zf ht,Result.andThen_ok,hf,Sem.run_pure,x7 hs,pure_bind,Sem.run_ite,if_neg hm]
 cases x<;>simp only[z3p] at h<;>try (cases h;done)
 case iptr s es i0 o=>
  simp only[XR.ok.injEq] at h
  obtain⟨_,rfl⟩:=h
  cases hx with
  |imm _ _ hx=>
   cases hx with
   |iptr _ _ b o' _ _ vf hb hlen hcell hic hrep=>
    refine⟨_,key _,?_⟩
    rw[j5,Nat.add_assoc]
    exact .imm _ _ (.iptr s es b o' i0 (o+f.offset) vf hb hlen hcell hic hrep)
 case ptr b i0 o=>
  simp only[XR.ok.injEq] at h
  obtain⟨_,rfl⟩:=h
  cases hx with
  |imm _ _ hx=>cases hx
  |ptr _ _ _ ad hb hp=>
   refine⟨_,key _,.ptr _ _ _ _ hb fun c hc=>?_⟩
   rw[hp c hc,j5,Nat.add_assoc]
theorem Zn(k:IntKind)(m:Int):(asIntOf (.int k m)).run P w=.ok (k,m) w:=rfl
theorem zag{t c:TypeId}{s:Nat}(ht:P.underlying t=some (.slice c))(hs:wj P c=some s){x j y:AVal}{v u:Value}(hx:Rep I β n w x v)(hj:Rep I β n w j u)
 {side:Prop} (h:z1x s x j=.ok side y) (hside:side):∃r,(Instr.indexAt t v u).run P w=.ok r w∧Rep I β n w y r:=by
 have key:∀ (ad:Addr) (len cap:Nat) (k:IntKind) (m:Int),0≤m→m<(len:Int)→(Instr.indexAt t (.slice (some ad) len cap) (.int k m)).run P w=.ok (.pointer (some (ad.add (m.toNat * s)))) w:=by
  intro ad len cap k m h1 h2
  simp only[Instr.indexAt,Sem.run_bind,Zn,zf ht,Result.andThen_ok,Sem.run_pure,if_pos (And.intro h1 h2),x7 hs,Sem.run_ite]
 cases x<;>cases j<;>simp only[z1x] at h<;>try (cases h;done)
 case isl.int s' es f k m=>
  simp only[XR.ok.injEq] at h
  obtain⟨rfl,rfl⟩:=h
  obtain⟨rfl,h1,h2⟩:=hside
  obtain rfl:=hj.int_inv
  cases hx with
  |imm _ _ hx=>
   cases hx with
   |islNil=>simp at h2;omega
   |islEmpty=>simp at h2;omega
   |isl _ _ _ b o cap vf hb hcap hf hlen hcell hic hrep=>
    refine⟨_,key _ _ _ _ _ h1 h2,?_⟩
    rw[j5]
    exact .imm _ _ (.iptr s es b o m.toNat 0 vf hb hlen hcell hic hrep)
 case msl.int b s' off len f k m=>
  simp only[XR.ok.injEq] at h
  obtain⟨rfl,rfl⟩:=h
  obtain⟨rfl,h1,h2⟩:=hside
  obtain rfl:=hj.int_inv
  cases hx with
  |imm _ _ hx=>cases hx
  |msl _ _ _ _ _ ad cap hb hcap hf hp=>
   have hne:cap≠0:=by omega
   cases ad with
   |none=>exact absurd (hcap.2 rfl) hne
   |some ad=>
   refine⟨_,key _ _ _ _ _ h1 h2,.ptr _ _ _ _ hb fun c hc=>?_⟩
   obtain⟨h3,h4⟩:=hp c hc
   rw[Option.some.inj (h4 hne).1,j5,h3,Nat.add_mul,Nat.add_zero,Nat.add_assoc]
theorem z5p{t c:TypeId}{s len:Nat}(ht:P.underlying t=some (.array len c))(hs:wj P c=some s){x j y:AVal}{v u:Value}(hx:Rep I β n w x v)(hj:Rep I β n w j u)
 {side:Prop} (h:z1b len s x j=.ok side y) (hside:side):∃r,(Instr.indexAt t v u).run P w=.ok r w∧Rep I β n w y r:=by
 have key:∀ (ad:Addr) (k:IntKind) (m:Int),0≤m→m<(len:Int)→(Instr.indexAt t (.pointer (some ad)) (.int k m)).run P w=.ok (.pointer (some (ad.add (m.toNat * s)))) w:=by
  intro ad k m h1 h2
  simp only[Instr.indexAt,Instr.sureAddr,Sem.run_bind,Zn,zf ht,Result.andThen_ok,Sem.run_pure,if_pos (And.intro h1 h2),x7 hs,Sem.run_ite]
 cases x<;>cases j<;>simp only[z1b] at h<;>try (cases h;done)
 case iptr.int s' es i0 o k m=>
  simp only[XR.ok.injEq] at h
  obtain⟨rfl,rfl⟩:=h
  obtain⟨h1,h2⟩:=hside
  obtain rfl:=hj.int_inv
  cases hx with
  |imm _ _ hx=>
   cases hx with
   |iptr _ _ b o' _ _ vf hb hlen hcell hic hrep=>
    refine⟨_,key _ _ _ h1 h2,?_⟩
    rw[j5,Nat.add_assoc]
    exact .imm _ _ (.iptr s' es b o' i0 (o+m.toNat * s) vf hb hlen hcell hic hrep)
 case ptr.int b i0 o k m=>
  simp only[XR.ok.injEq] at h
  obtain⟨rfl,rfl⟩:=h
  obtain⟨h1,h2⟩:=hside
  obtain rfl:=hj.int_inv
  cases hx with
  |imm _ _ hx=>cases hx
  |ptr _ _ _ ad hb hp=>
   refine⟨_,key _ _ _ h1 h2,.ptr _ _ _ _ hb fun c hc=>?_⟩
   rw[hp c hc,j5,Nat.add_assoc]
theorem z4x{t c:TypeId}{s len:Nat}(ht:P.underlying t=some (.array len c))(hs:wj P c=some s)(hI:Inv I β n H w){x j y:AVal}{v u:Value}(hx:Rep I β n w x v)(hj:Rep I β n w j u)
 {side:Prop} (h:Wq len s H x j=.ok side y) (hside:side):∃r,(Instr.indexAt t v u).run P w=.ok r w∧Rep I β n w y r:=by
 have key:∀ (ad:Addr) (k:IntKind) (m:Int),0≤m→m<(len:Int)→(Instr.indexAt t (.pointer (some ad)) (.int k m)).run P w=.ok (.pointer (some (ad.add (m.toNat * s)))) w:=by
  intro ad k m h1 h2
  simp only[Instr.indexAt,Instr.sureAddr,Sem.run_bind,Zn,zf ht,Result.andThen_ok,Sem.run_pure,if_pos (And.intro h1 h2),x7 hs,Sem.run_ite]
 unfold Wq at h
 split at h<;>try (cases h;done)
 rename_i b i0 k m
 split at h<;>try (cases h;done)
 rename_i s' es hb
 simp only[XR.ok.injEq] at h
 obtain⟨rfl,rfl⟩:=h
 obtain⟨rfl,h1,h2⟩:=hside
 obtain rfl:=hj.int_inv
 obtain⟨c0,hc0,hB⟩:=hI.blocks b _ hb
 have hcs:c0.s=s:=hB.1
 cases hx with
 |imm _ _ hx=>cases hx
 |ptr _ _ _ ad hbn hp=>
  refine⟨_,key _ _ _ h1 h2,.ptr _ _ _ _ hbn fun c hc=>?_⟩
  have hcc:c=c0:=by rw[hc0] at hc;exact(Option.some.inj hc).symm
  subst hcc
  rw[hp c hc,j5,hcs,Nat.add_mul,Nat.add_zero,Nat.add_zero,Nat.add_assoc]
theorem zbb{t c:TypeId}{s len:Nat}(ht:P.underlying t=some (.array len c))(hs:wj P c=some s)(hI:Inv I β n H w){x y:AVal}{v:Value}(hx:Rep I β n w x v)
 {side:Prop} (h:zhe len s H x=.ok side y) (hside:side):∃r,(Instr.sliceAt t v none none none).run P w=.ok r w∧Rep I β n w y r:=by
 have key:∀ (ad:Addr),(Instr.sliceAt t (.pointer (some ad)) none none none).run P w=.ok (.slice (some ad) len len) w:=by
  intro ad
  have h0:(ad.add 0)=ad:=by cases ad;simp[Addr.add]
  simp[Instr.sliceAt,Instr.sureAddr,Instr.sliceBounds,Sem.run_bind,zf ht,Result.andThen_ok,x7 hs,h0]
 unfold zhe at h
 split at h<;>try (cases h;done)
 rename_i b i0
 split at h<;>try (cases h;done)
 rename_i s' es hb
 simp only[XR.ok.injEq] at h
 obtain⟨rfl,rfl⟩:=h
 obtain⟨rfl,h1⟩:=hside
 obtain⟨c0,hc0,hB⟩:=hI.blocks b _ hb
 have hcs:c0.s=s:=hB.1
 cases hx with
 |imm _ _ hx=>cases hx
 |ptr _ _ _ ad hbn hp=>
  refine⟨_,key ad,.msl _ _ _ _ _ _ _ hbn ⟨Nat.le_refl _,fun h=>by cases h⟩ (fun _=>rfl) fun c hc=>?_⟩
  have hcc:c=c0:=by rw[hc0] at hc;exact(Option.some.inj hc).symm
  subst hcc
  refine⟨hcs,fun _=>⟨by rw[hp c hc,hcs,Nat.add_zero],?_⟩⟩
  obtain⟨_,_,_,_,h5,_⟩:=hB
  have:=Nat.mul_le_mul_right s h1
  omega
theorem Rep.agg_inv{cs:List AVal}{v:Value}(h:Rep I β n w (.agg cs) v):∃vs,v=.agg vs∧vs.size=cs.length∧(∀u∈vs.toList,xp u=true)∧∀ (i:Nat) (y:AVal) (u:Value),cs[i]?=some y→vs[i]?=some u→Rep I β n w y u:=by
 cases h with
 |agg _ vs h1 h2 h3=>exact⟨vs,rfl,h1,h2,h3⟩
 |imm _ _ h=>
  cases h with
  |agg _ vs h1 h2 h3=>exact⟨vs,rfl,h1,h2,fun i y u hy hu=>.imm _ _ (h3 i y u hy hu)⟩
theorem Xb{t:TypeId}{g:Bool}{m off:Nat}(ht:W5 P t=some g)(hs:wj P t=some m)(hg:g=true∨m=1){cs:List AVal}{vs:Array Value}(h1:vs.size=cs.length)
 (h2:∀u∈vs.toList,xp u=true) (h3:∀ (i:Nat) (y:AVal) (u:Value),cs[i]?=some y→vs[i]?=some u→Rep I β n w y u) (hl:off+m≤cs.length) :
 ∃r,(part t vs off).run P w=.ok r w∧Rep I β n w (xh g m off cs) r:=by
 unfold part
 rw[Sem.run_bind,z7x ht,Result.andThen_ok]
 cases g with
 |true=>
  refine⟨.agg (vs.extract off (off+m)),by simp[x7 hs],?_⟩
  simp only[xh,if_true]
  refine .agg _ _ (by simp;omega) ?_ ?_
  ·intro u hu
   simp only[Array.toList_extract,List.extract_eq_take_drop] at hu
   exact h2 u (List.mem_of_mem_drop (List.mem_of_mem_take hu))
  ·intro i x v hx hv
   rw[Array.getElem?_extract] at hv
   by_cases hlt:i<m
   ·rw[List.getElem?_take_of_lt hlt,List.getElem?_drop] at hx
    rw[if_pos (by omega)] at hv
    exact h3 _ _ _ hx hv
   ·rw[List.getElem?_eq_none (by simp;omega)] at hx;simp at hx
 |false=>
  have hm:m=1:=by rcases hg with h|h;cases h;exact h
  subst hm
  have hlt:off<vs.size:=by omega
  refine⟨vs[off],by simp[hlt],?_⟩
  simp only[xh,Bool.false_eq_true,if_false]
  rw[getD_of_getElem? (List.getElem?_eq_getElem (by omega:off<cs.length))]
  exact h3 off _ _ (List.getElem?_eq_getElem (by omega)) (Array.getElem?_eq_getElem hlt)
theorem z9i{t:TypeId}{fs:Array Field}{i:Nat}{f:Field}{g:Bool}{m:Nat}(ht:P.underlying t=some (.struct fs))(hf:fs[i]?=some f)(hg:W5 P f.type=some g)(hs:wj P f.type=some m)(hgm:g=true∨m=1)
 {x y:AVal} {v:Value} (hx:Rep I β n w x v) {side:Prop} (h:z4s g m f.offset x=.ok side y) (hside:side):∃u,(Instr.field t v i).run P w=.ok u w∧Rep I β n w y u:=by
 cases x<;>simp only[z4s] at h<;>try (cases h;done)
 simp only[XR.ok.injEq] at h
 obtain⟨rfl,rfl⟩:=h
 obtain⟨vs,rfl,h1,h2,h3⟩:=hx.agg_inv
 obtain⟨r,hr,hrep⟩:=Xb hg hs hgm h1 h2 h3 hside
 refine⟨r,?_,hrep⟩
 simp only[Instr.field,asAgg,Sem.run_bind,zf ht,Result.andThen_ok,hf,Sem.run_pure,hr]
theorem zbm{t c:TypeId}{s len:Nat}{g:Bool}(ht:P.underlying t=some (.array len c))(hg:W5 P c=some g)(hs:wj P c=some s)(hgm:g=true∨s=1){x j y:AVal}{v u:Value}(hx:Rep I β n w x v)(hj:Rep I β n w j u)
 {side:Prop} (h:zmr len s g x j=.ok side y) (hside:side):∃r,(Instr.index t v u).run P w=.ok r w∧Rep I β n w y r:=by
 cases x<;>cases j<;>simp only[zmr] at h<;>try (cases h;done)
 simp only[XR.ok.injEq] at h
 obtain⟨rfl,rfl⟩:=h
 obtain⟨h4,h5,h6⟩:=hside
 obtain rfl:=hj.int_inv
 obtain⟨vs,rfl,h1,h2,h3⟩:=hx.agg_inv
 obtain⟨r,hr,hrep⟩:=Xb hg hs hgm h1 h2 h3 h6
 refine⟨r,?_,hrep⟩
 simp only[Instr.index,Sem.run_bind,Zn,zf ht,Result.andThen_ok,if_pos (And.intro h4 h5),x7 hs,Sem.run_ite,hr]
theorem zc1{t:TypeId}(ht:P.underlying t=some .string){x j y:AVal}{v u:Value}(hx:Rep I β n w x v)(hj:Rep I β n w j u)
 {side:Prop} (h:zlc x j=.ok side y) (hside:side):∃r,(Instr.index t v u).run P w=.ok r w∧Rep I β n w y r:=by
 cases x<;>cases j<;>simp only[zlc] at h<;>try (cases h;done)
 case str.int l k m=>
 simp only[XR.ok.injEq] at h
 obtain⟨rfl,rfl⟩:=h
 obtain⟨h4,h5⟩:=hside
 obtain rfl:=hj.int_inv
 obtain rfl:=hx.str_inv
 refine⟨_,?_,.imm _ _ (.int _ _)⟩
 have hlt:m.toNat<l.length:=by omega
 have e:(⟨⟨l⟩⟩:ByteArray)[m.toNat]?=some (l.getD m.toNat 0):=by
  have hsz:m.toNat<(⟨⟨l⟩⟩:ByteArray).size:=hlt
  rw[getElem?_pos (⟨⟨l⟩⟩:ByteArray) m.toNat hsz,List.getD_eq_getElem?_getD,List.getElem?_eq_getElem hlt];rfl
 simp only[Instr.index,Sem.run_bind,Zn,zf ht,Result.andThen_ok,if_pos h4,e,Sem.run_pure]
theorem zh2{k:Nat}{x y:AVal}{v:Value}(hx:Rep I β n w x v){side:Prop}(h:zxx k x=.ok side y)(hside:side):∃r,(Instr.extract v k).run P w=.ok r w∧Rep I β n w y r:=by
 cases x<;>simp only[zxx] at h<;>try (cases h;done)
 case tup cs=>
  simp only[XR.ok.injEq] at h
  obtain⟨rfl,rfl⟩:=h
  have:∃vs,v=.tuple vs∧vs.size=cs.length∧∀ (i:Nat) (y:AVal) (u:Value),cs[i]?=some y→vs[i]?=some u→Rep I β n w y u:=by
   cases hx with
   |tup _ vs h1 h2=>exact⟨vs,rfl,h1,h2⟩
   |imm _ _ hx=>
    cases hx with
    |tup _ vs h1 h2=>exact⟨vs,rfl,h1,fun i y u hy hu=>.imm _ _ (h2 i y u hy hu)⟩
  obtain⟨vs,rfl,h1,h2⟩:=this
  have hlt:k<vs.size:=by omega
  refine⟨vs[k],by simp[Instr.extract,hlt],?_⟩
  rw[getD_of_getElem? (List.getElem?_eq_getElem hside)]
  exact h2 k _ _ (List.getElem?_eq_getElem hside) (Array.getElem?_eq_getElem hlt)
theorem z7q{x y:AVal}{v:Value}(hx:Rep I β n w x v){side:Prop}(h:z43 x=.ok side y):Rep I β n w y v∧((∃ad,v=.pointer (some ad))∨∃f fs cs,v=.func (.func f) fs cs):=by
 unfold z43 at h
 split at h<;>simp only[XR.ok.injEq,reduceCtorEq] at h<;>(try (cases h;done))<;>obtain⟨_,rfl⟩:=h
 ·obtain⟨b,o,rfl⟩:=hx.iptr_inv
  exact⟨hx,.inl ⟨_,rfl⟩⟩
 ·obtain⟨b,rfl⟩:=hx.ptr_inv
  exact⟨hx,.inl ⟨_,rfl⟩⟩
 ·refine⟨hx,.inr ?_⟩
  cases hx with
  |fn _ _ _ fs cs=>exact⟨_,_,_,rfl⟩
  |imm _ _ h=>cases h;exact⟨_,_,_,rfl⟩
theorem zbu{t rt:TypeId}(ht:P.underlying t=some .string){x y:AVal}{v:Value}(hx:Rep I β n w x v){side:Prop}(h:zgt x=.ok side y) :
 ∃r,(Builtin.len_ #[t] rt #[v]).run P w=.ok r w∧Rep I β n w y r:=by
 cases x<;>simp only[zgt] at h<;>try (cases h;done)
 simp only[XR.ok.injEq] at h
 obtain⟨_,rfl⟩:=h
 obtain rfl:=hx.str_inv
 exact⟨_,by simp[Builtin.len_,zf ht];rfl,.imm _ _ (.int _ _)⟩
theorem zcy{t c rt:TypeId}(ht:P.underlying t=some (.slice c)){x y:AVal}{v:Value}(hx:Rep I β n w x v){side:Prop}(h:zct x=.ok side y) :
 ∃r,(Builtin.len_ #[t] rt #[v]).run P w=.ok r w∧Rep I β n w y r:=by
 unfold zct at h
 split at h<;>simp only[XR.ok.injEq,reduceCtorEq] at h<;>(try (cases h;done))<;>obtain⟨_,rfl⟩:=h
 ·obtain⟨ad,cap,rfl,_⟩:=hx.isl_inv
  exact⟨_,by simp[Builtin.len_,zf ht];rfl,.imm _ _ (.int _ _)⟩
 ·obtain⟨ad,cap,rfl,_⟩:=hx.msl_inv
  exact⟨_,by simp[Builtin.len_,zf ht];rfl,.imm _ _ (.int _ _)⟩
 ·obtain rfl:=hx.val_inv
  exact⟨_,by simp[Builtin.len_,zf ht];rfl,.imm _ _ (.int _ _)⟩
theorem Y4{e:Env}{a:Act}(hE:RepEnv I β n w e a){x:Option Operand}{y:Option LOpd}(hl:ke x=some y){d:Nat}{z:Int}(hb:js e d y=some z)(hn:Y0 e y) :
 (x=none∧z=d)∨∃o k,x=some o∧a.eval o=.int k z:=by
 cases x with
 |none=>simp[ke] at hl;subst hl;simp[js] at hb;exact .inl ⟨rfl,hb.symm⟩
 |some o=>
  simp[ke] at hl
  obtain⟨y',hy',rfl⟩:=hl
  have hr:=ya hE hy' hn
  simp only[js] at hb
  split at hb
  ·rename_i k j hev
   simp at hb;subst hb
   rw[hev] at hr
   exact .inr ⟨o,k,rfl,hr.int_inv⟩
  ·cases hb
theorem vw{k:IntKind}{m:Int}{y:Nat}{code:BoundsCode}(h1:0≤m)(h2:m≤y):(Instr.sliceBound (.int k m) y code).run P w=.ok m.toNat w:=by
 simp only[Instr.sliceBound,Sem.run_bind,Zn,Result.andThen_ok,Sem.run_ite,if_pos (And.intro h1 h2),Sem.run_pure]
theorem zco{a:Act}{isS:Bool}{len cap:Nat}{lo hi:Option Operand}{p q:Int}(hlo:(lo=none∧p=((0:Nat):Int))∨∃o k,lo=some o∧a.eval o=.int k p)(hhi:(hi=none∧q=(len:Int))∨∃o k,hi=some o∧a.eval o=.int k q)
 (h0:0≤p) (h1:p≤q) (h2:q≤(cap:Int)) :
 (Instr.sliceBounds isS len cap (lo.map a.eval) (hi.map a.eval) none).run P w=.ok (p.toNat,q.toNat,cap) w:=by
 have e1:p≤((q.toNat:Nat):Int):=by omega
 unfold Instr.sliceBounds
 rcases hhi with⟨rfl,hq⟩|⟨o2,k2,rfl,hq⟩<;>rcases hlo with⟨rfl,hp⟩|⟨o1,k1,rfl,hp⟩
 ·subst hq;subst hp;simp
 ·subst hq
  have e2:p≤((len:Nat):Int):=by omega
  simp[hp,vw h0 e2]
 ·subst hp
  simp[hq,vw (Int.le_trans h0 h1) h2]
 ·simp[hq,hp,vw (Int.le_trans h0 h1) h2,vw h0 e1]
theorem zuj{a:Act}{len cap:Nat}{lo hi mx:Option Operand}{p q m:Int}{om:Operand}{km:IntKind}(hlo:(lo=none∧p=((0:Nat):Int))∨∃o k,lo=some o∧a.eval o=.int k p)(hhi:∃o k,hi=some o∧a.eval o=.int k q)
 (hm:mx=some om) (hme:a.eval om=.int km m) (h0:0≤p) (h1:p≤q) (h2:q≤m) (h3:m≤(cap:Int)) :
 (Instr.sliceBounds true len cap (lo.map a.eval) (hi.map a.eval) (mx.map a.eval)).run P w=.ok (p.toNat,q.toNat,m.toNat) w:=by
 have e1:p≤((q.toNat:Nat):Int):=by omega
 have e2:q≤((m.toNat:Nat):Int):=by omega
 have e3:0≤q:=by omega
 have e4:0≤m:=by omega
 obtain⟨o2,k2,rfl,hq⟩:=hhi
 subst hm
 unfold Instr.sliceBounds
 rcases hlo with⟨rfl,hp⟩|⟨o1,k1,rfl,hp⟩
 ·subst hp
  simp[hq,hme,vw e3 e2,vw e4 h3]
 ·simp[hq,hp,hme,vw e3 e2,vw e4 h3,vw h0 e1]
theorem Vm(l:List UInt8)(p q:Nat):(⟨⟨l⟩⟩:ByteArray).extract p q=⟨⟨(l.take q).drop p⟩⟩:=by
 apply ByteArray.ext
 apply Array.ext'
 simp[ByteArray.data_extract,List.extract_eq_take_drop,List.drop_take]
theorem z70{t:TypeId}(ht:P.underlying t=some .string)(hE:RepEnv I β n w e a){lo hi:Option Operand}{lo' hi':Option LOpd}(hlo:ke lo=some lo')(hhi:ke hi=some hi')(nlo:Y0 e lo')(nhi:Y0 e hi')
 {x y:AVal} {v:Value} (hx:Rep I β n w x v) {side:Prop} (h:z3k (fun d=>js e d lo') (fun d=>js e d hi') x=.ok side y) (hside:side) :
 ∃r,(Instr.sliceAt t v (lo.map a.eval) (hi.map a.eval) none).run P w=.ok r w∧Rep I β n w y r:=by
 cases x<;>simp only[z3k] at h<;>try (cases h;done)
 case str l=>
 cases hp:js e 0 lo' with
 |none=>simp[hp] at h
 |some p=>
  cases hq:js e l.length hi' with
  |none=>simp[hp,hq] at h
  |some q=>
   simp only[hp,hq,XR.ok.injEq] at h
   obtain⟨rfl,rfl⟩:=h
   obtain⟨h1,h2,h3⟩:=hside
   obtain rfl:=hx.str_inv
   refine⟨_,?_,.imm _ _ (.str _)⟩
   have:=zco (P:=P) (w:=w) (isS:=false) (len:=l.length) (cap:=l.length) (Y4 hE hlo hp nlo) (Y4 hE hhi hq nhi) h1 h2 h3
   have e1:(⟨⟨l⟩⟩:ByteArray).size=l.length:=rfl
   simp only[Instr.sliceAt,Instr.slice,Sem.run_bind,zf ht,Result.andThen_ok,Option.isSome_none,Bool.false_eq_true,if_false,e1,this,Sem.run_pure,Vm]
theorem zs1{s:Nat}{es:List (List AVal)}{p q:Nat}{vf:Nat→Nat→Value}(o b:Nat)
 (hlen:∀ (i:Nat) (r:List AVal),es[i]?=some r→r.length=s)
 (hcell:∀ (i:Nat) (r:List AVal) (j:Nat) (x:AVal),es[i]?=some r→r[j]?=some x→w.cell? ⟨b,o+i*s+j,none⟩=some (vf i j))
 (hic:∀ (i:Nat) (r:List AVal) (j:Nat) (x:AVal),es[i]?=some r→r[j]?=some x→xp (vf i j)=true)
 (hrep:∀ (i:Nat) (r:List AVal) (j:Nat) (x:AVal),es[i]?=some r→r[j]?=some x→RepI I w x (vf i j)) :
 (∀ (i:Nat) (r:List AVal),((es.take q).drop p)[i]?=some r→r.length=s) ∧
 (∀ (i:Nat) (r:List AVal) (j:Nat) (x:AVal),((es.take q).drop p)[i]?=some r→r[j]?=some x→w.cell? ⟨b,o+p*s+i*s+j,none⟩=some (vf (p+i) j)) ∧
 (∀ (i:Nat) (r:List AVal) (j:Nat) (x:AVal),((es.take q).drop p)[i]?=some r→r[j]?=some x→xp (vf (p+i) j)=true) ∧
 (∀ (i:Nat) (r:List AVal) (j:Nat) (x:AVal),((es.take q).drop p)[i]?=some r→r[j]?=some x→RepI I w x (vf (p+i) j)):=by
 have key:∀ (i:Nat) (r:List AVal),((es.take q).drop p)[i]?=some r→es[p+i]?=some r:=by
  intro i r h
  rw[List.getElem?_drop,List.getElem?_take] at h
  split at h
  ·exact h
  ·cases h
 refine⟨fun i r h=>hlen _ _ (key i r h),fun i r j x h hj=>?_,fun i r j x h hj=>hic _ _ j x (key i r h) hj,fun i r j x h hj=>hrep _ _ j x (key i r h) hj⟩
 have:=hcell _ _ j x (key i r h) hj
 rw[←this,Nat.add_mul]
 congr 2
 omega
theorem z4t{t c:TypeId}{s:Nat}(ht:P.underlying t=some (.slice c))(hs:wj P c=some s){ad:Option Addr}{len cap p q m:Nat}{lo hi mx:Option Value}(hb:(Instr.sliceBounds true len cap lo hi mx).run P w=.ok (p,q,m) w) :
 (Instr.sliceAt t (.slice ad len cap) lo hi mx).run P w=.ok (.slice (if m=p then ad else ad.map (·.add (p*s))) (q-p) (m-p)) w:=by
 simp only[Instr.sliceAt,Instr.slice,Sem.run_bind,zf ht,Result.andThen_ok,hb,x7 hs,Sem.run_pure]
theorem z4z{s:Nat}{es:List (List AVal)}{f f':Bool}{p q m:Nat}{ad:Option Addr}{cap:Nat}(hx:RepI I w (.isl s es f) (.slice ad es.length cap))(h1:p≤q)(h2:q≤es.length)(hm:q≤m)(hmc:m≤cap)(hf:f'=true→m=q) :
 RepI I w (.isl s ((es.take q).drop p) f') (.slice (if m=p then ad else ad.map (·.add (p*s))) (q-p) (m-p)):=by
 by_cases hqp:q=p
 ·subst hqp
  have e1:((es.take q).drop q)=[]:=by simp
  rw[e1,Nat.sub_self]
  cases ad with
  |none=>
   have:(if m=q then(none:Option Addr) else(none:Option Addr).map (·.add (q*s)))=none:=by split<;>rfl
   rw[this]
   have hc:cap=0:=by cases hx;rfl
   have:m-q=0:=by omega
   rw[this]
   exact .islNil _ _
  |some ad=>
   have:∃ad',(if m=q then some ad else(some ad).map (·.add (q*s)))=some ad':=by split<;>exact⟨_,rfl⟩
   obtain⟨ad',had⟩:=this
   rw[had]
   exact .islEmpty _ _ _ _ (fun h=>by have:=hf h;omega)
 ·cases hx with
  |islNil=>simp at h2;omega
  |islEmpty=>simp at h2;omega
  |isl _ _ _ b o _ vf hb hcap hfull hlen hcell hic hrep=>
   obtain⟨g1,g2,g3,g4⟩:=zs1 (w:=w) (I:=I) (p:=p) (q:=q) o b hlen hcell hic hrep
   have hl:((es.take q).drop p).length=q-p:=by simp;omega
   rw[if_neg (by omega)]
   have:(some (⟨b,o,none⟩:Addr)).map (·.add (p*s))=some ⟨b,o+p*s,none⟩:=by simp[j5]
   rw[this,←hl]
   refine .isl s _ f' b (o+p*s) (m-p) (fun i j=>vf (p+i) j) (fun i r j x hi hj=>by
    have h1:es[p+i]?=some r:=by
     rw[List.getElem?_drop,List.getElem?_take] at hi
     split at hi
     ·exact hi
     ·cases hi
    have:=hb (p+i) r j x h1 hj
    rw[Nat.add_mul] at this
    rw[show o+p*s+i*s+j=o+(p*s+i*s)+j by omega]
    exact this) (by omega) (fun h=>by have:=hf h;omega) g1 g2 g3 g4
theorem zdl{id:Id}{s off len:Nat}{f f':Bool}{p q m:Nat}{ad:Option Addr}{cap:Nat}(hx:Rep I β n w (.msl id s off len f) (.slice ad len cap))(h1:p≤q)(hm:q≤m)(hmc:m≤cap)(hf:f'=true→m=q) :
 ∃ad',(if m=p then ad else ad.map (·.add (p*s)))=ad'∧Rep I β n w (.msl id s (off+p) (q-p) f') (.slice ad' (q-p) (m-p)):=by
 cases hx with
 |imm _ _ hx=>cases hx
 |msl _ _ _ _ _ _ _ hb hcap hfull hp=>
  by_cases hmp:m=p
  ·refine⟨ad,by simp[hmp],.msl _ _ _ _ _ _ _ hb ⟨by omega,fun _=>by omega⟩ (fun h=>by have:=hf h;omega) fun c hc=>⟨(hp c hc).1,fun hne=>by omega⟩⟩
  ·refine⟨ad.map (·.add (p*s)),by simp[hmp],.msl _ _ _ _ _ _ _ hb ⟨by omega,fun h=>by have:=hcap.2 (by simpa using h);omega⟩ (fun h=>by have:=hf h;omega) fun c hc=>⟨(hp c hc).1,fun hne=>?_⟩⟩
   obtain⟨g1,g2⟩:=(hp c hc).2 (by omega)
   refine⟨?_,?_⟩
   ·rw[g1,Option.map_some,j5,Nat.add_mul,Nat.add_assoc]
   ·have:off+p+(m-p)=off+m:=by omega
    rw[this]
    have:(off+m)*s≤(off+cap)*s:=Nat.mul_le_mul_right _ (by omega)
    omega
theorem z2x{t c:TypeId}{s:Nat}(ht:P.underlying t=some (.slice c))(hs:wj P c=some s)(hE:RepEnv I β n w e a){lo hi mx:Option Operand}{lo' hi' mx':Option LOpd}(hlo:ke lo=some lo')(hhi:ke hi=some hi')(hmx:ke mx=some mx')
 (hmh:(mx'.isSome&&hi'.isNone)=false) (nlo:Y0 e lo') (nhi:Y0 e hi') (nmx:Y0 e mx')
 {x y:AVal} {v:Value} (hx:Rep I β n w x v) {side:Prop} (h:z52 s (fun d=>js e d lo') (fun d=>js e d hi') (z39 e mx') x=.ok side y) (hside:side) :
 ∃r,(Instr.sliceAt t v (lo.map a.eval) (hi.map a.eval) (mx.map a.eval)).run P w=.ok r w∧Rep I β n w y r:=by
 -- the bounds
 have nomax:∀ {len cap:Nat} {p q:Int},mx'=none→js e 0 lo'=some p→js e len hi'=some q→0≤p→p≤q→q≤(len:Int)→len≤cap →
  (Instr.sliceBounds true len cap (lo.map a.eval) (hi.map a.eval) (mx.map a.eval)).run P w=.ok (p.toNat,q.toNat,cap) w:=by
  intro len cap p q hm hp hq h1 h2 h3 h4
  have:mx=none:=by cases mx with|none=>rfl|some o=>simp[ke] at hmx;obtain⟨_,_,h⟩:=hmx;rw[hm] at h;cases h
  subst this
  have hcap:q≤(cap:Int):=by omega
  exact zco (Y4 hE hlo hp nlo) (Y4 hE hhi hq nhi) h1 h2 hcap
 have withmax:∀ {len cap:Nat} {p q m:Int} {mo:LOpd},mx'=some mo→js e 0 (some mo)=some m→js e 0 lo'=some p→js e len hi'=some q→0≤p→p≤q→q≤m→m≤(cap:Int) →
  (Instr.sliceBounds true len cap (lo.map a.eval) (hi.map a.eval) (mx.map a.eval)).run P w=.ok (p.toNat,q.toNat,m.toNat) w:=by
  intro len cap p q m mo hm hmv hp hq h1 h2 h3 h4
  have g1:=Y4 hE hmx (d:=0) (by rw[hm];exact hmv) nmx
  have g2:∃o k,hi=some o∧a.eval o=.int k q:=by
   rcases Y4 hE hhi hq nhi with⟨h,_⟩|h
   ·subst h;simp[ke] at hhi;rw[hm,←hhi] at hmh;simp at hmh
   ·exact h
  rcases g1 with⟨h,_⟩|⟨om,km,h5,h6⟩
  ·subst h;simp[ke] at hmx;rw[hm] at hmx;cases hmx
  ·exact zuj (Y4 hE hlo hp nlo) g2 h5 h6 h1 h2 h3 h4
 cases x<;>simp only[z52] at h<;>try (cases h;done)
 case isl s' es f=>
  cases hp:js e 0 lo' with
  |none=>simp[hp] at h
  |some p=>
  cases hq:js e es.length hi' with
  |none=>simp[hp,hq] at h
  |some q=>
  have hv:∃ad cap,v=.slice ad es.length cap∧es.length≤cap∧(f=true→cap=es.length)∧RepI I w (.isl s' es f) v:=by
   cases hx with
   |imm _ _ hx'=>obtain⟨ad,cap,h1,h2,h3,_⟩:=(Rep.imm (β:=β) (n:=n) _ _ hx').isl_inv;exact⟨ad,cap,h1,h2,h3,hx'⟩
  obtain⟨ad,cap,rfl,hcap,hfull,hxI⟩:=hv
  cases hm:mx' with
  |none=>
   simp only[hm,z39,hp,hq,XR.ok.injEq] at h
   obtain⟨rfl,rfl⟩:=h
   obtain⟨rfl,h1,h2,h3⟩:=hside
   refine⟨_,z4t ht hs (nomax hm hp hq h1 h2 h3 hcap),.imm _ _ (z4z hxI (by omega) (by omega) (by omega) (Nat.le_refl _) ?_)⟩
   intro hf
   simp only[Bool.and_eq_true,decide_eq_true_eq] at hf
   have:=hfull hf.1
   omega
  |some mo=>
   cases hmv:js e 0 (some mo) with
   |none=>simp[hm,z39,hp,hq,hmv] at h
   |some m=>
   simp only[hm,z39,hp,hq,hmv,XR.ok.injEq] at h
   obtain⟨rfl,rfl⟩:=h
   obtain⟨rfl,h1,h2,h3,h4⟩:=hside
   refine⟨_,z4t ht hs (withmax (len:=es.length) (cap:=cap) hm hmv hp hq h1 h2 h3 (by omega)),.imm _ _ (z4z hxI (by omega) (by omega) (by omega) (by omega) ?_)⟩
   intro hf
   simp only[decide_eq_true_eq] at hf
   omega
 case msl id s' off len f=>
  cases hp:js e 0 lo' with
  |none=>simp[hp] at h
  |some p=>
  cases hq:js e len hi' with
  |none=>simp[hp,hq] at h
  |some q=>
  obtain⟨ad,cap,rfl,hcap,hfull,_⟩:=hx.msl_inv
  cases hm:mx' with
  |none=>
   simp only[hm,z39,hp,hq,XR.ok.injEq] at h
   obtain⟨rfl,rfl⟩:=h
   obtain⟨rfl,h1,h2,h3⟩:=hside
   obtain⟨ad',h5,h6⟩:=zdl (f':=f&&decide (q=(len:Int))) (m:=cap) (p:=p.toNat) (q:=q.toNat) hx (by omega) (by omega) (Nat.le_refl _) (by
    intro hf
    simp only[Bool.and_eq_true,decide_eq_true_eq] at hf
    have:=hfull hf.1
    omega)
   refine⟨_,z4t ht hs (nomax hm hp hq h1 h2 h3 hcap),?_⟩
   rw[h5];exact h6
  |some mo=>
   cases hmv:js e 0 (some mo) with
   |none=>simp[hm,z39,hp,hq,hmv] at h
   |some m=>
   simp only[hm,z39,hp,hq,hmv,XR.ok.injEq] at h
   obtain⟨rfl,rfl⟩:=h
   obtain⟨rfl,h1,h2,h3,h4⟩:=hside
   obtain⟨ad',h5,h6⟩:=zdl (f':=decide (m=q)) (m:=m.toNat) (p:=p.toNat) (q:=q.toNat) hx (by omega) (by omega) (by omega) (by
    intro hf
    simp only[decide_eq_true_eq] at hf
    omega)
   refine⟨_,z4t ht hs (withmax (len:=len) (cap:=cap) hm hmv hp hq h1 h2 h3 (by omega)),?_⟩
   rw[h5];exact h6
 case val u=>
  split at h
  ·rename_i heq;cases heq
  ·rename_i heq;cases heq
  ·rename_i heq
   cases heq
   obtain rfl:=hx.val_inv
   cases hp:js e 0 lo' with
   |none=>simp[hp] at h
   |some p=>
   cases hq:js e 0 hi' with
   |none=>simp[hp,hq] at h
   |some q=>
   cases hm:mx' with
   |none=>
    simp only[hm,z39,hp,hq,XR.ok.injEq] at h
    obtain⟨rfl,rfl⟩:=h
    obtain⟨rfl,rfl⟩:=hside
    refine⟨_,z4t ht hs (nomax hm hp hq (by omega) (by omega) (by omega) (Nat.le_refl _)),?_⟩
    simpa using hx
   |some mo=>
    cases hmv:js e 0 (some mo)<;>simp[hm,z39,hp,hq,hmv] at h
  ·cases h
theorem zgv{t c:TypeId}{s:Nat}(ht:P.underlying t=some (.slice c))(hs:wj P c=some s)(hE:RepEnv I β n w e a){lo hi mx:Option Operand}{lo' hi' mx':Option LOpd}(hlo:ke lo=some lo')(hhi:ke hi=some hi')(hmx:ke mx=some mx')
 (hmh:(mx'.isSome&&hi'.isNone)=false) (nlo:Y0 e lo') (nhi:Y0 e hi') (nmx:Y0 e mx')
 {x y:AVal} {v:Value} (hx:Rep I β n w x v) {side:Prop} (h:zk5 s (fun d=>js e d lo') (fun d=>js e d hi') (z39 e mx') (hi'.isNone&&mx'.isNone) x=.ok side y) (hside:side) :
 ∃r,(Instr.sliceAt t v (lo.map a.eval) (hi.map a.eval) (mx.map a.eval)).run P w=.ok r w∧Rep I β n w y r:=by
 cases x<;>try (exact z2x ht hs hE hlo hhi hmx hmh nlo nhi nmx hx h hside)
 rename_i tok s' es
 have hrd:Rep I β n w (.isl s' es false) v:=hx.rd
 cases hk:(hi'.isNone&&mx'.isNone) with
 |false=>
  simp only[zk5,hk] at h
  exact z2x ht hs hE hlo hhi hmx hmh nlo nhi nmx hrd h hside
 |true=>
  simp only[Bool.and_eq_true,Option.isNone_iff_eq_none] at hk
  obtain⟨rfl,rfl⟩:=hk
  simp only[zk5,Option.isNone_none,Bool.and_self] at h
  cases hp:js e 0 lo' with
  |none=>simp[hp] at h
  |some p=>
  simp only[hp,XR.ok.injEq] at h
  obtain⟨rfl,rfl⟩:=h
  obtain⟨rfl,h1,h2⟩:=hside
  have hhin:hi=none:=by cases hi with|none=>rfl|some o=>simp[ke] at hhi
  have hmxn:mx=none:=by cases mx with|none=>rfl|some o=>simp[ke] at hmx
  subst hhin;subst hmxn
  obtain⟨ad,cap,hv,hcap,hfull,hne⟩:=hrd.isl_inv
  subst hv
  cases hx with
  |imm _ _ hx=>cases hx
  |osl _ _ _ _ htok hI htk=>
  have hrun:=z4t (w:=w) (ad:=ad) ht hs (zco (P:=P) (w:=w) (Y4 hE hlo hp nlo) (Y4 (d:=es.length) hE (x:=none) (y:=none) rfl rfl trivial) h1 h2 (by omega:(es.length:Int)≤(cap:Int)))
  refine⟨_,hrun,?_⟩
  have hpart:=z4z (f':=false) (p:=p.toNat) (q:=es.length) (m:=cap) hI (by omega) (Nat.le_refl _) hcap (Nat.le_refl _) (fun h=>by cases h)
  rw[List.take_length] at hpart
  have hlen:(es.drop p.toNat).length=es.length-p.toNat:=by simp
  refine .osl tok s _ _ htok (by simpa using hpart) ?_
  intro c hc ad' cap' heq
  simp only[Int.toNat_natCast,Value.slice.injEq] at heq
  obtain⟨ha,_,hcap'⟩:=heq
  rw[hlen]
  by_cases hcp:cap=p.toNat
  ·left;omega
  ·rw[if_neg hcp] at ha
   cases ad with
   |none=>simp at ha
   |some ad=>
    simp only[Option.map_some,Option.some.injEq] at ha
    rcases htk c hc ad cap rfl with hh|⟨g1,g2,g3,g4⟩
    ·left;omega
    ·right
     obtain⟨bb,oo,sp⟩:=ad
     simp only at g1 g2 g3 g4
     subst g1
     rw[j5] at ha
     subst ha
     refine⟨rfl,g2,?_,?_⟩
     ·simp only
      rw[←g3,Nat.add_assoc,←Nat.add_mul];congr 2;omega
     ·simp only
      have:cap'=cap-p.toNat:=hcap'.symm
      rw[this,Nat.add_assoc,←Nat.add_mul,show p.toNat+(cap-p.toNat)=cap by omega];exact g4
theorem z8c{t:TypeId}(ht:P.underlying t=some .bool)(d:Nat)(p q:Bool):(Op.equalIn (d+1) t (.bool p) (.bool q)).run P w=.ok (p==q) w:=by
 unfold Op.equalIn
 rw[Sem.run_bind,zf ht,Result.andThen_ok]
 rfl
theorem Qs{t c:TypeId}(ht:P.underlying t=some (.pointer c))(d:Nat)(q:Option Addr):(Op.equalIn (d+1) t (.pointer none) (.pointer q)).run P w=.ok q.isNone w:=by
 unfold Op.equalIn
 rw[Sem.run_bind,zf ht,Result.andThen_ok]
 rfl
theorem Wg{t c:TypeId}(ht:P.underlying t=some (.pointer c))(d:Nat)(q:Addr):(Op.equalIn (d+1) t (.pointer (some q)) (.pointer none)).run P w=.ok false w:=by
 unfold Op.equalIn
 rw[Sem.run_bind,zf ht,Result.andThen_ok]
 rfl
theorem Y9{t c:TypeId}(ht:P.underlying t=some (.slice c))(d m k:Nat)(q:Option Addr)(m' k':Nat):(Op.equalIn (d+1) t (.slice none m k) (.slice q m' k')).run P w=.ok q.isNone w:=by
 unfold Op.equalIn
 rw[Sem.run_bind,zf ht,Result.andThen_ok]
 rfl
theorem Xu{t c:TypeId}(ht:P.underlying t=some (.slice c))(d m k:Nat)(q:Addr)(m' k':Nat):(Op.equalIn (d+1) t (.slice (some q) m' k') (.slice none m k)).run P w=.ok false w:=by
 unfold Op.equalIn
 rw[Sem.run_bind,zf ht,Result.andThen_ok]
 rfl
theorem Wa{t k e:TypeId}(ht:P.underlying t=some (.map k e))(d:Nat)(q:Option Nat):(Op.equalIn (d+1) t (.map none) (.map q)).run P w=.ok q.isNone w:=by
 unfold Op.equalIn
 simp only[Sem.run_bind,zf ht,Result.andThen_ok]
 rfl
theorem z3c{t k e:TypeId}(ht:P.underlying t=some (.map k e))(d:Nat)(q:Nat):(Op.equalIn (d+1) t (.map (some q)) (.map none)).run P w=.ok false w:=by
 unfold Op.equalIn
 simp only[Sem.run_bind,zf ht,Result.andThen_ok]
 rfl
theorem Rep.map_inv{b:Id}{v:Value}(h:Rep I β n w (.map b) v):∃r,v=.map (some r):=by
 cases h with
 |imm _ _ h=>cases h
 |map _ r _ _=>exact⟨r,rfl⟩
theorem zjw{t:TypeId}(h:Xl P t=.map):∃k e,P.underlying t=some (.map k e):=by
 unfold Xl at h;split at h<;>try (cases h;done)
 ·rename_i k e hu;exact⟨k,e,hu⟩
 ·split at h<;>try (cases h;done)
  split at h<;>cases h
theorem zfk{t:TypeId}(h:Xl P t=.bool):P.underlying t=some .bool:=by
 unfold Xl at h;split at h<;>(try split at h)<;>(try split at h)<;>simp_all
theorem zkg{t:TypeId}(h:Xl P t=.ptr):∃c,P.underlying t=some (.pointer c):=by
 unfold Xl at h;split at h<;>(try split at h)<;>(try split at h)<;>simp_all
theorem zbw{t:TypeId}(h:Xl P t=.slice):∃c,P.underlying t=some (.slice c):=by
 unfold Xl at h;split at h<;>(try split at h)<;>(try split at h)<;>simp_all
theorem zi3{t:TypeId}{ks:List CK}(h:Xl P t=.agg ks):∃fs,P.underlying t=some (.struct fs)∧Z3 P 50 t=some ks∧P.eqGuardType P.depth t=false:=by
 unfold Xl at h
 split at h<;>(try split at h)<;>(try split at h)<;>try (cases h;done)
 rename_i fs hu _ ks' hk hc
 simp only[EqK.agg.injEq] at h
 subst h
 exact⟨fs,hu,hk,by simpa using hc⟩
theorem Xo:∀ {k1 k2:List CK} {cs ds:List AVal} {b:Bool},yz (k1++k2) cs ds=some b→∃b1 b2,yz k1 (cs.take k1.length) (ds.take k1.length)=some b1∧yz k2 (cs.drop k1.length) (ds.drop k1.length)=some b2∧b=(b1&&b2)
 |[],k2,cs,ds,b,h=>⟨true,b,by simp[yz],by simpa using h,by simp⟩
 |k::k1,k2,[],ds,b,h=>by simp[yz] at h
 |k::k1,k2,_::_,[],b,h=>by simp[yz] at h
 |k::k1,k2,x::xs,y::ys,b,h=>by
  simp only[List.cons_append,yz] at h
  split at h<;>try (cases h;done)
  rename_i a c ha hc
  simp only[Option.some.injEq] at h
  obtain⟨b1,b2,h1,h2,h3⟩:=Xo hc
  refine⟨a&&b1,b2,?_,by simpa using h2,by rw[←h,h3,Bool.and_assoc]⟩
  simp only[List.length_cons,List.take_succ_cons,yz,ha,h1]
theorem uz:∀ {ks:List CK} {cs ds:List AVal} {b:Bool},yz ks cs ds=some b→cs.length=ks.length∧ds.length=ks.length
 |[],[],[],_,_=>⟨rfl,rfl⟩
 |[],[],_::_,_,h=>by simp[yz] at h
 |[],_::_,_,_,h=>by simp[yz] at h
 |_::_,[],_,_,h=>by simp[yz] at h
 |_::_,_::_,[],_,h=>by simp[yz] at h
 |k::ks,x::xs,y::ys,b,h=>by
  simp only[yz] at h
  split at h<;>try (cases h;done)
  rename_i a c ha hc
  have:=uz hc
  simp[this.1,this.2]
def OfCells(I:Nat→Nat→Prop)(β:Id→Option CLoc)(n:Nat)(w:World)(g:Bool)(cs:List AVal)(x:Value):Prop:=Rep I β n w (xh g cs.length 0 cs) x
theorem z7p:∀ (d:Nat) (t:TypeId) (ks:List CK),Z3 P d t=some ks→∀ (D:Nat),d≤D→∀ {cs ds:List AVal} {x y:Value} {g:Bool},W5 P t=some g→OfCells I β n w g cs x→OfCells I β n w g ds y →
 ∀b,yz ks cs ds=some b→(Op.equalIn D t x y).run P w=.ok b w:=by
 intro d
 induction d with
 |zero=>intro t ks h;simp[Z3] at h
 |succ d ih=>
  intro t ks h D hD cs ds x y g hg hx hy b hb
  obtain⟨D,rfl⟩:∃D',D=D'+1:=⟨D-1,by omega⟩
  obtain⟨hl1,hl2⟩:=uz hb
  unfold Z3 at h
  split at h
  ·rename_i hu
   simp only[Option.some.injEq] at h
   subst h
   obtain⟨p,rfl⟩:=List.length_eq_one_iff.1 hl1
   obtain⟨q,rfl⟩:=List.length_eq_one_iff.1 hl2
   simp only[W5,hu,Option.some.injEq] at hg
   subst hg
   simp only[OfCells,xh,Bool.false_eq_true,if_false,List.getD_cons_zero] at hx hy
   cases p<;>cases q<;>simp[yz,Q7] at hb
   obtain rfl:=hx.bool_inv
   obtain rfl:=hy.bool_inv
   subst hb
   exact run_equalIn_bool' w D t _ _ hu
  ·rename_i hu
   simp only[Option.some.injEq] at h
   subst h
   obtain⟨p,rfl⟩:=List.length_eq_one_iff.1 hl1
   obtain⟨q,rfl⟩:=List.length_eq_one_iff.1 hl2
   simp only[W5,hu,Option.some.injEq] at hg
   subst hg
   simp only[OfCells,xh,Bool.false_eq_true,if_false,List.getD_cons_zero] at hx hy
   cases p<;>cases q<;>simp[yz,Q7] at hb
   rename_i k a k' a'
   obtain rfl:=hx.int_inv
   obtain rfl:=hy.int_inv
   by_cases hk:k=k'
   ·subst hk
    simp at hb
    subst hb
    exact run_equalIn_int w D t _ _ _ _ hu
   ·simp[hk] at hb
  ·rename_i hu
   simp only[Option.some.injEq] at h
   subst h
   obtain⟨p,rfl⟩:=List.length_eq_one_iff.1 hl1
   obtain⟨q,rfl⟩:=List.length_eq_one_iff.1 hl2
   simp only[W5,hu,Option.some.injEq] at hg
   subst hg
   simp only[OfCells,xh,Bool.false_eq_true,if_false,List.getD_cons_zero] at hx hy
   cases p<;>cases q<;>simp[yz,Q7] at hb
   obtain rfl:=hx.str_inv
   obtain rfl:=hy.str_inv
   subst hb
   rw[run_equalIn_string w D t _ _ hu,Qh,Qh]
  ·rename_i fs hu
   split at h<;>try (cases h;done)
   rename_i hst
   simp only[W5,hu,Option.some.injEq] at hg
   subst hg
   simp only[OfCells,xh,if_true,List.drop_zero,List.take_length] at hx hy
   obtain⟨xs,rfl,hx1,hx2,hx3⟩:=hx.agg_inv
   obtain⟨ys,rfl,hy1,hy2,hy3⟩:=hy.agg_inv
   have hf:P.fieldsOf t=fs:=by unfold Program.fieldsOf;rw[hu]
   rw[run_equalIn_struct w D t xs ys (by rw[hf];exact hu) (by simpa using hst),hf]
   have key:∀ (fl:List Field) (off:Nat) (ks:List CK),eqFields P (Z3 P d) off fl=some ks→off≤cs.length→off≤ds.length→∀b,yz ks (cs.drop off) (ds.drop off)=some b→(Op.eqFields D xs ys fl).run P w=.ok b w:=by
    intro fl
    induction fl with
    |nil=>
     intro off ks h ho1 ho2 b hb
     simp only[eqFields,Option.some.injEq] at h
     subst h
     obtain⟨l1,l2⟩:=uz hb
     rw[List.length_eq_zero_iff.1 l1,List.length_eq_zero_iff.1 l2] at hb
     simp only[yz,Option.some.injEq] at hb
     subst hb
     rfl
    |cons f fl ihf=>
     intro off ks h ho1 ho2 b hb
     simp only[eqFields] at h
     split at h<;>try (cases h;done)
     rename_i hcond
     simp only[Bool.or_eq_true,not_or,bne_iff_ne,ne_eq,Decidable.not_not,beq_iff_eq] at hcond
     obtain⟨hname,hoff⟩:=hcond
     split at h<;>try (cases h;done)
     rename_i l g m hl hg hm
     split at h<;>try (cases h;done)
     rename_i hc2
     simp only[Bool.and_eq_true,Bool.or_eq_true,beq_iff_eq] at hc2
     obtain⟨hlm,hgm⟩:=hc2
     simp only[Option.map_eq_some_iff] at h
     obtain⟨ks2,hks2,rfl⟩:=h
     obtain⟨b1,b2,h1,h2,rfl⟩:=Xo hb
     rw[hlm] at h1 h2
     rw[List.drop_drop,List.drop_drop] at h2
     obtain⟨l1,l2⟩:=uz h1
     simp only[List.length_take,List.length_drop] at l1 l2
     obtain⟨rx,hrx,hRx⟩:=Xb (w:=w) (off:=off) hg hm hgm hx1 hx2 hx3 (by omega)
     obtain⟨ry,hry,hRy⟩:=Xb (w:=w) (off:=off) hg hm hgm hy1 hy2 hy3 (by omega)
     have conv:∀ {c:List AVal} {r:Value},off+m≤c.length→Rep I β n w (xh g m off c) r→OfCells I β n w g ((c.drop off).take m) r:=by
      intro c r hle hr
      have hlen:((c.drop off).take m).length=m:=by simp;omega
      unfold OfCells
      rw[hlen]
      cases g with
      |true=>simpa[xh,List.take_take] using hr
      |false=>
       have hm1:m=1:=by rcases hgm with h|h;cases h;exact h
       subst hm1
       simp only[xh,Bool.false_eq_true,if_false] at hr ⊢
       have:((c.drop off).take 1).getD 0 .any=c.getD off .any:=by
        simp[List.getD_eq_getElem?_getD,List.getElem?_take_of_lt,List.getElem?_drop]
       rw[this];exact hr
     have heq:=ih f.type l hl D (by omega) hg (conv (by omega) hRx) (conv (by omega) hRy) b1 h1
     simp only[Op.eqFields,ne_eq,hname,not_false_eq_true,if_true,Sem.run_bind,hoff,hrx,hry,Result.andThen_ok,heq,Sem.run_ite,Sem.run_pure]
     cases b1 with
     |false=>simp
     |true=>simpa using ihf (off+m) ks2 hks2 (by omega) (by omega) b2 h2
   exact key fs.toList 0 ks h (Nat.zero_le _) (Nat.zero_le _) b (by simpa using hb)
  ·cases h
theorem zhl{t:TypeId}:Xl P t≠.ifc:=by
 unfold Xl
 split<;>(try split)<;>(try split)<;>simp
theorem zni{t:TypeId}:Xl P t≠.fnc:=by
 unfold Xl
 split<;>(try split)<;>(try split)<;>simp
theorem zgl{k:EqK}{t:TypeId}(ht:Xl P t=k){x y z:AVal}{v u:Value}(hx:Rep I β n w x v)(hy:Rep I β n w y u){side:Prop}(h:ziq k x y=.ok side z)(hside:side) :
 ∃r,z=.bool r∧(Op.equal t v u).run P w=.ok r w∧(∀op xo yo,(eqGuard op t xo yo v u).run P w=.ok () w)∧(binOp .eql t v u=(do pure (.bool (←Op.equal t v u)):Sem Value))∧(binOp .neq t v u=(do pure (.bool (!(←Op.equal t v u))):Sem Value)):=by
 unfold ziq at h
 cases k<;>simp only at h<;>try (cases h;done)
 case ifc=>exact absurd ht zhl
 case fnc=>exact absurd ht zni
 case bool=>
  cases x<;>cases y<;>simp only at h<;>try (cases h;done)
  simp only[XR.ok.injEq] at h
  obtain⟨rfl,rfl⟩:=h
  obtain rfl:=hx.bool_inv
  obtain rfl:=hy.bool_inv
  exact⟨_,rfl,z8c (zfk ht) 9999 _ _,fun op xo yo=>by cases op<;>rfl,rfl,rfl⟩
 case ptr=>
  obtain⟨c,ht⟩:=zkg ht
  unfold zqw at h
  split at h<;>simp only[XR.ok.injEq,reduceCtorEq] at h<;>(try (cases h;done))<;>obtain⟨rfl,rfl⟩:=h
  ·obtain rfl:=hx.val_inv
   obtain rfl:=hy.val_inv
   exact⟨_,rfl,Qs ht 9999 _,fun op xo yo=>by cases op<;>rfl,rfl,rfl⟩
  ·obtain rfl:=hx.val_inv
   obtain⟨ad,rfl⟩:=hy.ptr_inv
   exact⟨_,rfl,Qs ht 9999 _,fun op xo yo=>by cases op<;>rfl,rfl,rfl⟩
  ·obtain rfl:=hy.val_inv
   obtain⟨ad,rfl⟩:=hx.ptr_inv
   exact⟨_,rfl,Wg ht 9999 _,fun op xo yo=>by cases op<;>rfl,rfl,rfl⟩
  ·obtain rfl:=hx.val_inv
   obtain⟨b,o,rfl⟩:=hy.iptr_inv
   exact⟨_,rfl,Qs ht 9999 _,fun op xo yo=>by cases op<;>rfl,rfl,rfl⟩
  ·obtain rfl:=hy.val_inv
   obtain⟨b,o,rfl⟩:=hx.iptr_inv
   exact⟨_,rfl,Wg ht 9999 _,fun op xo yo=>by cases op<;>rfl,rfl,rfl⟩
 case slice=>
  obtain⟨c,ht⟩:=zbw ht
  replace hx:=hx.rd
  replace hy:=hy.rd
  generalize x.rd=x at h hx
  generalize y.rd=y at h hy
  unfold Ua at h
  split at h<;>simp only[XR.ok.injEq,reduceCtorEq] at h<;>(try (cases h;done))<;>obtain⟨rfl,rfl⟩:=h
  ·obtain rfl:=hx.val_inv
   obtain rfl:=hy.val_inv
   exact⟨_,rfl,Y9 ht 9999 _ _ _ _ _,fun op xo yo=>by cases op<;>rfl,rfl,rfl⟩
  ·obtain rfl:=hx.val_inv
   obtain⟨ad,cap,rfl,hcap,_,hne⟩:=hy.msl_inv
   cases ad with
   |none=>exact absurd (Nat.le_zero.1 (hne rfl▸hcap)) hside
   |some ad=>exact⟨_,rfl,Y9 ht 9999 _ _ _ _ _,fun op xo yo=>by cases op<;>rfl,rfl,rfl⟩
  ·obtain rfl:=hy.val_inv
   obtain⟨ad,cap,rfl,hcap,_,hne⟩:=hx.msl_inv
   cases ad with
   |none=>exact absurd (Nat.le_zero.1 (hne rfl▸hcap)) hside
   |some ad=>exact⟨_,rfl,Xu ht 9999 _ _ _ _ _,fun op xo yo=>by cases op<;>rfl,rfl,rfl⟩
  ·obtain rfl:=hx.val_inv
   obtain⟨ad,cap,rfl,_,_,hne⟩:=hy.isl_inv
   cases ad with
   |none=>exact absurd rfl (hne hside)
   |some ad=>exact⟨_,rfl,Y9 ht 9999 _ _ _ _ _,fun op xo yo=>by cases op<;>rfl,rfl,rfl⟩
  ·obtain rfl:=hy.val_inv
   obtain⟨ad,cap,rfl,_,_,hne⟩:=hx.isl_inv
   cases ad with
   |none=>exact absurd rfl (hne hside)
   |some ad=>exact⟨_,rfl,Xu ht 9999 _ _ _ _ _,fun op xo yo=>by cases op<;>rfl,rfl,rfl⟩
 case map=>
  obtain⟨kt,et,ht⟩:=zjw ht
  unfold z0s at h
  split at h<;>simp only[XR.ok.injEq,reduceCtorEq] at h<;>(try (cases h;done))<;>obtain⟨rfl,rfl⟩:=h
  ·obtain rfl:=hx.val_inv
   obtain rfl:=hy.val_inv
   exact⟨_,rfl,Wa ht 9999 _,fun op xo yo=>by cases op<;>rfl,rfl,rfl⟩
  ·obtain rfl:=hx.val_inv
   obtain⟨r,rfl⟩:=hy.map_inv
   exact⟨_,rfl,Wa ht 9999 _,fun op xo yo=>by cases op<;>rfl,rfl,rfl⟩
  ·obtain rfl:=hy.val_inv
   obtain⟨r,rfl⟩:=hx.map_inv
   exact⟨_,rfl,z3c ht 9999 _,fun op xo yo=>by cases op<;>rfl,rfl,rfl⟩
 case agg ks=>
  obtain⟨fs,hu,hfl,hg⟩:=zi3 ht
  cases x<;>cases y<;>simp only[zo7] at h<;>try (cases h;done)
  rename_i cs ds
  split at h<;>simp only[XR.ok.injEq,reduceCtorEq] at h<;>try (cases h;done)
  rename_i b hb
  obtain⟨rfl,rfl⟩:=h
  obtain⟨xs,rfl,_⟩:=hx.agg_inv
  obtain⟨ys,rfl,_⟩:=hy.agg_inv
  have hagg:W5 P t=some true:=by unfold W5;rw[hu]
  refine⟨b,rfl,?_,fun op xo yo=>run_eqGuard_agg w op t xo yo xs ys hg,by simp only[binOp],by simp only[binOp]⟩
  exact z7p 50 t ks hfl Op.maxDepth (by unfold Op.maxDepth;omega) hagg (by simpa[OfCells,xh] using hx) (by simpa[OfCells,xh] using hy) b hb
theorem zkf{t:TypeId}{ms:Array (String×TypeId)}(ht:P.underlying t=some (.interface ms)){x y z:AVal}{v u:Value}(hx:Rep I β n w x v)(hy:Rep I β n w y u){side:Prop}(h:z7u x y=.ok side z)(xo yo:Operand)(hyo:yo=.const .nilIface) :
 ∃r,z=.bool r∧(Op.equal t v u).run P w=.ok r w∧(∀op,(eqGuard op t xo yo v u).run P w=.ok () w)∧(binOp .eql t v u=(do pure (.bool (←Op.equal t v u)):Sem Value))∧(binOp .neq t v u=(do pure (.bool (!(←Op.equal t v u))):Sem Value)):=by
 subst hyo
 have he:∀d,(Op.equalIn (d+1) t .nilIface .nilIface).run P w=.ok true w∧∀k v,(Op.equalIn (d+1) t (.iface k v) .nilIface).run P w=.ok false w:=by
  intro d
  unfold Op.equalIn
  refine⟨?_,fun k v=>?_⟩<;>rw[Sem.run_bind,zf ht,Result.andThen_ok]<;>rfl
 unfold z7u at h
 split at h<;>simp only[XR.ok.injEq,reduceCtorEq] at h<;>(try (cases h;done))<;>obtain⟨rfl,rfl⟩:=h
 ·obtain rfl:=hx.val_inv
  obtain rfl:=hy.val_inv
  refine⟨_,rfl,(he 9999).1,fun op=>?_,rfl,rfl⟩
  cases op<;>simp[eqGuard]
 ·obtain rfl:=hy.val_inv
  obtain⟨k,v,rfl⟩:∃k v',v=.iface k v':=by
   cases hx with
   |ifc _ _ v _=>exact⟨_,_,rfl⟩
   |imm _ _ h=>cases h with|ifc _ _ v _=>exact⟨_,_,rfl⟩
  refine⟨_,rfl,(he 9999).2 _ _,fun op=>?_,rfl,rfl⟩
  cases op<;>rfl
theorem zp1{t:TypeId}{a:Array TypeId}{b:Array TypeId}{c:Bool}(ht:P.underlying t=some (.func a b c)){x y z:AVal}{v u:Value}(hx:Rep I β n w x v)(hy:Rep I β n w y u){side:Prop}(h:za5 x y=.ok side z)(xo yo:Operand) :
 ∃r,z=.bool r∧(Op.equal t v u).run P w=.ok r w∧(∀op,(eqGuard op t xo yo v u).run P w=.ok () w)∧(binOp .eql t v u=(do pure (.bool (←Op.equal t v u)):Sem Value))∧(binOp .neq t v u=(do pure (.bool (!(←Op.equal t v u))):Sem Value)):=by
 have he:∀d,(Op.equalIn (d+1) t .nilFunc .nilFunc).run P w=.ok true w∧∀k v c,(Op.equalIn (d+1) t (.func k v c) .nilFunc).run P w=.ok false w:=by
  intro d
  unfold Op.equalIn
  refine⟨?_,fun k v c=>?_⟩<;>rw[Sem.run_bind,zf ht,Result.andThen_ok]<;>rfl
 unfold za5 at h
 split at h<;>simp only[XR.ok.injEq,reduceCtorEq] at h<;>(try (cases h;done))<;>obtain⟨rfl,rfl⟩:=h
 ·obtain rfl:=hx.val_inv
  obtain rfl:=hy.val_inv
  refine⟨_,rfl,(he 9999).1,fun op=>?_,rfl,rfl⟩
  cases op<;>rfl
 ·obtain rfl:=hy.val_inv
  obtain⟨k,fs,cs,rfl⟩:∃k fs cs,v=.func k fs cs:=by
   cases hx with
   |fn _ _ _ fs cs _ _ _ _=>exact⟨_,_,_,rfl⟩
   |imm _ _ h=>cases h with|fn _ _ _ fs cs _ _ _ _=>exact⟨_,_,_,rfl⟩
  refine⟨_,rfl,(he 9999).2 _ _ _,fun op=>?_,rfl,rfl⟩
  cases op<;>rfl
theorem z1p{t:TypeId}{x y z:AVal}{v u:Value}{xo yo:Operand}(hx:Rep I β n w x v)(hy:Rep I β n w y u){side:Prop}(h:ziq (z3q P t yo) x y=.ok side z)(hside:side) :
 ∃r,z=.bool r∧(Op.equal t v u).run P w=.ok r w∧(∀op,(eqGuard op t xo yo v u).run P w=.ok () w)∧(binOp .eql t v u=(do pure (.bool (←Op.equal t v u)):Sem Value))∧(binOp .neq t v u=(do pure (.bool (!(←Op.equal t v u))):Sem Value)):=by
 have old:ziq (Xl P t) x y=.ok side z→∃r,z=.bool r∧(Op.equal t v u).run P w=.ok r w∧(∀op,(eqGuard op t xo yo v u).run P w=.ok () w)∧(binOp .eql t v u=(do pure (.bool (←Op.equal t v u)):Sem Value))∧(binOp .neq t v u=(do pure (.bool (!(←Op.equal t v u))):Sem Value)):=fun h=>by
  obtain⟨r,h1,h2,h3,h4,h5⟩:=zgl rfl hx hy h hside
  exact⟨r,h1,h2,fun op=>h3 op xo yo,h4,h5⟩
 unfold z3q at h
 split at h
 ·split at h
  ·rename_i ms ht
   exact zkf ht hx hy h xo _ rfl
  ·exact old h
 ·split at h
  ·rename_i ht
   exact zp1 ht hx hy h xo _
  ·exact old h
 ·exact old h
theorem zi9{neg:Bool}{t:TypeId}{x y z:AVal}{v u:Value}{xo yo:Operand}(hx:Rep I β n w x v)(hy:Rep I β n w y u){side:Prop}(h:xeq neg (z3q P t yo) x y=.ok side z)(hside:side) :
 ∃r,(do eqGuard (if neg then .neq else .eql) t xo yo v u;binOp (if neg then .neq else .eql) t v u:Sem Value).run P w=.ok r w∧Rep I β n w z r:=by
 unfold xeq at h
 cases neg with
 |false=>
  simp only[Bool.false_eq_true,if_false] at h ⊢
  obtain⟨r,rfl,h1,h2,h3,_⟩:=z1p (xo:=xo) hx hy h hside
  refine⟨.bool r,?_,.imm _ _ (.bool r)⟩
  rw[Sem.run_bind,h2,Result.andThen_ok,h3,Sem.run_bind,h1];rfl
 |true=>
  simp only[if_true] at h ⊢
  cases hx0:ziq (z3q P t yo) x y with
  |bad=>simp[hx0,XR.neg] at h
  |ok s0 z0=>
   have hs:side=s0:=by
    rw[hx0] at h;cases z0<;>simp only[XR.neg,XR.ok.injEq,reduceCtorEq] at h;exact h.1.symm
   subst hs
   obtain⟨r,rfl,h1,h2,_,h3⟩:=z1p (xo:=xo) hx hy hx0 hside
   rw[hx0] at h
   simp[XR.neg] at h
   subst h
   refine⟨.bool (!r),?_,.imm _ _ (.bool _)⟩
   rw[Sem.run_bind,h2,Result.andThen_ok,h3,Sem.run_bind,h1];rfl
end
end Go.Fx
