/-
  Own framework.
-/
import Derived.Test.YtlilpmnmedmjaaaGreatDoorFxA
namespace Go.Fx
set_option linter.unusedVariables false
def xp:Value→Bool
 |.agg _=>false
 |.tuple _=>false
 |_=>true
def zfv:Obj→Bool
 |.map _ _=>true
 |.loop _=>true
 |.mapIter .. => true
 |_=>false
structure CLoc where
 blk:Nat
 lo:Nat
 size:Nat
 base:Nat
 s:Nat
def CLoc.has(c:CLoc)(b k:Nat):Prop:=c.blk=b∧c.lo≤k∧k<c.size
inductive RepI(I:Nat→Nat→Prop)(w:World):AVal→Value→Prop
 |bool (b:Bool):RepI I w (.bool b) (.bool b)
 |int (k:IntKind) (n:Int):RepI I w (.int k n) (.int k n)
 |str (l:List UInt8):RepI I w (.str l) (.string ⟨⟨l⟩⟩)
 |val (v:Value):xp v=true→RepI I w (.val v) v
 |agg (cs:List AVal) (vs:Array Value):vs.size=cs.length→(∀v∈vs.toList,xp v=true)→(∀ (i:Nat) (x:AVal) (v:Value),cs[i]?=some x→vs[i]?=some v→RepI I w x v)→RepI I w (.agg cs) (.agg vs)
 |tup (cs:List AVal) (vs:Array Value):vs.size=cs.length→(∀ (i:Nat) (x:AVal) (v:Value),cs[i]?=some x→vs[i]?=some v→RepI I w x v)→RepI I w (.tup cs) (.tuple vs)
 |islNil (s:Nat) (f:Bool):RepI I w (.isl s [] f) (.slice none 0 0)
 |islEmpty (s:Nat) (f:Bool) (a:Addr) (cap:Nat):(f=true→cap=0)→RepI I w (.isl s [] f) (.slice (some a) 0 cap)
 |isl (s:Nat) (es:List (List AVal)) (f:Bool) (b o cap:Nat) (vf:Nat→Nat→Value):(∀ (i:Nat) (r:List AVal) (j:Nat) (x:AVal),es[i]?=some r→r[j]?=some x→I b (o+i*s+j))→es.length≤cap→(f=true→cap=es.length) →
  (∀ (i:Nat) (r:List AVal),es[i]?=some r→r.length=s) →
  (∀ (i:Nat) (r:List AVal) (j:Nat) (x:AVal),es[i]?=some r→r[j]?=some x→w.cell? ⟨b,o+i*s+j,none⟩=some (vf i j)) →
  (∀ (i:Nat) (r:List AVal) (j:Nat) (x:AVal),es[i]?=some r→r[j]?=some x→xp (vf i j)=true) →
  (∀ (i:Nat) (r:List AVal) (j:Nat) (x:AVal),es[i]?=some r→r[j]?=some x→RepI I w x (vf i j)) →
  RepI I w (.isl s es f) (.slice (some ⟨b,o,none⟩) es.length cap)
 |iptr (s:Nat) (es:List (List AVal)) (b o i0 off:Nat) (vf:Nat→Nat→Value):(∀ (i:Nat) (r:List AVal) (j:Nat) (x:AVal),es[i]?=some r→r[j]?=some x→I b (o+i*s+j)) →
  (∀ (i:Nat) (r:List AVal),es[i]?=some r→r.length=s) →
  (∀ (i:Nat) (r:List AVal) (j:Nat) (x:AVal),es[i]?=some r→r[j]?=some x→w.cell? ⟨b,o+i*s+j,none⟩=some (vf i j)) →
  (∀ (i:Nat) (r:List AVal) (j:Nat) (x:AVal),es[i]?=some r→r[j]?=some x→xp (vf i j)=true) →
  (∀ (i:Nat) (r:List AVal) (j:Nat) (x:AVal),es[i]?=some r→r[j]?=some x→RepI I w x (vf i j)) →
  RepI I w (.iptr s es i0 off) (.pointer (some ⟨b,o+i0*s+off,none⟩))
 |fn (f:Fn) (first caps:List AVal) (fs cs:Array Value):fs.size=first.length→cs.size=caps.length →
  (∀ (i:Nat) (x:AVal) (v:Value),first[i]?=some x→fs[i]?=some v→RepI I w x v)→(∀ (i:Nat) (x:AVal) (v:Value),caps[i]?=some x→cs[i]?=some v→RepI I w x v)→RepI I w (.fn f first caps) (.func f fs cs)
 |ifc (t:TypeId) (x:AVal) (v:Value):RepI I w x v→RepI I w (.ifc t x) (.iface t v)
inductive Rep(I:Nat→Nat→Prop)(β:Id→Option CLoc)(n:Nat)(w:World):AVal→Value→Prop
 |any (v:Value):Rep I β n w .any v
 |imm (x:AVal) (v:Value):RepI I w x v→Rep I β n w x v
 |agg (cs:List AVal) (vs:Array Value):vs.size=cs.length→(∀v∈vs.toList,xp v=true)→(∀ (i:Nat) (x:AVal) (v:Value),cs[i]?=some x→vs[i]?=some v→Rep I β n w x v)→Rep I β n w (.agg cs) (.agg vs)
 |tup (cs:List AVal) (vs:Array Value):vs.size=cs.length→(∀ (i:Nat) (x:AVal) (v:Value),cs[i]?=some x→vs[i]?=some v→Rep I β n w x v)→Rep I β n w (.tup cs) (.tuple vs)
 |fn (f:Fn) (first caps:List AVal) (fs cs:Array Value):fs.size=first.length→cs.size=caps.length →
  (∀ (i:Nat) (x:AVal) (v:Value),first[i]?=some x→fs[i]?=some v→Rep I β n w x v)→(∀ (i:Nat) (x:AVal) (v:Value),caps[i]?=some x→cs[i]?=some v→Rep I β n w x v)→Rep I β n w (.fn f first caps) (.func f fs cs)
 |ifc (t:TypeId) (x:AVal) (v:Value):Rep I β n w x v→Rep I β n w (.ifc t x) (.iface t v)
 |osl (tok:Id) (s:Nat) (es:List (List AVal)) (v:Value):tok.1<n→RepI I w (.isl s es false) v →
  (∀c,β tok=some c→∀a cap,v=.slice (some a) es.length cap→cap=es.length∨(a.spot=none∧a.block=c.blk∧a.off+es.length*s=c.lo∧a.off+cap*s≤c.size))→Rep I β n w (.osl tok s es) v
 |ptr (b:Id) (i off:Nat) (a:Addr):b.1<n→(∀c,β b=some c→a=⟨c.blk,c.base+i*c.s+off,none⟩)→Rep I β n w (.ptr b i off) (.pointer (some a))
 |msl (b:Id) (s off len:Nat) (f:Bool) (a:Option Addr) (cap:Nat):b.1<n→len≤cap∧(a=none→cap=0)→(f=true→cap=len) →
  (∀c,β b=some c→c.s=s∧(cap≠0→a=some ⟨c.blk,c.base+off*s,none⟩∧c.base+(off+cap)*s≤c.size))→Rep I β n w (.msl b s off len f) (.slice a len cap)
 |map (b:Id) (r:Nat):b.1<n→(∀c,β b=some c→r=c.blk)→Rep I β n w (.map b) (.map (some r))
 |optp (b:Id) (a:Option Addr):b.1<n→(∀c,β b=some c→a=none∨a=some ⟨c.blk,c.base,none⟩)→Rep I β n w (.optp b) (.pointer a)
 |cnd (p:Bool) (x:AVal) (v:Value):(p=true→Rep I β n w x v)→(p=false→v=undef)→Rep I β n w (.cnd p x) v
structure MapIn(I:Nat→Nat→Prop)(β:Id→Option CLoc)(n:Nat)(w:World)(es:List (AVal×AVal))(arr:Array MapEntry)(ck:Nat):Prop where
 len:arr.size=es.length
 ent:∀ (i:Nat) (k x:AVal) (e:MapEntry),es[i]?=some (k,x)→arr[i]?=some e→RepI I w k e.key∧Rep I β n w x e.val
 born:∀ (i j:Nat) (e e':MapEntry),i<j→arr[i]?=some e→arr[j]?=some e'→e.born<e'.born
 clk:∀ (i:Nat) (e:MapEntry),arr[i]?=some e→e.born<ck
def Q5(arr:Array MapEntry)(seen:List Nat):Array Nat:=(seen.reverse.map fun j=>match arr[j]? with|some e=>e.born|none=>0).toArray
def z4c(m:Option Nat)(arr:Array MapEntry)(ck:Nat)(seen:List Nat):Obj:=.mapIter m ck (Q5 arr seen) ck
def ItrOf(β:Id→Option CLoc)(n:Nat):Option Id→Option Nat→Prop
 |none,m=>m=none
 |some b,m=>b.1<n∧∃k,m=some k∧∀d,β b=some d→k=d.blk
def EndOk(s:Nat)(arr:Array Value)(fr:Nat×Nat):Prop:=s≠1→(decide (fr.1≤arr.size)&&decide (arr.size<fr.2))=false
theorem EndOk.of{s s':Nat}{arr arr':Array Value}{fr:Nat×Nat}(h:EndOk s arr fr)(hs:s'=s)(ha:arr'.size=arr.size):EndOk s' arr' fr:=by subst hs;intro h1;rw[ha];exact h h1
theorem EndOk.zero{s:Nat}{arr:Array Value}:EndOk s arr (0,0):=fun _=>by simp
theorem EndOk.one{arr:Array Value}{fr:Nat×Nat}:EndOk 1 arr fr:=fun h=>absurd rfl h
def RepB(I:Nat→Nat→Prop)(β:Id→Option CLoc)(n:Nat)(w:World)(c:CLoc):ABlock→Prop
 |.rows s es=>c.s=s∧((∃arr e fr,w.heap[c.blk]?=some (.cells arr e fr)∧c.size≤arr.size∧(c.lo<c.size→c.lo=0∧c.size=arr.size∧EndOk c.s arr fr))∨c.lo=0∧c.size=0∧es=[])∧(∀k,c.lo≤k→k<c.size→w.frozen? ⟨c.blk,k,none⟩=false) ∧
  c.lo≤c.base∧c.base+es.length*s≤c.size∧(∀ (i:Nat) (r:List AVal),es[i]?=some r→r.length=s) ∧
  (∀ (i:Nat) (r:List AVal) (j:Nat) (x:AVal),es[i]?=some r→r[j]?=some x→∃v,w.cell? ⟨c.blk,c.base+i*s+j,none⟩=some v∧xp v=true∧Rep I β n w x v)
 |.one cs=>c.s=cs.length∧((∃arr e fr,w.heap[c.blk]?=some (.cells arr e fr)∧c.size≤arr.size∧(c.lo<c.size→c.lo=0∧c.size=arr.size∧EndOk c.s arr fr))∨c.lo=0∧c.size=0∧[cs]=[])∧(∀k,c.lo≤k→k<c.size→w.frozen? ⟨c.blk,k,none⟩=false) ∧
  c.lo≤c.base∧c.base+[cs].length*cs.length≤c.size∧(∀ (i:Nat) (r:List AVal),[cs][i]?=some r→r.length=cs.length) ∧
  (∀ (i:Nat) (r:List AVal) (j:Nat) (x:AVal),[cs][i]?=some r→r[j]?=some x→∃v,w.cell? ⟨c.blk,c.base+i*cs.length+j,none⟩=some v∧xp v=true∧Rep I β n w x v)
 |.amap es=>c.lo=0∧0<c.size∧∃arr ck,w.heap[c.blk]?=some (.map arr ck)∧MapIn I β n w es arr ck
 |.bld T g=>c.lo=0∧c.base=0∧c.size=2∧g.1<n∧∃p v,w.heap[c.blk]?=some (.cells #[p,v] T (0,0))∧(p=.pointer none∨p=.pointer (some ⟨c.blk,0,none⟩)) ∧
  (∀d,β g=some d→(d.size=0∧v=.slice none 0 0)∨(0<d.size∧v=.slice (some ⟨d.blk,0,none⟩) d.s d.size))
 |.buf e bs=>c.lo=0∧c.s=bs.length∧((c.size=0∧bs=[])∨(0<c.size∧∃arr fr,w.heap[c.blk]?=some (.cells arr e fr)∧c.size=arr.size∧bs.length≤arr.size∧(fr.1=fr.2∨fr.2≤bs.length) ∧
  ∀ (i:Nat) (x:UInt8),bs[i]?=some x→arr[i]?=some (.int .u8 (x.toNat:Int))))
 |.lrec l r e=>c.lo=0∧0<c.size∧c.blk=l∧w.heap[c.blk]?=some (.loop r)∧∀t,Rep I β n w (Env.get e t) (r.tmps.getD t undef)
 |.rmap es arr ck=>c.lo=0∧0<c.size∧w.heap[c.blk]?=some (.map arr ck)∧MapIn I β n w es arr ck
 |.itr m arr ck seen=>c.lo=0∧0<c.size∧(c.base=0∧∀j∈seen,j<arr.size)∧∃k,w.heap[c.blk]?=some (z4c k arr ck seen)∧ItrOf β n m k
 |.mbox b=>c.lo=0∧0<c.size∧c.base=0∧∃k,w.cell? ⟨c.blk,0,none⟩=some (.map (some k))∧ItrOf β n (some b) (some k)
 |.tok=>(∀k,c.lo≤k→k<c.size→(∃v,w.cell? ⟨c.blk,k,none⟩=some v)∧w.frozen? ⟨c.blk,k,none⟩=false)
theorem u0{I:Nat→Nat→Prop}{β:Id→Option CLoc}{n:Nat}{w:World}{c:CLoc}{cs:List AVal}:RepB I β n w c (.one cs)↔RepB I β n w c (.rows cs.length [cs]):=Iff.rfl
theorem ItrOf.mono{β β':Id→Option CLoc}{n n':Nat}{g:Id→Id}{m:Option Id}{k:Option Nat}(hn:∀id:Id,id.1<n→m=some id→(g id).1<n')(hβ:∀ (id:Id) c,id.1<n→m=some id→β' (g id)=some c→β id=some c)(h:ItrOf β n m k):ItrOf β' n' (m.map g) k:=by
 cases m with
 |none=>exact h
 |some b=>
  obtain⟨h1,q,h2,h3⟩:=h
  exact⟨hn b h1 rfl,q,h2,fun d hd=>h3 d (hβ b d h1 rfl hd)⟩
def GL:List (Nat×List Value):=[(0,(List.replicate 128 240++List.replicate 66 241++List.replicate 30 2++19::(List.replicate 12 3++[35,3,3,52,4,4,4,68]++List.replicate 11 241)).map fun c:Nat=>.int .u8 (c:Int)),(1,([128,191,160,191,128,159,144,191,128,143]++List.replicate 22 0).map fun c:Nat=>.int .u8 (c:Int))]
def GLS:List Nat:=[]
def GA:List Nat:=[]
def GlobOk(I:Nat→Nat→Prop)(w:World):Prop:=(∀x∈GL,(x.1∈GLS→∃arr el fr,w.heap[x.1]?=some (.cells arr el fr)∧arr.size=x.2.length)∧∀ (i:Nat) (v:Value),x.2[i]?=some v→I x.1 i∧w.cell? ⟨x.1,i,none⟩=some v) ∧
 ∀g∈GA,∃m:Int,I g 0∧w.cell? ⟨g,0,none⟩=some (.int .i64 m)
def SameSz(w w':World):Prop:=∀ (b:Nat) (arr:Array Value) (el:TypeId) (fr:Nat×Nat),w.heap[b]?=some (.cells arr el fr)→∃arr' fr',w'.heap[b]?=some (.cells arr' el fr')∧arr'.size=arr.size
theorem GlobOk.mono{I I':Nat→Nat→Prop}{w w':World}(h:GlobOk I w)(hI:∀b k,I b k→I' b k)(hw:∀b k,I b k→w'.cell? ⟨b,k,none⟩=w.cell? ⟨b,k,none⟩)(hs:SameSz w w'):GlobOk I' w':=⟨fun x hx=>by
 obtain⟨h3,h4⟩:=h.1 x hx
 refine⟨fun hm=>?_,fun i v hv=>?_⟩
 ·obtain⟨arr,el,fr,h1,h2⟩:=h3 hm
  obtain⟨arr',fr',k1,k2⟩:=hs _ _ _ _ h1
  exact⟨arr',el,fr',k1,by rw[k2,h2]⟩
 obtain⟨h1,h2⟩:=h4 i v hv
 exact⟨hI _ _ h1,by rw[hw _ _ h1];exact h2⟩,fun g hg=>by
 obtain⟨m,h1,h2⟩:=h.2 g hg
 exact⟨m,hI _ _ h1,by rw[hw _ _ h1];exact h2⟩⟩
theorem SameSz.refl(w:World):SameSz w w:=fun _ arr _ fr h=>⟨arr,fr,h,rfl⟩
structure Inv(I:Nat→Nat→Prop)(β:Id→Option CLoc)(n:Nat)(H:AHeap)(w:World):Prop where
 blocks:∀id blk,H.get id=some blk→∃c,β id=some c∧RepB I β n w c blk
 inj:∀i j c d b k,β i=some c→β j=some d→c.has b k→d.has b k→i=j
 own:∀i c b k,β i=some c→c.has b k→¬I b k∧b<w.heap.size
 imm:∀b k,I b k→∃v,w.cell? ⟨b,k,none⟩=some v
 fresh:∀id:Id,n≤id.1→β id=none
 glob:GlobOk I w
def Vl:Bool:=false
structure TapeOk(w w':World):Prop where
 eq:w'.tape=w.tape
 le:Vl=true→w.drawn≤w'.drawn
theorem TapeOk.trans{w w' w'':World}(b:TapeOk w' w'')(a:TapeOk w w'):TapeOk w w'':=⟨b.eq.trans a.eq,fun h=>Nat.le_trans (a.le h) (b.le h)⟩
structure Ext(I:Nat→Nat→Prop)(β:Id→Option CLoc)(n:Nat)(H:AHeap)(w:World)(I':Nat→Nat→Prop)(β':Id→Option CLoc)(n':Nat)(H':AHeap)(w':World):Prop where
 os:w'.os=w.os
 tape:TapeOk w w'
 output:w'.output=w.output
 size:w.heap.size≤w'.heap.size
 frame:∀b,b<w.heap.size→(∀id c k,β id=some c→H.get id≠none→¬c.has b k)→w'.heap[b]?=w.heap[b]?
 cells:∀b k v,w.cell? ⟨b,k,none⟩=some v→(∀id c,β id=some c→H.get id≠none→¬c.has b k)→w'.cell? ⟨b,k,none⟩=some v
 shape:∀ (b:Nat) (arr:Array Value) (el:TypeId) (fr:Nat×Nat),w.heap[b]?=some (.cells arr el fr)→∃arr' fr',w'.heap[b]?=some (.cells arr' el fr')∧arr'.size=arr.size∧(fr'=fr∨∀k,k<arr.size→∃id c,β id=some c∧H.get id≠none∧c.has b k)
 maps:∀ (b:Nat) (o:Obj) (ho:zfv o=true),w.heap[b]?=some o→(∀id c,β id=some c→H.get id≠none→¬c.has b 0)→w'.heap[b]?=some o
 imm:∀b k,I b k→I' b k
 immNew:∀b k,I' b k→¬I b k→b<w.heap.size→∃id c,β id=some c∧c.has b k∧H.get id≠none
 old:∀id:Id,id.1<n→β' id=β id∨(β' id=none∧H.get id≠none)
 new:∀ (id:Id) c b k,n≤id.1→β' id=some c→c.has b k→w.heap.size≤b∨∃i0 c0,β i0=some c0∧c0.has b k∧H.get i0≠none
 dom:∀id:Id,id.1<n→H'.get id≠none→H.get id≠none
 le:n≤n'
theorem Ext.refl(I:Nat→Nat→Prop)(β:Id→Option CLoc)(n:Nat)(H:AHeap)(w:World)(hf:∀id:Id,n≤id.1→β id=none):Ext I β n H w I β n H w where
 os:=rfl
 tape:=⟨rfl,fun _=>Nat.le_refl _⟩
 output:=rfl
 size:=Nat.le_refl _
 frame:=fun _ _ _=>rfl
 cells:=fun _ _ _ h _=>h
 shape:=fun _ arr _ fr h=>⟨arr,fr,h,rfl,.inl rfl⟩
 maps:=fun _ _ _ h _=>h
 imm:=fun _ _ h=>h
 immNew:=fun _ _ h h'=>absurd h h'
 old:=fun _ _=>.inl rfl
 new:=fun id c b k h e=>by rw[hf id h] at e;cases e
 dom:=fun _ _ h=>h
 le:=Nat.le_refl _
theorem uf{w:World}{b k:Nat}{v:Value}(h:w.cell? ⟨b,k,none⟩=some v):b<w.heap.size:=World.block_lt_of_cell? _ _ h
theorem Ext.trans{I I' I'':Nat→Nat→Prop}{β β' β'':Id→Option CLoc}{n n' n'':Nat}{H H' H'':AHeap}{w w' w'':World}
 (a:Ext I β n H w I' β' n' H' w') (b:Ext I' β' n' H' w' I'' β'' n'' H'' w''):Ext I β n H w I'' β'' n'' H'' w'':=by
 have own:∀id c b k,β' id=some c→H'.get id≠none→c.has b k→b<w.heap.size→∃i0 c0,β i0=some c0∧c0.has b k∧H.get i0≠none:=by
  intro id c b k he hg hk hlt
  by_cases hid:id.1<n
  ·rcases a.old id hid with h|⟨h,_⟩
   ·exact⟨id,c,h▸he,hk,a.dom id hid hg⟩
   ·rw[h] at he;cases he
  ·rcases a.new id c b k (by omega) he hk with h|h
   ·omega
   ·exact h
 refine⟨b.os.trans a.os,b.tape.trans a.tape,b.output.trans a.output,Nat.le_trans a.size b.size,?_,?_,?_,?_,fun x k h=>b.imm x k (a.imm x k h),?_,?_,?_,fun id h hg=>a.dom id h (b.dom id (by have:=a.le;omega) hg),Nat.le_trans a.le b.le⟩
 ·intro x hx hn
  rw[b.frame x (by have:=a.size;omega) ?_,a.frame x hx hn]
  intro id c k he hg hk
  obtain⟨i0,c0,h1,h2,h3⟩:=own id c x k he hg hk hx
  exact hn i0 c0 k h1 h3 h2
 ·intro x k v hv hn
  refine b.cells x k v (a.cells x k v hv hn) ?_
  intro id c he hg hk
  obtain⟨i0,c0,h1,h2,h3⟩:=own id c x k he hg hk (uf hv)
  exact hn i0 c0 h1 h3 h2
 ·intro x arr el fr h
  obtain⟨arr',fr',h1,h2,h5⟩:=a.shape x arr el fr h
  obtain⟨arr'',fr'',h3,h4,h6⟩:=b.shape x arr' el fr' h1
  refine⟨arr'',fr'',h3,h4.trans h2,?_⟩
  have hlt:x<w.heap.size:=by
   rcases Nat.lt_or_ge x w.heap.size with h'|h'
   ·exact h'
   ·rw[Array.getElem?_eq_none h'] at h;cases h
  rcases h6 with h6|h6
  ·rcases h5 with h5|h5
   ·exact .inl (h6.trans h5)
   ·exact .inr h5
  ·refine .inr fun k hk=>?_
   obtain⟨id,c,e1,e2,e3⟩:=h6 k (by omega)
   obtain⟨i0,c0,g1,g2,g3⟩:=own id c x k e1 e2 e3 hlt
   exact⟨i0,c0,g1,g3,g2⟩
 ·intro x es ck h hn
  refine b.maps x es ck (a.maps x es ck h hn) ?_
  intro id c he hg hk
  have hlt:x<w.heap.size:=by
   rcases Nat.lt_or_ge x w.heap.size with h'|h'
   ·exact h'
   ·rw[Array.getElem?_eq_none h'] at h;cases h
  obtain⟨i0,c0,h1,h2,h3⟩:=own id c x 0 he hg hk hlt
  exact hn i0 c0 h1 h3 h2
 ·intro x k h hn hx
  by_cases hi:I' x k
  ·exact a.immNew x k hi hn hx
  ·obtain⟨id,c,h1,h2,h3⟩:=b.immNew x k h hi (by have:=a.size;omega)
   exact own id c x k h1 h3 h2 hx
 ·intro id hid
  rcases b.old id (by have:=a.le;omega) with h|⟨h,hg⟩
  ·rcases a.old id hid with g|⟨g,gg⟩
   ·exact .inl (h.trans g)
   ·exact .inr ⟨h.trans g,gg⟩
  ·exact .inr ⟨h,a.dom id hid hg⟩
 ·intro id c x k hid he hk
  by_cases hn:id.1<n'
  ·rcases b.old id hn with h|⟨h,_⟩
   ·exact a.new id c x k hid (h▸he) hk
   ·rw[h] at he;cases he
  ·rcases b.new id c x k (by omega) he hk with h|⟨i1,c1,h1,h2,h3⟩
   ·have:=a.size;omega
   ·by_cases hlt:x<w.heap.size
    ·exact .inr (own i1 c1 x k h1 h3 h2 hlt)
    ·exact .inl (by omega)
theorem cell?_of_heap {w w':World} {b o:Nat} (h:w'.heap[b]?=w.heap[b]?):w'.cell? ⟨b,o,none⟩=w.cell? ⟨b,o,none⟩:=by
 unfold World.cell?;simp only[h]
theorem RepI.mono{I I':Nat→Nat→Prop}{w w':World}(hI:∀b k,I b k→I' b k)(hw:∀b k,I b k→w'.cell? ⟨b,k,none⟩=w.cell? ⟨b,k,none⟩){x:AVal}{v:Value}(h:RepI I w x v):RepI I' w' x v:=by
 induction h with
 |bool b=>exact .bool b
 |int k n=>exact .int k n
 |str l=>exact .str l
 |val v h=>exact .val v h
 |agg cs vs h1 h2 _ ih=>exact .agg cs vs h1 h2 ih
 |tup cs vs h1 _ ih=>exact .tup cs vs h1 ih
 |islNil s f=>exact .islNil s f
 |islEmpty s f a cap h=>exact .islEmpty s f a cap h
 |isl s es f b o cap vf h1 h2 h3 h4 h5 h6 _ ih=>exact .isl s es f b o cap vf (fun i r j x hi hj=>hI _ _ (h1 i r j x hi hj)) h2 h3 h4 (fun i r j x hi hj=>(hw _ _ (h1 i r j x hi hj)).trans (h5 i r j x hi hj)) h6 ih
 |iptr s es b o i0 off vf h1 h4 h5 h6 _ ih=>exact .iptr s es b o i0 off vf (fun i r j x hi hj=>hI _ _ (h1 i r j x hi hj)) h4 (fun i r j x hi hj=>(hw _ _ (h1 i r j x hi hj)).trans (h5 i r j x hi hj)) h6 ih
 |fn f a c fs cs h1 h2 _ _ ih1 ih2=>exact .fn f a c fs cs h1 h2 ih1 ih2
 |ifc t x v _ ih=>exact .ifc t x v ih
theorem Rep.mono'{I I':Nat→Nat→Prop}{β β':Id→Option CLoc}{n n':Nat}{w w':World}(hI:∀b k,I b k→I' b k)(hw:∀b k,I b k→w'.cell? ⟨b,k,none⟩=w.cell? ⟨b,k,none⟩)
 (hn:n≤n') (hβ:∀ (id:Id) c,id.1<n→β' id=some c→β id=some c) {x:AVal} {v:Value} (h:Rep I β n w x v):Rep I' β' n' w' x v:=by
 induction h with
 |any v=>exact .any v
 |imm x v h=>exact .imm x v (h.mono hI hw)
 |agg cs vs h1 h2 _ ih=>exact .agg cs vs h1 h2 ih
 |tup cs vs h1 _ ih=>exact .tup cs vs h1 ih
 |fn f a c fs cs h1 h2 _ _ ih1 ih2=>exact .fn f a c fs cs h1 h2 ih1 ih2
 |ifc t x v _ ih=>exact .ifc t x v ih
 |osl tok s es v h1 h2 h3=>exact .osl tok s es v (by omega) (h2.mono hI hw) (fun c hc=>h3 c (hβ tok c h1 hc))
 |ptr b i off a hb h=>exact .ptr b i off a (by omega) (fun c hc=>h c (hβ b c hb hc))
 |msl b s off len f a cap hb h1 h2 h3=>exact .msl b s off len f a cap (by omega) h1 h2 (fun c hc=>h3 c (hβ b c hb hc))
 |map b r hb h=>exact .map b r (by omega) (fun c hc=>h c (hβ b c hb hc))
 |optp b a hb h=>exact .optp b a (by omega) (fun c hc=>h c (hβ b c hb hc))
 |cnd p x v _ h ih=>exact .cnd p x v ih h
section
variable {I I':Nat→Nat→Prop} {β β':Id→Option CLoc} {n n':Nat} {H H':AHeap} {w w':World}
theorem Ext.heapI(e:Ext I β n H w I' β' n' H' w')(i:Inv I β n H w):∀b k,I b k→w'.cell? ⟨b,k,none⟩=w.cell? ⟨b,k,none⟩:=by
 intro b k hb
 obtain⟨v,hv⟩:=i.imm b k hb
 rw[hv]
 exact e.cells b k v hv (fun id c hc _ hk=>(i.own id c b k hc hk).1 hb)
theorem Ext.back(e:Ext I β n H w I' β' n' H' w'):∀ (id:Id) c,id.1<n→β' id=some c→β id=some c:=by
 intro id c hid h
 rcases e.old id hid with g|⟨g,_⟩
 ·exact g▸h
 ·rw[g] at h;cases h
theorem Rep.mono(e:Ext I β n H w I' β' n' H' w')(i:Inv I β n H w){x:AVal}{v:Value}(h:Rep I β n w x v):Rep I' β' n' w' x v:=
 h.mono' e.imm (e.heapI i) e.le e.back
end
def RepEnv(I:Nat→Nat→Prop)(β:Id→Option CLoc)(n:Nat)(w:World)(e:Env)(a:Act):Prop:=∀t,Rep I β n w (e.get t) (a.tmps.getD t undef)
theorem Env.get_put_same(e:Env)(d:Nat)(v:AVal):(e.put (some d) v).get d=v:=by simp[Env.put,Env.get]
theorem Env.get_put_other(e:Env){d t:Nat}(v:AVal)(h:d≠t):(e.put (some d) v).get t=e.get t:=by simp[Env.put,Env.get,h]
theorem RepEnv.put{I:Nat→Nat→Prop}{β:Id→Option CLoc}{n:Nat}{w:World}{e:Env}{a:Act}(h:RepEnv I β n w e a){d:Option Nat}{x:AVal}{v:Value}
 (hd:∀t,d=some t→t<a.tmps.size) (hx:Rep I β n w x v):RepEnv I β n w (e.put d x) (a.put d v):=by
 intro t
 cases d with
 |none=>exact h t
 |some d=>
  by_cases hdt:d=t
  ·subst hdt
   rw[Env.get_put_same]
   have:(a.put (some d) v).tmps.getD d undef=v:=by
    have:=hd d rfl
    simp[Act.put,this]
   rw[this];exact hx
  ·rw[Env.get_put_other _ _ hdt]
   have:(a.put (some d) v).tmps.getD t undef=a.tmps.getD t undef:=by
    simp[Act.put,Array.getD_eq_getD_getElem?,Array.getElem?_setIfInBounds_ne hdt]
   rw[this];exact h t
theorem Act.put_size(a:Act)(d:Option Nat)(v:Value):(a.put d v).tmps.size=a.tmps.size:=by
 cases d<;>simp[Act.put]
theorem Act.put_defers(a:Act)(d:Option Nat)(v:Value):(a.put d v).defers=a.defers:=by
 cases d<;>simp[Act.put]
theorem Rep.strip{I:Nat→Nat→Prop}{β:Id→Option CLoc}{n:Nat}{w:World}{x:AVal}{v:Value}(h:Rep I β n w x v)(hn:x.need):Rep I β n w x.strip v:=by
 cases x with
 |cnd p y=>
  cases h with
  |imm _ _ h=>cases h
  |cnd _ _ _ h _=>exact h hn
 |_=>exact h
theorem ya{I:Nat→Nat→Prop}{β:Id→Option CLoc}{n:Nat}{w:World}{e:Env}{a:Act}(h:RepEnv I β n w e a){x:Operand}{y:LOpd}(hl:q9 x=some y)(hn:y.need e) :
 Rep I β n w (y.ev e) (a.eval x):=by
 cases x with
 |tmp t=>simp[q9] at hl;subst hl;exact(h t).strip hn
 |const v=>
  cases v with
  |agg vs=>
   simp only[q9] at hl
   split at hl<;>try (cases hl;done)
   rename_i hc
   simp only[Option.some.injEq] at hl
   subst hl
   rw[List.all_eq_true] at hc
   refine .imm _ _ (.agg _ vs (by simp) (fun v hv=>?_) (fun i x v hx hv=>?_))
   ·have:=hc v hv
    cases v<;>simp_all [xp]
   ·rw[List.getElem?_map] at hx
    rw[Array.getElem?_toList,hv] at hx
    simp only[Option.map_some,Option.some.injEq] at hx
    subst hx
    have:=hc v (List.mem_of_getElem? (by rw[Array.getElem?_toList];exact hv))
    cases v with
    |agg _=>cases this
    |tuple _=>cases this
    |bool b=>exact .bool b
    |int k m=>exact .int k m
    |string s=>exact .str s.data.toList
    |_=>exact .val _ rfl
  |tuple _=>simp[q9] at hl
  |bool b=>simp[q9,Xy] at hl;subst hl;exact .imm _ _ (.bool b)
  |int k m=>simp[q9,Xy] at hl;subst hl;exact .imm _ _ (.int k m)
  |string s=>simp[q9,Xy] at hl;subst hl;exact .imm _ _ (.str s.data.toList)
  |_=>simp[q9,Xy] at hl;subst hl;exact .imm _ _ (.val _ rfl)
 |global g=>simp[q9] at hl
 |func f=>simp[q9] at hl;subst hl;exact .imm _ _ (.fn (.func f) [] [] #[] #[] rfl rfl (by simp) (by simp))
end Go.Fx
