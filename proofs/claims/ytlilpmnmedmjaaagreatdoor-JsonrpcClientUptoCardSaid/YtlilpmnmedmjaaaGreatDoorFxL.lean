/-
  Own framework.
-/
import Derived.Test.YtlilpmnmedmjaaaGreatDoorFxX
namespace Go.Fx
set_option linter.unusedVariables false
variable {P:Program} {N:Lay}
theorem LWp.mono{n0:Nat}{lc:LCode}{Q Q':Exit→Env→AHeap→Nat→Prop}{e:Env}{H:AHeap}{n:Nat}(h:LWp P N n0 lc Q e H n)(hq:∀ex e H n,Q ex e H n→Q' ex e H n):LWp P N n0 lc Q' e H n:=
 fun c hc ro hro I0 β0 H0 w0 I β w a h0 h1 h2 h3 h4 QQ hQ=>h c hc ro hro I0 β0 H0 w0 I β w a h0 h1 h2 h3 h4 QQ fun ex e' H' n' I' β' w' a' g1 g2 g3 g4 g5 g6=>hQ ex e' H' n' I' β' w' a' (hq _ _ _ _ g1) g2 g3 g4 g5 g6
theorem zh7{draw:Bool}{ops:Array Oper}{f t:Nat}(h:zqz N draw ops=some (f,t)):N.rd=false∧draw=false∧t<N.n ∧
 ∃o1 o2 fs cs c,ops.toList=[o1,o2]∧o1.dst=some t∧o1.op=.makeFunc (.func f) fs cs∧o1.guard=none∧o2.dst=none∧o2.op=.defer c∧o2.guard=none∧c.callee=.value (.tmp t)∧fs=#[]∧c.args=#[]:=by
 unfold zqz at h
 split at h<;>try (cases h;done)
 rename_i o1 o2 hrd hops
 split at h<;>try (cases h;done)
 rename_i t0 f0 fs cs c h1 h2 h3 h4 h5 h6
 split at h<;>try (cases h;done)
 rename_i t' hc
 split at h<;>try (cases h;done)
 rename_i hb
 simp only[Bool.and_eq_true,beq_iff_eq,Nat.blt_eq] at hb
 simp only[Option.some.injEq,Prod.mk.injEq] at h
 obtain⟨rfl,rfl⟩:=h
 obtain⟨⟨⟨b1,b2⟩,rfl⟩,b4⟩:=hb
 exact⟨hrd,rfl,b4,o1,o2,fs,cs,c,hops,h1,h2,h3,h4,h5,h6,hc,Array.size_eq_zero_iff.1 b1,Array.size_eq_zero_iff.1 b2⟩
theorem za2{n0 id:Nat}{ops:Array Oper}{draw:Bool}{f t:Nat}(hd:zqz N draw ops=some (f,t)){Q:Exit→Env→AHeap→Nat→Prop}{e:Env}{H:AHeap}{n:Nat}(h:zgg P f∧Q .normal (e.put (some t) .any) H n)
 {ro:Option Nat} (hro:N.rd=false→ro=none) {I0:Nat→Nat→Prop} {β0:Id→Option CLoc} {H0:AHeap} {w0:World} {I:Nat→Nat→Prop} {β:Id→Option CLoc} {w:World} {a:Act} (hX:Ext I0 β0 n0 H0 w0 I β n H w) (hI:Inv I β n H w) (hE:RepEnv I β n w e a) (hN:a.tmps.size=N.n) (hD:Dfr P w0.heap.size w a.defers) {QQ:Exit→Act→World→Prop} (hQ:zy9 P N I0 β0 n0 H0 w0 Q QQ) :
 (Code.region id ops draw).wpIn (z0h ro) 0 P QQ a w:=by
 obtain⟨hrd,rfl,ht,o1,o2,fs,cs,c,hops,h1,h2,h3,h4,h5,h6,hc,rfl,hca⟩:=zh7 hd
 obtain rfl:=hro hrd
 have hsz:ops.size=2:=by rw[←Array.length_toList,hops];rfl
 have g0:ops[0]?=some o1:=by rw[←Array.getElem?_toList,hops];rfl
 have g1:ops[1]?=some o2:=by rw[←Array.getElem?_toList,hops];rfl
 refine wpIn_region ?_
 have hr:List.range ops.size=[0,1]:=by rw[hsz];rfl
 rw[hr]
 unfold wpOpsIn
 simp only[g0]
 rw[Z1 h3,if_pos rfl]
 refine⟨fun _ _=>trivial,?_⟩
 have e1:(o1.semAt (z0h none).round a.eval).run P w=.ok (.value (.func (.func f) #[] (cs.map a.eval))) w:=by
  show(execOp a.eval o1).run P w=_
  obtain⟨d1,p1,t1,s1,a1,g1⟩:=o1
  simp only at h2
  subst h2
  have hm:(Instr.makeFunc (.func f) #[] (cs.map a.eval)).run P w=.ok (.func (.func f) #[] (cs.map a.eval)) w:=rfl
  simp[go_sem,hm]
 rw[e1,Oper.uponIn_value,h1]
 unfold wpOpsIn
 simp only[g1]
 rw[Z1 h6,if_pos rfl]
 refine⟨fun _ _=>trivial,?_⟩
 have ev:(a.put (some t) (.func (.func f) #[] (cs.map a.eval))).eval (.tmp t)=.func (.func f) #[] (cs.map a.eval):=by
  have:t<a.tmps.size:=by rw[hN];exact ht
  simp[Act.eval,Act.put,this]
 have e2:(o2.semAt (z0h none).round (a.put (some t) (.func (.func f) #[] (cs.map a.eval))).eval).run P w=.ok (.defer { target:=.fn (.func f) (cs.map a.eval),args:=#[] }) w:=by
  show(execOp _ o2).run P w=_
  obtain⟨d1,p1,t1,s1,a1,g1⟩:=o2
  simp only at h5
  subst h5
  simp[execOp,resolve,hc,hca,ev,Deferred.ofValue]
 rw[e2,Oper.uponIn_defer,h4]
 unfold wpOpsIn
 have hE1:RepEnv I β n w (e.put (some t) .any) (a.put (some t) (.func (.func f) #[] (cs.map a.eval))):=
  hE.put (fun t' ht'=>by cases ht';rw[hN];exact ht) (.any _)
 refine hQ .normal _ H n I β w _ h.2 hI ?_ ?_ ?_ hX
 ·exact hE1
 ·show(a.put (some t) _).tmps.size=N.n
  rw[Act.put_size];exact hN
 ·show Dfr P w0.heap.size w (_::(a.put (some t) _).defers)
  rw[Act.put_defers]
  exact hD.idle (h.1 _)
theorem yx{n0:Nat}(lc:LCode)(Q:Exit→Env→AHeap→Nat→Prop)(e:Env)(H:AHeap)(n:Nat)(h:V7 P N n0 lc Q e H n):LWp P N n0 lc Q e H n:=by
 intro c
 induction c generalizing lc Q e H n with
 |skip=>
  intro hc ro hro I0 β0 H0 w0 I β w a hX hI hE hN hD QQ hQ
  simp only[y1,Option.some.injEq] at hc
  subst hc
  exact wpIn_skip (hQ _ _ _ _ _ _ _ _ h hI hE hN hD hX)
 |region id os draw=>
  intro hc ro hro I0 β0 H0 w0 I β w a hX hI hE hN hD QQ hQ
  cases draw with
  |false=>
   simp only[y1] at hc
   split at hc
   ·rename_i x hd
    simp only[Option.some.injEq] at hc
    subst hc
    exact za2 hd h hro hX hI hE hN hD hQ
   split at hc<;>try (cases hc;done)
   rename_i ll hll
   simp only[Bool.false_eq_true,if_false,Option.some.injEq] at hc
   subst hc
   obtain⟨k1,k2⟩:=Jj _ _ hll
   refine wpIn_region (z4r (Q:=Q .normal) (List.range os.size) ll (by simpa using k1) ?_ h hI hE hN hD (fun e' H' n' I' β' w' a' g1 g2 g3 g4 g5 g6=>hQ _ _ _ _ _ _ _ _ g1 g2 g3 g4 g5 (hX.trans g6)))
   intro k i lo hi hlo
   have hk:k<os.size:=by
    rcases Nat.lt_or_ge k os.size with h|h
    ·exact h
    ·rw[List.getElem?_eq_none (by simpa using h)] at hi;cases hi
   rw[List.getElem?_range hk] at hi
   simp only[Option.some.injEq] at hi
   subst hi
   exact⟨os[k],Array.getElem?_eq_getElem hk,k2 k os[k] lo (by simp[hk]) hlo⟩
  |true=>
   simp only[y1,if_true] at hc
   split at hc
   ·rename_i x hd
    simp only[Option.some.injEq] at hc
    subst hc
    exact za2 hd h hro hX hI hE hN hD hQ
   split at hc<;>try (cases hc;done)
   rename_i ll hll
   split at hc<;>try (cases hc;done)
   rename_i hm
   obtain⟨k1,k2⟩:=Jj _ _ hll
   have hheap:({ w with drawn:=w.drawn+1 }:World).heap=w.heap:=rfl
   have hId:=hI.of_heap hheap
   have hdraw:Ext I β n H w I β n H { w with drawn:=w.drawn+1 }:=by
    have:=Ext.refl I β n H w hI.fresh
    exact⟨rfl,⟨rfl,fun _=>Nat.le_succ _⟩,rfl,Nat.le_refl _,fun _ _ _=>rfl,fun _ _ _ h _=>h,fun _ arr _ fr h=>⟨arr,fr,h,rfl,.inl rfl⟩,fun _ _ _ h _=>h,this.imm,this.immNew,this.old,this.new,this.dom,this.le⟩
   split at hc
   ·rename_i hcond
    simp only[Bool.and_eq_true] at hcond
    simp only[Option.some.injEq] at hc
    subst hc
    simp only[Bool.not_eq_eq_eq_not,Bool.not_true] at hcond
    obtain rfl:=hro hcond.1
    refine wpIn_wide.2 (wp_region_quiet (C:=fun w'=>w'={ w with drawn:=w.drawn+1 }) hm hcond.2.1 rfl ?_)
    refine z97 (K0:=w0.heap.size) (w0:={ w with drawn:=w.drawn+1 }) (Q:=Q .normal) (w:={ w with drawn:=w.drawn+1 }) (fun w' h=>h) hId os.toList ll k1 k2 h (fun t=>(hE t).of_heap hheap) hN (hD.of_heap hheap) ?_
    intro e' a' g1 g2 g3 g4 w' hw'
    subst hw'
    exact hQ _ _ _ _ _ _ _ _ g1 hId g2 g3 g4 (hX.trans hdraw)
   ·obtain⟨sw,items,R,hit,h,hR,hap⟩:∃sw items,∃R:Env→AHeap→Nat→Prop,Jq sw os ll=some items∧xd P items 0 [] R e H n∧(∀e H n,R e H n→Q .normal e H n)∧∀i1 i2,items[os.size-2]?=some i1→items[os.size-1]?=some i2→ApR sw i1.lo i2.lo R:=by
     unfold z0a at hc
     split at hc
     ·rename_i items hit
      simp only[Option.some.injEq] at hc
      subst hc
      exact⟨false,items,Q .normal,hit,h,fun _ _ _ h=>h,fun _ _ _ _ hs=>by cases hs⟩
     ·unfold U3 at hc
      split at hc<;>try (cases hc;done)
      rename_i items hit
      split at hc<;>try (cases hc;done)
      rename_i i1 i2 hi1 hi2
      split at hc<;>try (cases hc;done)
      rename_i a b hop1 hop2
      split at hc<;>try (cases hc;done)
      simp only[Option.some.injEq] at hc
      subst hc
      refine⟨true,items,_,hit,h,fun _ _ _ h=>h.2,fun j1 j2 hj1 hj2 _ k a' x k' b' y g1 g2 e H n hr=>?_⟩
      rw[hi1] at hj1
      rw[hi2] at hj2
      simp only[Option.some.injEq] at hj1 hj2
      subst hj1 hj2
      rw[hop1] at g1
      rw[hop2] at g2
      cases g1
      cases g2
      exact hr.1
    obtain⟨ord,pre,loose,D,hlen,hll2,hits⟩:=z3a hit
    refine wpIn_region_any hm ?_
    have hun:∀i,(Array.replicate os.size false).getD i false=false:=fun i=>by
     rcases Nat.lt_or_ge i os.size with h|h
     ·simp[h]
     ·simp[h]
    refine y1a (N:=N) (R:=R) (QQ:=QQ) (e0:=e) (fun e' H' n' I' β' w' a' g1 g2 g3 g4 g5 g6=>hQ .normal e' H' n' I' β' w' a' (hR _ _ _ g1) g2 g3 g4 g5 g6) (os.size+items.length) _ _ _ D ?_ ?_ os.size 0 items _ (fun _=>⟨0,0,0,0,0⟩) (fun _=>.any) [] e H n I β { w with drawn:=w.drawn+1 } a (Nat.le_refl _) (by omega) ?_ (by simp) ?_ ?_ (fun p p' _ _ _ _ hl=>by rw[hun] at hl;cases hl) (fun _ _=>rfl) ?_ ?_ ?_ ?_ ?_ ?_ h hId hN (hD.of_heap hheap) (hX.trans hdraw)
    ·intro p hp
     have hp2:=D.lt p hp
     refine⟨os[ord p]'hp2,Array.getElem?_eq_getElem hp2,k2 (ord p) _ _ (by simp[hp2]) ?_⟩
     rw[List.getD_eq_getElem?_getD,List.getElem?_eq_getElem (by omega)]
     simp
    ·intro hsw hm2
     have l1:os.size-2<items.length:=by omega
     have l2:os.size-1<items.length:=by omega
     have t1:=(hits _ _ (List.getElem?_eq_getElem l1)).1
     have t2:=(hits _ _ (List.getElem?_eq_getElem l2)).1
     have:=hap _ _ (List.getElem?_eq_getElem l1) (List.getElem?_eq_getElem l2)
     rw[t1,t2] at this
     exact this
    ·intro i it hi
     rw[Nat.zero_add]
     exact hits i it hi
    ·intro j hj
     rw[hun] at hj;cases hj
    ·intro p hp hl
     rw[hun] at hl;cases hl
    ·intro p hp;omega
    ·unfold unl
     exact Nat.le_trans (List.length_filter_le _ _) (by simp)
    ·intro t
     unfold Xt
     rw[List.find?_eq_none.2 (by simp)]
    ·intro t
     have:Xt os.size (fun p=>ll.getD (ord p) vr) e (fun _=>.any) (fun x=>(Array.replicate os.size false).getD (ord x) false) t=e.get t:=by
      unfold Xt
      rw[List.find?_eq_none.2 (fun x _=>by simp only[hun];simp)]
     rw[this]
     exact(hE t).of_heap hheap
    ·intro p hp;omega
    ·intro p hp;omega
 |seq x y ihx ihy=>
  intro hc ro hro I0 β0 H0 w0 I β w a hX hI hE hN hD QQ hQ
  simp only[y1] at hc
  split at hc<;>try (cases hc;done)
  rename_i x' y' hx hy
  simp only[Option.some.injEq] at hc
  subst hc
  refine wpIn_seq (ihx x' _ e H n h hx ro hro I0 β0 H0 w0 I β w a hX hI hE hN hD _ ?_)
  intro ex e' H' n' I' β' w' a' g1 g2 g3 g4 g5 g6
  cases ex with
  |normal=>exact ihy y' _ e' H' n' g1 hy ro hro I0 β0 H0 w0 I' β' w' a' g6 g2 g3 g4 g5 QQ hQ
  |_=>exact hQ _ _ _ _ _ _ _ _ g1 g2 g3 g4 g5 g6
 |cond cx x y ihx ihy=>
  intro hc ro hro I0 β0 H0 w0 I β w a hX hI hE hN hD QQ hQ
  simp only[y1] at hc
  split at hc<;>try (cases hc;done)
  rename_i c' x' y' hcx hx hy
  simp only[Option.some.injEq] at hc
  subst hc
  simp only[V7] at h
  split at h
  ·rename_i v hev
   obtain⟨h1,h2,h3⟩:=h
   have hr:=ya hE hcx h1
   rw[hev] at hr
   exact wpIn_cond_split hr.bool_inv (fun hv=>ihx x' _ e H n (h2 hv) hx ro hro I0 β0 H0 w0 I β w a hX hI hE hN hD QQ hQ) (fun hv=>ihy y' _ e H n (h3 hv) hy ro hro I0 β0 H0 w0 I β w a hX hI hE hN hD QQ hQ)
  ·exact h.elim
 |block id x ih=>
  intro hc ro hro I0 β0 H0 w0 I β w a hX hI hE hN hD QQ hQ
  simp only[y1,Option.map_eq_some_iff] at hc
  obtain⟨x',hx,hc⟩:=hc
  subst hc
  refine wpIn_block (ih x' _ e H n h hx ro hro I0 β0 H0 w0 I β w a hX hI hE hN hD _ ?_)
  intro ex e' H' n' I' β' w' a' g1 g2 g3 g4 g5 g6
  cases ex with
  |exit i=>
   simp only at g1
   simp only[Exit.inBlock]
   split at g1
   ·rename_i hi;rw[if_pos hi];exact hQ _ _ _ _ _ _ _ _ g1 g2 g3 g4 g5 g6
   ·rename_i hi;rw[if_neg hi];exact hQ _ _ _ _ _ _ _ _ g1 g2 g3 g4 g5 g6
  |_=>exact hQ _ _ _ _ _ _ _ _ g1 g2 g3 g4 g5 g6
 |loop x ih=>
  intro hc
  have hc0:=hc
  simp only[y1,Option.map_eq_some_iff] at hc
  obtain⟨x',hx,hc⟩:=hc
  subst hc
  exact h _ hc0
 |exit id=>
  intro hc ro hro I0 β0 H0 w0 I β w a hX hI hE hN hD QQ hQ
  simp only[y1,Option.some.injEq] at hc
  subst hc
  exact wpIn_exit (hQ _ _ _ _ _ _ _ _ h hI hE hN hD hX)
 |ret=>
  intro hc ro hro I0 β0 H0 w0 I β w a hX hI hE hN hD QQ hQ
  simp only[y1,Option.some.injEq] at hc
  subst hc
  exact wpIn_ret (hQ _ _ _ _ _ _ _ _ h hI hE hN hD hX)
 |rangeFunc f ps x y ih1 ih2=>
  intro hc
  have hc0:=hc
  simp only[y1] at hc
  split at hc<;>try (cases hc;done)
  simp only[Option.some.injEq] at hc
  subst hc
  exact h _ hc0
 |scope x ih=>intro hc;cases hc
 |label l=>intro hc;cases hc
 |goto l=>intro hc;cases hc
 |refuse why=>intro hc;cases hc
def AVal.nid:AVal→Bool
 |.bool _|.int _ _|.str _|.val _|.isl _ _ _|.iptr _ _ _ _=>true
 |.tup cs=>nidL cs
 |.agg cs=>nidL cs
 |.fn _ a c=>nidL a&&nidL c
 |.ifc _ x=>x.nid
 |_=>false
where nidL:List AVal→Bool
 |[]=>true
 |x::r=>x.nid&&nidL r
mutual
theorem Jp{I I2:Nat→Nat→Prop}{β β2:Id→Option CLoc}{n n2:Nat}{w:World}(hI:∀b k,I b k→I2 b k):∀ (x:AVal),x.nid=true→∀ {v:Value},Rep I β n w x v→Rep I2 β2 n2 w x v
 |.bool b,_,v,hr=>by cases hr with|imm _ _ h=>exact .imm _ _ (h.mono hI (fun _ _ _=>rfl))
 |.int k m,_,v,hr=>by cases hr with|imm _ _ h=>exact .imm _ _ (h.mono hI (fun _ _ _=>rfl))
 |.str l,_,v,hr=>by cases hr with|imm _ _ h=>exact .imm _ _ (h.mono hI (fun _ _ _=>rfl))
 |.val u,_,v,hr=>by cases hr with|imm _ _ h=>exact .imm _ _ (h.mono hI (fun _ _ _=>rfl))
 |.isl s es f,_,v,hr=>by cases hr with|imm _ _ h=>exact .imm _ _ (h.mono hI (fun _ _ _=>rfl))
 |.iptr s es i o,_,v,hr=>by cases hr with|imm _ _ h=>exact .imm _ _ (h.mono hI (fun _ _ _=>rfl))
 |.tup cs,hn,v,hr=>by
  cases hr with
  |imm _ _ h=>exact .imm _ _ (h.mono hI (fun _ _ _=>rfl))
  |tup _ vs h1 h2=>exact .tup cs vs h1 (fun i x v hx hv=>Vy hI cs hn x (List.mem_of_getElem? hx) (h2 i x v hx hv))
 |.agg cs,hn,v,hr=>by
  cases hr with
  |imm _ _ h=>exact .imm _ _ (h.mono hI (fun _ _ _=>rfl))
  |agg _ vs h1 h2 h3=>exact .agg cs vs h1 h2 (fun i x v hx hv=>Vy hI cs hn x (List.mem_of_getElem? hx) (h3 i x v hx hv))
 |.fn f a c,hn,v,hr=>by
  simp only[AVal.nid,Bool.and_eq_true] at hn
  cases hr with
  |imm _ _ h=>exact .imm _ _ (h.mono hI (fun _ _ _=>rfl))
  |fn _ _ _ fs cs h1 h2 h3 h4=>exact .fn f a c fs cs h1 h2 (fun i x v hx hv=>Vy hI a hn.1 x (List.mem_of_getElem? hx) (h3 i x v hx hv)) (fun i x v hx hv=>Vy hI c hn.2 x (List.mem_of_getElem? hx) (h4 i x v hx hv))
 |.ifc t x,hn,v,hr=>by
  cases hr with
  |imm _ _ h=>exact .imm _ _ (h.mono hI (fun _ _ _=>rfl))
  |ifc _ _ u h=>exact .ifc t x u (Jp hI x hn h)
theorem Vy{I I2:Nat→Nat→Prop}{β β2:Id→Option CLoc}{n n2:Nat}{w:World}(hI:∀b k,I b k→I2 b k):∀ (cs:List AVal),AVal.nid.nidL cs=true→∀x∈cs,∀ {v:Value},Rep I β n w x v→Rep I2 β2 n2 w x v
 |[],_,x,hx,v,hr=>by cases hx
 |y::r,hn,x,hx,v,hr=>by
  simp only[AVal.nid.nidL,Bool.and_eq_true] at hn
  rcases List.mem_cons.1 hx with e|hx
  ·rw[e] at hr ⊢;exact Jp hI y hn.1 hr
  ·exact Vy hI r hn.2 x hx hr
end
def AVal.inP(p:Id→Bool):AVal→Bool
 |.osl tok _ _=>p tok
 |.ptr b _ _=>p b
 |.msl b _ _ _ _=>p b
 |.map b=>p b
 |.optp b=>p b
 |.agg cs=>inPL p cs
 |.tup cs=>inPL p cs
 |.fn _ a c=>inPL p a&&inPL p c
 |.ifc _ x=>x.inP p
 |.cnd _ x=>x.inP p
 |_=>true
where inPL (p:Id→Bool):List AVal→Bool
 |[]=>true
 |x::xs=>x.inP p&&inPL p xs
def ABlock.inP(p:Id→Bool):ABlock→Bool
 |.rows _ es=>es.all (AVal.inP.inPL p)
 |.one cs=>AVal.inP.inPL p cs
 |.amap es=>es.all fun x=>x.1.inP p&&x.2.inP p
 |.tok=>true
 |.bld _ g=>p g
 |.buf _ _=>true
 |.lrec _ _ e=>e.all fun x=>x.2.inP p
 |.rmap es _ _=>es.all fun x=>x.1.inP p&&x.2.inP p
 |.itr m _ _ _=>(match m with|some b=>p b|none=>true)
 |.mbox b=>p b
theorem W4{p:Id→Bool}:∀ {cs:List AVal},AVal.inP.inPL p cs=true→∀x∈cs,x.inP p=true
 |[],_,x,hx=>by cases hx
 |y::ys,h,x,hx=>by
  simp only[AVal.inP.inPL,Bool.and_eq_true] at h
  rcases List.mem_cons.1 hx with e|hx
  ·rw[e];exact h.1
  ·exact W4 h.2 x hx
def AVal.ren(g:Id→Id):AVal→AVal
 |.osl tok s es=>.osl (g tok) s es
 |.ptr b i off=>.ptr (g b) i off
 |.msl b s off len f=>.msl (g b) s off len f
 |.map b=>.map (g b)
 |.optp b=>.optp (g b)
 |.agg cs=>.agg (renL g cs)
 |.tup cs=>.tup (renL g cs)
 |.fn f a c=>.fn f (renL g a) (renL g c)
 |.ifc t x=>.ifc t (x.ren g)
 |.cnd p x=>.cnd p (x.ren g)
 |x=>x
where renL (g:Id→Id):List AVal→List AVal
 |[]=>[]
 |x::r=>x.ren g::renL g r
def Zt(g:Id→Id)(es:List (List AVal)):List (List AVal):=es.map (AVal.ren.renL g)
def ABlock.ren(g:Id→Id):ABlock→ABlock
 |.rows s es=>.rows s (Zt g es)
 |.one cs=>.one (AVal.ren.renL g cs)
 |.amap es=>.amap (es.map fun x=>(x.1.ren g,x.2.ren g))
 |.tok=>.tok
 |.bld T b=>.bld T (g b)
 |.buf e bs=>.buf e bs
 |.lrec l r e=>.lrec l r (e.map fun x=>(x.1,x.2.ren g))
 |.rmap es arr ck=>.rmap (es.map fun x=>(x.1.ren g,x.2.ren g)) arr ck
 |.itr m arr ck seen=>.itr (m.map g) arr ck seen
 |.mbox b=>.mbox (g b)
theorem z6d(g:Id→Id):∀ (e:Env) (t:Nat),Env.get (e.map fun x=>(x.1,x.2.ren g)) t=(Env.get e t).ren g
 |[],t=>rfl
 |(k,v)::r,t=>by
  simp only[List.map_cons,Env.get]
  split
  ·rfl
  ·exact z6d g r t
theorem zjj{p:Id→Bool}:∀ (e:Env) (t:Nat),(e.all fun x=>x.2.inP p)=true→(Env.get e t).inP p=true
 |[],t,_=>rfl
 |(k,v)::r,t,h=>by
  simp only[List.all_cons,Bool.and_eq_true] at h
  simp only[Env.get]
  split
  ·exact h.1
  ·exact zjj r t h.2
theorem kq(g:Id→Id):∀ (l:List AVal),AVal.ren.renL g l=l.map (AVal.ren g)
 |[]=>rfl
 |x::r=>by simp only[AVal.ren.renL,List.map_cons,kq g r]
theorem Y6{g:Id→Id}{l:List AVal}{i:Nat}{y:AVal}(h:(AVal.ren.renL g l)[i]?=some y):∃x,l[i]?=some x∧y=x.ren g:=by
 rw[kq,List.getElem?_map] at h
 cases hx:l[i]? with
 |none=>rw[hx] at h;cases h
 |some x=>rw[hx] at h;simp only[Option.map_some,Option.some.injEq] at h;exact⟨x,rfl,h.symm⟩
theorem Zv{g:Id→Id}(l:List AVal):(AVal.ren.renL g l).length=l.length:=by rw[kq,List.length_map]
theorem Vo{I:Nat→Nat→Prop}{w:World}{g:Id→Id}{x:AVal}{v:Value}(h:RepI I w x v):RepI I w (x.ren g) v:=by
 induction h with
 |bool b=>exact .bool b
 |int k n=>exact .int k n
 |str l=>exact .str l
 |val v h=>exact .val v h
 |agg cs vs h1 h2 _ ih=>exact .agg _ vs (by rw[Zv];exact h1) h2 (fun i x v hx hv=>by obtain⟨y,hy,rfl⟩:=Y6 hx;exact ih i y v hy hv)
 |tup cs vs h1 _ ih=>exact .tup _ vs (by rw[Zv];exact h1) (fun i x v hx hv=>by obtain⟨y,hy,rfl⟩:=Y6 hx;exact ih i y v hy hv)
 |islNil s f=>exact .islNil s f
 |islEmpty s f a cap h=>exact .islEmpty s f a cap h
 |isl s es f b o cap vf h1 h2 h3 h4 h5 h6 h7 _=>exact .isl s es f b o cap vf h1 h2 h3 h4 h5 h6 h7
 |iptr s es b o i0 off vf h1 h4 h5 h6 h7 _=>exact .iptr s es b o i0 off vf h1 h4 h5 h6 h7
 |fn f a c fs cs h1 h2 _ _ ih1 ih2=>exact .fn f _ _ fs cs (by rw[Zv];exact h1) (by rw[Zv];exact h2) (fun i x v hx hv=>by obtain⟨y,hy,rfl⟩:=Y6 hx;exact ih1 i y v hy hv) (fun i x v hx hv=>by obtain⟨y,hy,rfl⟩:=Y6 hx;exact ih2 i y v hy hv)
 |ifc t x v _ ih=>exact .ifc t _ v ih
theorem z1h{p:Id→Bool}{g:Id→Id}{I I2:Nat→Nat→Prop}{β β2:Id→Option CLoc}{n n2:Nat}{w:World}(hI:∀b k,I b k→I2 b k)(hn:∀id:Id,p id=true→(g id).1<n2)
 (hβ:∀ (id:Id) c,p id=true→β2 (g id)=some c→β id=some c) {x:AVal} {v:Value} (h:Rep I β n w x v):x.inP p=true→Rep I2 β2 n2 w (x.ren g) v:=by
 induction h with
 |any v=>intro _;exact .any v
 |imm x v h=>intro _;exact .imm _ _ (Vo (h.mono hI (fun _ _ _=>rfl)))
 |agg cs vs h1 h2 _ ih=>intro hr;exact .agg _ vs (by rw[Zv];exact h1) h2 (fun i x v hx hv=>by obtain⟨y,hy,rfl⟩:=Y6 hx;exact ih i y v hy hv (W4 hr y (List.mem_of_getElem? hy)))
 |tup cs vs h1 _ ih=>intro hr;exact .tup _ vs (by rw[Zv];exact h1) (fun i x v hx hv=>by obtain⟨y,hy,rfl⟩:=Y6 hx;exact ih i y v hy hv (W4 hr y (List.mem_of_getElem? hy)))
 |fn f a c fs cs h1 h2 _ _ ih1 ih2=>
  intro hr
  simp only[AVal.inP,Bool.and_eq_true] at hr
  exact .fn f _ _ fs cs (by rw[Zv];exact h1) (by rw[Zv];exact h2) (fun i x v hx hv=>by obtain⟨y,hy,rfl⟩:=Y6 hx;exact ih1 i y v hy hv (W4 hr.1 y (List.mem_of_getElem? hy)))
   (fun i x v hx hv=>by obtain⟨y,hy,rfl⟩:=Y6 hx;exact ih2 i y v hy hv (W4 hr.2 y (List.mem_of_getElem? hy)))
 |ifc t x v _ ih=>intro hr;exact .ifc t _ v (ih hr)
 |osl tok s es v h1 h2 h3=>intro hr;exact .osl _ s es v (hn tok hr) (h2.mono hI (fun _ _ _=>rfl)) (fun c hc=>h3 c (hβ tok c hr hc))
 |ptr b i off a hb h=>intro hr;exact .ptr _ i off a (hn b hr) (fun c hc=>h c (hβ b c hr hc))
 |msl b s off len f a cap hb h1 h2 h3=>intro hr;exact .msl _ s off len f a cap (hn b hr) h1 h2 (fun c hc=>h3 c (hβ b c hr hc))
 |map b k hb h=>intro hr;exact .map _ k (hn b hr) (fun c hc=>h c (hβ b c hr hc))
 |optp b k hb h=>intro hr;exact .optp _ k (hn b hr) (fun c hc=>h c (hβ b c hr hc))
 |cnd q x v _ h ih=>intro hr;exact .cnd q _ v (fun hp=>ih hp hr) h
theorem zfi{p:Id→Bool}{g:Id→Id}{I I2:Nat→Nat→Prop}{β β2:Id→Option CLoc}{n n2:Nat}{w:World}(hI:∀b k,I b k→I2 b k)(hn:∀id:Id,p id=true→(g id).1<n2)
 (hβ:∀ (id:Id) c,p id=true→β2 (g id)=some c→β id=some c) {c:CLoc} {s:Nat} {es:List (List AVal)} (hr:(ABlock.rows s es).inP p=true) (hB:RepB I β n w c (.rows s es)):RepB I2 β2 n2 w c (.rows s (Zt g es)):=by
 obtain⟨h1,h2,h3,h4,h5,h6,h7⟩:=hB
 have hrow:∀ {i:Nat} {q:List AVal},(Zt g es)[i]?=some q→∃q0,es[i]?=some q0∧q=AVal.ren.renL g q0:=by
  intro i q hq
  unfold Zt at hq
  rw[List.getElem?_map] at hq
  cases hx:es[i]? with
  |none=>rw[hx] at hq;cases hq
  |some q0=>rw[hx] at hq;simp only[Option.map_some,Option.some.injEq] at hq;exact⟨q0,rfl,hq.symm⟩
 refine⟨h1,h2.imp id (fun z=>⟨z.1,z.2.1,by rw[z.2.2];rfl⟩),h3,h4,by unfold Zt;rw[List.length_map];exact h5,fun i q hi=>?_,fun i q j x hi hj=>?_⟩
 ·obtain⟨q0,hq0,rfl⟩:=hrow hi
  rw[Zv];exact h6 i q0 hq0
 ·obtain⟨q0,hq0,rfl⟩:=hrow hi
  obtain⟨x0,hx0,rfl⟩:=Y6 hj
  obtain⟨v,g1,g2,g3⟩:=h7 i q0 j x0 hq0 hx0
  simp only[ABlock.inP,List.all_eq_true] at hr
  exact⟨v,g1,g2,z1h hI hn hβ g3 (W4 (hr q0 (List.mem_of_getElem? hq0)) x0 (List.mem_of_getElem? hx0))⟩
theorem zrd{p:Id→Bool}{g:Id→Id}{I I2:Nat→Nat→Prop}{β β2:Id→Option CLoc}{n n2:Nat}{w:World}(hI:∀b k,I b k→I2 b k)(hn:∀id:Id,p id=true→(g id).1<n2)
 (hβ:∀ (id:Id) c,p id=true→β2 (g id)=some c→β id=some c) {c:CLoc} {b:ABlock} (hr:b.inP p=true) (hB:RepB I β n w c b):RepB I2 β2 n2 w c (b.ren g):=by
 cases b with
 |bld T g0=>
  obtain⟨h1,h2,h3,h4,q,v,h5,h6,h7⟩:=hB
  exact⟨h1,h2,h3,hn _ hr,q,v,h5,h6,fun d hd=>h7 d (hβ _ d hr hd)⟩
 |buf e bs=>exact hB
 |lrec l r e=>
  obtain⟨h1,h2,h3,h4,h5⟩:=hB
  exact⟨h1,h2,h3,h4,fun t=>by rw[z6d];exact z1h hI hn hβ (h5 t) (zjj e t hr)⟩
 |rmap es arr ck=>
  obtain⟨h1,h2,h3,h4⟩:=hB
  refine⟨h1,h2,h3,by rw[h4.len,List.length_map],fun i k x e hi he=>?_,h4.born,h4.clk⟩
  rw[List.getElem?_map] at hi
  cases hx:es[i]? with
  |none=>rw[hx] at hi;cases hi
  |some y=>
   rw[hx] at hi
   simp only[Option.map_some,Option.some.injEq,Prod.mk.injEq] at hi
   obtain⟨rfl,rfl⟩:=hi
   obtain⟨g1,g2⟩:=h4.ent i y.1 y.2 e hx he
   simp only[ABlock.inP,List.all_eq_true,Bool.and_eq_true] at hr
   exact⟨Vo (g1.mono hI (fun _ _ _=>rfl)),z1h hI hn hβ g2 (hr y (List.mem_of_getElem? hx)).2⟩
 |itr m arr ck seen=>
  obtain⟨h1,h2,h0,k,h3,h4⟩:=hB
  refine⟨h1,h2,h0,k,h3,h4.mono (fun id _ hm=>hn id ?_) (fun id c _ hm hc=>hβ id c ?_ hc)⟩<;>(subst hm;exact hr)
 |mbox b=>
  obtain⟨h1,h2,h0,k,h3,h4⟩:=hB
  refine⟨h1,h2,h0,k,h3,h4.mono (g:=g) (fun id _ hm=>hn id ?_) (fun id c _ hm hc=>hβ id c ?_ hc)⟩<;>(simp only[Option.some.injEq] at hm;subst hm;exact hr)
 |rows s es=>exact zfi hI hn hβ hr hB
 |one cs=>
  have:=zfi (g:=g) (I2:=I2) (β2:=β2) (n2:=n2) hI hn hβ (by simpa[ABlock.inP] using hr) (u0.1 hB)
  simp only[ABlock.ren]
  refine u0.2 ?_
  rw[Zv]
  exact this
 |amap es=>
  obtain⟨h1,h2,arr,ck,h3,h4⟩:=hB
  refine⟨h1,h2,arr,ck,h3,by rw[h4.len,List.length_map],fun i k x e hi he=>?_,h4.born,h4.clk⟩
  rw[List.getElem?_map] at hi
  cases hx:es[i]? with
  |none=>rw[hx] at hi;cases hi
  |some y=>
   rw[hx] at hi
   simp only[Option.map_some,Option.some.injEq,Prod.mk.injEq] at hi
   obtain⟨rfl,rfl⟩:=hi
   obtain⟨g1,g2⟩:=h4.ent i y.1 y.2 e hx he
   simp only[ABlock.inP,List.all_eq_true,Bool.and_eq_true] at hr
   exact⟨Vo (g1.mono hI (fun _ _ _=>rfl)),z1h hI hn hβ g2 (hr y (List.mem_of_getElem? hx)).2⟩
 |tok=>exact hB
inductive Vw(F:Id→Bool)(H:AHeap)(ρ:Id→Option Id)(n:Nat):AVal→AVal→Prop
 |any (x:AVal):Vw F H ρ n x .any
 |same (x:AVal):x.nid=true→Vw F H ρ n x x
 |mov (p:Id→Bool) (g:Id→Id) (x:AVal):x.inP p=true→(∀id:Id,p id=true→(g id).1<n∧ρ (g id)=some id)→Vw F H ρ n x (x.ren g)
 |osl (tok tok':Id) (s:Nat) (es:List (List AVal)):ρ tok'=some tok→Vw F H ρ n (.osl tok s es) (.osl tok' s es)
 |oslI (tok:Id) (s:Nat) (es:List (List AVal)):Vw F H ρ n (.osl tok s es) (.isl s es false)
 |ptr (b b':Id) (i off:Nat):ρ b'=some b→Vw F H ρ n (.ptr b i off) (.ptr b' i off)
 |msl (b b':Id) (s off len:Nat) (f:Bool):ρ b'=some b→Vw F H ρ n (.msl b s off len f) (.msl b' s off len f)
 |mslF (b b':Id) (s off len:Nat) (f:Bool):ρ b'=some b→Vw F H ρ n (.msl b s off len f) (.msl b' s off len false)
 |map (b b':Id):ρ b'=some b→Vw F H ρ n (.map b) (.map b')
 |optp (b b':Id):ρ b'=some b→Vw F H ρ n (.optp b) (.optp b')
 |nilP (b':Id):b'.1<n→Vw F H ρ n (.val (.pointer none)) (.optp b')
 |ptrP (b b':Id):ρ b'=some b→Vw F H ρ n (.ptr b 0 0) (.optp b')
 |islM (b b':Id) (s off:Nat) (f:Bool) (es:List (List AVal)):ρ b'=some b→H.get b=some (.rows s es)→Vw F H ρ n (.isl s [] true) (.msl b' s off 0 f)
 |nilM (b b':Id) (s off:Nat) (f:Bool) (es:List (List AVal)):ρ b'=some b→H.get b=some (.rows s es)→Vw F H ρ n (.val (.slice none 0 0)) (.msl b' s off 0 f)
 |nilI (s:Nat) (f:Bool):Vw F H ρ n (.val (.slice none 0 0)) (.isl s [] f)
 |nilO (tok':Id) (s:Nat):tok'.1<n→Vw F H ρ n (.val (.slice none 0 0)) (.osl tok' s [])
 |islF (s:Nat) (es:List (List AVal)) (f:Bool):Vw F H ρ n (.isl s es f) (.isl s es false)
 |islO (tok':Id) (s:Nat) (es:List (List AVal)):tok'.1<n→Vw F H ρ n (.isl s es true) (.osl tok' s es)
 |cnd (p:Bool) (x y:AVal):p=true→Vw F H ρ n x y→Vw F H ρ n (.cnd p x) y
 |agg (cs ds:List AVal):cs.length=ds.length→(∀ (i:Nat) (x y:AVal),cs[i]?=some x→ds[i]?=some y→Vw F H ρ n x y)→Vw F H ρ n (.agg cs) (.agg ds)
 |tup (cs ds:List AVal):cs.length=ds.length→(∀ (i:Nat) (x y:AVal),cs[i]?=some x→ds[i]?=some y→Vw F H ρ n x y)→Vw F H ρ n (.tup cs) (.tup ds)
 |fn (f:Fn) (a c a' c':List AVal):a.length=a'.length→c.length=c'.length→(∀ (i:Nat) (x y:AVal),a[i]?=some x→a'[i]?=some y→Vw F H ρ n x y)→(∀ (i:Nat) (x y:AVal),c[i]?=some x→c'[i]?=some y→Vw F H ρ n x y)→Vw F H ρ n (.fn f a c) (.fn f a' c')
 |ifc (t:TypeId) (x y:AVal):Vw F H ρ n x y→Vw F H ρ n (.ifc t x) (.ifc t y)
 |frz (b:Id) (s off len:Nat) (f f':Bool) (es rows:List (List AVal)):(f'=true→f=true)→F b=true→H.get b=some (.rows s es)→off+len≤es.length→rows.length=len →
  (∀ (i:Nat) (r r':List AVal),es[off+i]?=some r→rows[i]?=some r'→r.length=r'.length) →
  (∀ (i:Nat) (r r':List AVal) (j:Nat) (x y:AVal),es[off+i]?=some r→rows[i]?=some r'→r[j]?=some x→r'[j]?=some y→Vw F H ρ n x y)→(∀r'∈rows,∀y∈r',y.imm=some y)→Vw F H ρ n (.msl b s off len f) (.isl s rows f')
 |frz1 (b:Id) (off:Nat) (r r':List AVal):F b=true→H.get b=some (.one r)→r.length=r'.length→(∀ (j:Nat) (x y:AVal),r[j]?=some x→r'[j]?=some y→Vw F H ρ n x y)→(∀y∈r',y.imm=some y)→Vw F H ρ n (.ptr b 0 off) (.iptr r'.length [r'] 0 off)
 |frzP (b:Id) (s i off:Nat) (es rows:List (List AVal)):F b=true→H.get b=some (.rows s es)→rows.length=es.length →
  (∀ (i:Nat) (r r':List AVal),es[i]?=some r→rows[i]?=some r'→r.length=r'.length) →
  (∀ (i:Nat) (r r':List AVal) (j:Nat) (x y:AVal),es[i]?=some r→rows[i]?=some r'→r[j]?=some x→r'[j]?=some y→Vw F H ρ n x y)→(∀r'∈rows,∀y∈r',y.imm=some y)→Vw F H ρ n (.ptr b i off) (.iptr s rows i off)
inductive BVw(F:Id→Bool)(H:AHeap)(ρ:Id→Option Id)(n:Nat):ABlock→ABlock→Prop
 |tok:BVw F H ρ n .tok .tok
 |bld (T:TypeId) (g g':Id):ρ g'=some g→BVw F H ρ n (.bld T g) (.bld T g')
 |buf (e:TypeId) (bs:List UInt8):BVw F H ρ n (.buf e bs) (.buf e bs)
 |lrec (l:Nat) (r:Loop) (e e':Env):(∀t,Vw F H ρ n (e.get t) (e'.get t))→BVw F H ρ n (.lrec l r e) (.lrec l r e')
 |mov (p:Id→Bool) (g:Id→Id) (b:ABlock):b.inP p=true→(∀id:Id,p id=true→(g id).1<n∧ρ (g id)=some id)→BVw F H ρ n b (b.ren g)
 |one (r r':List AVal):r.length=r'.length→(∀ (j:Nat) (x y:AVal),r[j]?=some x→r'[j]?=some y→Vw F H ρ n x y)→BVw F H ρ n (.one r) (.one r')
 |amap (es:List (AVal×AVal)):(∀x∈es,x.2.nid=true)→BVw F H ρ n (.amap es) (.amap es)
 |amapV (es es':List (AVal×AVal)):es.length=es'.length→(∀ (i:Nat) (k x k' y:AVal),es[i]?=some (k,x)→es'[i]?=some (k',y)→k=k'∧Vw F H ρ n x y)→BVw F H ρ n (.amap es) (.amap es')
 |rmap (es:List (AVal×AVal)) (arr:Array MapEntry) (ck:Nat):(∀x∈es,x.2.nid=true)→BVw F H ρ n (.rmap es arr ck) (.rmap es arr ck)
 |rmapA (es:List (AVal×AVal)) (arr:Array MapEntry) (ck:Nat):(∀x∈es,x.2.nid=true)→BVw F H ρ n (.rmap es arr ck) (.amap es)
 |itr (b b':Id) (arr:Array MapEntry) (ck:Nat) (seen:List Nat):ρ b'=some b→BVw F H ρ n (.itr (some b) arr ck seen) (.itr (some b') arr ck seen)
 |mbox (b b':Id):ρ b'=some b→BVw F H ρ n (.mbox b) (.mbox b')
 |rows (s:Nat) (es es':List (List AVal)):es.length=es'.length→(∀ (i:Nat) (r r':List AVal),es[i]?=some r→es'[i]?=some r'→r.length=r'.length∧∀ (j:Nat) (x y:AVal),r[j]?=some x→r'[j]?=some y→Vw F H ρ n x y)→BVw F H ρ n (.rows s es) (.rows s es')
def EnvTo(F:Id→Bool)(H:AHeap)(ρ:Id→Option Id)(n:Nat)(e':Env):Env→Prop
 |[]=>True
 |(t,v)::r=>Vw F H ρ n (e'.get t) v∧EnvTo F H ρ n e' r
def Kj(F:Id→Bool)(H:AHeap)(ρ:Id→Option Id)(n0 n:Nat)(k:Id)(b:ABlock):Prop:=
 match ρ k with
 |some j=>match H.get j with
  |some b'=>F j=false∧BVw F H ρ n b' b
  |none=>False
 |none=>b=.tok∧n0≤k.1∧k.1<n
def HeapTo(F:Id→Bool)(H:AHeap)(ρ:Id→Option Id)(n0 n:Nat):AHeap→Prop
 |[]=>True
 |(k,b)::r=>Kj F H ρ n0 n k b∧HeapTo F H ρ n0 n r
def z1e(F:Id→Bool)(H:AHeap)(ρ:Id→Option Id)(n0 n:Nat)(L:AHeap):Prop:=∀id blk,L.get id=some blk→Kj F H ρ n0 n id blk
structure RhoOk(n0 n:Nat)(F:Id→Bool)(H:AHeap)(ρ:Id→Option Id):Prop where
 inj:∀i j k,ρ i=some k→ρ j=some k→i=j
 dom:∀i k,ρ i=some k→i.1<n
 low:∀i:Id,i.1<n0→(ρ i=some i∧F i=false)∨(ρ i=none∧H.get i≠none)
 high:∀ (i k:Id),n0≤i.1→ρ i=some k→n0≤k.1∨H.get k≠none
 le:n0≤n
theorem EnvTo.get{F:Id→Bool}{H:AHeap}{ρ:Id→Option Id}{n:Nat}{e':Env}:∀ {e:Env},EnvTo F H ρ n e' e→∀t,Vw F H ρ n (e'.get t) (e.get t)
 |[],_,t=>.any _
 |(k,v)::r,h,t=>by
  by_cases hk:k=t
  ·subst hk;simp only[Env.get,if_pos];exact h.1
  ·simp only[Env.get,if_neg hk];exact EnvTo.get h.2 t
theorem HeapTo.get{F:Id→Bool}{H:AHeap}{ρ:Id→Option Id}{n0 n:Nat}:∀ {L:AHeap},HeapTo F H ρ n0 n L→∀id blk,L.get id=some blk→Kj F H ρ n0 n id blk
 |[],_,_,_,h=>by cases h
 |(k,b)::r,h,id,blk,hb=>by
  by_cases hk:k=id
  ·subst hk
   simp only[AHeap.get,if_pos,Option.some.injEq] at hb
   subst hb
   exact h.1
  ·simp only[AHeap.get,if_neg hk] at hb;exact HeapTo.get h.2 id blk hb
section
variable {I I0:Nat→Nat→Prop} {β β0:Id→Option CLoc} {n0 n n':Nat} {H H' H0 L:AHeap} {w w0:World} {F:Id→Bool} {ρ:Id→Option Id}
def z3b(I:Nat→Nat→Prop)(β:Id→Option CLoc)(F:Id→Bool)(H:AHeap)(w:World):Nat→Nat→Prop:=fun b k=>I b k∨((∃id c,F id=true∧β id=some c∧H.get id≠none∧c.has b k)∧∃v,w.cell? ⟨b,k,none⟩=some v)
noncomputable def z42(β:Id→Option CLoc)(F:Id→Bool)(ρ:Id→Option Id)(n0 n:Nat)(L:AHeap):Id→Option CLoc:=fun id=>match ρ id with
 |some k=>if F k then none else β k
 |none=>by classical exact if L.get id=some .tok∧n0≤id.1∧id.1<n then some ⟨0,0,0,0,0⟩ else none
theorem Zy{id:Id}{c:CLoc}(h:z42 β F ρ n0 n L id=some c):(∃k,ρ id=some k∧F k=false∧β k=some c)∨(ρ id=none∧c=⟨0,0,0,0,0⟩∧L.get id=some .tok∧n0≤id.1∧id.1<n):=by
 unfold z42 at h
 split at h
 ·rename_i k hk
  split at h
  ·cases h
  ·rename_i hF;exact .inl ⟨k,hk,by simpa using hF,h⟩
 ·rename_i hk
  split at h
  ·rename_i hc
   simp only[Option.some.injEq] at h
   exact .inr ⟨hk,h.symm,hc⟩
  ·cases h
theorem Y3{id:Id}{c:CLoc}{b k:Nat}(h:z42 β F ρ n0 n L id=some c)(hk:c.has b k):∃j,ρ id=some j∧F j=false∧β j=some c:=by
 rcases Zy h with h|⟨_,h,_⟩
 ·exact h
 ·subst h
  have:=hk.2.2
  simp at this
theorem z2o{id k:Id}(h:ρ id=some k)(hF:F k=false):z42 β F ρ n0 n L id=β k:=by
 unfold z42;rw[h];simp[hF]
theorem z4d{es:List (List AVal)}{i:Nat}{r:List AVal}(h:es[i]?=some r):i<es.length:=by
 rcases Nat.lt_or_ge i es.length with h'|h'
 ·exact h'
 ·rw[List.getElem?_eq_none h'] at h;cases h
theorem J9{r:List AVal}{j:Nat}{x:AVal}(h:r[j]?=some x):j<r.length:=by
 rcases Nat.lt_or_ge j r.length with h'|h'
 ·exact h'
 ·rw[List.getElem?_eq_none h'] at h;cases h
theorem z00(hI:Inv I β n' H' w)(hρ:RhoOk n0 n F H' ρ){x y:AVal}(h:Vw F H' ρ n x y):∀ {v:Value},Rep I β n' w x v→Rep (z3b I β F H' w) (z42 β F ρ n0 n L) n w y v:=by
 have up:∀ {x:AVal} {v:Value},RepI I w x v→RepI (z3b I β F H' w) w x v:=fun h=>h.mono (fun _ _ h=>.inl h) (fun _ _ _=>rfl)
 have back:∀ {i k:Id} {c:CLoc},ρ i=some k→z42 β F ρ n0 n L i=some c→β k=some c:=by
  intro i k c hk hc
  rcases Zy hc with⟨k',h1,_,h3⟩|⟨h1,_⟩
  ·rw[hk] at h1;simp only[Option.some.injEq] at h1;subst h1;exact h3
  ·rw[hk] at h1;cases h1
 -- the cells of a block that is frozen
 have frozen:∀ {b:Id} {c:CLoc} {s:Nat} {es:List (List AVal)},F b=true→H'.get b≠none→β b=some c→RepB I β n' w c (.rows s es)→∀k,c.base≤k→k<c.base+es.length*s→z3b I β F H' w c.blk k:=by
  intro b c s es hF hg hc hB k h1 h2
  obtain⟨_,⟨arr,el,fr,g1,g2⟩|⟨z1,z2,rfl⟩,_,g4,g5,_⟩:=hB
  rotate_left
  ·simp only[List.length_nil] at h2;omega
  refine .inr ⟨⟨b,c,hF,hc,hg,rfl,by omega,by omega⟩,?_⟩
  have hlt:k<arr.size:=by omega
  exact⟨arr[k],by unfold World.cell?;simp[g1,hlt]⟩
 induction h with
 |any x=>intro v _;exact .any v
 |same x hx=>intro v hr;exact Jp (fun _ _ h=>.inl h) x hx hr
 |mov p g x hx hp=>intro v hr;exact z1h (fun _ _ h=>.inl h) (fun id hid=>(hp id hid).1) (fun id c hid hc=>back (hp id hid).2 hc) hr hx
 |osl tok tok' s es ht=>
  intro v hr
  cases hr with
  |imm _ _ hr=>cases hr
  |osl _ _ _ _ h1 h2 h3=>exact .osl _ _ _ _ (hρ.dom _ _ ht) (up h2) (fun c hc=>h3 c (back ht hc))
 |oslI tok s es=>
  intro v hr
  cases hr with
  |imm _ _ hr=>cases hr
  |osl _ _ _ _ h1 h2 h3=>exact .imm _ _ (up h2)
 |ptr b b' i off hb=>
  intro v hr
  cases hr with
  |imm _ _ hr=>cases hr
  |ptr _ _ _ a h1 h2=>exact .ptr _ _ _ _ (hρ.dom _ _ hb) (fun c hc=>h2 c (back hb hc))
 |msl b b' s off len f hb=>
  intro v hr
  cases hr with
  |imm _ _ hr=>cases hr
  |msl _ _ _ _ _ a cap h0 h1 h2 h3=>exact .msl _ _ _ _ _ _ _ (hρ.dom _ _ hb) h1 h2 (fun c hc=>h3 c (back hb hc))
 |mslF b b' s off len f hb=>
  intro v hr
  cases hr with
  |imm _ _ hr=>cases hr
  |msl _ _ _ _ _ a cap h0 h1 h2 h3=>exact .msl _ _ _ _ _ _ _ (hρ.dom _ _ hb) h1 (fun h=>by cases h) (fun c hc=>h3 c (back hb hc))
 |islM b b' s off f es hb hg=>
  intro v hr
  obtain⟨c,hc,hB⟩:=hI.blocks b _ hg
  obtain⟨ad,cap,rfl,_,hcap,_⟩:=hr.isl_inv
  have h0:cap=0:=hcap rfl
  subst h0
  exact .msl _ _ _ _ _ ad 0 (hρ.dom _ _ hb) ⟨Nat.le_refl _,fun _=>rfl⟩ (fun _=>rfl) (fun c' hc'=>by
   have h1:=back hb hc'
   rw[hc] at h1
   simp only[Option.some.injEq] at h1
   subst h1
   exact⟨hB.1,fun h=>absurd rfl h⟩)
 |nilM b b' s off f es hb hg=>
  intro v hr
  obtain rfl:=hr.val_inv
  obtain⟨c,hc,hB⟩:=hI.blocks b _ hg
  exact .msl _ _ _ _ _ none 0 (hρ.dom _ _ hb) ⟨Nat.le_refl _,fun _=>rfl⟩ (fun _=>rfl) (fun c' hc'=>by
   have h1:=back hb hc'
   rw[hc] at h1
   simp only[Option.some.injEq] at h1
   subst h1
   exact⟨hB.1,fun h=>absurd rfl h⟩)
 |map b b' hb=>
  intro v hr
  cases hr with
  |imm _ _ hr=>cases hr
  |map _ r h1 h2=>exact .map _ _ (hρ.dom _ _ hb) (fun c hc=>h2 c (back hb hc))
 |optp b b' hb=>
  intro v hr
  cases hr with
  |imm _ _ hr=>cases hr
  |optp _ a h1 h2=>exact .optp _ _ (hρ.dom _ _ hb) (fun c hc=>h2 c (back hb hc))
 |nilP b' hb=>intro v hr;rw[hr.val_inv];exact .optp _ _ hb (fun c _=>.inl rfl)
 |ptrP b b' hb=>
  intro v hr
  cases hr with
  |imm _ _ hr=>cases hr
  |ptr _ _ _ a h1 h2=>exact .optp _ _ (hρ.dom _ _ hb) (fun c hc=>.inr (by rw[h2 c (back hb hc)];simp))
 |nilI s f=>intro v hr;rw[hr.val_inv];exact .imm _ _ (.islNil s f)
 |nilO tok' s ht=>intro v hr;rw[hr.val_inv];exact .osl _ _ _ _ ht (.islNil _ _) (fun c _ a cap he=>by simp at he)
 |islF s es f=>
  intro v hr
  cases hr with
  |imm _ _ hr=>
   cases hr with
   |islNil=>exact .imm _ _ (.islNil _ _)
   |islEmpty _ _ a cap h=>exact .imm _ _ (.islEmpty _ _ _ _ (fun h=>by cases h))
   |isl _ _ _ b o cap vf h1 h2 h3 h4 h5 h6 h7=>exact .imm _ _ (up (.isl _ _ _ b o cap vf h1 h2 (fun h=>by cases h) h4 h5 h6 h7))
 |islO tok' s es ht=>
  intro v hr
  obtain⟨ad,cap,hv,_,hf,_⟩:=hr.isl_inv
  have hcap:=hf rfl
  cases hr with
  |imm _ _ hr=>
   refine .osl _ _ _ _ ht ?_ ?_
   ·cases hr with
    |islNil=>exact .islNil _ _
    |islEmpty _ _ a cap h=>exact .islEmpty _ _ _ _ (fun h=>by cases h)
    |isl _ _ _ b o cap vf h1 h2 h3 h4 h5 h6 h7=>exact up (.isl _ _ _ b o cap vf h1 h2 (fun h=>by cases h) h4 h5 h6 h7)
   ·intro c _ a cap' he
    rw[hv] at he
    simp only[Value.slice.injEq] at he
    exact .inl (by rw[←he.2.2];exact hcap)
 |cnd p x y hp _ ih=>
  intro v hr
  cases hr with
  |imm _ _ hr=>cases hr
  |cnd _ _ _ h1 _=>exact ih (h1 hp)
 |agg cs ds hl _ ih=>
  intro v hr
  obtain⟨vs,rfl,h1,h2,h3⟩:=hr.agg_inv
  refine .agg ds vs (by omega) h2 fun i y v hy hv=>?_
  have hlt:i<cs.length:=by rw[hl];exact J9 hy
  exact ih i cs[i] y (List.getElem?_eq_getElem hlt) hy (h3 i _ v (List.getElem?_eq_getElem hlt) hv)
 |tup cs ds hl _ ih=>
  intro v hr
  have:∃vs,v=.tuple vs∧vs.size=cs.length∧∀ (i:Nat) (y:AVal) (u:Value),cs[i]?=some y→vs[i]?=some u→Rep I β n' w y u:=by
   cases hr with
   |tup _ vs h1 h2=>exact⟨vs,rfl,h1,h2⟩
   |imm _ _ hx=>
    cases hx with
    |tup _ vs h1 h2=>exact⟨vs,rfl,h1,fun i y u hy hu=>.imm _ _ (h2 i y u hy hu)⟩
  obtain⟨vs,rfl,h1,h3⟩:=this
  refine .tup ds vs (by omega) fun i y v hy hv=>?_
  have hlt:i<cs.length:=by rw[hl];exact J9 hy
  exact ih i cs[i] y (List.getElem?_eq_getElem hlt) hy (h3 i _ v (List.getElem?_eq_getElem hlt) hv)
 |fn f a c a' c' hl1 hl2 _ _ ih1 ih2=>
  intro v hr
  have hfn:∃fs cs:Array Value,v=.func f fs cs∧fs.size=a.length∧cs.size=c.length∧(∀ (i:Nat) (x:AVal) (v:Value),a[i]?=some x→fs[i]?=some v→Rep I β n' w x v)∧(∀ (i:Nat) (x:AVal) (v:Value),c[i]?=some x→cs[i]?=some v→Rep I β n' w x v):=by
   cases hr with
   |fn _ _ _ fs cs h1 h2 h3 h4=>exact⟨fs,cs,rfl,h1,h2,h3,h4⟩
   |imm _ _ hr=>
    cases hr with
    |fn _ _ _ fs cs h1 h2 h3 h4=>exact⟨fs,cs,rfl,h1,h2,fun i x v p q=>.imm _ _ (h3 i x v p q),fun i x v p q=>.imm _ _ (h4 i x v p q)⟩
  obtain⟨fs,cs,rfl,k1,k2,k3,k4⟩:=hfn
  refine .fn f a' c' fs cs (by omega) (by omega) (fun i y v hy hv=>?_) (fun i y v hy hv=>?_)
  ·have hlt:i<a.length:=by rw[hl1];exact J9 hy
   exact ih1 i a[i] y (List.getElem?_eq_getElem hlt) hy (k3 i _ v (List.getElem?_eq_getElem hlt) hv)
  ·have hlt:i<c.length:=by rw[hl2];exact J9 hy
   exact ih2 i c[i] y (List.getElem?_eq_getElem hlt) hy (k4 i _ v (List.getElem?_eq_getElem hlt) hv)
 |ifc t x y _ ih=>
  intro v hr
  cases hr with
  |ifc _ _ u h=>exact .ifc t y u (ih h)
  |imm _ _ h=>
   cases h with
   |ifc _ _ u h=>exact .ifc t y u (ih (.imm _ _ h))
 |frz b s off len f f' es rows hff hF hg hlen hrl hrow _ himm ih=>
  intro v hr
  obtain⟨c,hc,hB⟩:=hI.blocks b _ hg
  have hB0:=hB
  obtain⟨hcs,_,_,hlo,hbase,hlens,hcell⟩:=hB
  cases hr with
  |imm _ _ h=>cases h
  |msl _ _ _ _ _ ad cap hbn hcap hf hp=>
   by_cases h0:len=0
   ·subst h0
    have:rows=[]:=List.length_eq_zero_iff.1 hrl
    subst this
    cases ad with
    |some ad=>exact .imm _ _ (.islEmpty s f' ad cap (fun h=>hf (hff h)))
    |none=>have hc0:=hcap.2 rfl;subst hc0;exact .imm _ _ (.islNil _ _)
   ·obtain⟨k1,k2⟩:=(hp c hc).2 (by omega)
    subst k1
    have key:∀ (i:Nat) (r':List AVal) (j:Nat) (y:AVal),rows[i]?=some r'→r'[j]?=some y→∃u,w.cell? ⟨c.blk,c.base+off*s+i*s+j,none⟩=some u∧xp u=true∧RepI (z3b I β F H' w) w y u∧z3b I β F H' w c.blk (c.base+off*s+i*s+j):=by
     intro i r' j y hr' hy
     have hi:i<len:=by rw[←hrl];exact z4d hr'
     have hr:es[off+i]?=some (es[off+i]'(by omega)):=List.getElem?_eq_getElem (by omega)
     have hlr:=hrow i _ r' hr hr'
     have hj:=J9 hy
     have hx:(es[off+i]'(by omega))[j]?=some ((es[off+i]'(by omega))[j]'(by omega)):=List.getElem?_eq_getElem (by omega)
     obtain⟨u,g1,g2,g3⟩:=hcell (off+i) _ j _ hr hx
     have hrin:=zda hlens hr hx
     rw[Nat.add_mul] at g1 hrin
     have hrep:=ih i _ r' j _ y hr hr' hx hy g3
     have e1:c.base+(off*s+i*s)+j=c.base+off*s+i*s+j:=by omega
     rw[e1] at g1
     exact⟨u,g1,g2,Zi y (himm r' (List.mem_of_getElem? hr') y (List.mem_of_getElem? hy)) hrep,frozen hF (by rw[hg];simp) hc hB0 _ (by omega) (by omega)⟩
    subst hrl
    refine .imm _ _ (.isl s rows f' c.blk (c.base+off*s) cap (fun i j=>(w.cell? ⟨c.blk,c.base+off*s+i*s+j,none⟩).getD undef) ?_ hcap.1 (fun h=>hf (hff h)) ?_ ?_ ?_ ?_)
    ·intro i r j x hi hj
     obtain⟨u,_,_,_,h4⟩:=key i r j x hi hj
     exact h4
    ·intro i r' hr'
     have hi:=z4d hr'
     have hr:es[off+i]?=some (es[off+i]'(by omega)):=List.getElem?_eq_getElem (by omega)
     rw[←hrow i _ r' hr hr'];exact hlens _ _ hr
    ·intro i r j x hi hj;obtain⟨u,h1,_⟩:=key i r j x hi hj;rw[h1];rfl
    ·intro i r j x hi hj;obtain⟨u,h1,h2,_⟩:=key i r j x hi hj;rw[h1];exact h2
    ·intro i r j x hi hj;obtain⟨u,h1,_,h3,_⟩:=key i r j x hi hj;rw[h1];exact h3
 |frz1 b off r0 r0' hF hg hl0 _ himm ih=>
  intro v hr
  obtain⟨c,hc,hB⟩:=hI.blocks b _ hg
  have hB0:=u0.1 hB
  obtain⟨hcs,_,_,hlo,hbase,hlens,hcell⟩:=hB0
  cases hr with
  |imm _ _ h=>cases h
  |ptr _ _ _ ad hbn hp=>
   have hp:=hp c hc
   subst hp
   have key:∀ (i:Nat) (r':List AVal) (j:Nat) (y:AVal),[r0'][i]?=some r'→r'[j]?=some y→∃u,w.cell? ⟨c.blk,c.base+i*r0'.length+j,none⟩=some u∧xp u=true∧RepI (z3b I β F H' w) w y u∧z3b I β F H' w c.blk (c.base+i*r0'.length+j):=by
    intro i r' j y hr' hy
    cases i with
    |succ i=>simp at hr'
    |zero=>
     simp only[List.getElem?_cons_zero,Option.some.injEq] at hr'
     subst hr'
     have hj:=J9 hy
     have hx:r0[j]?=some (r0[j]'(by omega)):=List.getElem?_eq_getElem (by omega)
     obtain⟨u,g1,g2,g3⟩:=hcell 0 r0 j _ rfl hx
     have hrep:=ih j _ y hx hy g3
     simp only[Nat.zero_mul,Nat.add_zero] at g1 ⊢
     exact⟨u,g1,g2,Zi y (himm y (List.mem_of_getElem? hy)) hrep,frozen hF (by rw[hg];simp) hc (u0.1 hB) _ (by omega) (by simp;omega)⟩
   simp only[Nat.zero_mul,Nat.add_zero]
   have:=RepI.iptr (I:=z3b I β F H' w) (w:=w) r0'.length [r0'] c.blk c.base 0 off (fun i j=>(w.cell? ⟨c.blk,c.base+i*r0'.length+j,none⟩).getD undef) (fun i r j x hi hj=>by
    obtain⟨u,_,_,_,h4⟩:=key i r j x hi hj
    exact h4) (fun i r' hr'=>by
    cases i with
    |succ i=>simp at hr'
    |zero=>simp only[List.getElem?_cons_zero,Option.some.injEq] at hr';rw[←hr'])
    (fun i r j x hi hj=>by obtain⟨u,h1,_⟩:=key i r j x hi hj;rw[h1];rfl)
    (fun i r j x hi hj=>by obtain⟨u,h1,h2,_⟩:=key i r j x hi hj;rw[h1];exact h2)
    (fun i r j x hi hj=>by obtain⟨u,h1,_,h3,_⟩:=key i r j x hi hj;rw[h1];exact h3)
   simp only[Nat.zero_mul,Nat.add_zero] at this
   exact .imm _ _ this
 |frzP b s i0 off es rows hF hg hrl hrow _ himm ih=>
  intro v hr
  obtain⟨c,hc,hB⟩:=hI.blocks b _ hg
  have hB0:=hB
  obtain⟨hcs,_,_,hlo,hbase,hlens,hcell⟩:=hB
  cases hr with
  |imm _ _ h=>cases h
  |ptr _ _ _ ad hbn hp=>
   have hp:=hp c hc
   subst hp
   rw[hcs]
   have key:∀ (i:Nat) (r':List AVal) (j:Nat) (y:AVal),rows[i]?=some r'→r'[j]?=some y→∃u,w.cell? ⟨c.blk,c.base+i*s+j,none⟩=some u∧xp u=true∧RepI (z3b I β F H' w) w y u∧z3b I β F H' w c.blk (c.base+i*s+j):=by
    intro i r' j y hr' hy
    have hi:i<es.length:=by rw[←hrl];exact z4d hr'
    have hr:es[i]?=some es[i]:=List.getElem?_eq_getElem hi
    have hlr:=hrow i _ r' hr hr'
    have hj:=J9 hy
    have hx:(es[i])[j]?=some ((es[i])[j]'(by omega)):=List.getElem?_eq_getElem (by omega)
    obtain⟨u,g1,g2,g3⟩:=hcell i _ j _ hr hx
    have hrin:=zda hlens hr hx
    have hrep:=ih i _ r' j _ y hr hr' hx hy g3
    exact⟨u,g1,g2,Zi y (himm r' (List.mem_of_getElem? hr') y (List.mem_of_getElem? hy)) hrep,frozen hF (by rw[hg];simp) hc hB0 _ (by omega) (by omega)⟩
   refine .imm _ _ (.iptr s rows c.blk c.base i0 off (fun i j=>(w.cell? ⟨c.blk,c.base+i*s+j,none⟩).getD undef) ?_ ?_ ?_ ?_ ?_)
   ·intro i r j x hi hj
    obtain⟨u,_,_,_,h4⟩:=key i r j x hi hj
    exact h4
   ·intro i r' hr'
    have hi:=z4d hr'
    have hr:es[i]?=some (es[i]'(by omega)):=List.getElem?_eq_getElem (by omega)
    rw[←hrow i _ r' hr hr'];exact hlens _ _ hr
   ·intro i r j x hi hj;obtain⟨u,h1,_⟩:=key i r j x hi hj;rw[h1];rfl
   ·intro i r j x hi hj;obtain⟨u,h1,h2,_⟩:=key i r j x hi hj;rw[h1];exact h2
   ·intro i r j x hi hj;obtain⟨u,h1,_,h3,_⟩:=key i r j x hi hj;rw[h1];exact h3
theorem zej(hI:Inv I β n' H' w)(hρ:RhoOk n0 n F H' ρ){c:CLoc}{s:Nat}{es es':List (List AVal)}(hl:es.length=es'.length)(hr:∀ (i:Nat) (r r':List AVal),es[i]?=some r→es'[i]?=some r'→r.length=r'.length∧∀ (j:Nat) (x y:AVal),r[j]?=some x→r'[j]?=some y→Vw F H' ρ n x y)
 (hB:RepB I β n' w c (.rows s es)):RepB (z3b I β F H' w) (z42 β F ρ n0 n L) n w c (.rows s es'):=by
 obtain⟨h1,h2,h3,h4,h5,h6,h7⟩:=hB
 refine⟨h1,h2.imp id (fun z=>⟨z.1,z.2.1,by have:=hl;rw[z.2.2] at this;exact List.eq_nil_of_length_eq_zero this.symm⟩),h3,h4,by rw[←hl];exact h5,fun i r' hr'=>?_,fun i r' j y hr' hy=>?_⟩
 ·have hi:i<es.length:=by rw[hl];exact z4d hr'
  have hri:es[i]?=some es[i]:=List.getElem?_eq_getElem hi
  rw[←(hr i _ r' hri hr').1];exact h6 i _ hri
 ·have hi:i<es.length:=by rw[hl];exact z4d hr'
  have hri:es[i]?=some es[i]:=List.getElem?_eq_getElem hi
  obtain⟨k1,k2⟩:=hr i _ r' hri hr'
  have hj:j<(es[i]).length:=by rw[k1];exact J9 hy
  have hxj:(es[i])[j]?=some ((es[i])[j]):=List.getElem?_eq_getElem hj
  obtain⟨v,g1,g2,g3⟩:=h7 i _ j _ hri hxj
  exact⟨v,g1,g2,z00 hI hρ (k2 j _ y hxj hy) g3⟩
theorem zjr(hI:Inv I β n' H' w)(hρ:RhoOk n0 n F H' ρ){c:CLoc}{b b':ABlock}(h:BVw F H' ρ n b b')(hB:RepB I β n' w c b):RepB (z3b I β F H' w) (z42 β F ρ n0 n L) n w c b':=by
 cases h with
 |tok=>exact hB
 |buf e bs=>exact hB
 |lrec l r e e' he=>
  obtain⟨h1,h2,h3,h4,h5⟩:=hB
  exact⟨h1,h2,h3,h4,fun t=>z00 hI hρ (he t) (h5 t)⟩
 |rmap es arr ck he=>
  obtain⟨h1,h2,h3,h4⟩:=hB
  refine⟨h1,h2,h3,h4.len,fun i k x e hi hx=>?_,h4.born,h4.clk⟩
  obtain⟨g1,g2⟩:=h4.ent i k x e hi hx
  exact⟨g1.mono (fun _ _ h=>.inl h) (fun _ _ _=>rfl),Jp (fun _ _ h=>.inl h) x (he _ (List.mem_of_getElem? hi)) g2⟩
 |rmapA es arr ck he=>
  obtain⟨h1,h2,h3,h4⟩:=hB
  refine⟨h1,h2,arr,ck,h3,h4.len,fun i k x e hi hx=>?_,h4.born,h4.clk⟩
  obtain⟨g1,g2⟩:=h4.ent i k x e hi hx
  exact⟨g1.mono (fun _ _ h=>.inl h) (fun _ _ _=>rfl),Jp (fun _ _ h=>.inl h) x (he _ (List.mem_of_getElem? hi)) g2⟩
 |itr b b' arr ck seen hg=>
  obtain⟨h1,h2,h0,k,h3,h4,q,h5,h6⟩:=hB
  refine⟨h1,h2,h0,k,h3,hρ.dom _ _ hg,q,h5,fun d hd=>h6 d ?_⟩
  rcases Zy hd with⟨k',e1,_,e3⟩|⟨e1,_⟩
  ·rw[hg] at e1;simp only[Option.some.injEq] at e1;subst e1;exact e3
  ·rw[hg] at e1;cases e1
 |mbox b b' hg=>
  obtain⟨h1,h2,h0,k,h3,h4,q,h5,h6⟩:=hB
  refine⟨h1,h2,h0,k,h3,hρ.dom _ _ hg,q,h5,fun d hd=>h6 d ?_⟩
  rcases Zy hd with⟨k',e1,_,e3⟩|⟨e1,_⟩
  ·rw[hg] at e1;simp only[Option.some.injEq] at e1;subst e1;exact e3
  ·rw[hg] at e1;cases e1
 |bld T g g' hg=>
  obtain⟨h1,h2,h3,h4,p,v,h5,h6,h7⟩:=hB
  refine⟨h1,h2,h3,hρ.dom _ _ hg,p,v,h5,h6,fun d hd=>h7 d ?_⟩
  rcases Zy hd with⟨k',e1,_,e3⟩|⟨e1,_⟩
  ·rw[hg] at e1;simp only[Option.some.injEq] at e1;subst e1;exact e3
  ·rw[hg] at e1;cases e1
 |mov p g b hx hp=>
  refine zrd (fun _ _ h=>.inl h) (fun id hid=>(hp id hid).1) (fun id c hid hc=>?_) hx hB
  rcases Zy hc with⟨k',h1,_,h3⟩|⟨h1,_⟩
  ·rw[(hp id hid).2] at h1;simp only[Option.some.injEq] at h1;subst h1;exact h3
  ·rw[(hp id hid).2] at h1;cases h1
 |one r r' hl hr=>
  have:=zej (L:=L) (es:=[r]) (es':=[r']) hI hρ rfl (fun i a a' h1 h2=>by
   cases i with
   |succ i=>simp at h1
   |zero=>simp only[List.getElem?_cons_zero,Option.some.injEq] at h1 h2;subst h1;subst h2;exact⟨hl,hr⟩) (u0.1 hB)
  rw[hl] at this
  exact u0.2 this
 |amap es he=>
  obtain⟨h1,h2,arr,ck,h3,h4⟩:=hB
  refine⟨h1,h2,arr,ck,h3,h4.len,fun i k x e hi hx=>?_,h4.born,h4.clk⟩
  obtain⟨g1,g2⟩:=h4.ent i k x e hi hx
  exact⟨g1.mono (fun _ _ h=>.inl h) (fun _ _ _=>rfl),Jp (fun _ _ h=>.inl h) x (he _ (List.mem_of_getElem? hi)) g2⟩
 |amapV es es' hl hv=>
  obtain⟨h1,h2,arr,ck,h3,h4⟩:=hB
  refine⟨h1,h2,arr,ck,h3,h4.len.trans hl,fun i k x e hi hx=>?_,h4.born,h4.clk⟩
  have hlt:i<es.length:=by rw[hl];exact(List.getElem?_eq_some_iff.1 hi).1
  obtain⟨rfl,g⟩:=hv i es[i].1 es[i].2 k x (by rw[List.getElem?_eq_getElem hlt]) hi
  obtain⟨g1,g2⟩:=h4.ent i es[i].1 es[i].2 e (by rw[List.getElem?_eq_getElem hlt]) hx
  exact⟨g1.mono (fun _ _ h=>.inl h) (fun _ _ _=>rfl),z00 hI hρ g g2⟩
 |rows s es es' hl hr=>exact zej hI hρ hl hr hB
theorem zds(hX:Ext I0 β0 n0 H0 w0 I β n' H' w)(hI:Inv I β n' H' w)(hρ:RhoOk n0 n F H' ρ)(hL:z1e F H' ρ n0 n L) :
 Ext I0 β0 n0 H0 w0 (z3b I β F H' w) (z42 β F ρ n0 n L) n L w∧Inv (z3b I β F H' w) (z42 β F ρ n0 n L) n L w:=by
 have own:∀id c b k,β id=some c→H'.get id≠none→c.has b k→b<w0.heap.size→∃i0 c0,β0 i0=some c0∧c0.has b k∧H0.get i0≠none:=by
  intro id c b k he hg hk hlt
  by_cases hid:id.1<n0
  ·rcases hX.old id hid with h|⟨h,_⟩
   ·exact⟨id,c,h▸he,hk,hX.dom id hid hg⟩
   ·rw[h] at he;cases he
  ·rcases hX.new id c b k (by omega) he hk with h|h
   ·omega
   ·exact h
 constructor
 ·refine⟨hX.os,hX.tape,hX.output,hX.size,hX.frame,hX.cells,hX.shape,hX.maps,fun b k h=>.inl (hX.imm b k h),?_,?_,?_,?_,hρ.le⟩
  ·rintro b k (h|⟨⟨id,c,h1,h2,h3,h4⟩,_⟩) hn hlt
   ·exact hX.immNew b k h hn hlt
   ·exact own id c b k h2 h3 h4 hlt
  ·intro id hid
   rcases hρ.low id hid with⟨h1,h2⟩|⟨h1,h2⟩
   ·rw[z2o h1 h2]
    exact hX.old id hid
   ·refine .inr ⟨?_,hX.dom id hid h2⟩
    unfold z42
    rw[h1]
    simp only
    rw[if_neg (fun h=>by omega)]
  ·intro id c b k hid hc hk
   obtain⟨j,h1,h2,h3⟩:=Y3 hc hk
   rcases hρ.high id j hid h1 with h4|h4
   ·exact hX.new j c b k h4 h3 hk
   ·by_cases hlt:b<w0.heap.size
    ·exact .inr (own j c b k h3 h4 hk hlt)
    ·exact .inl (by omega)
  ·intro id hid hg
   refine hX.dom id hid ?_
   cases hh:L.get id with
   |none=>exact absurd hh hg
   |some blk=>
    have:=hL id blk hh
    unfold Kj at this
    rcases hρ.low id hid with⟨h1,h2⟩|⟨h1,h2⟩
    ·rw[h1] at this
     simp only at this
     intro hn
     rw[hn] at this
     exact this
    ·exact h2
 ·refine⟨fun id blk hb=>?_,fun i j c d b k hi hj hc hd=>?_,fun i c b k hi hc=>?_,fun b k h=>?_,fun id hid=>?_,hI.glob.mono (fun _ _ h=>.inl h) (fun _ _ _=>rfl) (SameSz.refl _)⟩
  ·have:=hL id blk hb
   unfold Kj at this
   split at this
   ·rename_i j hj
    split at this<;>try (exact this.elim)
    rename_i b' hb'
    obtain⟨hF,hv⟩:=this
    obtain⟨c,hc,hB⟩:=hI.blocks j b' hb'
    exact⟨c,by rw[z2o hj hF];exact hc,zjr hI hρ hv hB⟩
   ·rename_i hj
    obtain⟨rfl,h1,h2⟩:=this
    refine⟨⟨0,0,0,0,0⟩,?_,fun k _ h=>absurd h (Nat.not_lt_zero k)⟩
    unfold z42
    rw[hj]
    simp[hb,h1,h2]
  ·obtain⟨i',h1,_,h2⟩:=Y3 hi hc
   obtain⟨j',h3,_,h4⟩:=Y3 hj hd
   have:=hI.inj i' j' c d b k h2 h4 hc hd
   subst this
   exact hρ.inj i j i' h1 h3
  ·obtain⟨i',h1,h2,h3⟩:=Y3 hi hc
   obtain⟨h4,h5⟩:=hI.own i' c b k h3 hc
   refine⟨?_,h5⟩
   rintro(h|⟨⟨id,d,g1,g2,g3,g4⟩,_⟩)
   ·exact h4 h
   ·have:=hI.inj id i' d c b k g2 h3 g4 hc
    subst this
    rw[g1] at h2;cases h2
  ·rcases h with h|⟨_,h⟩
   ·exact hI.imm b k h
   ·exact h
  ·cases hr:z42 β F ρ n0 n L id with
   |none=>rfl
   |some c=>
    rcases Zy hr with⟨k,h1,_⟩|⟨_,_,_,_,h⟩
    ·have:=hρ.dom id k h1;omega
    ·omega
end
def y3f(n0 n:Nat)(e':Env)(H':AHeap)(e:Env)(L:AHeap):Prop:=∃F ρ,RhoOk n0 n F H' ρ∧EnvTo F H' ρ n e' e∧z1e F H' ρ n0 n L
theorem Z5(p:Nat→Prop)(h:∃m,p m):∃m,p m∧∀k,k<m→¬p k:=by
 obtain⟨m,hm⟩:=h
 induction m using Nat.strongRecOn with
 |_ m ih=>
  by_cases hk:∃k,k<m∧p k
  ·obtain⟨k,h1,h2⟩:=hk
   exact ih k h1 h2
  ·exact⟨m,hm,fun k hlt hp=>hk ⟨k,hlt,hp⟩⟩
def y41{ι:Type}(n0:Nat)(nL:ι→Nat)(env:ι→Env)(L:ι→AHeap)(pre:ι→Prop)(μ:ι→Nat)(x:ι)(Q:Exit→Env→AHeap→Nat→Prop):Exit→Env→AHeap→Nat→Prop
 |.normal,e',H',n'=>∃y,pre y∧μ y<μ x∧y3f n0 (nL y) e' H' (env y) (L y)
 |ex,e',H',n'=>Q ex e' H' n'
def ye:Nat→List AVal→Env
 |_,[]=>[]
 |k,x::r=>(k,x)::ye (k+1) r
theorem V2:∀ (l:List AVal) (k t:Nat),(ye k l).get t=if k≤t then(l[t-k]?).getD .any else .any
 |[],k,t=>by simp[ye,Env.get]
 |x::l,k,t=>by
  unfold ye Env.get
  by_cases h:k=t
  ·subst h;simp
  ·rw[if_neg h,V2 l (k+1) t]
   by_cases h1:k+1≤t
   ·rw[if_pos h1,if_pos (by omega)]
    have:t-k=(t-(k+1))+1:=by omega
    rw[this,List.getElem?_cons_succ]
   ·rw[if_neg h1]
    by_cases h2:k≤t
    ·omega
    ·rw[if_neg h2]
def zxt(e:Env)(H:AHeap):LRes→XR
 |.t i=>.ok (e.get i).need (e.get i).strip
 |.cell i g n=>(z05 g n H (e.get i).strip).and (e.get i).need
def z5d(e:Env)(H:AHeap):List LRes→(List AVal→Prop)→Prop
 |[],k=>k []
 |r::rs,k=>match zxt e H r with
  |.ok side v=>side∧z5d e H rs (fun l=>k (v::l))
  |.bad=>False
def z7v(l:List AVal):AVal:=match l with|[x]=>x|l=>.tup l
def Zz(res:List LRes)(Q:AVal→AHeap→Nat→Prop):Exit→Env→AHeap→Nat→Prop
 |.normal,e,H,n=>z5d e H res (fun l=>Q (z7v l) H n)
 |.ret,e,H,n=>z5d e H res (fun l=>Q (z7v l) H n)
 |_,_,_,_=>False
def zqf:List Value→Value
 |[x]=>x
 |l=>.tuple l.toArray
theorem and_ok{p side:Prop}{r:XR}{v:AVal}(h:r.and p=.ok side v)(hs:side):∃s0,r=.ok s0 v∧s0∧p:=by
 cases r with
 |bad=>cases h
 |ok s0 u=>
  simp only[XR.and,XR.ok.injEq] at h
  obtain⟨rfl,rfl⟩:=h
  exact⟨s0,rfl,hs.2,hs.1⟩
def zgs(tmps:Array Value):ResultVar→Sem Value
 |.tmp t=>pure (tmps.getD t undef)
 |.cell a t=>do loadVar t (←asAddr (tmps.getD a undef))
theorem zg9(fn:Func)(tmps:Array Value):results fn tmps=(do let vs ←fn.results.mapM (zgs tmps);pure (if h:vs.size=1 then vs[0] else .tuple vs)):=by
 rfl
theorem z4y{I:Nat→Nat→Prop}{β:Id→Option CLoc}{n:Nat}{H:AHeap}{w:World}{e:Env}{tmps:Array Value}(hI:Inv I β n H w)(hE:∀t,Rep I β n w (e.get t) (tmps.getD t undef)):∀ (rs:List ResultVar) (ls:List LRes),z1i P rs=some ls→∀ {k:List AVal→Prop},z5d e H ls k →
 ∃ (vs:List Value) (xs:List AVal),(rs.mapM (zgs tmps)).run P w=.ok vs w∧k xs∧vs.length=xs.length∧∀ (i:Nat) (x:AVal) (v:Value),xs[i]?=some x→vs[i]?=some v→Rep I β n w x v
 |[],ls,h,k,hk=>by
  simp only[z1i,Option.some.injEq] at h
  subst h
  exact⟨[],[],rfl,hk,rfl,fun i x v h _=>by simp at h⟩
 |.tmp t::rs,ls,h,k,hk=>by
  simp only[z1i,Option.map_eq_some_iff] at h
  obtain⟨l,hl,rfl⟩:=h
  simp only[z5d,zxt] at hk
  obtain⟨hn,hk⟩:=hk
  obtain⟨vs,xs,h1,h2,h3,h4⟩:=z4y hI hE rs l hl hk
  refine⟨tmps.getD t undef::vs,(e.get t).strip::xs,?_,h2,by simp[h3],fun i x v hx hv=>?_⟩
  ·rw[List.mapM_cons]
   simp only[zgs,pure_bind,Sem.run_bind,h1,Result.andThen_ok,Sem.run_pure]
  ·cases i with
   |zero=>simp only[List.getElem?_cons_zero,Option.some.injEq] at hx hv;subst hx;subst hv;exact(hE t).strip hn
   |succ i=>exact h4 i x v (by simpa using hx) (by simpa using hv)
 |.cell a t::rs,ls,h,k,hk=>by
  simp only[z1i] at h
  split at h<;>try (cases h;done)
  rename_i g m l hg hm hl
  split at h<;>try (cases h;done)
  rename_i hgm
  simp only[Option.some.injEq] at h
  subst h
  simp only[z5d,zxt] at hk
  split at hk<;>try (exact hk.elim)
  rename_i side u hx
  obtain⟨hs,hk⟩:=hk
  obtain⟨s0,hx0,hs0,hneed⟩:=and_ok hx hs
  obtain⟨vs,xs,h1,h2,h3,h4⟩:=z4y hI hE rs l hl hk
  have hr:=(hE a).strip hneed
  obtain⟨r,hr1,hr2⟩:=z2m (P:=P) hg hm (by simpa[Bool.or_eq_true] using hgm) hI hr hx0 hs0
  have hrun:(zgs tmps (.cell a t)).run P w=.ok r w:=by
   have:∃ad,tmps.getD a undef=.pointer (some ad):=by
    cases hst:(e.get a).strip<;>rw[hst] at hx0 hr<;>simp only[z05] at hx0<;>try (cases hx0;done)
    ·obtain⟨b,o,h⟩:=hr.iptr_inv;exact⟨_,h⟩
    ·obtain⟨ad,h⟩:=hr.ptr_inv;exact⟨_,h⟩
   obtain⟨ad,had⟩:=this
   rw[had] at hr1
   simpa[zgs,had,Instr.loadAt,Instr.sureAddr,asAddr] using hr1
  refine⟨r::vs,u::xs,?_,h2,by simp[h3],fun i x v hx hv=>?_⟩
  ·rw[List.mapM_cons]
   rw[Sem.run_bind,hrun]
   simp only[Result.andThen_ok,Sem.run_bind,h1,Sem.run_pure]
  ·cases i with
   |zero=>simp only[List.getElem?_cons_zero,Option.some.injEq] at hx hv;subst hx;subst hv;exact hr2
   |succ i=>exact h4 i x v (by simpa using hx) (by simpa using hv)
theorem Wl{fn:Func}{tmps:Array Value}{w:World}{vs:List Value}(h:(fn.results.toList.mapM (zgs tmps)).run P w=.ok vs w) :
 (results fn tmps).run P w=.ok (zqf vs) w:=by
 rw[zg9,Array.mapM_eq_mapM_toList]
 simp only[map_eq_pure_bind,bind_assoc,pure_bind]
 simp only[Sem.run_bind,h,Result.andThen_ok,Sem.run_pure]
 cases vs with
 |nil=>rfl
 |cons v l=>
  cases l with
  |nil=>rfl
  |cons v2 l=>simp[zqf]
theorem ACalls.ofFnW{f:FuncId}{bm:List Nat}{L:LFn}(hL:wb P bm f=some L)(hok:uk P f){args:List AVal}(hlen:args.length≤L.lay.n){H:AHeap}{n:Nat}{Q:AVal→AHeap→Nat→Prop}
 (h:LWp P L.lay n L.body (Zz L.res Q) (ye 0 args) H n):ACalls P f args H n Q:=by
 refine⟨hok,fun I β w vs hI hl hr=>?_⟩
 unfold wb at hL
 split at hL<;>try (cases hL;done)
 rename_i fn hfn
 split at hL<;>try (cases hL;done)
 rename_i c hc
 split at hL<;>try (cases hL;done)
 rename_i lc lr hlc hlr
 simp only[Option.some.injEq] at hL
 subst hL
 simp only at h hlen
 refine(zbg (ro:=none) (m:=0)).1 (callsIn_of_wp_marks hfn hc trivial ?_)
 refine h c hlc none (fun _=>rfl) I β H w I β w _ (Ext.refl _ _ _ _ _ hI.fresh) hI ?_ (by simp[hl];omega) (Dfr.nil _ _ _) _ ?_
 ·intro t
  rw[V2,if_pos (Nat.zero_le t),Nat.sub_zero]
  cases hx:args[t]? with
  |none=>exact .any _
  |some x=>
   have hlt:t<vs.length:=by
    rcases Nat.lt_or_ge t vs.length with h|h
    ·exact h
    ·rw[List.getElem?_eq_none (by omega)] at hx;cases hx
   have:(vs.toArray++Array.replicate (fn.ntmps-vs.toArray.size) undef).getD t undef=vs[t]:=by
    simp[Array.getD_eq_getD_getElem?,Array.getElem?_append,hlt]
   rw[this]
   exact hr t x vs[t] hx (List.getElem?_eq_getElem hlt)
 ·intro ex e' H' n' I' β' w' a' g1 g2 g3 g4 g5 g6
  have fin:z5d e' H' lr (fun l=>Q (z7v l) H' n')→LeavesInM (z0h none) 0 P fn a'.tmps (fun e w'=>∃r v H' n' I' β',e=.returned v∧Q r H' n'∧Inv I' β' n' H' w'∧Rep I' β' n' w' r v∧Ext I β n H w I' β' n' H' w') a'.defers .returning w':=by
   intro hk
   generalize a'.defers=ds at g5
   induction ds generalizing w' with
   |nil=>
    obtain⟨us,xs,q1,q2,q3,q4⟩:=z4y (P:=P) g2 g3 _ _ hlr hk
    refine⟨_,Wl q1,_,_,_,_,_,_,rfl,q2,g2,?_,g6⟩
    cases xs with
    |nil=>
     have:us=[]:=List.length_eq_zero_iff.1 q3
     subst this
     exact .tup [] #[] rfl (by simp)
    |cons x l=>
     cases us with
     |nil=>simp at q3
     |cons u us=>
      cases l with
      |nil=>
       have:us=[]:=List.length_eq_zero_iff.1 (by simpa using q3)
       subst this
       exact q4 0 x u rfl rfl
      |cons x2 l=>
       cases us with
       |nil=>simp at q3
       |cons u2 us=>exact .tup (x::x2::l) _ (by simpa[zqf] using q3) (fun i x v hx hv=>q4 i x v hx (by simpa[zqf] using hv))
   |cons d ds ih=>
    obtain⟨hnd,hall⟩:=g5
    rcases hall d (by simp) with hid|⟨r,h1,h2,h3⟩
    ·obtain⟨fv,cap,f,args,i1,i2,i3⟩:=hid w'
     refine⟨nofun,.inr ⟨fun h=>(by cases h),fv,cap,f,args,i1,i2,fun _ _=>trivial,i3.mono ?_⟩⟩
     rintro e1 u' w1 ⟨⟨v,rfl⟩,rfl,rfl⟩
     exact ih _ g2 g3 g6 ⟨(List.pairwise_cons.1 hnd).2,fun d' hd'=>hall d' (by simp[hd'])⟩
    subst h1
    obtain⟨m1,m2,m3⟩:=zrp (.deferred none) g2 h3
    refine⟨nofun,.inl ⟨r,_,rfl,run_takeDeferred h3,ih _ m1 (fun t=>m2 _ _ (g3 t)) (m3 _ _ _ _ _ h2 g6) ⟨(List.pairwise_cons.1 hnd).2,fun d' hd'=>?_⟩⟩⟩
    rcases hall d' (by simp[hd']) with hid|⟨r',k1,k2,k3⟩
    ·exact .inl hid
    refine .inr ⟨r',k1,k2,?_⟩
    have hne:r'≠r:=by
     rintro rfl
     subst k1
     rcases(List.pairwise_cons.1 hnd).1 _ hd' with hh|hh
     ·exact hh rfl
     ·obtain⟨_,_,_,_,h,_⟩:=hh w';cases h
    rw[World.putObj_heap_other hne];exact k3
  cases ex with
  |normal=>exact fin g1
  |ret=>exact fin g1
  |_=>exact g1.elim
def Xx(n0 n:Nat)(R:AVal)(L:AHeap):AVal→AHeap→Nat→Prop:=fun r H' _=>∃F ρ,RhoOk n0 n F H' ρ∧Vw F H' ρ n r R∧z1e F H' ρ n0 n L
def kg(n:Nat)(R:AVal)(L:AHeap):AVal→AHeap→Nat→Prop:=fun r H' n'=>r=R∧H'=L∧n'=n
theorem ACalls.fin{f:Fn}{args:List AVal}{H L:AHeap}{n0 n:Nat}{R:AVal}(h:ACalls P f args H n0 (Xx n0 n R L)):ACalls P f args H n0 (kg n R L):=by
 refine⟨h.1,fun I β w vs hI hl hr=>(h.2 I β w vs hI hl hr).mono ?_⟩
 rintro ee w' ⟨r,v,H',n',I',β',he,⟨F,ρ,hρ,hv,hL⟩,hI',hr',hx⟩
 obtain⟨k1,k2⟩:=zds hx hI' hρ hL
 exact⟨R,v,L,n,_,_,he,⟨rfl,rfl,rfl⟩,k2,z00 hI' hρ hv hr',k1⟩
end Go.Fx
