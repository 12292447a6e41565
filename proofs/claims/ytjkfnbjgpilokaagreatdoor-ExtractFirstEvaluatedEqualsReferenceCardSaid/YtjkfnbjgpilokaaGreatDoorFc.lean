/-
  Own framework.
-/
import Derived.Test.YtjkfnbjgpilokaaGreatDoorFb
import Derived.Laws.Externs
import Derived.Tactics
import Derived.WalkKit
import Derived.ProofKit
import Derived.OpenShut
import Derived.SizedLaws
import Derived.Below
import Derived.Carry
import Derived.ChangeSame
set_option linter.unusedVariables false
set_option linter.unusedSimpArgs false
open Array renaming getElem?_toList→pX
open Bool renaming and_eq_true→pA,false_eq_true→pW
open Classical renaming choose_spec→pM,choose→pR
open Go.DataW renaming trod→pV,weightsEach→pY
open List renaming getElem?_eq_getElem→p9,mem_of_getElem?→pD,all_eq_true→pE,getElem?_map→pF,length_map→pH,map_congr_left→pI,mem_map→pK,getElem?_cons_zero→pN,mem_cons→pP,map_cons→pS,getElem?_eq_none→pT,contains_eq_any_beq→pU,map_map→q6
open Nat renaming eq_of_beq_eq_true→pB,le_of_ble_eq_true→pC,beq→pJ,ble→pO,le_refl→pZ,lt_or_ge→q5
open Option renaming map_some→pG,map_eq_some_iff→pQ
open Option.some renaming injEq→p0
open Prod.mk renaming injEq→pL
namespace Go.Fx
variable {P:Program} {N:Lay}
theorem LWp.mono{n0:Nat}{lc:LCode}{Q Q':Exit→Env→AHeap→Nat→Prop}{e:Env}{H:AHeap}{n:Nat}(h:LWp P N n0 lc Q e H n)(hq:∀ex e H n,Q ex e H n→Q' ex e H n):LWp P N n0 lc Q' e H n:=
 fun c hc ro hro I0 β0 H0 w0 I β w a h0 h1 h2 h3 h4 QQ hQ=>h c hc ro hro I0 β0 H0 w0 I β w a h0 h1 h2 h3 h4 QQ fun ex e' H' n' I' β' w' a' g1 g2 g3 g4 g5 g6=>hQ ex e' H' n' I' β' w' a' (hq _ _ _ _ g1) g2 g3 g4 g5 g6
theorem z5d{draw:Bool}{ops:Array Oper}{f t:Nat}(h:zb2 N draw ops=some (f,t)):N.rd=false∧draw=false∧t<N.n ∧
 ∃o1 o2 fs cs c,ops.toList=[o1,o2]∧o1.dst=some t∧o1.op=.makeFunc (.func f) fs cs∧o1.guard=none∧o2.dst=none∧o2.op=.defer c∧o2.guard=none∧c.callee=.value (.tmp t)∧fs=#[]∧c.args=#[]:=by
 unfold zb2 at h
 split at h<;>try (cases h;done)
 rename_i o1 o2 hrd hops
 split at h<;>try (cases h;done)
 rename_i t0 f0 fs cs c h1 h2 h3 h4 h5 h6
 split at h<;>try (cases h;done)
 rename_i t' hc
 split at h<;>try (cases h;done)
 rename_i hb
 simp only[pA,beq_iff_eq,Nat.blt_eq] at hb
 simp only[p0,pL] at h
 obtain⟨rfl,rfl⟩:=h
 obtain⟨⟨⟨b1,b2⟩,rfl⟩,b4⟩:=hb
 exact⟨hrd,rfl,b4,o1,o2,fs,cs,c,hops,h1,h2,h3,h4,h5,h6,hc,Array.size_eq_zero_iff.1 b1,Array.size_eq_zero_iff.1 b2⟩
theorem z0q{n0 id:Nat}{ops:Array Oper}{draw:Bool}{f t:Nat}(hd:zb2 N draw ops=some (f,t)){Q:Exit→Env→AHeap→Nat→Prop}{e:Env}{H:AHeap}{n:Nat}(h:z1i P f∧Q .normal (e.put (some t) .any) H n)
 {ro:Option Nat} (hro:N.rd=false→ro=none) {I0:Nat→Nat→Prop} {β0:Id→Option CLoc} {H0:AHeap} {w0:World} {I:Nat→Nat→Prop} {β:Id→Option CLoc} {w:World} {a:Act} (hX:Ext I0 β0 n0 H0 w0 I β n H w) (hI:Inv I β n H w) (hE:RepEnv I β n w e a) (hN:a.tmps.size=N.n) (hD:Dfr P w0.heap.size w a.defers) {QQ:Exit→Act→World→Prop} (hQ:zgd P N I0 β0 n0 H0 w0 Q QQ) :
 (Code.region id ops draw).wpIn (Xu ro) 0 P QQ a w:=by
 obtain⟨hrd,rfl,ht,o1,o2,fs,cs,c,hops,h1,h2,h3,h4,h5,h6,hc,rfl,hca⟩:=z5d hd
 obtain rfl:=hro hrd
 have hsz:ops.size=2:=by rw[←Array.length_toList,hops];rfl
 have g0:ops[0]?=some o1:=by rw[←pX,hops];rfl
 have g1:ops[1]?=some o2:=by rw[←pX,hops];rfl
 refine wpIn_region ?_
 have hr:List.range ops.size=[0,1]:=by rw[hsz];rfl
 rw[hr]
 unfold wpOpsIn
 simp only[g0]
 rw[j3 h3,if_pos rfl]
 refine⟨fun _ _=>trivial,?_⟩
 have e1:(o1.semAt (Xu none).round a.eval).run P w=.ok (.value (.func (.func f) #[] (cs.map a.eval))) w:=by
  show(execOp a.eval o1).run P w=_
  obtain⟨d1,p1,t1,s1,a1,g1⟩:=o1
  simp only at h2
  subst h2
  have hm:(Instr.makeFunc (.func f) #[] (cs.map a.eval)).run P w=.ok (.func (.func f) #[] (cs.map a.eval)) w:=rfl
  simp[go_sem,hm]
 rw[e1,Oper.uponIn_value,h1]
 unfold wpOpsIn
 simp only[g1]
 rw[j3 h6,if_pos rfl]
 refine⟨fun _ _=>trivial,?_⟩
 have ev:(a.put (some t) (.func (.func f) #[] (cs.map a.eval))).eval (.tmp t)=.func (.func f) #[] (cs.map a.eval):=by
  have:t<a.tmps.size:=by rw[hN];exact ht
  simp[Act.eval,Act.put,this]
 have e2:(o2.semAt (Xu none).round (a.put (some t) (.func (.func f) #[] (cs.map a.eval))).eval).run P w=.ok (.defer { target:=.fn (.func f) (cs.map a.eval),args:=#[] }) w:=by
  show(execOp _ o2).run P w=_
  obtain⟨d1,p1,t1,s1,a1,g1⟩:=o2
  simp only at h5
  subst h5
  simp[execOp,resolve,hc,hca,ev,Deferred.ofValue]
 rw[e2,Oper.uponIn_defer,h4]
 unfold wpOpsIn
 have hE1:RepEnv I β n w (e.put (some t) .any) (a.put (some t) (.func (.func f) #[] (cs.map a.eval))):=
  hE.put (fun t' ht'=>by cases ht';rw[hN];exact ht) (.any _)
 refine hQ .normal _ H n I β w _ h.2 hI ?_ ?_ ?_ hX
 ·exact hE1
 ·show(a.put (some t) _).tmps.size=N.n
  rw[Act.put_size];exact hN
 ·show Dfr P w0.heap.size w (_::(a.put (some t) _).defers)
  rw[Act.put_defers]
  exact hD.idle (h.1 _)
theorem zy{n0:Nat}(lc:LCode)(Q:Exit→Env→AHeap→Nat→Prop)(e:Env)(H:AHeap)(n:Nat)(h:Zw P N n0 lc Q e H n):LWp P N n0 lc Q e H n:=by
 intro c
 induction c generalizing lc Q e H n with
 |skip=>
  intro hc ro hro I0 β0 H0 w0 I β w a hX hI hE hN hD QQ hQ
  simp only[zf,p0] at hc
  subst hc
  exact wpIn_skip (hQ _ _ _ _ _ _ _ _ h hI hE hN hD hX)
 |region id os draw=>
  intro hc ro hro I0 β0 H0 w0 I β w a hX hI hE hN hD QQ hQ
  cases draw with
  |false=>
   simp only[zf] at hc
   split at hc
   ·rename_i x hd
    simp only[p0] at hc
    subst hc
    exact z0q hd h hro hX hI hE hN hD hQ
   split at hc<;>try (cases hc;done)
   rename_i ll hll
   simp only[pW,if_false,p0] at hc
   subst hc
   obtain⟨k1,k2⟩:=ul _ _ hll
   refine wpIn_region (V9 (Q:=Q .normal) (List.range os.size) ll (by simpa using k1) ?_ h hI hE hN hD (fun e' H' n' I' β' w' a' g1 g2 g3 g4 g5 g6=>hQ _ _ _ _ _ _ _ _ g1 g2 g3 g4 g5 (hX.trans g6)))
   intro k i lo hi hlo
   have hk:k<os.size:=by
    rcases q5 k os.size with h|h
    ·exact h
    ·rw[pT (by simpa using h)] at hi;cases hi
   rw[List.getElem?_range hk] at hi
   simp only[p0] at hi
   subst hi
   exact⟨os[k],Array.getElem?_eq_getElem hk,k2 k os[k] lo (by simp[hk]) hlo⟩
  |true=>
   simp only[zf,if_true] at hc
   split at hc
   ·rename_i x hd
    simp only[p0] at hc
    subst hc
    exact z0q hd h hro hX hI hE hN hD hQ
   split at hc<;>try (cases hc;done)
   rename_i ll hll
   split at hc<;>try (cases hc;done)
   rename_i hm
   obtain⟨k1,k2⟩:=ul _ _ hll
   have hheap:({ w with drawn:=w.drawn+1 }:World).heap=w.heap:=rfl
   have hId:=hI.of_heap hheap
   have hdraw:Ext I β n H w I β n H { w with drawn:=w.drawn+1 }:=by
    have:=Ext.refl I β n H w hI.fresh
    exact⟨rfl,⟨rfl,fun _=>Nat.le_succ _⟩,rfl,pZ _,fun _ _ _=>rfl,fun _ _ _ h _=>h,fun _ arr _ fr h=>⟨arr,fr,h,rfl,.inl rfl⟩,fun _ _ _ h _=>h,this.imm,this.immNew,this.old,this.new,this.dom,this.le⟩
   split at hc
   ·rename_i hcond
    simp only[pA] at hcond
    simp only[p0] at hc
    subst hc
    simp only[Bool.not_eq_eq_eq_not,Bool.not_true] at hcond
    obtain rfl:=hro hcond.1
    refine wpIn_wide.2 (wp_region_quiet (C:=fun w'=>w'={ w with drawn:=w.drawn+1 }) hm hcond.2.1 rfl ?_)
    refine z09 (K0:=w0.heap.size) (w0:={ w with drawn:=w.drawn+1 }) (Q:=Q .normal) (w:={ w with drawn:=w.drawn+1 }) (fun w' h=>h) hId os.toList ll k1 k2 h (fun t=>(hE t).of_heap hheap) hN (hD.of_heap hheap) ?_
    intro e' a' g1 g2 g3 g4 w' hw'
    subst hw'
    exact hQ _ _ _ _ _ _ _ _ g1 hId g2 g3 g4 (hX.trans hdraw)
   ·obtain⟨sw,items,R,hit,h,hR,hap⟩:∃sw items,∃R:Env→AHeap→Nat→Prop,uq sw os ll=some items∧xd P items 0 [] R e H n∧(∀e H n,R e H n→Q .normal e H n)∧∀i1 i2,items[os.size-2]?=some i1→items[os.size-1]?=some i2→ApR sw i1.lo i2.lo R:=by
     unfold Xy at hc
     split at hc
     ·rename_i items hit
      simp only[p0] at hc
      subst hc
      exact⟨false,items,Q .normal,hit,h,fun _ _ _ h=>h,fun _ _ _ _ hs=>by cases hs⟩
     ·unfold Qh at hc
      split at hc<;>try (cases hc;done)
      rename_i items hit
      split at hc<;>try (cases hc;done)
      rename_i i1 i2 hi1 hi2
      split at hc<;>try (cases hc;done)
      rename_i a b hop1 hop2
      split at hc<;>try (cases hc;done)
      simp only[p0] at hc
      subst hc
      refine⟨true,items,_,hit,h,fun _ _ _ h=>h.2,fun j1 j2 hj1 hj2 _ k a' x k' b' y g1 g2 e H n hr=>?_⟩
      rw[hi1] at hj1
      rw[hi2] at hj2
      simp only[p0] at hj1 hj2
      subst hj1 hj2
      rw[hop1] at g1
      rw[hop2] at g2
      cases g1
      cases g2
      exact hr.1
    obtain⟨ord,pre,loose,D,hlen,hll2,hits⟩:=Ws hit
    refine wpIn_region_any hm ?_
    have hun:∀i,(Array.replicate os.size false).getD i false=false:=fun i=>by
     rcases q5 i os.size with h|h
     ·simp[h]
     ·simp[h]
    refine zfn (N:=N) (R:=R) (QQ:=QQ) (e0:=e) (fun e' H' n' I' β' w' a' g1 g2 g3 g4 g5 g6=>hQ .normal e' H' n' I' β' w' a' (hR _ _ _ g1) g2 g3 g4 g5 g6) (os.size+items.length) _ _ _ D ?_ ?_ os.size 0 items _ (fun _=>⟨0,0,0,0,0⟩) (fun _=>.any) [] e H n I β { w with drawn:=w.drawn+1 } a (pZ _) (by omega) ?_ (by simp) ?_ ?_ (fun p p' _ _ _ _ hl=>by rw[hun] at hl;cases hl) (fun _ _=>rfl) ?_ ?_ ?_ ?_ ?_ ?_ h hId hN (hD.of_heap hheap) (hX.trans hdraw)
    ·intro p hp
     have hp2:=D.lt p hp
     refine⟨os[ord p]'hp2,Array.getElem?_eq_getElem hp2,k2 (ord p) _ _ (by simp[hp2]) ?_⟩
     rw[List.getD_eq_getElem?_getD,p9 (by omega)]
     simp
    ·intro hsw hm2
     have l1:os.size-2<items.length:=by omega
     have l2:os.size-1<items.length:=by omega
     have t1:=(hits _ _ (p9 l1)).1
     have t2:=(hits _ _ (p9 l2)).1
     have:=hap _ _ (p9 l1) (p9 l2)
     rw[t1,t2] at this
     exact this
    ·intro i it hi
     rw[Nat.zero_add]
     exact hits i it hi
    ·intro j hj
     rw[hun] at hj;cases hj
    ·intro p hp hl
     rw[hun] at hl;cases hl
    ·intro p hp;omega
    ·unfold unl
     exact Nat.le_trans (List.length_filter_le _ _) (by simp)
    ·intro t
     unfold kv
     rw[List.find?_eq_none.2 (by simp)]
    ·intro t
     have:kv os.size (fun p=>ll.getD (ord p) qg) e (fun _=>.any) (fun x=>(Array.replicate os.size false).getD (ord x) false) t=e.get t:=by
      unfold kv
      rw[List.find?_eq_none.2 (fun x _=>by simp only[hun];simp)]
     rw[this]
     exact(hE t).of_heap hheap
    ·intro p hp;omega
    ·intro p hp;omega
 |seq x y ihx ihy=>
  intro hc ro hro I0 β0 H0 w0 I β w a hX hI hE hN hD QQ hQ
  simp only[zf] at hc
  split at hc<;>try (cases hc;done)
  rename_i x' y' hx hy
  simp only[p0] at hc
  subst hc
  refine wpIn_seq (ihx x' _ e H n h hx ro hro I0 β0 H0 w0 I β w a hX hI hE hN hD _ ?_)
  intro ex e' H' n' I' β' w' a' g1 g2 g3 g4 g5 g6
  cases ex with
  |normal=>exact ihy y' _ e' H' n' g1 hy ro hro I0 β0 H0 w0 I' β' w' a' g6 g2 g3 g4 g5 QQ hQ
  |_=>exact hQ _ _ _ _ _ _ _ _ g1 g2 g3 g4 g5 g6
 |cond cx x y ihx ihy=>
  intro hc ro hro I0 β0 H0 w0 I β w a hX hI hE hN hD QQ hQ
  simp only[zf] at hc
  split at hc<;>try (cases hc;done)
  rename_i c' x' y' hcx hx hy
  simp only[p0] at hc
  subst hc
  simp only[Zw] at h
  split at h
  ·rename_i v hev
   obtain⟨h1,h2,h3⟩:=h
   have hr:=zm hE hcx h1
   rw[hev] at hr
   exact wpIn_cond_split hr.bool_inv (fun hv=>ihx x' _ e H n (h2 hv) hx ro hro I0 β0 H0 w0 I β w a hX hI hE hN hD QQ hQ) (fun hv=>ihy y' _ e H n (h3 hv) hy ro hro I0 β0 H0 w0 I β w a hX hI hE hN hD QQ hQ)
  ·exact h.elim
 |block id x ih=>
  intro hc ro hro I0 β0 H0 w0 I β w a hX hI hE hN hD QQ hQ
  simp only[zf,pQ] at hc
  obtain⟨x',hx,hc⟩:=hc
  subst hc
  refine wpIn_block (ih x' _ e H n h hx ro hro I0 β0 H0 w0 I β w a hX hI hE hN hD _ ?_)
  intro ex e' H' n' I' β' w' a' g1 g2 g3 g4 g5 g6
  cases ex with
  |exit i=>
   simp only at g1
   simp only[Exit.inBlock]
   split at g1
   ·rename_i hi;rw[if_pos hi];exact hQ _ _ _ _ _ _ _ _ g1 g2 g3 g4 g5 g6
   ·rename_i hi;rw[if_neg hi];exact hQ _ _ _ _ _ _ _ _ g1 g2 g3 g4 g5 g6
  |_=>exact hQ _ _ _ _ _ _ _ _ g1 g2 g3 g4 g5 g6
 |loop x ih=>
  intro hc
  have hc0:=hc
  simp only[zf,pQ] at hc
  obtain⟨x',hx,hc⟩:=hc
  subst hc
  exact h _ hc0
 |exit id=>
  intro hc ro hro I0 β0 H0 w0 I β w a hX hI hE hN hD QQ hQ
  simp only[zf,p0] at hc
  subst hc
  exact wpIn_exit (hQ _ _ _ _ _ _ _ _ h hI hE hN hD hX)
 |ret=>
  intro hc ro hro I0 β0 H0 w0 I β w a hX hI hE hN hD QQ hQ
  simp only[zf,p0] at hc
  subst hc
  exact wpIn_ret (hQ _ _ _ _ _ _ _ _ h hI hE hN hD hX)
 |rangeFunc f ps x y ih1 ih2=>
  intro hc
  have hc0:=hc
  simp only[zf] at hc
  split at hc<;>try (cases hc;done)
  simp only[p0] at hc
  subst hc
  exact h _ hc0
 |scope x ih=>intro hc;cases hc
 |label l=>intro hc;cases hc
 |goto l=>intro hc;cases hc
 |refuse why=>intro hc;cases hc
def AVal.nid:AVal→Bool
 |.bool _|.int _ _|.str _|.val _|.isl _ _ _|.iptr _ _ _ _=>true
 |.tup cs=>nidL cs
 |.agg cs=>nidL cs
 |.fn _ a c=>nidL a&&nidL c
 |.ifc _ x=>x.nid
 |_=>false
where nidL:List AVal→Bool
 |[]=>true
 |x::r=>x.nid&&nidL r
mutual
theorem ut{I I2:Nat→Nat→Prop}{β β2:Id→Option CLoc}{n n2:Nat}{w:World}(hI:∀b k,I b k→I2 b k):∀ (x:AVal),x.nid=true→∀ {v:Value},Rep I β n w x v→Rep I2 β2 n2 w x v
 |.bool b,_,v,hr=>by cases hr with|imm _ _ h=>exact .imm _ _ (h.mono hI (fun _ _ _=>rfl))
 |.int k m,_,v,hr=>by cases hr with|imm _ _ h=>exact .imm _ _ (h.mono hI (fun _ _ _=>rfl))
 |.str l,_,v,hr=>by cases hr with|imm _ _ h=>exact .imm _ _ (h.mono hI (fun _ _ _=>rfl))
 |.val u,_,v,hr=>by cases hr with|imm _ _ h=>exact .imm _ _ (h.mono hI (fun _ _ _=>rfl))
 |.isl s es f,_,v,hr=>by cases hr with|imm _ _ h=>exact .imm _ _ (h.mono hI (fun _ _ _=>rfl))
 |.iptr s es i o,_,v,hr=>by cases hr with|imm _ _ h=>exact .imm _ _ (h.mono hI (fun _ _ _=>rfl))
 |.tup cs,hn,v,hr=>by
  cases hr with
  |imm _ _ h=>exact .imm _ _ (h.mono hI (fun _ _ _=>rfl))
  |tup _ vs h1 h2=>exact .tup cs vs h1 (fun i x v hx hv=>Y9 hI cs hn x (pD hx) (h2 i x v hx hv))
 |.agg cs,hn,v,hr=>by
  cases hr with
  |imm _ _ h=>exact .imm _ _ (h.mono hI (fun _ _ _=>rfl))
  |agg _ vs h1 h2 h3=>exact .agg cs vs h1 h2 (fun i x v hx hv=>Y9 hI cs hn x (pD hx) (h3 i x v hx hv))
 |.fn f a c,hn,v,hr=>by
  simp only[AVal.nid,pA] at hn
  cases hr with
  |imm _ _ h=>exact .imm _ _ (h.mono hI (fun _ _ _=>rfl))
  |fn _ _ _ fs cs h1 h2 h3 h4=>exact .fn f a c fs cs h1 h2 (fun i x v hx hv=>Y9 hI a hn.1 x (pD hx) (h3 i x v hx hv)) (fun i x v hx hv=>Y9 hI c hn.2 x (pD hx) (h4 i x v hx hv))
 |.ifc t x,hn,v,hr=>by
  cases hr with
  |imm _ _ h=>exact .imm _ _ (h.mono hI (fun _ _ _=>rfl))
  |ifc _ _ u h=>exact .ifc t x u (ut hI x hn h)
theorem Y9{I I2:Nat→Nat→Prop}{β β2:Id→Option CLoc}{n n2:Nat}{w:World}(hI:∀b k,I b k→I2 b k):∀ (cs:List AVal),AVal.nid.nidL cs=true→∀x∈cs,∀ {v:Value},Rep I β n w x v→Rep I2 β2 n2 w x v
 |[],_,x,hx,v,hr=>by cases hx
 |y::r,hn,x,hx,v,hr=>by
  simp only[AVal.nid.nidL,pA] at hn
  rcases pP.1 hx with e|hx
  ·rw[e] at hr ⊢;exact ut hI y hn.1 hr
  ·exact Y9 hI r hn.2 x hx hr
end
def AVal.inP(p:Id→Bool):AVal→Bool
 |.osl tok _ _=>p tok
 |.ptr b _ _=>p b
 |.msl b _ _ _ _=>p b
 |.map b=>p b
 |.optp b=>p b
 |.agg cs=>inPL p cs
 |.tup cs=>inPL p cs
 |.fn _ a c=>inPL p a&&inPL p c
 |.ifc _ x=>x.inP p
 |.cnd _ x=>x.inP p
 |_=>true
where inPL (p:Id→Bool):List AVal→Bool
 |[]=>true
 |x::xs=>x.inP p&&inPL p xs
def ABlock.inP(p:Id→Bool):ABlock→Bool
 |.rows _ es=>es.all (AVal.inP.inPL p)
 |.one cs=>AVal.inP.inPL p cs
 |.amap es=>es.all fun x=>x.1.inP p&&x.2.inP p
 |.tok=>true
 |.bld _ g=>p g
 |.buf _ _=>true
 |.lrec _ _ e=>e.all fun x=>x.2.inP p
 |.rmap es _ _=>es.all fun x=>x.1.inP p&&x.2.inP p
 |.itr m _ _ _=>(match m with|some b=>p b|none=>true)
 |.mbox b=>p b
theorem Z8{p:Id→Bool}:∀ {cs:List AVal},AVal.inP.inPL p cs=true→∀x∈cs,x.inP p=true
 |[],_,x,hx=>by cases hx
 |y::ys,h,x,hx=>by
  simp only[AVal.inP.inPL,pA] at h
  rcases pP.1 hx with e|hx
  ·rw[e];exact h.1
  ·exact Z8 h.2 x hx
def AVal.ren(g:Id→Id):AVal→AVal
 |.osl tok s es=>.osl (g tok) s es
 |.ptr b i off=>.ptr (g b) i off
 |.msl b s off len f=>.msl (g b) s off len f
 |.map b=>.map (g b)
 |.optp b=>.optp (g b)
 |.agg cs=>.agg (renL g cs)
 |.tup cs=>.tup (renL g cs)
 |.fn f a c=>.fn f (renL g a) (renL g c)
 |.ifc t x=>.ifc t (x.ren g)
 |.cnd p x=>.cnd p (x.ren g)
 |x=>x
where renL (g:Id→Id):List AVal→List AVal
 |[]=>[]
 |x::r=>x.ren g::renL g r
def jk(g:Id→Id)(es:List (List AVal)):List (List AVal):=es.map (AVal.ren.renL g)
def ABlock.ren(g:Id→Id):ABlock→ABlock
 |.rows s es=>.rows s (jk g es)
 |.one cs=>.one (AVal.ren.renL g cs)
 |.amap es=>.amap (es.map fun x=>(x.1.ren g,x.2.ren g))
 |.tok=>.tok
 |.bld T b=>.bld T (g b)
 |.buf e bs=>.buf e bs
 |.lrec l r e=>.lrec l r (e.map fun x=>(x.1,x.2.ren g))
 |.rmap es arr ck=>.rmap (es.map fun x=>(x.1.ren g,x.2.ren g)) arr ck
 |.itr m arr ck seen=>.itr (m.map g) arr ck seen
 |.mbox b=>.mbox (g b)
theorem Kc(g:Id→Id):∀ (e:Env) (t:Nat),Env.get (e.map fun x=>(x.1,x.2.ren g)) t=(Env.get e t).ren g
 |[],t=>rfl
 |(k,v)::r,t=>by
  simp only[pS,Env.get]
  split
  ·rfl
  ·exact Kc g r t
theorem z74{p:Id→Bool}:∀ (e:Env) (t:Nat),(e.all fun x=>x.2.inP p)=true→(Env.get e t).inP p=true
 |[],t,_=>rfl
 |(k,v)::r,t,h=>by
  simp only[List.all_cons,pA] at h
  simp only[Env.get]
  split
  ·exact h.1
  ·exact z74 r t h.2
theorem qv(g:Id→Id):∀ (l:List AVal),AVal.ren.renL g l=l.map (AVal.ren g)
 |[]=>rfl
 |x::r=>by simp only[AVal.ren.renL,pS,qv g r]
theorem jx{g:Id→Id}{l:List AVal}{i:Nat}{y:AVal}(h:(AVal.ren.renL g l)[i]?=some y):∃x,l[i]?=some x∧y=x.ren g:=by
 rw[qv,pF] at h
 cases hx:l[i]? with
 |none=>rw[hx] at h;cases h
 |some x=>rw[hx] at h;simp only[pG,p0] at h;exact⟨x,rfl,h.symm⟩
theorem jq{g:Id→Id}(l:List AVal):(AVal.ren.renL g l).length=l.length:=by rw[qv,pH]
theorem Yx{I:Nat→Nat→Prop}{w:World}{g:Id→Id}{x:AVal}{v:Value}(h:RepI I w x v):RepI I w (x.ren g) v:=by
 induction h with
 |bool b=>exact .bool b
 |int k n=>exact .int k n
 |str l=>exact .str l
 |val v h=>exact .val v h
 |agg cs vs h1 h2 _ ih=>exact .agg _ vs (by rw[jq];exact h1) h2 (fun i x v hx hv=>by obtain⟨y,hy,rfl⟩:=jx hx;exact ih i y v hy hv)
 |tup cs vs h1 _ ih=>exact .tup _ vs (by rw[jq];exact h1) (fun i x v hx hv=>by obtain⟨y,hy,rfl⟩:=jx hx;exact ih i y v hy hv)
 |islNil s f=>exact .islNil s f
 |islEmpty s f a cap h=>exact .islEmpty s f a cap h
 |isl s es f b o cap vf h1 h2 h3 h4 h5 h6 h7 _=>exact .isl s es f b o cap vf h1 h2 h3 h4 h5 h6 h7
 |iptr s es b o i0 off vf h1 h4 h5 h6 h7 _=>exact .iptr s es b o i0 off vf h1 h4 h5 h6 h7
 |fn f a c fs cs h1 h2 _ _ ih1 ih2=>exact .fn f _ _ fs cs (by rw[jq];exact h1) (by rw[jq];exact h2) (fun i x v hx hv=>by obtain⟨y,hy,rfl⟩:=jx hx;exact ih1 i y v hy hv) (fun i x v hx hv=>by obtain⟨y,hy,rfl⟩:=jx hx;exact ih2 i y v hy hv)
 |ifc t x v _ ih=>exact .ifc t _ v ih
theorem We{p:Id→Bool}{g:Id→Id}{I I2:Nat→Nat→Prop}{β β2:Id→Option CLoc}{n n2:Nat}{w:World}(hI:∀b k,I b k→I2 b k)(hn:∀id:Id,p id=true→(g id).1<n2)
 (hβ:∀ (id:Id) c,p id=true→β2 (g id)=some c→β id=some c) {x:AVal} {v:Value} (h:Rep I β n w x v):x.inP p=true→Rep I2 β2 n2 w (x.ren g) v:=by
 induction h with
 |any v=>intro _;exact .any v
 |imm x v h=>intro _;exact .imm _ _ (Yx (h.mono hI (fun _ _ _=>rfl)))
 |agg cs vs h1 h2 _ ih=>intro hr;exact .agg _ vs (by rw[jq];exact h1) h2 (fun i x v hx hv=>by obtain⟨y,hy,rfl⟩:=jx hx;exact ih i y v hy hv (Z8 hr y (pD hy)))
 |tup cs vs h1 _ ih=>intro hr;exact .tup _ vs (by rw[jq];exact h1) (fun i x v hx hv=>by obtain⟨y,hy,rfl⟩:=jx hx;exact ih i y v hy hv (Z8 hr y (pD hy)))
 |fn f a c fs cs h1 h2 _ _ ih1 ih2=>
  intro hr
  simp only[AVal.inP,pA] at hr
  exact .fn f _ _ fs cs (by rw[jq];exact h1) (by rw[jq];exact h2) (fun i x v hx hv=>by obtain⟨y,hy,rfl⟩:=jx hx;exact ih1 i y v hy hv (Z8 hr.1 y (pD hy)))
   (fun i x v hx hv=>by obtain⟨y,hy,rfl⟩:=jx hx;exact ih2 i y v hy hv (Z8 hr.2 y (pD hy)))
 |ifc t x v _ ih=>intro hr;exact .ifc t _ v (ih hr)
 |osl tok s es v h1 h2 h3=>intro hr;exact .osl _ s es v (hn tok hr) (h2.mono hI (fun _ _ _=>rfl)) (fun c hc=>h3 c (hβ tok c hr hc))
 |ptr b i off a hb h=>intro hr;exact .ptr _ i off a (hn b hr) (fun c hc=>h c (hβ b c hr hc))
 |msl b s off len f a cap hb h1 h2 h3=>intro hr;exact .msl _ s off len f a cap (hn b hr) h1 h2 (fun c hc=>h3 c (hβ b c hr hc))
 |map b k hb h=>intro hr;exact .map _ k (hn b hr) (fun c hc=>h c (hβ b c hr hc))
 |optp b k hb h=>intro hr;exact .optp _ k (hn b hr) (fun c hc=>h c (hβ b c hr hc))
 |cnd q x v _ h ih=>intro hr;exact .cnd q _ v (fun hp=>ih hp hr) h
theorem z3t{p:Id→Bool}{g:Id→Id}{I I2:Nat→Nat→Prop}{β β2:Id→Option CLoc}{n n2:Nat}{w:World}(hI:∀b k,I b k→I2 b k)(hn:∀id:Id,p id=true→(g id).1<n2)
 (hβ:∀ (id:Id) c,p id=true→β2 (g id)=some c→β id=some c) {c:CLoc} {s:Nat} {es:List (List AVal)} (hr:(ABlock.rows s es).inP p=true) (hB:RepB I β n w c (.rows s es)):RepB I2 β2 n2 w c (.rows s (jk g es)):=by
 obtain⟨h1,h2,h3,h4,h5,h6,h7⟩:=hB
 have hrow:∀ {i:Nat} {q:List AVal},(jk g es)[i]?=some q→∃q0,es[i]?=some q0∧q=AVal.ren.renL g q0:=by
  intro i q hq
  unfold jk at hq
  rw[pF] at hq
  cases hx:es[i]? with
  |none=>rw[hx] at hq;cases hq
  |some q0=>rw[hx] at hq;simp only[pG,p0] at hq;exact⟨q0,rfl,hq.symm⟩
 refine⟨h1,h2.imp id (fun z=>⟨z.1,z.2.1,by rw[z.2.2];rfl⟩),h3,h4,by unfold jk;rw[pH];exact h5,fun i q hi=>?_,fun i q j x hi hj=>?_⟩
 ·obtain⟨q0,hq0,rfl⟩:=hrow hi
  rw[jq];exact h6 i q0 hq0
 ·obtain⟨q0,hq0,rfl⟩:=hrow hi
  obtain⟨x0,hx0,rfl⟩:=jx hj
  obtain⟨v,g1,g2,g3⟩:=h7 i q0 j x0 hq0 hx0
  simp only[ABlock.inP,pE] at hr
  exact⟨v,g1,g2,We hI hn hβ g3 (Z8 (hr q0 (pD hq0)) x0 (pD hx0))⟩
theorem zbp{p:Id→Bool}{g:Id→Id}{I I2:Nat→Nat→Prop}{β β2:Id→Option CLoc}{n n2:Nat}{w:World}(hI:∀b k,I b k→I2 b k)(hn:∀id:Id,p id=true→(g id).1<n2)
 (hβ:∀ (id:Id) c,p id=true→β2 (g id)=some c→β id=some c) {c:CLoc} {b:ABlock} (hr:b.inP p=true) (hB:RepB I β n w c b):RepB I2 β2 n2 w c (b.ren g):=by
 cases b with
 |bld T g0=>
  obtain⟨h1,h2,h3,h4,q,v,h5,h6,h7⟩:=hB
  exact⟨h1,h2,h3,hn _ hr,q,v,h5,h6,fun d hd=>h7 d (hβ _ d hr hd)⟩
 |buf e bs=>exact hB
 |lrec l r e=>
  obtain⟨h1,h2,h3,h4,h5⟩:=hB
  exact⟨h1,h2,h3,h4,fun t=>by rw[Kc];exact We hI hn hβ (h5 t) (z74 e t hr)⟩
 |rmap es arr ck=>
  obtain⟨h1,h2,h3,h4⟩:=hB
  refine⟨h1,h2,h3,by rw[h4.len,pH],fun i k x e hi he=>?_,h4.born,h4.clk⟩
  rw[pF] at hi
  cases hx:es[i]? with
  |none=>rw[hx] at hi;cases hi
  |some y=>
   rw[hx] at hi
   simp only[pG,p0,pL] at hi
   obtain⟨rfl,rfl⟩:=hi
   obtain⟨g1,g2⟩:=h4.ent i y.1 y.2 e hx he
   simp only[ABlock.inP,pE,pA] at hr
   exact⟨Yx (g1.mono hI (fun _ _ _=>rfl)),We hI hn hβ g2 (hr y (pD hx)).2⟩
 |itr m arr ck seen=>
  obtain⟨h1,h2,h0,k,h3,h4⟩:=hB
  refine⟨h1,h2,h0,k,h3,h4.mono (fun id _ hm=>hn id ?_) (fun id c _ hm hc=>hβ id c ?_ hc)⟩<;>(subst hm;exact hr)
 |mbox b=>
  obtain⟨h1,h2,h0,k,h3,h4⟩:=hB
  refine⟨h1,h2,h0,k,h3,h4.mono (g:=g) (fun id _ hm=>hn id ?_) (fun id c _ hm hc=>hβ id c ?_ hc)⟩<;>(simp only[p0] at hm;subst hm;exact hr)
 |rows s es=>exact z3t hI hn hβ hr hB
 |one cs=>
  have:=z3t (g:=g) (I2:=I2) (β2:=β2) (n2:=n2) hI hn hβ (by simpa[ABlock.inP] using hr) (qy.1 hB)
  simp only[ABlock.ren]
  refine qy.2 ?_
  rw[jq]
  exact this
 |amap es=>
  obtain⟨h1,h2,arr,ck,h3,h4⟩:=hB
  refine⟨h1,h2,arr,ck,h3,by rw[h4.len,pH],fun i k x e hi he=>?_,h4.born,h4.clk⟩
  rw[pF] at hi
  cases hx:es[i]? with
  |none=>rw[hx] at hi;cases hi
  |some y=>
   rw[hx] at hi
   simp only[pG,p0,pL] at hi
   obtain⟨rfl,rfl⟩:=hi
   obtain⟨g1,g2⟩:=h4.ent i y.1 y.2 e hx he
   simp only[ABlock.inP,pE,pA] at hr
   exact⟨Yx (g1.mono hI (fun _ _ _=>rfl)),We hI hn hβ g2 (hr y (pD hx)).2⟩
 |tok=>exact hB
inductive Vw(F:Id→Bool)(H:AHeap)(ρ:Id→Option Id)(n:Nat):AVal→AVal→Prop
 |any (x:AVal):Vw F H ρ n x .any
 |same (x:AVal):x.nid=true→Vw F H ρ n x x
 |mov (p:Id→Bool) (g:Id→Id) (x:AVal):x.inP p=true→(∀id:Id,p id=true→(g id).1<n∧ρ (g id)=some id)→Vw F H ρ n x (x.ren g)
 |osl (tok tok':Id) (s:Nat) (es:List (List AVal)):ρ tok'=some tok→Vw F H ρ n (.osl tok s es) (.osl tok' s es)
 |oslI (tok:Id) (s:Nat) (es:List (List AVal)):Vw F H ρ n (.osl tok s es) (.isl s es false)
 |ptr (b b':Id) (i off:Nat):ρ b'=some b→Vw F H ρ n (.ptr b i off) (.ptr b' i off)
 |msl (b b':Id) (s off len:Nat) (f:Bool):ρ b'=some b→Vw F H ρ n (.msl b s off len f) (.msl b' s off len f)
 |mslF (b b':Id) (s off len:Nat) (f:Bool):ρ b'=some b→Vw F H ρ n (.msl b s off len f) (.msl b' s off len false)
 |map (b b':Id):ρ b'=some b→Vw F H ρ n (.map b) (.map b')
 |optp (b b':Id):ρ b'=some b→Vw F H ρ n (.optp b) (.optp b')
 |nilP (b':Id):b'.1<n→Vw F H ρ n (.val (.pointer none)) (.optp b')
 |ptrP (b b':Id):ρ b'=some b→Vw F H ρ n (.ptr b 0 0) (.optp b')
 |islM (b b':Id) (s off:Nat) (f:Bool) (es:List (List AVal)):ρ b'=some b→H.get b=some (.rows s es)→Vw F H ρ n (.isl s [] true) (.msl b' s off 0 f)
 |nilM (b b':Id) (s off:Nat) (f:Bool) (es:List (List AVal)):ρ b'=some b→H.get b=some (.rows s es)→Vw F H ρ n (.val (.slice none 0 0)) (.msl b' s off 0 f)
 |nilI (s:Nat) (f:Bool):Vw F H ρ n (.val (.slice none 0 0)) (.isl s [] f)
 |nilO (tok':Id) (s:Nat):tok'.1<n→Vw F H ρ n (.val (.slice none 0 0)) (.osl tok' s [])
 |islF (s:Nat) (es:List (List AVal)) (f:Bool):Vw F H ρ n (.isl s es f) (.isl s es false)
 |islO (tok':Id) (s:Nat) (es:List (List AVal)):tok'.1<n→Vw F H ρ n (.isl s es true) (.osl tok' s es)
 |cnd (p:Bool) (x y:AVal):p=true→Vw F H ρ n x y→Vw F H ρ n (.cnd p x) y
 |agg (cs ds:List AVal):cs.length=ds.length→(∀ (i:Nat) (x y:AVal),cs[i]?=some x→ds[i]?=some y→Vw F H ρ n x y)→Vw F H ρ n (.agg cs) (.agg ds)
 |tup (cs ds:List AVal):cs.length=ds.length→(∀ (i:Nat) (x y:AVal),cs[i]?=some x→ds[i]?=some y→Vw F H ρ n x y)→Vw F H ρ n (.tup cs) (.tup ds)
 |fn (f:Fn) (a c a' c':List AVal):a.length=a'.length→c.length=c'.length→(∀ (i:Nat) (x y:AVal),a[i]?=some x→a'[i]?=some y→Vw F H ρ n x y)→(∀ (i:Nat) (x y:AVal),c[i]?=some x→c'[i]?=some y→Vw F H ρ n x y)→Vw F H ρ n (.fn f a c) (.fn f a' c')
 |ifc (t:TypeId) (x y:AVal):Vw F H ρ n x y→Vw F H ρ n (.ifc t x) (.ifc t y)
 |frz (b:Id) (s off len:Nat) (f f':Bool) (es rows:List (List AVal)):(f'=true→f=true)→F b=true→H.get b=some (.rows s es)→off+len≤es.length→rows.length=len →
  (∀ (i:Nat) (r r':List AVal),es[off+i]?=some r→rows[i]?=some r'→r.length=r'.length) →
  (∀ (i:Nat) (r r':List AVal) (j:Nat) (x y:AVal),es[off+i]?=some r→rows[i]?=some r'→r[j]?=some x→r'[j]?=some y→Vw F H ρ n x y)→(∀r'∈rows,∀y∈r',y.imm=some y)→Vw F H ρ n (.msl b s off len f) (.isl s rows f')
 |frz1 (b:Id) (off:Nat) (r r':List AVal):F b=true→H.get b=some (.one r)→r.length=r'.length→(∀ (j:Nat) (x y:AVal),r[j]?=some x→r'[j]?=some y→Vw F H ρ n x y)→(∀y∈r',y.imm=some y)→Vw F H ρ n (.ptr b 0 off) (.iptr r'.length [r'] 0 off)
 |frzP (b:Id) (s i off:Nat) (es rows:List (List AVal)):F b=true→H.get b=some (.rows s es)→rows.length=es.length →
  (∀ (i:Nat) (r r':List AVal),es[i]?=some r→rows[i]?=some r'→r.length=r'.length) →
  (∀ (i:Nat) (r r':List AVal) (j:Nat) (x y:AVal),es[i]?=some r→rows[i]?=some r'→r[j]?=some x→r'[j]?=some y→Vw F H ρ n x y)→(∀r'∈rows,∀y∈r',y.imm=some y)→Vw F H ρ n (.ptr b i off) (.iptr s rows i off)
inductive BVw(F:Id→Bool)(H:AHeap)(ρ:Id→Option Id)(n:Nat):ABlock→ABlock→Prop
 |tok:BVw F H ρ n .tok .tok
 |bld (T:TypeId) (g g':Id):ρ g'=some g→BVw F H ρ n (.bld T g) (.bld T g')
 |buf (e:TypeId) (bs:List UInt8):BVw F H ρ n (.buf e bs) (.buf e bs)
 |lrec (l:Nat) (r:Loop) (e e':Env):(∀t,Vw F H ρ n (e.get t) (e'.get t))→BVw F H ρ n (.lrec l r e) (.lrec l r e')
 |mov (p:Id→Bool) (g:Id→Id) (b:ABlock):b.inP p=true→(∀id:Id,p id=true→(g id).1<n∧ρ (g id)=some id)→BVw F H ρ n b (b.ren g)
 |one (r r':List AVal):r.length=r'.length→(∀ (j:Nat) (x y:AVal),r[j]?=some x→r'[j]?=some y→Vw F H ρ n x y)→BVw F H ρ n (.one r) (.one r')
 |amap (es:List (AVal×AVal)):(∀x∈es,x.2.nid=true)→BVw F H ρ n (.amap es) (.amap es)
 |amapV (es es':List (AVal×AVal)):es.length=es'.length→(∀ (i:Nat) (k x k' y:AVal),es[i]?=some (k,x)→es'[i]?=some (k',y)→k=k'∧Vw F H ρ n x y)→BVw F H ρ n (.amap es) (.amap es')
 |rmap (es:List (AVal×AVal)) (arr:Array MapEntry) (ck:Nat):(∀x∈es,x.2.nid=true)→BVw F H ρ n (.rmap es arr ck) (.rmap es arr ck)
 |rmapA (es:List (AVal×AVal)) (arr:Array MapEntry) (ck:Nat):(∀x∈es,x.2.nid=true)→BVw F H ρ n (.rmap es arr ck) (.amap es)
 |itr (b b':Id) (arr:Array MapEntry) (ck:Nat) (seen:List Nat):ρ b'=some b→BVw F H ρ n (.itr (some b) arr ck seen) (.itr (some b') arr ck seen)
 |mbox (b b':Id):ρ b'=some b→BVw F H ρ n (.mbox b) (.mbox b')
 |rows (s:Nat) (es es':List (List AVal)):es.length=es'.length→(∀ (i:Nat) (r r':List AVal),es[i]?=some r→es'[i]?=some r'→r.length=r'.length∧∀ (j:Nat) (x y:AVal),r[j]?=some x→r'[j]?=some y→Vw F H ρ n x y)→BVw F H ρ n (.rows s es) (.rows s es')
def EnvTo(F:Id→Bool)(H:AHeap)(ρ:Id→Option Id)(n:Nat)(e':Env):Env→Prop
 |[]=>True
 |(t,v)::r=>Vw F H ρ n (e'.get t) v∧EnvTo F H ρ n e' r
def Xh(F:Id→Bool)(H:AHeap)(ρ:Id→Option Id)(n0 n:Nat)(k:Id)(b:ABlock):Prop:=
 match ρ k with
 |some j=>match H.get j with
  |some b'=>F j=false∧BVw F H ρ n b' b
  |none=>False
 |none=>b=.tok∧n0≤k.1∧k.1<n
def HeapTo(F:Id→Bool)(H:AHeap)(ρ:Id→Option Id)(n0 n:Nat):AHeap→Prop
 |[]=>True
 |(k,b)::r=>Xh F H ρ n0 n k b∧HeapTo F H ρ n0 n r
def Kp(F:Id→Bool)(H:AHeap)(ρ:Id→Option Id)(n0 n:Nat)(L:AHeap):Prop:=∀id blk,L.get id=some blk→Xh F H ρ n0 n id blk
structure RhoOk(n0 n:Nat)(F:Id→Bool)(H:AHeap)(ρ:Id→Option Id):Prop where
 inj:∀i j k,ρ i=some k→ρ j=some k→i=j
 dom:∀i k,ρ i=some k→i.1<n
 low:∀i:Id,i.1<n0→(ρ i=some i∧F i=false)∨(ρ i=none∧H.get i≠none)
 high:∀ (i k:Id),n0≤i.1→ρ i=some k→n0≤k.1∨H.get k≠none
 le:n0≤n
theorem EnvTo.get{F:Id→Bool}{H:AHeap}{ρ:Id→Option Id}{n:Nat}{e':Env}:∀ {e:Env},EnvTo F H ρ n e' e→∀t,Vw F H ρ n (e'.get t) (e.get t)
 |[],_,t=>.any _
 |(k,v)::r,h,t=>by
  by_cases hk:k=t
  ·subst hk;simp only[Env.get,if_pos];exact h.1
  ·simp only[Env.get,if_neg hk];exact EnvTo.get h.2 t
theorem HeapTo.get{F:Id→Bool}{H:AHeap}{ρ:Id→Option Id}{n0 n:Nat}:∀ {L:AHeap},HeapTo F H ρ n0 n L→∀id blk,L.get id=some blk→Xh F H ρ n0 n id blk
 |[],_,_,_,h=>by cases h
 |(k,b)::r,h,id,blk,hb=>by
  by_cases hk:k=id
  ·subst hk
   simp only[AHeap.get,if_pos,p0] at hb
   subst hb
   exact h.1
  ·simp only[AHeap.get,if_neg hk] at hb;exact HeapTo.get h.2 id blk hb
section
variable {I I0:Nat→Nat→Prop} {β β0:Id→Option CLoc} {n0 n n':Nat} {H H' H0 L:AHeap} {w w0:World} {F:Id→Bool} {ρ:Id→Option Id}
def V2(I:Nat→Nat→Prop)(β:Id→Option CLoc)(F:Id→Bool)(H:AHeap)(w:World):Nat→Nat→Prop:=fun b k=>I b k∨((∃id c,F id=true∧β id=some c∧H.get id≠none∧c.has b k)∧∃v,w.cell? ⟨b,k,none⟩=some v)
noncomputable def Vr(β:Id→Option CLoc)(F:Id→Bool)(ρ:Id→Option Id)(n0 n:Nat)(L:AHeap):Id→Option CLoc:=fun id=>match ρ id with
 |some k=>if F k then none else β k
 |none=>by classical exact if L.get id=some .tok∧n0≤id.1∧id.1<n then some ⟨0,0,0,0,0⟩ else none
theorem jt{id:Id}{c:CLoc}(h:Vr β F ρ n0 n L id=some c):(∃k,ρ id=some k∧F k=false∧β k=some c)∨(ρ id=none∧c=⟨0,0,0,0,0⟩∧L.get id=some .tok∧n0≤id.1∧id.1<n):=by
 unfold Vr at h
 split at h
 ·rename_i k hk
  split at h
  ·cases h
  ·rename_i hF;exact .inl ⟨k,hk,by simpa using hF,h⟩
 ·rename_i hk
  split at h
  ·rename_i hc
   simp only[p0] at h
   exact .inr ⟨hk,h.symm,hc⟩
  ·cases h
theorem w4{id:Id}{c:CLoc}{b k:Nat}(h:Vr β F ρ n0 n L id=some c)(hk:c.has b k):∃j,ρ id=some j∧F j=false∧β j=some c:=by
 rcases jt h with h|⟨_,h,_⟩
 ·exact h
 ·subst h
  have:=hk.2.2
  simp at this
theorem Wc{id k:Id}(h:ρ id=some k)(hF:F k=false):Vr β F ρ n0 n L id=β k:=by
 unfold Vr;rw[h];simp[hF]
theorem Vf{es:List (List AVal)}{i:Nat}{r:List AVal}(h:es[i]?=some r):i<es.length:=by
 rcases q5 i es.length with h'|h'
 ·exact h'
 ·rw[pT h'] at h;cases h
theorem ui{r:List AVal}{j:Nat}{x:AVal}(h:r[j]?=some x):j<r.length:=by
 rcases q5 j r.length with h'|h'
 ·exact h'
 ·rw[pT h'] at h;cases h
theorem Xd(hI:Inv I β n' H' w)(hρ:RhoOk n0 n F H' ρ){x y:AVal}(h:Vw F H' ρ n x y):∀ {v:Value},Rep I β n' w x v→Rep (V2 I β F H' w) (Vr β F ρ n0 n L) n w y v:=by
 have up:∀ {x:AVal} {v:Value},RepI I w x v→RepI (V2 I β F H' w) w x v:=fun h=>h.mono (fun _ _ h=>.inl h) (fun _ _ _=>rfl)
 have back:∀ {i k:Id} {c:CLoc},ρ i=some k→Vr β F ρ n0 n L i=some c→β k=some c:=by
  intro i k c hk hc
  rcases jt hc with⟨k',h1,_,h3⟩|⟨h1,_⟩
  ·rw[hk] at h1;simp only[p0] at h1;subst h1;exact h3
  ·rw[hk] at h1;cases h1
 -- the cells of a block that is frozen
 have frozen:∀ {b:Id} {c:CLoc} {s:Nat} {es:List (List AVal)},F b=true→H'.get b≠none→β b=some c→RepB I β n' w c (.rows s es)→∀k,c.base≤k→k<c.base+es.length*s→V2 I β F H' w c.blk k:=by
  intro b c s es hF hg hc hB k h1 h2
  obtain⟨_,⟨arr,el,fr,g1,g2⟩|⟨z1,z2,rfl⟩,_,g4,g5,_⟩:=hB
  rotate_left
  ·simp only[List.length_nil] at h2;omega
  refine .inr ⟨⟨b,c,hF,hc,hg,rfl,by omega,by omega⟩,?_⟩
  have hlt:k<arr.size:=by omega
  exact⟨arr[k],by unfold World.cell?;simp[g1,hlt]⟩
 induction h with
 |any x=>intro v _;exact .any v
 |same x hx=>intro v hr;exact ut (fun _ _ h=>.inl h) x hx hr
 |mov p g x hx hp=>intro v hr;exact We (fun _ _ h=>.inl h) (fun id hid=>(hp id hid).1) (fun id c hid hc=>back (hp id hid).2 hc) hr hx
 |osl tok tok' s es ht=>
  intro v hr
  cases hr with
  |imm _ _ hr=>cases hr
  |osl _ _ _ _ h1 h2 h3=>exact .osl _ _ _ _ (hρ.dom _ _ ht) (up h2) (fun c hc=>h3 c (back ht hc))
 |oslI tok s es=>
  intro v hr
  cases hr with
  |imm _ _ hr=>cases hr
  |osl _ _ _ _ h1 h2 h3=>exact .imm _ _ (up h2)
 |ptr b b' i off hb=>
  intro v hr
  cases hr with
  |imm _ _ hr=>cases hr
  |ptr _ _ _ a h1 h2=>exact .ptr _ _ _ _ (hρ.dom _ _ hb) (fun c hc=>h2 c (back hb hc))
 |msl b b' s off len f hb=>
  intro v hr
  cases hr with
  |imm _ _ hr=>cases hr
  |msl _ _ _ _ _ a cap h0 h1 h2 h3=>exact .msl _ _ _ _ _ _ _ (hρ.dom _ _ hb) h1 h2 (fun c hc=>h3 c (back hb hc))
 |mslF b b' s off len f hb=>
  intro v hr
  cases hr with
  |imm _ _ hr=>cases hr
  |msl _ _ _ _ _ a cap h0 h1 h2 h3=>exact .msl _ _ _ _ _ _ _ (hρ.dom _ _ hb) h1 (fun h=>by cases h) (fun c hc=>h3 c (back hb hc))
 |islM b b' s off f es hb hg=>
  intro v hr
  obtain⟨c,hc,hB⟩:=hI.blocks b _ hg
  obtain⟨ad,cap,rfl,_,hcap,_⟩:=hr.isl_inv
  have h0:cap=0:=hcap rfl
  subst h0
  exact .msl _ _ _ _ _ ad 0 (hρ.dom _ _ hb) ⟨pZ _,fun _=>rfl⟩ (fun _=>rfl) (fun c' hc'=>by
   have h1:=back hb hc'
   rw[hc] at h1
   simp only[p0] at h1
   subst h1
   exact⟨hB.1,fun h=>absurd rfl h⟩)
 |nilM b b' s off f es hb hg=>
  intro v hr
  obtain rfl:=hr.val_inv
  obtain⟨c,hc,hB⟩:=hI.blocks b _ hg
  exact .msl _ _ _ _ _ none 0 (hρ.dom _ _ hb) ⟨pZ _,fun _=>rfl⟩ (fun _=>rfl) (fun c' hc'=>by
   have h1:=back hb hc'
   rw[hc] at h1
   simp only[p0] at h1
   subst h1
   exact⟨hB.1,fun h=>absurd rfl h⟩)
 |map b b' hb=>
  intro v hr
  cases hr with
  |imm _ _ hr=>cases hr
  |map _ r h1 h2=>exact .map _ _ (hρ.dom _ _ hb) (fun c hc=>h2 c (back hb hc))
 |optp b b' hb=>
  intro v hr
  cases hr with
  |imm _ _ hr=>cases hr
  |optp _ a h1 h2=>exact .optp _ _ (hρ.dom _ _ hb) (fun c hc=>h2 c (back hb hc))
 |nilP b' hb=>intro v hr;rw[hr.val_inv];exact .optp _ _ hb (fun c _=>.inl rfl)
 |ptrP b b' hb=>
  intro v hr
  cases hr with
  |imm _ _ hr=>cases hr
  |ptr _ _ _ a h1 h2=>exact .optp _ _ (hρ.dom _ _ hb) (fun c hc=>.inr (by rw[h2 c (back hb hc)];simp))
 |nilI s f=>intro v hr;rw[hr.val_inv];exact .imm _ _ (.islNil s f)
 |nilO tok' s ht=>intro v hr;rw[hr.val_inv];exact .osl _ _ _ _ ht (.islNil _ _) (fun c _ a cap he=>by simp at he)
 |islF s es f=>
  intro v hr
  cases hr with
  |imm _ _ hr=>
   cases hr with
   |islNil=>exact .imm _ _ (.islNil _ _)
   |islEmpty _ _ a cap h=>exact .imm _ _ (.islEmpty _ _ _ _ (fun h=>by cases h))
   |isl _ _ _ b o cap vf h1 h2 h3 h4 h5 h6 h7=>exact .imm _ _ (up (.isl _ _ _ b o cap vf h1 h2 (fun h=>by cases h) h4 h5 h6 h7))
 |islO tok' s es ht=>
  intro v hr
  obtain⟨ad,cap,hv,_,hf,_⟩:=hr.isl_inv
  have hcap:=hf rfl
  cases hr with
  |imm _ _ hr=>
   refine .osl _ _ _ _ ht ?_ ?_
   ·cases hr with
    |islNil=>exact .islNil _ _
    |islEmpty _ _ a cap h=>exact .islEmpty _ _ _ _ (fun h=>by cases h)
    |isl _ _ _ b o cap vf h1 h2 h3 h4 h5 h6 h7=>exact up (.isl _ _ _ b o cap vf h1 h2 (fun h=>by cases h) h4 h5 h6 h7)
   ·intro c _ a cap' he
    rw[hv] at he
    simp only[Value.slice.injEq] at he
    exact .inl (by rw[←he.2.2];exact hcap)
 |cnd p x y hp _ ih=>
  intro v hr
  cases hr with
  |imm _ _ hr=>cases hr
  |cnd _ _ _ h1 _=>exact ih (h1 hp)
 |agg cs ds hl _ ih=>
  intro v hr
  obtain⟨vs,rfl,h1,h2,h3⟩:=hr.agg_inv
  refine .agg ds vs (by omega) h2 fun i y v hy hv=>?_
  have hlt:i<cs.length:=by rw[hl];exact ui hy
  exact ih i cs[i] y (p9 hlt) hy (h3 i _ v (p9 hlt) hv)
 |tup cs ds hl _ ih=>
  intro v hr
  have:∃vs,v=.tuple vs∧vs.size=cs.length∧∀ (i:Nat) (y:AVal) (u:Value),cs[i]?=some y→vs[i]?=some u→Rep I β n' w y u:=by
   cases hr with
   |tup _ vs h1 h2=>exact⟨vs,rfl,h1,h2⟩
   |imm _ _ hx=>
    cases hx with
    |tup _ vs h1 h2=>exact⟨vs,rfl,h1,fun i y u hy hu=>.imm _ _ (h2 i y u hy hu)⟩
  obtain⟨vs,rfl,h1,h3⟩:=this
  refine .tup ds vs (by omega) fun i y v hy hv=>?_
  have hlt:i<cs.length:=by rw[hl];exact ui hy
  exact ih i cs[i] y (p9 hlt) hy (h3 i _ v (p9 hlt) hv)
 |fn f a c a' c' hl1 hl2 _ _ ih1 ih2=>
  intro v hr
  have hfn:∃fs cs:Array Value,v=.func f fs cs∧fs.size=a.length∧cs.size=c.length∧(∀ (i:Nat) (x:AVal) (v:Value),a[i]?=some x→fs[i]?=some v→Rep I β n' w x v)∧(∀ (i:Nat) (x:AVal) (v:Value),c[i]?=some x→cs[i]?=some v→Rep I β n' w x v):=by
   cases hr with
   |fn _ _ _ fs cs h1 h2 h3 h4=>exact⟨fs,cs,rfl,h1,h2,h3,h4⟩
   |imm _ _ hr=>
    cases hr with
    |fn _ _ _ fs cs h1 h2 h3 h4=>exact⟨fs,cs,rfl,h1,h2,fun i x v p q=>.imm _ _ (h3 i x v p q),fun i x v p q=>.imm _ _ (h4 i x v p q)⟩
  obtain⟨fs,cs,rfl,k1,k2,k3,k4⟩:=hfn
  refine .fn f a' c' fs cs (by omega) (by omega) (fun i y v hy hv=>?_) (fun i y v hy hv=>?_)
  ·have hlt:i<a.length:=by rw[hl1];exact ui hy
   exact ih1 i a[i] y (p9 hlt) hy (k3 i _ v (p9 hlt) hv)
  ·have hlt:i<c.length:=by rw[hl2];exact ui hy
   exact ih2 i c[i] y (p9 hlt) hy (k4 i _ v (p9 hlt) hv)
 |ifc t x y _ ih=>
  intro v hr
  cases hr with
  |ifc _ _ u h=>exact .ifc t y u (ih h)
  |imm _ _ h=>
   cases h with
   |ifc _ _ u h=>exact .ifc t y u (ih (.imm _ _ h))
 |frz b s off len f f' es rows hff hF hg hlen hrl hrow _ himm ih=>
  intro v hr
  obtain⟨c,hc,hB⟩:=hI.blocks b _ hg
  have hB0:=hB
  obtain⟨hcs,_,_,hlo,hbase,hlens,hcell⟩:=hB
  cases hr with
  |imm _ _ h=>cases h
  |msl _ _ _ _ _ ad cap hbn hcap hf hp=>
   by_cases h0:len=0
   ·subst h0
    have:rows=[]:=List.length_eq_zero_iff.1 hrl
    subst this
    cases ad with
    |some ad=>exact .imm _ _ (.islEmpty s f' ad cap (fun h=>hf (hff h)))
    |none=>have hc0:=hcap.2 rfl;subst hc0;exact .imm _ _ (.islNil _ _)
   ·obtain⟨k1,k2⟩:=(hp c hc).2 (by omega)
    subst k1
    have key:∀ (i:Nat) (r':List AVal) (j:Nat) (y:AVal),rows[i]?=some r'→r'[j]?=some y→∃u,w.cell? ⟨c.blk,c.base+off*s+i*s+j,none⟩=some u∧y7 u=true∧RepI (V2 I β F H' w) w y u∧V2 I β F H' w c.blk (c.base+off*s+i*s+j):=by
     intro i r' j y hr' hy
     have hi:i<len:=by rw[←hrl];exact Vf hr'
     have hr:es[off+i]?=some (es[off+i]'(by omega)):=p9 (by omega)
     have hlr:=hrow i _ r' hr hr'
     have hj:=ui hy
     have hx:(es[off+i]'(by omega))[j]?=some ((es[off+i]'(by omega))[j]'(by omega)):=p9 (by omega)
     obtain⟨u,g1,g2,g3⟩:=hcell (off+i) _ j _ hr hx
     have hrin:=z3v hlens hr hx
     rw[Nat.add_mul] at g1 hrin
     have hrep:=ih i _ r' j _ y hr hr' hx hy g3
     have e1:c.base+(off*s+i*s)+j=c.base+off*s+i*s+j:=by omega
     rw[e1] at g1
     exact⟨u,g1,g2,jg y (himm r' (pD hr') y (pD hy)) hrep,frozen hF (by rw[hg];simp) hc hB0 _ (by omega) (by omega)⟩
    subst hrl
    refine .imm _ _ (.isl s rows f' c.blk (c.base+off*s) cap (fun i j=>(w.cell? ⟨c.blk,c.base+off*s+i*s+j,none⟩).getD undef) ?_ hcap.1 (fun h=>hf (hff h)) ?_ ?_ ?_ ?_)
    ·intro i r j x hi hj
     obtain⟨u,_,_,_,h4⟩:=key i r j x hi hj
     exact h4
    ·intro i r' hr'
     have hi:=Vf hr'
     have hr:es[off+i]?=some (es[off+i]'(by omega)):=p9 (by omega)
     rw[←hrow i _ r' hr hr'];exact hlens _ _ hr
    ·intro i r j x hi hj;obtain⟨u,h1,_⟩:=key i r j x hi hj;rw[h1];rfl
    ·intro i r j x hi hj;obtain⟨u,h1,h2,_⟩:=key i r j x hi hj;rw[h1];exact h2
    ·intro i r j x hi hj;obtain⟨u,h1,_,h3,_⟩:=key i r j x hi hj;rw[h1];exact h3
 |frz1 b off r0 r0' hF hg hl0 _ himm ih=>
  intro v hr
  obtain⟨c,hc,hB⟩:=hI.blocks b _ hg
  have hB0:=qy.1 hB
  obtain⟨hcs,_,_,hlo,hbase,hlens,hcell⟩:=hB0
  cases hr with
  |imm _ _ h=>cases h
  |ptr _ _ _ ad hbn hp=>
   have hp:=hp c hc
   subst hp
   have key:∀ (i:Nat) (r':List AVal) (j:Nat) (y:AVal),[r0'][i]?=some r'→r'[j]?=some y→∃u,w.cell? ⟨c.blk,c.base+i*r0'.length+j,none⟩=some u∧y7 u=true∧RepI (V2 I β F H' w) w y u∧V2 I β F H' w c.blk (c.base+i*r0'.length+j):=by
    intro i r' j y hr' hy
    cases i with
    |succ i=>simp at hr'
    |zero=>
     simp only[pN,p0] at hr'
     subst hr'
     have hj:=ui hy
     have hx:r0[j]?=some (r0[j]'(by omega)):=p9 (by omega)
     obtain⟨u,g1,g2,g3⟩:=hcell 0 r0 j _ rfl hx
     have hrep:=ih j _ y hx hy g3
     simp only[Nat.zero_mul,Nat.add_zero] at g1 ⊢
     exact⟨u,g1,g2,jg y (himm y (pD hy)) hrep,frozen hF (by rw[hg];simp) hc (qy.1 hB) _ (by omega) (by simp;omega)⟩
   simp only[Nat.zero_mul,Nat.add_zero]
   have:=RepI.iptr (I:=V2 I β F H' w) (w:=w) r0'.length [r0'] c.blk c.base 0 off (fun i j=>(w.cell? ⟨c.blk,c.base+i*r0'.length+j,none⟩).getD undef) (fun i r j x hi hj=>by
    obtain⟨u,_,_,_,h4⟩:=key i r j x hi hj
    exact h4) (fun i r' hr'=>by
    cases i with
    |succ i=>simp at hr'
    |zero=>simp only[pN,p0] at hr';rw[←hr'])
    (fun i r j x hi hj=>by obtain⟨u,h1,_⟩:=key i r j x hi hj;rw[h1];rfl)
    (fun i r j x hi hj=>by obtain⟨u,h1,h2,_⟩:=key i r j x hi hj;rw[h1];exact h2)
    (fun i r j x hi hj=>by obtain⟨u,h1,_,h3,_⟩:=key i r j x hi hj;rw[h1];exact h3)
   simp only[Nat.zero_mul,Nat.add_zero] at this
   exact .imm _ _ this
 |frzP b s i0 off es rows hF hg hrl hrow _ himm ih=>
  intro v hr
  obtain⟨c,hc,hB⟩:=hI.blocks b _ hg
  have hB0:=hB
  obtain⟨hcs,_,_,hlo,hbase,hlens,hcell⟩:=hB
  cases hr with
  |imm _ _ h=>cases h
  |ptr _ _ _ ad hbn hp=>
   have hp:=hp c hc
   subst hp
   rw[hcs]
   have key:∀ (i:Nat) (r':List AVal) (j:Nat) (y:AVal),rows[i]?=some r'→r'[j]?=some y→∃u,w.cell? ⟨c.blk,c.base+i*s+j,none⟩=some u∧y7 u=true∧RepI (V2 I β F H' w) w y u∧V2 I β F H' w c.blk (c.base+i*s+j):=by
    intro i r' j y hr' hy
    have hi:i<es.length:=by rw[←hrl];exact Vf hr'
    have hr:es[i]?=some es[i]:=p9 hi
    have hlr:=hrow i _ r' hr hr'
    have hj:=ui hy
    have hx:(es[i])[j]?=some ((es[i])[j]'(by omega)):=p9 (by omega)
    obtain⟨u,g1,g2,g3⟩:=hcell i _ j _ hr hx
    have hrin:=z3v hlens hr hx
    have hrep:=ih i _ r' j _ y hr hr' hx hy g3
    exact⟨u,g1,g2,jg y (himm r' (pD hr') y (pD hy)) hrep,frozen hF (by rw[hg];simp) hc hB0 _ (by omega) (by omega)⟩
   refine .imm _ _ (.iptr s rows c.blk c.base i0 off (fun i j=>(w.cell? ⟨c.blk,c.base+i*s+j,none⟩).getD undef) ?_ ?_ ?_ ?_ ?_)
   ·intro i r j x hi hj
    obtain⟨u,_,_,_,h4⟩:=key i r j x hi hj
    exact h4
   ·intro i r' hr'
    have hi:=Vf hr'
    have hr:es[i]?=some (es[i]'(by omega)):=p9 (by omega)
    rw[←hrow i _ r' hr hr'];exact hlens _ _ hr
   ·intro i r j x hi hj;obtain⟨u,h1,_⟩:=key i r j x hi hj;rw[h1];rfl
   ·intro i r j x hi hj;obtain⟨u,h1,h2,_⟩:=key i r j x hi hj;rw[h1];exact h2
   ·intro i r j x hi hj;obtain⟨u,h1,_,h3,_⟩:=key i r j x hi hj;rw[h1];exact h3
theorem z39(hI:Inv I β n' H' w)(hρ:RhoOk n0 n F H' ρ){c:CLoc}{s:Nat}{es es':List (List AVal)}(hl:es.length=es'.length)(hr:∀ (i:Nat) (r r':List AVal),es[i]?=some r→es'[i]?=some r'→r.length=r'.length∧∀ (j:Nat) (x y:AVal),r[j]?=some x→r'[j]?=some y→Vw F H' ρ n x y)
 (hB:RepB I β n' w c (.rows s es)):RepB (V2 I β F H' w) (Vr β F ρ n0 n L) n w c (.rows s es'):=by
 obtain⟨h1,h2,h3,h4,h5,h6,h7⟩:=hB
 refine⟨h1,h2.imp id (fun z=>⟨z.1,z.2.1,by have:=hl;rw[z.2.2] at this;exact List.eq_nil_of_length_eq_zero this.symm⟩),h3,h4,by rw[←hl];exact h5,fun i r' hr'=>?_,fun i r' j y hr' hy=>?_⟩
 ·have hi:i<es.length:=by rw[hl];exact Vf hr'
  have hri:es[i]?=some es[i]:=p9 hi
  rw[←(hr i _ r' hri hr').1];exact h6 i _ hri
 ·have hi:i<es.length:=by rw[hl];exact Vf hr'
  have hri:es[i]?=some es[i]:=p9 hi
  obtain⟨k1,k2⟩:=hr i _ r' hri hr'
  have hj:j<(es[i]).length:=by rw[k1];exact ui hy
  have hxj:(es[i])[j]?=some ((es[i])[j]):=p9 hj
  obtain⟨v,g1,g2,g3⟩:=h7 i _ j _ hri hxj
  exact⟨v,g1,g2,Xd hI hρ (k2 j _ y hxj hy) g3⟩
theorem z8n(hI:Inv I β n' H' w)(hρ:RhoOk n0 n F H' ρ){c:CLoc}{b b':ABlock}(h:BVw F H' ρ n b b')(hB:RepB I β n' w c b):RepB (V2 I β F H' w) (Vr β F ρ n0 n L) n w c b':=by
 cases h with
 |tok=>exact hB
 |buf e bs=>exact hB
 |lrec l r e e' he=>
  obtain⟨h1,h2,h3,h4,h5⟩:=hB
  exact⟨h1,h2,h3,h4,fun t=>Xd hI hρ (he t) (h5 t)⟩
 |rmap es arr ck he=>
  obtain⟨h1,h2,h3,h4⟩:=hB
  refine⟨h1,h2,h3,h4.len,fun i k x e hi hx=>?_,h4.born,h4.clk⟩
  obtain⟨g1,g2⟩:=h4.ent i k x e hi hx
  exact⟨g1.mono (fun _ _ h=>.inl h) (fun _ _ _=>rfl),ut (fun _ _ h=>.inl h) x (he _ (pD hi)) g2⟩
 |rmapA es arr ck he=>
  obtain⟨h1,h2,h3,h4⟩:=hB
  refine⟨h1,h2,arr,ck,h3,h4.len,fun i k x e hi hx=>?_,h4.born,h4.clk⟩
  obtain⟨g1,g2⟩:=h4.ent i k x e hi hx
  exact⟨g1.mono (fun _ _ h=>.inl h) (fun _ _ _=>rfl),ut (fun _ _ h=>.inl h) x (he _ (pD hi)) g2⟩
 |itr b b' arr ck seen hg=>
  obtain⟨h1,h2,h0,k,h3,h4,q,h5,h6⟩:=hB
  refine⟨h1,h2,h0,k,h3,hρ.dom _ _ hg,q,h5,fun d hd=>h6 d ?_⟩
  rcases jt hd with⟨k',e1,_,e3⟩|⟨e1,_⟩
  ·rw[hg] at e1;simp only[p0] at e1;subst e1;exact e3
  ·rw[hg] at e1;cases e1
 |mbox b b' hg=>
  obtain⟨h1,h2,h0,k,h3,h4,q,h5,h6⟩:=hB
  refine⟨h1,h2,h0,k,h3,hρ.dom _ _ hg,q,h5,fun d hd=>h6 d ?_⟩
  rcases jt hd with⟨k',e1,_,e3⟩|⟨e1,_⟩
  ·rw[hg] at e1;simp only[p0] at e1;subst e1;exact e3
  ·rw[hg] at e1;cases e1
 |bld T g g' hg=>
  obtain⟨h1,h2,h3,h4,p,v,h5,h6,h7⟩:=hB
  refine⟨h1,h2,h3,hρ.dom _ _ hg,p,v,h5,h6,fun d hd=>h7 d ?_⟩
  rcases jt hd with⟨k',e1,_,e3⟩|⟨e1,_⟩
  ·rw[hg] at e1;simp only[p0] at e1;subst e1;exact e3
  ·rw[hg] at e1;cases e1
 |mov p g b hx hp=>
  refine zbp (fun _ _ h=>.inl h) (fun id hid=>(hp id hid).1) (fun id c hid hc=>?_) hx hB
  rcases jt hc with⟨k',h1,_,h3⟩|⟨h1,_⟩
  ·rw[(hp id hid).2] at h1;simp only[p0] at h1;subst h1;exact h3
  ·rw[(hp id hid).2] at h1;cases h1
 |one r r' hl hr=>
  have:=z39 (L:=L) (es:=[r]) (es':=[r']) hI hρ rfl (fun i a a' h1 h2=>by
   cases i with
   |succ i=>simp at h1
   |zero=>simp only[pN,p0] at h1 h2;subst h1;subst h2;exact⟨hl,hr⟩) (qy.1 hB)
  rw[hl] at this
  exact qy.2 this
 |amap es he=>
  obtain⟨h1,h2,arr,ck,h3,h4⟩:=hB
  refine⟨h1,h2,arr,ck,h3,h4.len,fun i k x e hi hx=>?_,h4.born,h4.clk⟩
  obtain⟨g1,g2⟩:=h4.ent i k x e hi hx
  exact⟨g1.mono (fun _ _ h=>.inl h) (fun _ _ _=>rfl),ut (fun _ _ h=>.inl h) x (he _ (pD hi)) g2⟩
 |amapV es es' hl hv=>
  obtain⟨h1,h2,arr,ck,h3,h4⟩:=hB
  refine⟨h1,h2,arr,ck,h3,h4.len.trans hl,fun i k x e hi hx=>?_,h4.born,h4.clk⟩
  have hlt:i<es.length:=by rw[hl];exact(List.getElem?_eq_some_iff.1 hi).1
  obtain⟨rfl,g⟩:=hv i es[i].1 es[i].2 k x (by rw[p9 hlt]) hi
  obtain⟨g1,g2⟩:=h4.ent i es[i].1 es[i].2 e (by rw[p9 hlt]) hx
  exact⟨g1.mono (fun _ _ h=>.inl h) (fun _ _ _=>rfl),Xd hI hρ g g2⟩
 |rows s es es' hl hr=>exact z39 hI hρ hl hr hB
theorem z2t(hX:Ext I0 β0 n0 H0 w0 I β n' H' w)(hI:Inv I β n' H' w)(hρ:RhoOk n0 n F H' ρ)(hL:Kp F H' ρ n0 n L) :
 Ext I0 β0 n0 H0 w0 (V2 I β F H' w) (Vr β F ρ n0 n L) n L w∧Inv (V2 I β F H' w) (Vr β F ρ n0 n L) n L w:=by
 have own:∀id c b k,β id=some c→H'.get id≠none→c.has b k→b<w0.heap.size→∃i0 c0,β0 i0=some c0∧c0.has b k∧H0.get i0≠none:=by
  intro id c b k he hg hk hlt
  by_cases hid:id.1<n0
  ·rcases hX.old id hid with h|⟨h,_⟩
   ·exact⟨id,c,h▸he,hk,hX.dom id hid hg⟩
   ·rw[h] at he;cases he
  ·rcases hX.new id c b k (by omega) he hk with h|h
   ·omega
   ·exact h
 constructor
 ·refine⟨hX.os,hX.tape,hX.output,hX.size,hX.frame,hX.cells,hX.shape,hX.maps,fun b k h=>.inl (hX.imm b k h),?_,?_,?_,?_,hρ.le⟩
  ·rintro b k (h|⟨⟨id,c,h1,h2,h3,h4⟩,_⟩) hn hlt
   ·exact hX.immNew b k h hn hlt
   ·exact own id c b k h2 h3 h4 hlt
  ·intro id hid
   rcases hρ.low id hid with⟨h1,h2⟩|⟨h1,h2⟩
   ·rw[Wc h1 h2]
    exact hX.old id hid
   ·refine .inr ⟨?_,hX.dom id hid h2⟩
    unfold Vr
    rw[h1]
    simp only
    rw[if_neg (fun h=>by omega)]
  ·intro id c b k hid hc hk
   obtain⟨j,h1,h2,h3⟩:=w4 hc hk
   rcases hρ.high id j hid h1 with h4|h4
   ·exact hX.new j c b k h4 h3 hk
   ·by_cases hlt:b<w0.heap.size
    ·exact .inr (own j c b k h3 h4 hk hlt)
    ·exact .inl (by omega)
  ·intro id hid hg
   refine hX.dom id hid ?_
   cases hh:L.get id with
   |none=>exact absurd hh hg
   |some blk=>
    have:=hL id blk hh
    unfold Xh at this
    rcases hρ.low id hid with⟨h1,h2⟩|⟨h1,h2⟩
    ·rw[h1] at this
     simp only at this
     intro hn
     rw[hn] at this
     exact this
    ·exact h2
 ·refine⟨fun id blk hb=>?_,fun i j c d b k hi hj hc hd=>?_,fun i c b k hi hc=>?_,fun b k h=>?_,fun id hid=>?_,hI.glob.mono (fun _ _ h=>.inl h) (fun _ _ _=>rfl) (SameSz.refl _)⟩
  ·have:=hL id blk hb
   unfold Xh at this
   split at this
   ·rename_i j hj
    split at this<;>try (exact this.elim)
    rename_i b' hb'
    obtain⟨hF,hv⟩:=this
    obtain⟨c,hc,hB⟩:=hI.blocks j b' hb'
    exact⟨c,by rw[Wc hj hF];exact hc,z8n hI hρ hv hB⟩
   ·rename_i hj
    obtain⟨rfl,h1,h2⟩:=this
    refine⟨⟨0,0,0,0,0⟩,?_,fun k _ h=>absurd h (Nat.not_lt_zero k)⟩
    unfold Vr
    rw[hj]
    simp[hb,h1,h2]
  ·obtain⟨i',h1,_,h2⟩:=w4 hi hc
   obtain⟨j',h3,_,h4⟩:=w4 hj hd
   have:=hI.inj i' j' c d b k h2 h4 hc hd
   subst this
   exact hρ.inj i j i' h1 h3
  ·obtain⟨i',h1,h2,h3⟩:=w4 hi hc
   obtain⟨h4,h5⟩:=hI.own i' c b k h3 hc
   refine⟨?_,h5⟩
   rintro(h|⟨⟨id,d,g1,g2,g3,g4⟩,_⟩)
   ·exact h4 h
   ·have:=hI.inj id i' d c b k g2 h3 g4 hc
    subst this
    rw[g1] at h2;cases h2
  ·rcases h with h|⟨_,h⟩
   ·exact hI.imm b k h
   ·exact h
  ·cases hr:Vr β F ρ n0 n L id with
   |none=>rfl
   |some c=>
    rcases jt hr with⟨k,h1,_⟩|⟨_,_,_,_,h⟩
    ·have:=hρ.dom id k h1;omega
    ·omega
end
def zjk(n0 n:Nat)(e':Env)(H':AHeap)(e:Env)(L:AHeap):Prop:=∃F ρ,RhoOk n0 n F H' ρ∧EnvTo F H' ρ n e' e∧Kp F H' ρ n0 n L
theorem j5(p:Nat→Prop)(h:∃m,p m):∃m,p m∧∀k,k<m→¬p k:=by
 obtain⟨m,hm⟩:=h
 induction m using Nat.strongRecOn with
 |_ m ih=>
  by_cases hk:∃k,k<m∧p k
  ·obtain⟨k,h1,h2⟩:=hk
   exact ih k h1 h2
  ·exact⟨m,hm,fun k hlt hp=>hk ⟨k,hlt,hp⟩⟩
def zk7{ι:Type}(n0:Nat)(nL:ι→Nat)(env:ι→Env)(L:ι→AHeap)(pre:ι→Prop)(μ:ι→Nat)(x:ι)(Q:Exit→Env→AHeap→Nat→Prop):Exit→Env→AHeap→Nat→Prop
 |.normal,e',H',n'=>∃y,pre y∧μ y<μ x∧zjk n0 (nL y) e' H' (env y) (L y)
 |ex,e',H',n'=>Q ex e' H' n'
def qz:Nat→List AVal→Env
 |_,[]=>[]
 |k,x::r=>(k,x)::qz (k+1) r
theorem Zr:∀ (l:List AVal) (k t:Nat),(qz k l).get t=if k≤t then(l[t-k]?).getD .any else .any
 |[],k,t=>by simp[qz,Env.get]
 |x::l,k,t=>by
  unfold qz Env.get
  by_cases h:k=t
  ·subst h;simp
  ·rw[if_neg h,Zr l (k+1) t]
   by_cases h1:k+1≤t
   ·rw[if_pos h1,if_pos (by omega)]
    have:t-k=(t-(k+1))+1:=by omega
    rw[this,List.getElem?_cons_succ]
   ·rw[if_neg h1]
    by_cases h2:k≤t
    ·omega
    ·rw[if_neg h2]
def zf0(e:Env)(H:AHeap):LRes→XR
 |.t i=>.ok (e.get i).need (e.get i).strip
 |.cell i g n=>(Xn g n H (e.get i).strip).and (e.get i).need
def Km(e:Env)(H:AHeap):List LRes→(List AVal→Prop)→Prop
 |[],k=>k []
 |r::rs,k=>match zf0 e H r with
  |.ok side v=>side∧Km e H rs (fun l=>k (v::l))
  |.bad=>False
def z0v(l:List AVal):AVal:=match l with|[x]=>x|l=>.tup l
def z36(res:List LRes)(Q:AVal→AHeap→Nat→Prop):Exit→Env→AHeap→Nat→Prop
 |.normal,e,H,n=>Km e H res (fun l=>Q (z0v l) H n)
 |.ret,e,H,n=>Km e H res (fun l=>Q (z0v l) H n)
 |_,_,_,_=>False
def zb9:List Value→Value
 |[x]=>x
 |l=>.tuple l.toArray
theorem and_ok{p side:Prop}{r:XR}{v:AVal}(h:r.and p=.ok side v)(hs:side):∃s0,r=.ok s0 v∧s0∧p:=by
 cases r with
 |bad=>cases h
 |ok s0 u=>
  simp only[XR.and,XR.ok.injEq] at h
  obtain⟨rfl,rfl⟩:=h
  exact⟨s0,rfl,hs.2,hs.1⟩
def z4y(tmps:Array Value):ResultVar→Sem Value
 |.tmp t=>pure (tmps.getD t undef)
 |.cell a t=>do loadVar t (←asAddr (tmps.getD a undef))
theorem z4d(fn:Func)(tmps:Array Value):results fn tmps=(do let vs ←fn.results.mapM (z4y tmps);pure (if h:vs.size=1 then vs[0] else .tuple vs)):=by
 rfl
theorem Ks{I:Nat→Nat→Prop}{β:Id→Option CLoc}{n:Nat}{H:AHeap}{w:World}{e:Env}{tmps:Array Value}(hI:Inv I β n H w)(hE:∀t,Rep I β n w (e.get t) (tmps.getD t undef)):∀ (rs:List ResultVar) (ls:List LRes),Wm P rs=some ls→∀ {k:List AVal→Prop},Km e H ls k →
 ∃ (vs:List Value) (xs:List AVal),(rs.mapM (z4y tmps)).run P w=.ok vs w∧k xs∧vs.length=xs.length∧∀ (i:Nat) (x:AVal) (v:Value),xs[i]?=some x→vs[i]?=some v→Rep I β n w x v
 |[],ls,h,k,hk=>by
  simp only[Wm,p0] at h
  subst h
  exact⟨[],[],rfl,hk,rfl,fun i x v h _=>by simp at h⟩
 |.tmp t::rs,ls,h,k,hk=>by
  simp only[Wm,pQ] at h
  obtain⟨l,hl,rfl⟩:=h
  simp only[Km,zf0] at hk
  obtain⟨hn,hk⟩:=hk
  obtain⟨vs,xs,h1,h2,h3,h4⟩:=Ks hI hE rs l hl hk
  refine⟨tmps.getD t undef::vs,(e.get t).strip::xs,?_,h2,by simp[h3],fun i x v hx hv=>?_⟩
  ·rw[List.mapM_cons]
   simp only[z4y,pure_bind,Sem.run_bind,h1,Result.andThen_ok,Sem.run_pure]
  ·cases i with
   |zero=>simp only[pN,p0] at hx hv;subst hx;subst hv;exact(hE t).strip hn
   |succ i=>exact h4 i x v (by simpa using hx) (by simpa using hv)
 |.cell a t::rs,ls,h,k,hk=>by
  simp only[Wm] at h
  split at h<;>try (cases h;done)
  rename_i g m l hg hm hl
  split at h<;>try (cases h;done)
  rename_i hgm
  simp only[p0] at h
  subst h
  simp only[Km,zf0] at hk
  split at hk<;>try (exact hk.elim)
  rename_i side u hx
  obtain⟨hs,hk⟩:=hk
  obtain⟨s0,hx0,hs0,hneed⟩:=and_ok hx hs
  obtain⟨vs,xs,h1,h2,h3,h4⟩:=Ks hI hE rs l hl hk
  have hr:=(hE a).strip hneed
  obtain⟨r,hr1,hr2⟩:=W1 (P:=P) hg hm (by simpa[Bool.or_eq_true] using hgm) hI hr hx0 hs0
  have hrun:(z4y tmps (.cell a t)).run P w=.ok r w:=by
   have:∃ad,tmps.getD a undef=.pointer (some ad):=by
    cases hst:(e.get a).strip<;>rw[hst] at hx0 hr<;>simp only[Xn] at hx0<;>try (cases hx0;done)
    ·obtain⟨b,o,h⟩:=hr.iptr_inv;exact⟨_,h⟩
    ·obtain⟨ad,h⟩:=hr.ptr_inv;exact⟨_,h⟩
   obtain⟨ad,had⟩:=this
   rw[had] at hr1
   simpa[z4y,had,Instr.loadAt,Instr.sureAddr,asAddr] using hr1
  refine⟨r::vs,u::xs,?_,h2,by simp[h3],fun i x v hx hv=>?_⟩
  ·rw[List.mapM_cons]
   rw[Sem.run_bind,hrun]
   simp only[Result.andThen_ok,Sem.run_bind,h1,Sem.run_pure]
  ·cases i with
   |zero=>simp only[pN,p0] at hx hv;subst hx;subst hv;exact hr2
   |succ i=>exact h4 i x v (by simpa using hx) (by simpa using hv)
theorem z28{fn:Func}{tmps:Array Value}{w:World}{vs:List Value}(h:(fn.results.toList.mapM (z4y tmps)).run P w=.ok vs w) :
 (results fn tmps).run P w=.ok (zb9 vs) w:=by
 rw[z4d,Array.mapM_eq_mapM_toList]
 simp only[map_eq_pure_bind,bind_assoc,pure_bind]
 simp only[Sem.run_bind,h,Result.andThen_ok,Sem.run_pure]
 cases vs with
 |nil=>rfl
 |cons v l=>
  cases l with
  |nil=>rfl
  |cons v2 l=>simp[zb9]
theorem ACalls.ofFnW{f:FuncId}{bm:List Nat}{L:LFn}(hL:wu P bm f=some L)(hok:Xv P f){args:List AVal}(hlen:args.length≤L.lay.n){H:AHeap}{n:Nat}{Q:AVal→AHeap→Nat→Prop}
 (h:LWp P L.lay n L.body (z36 L.res Q) (qz 0 args) H n):ACalls P f args H n Q:=by
 refine⟨hok,fun I β w vs hI hl hr=>?_⟩
 unfold wu at hL
 split at hL<;>try (cases hL;done)
 rename_i fn hfn
 split at hL<;>try (cases hL;done)
 rename_i c hc
 split at hL<;>try (cases hL;done)
 rename_i lc lr hlc hlr
 simp only[p0] at hL
 subst hL
 simp only at h hlen
 refine(z1p (ro:=none) (m:=0)).1 (callsIn_of_wp_marks hfn hc trivial ?_)
 refine h c hlc none (fun _=>rfl) I β H w I β w _ (Ext.refl _ _ _ _ _ hI.fresh) hI ?_ (by simp[hl];omega) (Dfr.nil _ _ _) _ ?_
 ·intro t
  rw[Zr,if_pos (Nat.zero_le t),Nat.sub_zero]
  cases hx:args[t]? with
  |none=>exact .any _
  |some x=>
   have hlt:t<vs.length:=by
    rcases q5 t vs.length with h|h
    ·exact h
    ·rw[pT (by omega)] at hx;cases hx
   have:(vs.toArray++Array.replicate (fn.ntmps-vs.toArray.size) undef).getD t undef=vs[t]:=by
    simp[Array.getD_eq_getD_getElem?,Array.getElem?_append,hlt]
   rw[this]
   exact hr t x vs[t] hx (p9 hlt)
 ·intro ex e' H' n' I' β' w' a' g1 g2 g3 g4 g5 g6
  have fin:Km e' H' lr (fun l=>Q (z0v l) H' n')→LeavesInM (Xu none) 0 P fn a'.tmps (fun e w'=>∃r v H' n' I' β',e=.returned v∧Q r H' n'∧Inv I' β' n' H' w'∧Rep I' β' n' w' r v∧Ext I β n H w I' β' n' H' w') a'.defers .returning w':=by
   intro hk
   generalize a'.defers=ds at g5
   induction ds generalizing w' with
   |nil=>
    obtain⟨us,xs,q1,q2,q3,q4⟩:=Ks (P:=P) g2 g3 _ _ hlr hk
    refine⟨_,z28 q1,_,_,_,_,_,_,rfl,q2,g2,?_,g6⟩
    cases xs with
    |nil=>
     have:us=[]:=List.length_eq_zero_iff.1 q3
     subst this
     exact .tup [] #[] rfl (by simp)
    |cons x l=>
     cases us with
     |nil=>simp at q3
     |cons u us=>
      cases l with
      |nil=>
       have:us=[]:=List.length_eq_zero_iff.1 (by simpa using q3)
       subst this
       exact q4 0 x u rfl rfl
      |cons x2 l=>
       cases us with
       |nil=>simp at q3
       |cons u2 us=>exact .tup (x::x2::l) _ (by simpa[zb9] using q3) (fun i x v hx hv=>q4 i x v hx (by simpa[zb9] using hv))
   |cons d ds ih=>
    obtain⟨hnd,hall⟩:=g5
    rcases hall d (by simp) with hid|⟨r,h1,h2,h3⟩
    ·obtain⟨fv,cap,f,args,i1,i2,i3⟩:=hid w'
     refine⟨nofun,.inr ⟨fun h=>(by cases h),fv,cap,f,args,i1,i2,fun _ _=>trivial,i3.mono ?_⟩⟩
     rintro e1 u' w1 ⟨⟨v,rfl⟩,rfl,rfl⟩
     exact ih _ g2 g3 g6 ⟨(List.pairwise_cons.1 hnd).2,fun d' hd'=>hall d' (by simp[hd'])⟩
    subst h1
    obtain⟨m1,m2,m3⟩:=z9v (.deferred none) g2 h3
    refine⟨nofun,.inl ⟨r,_,rfl,run_takeDeferred h3,ih _ m1 (fun t=>m2 _ _ (g3 t)) (m3 _ _ _ _ _ h2 g6) ⟨(List.pairwise_cons.1 hnd).2,fun d' hd'=>?_⟩⟩⟩
    rcases hall d' (by simp[hd']) with hid|⟨r',k1,k2,k3⟩
    ·exact .inl hid
    refine .inr ⟨r',k1,k2,?_⟩
    have hne:r'≠r:=by
     rintro rfl
     subst k1
     rcases(List.pairwise_cons.1 hnd).1 _ hd' with hh|hh
     ·exact hh rfl
     ·obtain⟨_,_,_,_,h,_⟩:=hh w';cases h
    rw[World.putObj_heap_other hne];exact k3
  cases ex with
  |normal=>exact fin g1
  |ret=>exact fin g1
  |_=>exact g1.elim
def zak(n0 n:Nat)(R:AVal)(L:AHeap):AVal→AHeap→Nat→Prop:=fun r H' _=>∃F ρ,RhoOk n0 n F H' ρ∧Vw F H' ρ n r R∧Kp F H' ρ n0 n L
def Xp(n:Nat)(R:AVal)(L:AHeap):AVal→AHeap→Nat→Prop:=fun r H' n'=>r=R∧H'=L∧n'=n
theorem ACalls.fin{f:Fn}{args:List AVal}{H L:AHeap}{n0 n:Nat}{R:AVal}(h:ACalls P f args H n0 (zak n0 n R L)):ACalls P f args H n0 (Xp n R L):=by
 refine⟨h.1,fun I β w vs hI hl hr=>(h.2 I β w vs hI hl hr).mono ?_⟩
 rintro ee w' ⟨r,v,H',n',I',β',he,⟨F,ρ,hρ,hv,hL⟩,hI',hr',hx⟩
 obtain⟨k1,k2⟩:=z2t hx hI' hρ hL
 exact⟨R,v,L,n,_,_,he,⟨rfl,rfl,rfl⟩,k2,Xd hI' hρ hv hr',k1⟩
end Go.Fx
namespace Go.Fx
variable {P:Program}
theorem Jz{I:Nat→Nat→Prop}{β β2:Id→Option CLoc}{n n2:Nat}{w:World}{g:Id→Id}(hn:∀id:Id,id.1<n→(g id).1<n2)(hβ:∀ (id:Id) c,id.1<n→β2 (g id)=some c→β id=some c){x:AVal}{v:Value}(h:Rep I β n w x v):Rep I β2 n2 w (x.ren g) v:=by
 induction h with
 |any v=>exact .any v
 |imm x v h=>
  -- immutable values have no names in them
  have key:∀ {x:AVal} {v:Value},RepI I w x v→Rep I β2 n2 w (x.ren g) v:=by
   intro x v h
   induction h with
   |bool b=>exact .imm _ _ (.bool b)
   |int k m=>exact .imm _ _ (.int k m)
   |str l=>exact .imm _ _ (.str l)
   |val v h=>exact .imm _ _ (.val v h)
   |agg cs vs h1 h2 _ ih=>
    refine .agg _ vs (by rw[qv,pH];exact h1) h2 fun i y v hy hv=>?_
    rw[qv,pF] at hy
    cases hc:cs[i]? with
    |none=>rw[hc] at hy;cases hy
    |some x=>rw[hc] at hy;simp only[pG,p0] at hy;subst hy;exact ih i x v hc hv
   |tup cs vs h1 _ ih=>
    refine .tup _ vs (by rw[qv,pH];exact h1) fun i y v hy hv=>?_
    rw[qv,pF] at hy
    cases hc:cs[i]? with
    |none=>rw[hc] at hy;cases hy
    |some x=>rw[hc] at hy;simp only[pG,p0] at hy;subst hy;exact ih i x v hc hv
   |islNil s f=>exact .imm _ _ (.islNil s f)
   |islEmpty s f a cap h=>exact .imm _ _ (.islEmpty s f a cap h)
   |isl s es f b o cap vf h1 h2 h3 h4 h5 h6 h7 _=>exact .imm _ _ (.isl s es f b o cap vf h1 h2 h3 h4 h5 h6 h7)
   |iptr s es b o i0 off vf h1 h4 h5 h6 h7 _=>exact .imm _ _ (.iptr s es b o i0 off vf h1 h4 h5 h6 h7)
   |fn f a c fs cs h1 h2 _ _ ih1 ih2=>
    refine .fn f _ _ fs cs (by rw[qv,pH];exact h1) (by rw[qv,pH];exact h2) (fun i y v hy hv=>?_) (fun i y v hy hv=>?_)
    ·rw[qv,pF] at hy
     cases hc:a[i]? with
     |none=>rw[hc] at hy;cases hy
     |some x=>rw[hc] at hy;simp only[pG,p0] at hy;subst hy;exact ih1 i x v hc hv
    ·rw[qv,pF] at hy
     cases hc:c[i]? with
     |none=>rw[hc] at hy;cases hy
     |some x=>rw[hc] at hy;simp only[pG,p0] at hy;subst hy;exact ih2 i x v hc hv
   |ifc t x v _ ih=>exact .ifc t _ v ih
  exact key h
 |agg cs vs h1 h2 _ ih=>
  refine .agg _ vs (by rw[qv,pH];exact h1) h2 fun i y v hy hv=>?_
  rw[qv,pF] at hy
  cases hc:cs[i]? with
  |none=>rw[hc] at hy;cases hy
  |some x=>rw[hc] at hy;simp only[pG,p0] at hy;subst hy;exact ih i x v hc hv
 |tup cs vs h1 _ ih=>
  refine .tup _ vs (by rw[qv,pH];exact h1) fun i y v hy hv=>?_
  rw[qv,pF] at hy
  cases hc:cs[i]? with
  |none=>rw[hc] at hy;cases hy
  |some x=>rw[hc] at hy;simp only[pG,p0] at hy;subst hy;exact ih i x v hc hv
 |fn f a c fs cs h1 h2 _ _ ih1 ih2=>
  refine .fn f _ _ fs cs (by rw[qv,pH];exact h1) (by rw[qv,pH];exact h2) (fun i y v hy hv=>?_) (fun i y v hy hv=>?_)
  ·rw[qv,pF] at hy
   cases hc:a[i]? with
   |none=>rw[hc] at hy;cases hy
   |some x=>rw[hc] at hy;simp only[pG,p0] at hy;subst hy;exact ih1 i x v hc hv
  ·rw[qv,pF] at hy
   cases hc:c[i]? with
   |none=>rw[hc] at hy;cases hy
   |some x=>rw[hc] at hy;simp only[pG,p0] at hy;subst hy;exact ih2 i x v hc hv
 |ifc t x v _ ih=>exact .ifc t _ v ih
 |osl tok s es v h1 h2 h3=>exact .osl _ _ _ _ (hn _ h1) h2 (fun c hc=>h3 c (hβ _ c h1 hc))
 |ptr b i off a h1 h2=>exact .ptr _ _ _ _ (hn _ h1) (fun c hc=>h2 c (hβ _ c h1 hc))
 |msl b s off len f a cap h0 h1 h2 h3=>exact .msl _ _ _ _ _ _ _ (hn _ h0) h1 h2 (fun c hc=>h3 c (hβ _ c h0 hc))
 |map b r h1 h2=>exact .map _ _ (hn _ h1) (fun c hc=>h2 c (hβ _ c h1 hc))
 |optp b r h1 h2=>exact .optp _ _ (hn _ h1) (fun c hc=>h2 c (hβ _ c h1 hc))
 |cnd p x v _ h ih=>exact .cnd p _ v ih h
theorem z45{I:Nat→Nat→Prop}{β β2:Id→Option CLoc}{n n2:Nat}{w:World}{g:Id→Id}(hn:∀id:Id,id.1<n→(g id).1<n2)(hβ:∀ (id:Id) c,id.1<n→β2 (g id)=some c→β id=some c){c:CLoc}{s:Nat}{es:List (List AVal)}(h:RepB I β n w c (.rows s es)):RepB I β2 n2 w c (.rows s (jk g es)):=by
 obtain⟨h1,h2,h3,h4,h5,h6,h7⟩:=h
 have get:∀ (i:Nat) (r:List AVal),(jk g es)[i]?=some r→∃r0,es[i]?=some r0∧r=r0.map (AVal.ren g):=by
  intro i r hr
  unfold jk at hr
  rw[pF] at hr
  cases he:es[i]? with
  |none=>rw[he] at hr;cases hr
  |some r0=>rw[he] at hr;simp only[pG,p0] at hr;exact⟨r0,rfl,by rw[←hr,qv]⟩
 refine⟨h1,h2.imp id (fun z=>⟨z.1,z.2.1,by rw[z.2.2];rfl⟩),h3,h4,by unfold jk;rw[pH];exact h5,fun i r hr=>?_,fun i r j x hr hx=>?_⟩
 ·obtain⟨r0,hr0,rfl⟩:=get i r hr
  rw[pH];exact h6 i r0 hr0
 ·obtain⟨r0,hr0,rfl⟩:=get i r hr
  rw[pF] at hx
  cases hj:r0[j]? with
  |none=>rw[hj] at hx;cases hx
  |some x0=>
   rw[hj] at hx
   simp only[pG,p0] at hx
   subst hx
   obtain⟨v,g1,g2,g3⟩:=h7 i r0 j x0 hr0 hj
   exact⟨v,g1,g2,Jz hn hβ g3⟩
theorem zba{I:Nat→Nat→Prop}{β β2:Id→Option CLoc}{n n2:Nat}{w:World}{g:Id→Id}(hn:∀id:Id,id.1<n→(g id).1<n2)(hβ:∀ (id:Id) c,id.1<n→β2 (g id)=some c→β id=some c){c:CLoc}{b:ABlock}(h:RepB I β n w c b):RepB I β2 n2 w c (b.ren g):=by
 cases b with
 |tok=>exact h
 |amap es=>
  obtain⟨h1,h2,arr,ck,h3,h4⟩:=h
  refine⟨h1,h2,arr,ck,h3,by rw[h4.len,pH],fun i k x e hi he=>?_,h4.born,h4.clk⟩
  rw[pF] at hi
  cases hx:es[i]? with
  |none=>rw[hx] at hi;cases hi
  |some y=>
   rw[hx] at hi
   simp only[pG,p0,pL] at hi
   obtain⟨rfl,rfl⟩:=hi
   obtain⟨g1,g2⟩:=h4.ent i y.1 y.2 e hx he
   exact⟨Yx g1,Jz hn hβ g2⟩
 |one cs=>
  have:=z45 hn hβ (qy.1 h)
  have hl:(AVal.ren.renL g cs).length=cs.length:=by rw[qv,pH]
  rw[←hl] at this
  exact qy.2 this
 |rows s es=>exact z45 hn hβ h
 |bld T g=>
  obtain⟨h1,h2,h3,h4,p,v,h5,h6,h7⟩:=h
  exact⟨h1,h2,h3,hn _ h4,p,v,h5,h6,fun d hd=>h7 d (hβ _ d h4 hd)⟩
 |buf e bs=>exact h
 |lrec l r e=>
  obtain⟨h1,h2,h3,h4,h5⟩:=h
  exact⟨h1,h2,h3,h4,fun t=>by rw[Kc];exact Jz hn hβ (h5 t)⟩
 |rmap es arr ck=>
  obtain⟨h1,h2,h3,h4⟩:=h
  refine⟨h1,h2,h3,by rw[h4.len,pH],fun i k x e hi he=>?_,h4.born,h4.clk⟩
  rw[pF] at hi
  cases hx:es[i]? with
  |none=>rw[hx] at hi;cases hi
  |some y=>
   rw[hx] at hi
   simp only[pG,p0,pL] at hi
   obtain⟨rfl,rfl⟩:=hi
   obtain⟨g1,g2⟩:=h4.ent i y.1 y.2 e hx he
   exact⟨Yx g1,Jz hn hβ g2⟩
 |itr m arr ck seen=>
  obtain⟨h1,h2,h0,k,h3,h4⟩:=h
  exact⟨h1,h2,h0,k,h3,h4.mono (fun id h _=>hn id h) (fun id c h _ hc=>hβ id c h hc)⟩
 |mbox b=>
  obtain⟨h1,h2,h0,k,h3,h4⟩:=h
  exact⟨h1,h2,h0,k,h3,h4.mono (g:=g) (fun id h _=>hn id h) (fun id c h _ hc=>hβ id c h hc)⟩
def ArgsTo(F:Id→Bool)(H:AHeap)(ρ:Id→Option Id)(n:Nat):List AVal→List AVal→Prop
 |[],[]=>True
 |x::xs,y::ys=>Vw F H ρ n x y∧ArgsTo F H ρ n xs ys
 |_,_=>False
theorem ArgsTo.get{F:Id→Bool}{H:AHeap}{ρ:Id→Option Id}{n:Nat}:∀ {xs ys:List AVal},ArgsTo F H ρ n xs ys→xs.length=ys.length∧∀ (i:Nat) (x y:AVal),xs[i]?=some x→ys[i]?=some y→Vw F H ρ n x y
 |[],[],_=>⟨rfl,fun i x y h _=>by simp at h⟩
 |[],_::_,h=>h.elim
 |_::_,[],h=>h.elim
 |x::xs,y::ys,h=>by
  obtain⟨h1,h2⟩:=ArgsTo.get h.2
  refine⟨by simp[h1],fun i a b ha hb=>?_⟩
  cases i with
  |zero=>simp only[pN,p0] at ha hb;subst ha;subst hb;exact h.1
  |succ i=>exact h2 i a b (by simpa using ha) (by simpa using hb)
def AHeap.without(p:Id→Bool):AHeap→AHeap
 |[]=>[]
 |(k,b)::r=>if p k then AHeap.without p r else(k,b)::AHeap.without p r
theorem AHeap.get_without(p:Id→Bool):∀ (H:AHeap) (t:Id),(AHeap.without p H).get t=if p t then none else H.get t
 |[],t=>by simp[AHeap.without,AHeap.get]
 |(k,b)::r,t=>by
  unfold AHeap.without
  by_cases hk:p k=true
  ·rw[if_pos hk,AHeap.get_without p r t]
   by_cases ht:p t=true
   ·rw[if_pos ht,if_pos ht]
   ·rw[if_neg ht,if_neg ht]
    have:k≠t:=fun h=>by subst h;exact ht hk
    rw[AHeap.get_cons_other _ _ this]
  ·rw[if_neg hk]
   by_cases hkt:k=t
   ·subst hkt;rw[AHeap.get_cons_same,AHeap.get_cons_same,if_neg hk]
   ·rw[AHeap.get_cons_other _ _ hkt,AHeap.get_cons_other _ _ hkt];exact AHeap.get_without p r t
theorem AHeap.get_append(L H:AHeap)(t:Id):AHeap.get (L++H) t=(L.get t).or (H.get t):=by
 induction L with
 |nil=>rfl
 |cons x L ih=>
  obtain⟨k,b⟩:=x
  by_cases h:k=t
  ·subst h;simp[AHeap.get]
  ·simp only[List.cons_append,AHeap.get,if_neg h];exact ih
def AHeap.renamed(g:Id→Id)(H:AHeap):AHeap:=H.map fun x=>(g x.1,x.2.ren g)
theorem AHeap.get_renamed{g:Id→Id}:∀ {H:AHeap} {t:Id} {b:ABlock},(AHeap.renamed g H).get t=some b→∃i b0,(i,b0)∈H∧g i=t∧b=b0.ren g
 |[],t,b,h=>by simp[AHeap.renamed,AHeap.get] at h
 |(k,b0)::r,t,b,h=>by
  simp only[AHeap.renamed,pS] at h
  by_cases hk:g k=t
  ·subst hk
   rw[AHeap.get_cons_same] at h
   simp only[p0] at h
   exact⟨k,b0,List.mem_cons_self ..,rfl,h.symm⟩
  ·rw[AHeap.get_cons_other _ _ hk] at h
   obtain⟨i,b1,h1,h2,h3⟩:=AHeap.get_renamed h
   exact⟨i,b1,List.mem_cons_of_mem _ h1,h2,h3⟩
def Q4(ρ:Id→Option Id)(k n m:Nat)(id:Id):Id:=if id.1<k then(ρ id).getD (n+m,0) else(n+(id.1-k),id.2)
theorem ACalls.frame{f:Fn}{args args0:List AVal}{H H0 L:AHeap}{n k m:Nat}{R:AVal}{F:Id→Bool}{ρ:Id→Option Id}{K:AVal→AHeap→Nat→Prop}(h:ACalls P f args0 H0 k (Xp (k+m) R L))
 (hinj:∀i j x,ρ i=some x→ρ j=some x→i=j) (hdom:∀i x,ρ i=some x→i.1<k∧x.1<n∧F x=false) (hF:∀x,F x=true→H.get x≠none)
 (ha:ArgsTo F H ρ k args args0) (hH:∀i b,H0.get i=some b→∃x b',ρ i=some x∧H.get x=some b'∧BVw F H ρ k b' b)
 (p:Id→Bool) (hp:∀x,p x=true↔F x=true∨∃i,ρ i=some x) (hnd:(L.map (·.1)).Nodup)
 (hk:K (R.ren (Q4 ρ k n m)) (AHeap.renamed (Q4 ρ k n m) L++AHeap.without p H) (n+m+1)):ACalls P f args H n K:=by
 refine⟨h.1,fun I β w vs hI hl hr=>?_⟩
 have hρ:RhoOk 0 k F H ρ:=⟨hinj,fun i x hx=>(hdom i x hx).1,fun i hi=>absurd hi (Nat.not_lt_zero _),fun _ _ _ _=>.inl (Nat.zero_le _),Nat.zero_le _⟩
 have hmem:∀ {L:AHeap} {i:Id} {b:ABlock},(L.map (·.1)).Nodup→(i,b)∈L→L.get i=some b:=by
  intro L i b hn hm
  induction L with
  |nil=>cases hm
  |cons y r ih=>
   obtain⟨j,c⟩:=y
   simp only[pS,List.nodup_cons] at hn
   rcases pP.1 hm with h|h
   ·simp only[pL] at h;obtain⟨rfl,rfl⟩:=h;exact AHeap.get_cons_same _ _ _
   ·have:j≠i:=fun hji=>by subst hji;exact hn.1 (pK.2 ⟨_,h,rfl⟩)
    rw[AHeap.get_cons_other _ _ this];exact ih hn.2 h
 -- the callee's view
 have hto:∀ {i:Id} {b:ABlock},H0.get i=some b→Xh F H ρ 0 k i b:=by
  intro i b hb
  obtain⟨x,b',h1,h2,h3⟩:=hH i b hb
  unfold Xh
  rw[h1]
  simp only[h2]
  exact⟨(hdom i x h1).2.2,h3⟩
 have hI0:Inv (V2 I β F H w) (Vr β F ρ 0 k H0) k H0 w:=by
  refine⟨fun id blk hb=>?_,fun i j c d b q hi hj hc hd=>?_,fun i c b q hi hc=>?_,fun b q h=>?_,fun id hid=>?_,hI.glob.mono (fun _ _ h=>.inl h) (fun _ _ _=>rfl) (SameSz.refl _)⟩
  ·obtain⟨x,b',h1,h2,h3⟩:=hH id blk hb
   obtain⟨c,hc,hB⟩:=hI.blocks x b' h2
   exact⟨c,by rw[Wc h1 (hdom id x h1).2.2];exact hc,z8n hI hρ h3 hB⟩
  ·obtain⟨i',h1,_,h2⟩:=w4 hi hc
   obtain⟨j',h3,_,h4⟩:=w4 hj hd
   have:=hI.inj i' j' c d b q h2 h4 hc hd
   subst this
   exact hinj i j i' h1 h3
  ·obtain⟨i',h1,h2,h3⟩:=w4 hi hc
   obtain⟨h4,h5⟩:=hI.own i' c b q h3 hc
   refine⟨?_,h5⟩
   rintro(h|⟨⟨id,d,g1,g2,g3,g4⟩,_⟩)
   ·exact h4 h
   ·have:=hI.inj id i' d c b q g2 h3 g4 hc
    subst this
    rw[g1] at h2;cases h2
  ·rcases h with h|⟨_,h⟩
   ·exact hI.imm b q h
   ·exact h
  ·cases hr:Vr β F ρ 0 k H0 id with
   |none=>rfl
   |some c=>
    rcases jt hr with⟨x,h1,_⟩|⟨_,_,_,_,h⟩
    ·have:=(hdom id x h1).1;omega
    ·omega
 obtain⟨ha1,ha2⟩:=ha.get
 refine(h.2 _ _ w vs hI0 (by rw[hl,ha1]) (fun i y v hy hv=>?_)).mono ?_
 ·have hlt:i<args.length:=by rw[ha1];exact ui hy
  exact Xd hI hρ (ha2 i args[i] y (p9 hlt) hy) (hr i _ v (p9 hlt) hv)
 ·rintro ee w' ⟨r,v,H1,n1,I',β',he,⟨rfl,rfl,rfl⟩,hI',hr',hx⟩
  -- an alive block of the callee is one of the caller
  have alive:∀ {i:Id} {c:CLoc} {b q:Nat},Vr β F ρ 0 k H0 i=some c→H0.get i≠none→c.has b q→∃x,ρ i=some x∧β x=some c∧H.get x≠none:=by
   intro i c b q hi hg hc
   obtain⟨x,h1,_,h2⟩:=w4 hi hc
   refine⟨x,h1,h2,?_⟩
   cases hb:H0.get i with
   |none=>exact absurd hb hg
   |some b0=>
    obtain⟨x',b',h3,h4,_⟩:=hH i b0 hb
    rw[h1] at h3
    simp only[p0] at h3
    subst h3
    rw[h4];simp
  let β3:Id→Option CLoc:=fun j=>by
   classical
   exact if j.1<n then(if hj:∃i,ρ i=some j then β' (pR hj) else if F j=true then none else β j) else if j.1<n+m then β' (k+(j.1-n),j.2) else none
  have b3at:∀ {i x:Id},ρ i=some x→β3 x=β' i:=by
   intro i x hix
   have hex:∃i,ρ i=some x:=⟨i,hix⟩
   have:pR hex=i:=hinj _ _ x (pM hex) hix
   simp only[β3,if_pos (hdom i x hix).2.1,dif_pos hex,this]
  have b3old:∀ {j:Id},j.1<n→(¬∃i,ρ i=some j)→F j=false→β3 j=β j:=by
   intro j hj hno hFj
   simp only[β3,if_pos hj,dif_neg hno,hFj,pW,if_false]
  have b3cases:∀ {j:Id} {c:CLoc},β3 j=some c→(∃i,ρ i=some j∧β' i=some c)∨(j.1<n∧(¬∃i,ρ i=some j)∧F j=false∧β j=some c)∨(n≤j.1∧j.1<n+m∧β' (k+(j.1-n),j.2)=some c):=by
   intro j c hj
   simp only[β3] at hj
   split at hj
   ·rename_i hlt
    split at hj
    ·rename_i hex;exact .inl ⟨_,pM hex,hj⟩
    ·rename_i hno
     split at hj
     ·cases hj
     ·rename_i hFj;exact .inr (.inl ⟨hlt,hno,by simpa using hFj,hj⟩)
   ·rename_i hge
    split at hj
    ·rename_i hlt;exact .inr (.inr ⟨by omega,hlt,hj⟩)
    ·cases hj
  have hk0:∀ {i:Id} {c:CLoc},i.1<k→β' i=some c→Vr β F ρ 0 k H0 i=some c:=fun hi hc=>hx.back _ _ hi hc
  have upn:∀id:Id,id.1<k+m→(Q4 ρ k n m id).1<n+m+1:=by
   intro id hid
   unfold Q4
   split
   ·cases hρi:ρ id with
    |none=>simp
    |some x=>have:=(hdom id x hρi).2.1;simp;omega
   ·simp;omega
  have upβ:∀ (id:Id) c,id.1<k+m→β3 (Q4 ρ k n m id)=some c→β' id=some c:=by
   intro id c hid hc
   unfold Q4 at hc
   split at hc
   ·rename_i hlt
    cases hρi:ρ id with
    |none=>
     rw[hρi] at hc
     simp only[Option.getD_none] at hc
     rcases b3cases hc with⟨i,h1,_⟩|⟨h1,_⟩|⟨_,h1,_⟩
     ·have:=(hdom i _ h1).2.1;simp only at this;omega
     ·simp only at h1;omega
     ·simp only at h1;omega
    |some x=>
     rw[hρi] at hc
     simp only[Option.getD_some] at hc
     rw[b3at hρi] at hc;exact hc
   ·rename_i hge
    rcases b3cases hc with⟨i,h1,_⟩|⟨h1,_⟩|⟨_,_,h1⟩
    ·have:=(hdom i _ h1).2.1;simp only at this;omega
    ·simp only at h1;omega
    ·simp only[Nat.add_sub_cancel_left] at h1
     rw[show k+(id.1-k)=id.1 by omega] at h1
     exact h1
  have hcI:∀b q,I b q→w'.cell? ⟨b,q,none⟩=w.cell? ⟨b,q,none⟩:=fun b q hb=>hx.heapI hI0 b q (.inl hb)
  have himm:∀b q,I b q→I' b q:=fun b q hb=>hx.imm b q (.inl hb)
  have hsz:w.heap.size≤w'.heap.size:=hx.size
  have hupAt:∀i b,H1.get i=some b→i.1<k+m∧((i.1<k∧∃x,ρ i=some x∧Q4 ρ k n m i=x∧H.get x≠none)∨(k≤i.1∧Q4 ρ k n m i=(n+(i.1-k),i.2))):=by
   intro i b hb
   have hlt:i.1<k+m:=by
    obtain⟨c,hc,_⟩:=hI'.blocks i b hb
    exact wa hI' hc
   refine⟨hlt,?_⟩
   by_cases hi:i.1<k
   ·left
    refine⟨hi,?_⟩
    have hg:=hx.dom i hi (by rw[hb];simp)
    cases hb0:H0.get i with
    |none=>exact absurd hb0 hg
    |some b0=>
     obtain⟨x,b',h3,h4,_⟩:=hH i b0 hb0
     exact⟨x,h3,by unfold Q4;rw[if_pos hi,h3];rfl,by rw[h4];simp⟩
   ·right
    exact⟨by omega,by unfold Q4;rw[if_neg hi]⟩
  refine⟨_,v,_,_,I',β3,he,hk,?_,Jz upn upβ hr',?_⟩
  ·refine⟨fun id blk hb=>?_,fun i j c d b q hi hj hc hd=>?_,fun i c b q hi hc=>?_,hI'.imm,fun id hid=>?_,hI'.glob⟩
   ·rw[AHeap.get_append] at hb
    cases hg:(AHeap.renamed (Q4 ρ k n m) H1).get id with
    |some b1=>
     rw[hg] at hb
     simp only[Option.some_or,p0] at hb
     subst hb
     obtain⟨i,b0,h1,h2,rfl⟩:=AHeap.get_renamed hg
     have hLi:=hmem hnd h1
     obtain⟨c,hc,hB⟩:=hI'.blocks i b0 hLi
     refine⟨c,?_,zba upn upβ hB⟩
     obtain⟨hlt,h3|h3⟩:=hupAt i b0 hLi
     ·obtain⟨_,x,h4,h5,_⟩:=h3
      rw[←h2,h5,b3at h4];exact hc
     ·obtain⟨h4,h5⟩:=h3
      rw[←h2,h5]
      simp only[β3]
      rw[if_neg (by simp),if_pos (by simp;omega)]
      simp only[Nat.add_sub_cancel_left]
      rw[show k+(i.1-k)=i.1 by omega];exact hc
    |none=>
     rw[hg] at hb
     simp only[Option.none_or,AHeap.get_without] at hb
     split at hb<;>try (cases hb;done)
     rename_i hpn
     obtain⟨c,hc,hB⟩:=hI.blocks id blk hb
     have hid:=wa hI hc
     have hno:¬∃i,ρ i=some id:=fun hex=>hpn ((hp id).2 (.inr hex))
     have hFid:F id=false:=by
      cases hF':F id with
      |false=>rfl
      |true=>exact absurd ((hp id).2 (.inl hF')) hpn
     refine⟨c,by rw[b3old hid hno hFid];exact hc,hB.mono' himm hcI (by omega) ?_ (fun arr el fr hh=>by
      obtain⟨arr',fr',k1,k2,k3⟩:=hx.shape _ arr el fr hh
      refine⟨arr',fr',k1,k2,k3.imp (fun h=>h) fun g k hk hck=>?_⟩
      obtain⟨i,d,e1,e2,e3⟩:=g k hk
      obtain⟨x,g1,g2,_⟩:=alive e1 e2 e3
      have:=hI.inj id x c d _ k hc g2 hck e3
      subst this
      exact hno ⟨i,g1⟩) ?_ ?_⟩
     ·intro j d hj hd
      rcases b3cases hd with⟨i,h1,h2⟩|⟨_,_,_,h1⟩|⟨h1,_⟩
      ·have:=hk0 (hdom i j h1).1 h2
       rwa [Wc h1 (hdom i j h1).2.2] at this
      ·exact h1
      ·omega
     ·intro b q u hbq hu
      refine hx.cells b q u hu (fun i d hi hg hd=>?_)
      obtain⟨x,h1,h2,_⟩:=alive hi hg hd
      have:=hI.inj id x c d b q hc h2 hbq hd
      subst this
      exact hno ⟨i,h1⟩
     ·intro es ck h0 hm
      refine hx.maps _ es ck hm (fun i d hi hg hd=>?_)
      obtain⟨x,h1,h2,_⟩:=alive hi hg hd
      have:=hI.inj id x c d _ 0 hc h2 h0 hd
      subst this
      exact hno ⟨i,h1⟩
   ·-- two blocks z0y
    have tr:∀ {j:Id} {c:CLoc},β3 j=some c→(∃i,β' i=some c∧Q4 ρ k n m i=j∧i.1<k+m)∨(j.1<n∧(¬∃i,ρ i=some j)∧F j=false∧β j=some c):=by
     intro j c hj
     rcases b3cases hj with⟨i,h1,h2⟩|h|⟨h1,h2,h3⟩
     ·exact .inl ⟨i,h2,by unfold Q4;rw[if_pos (hdom i j h1).1,h1];rfl,by have:=(hdom i j h1).1;omega⟩
     ·exact .inr h
     ·refine .inl ⟨_,h3,?_,by simp;omega⟩
      unfold Q4
      rw[if_neg (by simp)]
      simp only[Nat.add_sub_cancel_left]
      ext<;>simp;omega
    have mixed:∀ {i:Id} {j:Id} {c d:CLoc},β' i=some c→i.1<k+m→c.has b q→j.1<n→(¬∃i,ρ i=some j)→β j=some d→d.has b q→False:=by
     intro i j c d hi hik hc hj hno hd hdq
     obtain⟨_,hlt⟩:=hI.own j d b q hd hdq
     by_cases hi':i.1<k
     ·obtain⟨x,h1,_,h2⟩:=w4 (hk0 hi' hi) hc
      have:=hI.inj x j c d b q h2 hd hc hdq
      subst this
      exact hno ⟨i,h1⟩
     ·rcases hx.new i c b q (by omega) hi hc with h|⟨i0,c0,h1,h2,h3⟩
      ·omega
      ·obtain⟨x,g1,g2,_⟩:=alive h1 h3 h2
       have:=hI.inj x j c0 d b q g2 hd h2 hdq
       subst this
       exact hno ⟨i0,g1⟩
    rcases tr hi with⟨i',h1,h2,h2'⟩|⟨h1,h2,_,h3⟩<;>rcases tr hj with⟨j',g1,g2,g2'⟩|⟨g1,g2,_,g3⟩
    ·have:=hI'.inj i' j' c d b q h1 g1 hc hd
     subst this
     rw[←h2,g2]
    ·exact(mixed h1 h2' hc g1 g2 g3 hd).elim
    ·exact(mixed g1 g2' hd h1 h2 h3 hc).elim
    ·exact hI.inj i j c d b q h3 g3 hc hd
   ·rcases b3cases hi with⟨i',_,h2⟩|⟨h1,h2,hFi,h3⟩|⟨_,_,h3⟩
    ·exact hI'.own i' c b q h2 hc
    ·obtain⟨g1,g2⟩:=hI.own i c b q h3 hc
     refine⟨fun hI'bq=>?_,by omega⟩
     by_cases hin:V2 I β F H w b q
     ·rcases hin with h|⟨⟨id,d,e1,e2,e3,e4⟩,_⟩
      ·exact g1 h
      ·have:=hI.inj id i d c b q e2 h3 e4 hc
       subst this
       rw[e1] at hFi;cases hFi
     ·obtain⟨i0,c0,e1,e2,e3⟩:=hx.immNew b q hI'bq hin g2
      obtain⟨x,e4,e5,_⟩:=alive e1 e3 e2
      have:=hI.inj x i c0 c b q e5 h3 e2 hc
      subst this
      exact h2 ⟨i0,e4⟩
    ·exact hI'.own _ c b q h3 hc
   ·cases hb:β3 id with
    |none=>rfl
    |some c=>
     rcases b3cases hb with⟨i,h1,_⟩|⟨h1,_⟩|⟨_,h1,_⟩
     ·have:=(hdom i id h1).2.1;omega
     ·omega
     ·omega
  ·refine⟨hx.os,hx.tape,hx.output,hx.size,fun b hb hn=>hx.frame b hb (fun i c q hi hg hc=>?_),fun b q u hu hn=>hx.cells b q u hu (fun i c hi hg hc=>?_),fun b arr el fr hb=>(by
    obtain⟨arr',fr',k1,k2,k3⟩:=hx.shape b arr el fr hb
    refine⟨arr',fr',k1,k2,k3.imp (fun h=>h) fun g k hk=>?_⟩
    obtain⟨i,d,e1,e2,e3⟩:=g k hk
    obtain⟨x,_,g2,g3⟩:=alive e1 e2 e3
    exact⟨x,d,g2,g3,e3⟩),fun b es ck hm hn=>hx.maps b es ck hm (fun i c hi hg hc=>?_),himm,fun b q hb hnb hlt=>?_,fun j hj=>?_,fun j c b q hj hc hq=>?_,fun j hj hg=>?_,by omega⟩
   ·obtain⟨x,_,h2,h3⟩:=alive hi hg hc
    exact hn x c q h2 h3 hc
   ·obtain⟨x,_,h2,h3⟩:=alive hi hg hc
    exact hn x c h2 h3 hc
   ·obtain⟨x,_,h2,h3⟩:=alive hi hg hc
    exact hn x c h2 h3 hc
   ·by_cases hin:V2 I β F H w b q
    ·rcases hin with h|⟨⟨id,d,e1,e2,e3,e4⟩,_⟩
     ·exact absurd h hnb
     ·exact⟨id,d,e2,e4,e3⟩
    ·obtain⟨i0,c0,e1,e2,e3⟩:=hx.immNew b q hb hin hlt
     obtain⟨x,_,e5,e6⟩:=alive e1 e3 e2
     exact⟨x,c0,e5,e2,e6⟩
   ·by_cases hex:∃i,ρ i=some j
    ·obtain⟨i,hi⟩:=hex
     obtain⟨d1,d2,d3⟩:=hdom i j hi
     rw[b3at hi]
     rcases hx.old i d1 with h|⟨h,hg⟩
     ·left;rw[h,Wc hi d3]
     ·right
      refine⟨h,?_⟩
      cases hb:H0.get i with
      |none=>exact absurd hb hg
      |some b0=>
       obtain⟨x',b',h3,h4,_⟩:=hH i b0 hb
       rw[hi] at h3
       simp only[p0] at h3
       subst h3
       rw[h4];simp
    ·cases hFj:F j with
     |false=>exact .inl (b3old hj hex hFj)
     |true=>
      right
      refine⟨?_,hF j hFj⟩
      simp only[β3,if_pos hj,dif_neg hex,hFj,if_true]
   ·rcases b3cases hc with⟨i,h1,_⟩|⟨h1,_⟩|⟨_,_,h1⟩
    ·have:=(hdom i j h1).2.1;omega
    ·omega
    ·rcases hx.new _ c b q (by simp) h1 hq with h|⟨i0,c0,e1,e2,e3⟩
     ·exact .inl h
     ·obtain⟨x,_,e5,e6⟩:=alive e1 e3 e2
      exact .inr ⟨x,c0,e5,e2,e6⟩
   ·rw[AHeap.get_append] at hg
    cases hh:(AHeap.renamed (Q4 ρ k n m) H1).get j with
    |none=>
     rw[hh] at hg
     simp only[Option.none_or,AHeap.get_without] at hg
     split at hg
     ·exact absurd rfl hg
     ·exact hg
    |some b1=>
     obtain⟨i,b0,h1,h2,_⟩:=AHeap.get_renamed hh
     have hLi:=hmem hnd h1
     obtain⟨hlt,h3|h3⟩:=hupAt i b0 hLi
     ·obtain⟨_,x,_,h5,h6⟩:=h3
      rw[←h2,h5];exact h6
     ·obtain⟨h4,h5⟩:=h3
      rw[←h2,h5] at hj
      simp only at hj;omega
end Go.Fx
namespace Go.Fx
variable {P:Program}
def PFn(P:Program)(f:FuncId)(args:List AVal)(R:AVal):Prop:=R.nid=true∧∃m,ACalls P f args [] 0 (Xp m R [])
theorem Inv.give{I:Nat→Nat→Prop}{β:Id→Option CLoc}{n:Nat}{H:AHeap}{w:World}{F:Id→Bool}(hI:Inv I β n H w):Inv (V2 I β F H w) (fun _=>none) 0 [] w:=
 { blocks:=fun id blk h=>by simp[AHeap.get] at h
   inj:=fun i j c d b k h=>by simp at h
   own:=fun i c b k h=>by simp at h
   imm:=fun b k h=>by
    rcases h with h|⟨_,h⟩
    ·exact hI.imm b k h
    ·exact h
   fresh:=fun id _=>rfl
   glob:=hI.glob.mono (fun _ _ h=>.inl h) (fun _ _ _=>rfl) (SameSz.refl _) }
theorem zdw{I:Nat→Nat→Prop}{β:Id→Option CLoc}{n:Nat}{H:AHeap}{w:World}{F:Id→Bool}(hI:Inv I β n H w){x y:AVal}(h:Vw F H (fun _=>none) 0 x y){v:Value}(hr:Rep I β n w x v):Rep (V2 I β F H w) (fun _=>none) 0 w y v:=by
 have hρ:RhoOk 0 0 F H (fun _=>none):=⟨fun i j k h=>(by cases h),fun i k h=>(by cases h),fun i h=>absurd h (Nat.not_lt_zero _),fun i k _ h=>(by cases h),pZ _⟩
 have:=Xd (n:=0) (L:=[]) hI hρ h hr
 have e:Vr β F (fun _=>none) 0 0 []=fun _=>none:=by
  funext id
  simp[Vr,AHeap.get]
 rw[e] at this
 exact this
theorem PFn.use{f:FuncId}{args args0:List AVal}{R:AVal}(h:PFn P f args0 R){F:Id→Bool}{H:AHeap}{n:Nat}{K:AVal→AHeap→Nat→Prop}(ha:ArgsTo F H (fun _=>none) 0 args args0)(hF:∀x,F x=true→H.get x≠none)
 (hk:K R (AHeap.without F H) n):ACalls P f args H n K:=by
 obtain⟨hR,m,h⟩:=h
 refine⟨h.1,fun I β w vs hI hl hr=>?_⟩
 obtain⟨ha1,ha2⟩:=ha.get
 refine(h.2 _ _ w vs (hI.give (F:=F)) (by rw[hl,ha1]) (fun i y v hy hv=>?_)).mono ?_
 ·have hlt:i<args.length:=by rw[ha1];exact ui hy
  exact zdw hI (ha2 i args[i] y (p9 hlt) hy) (hr i _ v (p9 hlt) hv)
 ·rintro ee w' ⟨r,v,H1,n1,I',β',he,⟨rfl,rfl,rfl⟩,hI',hr',hx⟩
  have hcell:∀b q u,w.cell? ⟨b,q,none⟩=some u→w'.cell? ⟨b,q,none⟩=some u:=fun b q u hu=>hx.cells b q u hu (fun i c hi=>by cases hi)
  have himm:∀b q,I b q→I' b q:=fun b q hb=>hx.imm b q (.inl hb)
  have hcI:∀b q,I b q→w'.cell? ⟨b,q,none⟩=w.cell? ⟨b,q,none⟩:=fun b q hb=>by
   obtain⟨u,hu⟩:=hI.imm b q hb
   rw[hu];exact hcell b q u hu
  let β3:Id→Option CLoc:=fun j=>if F j then none else β j
  have b3:∀ {j c},β3 j=some c→F j=false∧β j=some c:=by
   intro j c hj
   simp only[β3] at hj
   split at hj
   ·cases hj
   ·rename_i hF';exact⟨by simpa using hF',hj⟩
  refine⟨_,v,_,_,I',β3,he,hk,?_,ut (fun _ _ h=>h) _ hR hr',?_⟩
  ·refine⟨fun id blk hb=>?_,fun i j c d b q hi hj hc hd=>hI.inj i j c d b q (b3 hi).2 (b3 hj).2 hc hd,fun i c b q hi hc=>?_,hI'.imm,fun id hid=>?_,hI'.glob⟩
   ·rw[AHeap.get_without] at hb
    split at hb<;>try (cases hb;done)
    rename_i hFid
    obtain⟨c,hc,hB⟩:=hI.blocks id blk hb
    refine⟨c,by simp only[β3];rw[if_neg hFid];exact hc,hB.mono' himm hcI (pZ n) (fun id d _ hd=>(b3 hd).2) (fun arr el fr hh=>by
     obtain⟨arr',fr',k1,k2,k3⟩:=hx.shape _ arr el fr hh
     refine⟨arr',fr',k1,k2,k3.imp (fun h=>h) fun g k hk=>?_⟩
     obtain⟨i,d,e1,_⟩:=g k hk
     cases e1) (fun b q u _ hu=>hcell b q u hu) (fun es ck _ hm=>hx.maps _ es ck hm (fun i c hi=>by cases hi))⟩
   ·obtain⟨hFi,hi⟩:=b3 hi
    obtain⟨g1,g2⟩:=hI.own i c b q hi hc
    refine⟨fun hbq=>?_,Nat.lt_of_lt_of_le g2 hx.size⟩
    by_cases hin:V2 I β F H w b q
    ·rcases hin with h|⟨⟨id,d,e1,e2,e3,e4⟩,_⟩
     ·exact g1 h
     ·have:=hI.inj id i d c b q e2 hi e4 hc
      subst this
      rw[e1] at hFi;cases hFi
    ·obtain⟨i0,c0,e1,_⟩:=hx.immNew b q hbq hin g2
     cases e1
   ·simp only[β3]
    split
    ·rfl
    ·exact hI.fresh id hid
  ·refine⟨hx.os,hx.tape,hx.output,hx.size,fun b hb _=>hx.frame b hb (fun i c q hi=>by cases hi),fun b q u hu _=>hcell b q u hu,fun b arr el fr hb=>(by
    obtain⟨arr',fr',k1,k2,k3⟩:=hx.shape b arr el fr hb
    refine⟨arr',fr',k1,k2,k3.imp (fun h=>h) fun g k hk=>?_⟩
    obtain⟨i,d,e1,_⟩:=g k hk
    cases e1),fun b es ck hm _=>hx.maps b es ck hm (fun i c hi=>by cases hi),himm,fun b q hb hnb hlt=>?_,fun j hj=>?_,fun j c b q hj hc hq=>?_,fun j hj hg=>?_,pZ n⟩
   ·by_cases hin:V2 I β F H w b q
    ·rcases hin with h|⟨⟨id,d,e1,e2,e3,e4⟩,_⟩
     ·exact absurd h hnb
     ·exact⟨id,d,e2,e4,e3⟩
    ·obtain⟨i0,c0,e1,_⟩:=hx.immNew b q hb hin hlt
     cases e1
   ·simp only[β3]
    split
    ·rename_i hFj;exact .inr ⟨rfl,hF j hFj⟩
    ·exact .inl rfl
   ·have:=(b3 hc).2
    rw[hI.fresh j hj] at this
    cases this
   ·rw[AHeap.get_without] at hg
    split at hg
    ·exact absurd rfl hg
    ·exact hg
def AVal.flat:AVal→Bool
 |.bool _|.int _ _|.str _|.val _=>true
 |.tup cs=>flatL cs
 |.agg cs=>flatL cs
 |_=>false
where flatL:List AVal→Bool
 |[]=>true
 |x::r=>x.flat&&flatL r
mutual
theorem zbo{I I2:Nat→Nat→Prop}{β β2:Id→Option CLoc}{n n2:Nat}{w w2:World}:∀ (x:AVal),x.flat=true→∀ {v:Value},Rep I β n w x v→Rep I2 β2 n2 w2 x v
 |.bool b,_,v,hr=>by rw[hr.bool_inv];exact .imm _ _ (.bool b)
 |.int k m,_,v,hr=>by rw[hr.int_inv];exact .imm _ _ (.int k m)
 |.str l,_,v,hr=>by rw[hr.str_inv];exact .imm _ _ (.str l)
 |.val u,_,v,hr=>by
  cases hr with
  |imm _ _ h=>cases h with|val _ h=>exact .imm _ _ (.val u h)
 |.tup cs,hn,v,hr=>by
  have:∃vs,v=.tuple vs∧vs.size=cs.length∧∀ (i:Nat) (y:AVal) (u:Value),cs[i]?=some y→vs[i]?=some u→Rep I β n w y u:=by
   cases hr with
   |tup _ vs h1 h2=>exact⟨vs,rfl,h1,h2⟩
   |imm _ _ hx=>
    cases hx with
    |tup _ vs h1 h2=>exact⟨vs,rfl,h1,fun i y u hy hu=>.imm _ _ (h2 i y u hy hu)⟩
  obtain⟨vs,rfl,h1,h3⟩:=this
  exact .tup cs vs h1 (fun i x v hx hv=>Wb cs hn x (pD hx) (h3 i x v hx hv))
 |.agg cs,hn,v,hr=>by
  obtain⟨vs,rfl,h1,h2,h3⟩:=hr.agg_inv
  exact .agg cs vs h1 h2 (fun i x v hx hv=>Wb cs hn x (pD hx) (h3 i x v hx hv))
theorem Wb{I I2:Nat→Nat→Prop}{β β2:Id→Option CLoc}{n n2:Nat}{w w2:World}:∀ (cs:List AVal),AVal.flat.flatL cs=true→∀x∈cs,∀ {v:Value},Rep I β n w x v→Rep I2 β2 n2 w2 x v
 |[],_,x,hx,v,hr=>by cases hx
 |y::r,hn,x,hx,v,hr=>by
  simp only[AVal.flat.flatL,pA] at hn
  rcases pP.1 hx with e|hx
  ·rw[e] at hr ⊢;exact zbo y hn.1 hr
  ·exact Wb r hn.2 x hx hr
end
def vj(R:AVal):AVal→AHeap→Nat→Prop:=fun r H' _=>R.nid=true∧Vw (fun _=>true) H' (fun _=>none) 0 r R
theorem PFn.ofFnW{f:FuncId}{bm:List Nat}{L:LFn}(hL:wu P bm f=some L)(hok:Xv P f){args:List AVal}(hlen:args.length≤L.lay.n){R:AVal}(hR:R.nid=true)
 (h:LWp P L.lay 0 L.body (z36 L.res (vj R)) (qz 0 args) [] 0):PFn P f args R:=by
 refine⟨hR,0,ACalls.fin ((ACalls.ofFnW hL hok hlen h).mono ?_)⟩
 rintro r H' n' ⟨_,hv⟩
 exact⟨fun _=>true,fun _=>none,⟨fun i j k h=>(by cases h),fun i k h=>(by cases h),fun i h=>absurd h (Nat.not_lt_zero _),fun i k _ h=>(by cases h),pZ _⟩,hv,fun _ _ h=>by simp[AHeap.get] at h⟩
end Go.Fx
namespace Go.Fx
def Yi:Option Prop→Prop→Prop
 |none,q=>q
 |some p,q=>p∧q
def k7:Option Prop→Option Prop→Option Prop
 |none,y=>y
 |some a,none=>some a
 |some a,some b=>some (a∧b)
def qw:Option Prop→Prop
 |none=>True
 |some p=>p
theorem yj(s:Option Prop)(q:Prop):Yi s q↔qw s∧q:=by cases s<;>simp[Yi,qw]
theorem yk(a b:Option Prop):qw (k7 a b)↔qw a∧qw b:=by cases a<;>cases b<;>simp[k7,qw]
def AVal.needY:AVal→Option Prop
 |.cnd p _=>some (p=true)
 |_=>none
theorem z8m(x:AVal):qw x.needY↔x.need:=by cases x<;>simp[AVal.needY,AVal.need,qw]
def LOpd.needY(e:Env):LOpd→Option Prop
 |.t i=>(e.get i).needY
 |.c _=>none
theorem zb(e:Env)(x:LOpd):qw (x.needY e)↔x.need e:=by
 cases x with
 |t i=>exact z8m _
 |c v=>simp[LOpd.needY,LOpd.need,qw]
def Yc(e:Env):List LOpd→Option Prop
 |[]=>none
 |x::r=>k7 (x.needY e) (Yc e r)
theorem wc(e:Env):∀l,qw (Yc e l)↔Yf e l
 |[]=>by simp[Yc,Yf,qw]
 |x::r=>by simp[Yc,Yf,yk,zb,wc e r]
def Jg(e:Env):Option LOpd→Option Prop
 |none=>none
 |some x=>x.needY e
theorem kb(e:Env)(x:Option LOpd):qw (Jg e x)↔wt e x:=by
 cases x with
 |none=>simp[Jg,wt,qw]
 |some x=>exact zb e x
def z04(e:Env):List (Nat×Nat×LOpd)→Option Prop
 |[]=>none
 |(_,_,x)::r=>k7 (x.needY e) (z04 e r)
theorem V5(e:Env):∀l,qw (z04 e l)↔x3 e l
 |[]=>by simp[z04,x3,qw]
 |(_,_,x)::r=>by simp[z04,x3,yk,zb,V5 e r]
def Vs(e:Env):List (Nat×LOpd)→Option Prop
 |[]=>none
 |(_,x)::r=>k7 (x.needY e) (Vs e r)
theorem Qr(e:Env):∀l,qw (Vs e l)↔Wx e l
 |[]=>by simp[Vs,Wx,qw]
 |(_,x)::r=>by simp[Vs,Wx,yk,zb,Qr e r]
def z61:IntKind→IntKind→Bool
 |.i8,.i8|.i16,.i16|.i32,.i32|.i64,.i64|.u8,.u8|.u16,.u16|.u32,.u32|.u64,.u64=>true
 |_,_=>false
theorem Kk{a b:IntKind}(h:z61 a b=true):a=b:=by cases a<;>cases b<;>first|rfl|cases h
inductive YR where
 |ok (side:Option Prop) (v:AVal)
 |row (es:List (List AVal)) (i:Nat) (side:Prop) (f:List AVal→AVal)
 |pick (v:AVal) (side:Prop)
 |fork (j:Int) (len:Nat) (side:Option Prop) (f:Nat→AVal)
 |bad
def zcz(j:Int)(f:Nat→AVal)(K:AVal→Prop):Nat→Nat→Prop
 |0,_=>True
 |k+1,c=>(j=(c:Int)→K (f c))∧zcz j f K k (c+1)
def YR.run(r:YR)(K:AVal→Prop):Prop:=match r with
 |.ok s v=>Yi s (K v)
 |.row es i s f=>∃r,es.getD i []=r∧s∧K (f r)
 |.pick v0 s=>∃v,v0=v∧s∧K v
 |.fork j len s f=>Yi s ((0≤j∧j<(len:Int))∧zcz j f K len 0)
 |.bad=>False
def YR.runG(p:Bool)(r:YR)(K:AVal→Prop):Prop:=match r with
 |.ok none v=>K (.cnd p v)
 |.ok (some s) v=>(p=true→s)∧K (.cnd p v)
 |.row es i s f=>∃r,(p=true→es.getD i []=r∧s)∧K (.cnd p (f r))
 |.pick v0 s=>∃v,(p=true→v0=v∧s)∧K (.cnd p v)
 |_=>p=false∧K (.tup [])
def YR.and(s:Option Prop):YR→YR
 |.ok t v=>.ok (k7 s t) v
 |.row es i t f=>match s with
  |none=>.row es i t f
  |some p=>.row es i (p∧t) f
 |.pick v t=>match s with
  |none=>.pick v t
  |some p=>.pick v (p∧t)
 |.fork j len t f=>.fork j len (k7 s t) f
 |.bad=>.bad
def YR.Of(r:YR)(x:XR):Prop:=match r with
 |.ok s v=>∃side,x=.ok side v∧(qw s→side)
 |.row es i s f=>∃side,x=.ok side (f (es.getD i []))∧(s→side)
 |.pick v s=>∃side,x=.ok side v∧(s→side)
 |.fork j len s f=>∃side v,x=.ok side v∧∀c:Nat,c<len→j=(c:Int)→qw s→side∧v=f c
 |.bad=>True
theorem YR.Of.and{r:YR}{x:XR}{s:Option Prop}{p:Prop}(h:r.Of x)(hs:qw s→p):(r.and s).Of (x.and p):=by
 cases r with
 |bad=>trivial
 |ok t v=>
  obtain⟨side,rfl,h1⟩:=h
  exact⟨_,rfl,fun h=>by rw[yk] at h;exact⟨hs h.1,h1 h.2⟩⟩
 |row es i t f=>
  obtain⟨side,rfl,h1⟩:=h
  cases s with
  |none=>exact⟨_,rfl,fun h=>⟨hs trivial,h1 h⟩⟩
  |some q=>exact⟨_,rfl,fun h=>⟨hs h.1,h1 h.2⟩⟩
 |pick v t=>
  obtain⟨side,rfl,h1⟩:=h
  cases s with
  |none=>exact⟨_,rfl,fun h=>⟨hs trivial,h1 h⟩⟩
  |some q=>exact⟨_,rfl,fun h=>⟨hs h.1,h1 h.2⟩⟩
 |fork j len t f=>
  obtain⟨side,v,rfl,h1⟩:=h
  exact⟨_,v,rfl,fun c hc hj h=>by
   rw[yk] at h
   obtain⟨h2,h3⟩:=h1 c hc hj h.2
   exact⟨⟨hs h.1,h2⟩,h3⟩⟩
theorem z0z{j:Int}{f:Nat→AVal}{K:AVal→Prop}:∀ {k c0:Nat},zcz j f K k c0→∀c,c0≤c→c<c0+k→j=(c:Int)→K (f c)
 |0,c0,_,c,h1,h2,_=>by omega
 |k+1,c0,h,c,h1,h2,h3=>by
  by_cases hc:c=c0
  ·subst hc;exact h.1 h3
  ·exact z0z h.2 c (by omega) (by omega) h3
theorem YR.Of.run{r:YR}{x:XR}(h:r.Of x){K:AVal→Prop}(hk:r.run K):∃side v,x=.ok side v∧side∧K v:=by
 cases r with
 |bad=>exact hk.elim
 |ok t v=>
  obtain⟨side,rfl,h1⟩:=h
  rw[YR.run,yj] at hk
  exact⟨_,_,rfl,h1 hk.1,hk.2⟩
 |row es i t f=>
  obtain⟨side,rfl,h1⟩:=h
  obtain⟨r,rfl,ht,hk⟩:=hk
  exact⟨_,_,rfl,h1 ht,hk⟩
 |pick v t=>
  obtain⟨side,rfl,h1⟩:=h
  obtain⟨r,rfl,ht,hk⟩:=hk
  exact⟨_,_,rfl,h1 ht,hk⟩
 |fork j len t f=>
  obtain⟨side,v,rfl,h1⟩:=h
  rw[YR.run,yj] at hk
  obtain⟨hs,⟨h2,h3⟩,h4⟩:=hk
  obtain⟨c,rfl⟩:=Int.eq_ofNat_of_zero_le h2
  obtain⟨g1,rfl⟩:=h1 c (by omega) rfl hs
  exact⟨_,_,rfl,g1,z0z h4 c (Nat.zero_le _) (by omega) rfl⟩
def zj5(op:BinOp):AVal→AVal→YR
 |.int k a,.int k' b=>match op with
  |.shl=>.ok (some (0≤b)) (.int k (k.wrap (a*2 ^ (min b.toNat k.bits))))
  |.shr=>.ok (some (0≤b)) (.int k (a.fdiv (2 ^ (min b.toNat k.bits))))
  |op=>match z61 k k' with
   |false=>.bad
   |true=>match op with
    |.add=>.ok none (.int k (k.wrap (a+b)))
    |.sub=>.ok none (.int k (k.wrap (a-b)))
    |.mul=>.ok none (.int k (k.wrap (a*b)))
    |.quo=>.ok (some (b≠0)) (.int k (k.wrap (a.tdiv b)))
    |.rem=>.ok (some (b≠0)) (.int k (a.tmod b))
    |.and=>.ok none (.int k (Zu .and k a b))
    |.or=>.ok none (.int k (Zu .or k a b))
    |.xor=>.ok none (.int k (Zu .xor k a b))
    |.andNot=>.ok none (.int k (Zu .andNot k a b))
    |.eql=>.ok none (.bool (a==b))
    |.neq=>.ok none (.bool (a != b))
    |.lss=>.ok none (.bool (decide (a<b)))
    |.leq=>.ok none (.bool (decide (a≤b)))
    |.gtr=>.ok none (.bool (decide (a > b)))
    |.geq=>.ok none (.bool (decide (a≥b)))
    |_=>.bad
 |.str a,.str b=>match op with
  |.add=>.ok (some (((a.length+b.length:Nat):Int)≤9223372036854775807)) (.str (a++b))
  |.eql=>.ok none (.bool (a==b))
  |.neq=>.ok none (.bool (!(a==b)))
  |.lss=>.ok none (.bool (Op.bytesLess a b))
  |.leq=>.ok none (.bool (Op.bytesLess a b || a==b))
  |.gtr=>.ok none (.bool (!(Op.bytesLess a b || a==b)))
  |.geq=>.ok none (.bool (!(Op.bytesLess a b)))
  |_=>.bad
 |_,_=>.bad
theorem ze7(op:BinOp)(x y:AVal):(zj5 op x y).Of (z8d op x y):=by
 cases x<;>cases y<;>simp only[zj5,z8d]<;>try trivial
 case int.int k a k' b=>
  cases op<;>simp only<;>(try exact⟨_,rfl,fun h=>h⟩)<;>(cases hk:z61 k k'<;>simp only<;>(try trivial)<;>(have hk:=Kk hk;subst hk)) <;>
   first|exact⟨_,rfl,fun _=>rfl⟩|exact⟨_,rfl,fun h=>⟨rfl,h⟩⟩
 case str.str a b=>
  cases op<;>simp only<;>first|trivial|exact⟨_,rfl,fun _=>trivial⟩|exact⟨_,rfl,fun h=>h⟩
def XR.toY:XR→YR
 |.ok s v=>.ok (some s) v
 |.bad=>.bad
theorem XR.toY_of(x:XR):x.toY.Of x:=by
 cases x with
 |ok s v=>exact⟨s,rfl,fun h=>h⟩
 |bad=>trivial
def XR.toY0:XR→YR
 |.ok _ v=>.ok none v
 |.bad=>.bad
theorem XR.toY0_of{x:XR}(h:∀s v,x=.ok s v→s):x.toY0.Of x:=by
 cases x with
 |ok s v=>exact⟨s,rfl,fun _=>h s v rfl⟩
 |bad=>trivial
def zfb:AVal→AVal→YR:=fun a b=>(zbk a b).toY0
def K4:AVal→AVal→YR
 |.val (.slice none 0 0),.isl _ es _=>.ok (some (es≠[])) (.bool false)
 |.isl _ es _,.val (.slice none 0 0)=>.ok (some (es≠[])) (.bool false)
 |.val (.slice none 0 0),.msl _ _ _ len _=>.ok (some (len≠0)) (.bool false)
 |.msl _ _ _ len _,.val (.slice none 0 0)=>.ok (some (len≠0)) (.bool false)
 |a,b=>(Qw a b).toY0
theorem z2c(a b:AVal):(K4 a b).Of (Qw a b):=by
 unfold K4
 split
 ·exact⟨_,rfl,fun h=>h⟩
 ·exact⟨_,rfl,fun h=>h⟩
 ·exact⟨_,rfl,fun h=>h⟩
 ·exact⟨_,rfl,fun h=>h⟩
 ·rename_i h1 h2 h3 h4
  refine XR.toY0_of fun s v h=>?_
  unfold Qw at h
  split at h<;>simp only[XR.ok.injEq,reduceCtorEq] at h<;>(try (obtain⟨rfl,_⟩:=h;trivial))
  ·exact absurd rfl (h3 _ _ _ _ _ rfl)
  ·exact absurd rfl (h4 _ _ _ _ _ · rfl)
  ·exact absurd rfl (h1 _ _ _ rfl)
  ·exact absurd rfl (h2 _ _ _ · rfl)
def zg2(k:EqK)(x y:AVal):YR:=
 match k with
 |.bool=>match x,y with
  |.bool a,.bool b=>.ok none (.bool (a==b))
  |_,_=>.bad
 |.ptr=>zfb x y
 |.slice=>K4 x.rd y.rd
 |.map=>(Xr x y).toY0
 |.agg ks=>(z8l ks x y).toY0
 |.ifc=>(z08 x y).toY0
 |.fnc=>(z02 x y).toY0
 |_=>.bad
def YR.neg:YR→YR
 |.ok s (.bool b)=>.ok s (.bool (!b))
 |_=>.bad
def yeq(neg:Bool)(k:EqK)(x y:AVal):YR:=match neg with
 |true=>(zg2 k x y).neg
 |false=>zg2 k x y
theorem zcv(k:EqK)(x y:AVal):(zg2 k x y).Of (z8g k x y):=by
 cases k<;>simp only[zg2,z8g]<;>try trivial
 case bool=>cases x<;>cases y<;>first|trivial|exact⟨_,rfl,fun _=>trivial⟩
 case ptr=>
  refine XR.toY0_of fun s v h=>?_
  unfold zbk at h
  split at h<;>simp only[XR.ok.injEq,reduceCtorEq] at h<;>(obtain⟨rfl,_⟩:=h;trivial)
 case slice=>exact z2c _ _
 case map=>
  refine XR.toY0_of fun s v h=>?_
  unfold Xr at h
  split at h<;>simp only[XR.ok.injEq,reduceCtorEq] at h<;>(obtain⟨rfl,_⟩:=h;trivial)
 case agg ks=>
  refine XR.toY0_of fun s v h=>?_
  unfold z8l at h
  split at h<;>(try split at h)<;>simp only[XR.ok.injEq,reduceCtorEq] at h<;>(obtain⟨rfl,_⟩:=h;trivial)
 case ifc=>
  refine XR.toY0_of fun s v h=>?_
  unfold z08 at h
  split at h<;>simp only[XR.ok.injEq,reduceCtorEq] at h<;>(obtain⟨rfl,_⟩:=h;trivial)
 case fnc=>
  refine XR.toY0_of fun s v h=>?_
  unfold z02 at h
  split at h<;>simp only[XR.ok.injEq,reduceCtorEq] at h<;>(obtain⟨rfl,_⟩:=h;trivial)
theorem zf9(neg:Bool)(k:EqK)(x y:AVal):(yeq neg k x y).Of (xeq neg k x y):=by
 have h:=zcv k x y
 cases neg with
 |false=>simpa[yeq,xeq] using h
 |true=>
  simp only[yeq,xeq,if_true]
  cases hr:zg2 k x y with
  |ok s v=>
   rw[hr] at h
   obtain⟨side,hx,hs⟩:=h
   cases v<;>simp only[YR.neg]<;>try trivial
   rw[hx]
   exact⟨side,rfl,hs⟩
  |_=>simp only[YR.neg];trivial
def zd7(agg:Bool)(n:Nat)(H:AHeap):AVal→YR
 |.iptr s es i off=>.row es i (i<es.length∧off+n≤s) (y5 agg n off)
 |.ptr b i off=>match H.get b with
  |some (.rows s es)=>.row es i (i<es.length∧off+n≤s) (y5 agg n off)
  |some (.one cs)=>match i,pO (off+n) cs.length with
   |0,true=>.ok none (y5 agg n off cs)
   |_,_=>.bad
  |_=>.bad
 |_=>.bad
theorem zbl(g:Bool)(n:Nat)(H:AHeap)(x:AVal):(zd7 g n H x).Of (Xn g n H x):=by
 cases x<;>simp only[zd7,Xn]<;>try trivial
 case iptr s es i off=>exact⟨_,rfl,fun h=>h⟩
 case ptr b i off=>
  split
  ·rename_i hb
   rw[hb]
   exact⟨_,rfl,fun h=>h⟩
  ·rename_i hb
   rw[hb]
   split
   ·rename_i h
    exact⟨_,rfl,fun _=>⟨rfl,pC h⟩⟩
   ·trivial
  ·trivial
def z97(agg:Bool)(n off:Nat):AVal→YR
 |.agg cs=>match pO (off+n) cs.length with
  |true=>.ok none (y5 agg n off cs)
  |false=>.bad
 |_=>.bad
theorem z6i(g:Bool)(n off:Nat)(x:AVal):(z97 g n off x).Of (Vm g n off x):=by
 cases x<;>simp only[z97,Vm]<;>try trivial
 split
 ·rename_i h;exact⟨_,rfl,fun _=>pC h⟩
 ·trivial
def z83(s:Nat):AVal→AVal→YR
 |.isl s' es _,.int _ j=>match pJ s s' with
  |true=>.ok (some (0≤j∧j<(es.length:Int))) (.iptr s' es j.toNat 0)
  |false=>.bad
 |.msl b s' off len _,.int _ j=>match pJ s s' with
  |true=>.ok (some (0≤j∧j<(len:Int))) (.ptr b (off+j.toNat) 0)
  |false=>.bad
 |_,_=>.bad
theorem z9d(s:Nat)(x y:AVal):(z83 s x y).Of (Jt s x y):=by
 cases x<;>cases y<;>simp only[z83,Jt]<;>try trivial
 all_goals
  split
  ·rename_i h;exact⟨_,rfl,fun hh=>⟨pB h,hh⟩⟩
  ·trivial
def z1q(len s:Nat)(H:AHeap):AVal→AVal→YR
 |.ptr b i 0,.int _ j=>match H.get b with
  |some (.rows s' _)=>match pJ s s' with
   |true=>.ok (some (0≤j∧j<(len:Int))) (.ptr b (i+j.toNat) 0)
   |false=>.bad
  |_=>.bad
 |_,_=>.bad
theorem z4c(len s:Nat)(H:AHeap)(x y:AVal):(z1q len s H x y).Of (Zx len s H x y):=by
 unfold z1q Zx
 split
 ·split
  ·rename_i hg
   split
   ·rename_i h
    simp only[hg]
    exact⟨_,rfl,fun hh=>⟨pB h,hh⟩⟩
   ·trivial
  ·trivial
 ·trivial
def z2b(len s:Nat)(x:AVal):LOpd→AVal→YR
 |.c (.int _ (.ofNat c)),_=>match pO (c+1) len,x with
  |true,.iptr s' es i o=>.ok none (.iptr s' es i (o+c*s))
  |true,.ptr b i o=>.ok none (.ptr b i (o+c*s))
  |_,_=>.bad
 |_,.int _ j=>match x with
  |.iptr s' es i o=>.fork j len none (fun c=>.iptr s' es i (o+c*s))
  |.ptr b i o=>.fork j len none (fun c=>.ptr b i (o+c*s))
  |_=>.bad
 |_,_=>.bad
theorem z4g(len s:Nat)(x:AVal)(e:Env)(i:LOpd):(z2b len s x i (i.ev e)).Of (Jq len s x (i.ev e)):=by
 unfold z2b
 split
 ·rename_i k c
  split
  ·rename_i h
   exact⟨_,rfl,fun _=>⟨Int.natCast_nonneg c,by have:=pC h;simp;omega⟩⟩
  ·rename_i h
   exact⟨_,rfl,fun _=>⟨Int.natCast_nonneg c,by have:=pC h;simp;omega⟩⟩
  ·trivial
 ·rename_i j _ heq
  rw[heq]
  split
  ·exact⟨_,_,rfl,fun c hc hj _=>⟨by omega,by subst hj;simp⟩⟩
  ·exact⟨_,_,rfl,fun c hc hj _=>⟨by omega,by subst hj;simp⟩⟩
  ·trivial
 ·trivial
def zch(len s:Nat)(agg:Bool)(x:AVal):LOpd→AVal→YR
 |.c (.int _ (.ofNat c)),_=>match x with
  |.agg cs=>match pO (c+1) len&&pO (c*s+s) cs.length with
   |true=>.ok none (y5 agg s (c*s) cs)
   |false=>.bad
  |_=>.bad
 |_,.int _ j=>match x with
  |.agg cs=>.pick (y5 agg s (j.toNat * s) cs) (0≤j∧j<(len:Int)∧(j.toNat * s)+s≤cs.length)
  |_=>.bad
 |_,_=>.bad
theorem z9x(len s:Nat)(g:Bool)(x:AVal)(e:Env)(i:LOpd):(zch len s g x i (i.ev e)).Of (z9i len s g x (i.ev e)):=by
 unfold zch
 split
 ·split
  ·split
   ·rename_i h
    simp only[pA] at h
    have h1:=pC h.1
    have h2:=pC h.2
    rename_i c _ _ _ _
    exact⟨_,rfl,fun _=>⟨Int.natCast_nonneg _,by simp;omega,by simpa using h2⟩⟩
   ·trivial
  ·trivial
 ·rename_i j _ heq
  rw[heq]
  split
  ·exact⟨_,rfl,fun h=>h⟩
  ·trivial
 ·trivial
def zjb(k:Nat):AVal→YR
 |.tup cs=>match pO (k+1) cs.length with
  |true=>.ok none (cs.getD k .any)
  |false=>.bad
 |_=>.bad
theorem zct(k:Nat)(x:AVal):(zjb k x).Of (zez k x):=by
 cases x<;>simp only[zjb,zez]<;>try trivial
 split
 ·rename_i h;exact⟨_,rfl,fun _=>pC h⟩
 ·trivial
def zdn(c:Bool):AVal→AVal→Option AVal
 |.bool a,.bool b=>some (.bool (bif c then a else b))
 |.int k a,.int k' b=>match z61 k k' with
  |true=>some (.int k (bif c then a else b))
  |false=>none
 |.str a,.str b=>some (.str (bif c then a else b))
 |_,_=>none
theorem zb1{c:Bool}{a b v:AVal}(h:zdn c a b=some v):ze3 c a b=v:=by
 cases a<;>cases b<;>simp only[zdn] at h<;>try (cases h;done)
 ·simp only[p0] at h;subst h;cases c<;>rfl
 ·split at h<;>try (cases h;done)
  rename_i hk
  have hk:=Kk hk
  subst hk
  simp only[p0] at h
  subst h;cases c<;>rfl
 ·simp only[p0] at h;subst h;cases c<;>rfl
def za7(c want:Bool):Option Prop→Option Prop
 |none=>none
 |some p=>some (c=want→p)
theorem z16(c want:Bool)(p:Option Prop):qw (za7 c want p)↔(c=want→qw p):=by cases p<;>simp[za7,qw]
def z6g(c:Bool)(e:Env):LOpd→LOpd→Option AVal
 |.c (.bool true),b=>match b.ev e with
  |.bool y=>some (.bool (c || y))
  |_=>none
 |a,.c (.bool false)=>match a.ev e with
  |.bool x=>some (.bool (c&&x))
  |_=>none
 |a,b=>zdn c (a.ev e) (b.ev e)
theorem z8b{c:Bool}{e:Env}{a b:LOpd}{v:AVal}(h:z6g c e a b=some v):ze3 c (a.ev e) (b.ev e)=v:=by
 unfold z6g at h
 split at h
 ·split at h<;>try (cases h;done)
  rename_i y hy
  simp only[p0] at h
  subst h
  rw[hy]
  cases c<;>rfl
 ·split at h<;>try (cases h;done)
  rename_i x hx
  simp only[p0] at h
  subst h
  rw[hx]
  cases c<;>rfl
 ·exact zb1 h
def zby(e:Env)(na nb:Option Prop)(c:AVal)(a b:LOpd):YR:=match c with
 |.bool c=>match z6g c e a b with
  |some v=>.ok (k7 (za7 c true na) (za7 c false nb)) v
  |none=>.bad
 |_=>.bad
def z0r(cells:List AVal):List (Nat×Nat×AVal)→YR
 |[]=>.ok none (.agg cells)
 |(off,n,x)::r=>match x.cells? with
  |some cs=>match pJ cs.length n&&pO (off+n) cells.length with
   |true=>z0r (qt cells off cs) r
   |false=>.bad
  |none=>.bad
theorem z10:∀ (parts:List (Nat×Nat×AVal)) (cells:List AVal),(z0r cells parts).Of (vg cells parts)
 |[],cells=>⟨_,rfl,fun _=>trivial⟩
 |(off,n,x)::r,cells=>by
  simp only[z0r,vg]
  split
  ·rename_i cs hc
   simp only[hc]
   split
   ·rename_i h
    simp only[pA] at h
    have h1:=pB h.1
    have h2:=pC h.2
    have ih:=z10 r (qt cells off cs)
    cases hy:z0r (qt cells off cs) r with
    |ok s v=>
     rw[hy] at ih
     obtain⟨side,hx,hs⟩:=ih
     rw[hx]
     exact⟨_,rfl,fun h=>⟨h1,h2,hs h⟩⟩
    |bad=>trivial
    |row es i s f=>
     rw[hy] at ih
     obtain⟨side,hx,hs⟩:=ih
     rw[hx]
     exact⟨_,rfl,fun h=>⟨h1,h2,hs h⟩⟩
    |pick v s=>
     rw[hy] at ih
     obtain⟨side,hx,hs⟩:=ih
     rw[hx]
     exact⟨_,rfl,fun h=>⟨h1,h2,hs h⟩⟩
    |fork j len s f=>
     rw[hy] at ih
     obtain⟨side,v,hx,hs⟩:=ih
     rw[hx]
     exact⟨_,_,rfl,fun c hc hj h=>⟨⟨h1,h2,(hs c hc hj h).1⟩,(hs c hc hj h).2⟩⟩
   ·trivial
  ·trivial
def zh9(lo hi:Nat→Option Int):AVal→YR:=fun x=>(V7 lo hi x).toY
def XR.toP:XR→YR
 |.ok s v=>.pick v s
 |.bad=>.bad
theorem XR.toP_of(x:XR):x.toP.Of x:=by
 cases x with
 |ok s v=>exact⟨s,rfl,fun h=>h⟩
 |bad=>trivial
def zk5(s:Nat)(lo hi:Nat→Option Int)(mx:Option (Option Int))(keep:Bool):AVal→YR:=fun x=>(z9f s lo hi mx keep x).toP
def zf5(isMax:Bool):AVal→List AVal→YR
 |v,[]=>.ok none v
 |.int k a,.int k' b::r=>match z61 k k' with
  |true=>zf5 isMax (.int k (if isMax then(if b > a then b else a) else(if b<a then b else a))) r
  |false=>.bad
 |_,_=>.bad
theorem z7b(m:Bool):∀ (l:List AVal) (v:AVal),(zf5 m v l).Of (z62 m v l)
 |[],v=>by simp only[zf5,z62];exact⟨_,rfl,fun _=>trivial⟩
 |y::r,v=>by
  cases v<;>cases y<;>try trivial
  rename_i k a k' b
  simp only[zf5,z62]
  split
  ·rename_i hk
   have hk:=Kk hk
   subst hk
   have ih:=z7b m r (.int k (if m then(if b > a then b else a) else(if b<a then b else a)))
   cases hy:zf5 m (.int k (if m then(if b > a then b else a) else(if b<a then b else a))) r with
   |ok s v=>
    rw[hy] at ih
    obtain⟨side,hx,hs⟩:=ih
    rw[hx]
    exact⟨_,rfl,fun h=>⟨rfl,hs h⟩⟩
   |bad=>trivial
   |row es i s f=>
    rw[hy] at ih
    obtain⟨side,hx,hs⟩:=ih
    rw[hx]
    exact⟨_,rfl,fun h=>⟨rfl,hs h⟩⟩
   |pick v s=>
    rw[hy] at ih
    obtain⟨side,hx,hs⟩:=ih
    rw[hx]
    exact⟨_,rfl,fun h=>⟨rfl,hs h⟩⟩
   |fork j len s f=>
    rw[hy] at ih
    obtain⟨side,v,hx,hs⟩:=ih
    rw[hx]
    exact⟨_,_,rfl,fun c hc hj h=>⟨⟨rfl,(hs c hc hj h).1⟩,(hs c hc hj h).2⟩⟩
  ·trivial
def zhc(isMax:Bool):List AVal→YR
 |.int k a::r=>zf5 isMax (.int k a) r
 |_=>.bad
def z76(ks:List CK)(ka g ok:Bool)(zs:List AVal)(H:AHeap)(k:AVal):AVal→YR
 |.val (.map none)=>match ue ks ka k with
  |true=>.ok none (zc4 g ok zs none)
  |false=>.bad
 |.map b=>match H.get b with
  |some (.amap es)=>match ue ks ka k with
   |true=>.pick (zc4 g ok zs ((Wz ks k es).getD none)) ((Wz ks k es).isSome=true)
   |false=>.bad
  |_=>.bad
 |_=>.bad
theorem z8f(ks:List CK)(ka g ok:Bool)(zs:List AVal)(H:AHeap)(k x:AVal):(z76 ks ka g ok zs H k x).Of (Xc ks ka g ok zs H k x):=by
 unfold z76 Xc
 split
 ·split
  ·rename_i h;rw[if_pos h];exact⟨_,rfl,fun _=>trivial⟩
  ·trivial
 ·split
  ·rename_i hg
   split
   ·rename_i h;simp only[hg];rw[if_pos h];exact⟨_,rfl,fun h=>h⟩
   ·trivial
  ·trivial
 ·trivial
def Wt(e:Env)(H:AHeap):LOp→YR
 |.mv x=>.ok (x.needY e) (x.ev e)
 |.pick c a b=>(zby e (a.needY e) (b.needY e) (c.ev e) a b).and (c.needY e)
 |.build zs parts=>(z0r zs (xi e parts)).and (z04 e parts)
 |.load g n a=>(zd7 g n H (a.ev e)).and (a.needY e)
 |.nilck x=>(Vb (x.ev e)).toY0.and (x.needY e)
 |.bin op x y=>(zj5 op (x.ev e) (y.ev e)).and (k7 (x.needY e) (y.needY e))
 |.eq neg k x y=>(yeq neg k (x.ev e) (y.ev e)).and (k7 (x.needY e) (y.needY e))
 |.un op x=>(xun op (x.ev e)).toY0.and (x.needY e)
 |.conv (.int k) x=>match x.ev e with
  |.int _ n=>.ok (x.needY e) (.int k (k.wrap n))
  |_=>.bad
 |.conv .same x=>match x.ev e with
  |.str l=>.ok (x.needY e) (.str l)
  |_=>.bad
 |.mkfn f a c=>.ok (k7 (Yc e a) (Yc e c)) (.fn f (evs e a) (evs e c))
 |.slStr x lo hi=>(zh9 (fun d=>ym e d lo) (fun d=>ym e d hi) (x.ev e)).and (k7 (x.needY e) (k7 (Jg e lo) (Jg e hi)))
 |.slSl s x lo hi mx=>(zk5 s (fun d=>ym e d lo) (fun d=>ym e d hi) (U8 e mx) (hi.isNone&&mx.isNone) (x.ev e)).and (k7 (x.needY e) (k7 (Jg e lo) (k7 (Jg e hi) (Jg e mx))))
 |.slAr n s x=>(z5l n s H (x.ev e)).toP.and (x.needY e)
 |.faddr off x=>(Vx off (x.ev e)).toY0.and (x.needY e)
 |.field g n off x=>(z97 g n off (x.ev e)).and (x.needY e)
 |.iaddr s x i=>(z83 s (x.ev e).rd (i.ev e)).and (k7 (x.needY e) (i.needY e))
 |.iaddrA n s x i=>(z2b n s (x.ev e) i (i.ev e)).and (k7 (x.needY e) (i.needY e))
 |.iaddrR n s x i=>(z1q n s H (x.ev e) (i.ev e)).and (k7 (x.needY e) (i.needY e))
 |.idxS x i=>(z8p (x.ev e) (i.ev e)).toY.and (k7 (x.needY e) (i.needY e))
 |.idxA n s g x i=>(zch n s g (x.ev e) i (i.ev e)).and (k7 (x.needY e) (i.needY e))
 |.ext k x=>(zjb k (x.ev e)).and (x.needY e)
 |.len true x=>(z4p (x.ev e)).toY0.and (x.needY e)
 |.len false x=>(z1g (x.ev e).rd).toY0.and (x.needY e)
 |.mnx m args=>(zhc m (evs e args)).and (Yc e args)
 |.mlook ks ka g ok zs x k=>(z76 ks ka g ok zs H (k.ev e) (x.ev e)).and (k7 (x.needY e) (k.needY e))
 |.mlen x=>(z2q H (x.ev e)).toY0.and (x.needY e)
 |_=>.bad
theorem wy(e:Env)(H:AHeap)(op:LOp):(Wt e H op).Of (xe e H op):=by
 have h2:∀ {x y:LOpd},qw (k7 (x.needY e) (y.needY e))→x.need e∧y.need e:=fun h=>by rw[yk,zb,zb] at h;exact h
 cases op<;>simp only[Wt,xe]<;>try trivial
 case mv x=>exact⟨_,rfl,(zb e x).1⟩
 case pick c a b=>
  refine YR.Of.and ?_ (zb e c).1
  unfold zby zao
  split
  ·rename_i cc hcc
   simp only[hcc]
   split
   ·rename_i v hv
    rw[z8b hv]
    refine⟨_,rfl,fun h=>?_⟩
    rw[yk,z16,z16,zb,zb] at h
    exact h
   ·trivial
  ·trivial
 case build zs parts=>exact(z10 _ _).and (V5 e parts).1
 case load g n a=>exact(zbl _ _ _ _).and (zb e a).1
 case nilck x=>
  refine YR.Of.and (XR.toY0_of fun s v h=>?_) (zb e x).1
  unfold Vb at h
  split at h<;>simp only[XR.ok.injEq,reduceCtorEq] at h<;>(obtain⟨rfl,_⟩:=h;trivial)
 case bin op x y=>exact(ze7 _ _ _).and h2
 case eq neg k x y=>exact(zf9 _ _ _ _).and h2
 case mlook ks ka g ok zs x k=>exact(z8f _ _ _ _ _ _ _ _).and h2
 case mlen x=>
  refine YR.Of.and (XR.toY0_of fun s v h=>?_) (zb e x).1
  unfold z2q at h
  split at h<;>(try split at h)<;>simp only[XR.ok.injEq,reduceCtorEq] at h<;>(obtain⟨rfl,_⟩:=h;trivial)
 case un op x=>
  refine YR.Of.and (XR.toY0_of fun s v h=>?_) (zb e x).1
  unfold xun at h
  split at h<;>(try split at h)<;>simp only[XR.ok.injEq,reduceCtorEq] at h<;>(obtain⟨rfl,_⟩:=h;trivial)
 case conv k x=>
  cases k<;>simp only<;>try trivial
  ·split
   ·rename_i h;simp only[h];exact⟨_,rfl,(zb e x).1⟩
   ·trivial
  ·split
   ·rename_i h;simp only[h];exact⟨_,rfl,(zb e x).1⟩
   ·trivial
 case mkfn f a c=>exact⟨_,rfl,fun h=>by rw[yk,wc,wc] at h;exact h⟩
 case slStr x lo hi=>exact(XR.toY_of _).and (fun h=>by rw[yk,yk,zb,kb,kb] at h;exact h)
 case slSl s x lo hi mx=>exact(XR.toP_of _).and (fun h=>by rw[yk,yk,yk,zb,kb,kb,kb] at h;exact h)
 case slAr k s x=>exact(XR.toP_of _).and (zb e x).1
 case faddr off x=>
  refine YR.Of.and (XR.toY0_of fun s v h=>?_) (zb e x).1
  unfold Vx at h
  split at h<;>simp only[XR.ok.injEq,reduceCtorEq] at h<;>(obtain⟨rfl,_⟩:=h;trivial)
 case field g n off x=>exact(z6i _ _ _ _).and (zb e x).1
 case iaddr s x i=>exact(z9d _ _ _).and h2
 case iaddrA n s x i=>exact(z4g _ _ _ _ _).and h2
 case iaddrR n s x i=>exact(z4c _ _ _ _ _).and h2
 case idxS x i=>exact(XR.toY_of _).and h2
 case idxA n s g x i=>exact(z9x _ _ _ _ _ _).and h2
 case ext k x=>exact(zct _ _).and (zb e x).1
 case len st x=>
  cases st with
  |true=>
   refine YR.Of.and (XR.toY0_of fun s v h=>?_) (zb e x).1
   unfold z4p at h
   split at h<;>simp only[XR.ok.injEq,reduceCtorEq] at h<;>(obtain⟨rfl,_⟩:=h;trivial)
  |false=>
   refine YR.Of.and (XR.toY0_of fun s v h=>?_) (zb e x).1
   unfold z1g at h
   split at h<;>simp only[XR.ok.injEq,reduceCtorEq] at h<;>(obtain⟨rfl,_⟩:=h;trivial)
 case mnx m args=>
  refine YR.Of.and ?_ (wc e args).1
  unfold zhc z89
  split
  ·rename_i h;simp only[h];exact z7b _ _ _
  ·trivial
end Go.Fx
namespace Go.Fx
variable {P:Program}
def z99(H:AHeap)(s:Nat):AVal→Option (Option Prop×List (List AVal))
 |.isl s' es _=>match pJ s' s with
  |true=>some (none,es)
  |false=>none
 |.osl _ s' es=>match pJ s' s with
  |true=>some (none,es)
  |false=>none
 |.msl b s' off len _=>match H.get b with
  |some (.rows s'' es)=>match pJ s' s&&pJ s'' s with
   |true=>some (some (off+len≤es.length),(es.drop off).take len)
   |false=>none
  |_=>none
 |.val (.slice none 0 0)=>some (none,[])
 |.str l=>match pJ s 1 with
  |true=>some (none,l.map fun c=>[.int .u8 (c.toNat:Int)])
  |false=>none
 |_=>none
theorem Kj{H:AHeap}{s:Nat}{x:AVal}{so:Option Prop}{rows:List (List AVal)}(h:z99 H s x=some (so,rows)):∃p,jw H s x=some (p,rows)∧(qw so→p):=by
 unfold z99 at h
 unfold jw
 split at h
 ·split at h<;>simp only[p0,pL,reduceCtorEq] at h
  rename_i hb
  obtain⟨rfl,rfl⟩:=h
  exact⟨_,rfl,fun _=>pB hb⟩
 ·split at h<;>simp only[p0,pL,reduceCtorEq] at h
  rename_i hb
  obtain⟨rfl,rfl⟩:=h
  exact⟨_,rfl,fun _=>pB hb⟩
 ·split at h<;>try (cases h;done)
  rename_i hg
  split at h<;>simp only[p0,pL,reduceCtorEq] at h
  rename_i hb
  obtain⟨rfl,rfl⟩:=h
  simp only[pA] at hb
  simp only[hg]
  exact⟨_,rfl,fun hh=>⟨pB hb.1,pB hb.2,hh⟩⟩
 ·simp only[p0,pL] at h
  obtain⟨rfl,rfl⟩:=h
  exact⟨_,rfl,fun _=>trivial⟩
 ·split at h<;>simp only[p0,pL,reduceCtorEq] at h
  rename_i hb
  obtain⟨rfl,rfl⟩:=h
  exact⟨_,rfl,fun _=>pB hb⟩
 ·cases h
def Jx:List (List AVal)→List (Nat×AVal)→Option (List (List AVal))
 |rows,[]=>some rows
 |rows,(i,x)::r=>match x.cells? with
  |some cs=>match pJ cs.length ((rows.getD i []).length)&&pO (i+1) rows.length with
   |true=>Jx (rows.set i cs) r
   |false=>none
  |none=>none
theorem Vk:∀ {parts:List (Nat×AVal)} {rows rs:List (List AVal)},Jx rows parts=some rs→∃p,ug rows parts=some (p,rs)∧p
 |[],rows,rs,h=>by simp only[Jx,p0] at h;subst h;exact⟨True,rfl,trivial⟩
 |(i,x)::r,rows,rs,h=>by
  simp only[Jx] at h
  split at h<;>try (cases h;done)
  rename_i cs hc
  split at h<;>try (cases h;done)
  rename_i hb
  simp only[pA] at hb
  obtain⟨p,h1,h2⟩:=Vk h
  simp only[ug,hc,h1]
  exact⟨_,rfl,pB hb.1,pC hb.2,h2⟩
def zap(s bytes:Nat)(H:AHeap)(n:Nat)(K:AVal→AHeap→Nat→Prop)(x:AVal)(rows2:List (List AVal)):Prop:=
 match x with
 |.val (.slice none 0 0)=>∃es',rows2=es'∧es'.length*bytes≤140737488355328∧K (.osl (n,0) s es') (((n,0),.tok)::H) (n+1)
 |.isl s' es f=>match pJ s' s with
  |true=>∃es',es++rows2=es'∧(f=true∧es'.length*bytes≤140737488355328)∧K (.osl (n,0) s es') (((n,0),.tok)::H) (n+1)
  |false=>False
 |.osl tok s' es=>match pJ s' s,H.get tok with
  |true,some .tok=>∃es',es++rows2=es'∧es'.length*bytes≤140737488355328∧K (.osl (n,0) s es') (((n,0),.tok)::H.del tok) (n+1)
  |_,_=>False
 |_=>False
theorem z3h{s bytes:Nat}{H:AHeap}{n:Nat}{K K':AVal→AHeap→Nat→Prop}{x:AVal}{rows2:List (List AVal)}(h:zap s bytes H n K x rows2)(hk:∀r H n,K r H n→K' r H n):Uf s bytes H n K' x rows2:=by
 unfold zap at h
 unfold Uf
 split at h
 ·obtain⟨es',rfl,h1,h2⟩:=h
  exact⟨h1,hk _ _ _ h2⟩
 ·split at h<;>try (exact h.elim)
  rename_i hb
  obtain⟨es',rfl,⟨h0,h1⟩,h2⟩:=h
  exact⟨pB hb,h0,by simpa using h1,hk _ _ _ h2⟩
 ·split at h<;>try (exact h.elim)
  rename_i hb hg
  obtain⟨es',rfl,h1,h2⟩:=h
  exact⟨pB hb,hg,by simpa using h1,hk _ _ _ h2⟩
 ·exact h.elim
def zi7(s bytes:Nat)(H:AHeap)(n:Nat)(K:AVal→AHeap→Nat→Prop)(x:AVal)(rows2:List (List AVal)):Prop:=
 match x with
 |.val (.slice none 0 0)=>rows2≠[]∧∃es',rows2=es'∧es'.length*bytes≤140737488355328∧K (.msl (n,0) s 0 es'.length false) (((n,0),.rows s es')::H) (n+1)
 |.isl s' es f=>match pJ s' s with
  |true=>rows2≠[]∧∃es',es++rows2=es'∧(f=true∧es'.length*bytes≤140737488355328)∧K (.msl (n,0) s 0 es'.length false) (((n,0),.rows s es')::H) (n+1)
  |false=>False
 |.msl b s' off len f=>match H.get b with
  |some (.rows s'' es)=>match pJ s' s&&pJ s'' s with
   |true=>(f=true→rows2≠[])∧off+len≤es.length∧∃es',(es.drop off).take len++rows2=es'∧es'.length*bytes≤140737488355328 ∧
    K (.msl (n,0) s 0 es'.length false) (((n,0),.rows s es')::(match f with|true=>H|false=>H.del b)) (n+1)
   |false=>False
  |_=>False
 |_=>False
theorem zee{s bytes:Nat}{H:AHeap}{n:Nat}{K K':AVal→AHeap→Nat→Prop}{x:AVal}{rows2:List (List AVal)}(h:zi7 s bytes H n K x rows2)(hk:∀r H n,K r H n→K' r H n):z9m s bytes H n K' x rows2:=by
 unfold zi7 at h
 unfold z9m
 split at h
 ·obtain⟨h0,es',rfl,h1,h2⟩:=h
  exact⟨fun h=>absurd h h0,fun _=>⟨h1,hk _ _ _ h2⟩⟩
 ·split at h<;>try (exact h.elim)
  rename_i hb
  obtain⟨hne,es',rfl,⟨h0,h1⟩,h2⟩:=h
  exact⟨pB hb,fun h=>absurd h hne,fun _=>⟨h0,by simpa using h1,by simpa using hk _ _ _ h2⟩⟩
 ·split at h<;>try (exact h.elim)
  rename_i hg
  split at h<;>try (exact h.elim)
  rename_i hb
  simp only[pA] at hb
  obtain⟨hne,hl,es',rfl,h1,h2⟩:=h
  simp only[hg]
  rename_i off len f _ _ es _
  have e:((es.drop off).take len).length=len:=List.length_take_of_le (by simp only[List.length_drop];omega)
  refine⟨pB hb.1,pB hb.2,hl,fun hf h=>absurd h (hne hf),fun _=>?_⟩
  rw[List.length_append,e] at h1 h2
  refine⟨h1,hk _ _ _ ?_⟩
  cases f<;>simpa using h2
 ·exact h.elim
def zf7(P:Program)(e:Env)(H:AHeap)(n:Nat)(K:AVal→AHeap→Nat→Prop):LOp→Prop
 |.alloc zs=>K (.ptr (n,0) 0 0) (((n,0),.one zs)::H) (n+1)
 |.allocB T el=>K (.ptr (n,0) 0 0) (((n,0),.bld T (n,1))::((n,1),.buf el [])::H) (n+1)
 |.allocR s zs=>∃es',uw s (zs.length / s) zs=es'∧K (.ptr (n,0) 0 0) (((n,0),.rows s es')::H) (n+1)
 |.box x=>match (x.ev e).cells? with
  |some cs=>Yi (x.needY e) (K (.ptr (n,0) 0 0) (((n,0),.one cs)::H) (n+1))
  |none=>False
 |.mkSl vm s zs len parts=>match Jx (List.replicate len zs) (evI e parts),pJ zs.length s with
  |some rows,true=>match vm with
   |true=>match x7 rows with
    |some rows'=>Yi (Vs e parts) (K (.isl s (rows'.map (yy zs)) true) H n)
    |none=>False
   |false=>Yi (Vs e parts) (K (.msl (n,0) s 0 len true) (((n,0),.rows s (rows.map (yy zs)))::H) (n+1))
  |_,_=>False
 |.store m a x=>match a.ev e,(x.ev e).cells? with
  |.ptr b i off,some cs=>match H.get b with
   |some (.rows s es)=>Yi (k7 (a.needY e) (x.needY e)) (∃es',es.set i (qt (es.getD i []) off cs)=es'∧(cs.length=m∧i<es.length∧off+m≤s)∧K .any (H.set b (.rows s es')) n)
   |some (.one rs)=>match i,pJ cs.length m&&pO (off+m) rs.length with
    |0,true=>Yi (k7 (a.needY e) (x.needY e)) (K .any (H.set b (.one (qt rs off cs))) n)
    |_,_=>False
   |_=>False
  |_,_=>False
 |.conv (.s2b vm) x=>match x.ev e with
  |.str l=>match vm with
   |true=>Yi (x.needY e) (∃es',(l.map fun c=>[AVal.int .u8 (c.toNat:Int)])=es'∧K (.isl 1 es' false) H n)
   |false=>Yi (x.needY e) (K (.msl (n,0) 1 0 l.length false) (((n,0),.rows 1 (l.map fun c=>[.int .u8 (c.toNat:Int)]))::H) (n+1))
  |_=>False
 |.conv .b2s x=>match x.ev e,z99 H 1 (x.ev e) with
  |.str _,_=>False
  |_,some (so,rows)=>Yi (k7 (x.needY e) so) (∃l:List UInt8,rows.map Qv=l∧(∀r∈rows,∃m,r=[.int .u8 m])∧K (.str l) H n)
  |_,none=>False
 |.mkslice vm s bytes zs l c=>match l.ev e,c.ev e with
  |.int .i64 l',.int .i64 c'=>match vm with
   |true=>Yi (k7 (l.needY e) (c.needY e)) ((l'=0∧l'≤c'∧c'*bytes≤140737488355328)∧K (.osl (n,0) s []) (((n,0),.tok)::H) (n+1))
   |false=>Yi (k7 (l.needY e) (c.needY e)) (∃es' fl,(List.replicate l'.toNat (yy zs zs)=es'∨List.replicate l'.toNat zs=es')∧decide (c'=l')=fl∧(0≤l'∧l'≤c'∧c'*bytes≤140737488355328)∧K (.msl (n,0) s 0 es'.length fl) (((n,0),.rows s es')::H) (n+1))
  |_,_=>False
 |.call f args=>Yi (Yc e args) (ACalls P f (evs e args) H n K)
 |.callv x args=>match x.ev e with
  |.fn f first caps=>Yi (k7 (x.needY e) (Yc e args)) (ACallsC P f first (evs e args) caps H n K)
  |_=>False
 |.app vm s bytes x y=>match z99 H s (y.ev e) with
  |some (so,rows2)=>match vm with
   |true=>match y.ev e with
    |.msl _ _ _ _ _=>Yi (k7 (x.needY e) (k7 (y.needY e) so)) (∃rows2',x7 rows2=some rows2'∧zap s bytes H n K (x.ev e) rows2')
    |_=>Yi (k7 (x.needY e) (k7 (y.needY e) so)) (zap s bytes H n K (x.ev e) rows2)
   |false=>Yi (k7 (x.needY e) (k7 (y.needY e) so)) (zi7 s bytes H n K (x.ev e) rows2)
  |none=>False
 |.copy s x y=>match x.ev e,z99 H s (y.ev e) with
  |.msl b s' off len _,some (so,rows2)=>match H.get b with
   |some (.rows s'' es)=>match pJ s' s&&pJ s'' s with
    |true=>Yi (k7 (x.needY e) (k7 (y.needY e) so)) (∃es',es.take off++rows2.take len++es.drop (off+min rows2.length len)=es'∧off+len≤es.length ∧
     K (.int .i64 ((min rows2.length len:Nat):Int)) (H.set b (.rows s es')) n)
    |false=>False
   |_=>False
  |_,_=>False
 |.mkmap none=>K (.map (n,0)) (((n,0),.amap [])::H) (n+1)
 |.mset ks ka g zs m k x=>match m.ev e,zex g zs (x.ev e) with
  |.map b,some y=>match H.get b,ue ks ka (k.ev e) with
   |some (.amap es),true=>Yi (k7 (m.needY e) (k7 (k.needY e) (x.needY e))) (∃es',zbm ks (k.ev e) y es=some es'∧K .any (H.set b (.amap es')) n)
   |_,_=>False
  |_,_=>False
 |.mdel ks ka m k=>match m.ev e with
  |.map b=>match H.get b,ue ks ka (k.ev e) with
   |some (.amap es),true=>Yi (k7 (m.needY e) (k.needY e)) (∃es',Ki ks (k.ev e) es=some es'∧K .any (H.set b (.amap es')) n)
   |_,_=>False
  |_=>False
 |.range x=>match x.ev e with
  |.map b=>match H.get b with
   |some (.amap es)=>Yi (x.needY e) (∀ (arr:Array MapEntry) (ck:Nat),K (.ptr (n,0) 0 0) (((n,0),.itr (some b) arr ck [])::H.set b (.rmap es arr ck)) (n+1))
   |_=>False
  |.val (.map none)=>Yi (x.needY e) (K (.ptr (n,0) 0 0) (((n,0),.itr none #[] 0 [])::H) (n+1))
  |_=>False
 |.next x=>match x.ev e with
  |.ptr i 0 0=>match H.get i with
   |some (.itr none _ _ _)=>Yi (x.needY e) (K (.tup [.bool false]) H n)
   |some (.itr (some b) arr ck seen)=>match H.get b with
    |some (.rmap es arr' ck')=>Yi (x.needY e) ((arr'=arr∧ck'=ck)∧((∀j,j<es.length→j∈seen)→K (.tup [.bool false]) H n) ∧
     (∀j,j<es.length→j∉seen→K (.tup [.bool true,.any,.any]) (H.set i (.itr (some b) arr ck (j::seen))) n))
    |_=>False
   |_=>False
  |_=>False
 |.entry x=>match x.ev e with
  |.ptr i 0 0=>match H.get i with
   |some (.itr (some b) arr ck (j::seen))=>match H.get b with
    |some (.rmap es arr' ck')=>Yi (x.needY e) ((arr'=arr∧ck'=ck)∧∃p,es[j]?=some p∧K (.tup [p.1,p.2]) H n)
    |_=>False
   |_=>False
  |_=>False
 |_=>False
theorem K6{e:Env}{H:AHeap}{n:Nat}{K K':AVal→AHeap→Nat→Prop}{op:LOp}(h:zf7 P e H n K op)(hk:∀r H n,K r H n→K' r H n):xw P e H n K' op:=by
 have h2:∀ {x y:LOpd},qw (k7 (x.needY e) (y.needY e))→x.need e∧y.need e:=fun h=>by rw[yk,zb,zb] at h;exact h
 cases op<;>simp only[zf7] at h<;>try (exact h.elim)
 case alloc zs=>exact hk _ _ _ h
 case allocR s zs=>obtain⟨es',rfl,h⟩:=h;exact hk _ _ _ h
 case allocB T el=>exact hk _ _ _ h
 case box x=>
  simp only[xw]
  split at h<;>try (exact h.elim)
  rename_i cs hc
  rw[yj,zb] at h
  simp only[hc]
  exact⟨h.1,hk _ _ _ h.2⟩
 case mkSl vm s zs len parts=>
  simp only[xw]
  split at h<;>try (exact h.elim)
  rename_i rows hr hb
  obtain⟨p,h1,h1'⟩:=Vk hr
  have hb:=pB hb
  simp only[h1]
  cases vm with
  |true=>
   simp only at h ⊢
   split at h<;>try (exact h.elim)
   rename_i rows' hi
   rw[yj,Qr] at h
   simp only[hi]
   exact⟨hb,h.1,h1',hk _ _ _ h.2⟩
  |false=>
   simp only at h ⊢
   rw[yj,Qr] at h
   exact⟨hb,h.1,h1',_,.inl rfl,hk _ _ _ h.2⟩
 case store m a x=>
  simp only[xw]
  split at h<;>try (exact h.elim)
  rename_i b i off cs ha hc
  simp only[ha,hc]
  split at h
  ·rename_i s es hg
   simp only[hg]
   rw[yj] at h
   obtain⟨hn,es',rfl,⟨k1,k2,k3⟩,k4⟩:=h
   exact⟨(h2 hn).1,(h2 hn).2,k1,k2,k3,hk _ _ _ k4⟩
  ·rename_i rs hg
   simp only[hg]
   split at h<;>try (exact h.elim)
   rename_i hb
   simp only[pA] at hb
   rw[yj] at h
   exact⟨(h2 h.1).1,(h2 h.1).2,pB hb.1,rfl,pC hb.2,hk _ _ _ h.2⟩
  ·exact h.elim
 case conv k x=>
  cases k<;>simp only at h<;>try (exact h.elim)
  case s2b vm=>
   simp only[xw]
   split at h<;>try (exact h.elim)
   rename_i l hl
   simp only[hl]
   cases vm with
   |false=>simp only at h ⊢;rw[yj,zb] at h;exact⟨h.1,hk _ _ _ h.2⟩
   |true=>
    simp only at h ⊢
    rw[yj,zb] at h
    obtain⟨h1,es',rfl,h2⟩:=h
    exact⟨h1,hk _ _ _ h2⟩
  case b2s=>
   simp only[xw]
   split at h<;>try (exact h.elim)
   rename_i so rows hr hns
   obtain⟨p,h1,h1'⟩:=Kj hr
   simp only[h1]
   rw[yj,yk,zb] at h
   obtain⟨⟨k1,k2⟩,l,rfl,k4,k3⟩:=h
   exact⟨k1,fun l' hl'=>hns l' hl',h1' k2,k4,hk _ _ _ k3⟩
 case mkslice vm s bytes zs l c=>
  simp only[xw]
  split at h<;>try (exact h.elim)
  rename_i l' c' hl hc
  simp only[hl,hc]
  cases vm with
  |true=>
   simp only at h ⊢
   rw[yj] at h
   obtain⟨hn,⟨k1,k2,k3⟩,k4⟩:=h
   exact⟨(h2 hn).1,(h2 hn).2,k1,k2,k3,hk _ _ _ k4⟩
  |false=>
   simp only at h ⊢
   rw[yj] at h
   obtain⟨hn,es',fl,hes,rfl,⟨k1,k2,k3⟩,k4⟩:=h
   have hlen:es'.length=l'.toNat:=by rcases hes with rfl|rfl<;>simp
   rw[hlen] at k4
   exact⟨(h2 hn).1,(h2 hn).2,k1,k2,k3,es',hes.imp Eq.symm Eq.symm,hk _ _ _ k4⟩
 case mkmap r=>
  cases r with
  |none=>exact hk _ _ _ h
  |some x=>exact h.elim
 case range x=>
  simp only[xw]
  split at h
  ·rename_i b hx
   simp only[hx]
   split at h<;>try (exact h.elim)
   rename_i es hg
   simp only[hg]
   rw[yj,zb] at h
   exact⟨h.1,fun arr ck=>hk _ _ _ (h.2 arr ck)⟩
  ·rename_i hx
   simp only[hx]
   rw[yj,zb] at h
   exact⟨h.1,hk _ _ _ h.2⟩
  ·exact h.elim
 case next x=>
  simp only[xw]
  split at h<;>try (exact h.elim)
  rename_i i hx
  simp only[hx]
  split at h
  ·rename_i hg
   simp only[hg]
   rw[yj,zb] at h
   exact⟨h.1,hk _ _ _ h.2⟩
  ·rename_i hg
   simp only[hg]
   split at h<;>try (exact h.elim)
   rename_i hb
   simp only[hb]
   rw[yj,zb] at h
   obtain⟨h1,⟨h2,h3⟩,h4,h5⟩:=h
   exact⟨h1,h2,h3,fun q=>hk _ _ _ (h4 q),fun j q1 q2=>hk _ _ _ (h5 j q1 q2)⟩
  ·exact h.elim
 case entry x=>
  simp only[xw]
  split at h<;>try (exact h.elim)
  rename_i i hx
  simp only[hx]
  split at h<;>try (exact h.elim)
  rename_i hg
  simp only[hg]
  split at h<;>try (exact h.elim)
  rename_i hb
  simp only[hb]
  rw[yj,zb] at h
  obtain⟨h1,⟨h2,h3⟩,p,h4,h5⟩:=h
  exact⟨h1,h2,h3,p,h4,hk _ _ _ h5⟩
 case mset ks ka g zs m k x=>
  simp only[xw]
  split at h<;>try (exact h.elim)
  rename_i b y hm hy
  simp only[hm,hy]
  split at h<;>try (exact h.elim)
  rename_i es hg hok
  simp only[hg]
  rw[yj,yk,yk,zb,zb,zb] at h
  obtain⟨⟨h1,h2',h3⟩,es',h4,h5⟩:=h
  simp only[h4]
  exact⟨h1,h2',h3,hok,hk _ _ _ h5⟩
 case mdel ks ka m k=>
  simp only[xw]
  split at h<;>try (exact h.elim)
  rename_i b hm
  simp only[hm]
  split at h<;>try (exact h.elim)
  rename_i es hg hok
  simp only[hg]
  rw[yj,yk,zb,zb] at h
  obtain⟨⟨h1,h2'⟩,es',h4,h5⟩:=h
  simp only[h4]
  exact⟨h1,h2',hok,hk _ _ _ h5⟩
 case call f args=>
  rw[yj,wc] at h
  exact⟨h.1,h.2.mono hk⟩
 case callv x args=>
  simp only[xw]
  split at h<;>try (exact h.elim)
  rename_i f first caps hx
  rw[yj,yk,zb,wc] at h
  simp only[hx]
  exact⟨h.1.1,h.1.2,h.2.mono hk⟩
 case app vm s bytes x y=>
  simp only[xw]
  split at h<;>try (exact h.elim)
  rename_i so rows2 hr
  obtain⟨p,h1,h1'⟩:=Kj hr
  simp only[h1]
  cases vm with
  |true=>
   simp only at h ⊢
   split at h
   ·rename_i hy
    rw[yj,yk,yk,zb,zb] at h
    obtain⟨⟨k1,k2,k3⟩,rows2',k4,k5⟩:=h
    have:Xo (y.ev e) rows2=some rows2':=by rw[hy];exact k4
    simp only[this]
    exact⟨k1,k2,h1' k3,z3h k5 hk⟩
   ·rename_i hy
    rw[yj,yk,yk,zb,zb] at h
    obtain⟨⟨k1,k2,k3⟩,k5⟩:=h
    have:Xo (y.ev e) rows2=some rows2:=by
     unfold Xo
     split
     ·rename_i h;exact absurd h (hy _ _ _ _ _)
     ·rfl
    simp only[this]
    exact⟨k1,k2,h1' k3,z3h k5 hk⟩
  |false=>
   simp only at h ⊢
   rw[yj,yk,yk,zb,zb] at h
   obtain⟨⟨k1,k2,k3⟩,k5⟩:=h
   exact⟨k1,k2,h1' k3,zee k5 hk⟩
 case copy s x y=>
  simp only[xw]
  split at h<;>try (exact h.elim)
  rename_i b s' off len f so rows2 hx hr
  obtain⟨p,h1,h1'⟩:=Kj hr
  simp only[hx,h1]
  split at h<;>try (exact h.elim)
  rename_i s'' es hg
  simp only[hg]
  split at h<;>try (exact h.elim)
  rename_i hb
  simp only[pA] at hb
  rw[yj,yk,yk,zb,zb] at h
  obtain⟨⟨k1,k2,k3⟩,es',rfl,k4,k5⟩:=h
  exact⟨k1,k2,h1' k3,pB hb.1,pB hb.2,k4,hk _ _ _ k5⟩
def za5(P:Program):List LOper→(Env→AHeap→Nat→Prop)→Env→AHeap→Nat→Prop
 |[],R,e,H,n=>R e H n
 |⟨d,op,none⟩::os,R,e,H,n=>match yx op with
  |true=>(Wt e H op).run (fun v=>za5 P os R (e.put d v) H n)
  |false=>zf7 P e H n (fun r H' n'=>za5 P os R (e.put d r) H' n') op
 |⟨d,op,some (g,want)⟩::os,R,e,H,n=>match jd (e.get g) want with
  |some p=>match yx op with
   |true=>(Wt e H op).runG p (fun v=>za5 P os R (e.put d v) H n)
   |false=>Xi p H n (fun K=>zf7 P e H n K op) (fun r H' n'=>za5 P os R (e.put d r) H' n')
  |none=>False
theorem Wk{p:Bool}{H:AHeap}{n:Nat}{E E':(AVal→AHeap→Nat→Prop)→Prop}{K K':AVal→AHeap→Nat→Prop}(h:Xi p H n E K)(hE:∀ {K K':AVal→AHeap→Nat→Prop},E K→(∀r H n,K r H n→K' r H n)→E' K')(hk:∀r H n,K r H n→K' r H n):Xi p H n E' K':=by
 rcases h with⟨R,h1,h2⟩|⟨h1,h2⟩
 ·exact .inl ⟨R,fun hp=>hE (h1 hp) (fun _ _ _ h=>h),hk _ _ _ h2⟩
 ·exact .inr ⟨fun hp=>hE (h1 hp) hk,fun hp=>by obtain⟨u,h3,h4⟩:=h2 hp;exact⟨u,h3,hk _ _ _ h4⟩⟩
def zjn(x:XR)(p:Bool)(K:AVal→Prop):Prop:=match x with
 |.ok side v=>(∃u,(p=true→side∧v=u)∧K (.cnd p u))∨(p=false∧K (.tup []))
 |.bad=>p=false∧K (.tup [])
theorem Qj{r:YR}{x:XR}(h:r.Of x){p:Bool}{K:AVal→Prop}(hk:r.runG p K):zjn x p K:=by
 have other:(p=false∧K (.tup []))→zjn x p K:=fun h'=>by
  cases x with
  |ok s v=>exact .inr h'
  |bad=>exact h'
 cases r with
 |ok s v=>
  obtain⟨side,rfl,hs⟩:=h
  cases s with
  |none=>exact .inl ⟨v,fun _=>⟨hs trivial,rfl⟩,hk⟩
  |some q=>exact .inl ⟨v,fun hp=>⟨hs (hk.1 hp),rfl⟩,hk.2⟩
 |row es i s f=>
  obtain⟨side,rfl,hs⟩:=h
  obtain⟨r,h1,h2⟩:=hk
  refine .inl ⟨f r,fun hp=>?_,h2⟩
  obtain⟨rfl,h3⟩:=h1 hp
  exact⟨hs h3,rfl⟩
 |pick v0 s=>
  obtain⟨side,rfl,hs⟩:=h
  obtain⟨v,h1,h2⟩:=hk
  refine .inl ⟨v,fun hp=>?_,h2⟩
  obtain⟨rfl,h3⟩:=h1 hp
  exact⟨hs h3,rfl⟩
 |fork j len s f=>exact other hk
 |bad=>exact other hk
theorem Zs{R:Env→AHeap→Nat→Prop}:∀ (os:List LOper) {e:Env} {H:AHeap} {n:Nat},za5 P os R e H n→Zn P os R e H n
 |[],e,H,n,h=>h
 |⟨d,op,none⟩::os,e,H,n,h=>by
  simp only[za5] at h
  simp only[Zn]
  split at h
  ·rename_i hp
   obtain⟨side,v,h1,h2,h3⟩:=(wy e H op).run h
   simp only[hp,h1]
   exact⟨h2,Zs os h3⟩
  ·rename_i hp
   simp only[hp]
   exact K6 h (fun r H' n' h=>Zs os h)
 |⟨d,op,some (g,want)⟩::os,e,H,n,h=>by
  simp only[za5] at h
  simp only[Zn]
  split at h<;>try (exact h.elim)
  rename_i p hg
  simp only[hg]
  split at h
  ·rename_i hp
   simp only[hp]
   have:=Qj (wy e H op) h
   cases hx:xe e H op with
   |ok side v=>
    rw[hx] at this
    rcases this with⟨u,h1,h2⟩|⟨h1,h2⟩
    ·exact .inl ⟨u,h1,Zs os h2⟩
    ·exact .inr ⟨h1,Zs os h2⟩
   |bad=>
    rw[hx] at this
    exact⟨this.1,Zs os this.2⟩
  ·rename_i hp
   simp only[hp]
   exact Wk h (fun h hk=>K6 h hk) (fun r H' n' h=>Zs os h)
def yqs:List LOper→(Env→AHeap→Nat→Prop)→Env→AHeap→Nat→Prop
 |[],R,e,H,n=>R e H n
 |⟨d,op,none⟩::os,R,e,H,n=>(Wt e H op).run (fun v=>yqs os R (e.put d v) H n)
 |⟨d,op,some (g,want)⟩::os,R,e,H,n=>match jd (e.get g) want with
  |some p=>(Wt e H op).runG p (fun v=>yqs os R (e.put d v) H n)
  |none=>False
theorem Uj{R:Env→AHeap→Nat→Prop}:∀ (os:List LOper) {e:Env} {H:AHeap} {n:Nat},yqs os R e H n→xqs os R e H n
 |[],e,H,n,h=>h
 |⟨d,op,none⟩::os,e,H,n,h=>by
  simp only[yqs] at h
  simp only[xqs]
  obtain⟨side,v,h1,h2,h3⟩:=(wy e H op).run h
  simp only[h1]
  exact⟨h2,Uj os h3⟩
 |⟨d,op,some (g,want)⟩::os,e,H,n,h=>by
  simp only[yqs] at h
  simp only[xqs]
  split at h<;>try (exact h.elim)
  rename_i p hg
  simp only[hg]
  have:=Qj (wy e H op) h
  cases hx:xe e H op with
  |ok side v=>
   rw[hx] at this
   rcases this with⟨u,h1,h2⟩|⟨h1,h2⟩
   ·exact .inl ⟨u,h1,Uj os h2⟩
   ·exact .inr ⟨h1,Uj os h2⟩
  |bad=>
   rw[hx] at this
   exact⟨this.1,Uj os this.2⟩
def zd5(e:Env)(H:AHeap)(lo:LOper)(K:AVal→Prop):Prop:=
 match lo.guard with
 |none=>(Wt e H lo.op).run K
 |some (g,want)=>match jd (e.get g) want with
  |some p=>(Wt e H lo.op).runG p K
  |none=>False
theorem z9r{e:Env}{H:AHeap}{lo:LOper}{K:AVal→Prop}(h:zd5 e H lo K):∃v,(uk e H lo).gives v∧K v:=by
 unfold zd5 at h
 unfold uk
 split at h
 ·rename_i hg
  simp only[hg]
  obtain⟨side,v,h1,h2,h3⟩:=(wy _ _ _).run h
  rw[h1]
  exact⟨v,⟨h2,.inl rfl⟩,h3⟩
 ·rename_i g want hgu
  simp only[hgu]
  split at h<;>try (exact h.elim)
  rename_i p hg
  simp only[hg]
  have:=Qj (wy e H lo.op) h
  cases hx:xe e H lo.op with
  |ok side v=>
   rw[hx] at this
   rcases this with⟨u,h1,h2⟩|⟨h1,h2⟩
   ·exact⟨.cnd p u,⟨fun hp=>(h1 hp).1,.inr (.inr ⟨p,v,u,rfl,rfl,fun hp=>(h1 hp).2⟩)⟩,h2⟩
   ·subst h1
    exact⟨.tup [],⟨(fun hp=>by cases hp),.inr (.inl ⟨.inr ⟨v,rfl⟩,.inl rfl⟩)⟩,h2⟩
  |bad=>
   rw[hx] at this
   exact⟨.tup [],⟨this.1,.inl rfl⟩,this.2⟩
def YR.gives(r:YR)(v:AVal):Prop:=match r with
 |.ok s u=>Yi s (u=v)
 |.row es i s f=>s∧f (es.getD i [])=v
 |.pick u s=>s∧u=v
 |_=>False
theorem YR.Of.gives{r:YR}{x:XR}(h:r.Of x){v:AVal}(hg:r.gives v):∃side,x=.ok side v∧side:=by
 cases r with
 |ok s u=>
  obtain⟨side,rfl,hs⟩:=h
  rw[YR.gives,yj] at hg
  obtain⟨h1,rfl⟩:=hg
  exact⟨side,rfl,hs h1⟩
 |row es i s f=>
  obtain⟨side,rfl,hs⟩:=h
  obtain⟨h1,rfl⟩:=hg
  exact⟨side,rfl,hs h1⟩
 |pick u s=>
  obtain⟨side,rfl,hs⟩:=h
  obtain⟨h1,rfl⟩:=hg
  exact⟨side,rfl,hs h1⟩
 |fork j len s f=>exact hg.elim
 |bad=>exact hg.elim
def z2e(e:Env)(H:AHeap)(lo:LOper)(v:AVal):Prop:=
 match lo.guard with
 |none=>(Wt e H lo.op).gives v
 |some (g,want)=>match jd (e.get g) want,v with
  |some p,.cnd q u=>q=p∧(p=true→(Wt e H lo.op).gives u)
  |_,_=>False
theorem z4r{e:Env}{H:AHeap}{lo:LOper}{v:AVal}(h:z2e e H lo v):(uk e H lo).gives v:=by
 unfold z2e at h
 unfold uk
 split at h
 ·rename_i hg
  simp only[hg]
  obtain⟨side,h1,h2⟩:=(wy _ _ _).gives h
  rw[h1]
  exact⟨h2,.inl rfl⟩
 ·rename_i g want hgu
  simp only[hgu]
  split at h<;>try (exact h.elim)
  rename_i p q u hg
  simp only[hg]
  obtain⟨rfl,h⟩:=h
  cases q with
  |true=>
   obtain⟨side,h1,h2⟩:=(wy _ _ _).gives (h rfl)
   rw[h1]
   exact⟨fun _=>h2,.inl rfl⟩
  |false=>
   cases xe e H lo.op with
   |ok side x=>exact⟨(fun hp=>by cases hp),.inr (.inl ⟨.inr ⟨x,rfl⟩,.inr ⟨u,rfl⟩⟩)⟩
   |bad=>exact⟨rfl,.inr (.inl ⟨.inl rfl,.inr ⟨u,rfl⟩⟩)⟩
def z01(loose:List Nat)(H:AHeap)(q:Prop):List (Nat×LOper×Env×AVal)→Prop
 |[]=>q
 |x::r=>match loose.contains x.1 with
  |true=>z2e x.2.2.1 H x.2.1 x.2.2.2∧z01 loose H q r
  |false=>z01 loose H q r
theorem W2{loose:List Nat}{H:AHeap}{q:Prop}:∀ {done:List (Nat×LOper×Env×AVal)},z01 loose H q done→(∀x∈done,x.1∈loose→(uk x.2.2.1 H x.2.1).gives x.2.2.2)∧q
 |[],h=>⟨fun x hx=>absurd hx (List.not_mem_nil),h⟩
 |y::r,h=>by
  unfold z01 at h
  split at h
  ·obtain⟨h1,h2⟩:=h
   obtain⟨h3,h4⟩:=W2 h2
   refine⟨fun x hx hl=>?_,h4⟩
   rcases pP.1 hx with rfl|hx
   ·exact z4r h1
   ·exact h3 x hx hl
  ·rename_i hc
   obtain⟨h3,h4⟩:=W2 h
   refine⟨fun x hx hl=>?_,h4⟩
   rcases pP.1 hx with rfl|hx
   ·rw[List.contains_iff_mem.2 hl] at hc;cases hc
   ·exact h3 x hx hl
def zcg(P:Program)(e:Env)(H:AHeap)(n:Nat)(K:AVal→AHeap→Nat→Prop)(lo:LOper):Prop:=
 match lo.guard with
 |none=>zf7 P e H n K lo.op
 |some (g,want)=>match jd (e.get g) want with
  |some p=>Xi p H n (fun K=>zf7 P e H n K lo.op) K
  |none=>False
theorem z9q{e:Env}{H:AHeap}{n:Nat}{K K':AVal→AHeap→Nat→Prop}{lo:LOper}(h:zcg P e H n K lo)(hk:∀r H n,K r H n→K' r H n):Jk P e H n K' lo:=by
 unfold zcg at h
 unfold Jk
 split at h
 ·rename_i hg;simp only[hg];exact K6 h hk
 ·rename_i g want hg
  simp only[hg]
  split at h
  ·rename_i p hp;simp only[hp];exact Wk h (fun h hk=>K6 h hk) hk
  ·exact h.elim
def zfh(b:Bool)(x:Nat×LOper×Env×AVal)(done:List (Nat×LOper×Env×AVal)):List (Nat×LOper×Env×AVal):=match b with
 |true=>x::done
 |false=>done
def yd(P:Program):List DItem→Nat→List (Nat×LOper×Env×AVal)→(Env→AHeap→Nat→Prop)→Env→AHeap→Nat→Prop
 |[],_,_,R,e,H,n=>R e H n
 |it::rest,p,done,R,e,H,n=>
  match yx it.lo.op with
  |true=>zd5 (it.lo.sees e) H it.lo (fun v=>yd P rest (p+1) (zfh (jf it.lo.op) (p,it.lo,it.lo.sees e,v) done) R (e.put it.lo.dst v) H n)
  |false=>zcg P (it.lo.sees e) H n (fun v H' n'=>z01 it.loose H' (yd P rest (p+1) done R (e.put it.lo.dst v) H' n') done) it.lo
theorem zam{R:Env→AHeap→Nat→Prop}:∀ (items:List DItem) {p:Nat} {done:List (Nat×LOper×Env×AVal)} {e:Env} {H:AHeap} {n:Nat},yd P items p done R e H n→xd P items p done R e H n
 |[],p,done,e,H,n,h=>h
 |it::rest,p,done,e,H,n,h=>by
  unfold yd at h
  unfold xd
  split at h
  ·rename_i hp
   obtain⟨v,h2,h3⟩:=z9r h
   simp only[hp]
   refine⟨v,h2,zam rest ?_⟩
   cases hl:jf it.lo.op<;>rw[hl] at h3<;>simpa[zfh] using h3
  ·rename_i hp
   simp only[hp]
   exact z9q h (fun r H' n' hh=>by
    obtain⟨h1,h2⟩:=W2 hh
    exact⟨h1,zam rest h2⟩)
def z1r(P:Program)(N:Lay)(n0:Nat):LCode→(Exit→Env→AHeap→Nat→Prop)→Env→AHeap→Nat→Prop
 |.skip,Q,e,H,n=>Q .normal e H n
 |.region ops,Q,e,H,n=>za5 P ops (Q .normal) e H n
 |.quiet ops,Q,e,H,n=>yqs ops (Q .normal) e H n
 |.draw items,Q,e,H,n=>yd P items 0 [] (Q .normal) e H n
 |.draw2 a b items,Q,e,H,n=>yd P items 0 [] (fun e H n=>z0y (a.ev e) (b.ev e)∧Q .normal e H n) e H n
 |.seq a b,Q,e,H,n=>z1r P N n0 a (fun ex e H n=>match ex with|.normal=>z1r P N n0 b Q e H n|ex=>Q ex e H n) e H n
 |.cond c a b,Q,e,H,n=>match c.ev e with
  |.bool v=>Yi (c.needY e) ((v=true→z1r P N n0 a Q e H n)∧(v=false→z1r P N n0 b Q e H n))
  |_=>False
 |.block id c,Q,e,H,n=>z1r P N n0 c (fun ex e H n=>match ex with|.exit i=>(match pJ i id with|true=>Q .normal e H n|false=>Q (.exit i) e H n)|ex=>Q ex e H n) e H n
 |.loop c,Q,e,H,n=>LWp P N n0 (.loop c) Q e H n
 |.rng g ps a b,Q,e,H,n=>LWp P N n0 (.rng g ps a b) Q e H n
 |.dfr f t,Q,e,H,n=>z1i P f∧Q .normal (e.put (some t) .any) H n
 |.exit id,Q,e,H,n=>Q (.exit id) e H n
 |.ret,Q,e,H,n=>Q .ret e H n
theorem kx{N:Lay}{n0:Nat}{a b:LCode}{Q:Exit→Env→AHeap→Nat→Prop}{e:Env}{H:AHeap}{n:Nat}(h:LWp P N n0 a (fun ex e H n=>match ex with|.normal=>LWp P N n0 b Q e H n|ex=>Q ex e H n) e H n):LWp P N n0 (.seq a b) Q e H n:=by
 intro c hc ro hro I0 β0 H0 w0 I β w aa hX hI hE hN hD QQ hQ
 cases c with
 |seq x y=>
  simp only[zf] at hc
  split at hc<;>try (cases hc;done)
  rename_i x' y' hx hy
  simp only[p0,LCode.seq.injEq] at hc
  obtain⟨rfl,rfl⟩:=hc
  refine wpIn_seq (h x hx ro hro I0 β0 H0 w0 I β w aa hX hI hE hN hD _ ?_)
  intro ex e' H' n' I' β' w' a' g1 g2 g3 g4 g5 g6
  cases ex with
  |normal=>exact g1 y hy ro hro I0 β0 H0 w0 I' β' w' a' g6 g2 g3 g4 g5 QQ hQ
  |_=>exact hQ _ _ _ _ _ _ _ _ g1 g2 g3 g4 g5 g6
 |skip=>simp[zf] at hc
 |region id ops draw=>simp only[zf] at hc;split at hc<;>(try split at hc)<;>(try split at hc)<;>(try split at hc)<;>(try split at hc)<;>(first|(simp at hc;done)|(rcases x5 hc with⟨_,h⟩|⟨_,_,_,h⟩<;>cases h))
 |cond c a b=>simp only[zf] at hc;split at hc<;>simp at hc
 |block id c=>simp[zf] at hc
 |loop c=>simp[zf] at hc
 |exit id=>simp[zf] at hc
 |ret=>simp[zf] at hc
 |rangeFunc g ps x y=>simp only[zf] at hc;split at hc<;>simp at hc
 |_=>cases hc
theorem kf{N:Lay}{n0 id:Nat}{a:LCode}{Q:Exit→Env→AHeap→Nat→Prop}{e:Env}{H:AHeap}{n:Nat}(h:LWp P N n0 a (fun ex e H n=>match ex with|.exit i=>if i=id then Q .normal e H n else Q (.exit i) e H n|ex=>Q ex e H n) e H n):LWp P N n0 (.block id a) Q e H n:=by
 intro c hc ro hro I0 β0 H0 w0 I β w aa hX hI hE hN hD QQ hQ
 cases c with
 |block id' x=>
  simp only[zf,pQ] at hc
  obtain⟨x',hx,hc⟩:=hc
  simp only[LCode.block.injEq] at hc
  obtain⟨rfl,rfl⟩:=hc
  refine wpIn_block (h x hx ro hro I0 β0 H0 w0 I β w aa hX hI hE hN hD _ ?_)
  intro ex e' H' n' I' β' w' a' g1 g2 g3 g4 g5 g6
  cases ex with
  |exit i=>
   simp only at g1
   simp only[Exit.inBlock]
   split at g1
   ·rename_i hi;rw[if_pos hi];exact hQ _ _ _ _ _ _ _ _ g1 g2 g3 g4 g5 g6
   ·rename_i hi;rw[if_neg hi];exact hQ _ _ _ _ _ _ _ _ g1 g2 g3 g4 g5 g6
  |_=>exact hQ _ _ _ _ _ _ _ _ g1 g2 g3 g4 g5 g6
 |skip=>simp[zf] at hc
 |region id ops draw=>simp only[zf] at hc;split at hc<;>(try split at hc)<;>(try split at hc)<;>(try split at hc)<;>(try split at hc)<;>(first|(simp at hc;done)|(rcases x5 hc with⟨_,h⟩|⟨_,_,_,h⟩<;>cases h))
 |seq a b=>simp only[zf] at hc;split at hc<;>simp at hc
 |cond c a b=>simp only[zf] at hc;split at hc<;>simp at hc
 |loop c=>simp[zf] at hc
 |exit id=>simp[zf] at hc
 |ret=>simp[zf] at hc
 |rangeFunc g ps x y=>simp only[zf] at hc;split at hc<;>simp at hc
 |_=>cases hc
theorem ve{N:Lay}{n0:Nat}{c:LOpd}{a b:LCode}{v:Bool}{Q:Exit→Env→AHeap→Nat→Prop}{e:Env}{H:AHeap}{n:Nat}(hv:c.ev e=.bool v)(hn:c.need e)(h1:v=true→LWp P N n0 a Q e H n)(h2:v=false→LWp P N n0 b Q e H n):LWp P N n0 (.cond c a b) Q e H n:=by
 intro cc hc ro hro I0 β0 H0 w0 I β w aa hX hI hE hN hD QQ hQ
 cases cc with
 |cond cx x y=>
  simp only[zf] at hc
  split at hc<;>try (cases hc;done)
  rename_i c' x' y' hcx hx hy
  simp only[p0,LCode.cond.injEq] at hc
  obtain⟨rfl,rfl,rfl⟩:=hc
  have hr:=zm hE hcx hn
  rw[hv] at hr
  exact wpIn_cond_split hr.bool_inv (fun hv=>h1 hv x hx ro hro I0 β0 H0 w0 I β w aa hX hI hE hN hD QQ hQ) (fun hv=>h2 hv y hy ro hro I0 β0 H0 w0 I β w aa hX hI hE hN hD QQ hQ)
 |skip=>simp[zf] at hc
 |region id ops draw=>simp only[zf] at hc;split at hc<;>(try split at hc)<;>(try split at hc)<;>(try split at hc)<;>(try split at hc)<;>(first|(simp at hc;done)|(rcases x5 hc with⟨_,h⟩|⟨_,_,_,h⟩<;>cases h))
 |seq a b=>simp only[zf] at hc;split at hc<;>simp at hc
 |block id c=>simp[zf] at hc
 |loop c=>simp[zf] at hc
 |exit id=>simp[zf] at hc
 |ret=>simp[zf] at hc
 |rangeFunc g ps x y=>simp only[zf] at hc;split at hc<;>simp at hc
 |_=>cases hc
theorem jr{N:Lay}{n0:Nat}:∀ (lc:LCode) {Q:Exit→Env→AHeap→Nat→Prop} {e:Env} {H:AHeap} {n:Nat},z1r P N n0 lc Q e H n→LWp P N n0 lc Q e H n
 |.skip,Q,e,H,n,h=>zy .skip Q e H n h
 |.region ops,Q,e,H,n,h=>zy (.region ops) Q e H n (Zs ops h)
 |.quiet ops,Q,e,H,n,h=>zy (.quiet ops) Q e H n (Uj ops h)
 |.draw items,Q,e,H,n,h=>zy (.draw items) Q e H n (zam items h)
 |.draw2 a b items,Q,e,H,n,h=>zy (.draw2 a b items) Q e H n (zam items h)
 |.seq a b,Q,e,H,n,h=>by
  refine kx ((jr a h).mono fun ex e H n hx=>?_)
  cases ex with
  |normal=>exact jr b hx
  |_=>exact hx
 |.cond c a b,Q,e,H,n,h=>by
  unfold z1r at h
  split at h<;>try (exact h.elim)
  rename_i v hv
  rw[yj,zb] at h
  exact ve hv h.1 (fun hh=>jr a (h.2.1 hh)) (fun hh=>jr b (h.2.2 hh))
 |.block id c,Q,e,H,n,h=>by
  refine kf ((jr c h).mono fun ex e H n hx=>?_)
  cases ex with
  |exit i=>
   simp only at hx ⊢
   split at hx
   ·rename_i hi;rw[if_pos (pB hi)];exact hx
   ·rename_i hi;rw[if_neg (Nat.ne_of_beq_eq_false hi)];exact hx
  |_=>exact hx
 |.loop c,Q,e,H,n,h=>h
 |.rng g ps a b,Q,e,H,n,h=>h
 |.dfr f t,Q,e,H,n,h=>zy (.dfr f t) Q e H n h
 |.exit id,Q,e,H,n,h=>zy (.exit id) Q e H n h
 |.ret,Q,e,H,n,h=>zy .ret Q e H n h
end Go.Fx
namespace Go.Fx
variable {P:Program} {N:Lay} {n0:Nat}
def Sim(n0:Nat)(e':Env)(H':AHeap)(n':Nat)(e:Env)(L:AHeap)(n:Nat):Prop:=
 ∀ (I0:Nat→Nat→Prop) (β0:Id→Option CLoc) (H0:AHeap) (w0:World) (I:Nat→Nat→Prop) (β:Id→Option CLoc) (w:World) (a:Act),Ext I0 β0 n0 H0 w0 I β n' H' w→Inv I β n' H' w→RepEnv I β n' w e' a →
  ∃I2 β2,Ext I0 β0 n0 H0 w0 I2 β2 n L w∧Inv I2 β2 n L w∧RepEnv I2 β2 n w e a
theorem Sim.of{n n':Nat}{e e':Env}{H' L:AHeap}(h:zjk n0 n e' H' e L):Sim n0 e' H' n' e L n:=by
 intro I0 β0 H0 w0 I β w a hX hI hE
 obtain⟨F,ρ,hρ,hEnv,hHeap⟩:=h
 obtain⟨k1,k2⟩:=z2t hX hI hρ hHeap
 exact⟨_,_,k1,k2,fun t=>Xd hI hρ (hEnv.get t) (hE t)⟩
theorem Sim.trans{n n' n'':Nat}{e e' e'':Env}{H H' H'':AHeap}(a:Sim n0 e'' H'' n'' e' H' n')(b:Sim n0 e' H' n' e H n):Sim n0 e'' H'' n'' e H n:=by
 intro I0 β0 H0 w0 I β w ac hX hI hE
 obtain⟨I2,β2,h1,h2,h3⟩:=a I0 β0 H0 w0 I β w ac hX hI hE
 exact b I0 β0 H0 w0 I2 β2 w ac h1 h2 h3
theorem LWp.sim{n n':Nat}{lc:LCode}{Q:Exit→Env→AHeap→Nat→Prop}{H' L:AHeap}{e e':Env}(hs:Sim n0 e' H' n' e L n)(h:LWp P N n0 lc Q e L n):LWp P N n0 lc Q e' H' n':=by
 intro c hc ro hro J0 γ0 G0 w0 I β w a hX hI hE hN hD QQ hQ
 obtain⟨I2,β2,k1,k2,k3⟩:=hs J0 γ0 G0 w0 I β w a hX hI hE
 exact h c hc ro hro J0 γ0 G0 w0 I2 β2 w a k1 k2 k3 hN hD QQ hQ
def z9o(P:Program)(N:Lay)(n0:Nat)(b:LCode)(Q:Exit→Env→AHeap→Nat→Prop):Exit→Env→AHeap→Nat→Prop:=fun ex e H n=>match ex with
 |.normal=>LWp P N n0 b Q e H n
 |ex=>Q ex e H n
def uj(id:Nat)(Q:Exit→Env→AHeap→Nat→Prop):Exit→Env→AHeap→Nat→Prop:=fun ex e H n=>match ex with
 |.exit i=>(match pJ i id with|true=>Q .normal e H n|false=>Q (.exit i) e H n)
 |ex=>Q ex e H n
theorem yu{a b:LCode}{Q:Exit→Env→AHeap→Nat→Prop}{e:Env}{H:AHeap}{n:Nat}(h:LWp P N n0 a (z9o P N n0 b Q) e H n):LWp P N n0 (.seq a b) Q e H n:=
 kx (h.mono fun ex e H n hx=>by cases ex<;>exact hx)
theorem Yg{id:Nat}{a:LCode}{Q:Exit→Env→AHeap→Nat→Prop}{e:Env}{H:AHeap}{n:Nat}(h:LWp P N n0 a (uj id Q) e H n):LWp P N n0 (.block id a) Q e H n:=
 kf (h.mono fun ex e H n hx=>by
  cases ex with
  |exit i=>
   simp only[uj] at hx
   simp only
   split at hx
   ·rename_i hi;rw[if_pos (pB hi)];exact hx
   ·rename_i hi;rw[if_neg (Nat.ne_of_beq_eq_false hi)];exact hx
  |_=>exact hx)
theorem qb{c:LOpd}{a b:LCode}{v:Bool}{Q:Exit→Env→AHeap→Nat→Prop}{e:Env}{H:AHeap}{n:Nat}(hv:c.ev e=.bool v)(hn:c.need e)(h1:v=true→LWp P N n0 a Q e H n)(h2:v=false→LWp P N n0 b Q e H n):LWp P N n0 (.cond c a b) Q e H n:=ve hv hn h1 h2
theorem qx{Q:Exit→Env→AHeap→Nat→Prop}{e:Env}{H:AHeap}{n:Nat}(h:Q .normal e H n):LWp P N n0 .skip Q e H n:=jr .skip h
theorem Xm{Q:Exit→Env→AHeap→Nat→Prop}{e:Env}{H:AHeap}{n:Nat}(h:Q .ret e H n):LWp P N n0 .ret Q e H n:=jr .ret h
theorem zed{i:Nat}{Q:Exit→Env→AHeap→Nat→Prop}{e:Env}{H:AHeap}{n:Nat}(h:Q (.exit i) e H n):LWp P N n0 (.exit i) Q e H n:=jr (.exit i) h
theorem yz{ops:List LOper}{Q:Exit→Env→AHeap→Nat→Prop}{e:Env}{H:AHeap}{n:Nat}(h:za5 P ops (Q .normal) e H n):LWp P N n0 (.region ops) Q e H n:=jr (.region ops) h
theorem zjd{items:List DItem}{Q:Exit→Env→AHeap→Nat→Prop}{e:Env}{H:AHeap}{n:Nat}(h:yd P items 0 [] (Q .normal) e H n):LWp P N n0 (.draw items) Q e H n:=jr (.draw items) h
def Y1{σ ρ:Type}(b:σ→Option (σ ⊕ ρ)):Nat→σ→Option ρ
 |0,_=>none
 |m+1,s=>match b s with
  |none=>none
  |some (.inl s')=>Y1 b m s'
  |some (.inr r)=>some r
theorem Q5{σ ρ:Type}{b:σ→Option (σ ⊕ ρ)}:∀ {m k:Nat} {s:σ} {r:ρ},m≤k→Y1 b m s=some r→Y1 b k s=some r
 |0,_,_,_,_,h=>by cases h
 |m+1,0,_,_,hk,_=>by omega
 |m+1,k+1,s,r,hk,h=>by
  unfold Y1 at h ⊢
  split at h
  ·cases h
  ·exact Q5 (by omega) h
  ·exact h
noncomputable def z1k{σ ρ:Type}(b:σ→Option (σ ⊕ ρ))(s:σ):Option ρ:=by
 classical
 exact if h:∃m r,Y1 b m s=some r then some (pR (pM h)) else none
theorem vz{σ ρ:Type}{b:σ→Option (σ ⊕ ρ)}{s:σ}{r:ρ}:z1k b s=some r↔∃m,Y1 b m s=some r:=by
 unfold z1k
 constructor
 ·intro h
  split at h
  ·rename_i hex
   simp only[p0] at h
   exact⟨_,by rw[←h];exact pM (pM hex)⟩
  ·cases h
 ·rintro⟨m,hm⟩
  have hex:∃m r,Y1 b m s=some r:=⟨m,r,hm⟩
  rw[dif_pos hex]
  have h2:=pM (pM hex)
  have h3:=Q5 (Nat.le_max_left m (pR hex)) hm
  have h4:=Q5 (Nat.le_max_right m (pR hex)) h2
  rw[h3] at h4
  rw[h4]
theorem z9z{σ ρ:Type}(b:σ→Option (σ ⊕ ρ))(s:σ):z1k b s=match b s with
 |none=>none
 |some (.inl s')=>z1k b s'
 |some (.inr r)=>some r:=by
 apply Option.ext
 intro r
 cases hb:b s with
 |none=>
  simp only[reduceCtorEq,iff_false]
  rw[vz]
  rintro⟨m,hm⟩
  cases m with
  |zero=>cases hm
  |succ m=>simp[Y1,hb] at hm
 |some x=>
  cases x with
  |inl s'=>
   simp only
   rw[vz,vz]
   constructor
   ·rintro⟨m,hm⟩
    cases m with
    |zero=>cases hm
    |succ m=>exact⟨m,by simpa[Y1,hb] using hm⟩
   ·rintro⟨m,hm⟩
    exact⟨m+1,by simpa[Y1,hb] using hm⟩
  |inr r'=>
   simp only[p0]
   rw[vz]
   constructor
   ·rintro⟨m,hm⟩
    cases m with
    |zero=>cases hm
    |succ m=>simpa[Y1,hb] using hm
   ·intro h
    exact⟨1,by simp[Y1,hb,h]⟩
def z6d{σ ρ:Type}(n0 nL:Nat)(env:σ→Env)(hp:σ→AHeap)(QX:ρ→Exit→Env→AHeap→Nat→Prop):σ ⊕ ρ→Exit→Env→AHeap→Nat→Prop
 |.inl s,ex,e,H,n=>ex=.normal∧Sim n0 e H n (env s) (hp s) nL
 |.inr r,ex,e,H,n=>ex≠.normal∧QX r ex e H n
theorem z98{σ ρ:Type}{c:LCode}{nL:Nat}(body:σ→Option (σ ⊕ ρ))(env:σ→Env)(hp:σ→AHeap)(QX:ρ→Exit→Env→AHeap→Nat→Prop)
 (h:∀s o,body s=some o→LWp P N n0 c (z6d n0 nL env hp QX o) (env s) (hp s) nL) {s:σ} {r:ρ} (hr:z1k body s=some r):LWp P N n0 (.loop c) (QX r) (env s) (hp s) nL:=by
 obtain⟨m0,hm0⟩:=vz.1 hr
 intro cc hc ro hro J0 γ0 G0 w0 I β w a hX hI hE hN hD QQ hQ
 cases cc with
 |loop c'=>
  simp only[zf,pQ] at hc
  obtain⟨b',hb,hc⟩:=hc
  simp only[LCode.loop.injEq] at hc
  subst hc
  let Inside:Nat→Act→World→Prop:=fun m a w=>∃s I β,Y1 body m s=some r∧Ext J0 γ0 n0 G0 w0 I β nL (hp s) w∧Inv I β nL (hp s) w∧RepEnv I β nL w (env s) a∧a.tmps.size=N.n∧Dfr P w0.heap.size w a.defers
  let mu:Act→World→Nat:=fun a w=>by
   classical
   exact if h:∃m,Inside m a w then pR (j5 _ h) else 0
  have mu_spec:∀a w,(∃m,Inside m a w)→Inside (mu a w) a w∧∀k,k<mu a w→¬Inside k a w:=by
   intro a w h
   have:mu a w=pR (j5 _ h):=by simp only[mu];rw[dif_pos h]
   rw[this]
   exact pM (j5 _ h)
  refine wpIn_loop (fun a w=>∃m,Inside m a w) mu ⟨m0,s,I,β,hm0,hX,hI,hE,hN,hD⟩ ?_
  intro a w hin
  obtain⟨⟨s,I,β,hm,k1,k2,k3,k4,k5⟩,_⟩:=mu_spec a w hin
  cases hmu:mu a w with
  |zero=>rw[hmu] at hm;cases hm
  |succ m=>
   rw[hmu] at hm
   unfold Y1 at hm
   cases hbs:body s with
   |none=>rw[hbs] at hm;cases hm
   |some o=>
    rw[hbs] at hm
    refine h s o hbs c' hb ro hro J0 γ0 G0 w0 I β w a k1 k2 k3 k4 k5 _ ?_
    intro ex e' H' n' I' β' w' a' g1 g2 g3 g4 g5 g6
    cases o with
    |inl s'=>
     obtain⟨rfl,hsim⟩:=g1
     obtain⟨I2,β2,q1,q2,q3⟩:=hsim J0 γ0 G0 w0 I' β' w' a' g6 g2 g3
     have hin':Inside m a' w':=⟨s',I2,β2,hm,q1,q2,q3,g4,g5⟩
     refine⟨⟨_,hin'⟩,?_⟩
     obtain⟨_,hleast⟩:=mu_spec a' w' ⟨_,hin'⟩
     have:¬m<mu a' w':=fun h=>hleast _ h hin'
     omega
    |inr r'=>
     obtain⟨hne,hq⟩:=g1
     simp only[p0] at hm
     subst hm
     cases ex with
     |normal=>exact absurd rfl hne
     |_=>exact hQ _ _ _ _ _ _ _ _ hq g2 g3 g4 g5 g6
 |skip=>cases hc
 |region id ops draw=>simp only[zf] at hc;split at hc<;>(try split at hc)<;>(try split at hc)<;>(try split at hc)<;>(try split at hc)<;>(first|(simp at hc;done)|(rcases x5 hc with⟨_,h⟩|⟨_,_,_,h⟩<;>cases h))
 |seq a b=>simp only[zf] at hc;split at hc<;>simp at hc
 |cond c a b=>simp only[zf] at hc;split at hc<;>simp at hc
 |block id c=>simp[zf] at hc
 |exit id=>cases hc
 |ret=>cases hc
 |rangeFunc g ps x y=>simp only[zf] at hc;split at hc<;>simp at hc
 |_=>cases hc
noncomputable def Wy{σ ρ:Type}(m:Option Nat)(b:σ→Option (σ ⊕ ρ))(s:σ):Option ρ:=match m with
 |none=>z1k b s
 |some k=>Y1 b k s
theorem zdh{σ ρ:Type}{m:Option Nat}{b:σ→Option (σ ⊕ ρ)}{s:σ}{r:ρ}(h:Wy m b s=some r):z1k b s=some r:=by
 cases m with
 |none=>exact h
 |some k=>exact vz.2 ⟨k,h⟩
theorem W3{σ ρ:Type}{c:LCode}{nL:Nat}{m:Option Nat}(body:σ→Option (σ ⊕ ρ))(env:σ→Env)(hp:σ→AHeap)(QX:ρ→Exit→Env→AHeap→Nat→Prop)
 (h:∀s o,body s=some o→LWp P N n0 c (z6d n0 nL env hp QX o) (env s) (hp s) nL) {s:σ} {r:ρ} (hr:Wy m body s=some r):LWp P N n0 (.loop c) (QX r) (env s) (hp s) nL:=z98 body env hp QX h (zdh hr)
def z1u:List (Id×Id)→Id→Option Id
 |[],_=>none
 |(a,b)::r,i=>if a=i then some b else z1u r i
theorem je:∀ {M:List (Id×Id)} {i k:Id},z1u M i=some k→(i,k)∈M
 |[],i,k,h=>by cases h
 |(a,b)::r,i,k,h=>by
  unfold z1u at h
  split at h
  ·rename_i hab
   simp only[p0] at h
   subst hab;subst h
   exact List.mem_cons_self ..
  ·exact List.mem_cons_of_mem _ (je h)
def rho(n0:Nat)(M:List (Id×Id))(id:Id):Option Id:=match z1u M id with
 |some k=>some k
 |none=>if id.1<n0∧¬(M.map (·.2)).contains id=true then some id else none
def X9(n0 n:Nat)(H:AHeap)(M:List (Id×Id)):Bool:=
 pO n0 n&&M.all (fun x=>pO n0 x.1.1&&pO (x.1.1+1) n&&(pO n0 x.2.1 || (H.get x.2).isSome))&&(M.map (·.2)).Nodup
theorem Jc{M:List (Id×Id)}{i j k:Id}(h:(M.map (·.2)).Nodup)(h1:(i,k)∈M)(h2:(j,k)∈M):i=j:=by
 induction M with
 |nil=>cases h1
 |cons x r ih=>
  simp only[pS,List.nodup_cons] at h
  rcases pP.1 h1 with e1|h1<;>rcases pP.1 h2 with e2|h2
  ·rw[←e1] at e2;simp only[pL] at e2;exact e2.1.symm
  ·exact absurd (pK.2 ⟨_,h2,by rw[←e1]⟩) h.1
  ·exact absurd (pK.2 ⟨_,h1,by rw[←e2]⟩) h.1
  ·exact ih h.2 h1 h2
theorem Ku{n0:Nat}{M:List (Id×Id)}{i k:Id}(h:rho n0 M i=some k):(i,k)∈M∨(i.1<n0∧k=i∧k∉M.map (·.2)):=by
 unfold rho at h
 split at h
 ·rename_i k' hk;simp only[p0] at h;subst h;exact .inl (je hk)
 ·split at h
  ·rename_i hc
   simp only[p0] at h
   subst h
   exact .inr ⟨hc.1,rfl,by simpa using hc.2⟩
  ·cases h
structure RhoChk(n0 n:Nat)(H:AHeap)(M:List (Id×Id)):Prop where
 le:n0≤n
 all:∀x∈M,n0≤x.1.1∧x.1.1<n∧(n0≤x.2.1∨H.get x.2≠none)
 nd:(M.map (·.2)).Nodup
theorem z8v{n0 n:Nat}{H:AHeap}{M:List (Id×Id)}(h:X9 n0 n H M=true):RhoChk n0 n H M:=by
 unfold X9 at h
 simp only[pA,pE,decide_eq_true_eq,Bool.or_eq_true] at h
 obtain⟨⟨h0,h1⟩,h2⟩:=h
 refine⟨pC h0,fun x hx=>?_,h2⟩
 obtain⟨⟨a,b⟩,c⟩:=h1 x hx
 refine⟨pC a,pC b,?_⟩
 rcases c with c|c
 ·exact .inl (pC c)
 ·right;intro hn;rw[hn] at c;cases c
theorem zcr{n0 n:Nat}{H:AHeap}{M:List (Id×Id)}(h:RhoChk n0 n H M){i:Id}(hi:i.1<n0):rho n0 M i=some i∨(rho n0 M i=none∧H.get i≠none):=by
 have hl:z1u M i=none:=by
  cases hk:z1u M i with
  |none=>rfl
  |some k=>have:=(h.all _ (je hk)).1;simp only at this;omega
 unfold rho
 rw[hl]
 by_cases hc:(M.map (·.2)).contains i=true
 ·right
  refine⟨by simp only;rw[if_neg (fun hh=>hh.2 hc)],?_⟩
  simp only[pU,List.any_eq_true,beq_iff_eq] at hc
  obtain⟨k,hk,rfl⟩:=hc
  obtain⟨x,hx,rfl⟩:=pK.1 hk
  rcases(h.all x hx).2.2 with h3|h3
  ·omega
  ·exact h3
 ·left
  simp only
  rw[if_pos ⟨hi,hc⟩]
theorem zh3{n0 n:Nat}{H:AHeap}{M:List (Id×Id)}{F:Id→Bool}(h:RhoChk n0 n H M)(hF:∀i:Id,i.1<n0→F i=false):RhoOk n0 n F H (rho n0 M):=by
 refine⟨fun i j k hi hj=>?_,fun i k hi=>?_,fun i hi=>?_,fun i k hi hk=>?_,h.le⟩
 ·rcases Ku hi with g1|⟨g1,g1',g1''⟩<;>rcases Ku hj with g2|⟨g2,g2',g2''⟩
  ·exact Jc h.nd g1 g2
  ·exact absurd (pK.2 ⟨_,g1,rfl⟩) g2''
  ·exact absurd (pK.2 ⟨_,g2,rfl⟩) g1''
  ·rw[←g1',←g2']
 ·rcases Ku hi with g|⟨g,g',_⟩
  ·exact(h.all _ g).2.1
  ·have:=h.le;omega
 ·rcases zcr h hi with g|g
  ·exact .inl ⟨g,hF i hi⟩
  ·exact .inr g
 ·rcases Ku hk with g|⟨g,g',_⟩
  ·exact(h.all _ g).2.2
  ·omega
theorem zbc{n0 n:Nat}{H:AHeap}{M:List (Id×Id)}{F:Id→Bool}(h:X9 n0 n H M=true)(hF:∀i:Id,i.1<n0→F i=false):RhoOk n0 n F H (rho n0 M):=zh3 (z8v h) hF
theorem Kt{α:Type}[Inhabited α](f:α→List AVal)(l:List α)(i:Nat)(h:i<l.length):(l.map f).getD i []=f (l.getD i default):=by
 simp[List.getD_eq_getElem?_getD,h]
theorem js{α:Type}{l:List α}{j:Int}(h:0≤j∧j<(l.length:Int)):j.toNat<l.length:=by omega
theorem qp{c:Prop}[Decidable c]{α:Type}{x:Option α}{o:α}(h:(if c then x else none)=some o):c∧x=some o:=by
 split at h
 ·exact⟨by assumption,h⟩
 ·cases h
theorem zu{c:Bool}{α:Type}{x y:Option α}{o:α}(hc:c=true)(h:(if c=true then x else y)=some o):x=some o:=by rw[if_pos hc] at h;exact h
theorem y8{c:Bool}{α:Type}{x y:Option α}{o:α}(hc:c=false)(h:(if c=true then x else y)=some o):y=some o:=by subst hc;exact h
theorem bind_some{α γ:Type}{x:Option α}{f:α→Option γ}{o:γ}(h:x.bind f=some o):∃r,x=some r∧f r=some o:=Option.bind_eq_some_iff.1 h
theorem bqt{c:Bool}(h:c=true):(c==true)=true:=by rw[h];rfl
theorem bqf{c:Bool}(h:c=false):(c==false)=true:=by rw[h];rfl
theorem zdu{a b:Bool}(h1:a=true)(h2:b=true):(a&&b)=true:=by rw[h1,h2];rfl
abbrev W(n:Int):Int:=IntKind.wrap .i64 n
def zkf(c:UInt8):Int:=(c.toNat:Int)
def zkk(n:Int):UInt8:=UInt8.ofNat n.toNat
def zkn(x:Int):List AVal:=[.int .u8 x]
def VwL(F:Id→Bool)(H:AHeap)(ρ:Id→Option Id)(n:Nat):List AVal→List AVal→Prop
 |[],[]=>True
 |x::xs,y::ys=>Vw F H ρ n x y∧VwL F H ρ n xs ys
 |_,_=>False
theorem Y5{F:Id→Bool}{H:AHeap}{ρ:Id→Option Id}{n:Nat}:∀ {xs ys:List AVal},VwL F H ρ n xs ys→xs.length=ys.length∧∀ (i:Nat) (x y:AVal),xs[i]?=some x→ys[i]?=some y→Vw F H ρ n x y
 |[],[],_=>⟨rfl,fun i x y h _=>by simp at h⟩
 |[],_::_,h=>h.elim
 |_::_,[],h=>h.elim
 |x::xs,y::ys,h=>by
  obtain⟨h1,h2⟩:=Y5 h.2
  refine⟨by simp[h1],fun i a b ha hb=>?_⟩
  cases i with
  |zero=>simp only[pN,p0] at ha hb;subst ha;subst hb;exact h.1
  |succ i=>exact h2 i a b (by simpa using ha) (by simpa using hb)
theorem Vw.tupL{F:Id→Bool}{H:AHeap}{ρ:Id→Option Id}{n:Nat}{xs ys:List AVal}(h:VwL F H ρ n xs ys):Vw F H ρ n (.tup xs) (.tup ys):=.tup _ _ (Y5 h).1 (Y5 h).2
theorem Vw.aggL{F:Id→Bool}{H:AHeap}{ρ:Id→Option Id}{n:Nat}{xs ys:List AVal}(h:VwL F H ρ n xs ys):Vw F H ρ n (.agg xs) (.agg ys):=.agg _ _ (Y5 h).1 (Y5 h).2
theorem BVw.oneL{F:Id→Bool}{H:AHeap}{ρ:Id→Option Id}{n:Nat}{xs ys:List AVal}(h:VwL F H ρ n xs ys):BVw F H ρ n (.one xs) (.one ys):=.one _ _ (Y5 h).1 (Y5 h).2
theorem z3g{F:Id→Bool}{H:AHeap}{ρ:Id→Option Id}{n:Nat}:∀ {xs:List AVal},AVal.nid.nidL xs=true→∀ (i:Nat) (x y:AVal),xs[i]?=some x→xs[i]?=some y→Vw F H ρ n x y
 |[],_,i,x,y,h,_=>by simp at h
 |z::r,hn,i,x,y,h,h'=>by
  simp only[AVal.nid.nidL,pA] at hn
  cases i with
  |zero=>simp only[pN,p0] at h h';subst h;subst h';exact .same _ hn.1
  |succ i=>exact z3g hn.2 i x y (by simpa using h) (by simpa using h')
theorem BVw.enc{F:Id→Bool}{H:AHeap}{ρ:Id→Option Id}{n:Nat}{α:Type}(f:α→List AVal)(hf:∀x,AVal.nid.nidL (f x)=true)(s:Nat)(l:List α):BVw F H ρ n (.rows s (l.map f)) (.rows s (l.map f)):=by
 refine .rows s _ _ rfl fun i r r' h h'=>?_
 rw[h] at h'
 simp only[p0] at h'
 subst h'
 rw[pF] at h
 cases hl:l[i]? with
 |none=>rw[hl] at h;cases h
 |some x=>
  rw[hl] at h
  simp only[pG,p0] at h
  subst h
  exact⟨rfl,z3g (hf x)⟩
theorem Xb:∀H:AHeap,AHeap.without (fun _=>false) H=H
 |[]=>rfl
 |(k,b)::r=>by
  simp only[AHeap.without,pW,if_false]
  rw[Xb r]
theorem PFn.call{f:FuncId}{args args0:List AVal}{R:AVal}(h:PFn P f args0 R){H:AHeap}{n:Nat}{K:AVal→AHeap→Nat→Prop}(ha:ArgsTo (fun _=>false) H (fun _=>none) 0 args args0)(hk:K R H n):ACalls P f args H n K:=
 PFn.use h ha (fun x hx=>by cases hx) (by rw[Xb];exact hk)
theorem x8{n n':Nat}{M:List (Id×Id)}{e' e:Env}{H' L:AHeap}(hρ:X9 n0 n H' M=true)(hE:EnvTo (fun _=>false) H' (rho n0 M) n e' e)(hH:HeapTo (fun _=>false) H' (rho n0 M) n0 n L):Sim n0 e' H' n' e L n:=Sim.of ⟨_,_,zbc hρ (fun _ _=>rfl),hE,hH.get⟩
theorem xj{α:Type}(f:α→List AVal){l:List α}{j:Int}(h:0≤j∧j<((l.map f).length:Int)):j.toNat<l.length:=by rw[pH] at h;omega
end Go.Fx
namespace Go.Fx
variable {P:Program}
theorem ACalls.sub{f:Fn}{args:List AVal}{H:AHeap}{n:Nat}{K:AVal→AHeap→Nat→Prop}
 (h:ACalls P f args H n (fun r H' n'=>∃H2,(∀id blk,H2.get id=some blk→H'.get id=some blk)∧K r H2 n')):ACalls P f args H n K:=by
 refine⟨h.1,fun I β w vs hI hl hr=>(h.2 I β w vs hI hl hr).mono ?_⟩
 rintro ee w' ⟨r,v,H',n',I',β',he,⟨H2,h1,h2⟩,hI',hr',hx⟩
 exact⟨r,v,H2,n',I',β',he,h2,Inv.sub h1 hI',hr',Ext.sub h1 hx⟩
theorem wk{H:AHeap}{id:Id}{b:ABlock}(h:H.get id=some b):(id,b)∈H:=by
 induction H with
 |nil=>simp[AHeap.get] at h
 |cons x r ih=>
  obtain⟨k,c⟩:=x
  by_cases hk:k=id
  ·subst hk;rw[AHeap.get_cons_same] at h;simp only[p0] at h;subst h;exact List.mem_cons_self ..
  ·rw[AHeap.get_cons_other _ _ hk] at h;exact List.mem_cons_of_mem _ (ih h)
theorem z4q{H:AHeap}{id:Id}{b:ABlock}(hn:(H.map (·.1)).Nodup)(h:(id,b)∈H):H.get id=some b:=by
 induction H with
 |nil=>cases h
 |cons x r ih=>
  obtain⟨k,c⟩:=x
  simp only[pS,List.nodup_cons] at hn
  rcases pP.1 h with h|h
  ·simp only[pL] at h;obtain⟨rfl,rfl⟩:=h;exact AHeap.get_cons_same _ _ _
  ·have:k≠id:=fun hk=>by subst hk;exact hn.1 (pK.2 ⟨_,h,rfl⟩)
   rw[AHeap.get_cons_other _ _ this];exact ih hn.2 h
def noR(r:Nat)(H:AHeap):Bool:=H.all fun x=>!(pJ x.1.1 r)
theorem Jv{r:Nat}{H:AHeap}(h:noR r H=true){id:Id}(hid:id.1=r):H.get id=none:=by
 cases hg:H.get id with
 |none=>rfl
 |some b=>
  have hm:=wk hg
  unfold noR at h
  rw[pE] at h
  have:=h _ hm
  simp only[hid] at this
  simp at this
mutual
theorem um{g h:Id→Id}:∀ (x:AVal),(x.ren g).ren h=x.ren (fun i=>h (g i))
 |.any=>rfl
 |.bool _=>rfl
 |.int _ _=>rfl
 |.str _=>rfl
 |.val _=>rfl
 |.isl _ _ _=>rfl
 |.iptr _ _ _ _=>rfl
 |.osl _ _ _=>rfl
 |.ptr _ _ _=>rfl
 |.msl _ _ _ _ _=>rfl
 |.map _=>rfl
 |.optp _=>rfl
 |.tup cs=>by simp only[AVal.ren];rw[wo cs]
 |.agg cs=>by simp only[AVal.ren];rw[wo cs]
 |.fn f a c=>by simp only[AVal.ren];rw[wo a,wo c]
 |.ifc t x=>by simp only[AVal.ren];rw[um x]
 |.cnd p x=>by simp only[AVal.ren];rw[um x]
theorem wo{g h:Id→Id}:∀ (cs:List AVal),AVal.ren.renL h (AVal.ren.renL g cs)=AVal.ren.renL (fun i=>h (g i)) cs
 |[]=>rfl
 |x::r=>by simp only[AVal.ren.renL];rw[um x,wo r]
end
mutual
theorem jc{p:Id→Bool}{g h:Id→Id}(hgh:∀id:Id,p id=true→g id=h id):∀ (x:AVal),x.inP p=true→x.ren g=x.ren h
 |.any,_=>rfl
 |.bool _,_=>rfl
 |.int _ _,_=>rfl
 |.str _,_=>rfl
 |.val _,_=>rfl
 |.isl _ _ _,_=>rfl
 |.iptr _ _ _ _,_=>rfl
 |.osl t _ _,hp=>by simp only[AVal.ren];rw[hgh t hp]
 |.ptr t _ _,hp=>by simp only[AVal.ren];rw[hgh t hp]
 |.msl t _ _ _ _,hp=>by simp only[AVal.ren];rw[hgh t hp]
 |.map t,hp=>by simp only[AVal.ren];rw[hgh t hp]
 |.optp t,hp=>by simp only[AVal.ren];rw[hgh t hp]
 |.tup cs,hp=>by simp only[AVal.ren];rw[j7 hgh cs hp]
 |.agg cs,hp=>by simp only[AVal.ren];rw[j7 hgh cs hp]
 |.fn f a c,hp=>by
  simp only[AVal.inP,pA] at hp
  simp only[AVal.ren];rw[j7 hgh a hp.1,j7 hgh c hp.2]
 |.ifc t x,hp=>by simp only[AVal.ren];rw[jc hgh x hp]
 |.cnd q x,hp=>by simp only[AVal.ren];rw[jc hgh x hp]
theorem j7{p:Id→Bool}{g h:Id→Id}(hgh:∀id:Id,p id=true→g id=h id):∀ (cs:List AVal),AVal.inP.inPL p cs=true→AVal.ren.renL g cs=AVal.ren.renL h cs
 |[],_=>rfl
 |x::r,hp=>by
  simp only[AVal.inP.inPL,pA] at hp
  simp only[AVal.ren.renL];rw[jc hgh x hp.1,j7 hgh r hp.2]
end
mutual
theorem uo{p q:Id→Bool}{g:Id→Id}(hg:∀id:Id,p id=true→q (g id)=true):∀ (x:AVal),x.inP p=true→(x.ren g).inP q=true
 |.any,_=>rfl
 |.bool _,_=>rfl
 |.int _ _,_=>rfl
 |.str _,_=>rfl
 |.val _,_=>rfl
 |.isl _ _ _,_=>rfl
 |.iptr _ _ _ _,_=>rfl
 |.osl t _ _,hp=>hg t hp
 |.ptr t _ _,hp=>hg t hp
 |.msl t _ _ _ _,hp=>hg t hp
 |.map t,hp=>hg t hp
 |.optp t,hp=>hg t hp
 |.tup cs,hp=>kw hg cs hp
 |.agg cs,hp=>kw hg cs hp
 |.fn f a c,hp=>by
  simp only[AVal.inP,pA] at hp
  simp only[AVal.ren,AVal.inP,pA]
  exact⟨kw hg a hp.1,kw hg c hp.2⟩
 |.ifc t x,hp=>uo hg x hp
 |.cnd r x,hp=>uo hg x hp
theorem kw{p q:Id→Bool}{g:Id→Id}(hg:∀id:Id,p id=true→q (g id)=true):∀ (cs:List AVal),AVal.inP.inPL p cs=true→AVal.inP.inPL q (AVal.ren.renL g cs)=true
 |[],_=>rfl
 |x::r,hp=>by
  simp only[AVal.inP.inPL,pA] at hp
  simp only[AVal.ren.renL,AVal.inP.inPL,pA]
  exact⟨uo hg x hp.1,kw hg r hp.2⟩
end
theorem z6z{g h:Id→Id}(b:ABlock):(b.ren g).ren h=b.ren (fun i=>h (g i)):=by
 cases b with
 |rows s es=>simp only[ABlock.ren,jk,q6];congr 1;exact pI fun x _=>wo x
 |one cs=>simp only[ABlock.ren];rw[wo]
 |amap es=>simp only[ABlock.ren,q6];congr 1;refine pI fun x _=>?_;simp only[Function.comp];rw[um,um]
 |tok=>rfl
 |bld T g0=>rfl
 |buf e bs=>rfl
 |lrec l r e=>simp only[ABlock.ren,q6];congr 1;refine pI fun x _=>?_;simp only[Function.comp];rw[um]
 |rmap es arr ck=>simp only[ABlock.ren,q6];congr 1;refine pI fun x _=>?_;simp only[Function.comp];rw[um,um]
 |itr m arr ck seen=>simp only[ABlock.ren,Option.map_map];rfl
 |mbox b=>rfl
theorem X5{p:Id→Bool}{g h:Id→Id}(hgh:∀id:Id,p id=true→g id=h id)(b:ABlock)(hp:b.inP p=true):b.ren g=b.ren h:=by
 cases b with
 |rows s es=>
  simp only[ABlock.inP,pE] at hp
  simp only[ABlock.ren,jk];congr 1;exact pI fun x hx=>j7 hgh x (hp x hx)
 |one cs=>simp only[ABlock.ren];rw[j7 hgh cs hp]
 |amap es=>
  simp only[ABlock.inP,pE,pA] at hp
  simp only[ABlock.ren];congr 1;refine pI fun x hx=>?_;rw[jc hgh _ (hp x hx).1,jc hgh _ (hp x hx).2]
 |tok=>rfl
 |bld T g0=>simp only[ABlock.ren];rw[hgh g0 hp]
 |buf e bs=>rfl
 |lrec l r e=>
  simp only[ABlock.inP,pE] at hp
  simp only[ABlock.ren];congr 1;refine pI fun x hx=>?_;rw[jc hgh _ (hp x hx)]
 |rmap es arr ck=>
  simp only[ABlock.inP,pE,pA] at hp
  simp only[ABlock.ren];congr 1;refine pI fun x hx=>?_;rw[jc hgh _ (hp x hx).1,jc hgh _ (hp x hx).2]
 |itr m arr ck seen=>
  cases m with
  |none=>rfl
  |some b=>simp only[ABlock.ren,pG];rw[hgh b hp]
 |mbox b=>simp only[ABlock.ren];rw[hgh b hp]
theorem Kl{p q:Id→Bool}{g:Id→Id}(hg:∀id:Id,p id=true→q (g id)=true)(b:ABlock)(hp:b.inP p=true):(b.ren g).inP q=true:=by
 cases b with
 |rows s es=>
  simp only[ABlock.inP,pE] at hp
  simp only[ABlock.ren,jk,ABlock.inP,pE,pK]
  rintro x ⟨y,hy,rfl⟩
  exact kw hg y (hp y hy)
 |one cs=>exact kw hg cs hp
 |amap es=>
  simp only[ABlock.inP,pE,pA] at hp
  simp only[ABlock.ren,ABlock.inP,pE,pK,pA]
  rintro x ⟨y,hy,rfl⟩
  exact⟨uo hg _ (hp y hy).1,uo hg _ (hp y hy).2⟩
 |tok=>rfl
 |bld T g0=>exact hg g0 hp
 |buf e bs=>rfl
 |lrec l r e=>
  simp only[ABlock.inP,pE] at hp
  simp only[ABlock.ren,ABlock.inP,pE,pK]
  rintro x ⟨y,hy,rfl⟩
  exact uo hg _ (hp y hy)
 |rmap es arr ck=>
  simp only[ABlock.inP,pE,pA] at hp
  simp only[ABlock.ren,ABlock.inP,pE,pK,pA]
  rintro x ⟨y,hy,rfl⟩
  exact⟨uo hg _ (hp y hy).1,uo hg _ (hp y hy).2⟩
 |itr m arr ck seen=>
  cases m with
  |none=>rfl
  |some b=>exact hg b hp
 |mbox b=>exact hg b hp
mutual
theorem Yo:∀ (x:AVal),x.ren (fun i=>i)=x
 |.any=>rfl
 |.bool _=>rfl
 |.int _ _=>rfl
 |.str _=>rfl
 |.val _=>rfl
 |.isl _ _ _=>rfl
 |.iptr _ _ _ _=>rfl
 |.osl _ _ _=>rfl
 |.ptr _ _ _=>rfl
 |.msl _ _ _ _ _=>rfl
 |.map _=>rfl
 |.optp _=>rfl
 |.tup cs=>by simp only[AVal.ren];rw[Zz cs]
 |.agg cs=>by simp only[AVal.ren];rw[Zz cs]
 |.fn f a c=>by simp only[AVal.ren];rw[Zz a,Zz c]
 |.ifc t x=>by simp only[AVal.ren];rw[Yo x]
 |.cnd p x=>by simp only[AVal.ren];rw[Yo x]
theorem Zz:∀ (cs:List AVal),AVal.ren.renL (fun i=>i) cs=cs
 |[]=>rfl
 |x::r=>by simp only[AVal.ren.renL];rw[Yo x,Zz r]
end
mutual
theorem z6k{p:Id→Bool}:∀ (x:AVal),x.nid=true→x.inP p=true
 |.bool _,_=>rfl
 |.int _ _,_=>rfl
 |.str _,_=>rfl
 |.val _,_=>rfl
 |.isl _ _ _,_=>rfl
 |.iptr _ _ _ _,_=>rfl
 |.tup cs,h=>Yw cs h
 |.agg cs,h=>Yw cs h
 |.fn f a c,h=>by
  simp only[AVal.nid,pA] at h
  simp only[AVal.inP,pA]
  exact⟨Yw a h.1,Yw c h.2⟩
 |.ifc t x,h=>z6k x h
theorem Yw{p:Id→Bool}:∀ (cs:List AVal),AVal.nid.nidL cs=true→AVal.inP.inPL p cs=true
 |[],_=>rfl
 |x::r,h=>by
  simp only[AVal.nid.nidL,pA] at h
  simp only[AVal.inP.inPL,pA]
  exact⟨z6k x h.1,Yw r h.2⟩
end
mutual
theorem Y2{g:Id→Id}:∀ (x:AVal),x.nid=true→x.ren g=x
 |.bool _,_=>rfl
 |.int _ _,_=>rfl
 |.str _,_=>rfl
 |.val _,_=>rfl
 |.isl _ _ _,_=>rfl
 |.iptr _ _ _ _,_=>rfl
 |.tup cs,h=>by simp only[AVal.ren];rw[Yd cs h]
 |.agg cs,h=>by simp only[AVal.ren];rw[Yd cs h]
 |.fn f a c,h=>by
  simp only[AVal.nid,pA] at h
  simp only[AVal.ren];rw[Yd a h.1,Yd c h.2]
 |.ifc t x,h=>by simp only[AVal.ren];rw[Y2 x h]
theorem Yd{g:Id→Id}:∀ (cs:List AVal),AVal.nid.nidL cs=true→AVal.ren.renL g cs=cs
 |[],_=>rfl
 |x::r,h=>by
  simp only[AVal.nid.nidL,pA] at h
  simp only[AVal.ren.renL];rw[Y2 x h.1,Yd r h.2]
end
theorem z82(b:ABlock):b.ren (fun i=>i)=b:=by
 cases b with
 |rows s es=>
  simp only[ABlock.ren,jk];congr 1
  conv=>rhs;rw[←List.map_id es]
  exact pI fun x _=>Zz x
 |one cs=>simp only[ABlock.ren];rw[Zz]
 |amap es=>
  simp only[ABlock.ren];congr 1
  conv=>rhs;rw[←List.map_id es]
  refine pI fun x _=>?_
  rw[Yo,Yo];rfl
 |tok=>rfl
 |bld T g0=>rfl
 |buf e bs=>rfl
 |lrec l r e=>
  simp only[ABlock.ren];congr 1
  conv=>rhs;rw[←List.map_id e]
  refine pI fun x _=>?_
  rw[Yo];rfl
 |rmap es arr ck=>
  simp only[ABlock.ren];congr 1
  conv=>rhs;rw[←List.map_id es]
  refine pI fun x _=>?_
  rw[Yo,Yo];rfl
 |itr m arr ck seen=>cases m<;>rfl
 |mbox b=>rfl
def RenL(g:Id→Id):AHeap→AHeap→Prop
 |[],[]=>True
 |(k,b)::r,(k',b')::r'=>g k=k'∧b.ren g=b'∧RenL g r r'
 |_,_=>False
theorem RenL.eq{g:Id→Id}:∀ {L L':AHeap},RenL g L L'→AHeap.renamed g L=L'
 |[],[],_=>rfl
 |[],_::_,h=>h.elim
 |_::_,[],h=>h.elim
 |(k,b)::r,(k',b')::r',h=>by
  obtain⟨h1,h2,h3⟩:=h
  have:=RenL.eq h3
  simp only[AHeap.renamed,pS] at this ⊢
  rw[h1,h2,this]
def mv(a b:Nat)(id:Id):Id:=if id.1=a then(b,id.2) else id
def p12(id:Id):Bool:=pJ id.1 1 || pJ id.1 2
structure Tl(T:AHeap):Prop where
 key:∀x∈T,p12 x.1=true
 val:∀x∈T,x.2.inP (fun id=>p12 id&&(T.get id).isSome)=true
 nd:(T.map (·.1)).Nodup
def up(q:Nat)(T:AHeap):AHeap:=AHeap.renamed (mv 2 q) T
theorem uh{id:Id}(h:p12 id=true):id.1=1∨id.1=2:=by
 unfold p12 at h
 simp only[Bool.or_eq_true] at h
 rcases h with h|h
 ·exact .inl (pB h)
 ·exact .inr (pB h)
theorem zcf{q:Nat}{id:Id}(h:p12 id=true):(mv 2 q id).1=1∨(mv 2 q id).1=q:=by
 unfold mv
 rcases uh h with h|h
 ·left;rw[if_neg (by omega)];exact h
 ·right;rw[if_pos h]
def p1q(q:Nat)(id:Id):Bool:=pJ id.1 1 || pJ id.1 q
theorem Uc{q:Nat}{id:Id}(h:id.1=1∨id.1=q):p1q q id=true:=by
 unfold p1q
 rcases h with h|h<;>simp[h]
theorem Tl.val'{T:AHeap}(t:Tl T)(x)(hx:x∈T):x.2.inP p12=true:=by
 have:=t.val x hx
 have h2:=Kl (q:=p12) (g:=fun i=>i) (fun id hid=>by simp only[pA] at hid;exact hid.1) _ this
 rwa [z82] at h2
theorem Q0{q:Nat}{id:Id}(h:p1q q id=true):id.1=1∨id.1=q:=by
 unfold p1q at h
 simp only[Bool.or_eq_true] at h
 rcases h with h|h
 ·exact .inl (pB h)
 ·exact .inr (pB h)
theorem z3k{q:Nat}{T:AHeap}(t:Tl T){x:Id×ABlock}(hx:x∈up q T):(x.1.1=1∨x.1.1=q)∧x.2.inP (p1q q)=true:=by
 unfold up AHeap.renamed at hx
 obtain⟨y,hy,rfl⟩:=pK.1 hx
 exact⟨zcf (t.key y hy),Kl (fun id hid=>Uc (zcf hid)) _ (t.val' y hy)⟩
theorem zh8{q:Nat}(hq:q≠1){i j:Id}(hi:p12 i=true)(hj:p12 j=true)(h:mv 2 q i=mv 2 q j):i=j:=by
 unfold mv at h
 rcases uh hi with hi|hi<;>rcases uh hj with hj|hj
 ·rwa [if_neg (by omega),if_neg (by omega)] at h
 ·rw[if_neg (by omega),if_pos hj] at h
  have:i.1=q:=by rw[h]
  omega
 ·rw[if_pos hi,if_neg (by omega)] at h
  have:j.1=q:=by rw[←h]
  omega
 ·rw[if_pos hi,if_pos hj] at h
  simp only[pL] at h
  ext
  ·omega
  ·exact h.2
theorem zgh{q:Nat}(hq:q≠1){T:AHeap}(t:Tl T):((up q T).map (·.1)).Nodup:=by
 unfold up AHeap.renamed
 rw[q6]
 have:(T.map ((fun x=>x.1)∘fun x=>(mv 2 q x.1,x.2.ren (mv 2 q))))=(T.map (·.1)).map (mv 2 q):=by rw[q6];rfl
 rw[this]
 refine List.pairwise_map.2 (List.Pairwise.imp_of_mem (fun {a b} ha hb hab he=>hab ?_) t.nd)
 obtain⟨x,hx,rfl⟩:=pK.1 ha
 obtain⟨y,hy,rfl⟩:=pK.1 hb
 exact zh8 hq (t.key x hx) (t.key y hy) he
theorem zh6{q:Nat}(hq:q≠1){T:AHeap}(t:Tl T){k:Id}{b0:ABlock}(h:T.get k=some b0):(up q T).get (mv 2 q k)=some (b0.ren (mv 2 q)):=
 z4q (zgh hq t) (pK.2 ⟨(k,b0),wk h,rfl⟩)
theorem zfo{a q q':Nat}(hq:q≠1){id:Id}(h:p12 id=true):mv q q' (mv 2 q id)=mv 2 q' id:=by
 unfold mv
 rcases uh h with h|h
 ·rw[if_neg (by omega:¬id.1=2),if_neg (by omega),if_neg (by omega)]
 ·rw[if_pos h,if_pos h];simp
theorem z44{q q':Nat}(hq:q≠1){b0:ABlock}(h:b0.inP p12=true):(b0.ren (mv 2 q)).ren (mv q q')=b0.ren (mv 2 q'):=by
 rw[z6z]
 exact X5 (fun id hid=>zfo (a:=0) hq hid) b0 h
theorem zi8{q:Nat}(hq:q≠1){q':Nat}{T:AHeap}(t:Tl T):AHeap.renamed (mv q q') (up q T)=up q' T:=by
 unfold up AHeap.renamed
 rw[q6]
 refine pI fun x hx=>?_
 simp only[Function.comp]
 rw[zfo (a:=0) hq (t.key x hx),z44 hq (t.val' x hx)]
theorem zgy{q:Nat}{T lit:AHeap}(t:Tl T)(h1:noR 1 lit=true)(hq:noR q lit=true){id:Id}{b:ABlock}(hg:(up q T).get id=some b):AHeap.get (lit++up q T) id=some b:=by
 rw[AHeap.get_append]
 have:lit.get id=none:=by
  rcases(z3k t (wk hg)).1 with h|h
  ·exact Jv h1 h
  ·exact Jv hq h
 rw[this];simpa using hg
def zki(q:Nat)(M:List (Id×Id))(id:Id):Option Id:=if id.1=3 then some (q,id.2) else rho 3 M id
def zkm(n q:Nat)(lit':AHeap)(M:List (Id×Id)):Bool:=
 pO 4 n&&pO 3 q&&X9 3 n lit' M&&M.all (fun x=>pO 4 x.1.1&&!(pJ x.2.1 q)&&!(pJ x.2.1 1))&&noR 1 lit'&&noR q lit'
structure ChkT(n q:Nat)(lit':AHeap)(M:List (Id×Id)):Prop where
 n4:4≤n
 q3:3≤q
 rc:RhoChk 3 n lit' M
 all:∀x∈M,4≤x.1.1∧x.2.1≠q∧x.2.1≠1
 no1:noR 1 lit'=true
 noq:noR q lit'=true
theorem z3w{a b:Nat}(h:(!(pJ a b))=true):a≠b:=by
 intro e;subst e;simp at h
theorem zjx{n0:Nat}{Fs:List Id}(hF:(Fs.all fun x=>pO n0 x.1)=true)(i:Id)(hi:i.1<n0):Fs.contains i=false:=by
 rw[pE] at hF
 simp only[pU,List.any_eq_false,beq_iff_eq]
 intro x hx hix
 have:=pC (hF x hx)
 subst hix;omega
theorem zij{n0 n n':Nat}{r R:AVal}{H' L:AHeap}(M:List (Id×Id))(Fs:List Id)(hρ:X9 n0 n H' M=true)(hF:(Fs.all fun x=>pO n0 x.1)=true)(hv:Vw (fun x=>Fs.contains x) H' (rho n0 M) n r R)
 (hH:HeapTo (fun x=>Fs.contains x) H' (rho n0 M) n0 n L):zak n0 n R L r H' n':=
 ⟨_,_,zbc hρ (zjx hF),hv,hH.get⟩
theorem zhg{f:FuncId}{bm:List Nat}{L:LFn}(hL:wu P bm f=some L)(hok:Xv P f){args:List AVal}(hlen:args.length≤L.lay.n){H Lh:AHeap}{n0 n:Nat}{R:AVal}
 (h:LWp P L.lay n0 L.body (z36 L.res (zak n0 n R Lh)) (qz 0 args) H n0):ACalls P f args H n0 (Xp n R Lh):=ACalls.fin (ACalls.ofFnW hL hok hlen h)
def zkh(H:AHeap)(id:Id):Option Id:=if id.1=3 then(if(H.get (2,id.2)).isSome=true then some (2,id.2) else none) else if id.1<3 then(if id.1=2∧(H.get id).isSome=true then none else some id) else none
def zhu(k n:Nat)(M:List (Id×Id)):Bool:=M.all (fun x=>pO (x.1.1+1) k&&pO (x.2.1+1) n)&&(M.map (·.2)).Nodup
theorem Y0:∀ {M:List (Id×Id)} {k:Id},k∈M.map (·.2)→(M.map (·.1)).Nodup→∃i,z1u M i=some k
 |[],k,h,_=>by cases h
 |(a,b)::r,k,h,hn=>by
  simp only[pS,List.nodup_cons] at hn
  simp only[pS,pP] at h
  rcases h with rfl|h
  ·exact⟨a,by simp[z1u]⟩
  ·obtain⟨i,hi⟩:=Y0 h hn.2
   refine⟨i,?_⟩
   have:a≠i:=fun hai=>by subst hai;exact hn.1 (pK.2 ⟨_,je hi,rfl⟩)
   simp[z1u,this,hi]
def H0To(H:AHeap)(ρ:Id→Option Id)(k:Nat):AHeap→Prop
 |[]=>True
 |(i,b)::r=>(∃x b',ρ i=some x∧H.get x=some b'∧BVw (fun _=>false) H ρ k b' b)∧H0To H ρ k r
theorem H0To.get{H:AHeap}{ρ:Id→Option Id}{k:Nat}:∀ {H0:AHeap},H0To H ρ k H0→∀i b,H0.get i=some b→∃x b',ρ i=some x∧H.get x=some b'∧BVw (fun _=>false) H ρ k b' b
 |[],_,i,b,h=>by simp[AHeap.get] at h
 |(j,c)::r,h,i,b,hg=>by
  by_cases hj:j=i
  ·subst hj;rw[AHeap.get_cons_same] at hg;simp only[p0] at hg;subst hg;exact h.1
  ·rw[AHeap.get_cons_other _ _ hj] at hg;exact H0To.get h.2 i b hg
def zaa(M:List (Id×Id)):Bool:=(M.map (·.1)).Nodup
def V4(L:AHeap):Bool:=(L.map (·.1)).Nodup
theorem z9t{f:Fn}{args args0:List AVal}{H H0 L L' rest:AHeap}{n k m:Nat}{R R':AVal}{K:AVal→AHeap→Nat→Prop}(M:List (Id×Id))(h:ACalls P f args0 H0 k (Xp (k+m) R L))
 (hM:zhu k n M=true) (hM1:zaa M=true) (hnd:V4 L=true) (ha:ArgsTo (fun _=>false) H (z1u M) k args args0) (hH:H0To H (z1u M) k H0)
 (hR:R.ren (Q4 (z1u M) k n m)=R') (hL:RenL (Q4 (z1u M) k n m) L L') (hrest:AHeap.without (fun x=>(M.map (·.2)).contains x) H=rest)
 (hk:K R' (L'++rest) (n+m+1)):ACalls P f args H n K:=by
 unfold zhu at hM
 simp only[pA,pE,decide_eq_true_eq] at hM
 have hM':∀x∈M,x.1.1<k∧x.2.1<n:=fun x hx=>⟨pC (hM.1 x hx).1,pC (hM.1 x hx).2⟩
 refine ACalls.frame (F:=fun _=>false) (ρ:=z1u M) h (fun i j x hi hj=>Jc hM.2 (je hi) (je hj)) (fun i x hi=>⟨(hM' _ (je hi)).1,(hM' _ (je hi)).2,rfl⟩) (fun x hx=>by cases hx) ha hH.get
  (fun x=>(M.map (·.2)).contains x) (fun x=>?_) (by simpa[V4] using hnd) ?_
 ·simp only[pU,List.any_eq_true,beq_iff_eq,exists_eq_right',pW,false_or]
  constructor
  ·intro hy
   exact Y0 hy (by simpa[zaa] using hM1)
  ·rintro⟨i,hi⟩
   exact pK.2 ⟨_,je hi,rfl⟩
 ·rw[hR,hL.eq,hrest];exact hk
theorem Yy{p:Id→Bool}:∀ {H:AHeap},(∀x∈H,p x.1=false)→AHeap.without p H=H
 |[],_=>rfl
 |(k,b)::r,h=>by
  have:=h (k,b) (List.mem_cons_self ..)
  simp only at this
  simp only[AHeap.without,this,pW,if_false]
  rw[Yy (fun x hx=>h x (List.mem_cons_of_mem _ hx))]
def ke(q:Nat)(M:List (Id×Id))(id:Id):Option Id:=if id.1=1 then some id else if id.1=2 then some (q,id.2) else z1u M id
theorem zgz{f:Fn}{args args0:List AVal}{lit0 lit L L' rest T T':AHeap}{n q m:Nat}{R R':AVal}{K:AVal→AHeap→Nat→Prop}(t:Tl T)(t':Tl T')(M:List (Id×Id))(h:ACalls P f args0 (lit0++T) 3 (Xp (3+m) R (L++up 3 T')))
 (hM:zhu 3 n M=true) (hM1:zaa M=true) (hM2:(M.all fun x=>pJ x.1.1 0&&!(pJ x.2.1 1)&&!(pJ x.2.1 q))=true) (hn:(pO 3 q&&pO (q+1) n&&pO 1 m)=true) (hnd:V4 L=true) (hnr:(noR 1 L&&noR 3 L&&noR n lit&&noR 1 lit&&noR q lit)=true)
 (ha:ArgsTo (fun _=>false) (lit++up q T) (ke q M) 3 args args0) (hH:H0To (lit++up q T) (ke q M) 3 lit0)
 (hR:R.ren (Q4 (ke q M) 3 n m)=R') (hL:RenL (Q4 (ke q M) 3 n m) L L') (hrest:AHeap.without (fun x=>(M.map (·.2)).contains x) lit=rest)
 (hk:K R' (L'++(rest++up n T')) (n+m+1)):ACalls P f args (lit++up q T) n K:=by
 unfold zhu at hM
 simp only[pA,pE,decide_eq_true_eq] at hM hM2 hn hnr
 have hM':∀x∈M,x.1.1<3∧x.2.1<n:=fun x hx=>⟨pC (hM.1 x hx).1,pC (hM.1 x hx).2⟩
 have hM3:∀x∈M,x.1.1=0∧x.2.1≠1∧x.2.1≠q:=fun x hx=>⟨pB (hM2 x hx).1.1,z3w (by simpa using(hM2 x hx).1.2),z3w (by simpa using(hM2 x hx).2)⟩
 have q3:=pC hn.1.1
 have qn:=pC hn.1.2
 have m1:=pC hn.2
 have q1:q≠1:=by omega
 have cases:∀ {i k:Id},ke q M i=some k→(i.1=1∧k=i)∨(i.1=2∧k=(q,i.2))∨((i,k)∈M∧i.1=0∧k.1≠1∧k.1≠q):=by
  intro i k h
  unfold ke at h
  split at h
  ·rename_i h1;simp only[p0] at h;exact .inl ⟨h1,h.symm⟩
  ·split at h
   ·rename_i h1;simp only[p0] at h;exact .inr (.inl ⟨h1,h.symm⟩)
   ·have:=je h;exact .inr (.inr ⟨this,hM3 _ this⟩)
 have l1:∀p,ke q M (1,p)=some (1,p):=fun p=>by simp[ke]
 have l2:∀p,ke q M (2,p)=some (q,p):=fun p=>by simp[ke]
 refine ACalls.sub ?_
 refine ACalls.frame (F:=fun _=>false) (ρ:=ke q M) h (fun i j x hi hj=>?_) (fun i x hi=>?_) (fun x hx=>by cases hx) ha (fun i b hb=>?_)
  (fun x=>p1q q x || (M.map (·.2)).contains x) (fun x=>?_) ?_ ?_
 ·rcases cases hi with⟨a1,a2⟩|⟨a1,a2⟩|⟨a1,a2,a3,a4⟩<;>rcases cases hj with⟨b1,b2⟩|⟨b1,b2⟩|⟨b1,b2,b3,b4⟩
  ·rw[←a2,←b2]
  ·rw[b2] at a2;have:i.1=q:=by rw[←a2]
   omega
  ·subst a2;omega
  ·rw[a2] at b2;have:j.1=q:=by rw[←b2]
   omega
  ·rw[a2] at b2;simp only[pL,true_and] at b2;ext
   ·omega
   ·exact b2
  ·rw[a2] at b4;exact absurd rfl b4
  ·subst b2;omega
  ·rw[b2] at a4;exact absurd rfl a4
  ·exact Jc hM.2 a1 b1
 ·rcases cases hi with⟨a1,a2⟩|⟨a1,a2⟩|⟨a1,a2,a3,a4⟩
  ·subst a2;exact⟨by omega,by omega,rfl⟩
  ·subst a2;exact⟨by omega,by simp only;omega,rfl⟩
  ·exact⟨by omega,(hM' _ a1).2,rfl⟩
 ·rw[AHeap.get_append] at hb
  cases hl:lit0.get i with
  |some b0=>
   rw[hl] at hb
   simp only[Option.some_or,p0] at hb
   subst hb
   exact hH.get i b0 hl
  |none=>
   rw[hl] at hb
   simp only[Option.none_or] at hb
   have hm:=wk hb
   have hat:ke q M i=some (mv 2 q i):=by
    have hk:p12 i=true:=t.key _ hm
    rcases uh hk with h1|h1
    ·unfold mv;rw[if_neg (by omega),show i=(1,i.2) by rw[←h1]];exact l1 _
    ·unfold mv;rw[if_pos h1,show i=(2,i.2) by rw[←h1]];exact l2 _
   refine⟨_,_,hat,zgy t hnr.1.2 hnr.2 (zh6 q1 t hb),?_⟩
   have e:(b.ren (mv 2 q)).ren (mv q 2)=b:=by
    rw[z44 q1 (t.val' _ hm)]
    have:=X5 (g:=mv 2 2) (h:=fun i=>i) (p:=p12) (fun id hid=>by
     unfold mv
     split
     ·rename_i h;rw[←h]
     ·rfl) b (t.val' _ hm)
    rw[this,z82]
   have:=BVw.mov (F:=fun _=>false) (H:=lit++up q T) (ρ:=ke q M) (n:=3) (p1q q) (mv q 2) (b.ren (mv 2 q)) (Kl (fun id hid=>Uc (zcf hid)) _ (t.val' _ hm)) (fun id hid=>by
    rcases Q0 hid with h1|h1
    ·have e:mv q 2 id=id:=by unfold mv;rw[if_neg (by omega)]
     rw[e,show id=(1,id.2) by rw[←h1]]
     exact⟨by simp only;omega,l1 _⟩
    ·have e:mv q 2 id=(2,id.2):=by unfold mv;rw[if_pos h1]
     rw[e]
     refine⟨by simp only;omega,?_⟩
     rw[l2,←h1])
   rwa [e] at this
 ·simp only[pW,false_or,Bool.or_eq_true]
  constructor
  ·rintro(h1|h1)
   ·rcases Q0 h1 with h1|h1
    ·exact⟨x,by rw[show x=(1,x.2) by rw[←h1]];exact l1 _⟩
    ·exact⟨(2,x.2),by rw[l2,←h1]⟩
   ·simp only[pU,List.any_eq_true,beq_iff_eq,exists_eq_right'] at h1
    obtain⟨i,hi⟩:=Y0 (M:=M) h1 (by simpa[zaa] using hM1)
    have:=(hM3 _ (je hi)).1
    exact⟨i,by unfold ke;rw[if_neg (by simp only at this;omega),if_neg (by simp only at this;omega)];exact hi⟩
  ·rintro⟨i,hi⟩
   rcases cases hi with⟨a1,a2⟩|⟨a1,a2⟩|⟨a1,a2,a3,a4⟩
   ·left;subst a2;exact Uc (.inl a1)
   ·left;subst a2;exact Uc (.inr rfl)
   ·right
    simp only[pU,List.any_eq_true,beq_iff_eq,exists_eq_right']
    exact pK.2 ⟨_,a1,rfl⟩
 ·rw[List.map_append,List.nodup_append]
  refine⟨by simpa[V4] using hnd,zgh (by omega) t',fun a ha b hb hab=>?_⟩
  obtain⟨x,hx,rfl⟩:=pK.1 ha
  obtain⟨y,hy,rfl⟩:=pK.1 hb
  have h1:=hnr.1.1.1.1
  have h3:=hnr.1.1.1.2
  unfold noR at h1 h3
  rw[pE] at h1 h3
  rcases(z3k t' hy).1 with g|g
  ·exact z3w (h1 x hx) (by rw[hab];exact g)
  ·exact z3w (h3 x hx) (by rw[hab];exact g)
 ·have hu:∀id:Id,p1q 3 id=true→Q4 (ke q M) 3 n m id=mv 3 n id:=by
   intro id hid
   rcases Q0 hid with h1|h1
   ·unfold Q4 mv;rw[if_pos (by omega),if_neg (by omega),show id=(1,id.2) by rw[←h1],l1];rfl
   ·unfold Q4 mv;rw[if_neg (by omega),if_pos h1,h1];simp
  have eT:AHeap.renamed (Q4 (ke q M) 3 n m) (up 3 T')=up n T':=by
   rw[←zi8 (q:=3) (q':=n) (by omega) t']
   unfold AHeap.renamed
   refine pI fun x hx=>?_
   obtain⟨g1,g2⟩:=z3k t' hx
   rw[hu _ (Uc g1),X5 hu _ g2]
  have eL:AHeap.renamed (Q4 (ke q M) 3 n m) (L++up 3 T')=L'++up n T':=by
   have:=hL.eq
   unfold AHeap.renamed at this eT ⊢
   rw[List.map_append,this,eT]
  rw[hR,eL]
  refine⟨_,fun id blk hb=>?_,hk⟩
  rw[AHeap.get_append] at hb ⊢
  rw[AHeap.get_append]
  cases g1:L'.get id with
  |some b=>rw[g1] at hb;simpa using hb
  |none=>
   rw[g1] at hb
   simp only[Option.none_or] at hb ⊢
   rw[AHeap.get_append] at hb
   cases g2:rest.get id with
   |none=>
    rw[g2] at hb
    simp only[Option.none_or] at hb
    rw[hb];rfl
   |some b=>
    rw[g2] at hb
    simp only[Option.some_or,p0] at hb
    subst hb
    -- an old block: not under 1, nor under n
    have hg:lit.get id=some b∧(M.map (·.2)).contains id=false:=by
     rw[←hrest,AHeap.get_without] at g2
     split at g2
     ·cases g2
     ·rename_i hc;exact⟨g2,by simpa using hc⟩
    have hlt:id.1≠1∧id.1≠q:=⟨fun h=>by rw[Jv hnr.1.2 h] at hg;exact absurd hg.1 (by simp),fun h=>by rw[Jv hnr.2 h] at hg;exact absurd hg.1 (by simp)⟩
    have hu0:(up n T').get id=none:=by
     cases hh:(up n T').get id with
     |none=>rfl
     |some b'=>
      rcases(z3k t' (wk hh)).1 with h1|h1
      ·exact absurd h1 hlt.1
      ·rw[Jv hnr.1.1.2 h1] at hg;exact absurd hg.1 (by simp)
    have hp:(p1q q id || (M.map (·.2)).contains id)=false:=by
     rw[hg.2,Bool.or_false]
     cases hh:p1q q id with
     |false=>rfl
     |true=>
      rcases Q0 hh with h1|h1
      ·exact absurd h1 hlt.1
      ·exact absurd h1 hlt.2
    rw[hu0,AHeap.get_without,hp,AHeap.get_append,hg.1]
    simp
structure Clo(P:Program)(fid:Fn)(first caps:List AVal){σ α τ:Type}(Hc:σ→AHeap)(ea:α→List AVal)(rb:τ→AVal)(g:σ→α→Option (τ×σ)):Prop where
 tl:∀s,Tl (Hc s)
 hf:AVal.inP.inPL (fun id=>pJ id.1 1) first=true
 hc:AVal.inP.inPL (fun id=>pJ id.1 1) caps=true
 hb:∀b,(rb b).nid=true
 yc:(∃f,fid=.func f)∨caps=[]
 call:∀s x o,g s x=some o→ACalls P fid (first++ea x++caps) (Hc s) 3 (Xp 4 (rb o.1) (up 3 (Hc o.2)))
theorem X6{F:Id→Bool}{H:AHeap}{ρ:Id→Option Id}{n:Nat}:∀ {a b c d:List AVal},ArgsTo F H ρ n a b→ArgsTo F H ρ n c d→ArgsTo F H ρ n (a++c) (b++d)
 |[],[],_,_,_,h=>h
 |[],_::_,_,_,h,_=>h.elim
 |_::_,[],_,_,h,_=>h.elim
 |x::xs,y::ys,_,_,h,h'=>⟨h.1,X6 h.2 h'⟩
theorem Vw.fix1{F:Id→Bool}{H:AHeap}{ρ:Id→Option Id}{n:Nat}{x:AVal}(hx:x.inP (fun id=>pJ id.1 1)=true)(hn:1<n)(hρ:∀p,ρ (1,p)=some (1,p)):Vw F H ρ n x x:=by
 have:=Vw.mov (F:=F) (H:=H) (ρ:=ρ) (n:=n) (fun id=>pJ id.1 1) (fun i=>i) x hx (fun id hid=>by
  have h1:=pB hid
  refine⟨by omega,?_⟩
  rw[show id=(1,id.2) by rw[←h1]];exact hρ _)
 rwa [Yo] at this
theorem Qy{F:Id→Bool}{H:AHeap}{ρ:Id→Option Id}{n:Nat}(hn:1<n)(hρ:∀p,ρ (1,p)=some (1,p)):∀ {a:List AVal},AVal.inP.inPL (fun id=>pJ id.1 1) a=true→ArgsTo F H ρ n a a
 |[],_=>trivial
 |x::r,h=>by
  simp only[AVal.inP.inPL,pA] at h
  exact⟨.fix1 h.1 hn hρ,Qy hn hρ h.2⟩
theorem z7k(q:Nat)(M:List (Id×Id))(p:Nat):ke q M (1,p)=some (1,p):=by simp[ke]
theorem Clo.use{fid:Fn}{first caps:List AVal}{σ α τ:Type}{Hc:σ→AHeap}{ea:α→List AVal}{rb:τ→AVal}{g:σ→α→Option (τ×σ)}(c:Clo P fid first caps Hc ea rb g){s:σ}{x:α}{o:τ×σ}(h:g s x=some o)
 {args:List AVal} {lit:AHeap} {n q:Nat} {K:AVal→AHeap→Nat→Prop} (hn:(pO 3 q&&pO (q+1) n)=true) (hnr:(noR n lit&&noR 1 lit&&noR q lit)=true) (ha:ArgsTo (fun _=>false) (lit++up q (Hc s)) (ke q []) 3 args (ea x))
 (hk:K (rb o.1) (lit++up n (Hc o.2)) (n+2)):ACallsC P fid first args caps (lit++up q (Hc s)) n K:=by
 have key:∀ {f:Fn},(∃f',f=.func f')∨caps=[]→ACalls P f (first++args++caps) (lit++up q (Hc s)) n K→ACallsC P f first args caps (lit++up q (Hc s)) n K:=by
  intro f h1 h2
  cases f with
  |func g=>exact h2
  |_=>
   rcases h1 with⟨f',h1⟩|h1
   ·cases h1
   ·exact⟨h1,h2⟩
 refine key c.yc ?_
 refine zgz (m:=1) (L:=[]) (L':=[]) (lit0:=[]) (rest:=lit) (R':=rb o.1) (c.tl s) (c.tl o.2) [] (c.call s x o h) rfl rfl rfl ?_ rfl ?_ (X6 (X6 (Qy (by omega) (z7k q []) c.hf) ha) (Qy (by omega) (z7k q []) c.hc)) trivial
  (Y2 _ (c.hb _)) trivial (Yy (fun _ _=>rfl)) hk
 ·simp only[pA] at hn ⊢
  exact⟨hn,rfl⟩
 ·simp only[pA] at hnr ⊢
  exact⟨⟨⟨⟨rfl,rfl⟩,hnr.1.1⟩,hnr.1.2⟩,hnr.2⟩
theorem ACalls.same{f:Fn}{args:List AVal}{H:AHeap}{n:Nat}{R:AVal}(hR:R.nid=true)(h:ACalls P f args H n (fun r H' n'=>r=R∧Kp (fun _=>false) H' (rho n []) n n H)):ACalls P f args H n (fun r H' n'=>r=R∧H'=H∧n'=n):=by
 refine⟨h.1,fun I β w vs hI hl hr=>(h.2 I β w vs hI hl hr).mono ?_⟩
 rintro ee w' ⟨r,v,H',n',I',β',he,⟨rfl,hH⟩,hI',hr',hx⟩
 have hρ:RhoOk n n (fun _=>false) H' (rho n []):=zbc (by simp[X9]) (fun _ _=>rfl)
 obtain⟨k1,k2⟩:=z2t hx hI' hρ hH
 exact⟨_,v,H,n,_,_,he,⟨rfl,rfl,rfl⟩,k2,ut (fun _ _ h=>.inl h) _ hR hr',k1⟩
theorem ACalls.sim{f:Fn}{args args':List AVal}{H L:AHeap}{n n2:Nat}{K:AVal→AHeap→Nat→Prop}(hc:pO n n2=true)(ha:ArgsTo (fun _=>false) H (rho n []) n2 args args')(hH:HeapTo (fun _=>false) H (rho n []) n n2 L)
 (h:ACalls P f args' L n2 K):ACalls P f args H n K:=by
 refine⟨h.1,fun I β w vs hI hl hr=>?_⟩
 have hρ:RhoOk n n2 (fun _=>false) H (rho n []):=zbc (by simp[X9,hc]) (fun _ _=>rfl)
 obtain⟨k1,k2⟩:=z2t (Ext.refl I β n H w hI.fresh) hI hρ hH.get
 obtain⟨ha1,ha2⟩:=ha.get
 refine(h.2 _ _ w vs k2 (by rw[hl,ha1]) (fun i y v hy hv=>?_)).mono ?_
 ·have hlt:i<args.length:=by rw[ha1];exact ui hy
  exact Xd hI hρ (ha2 i args[i] y (p9 hlt) hy) (hr i _ v (p9 hlt) hv)
 ·rintro ee w' ⟨r,v,H',n',I',β',he,hk,hI',hr',hx⟩
  exact⟨r,v,H',n',I',β',he,hk,hI',hr',k1.trans hx⟩
def zcm(p:Id→Bool):AHeap→Prop
 |[]=>True
 |(_,b)::r=>b.inP p=true∧zcm p r
theorem Um{p:Id→Bool}:∀ {T:AHeap},zcm p T→∀x∈T,x.2.inP p=true
 |[],_,x,hx=>by cases hx
 |(_,b)::r,h,x,hx=>by
  rcases pP.1 hx with e|hx
  ·rw[e];exact h.1
  ·exact Um h.2 x hx
theorem Tl.lit{T:AHeap}(hk:(T.all fun x=>p12 x.1)=true)(hv:zcm (fun id=>p12 id&&(T.get id).isSome) T)(hn:V4 T=true):Tl T:=
 ⟨by rw[pE] at hk;exact hk,Um hv,by simpa[V4] using hn⟩
theorem z5f{s bytes:Nat}{H:AHeap}{n:Nat}{K K':AVal→AHeap→Nat→Prop}{x:AVal}{rows2:List (List AVal)}(hk:∀r H n,K r H n→K' r H n)(h:Uf s bytes H n K x rows2):Uf s bytes H n K' x rows2:=by
 unfold Uf at h ⊢
 split at h
 ·exact⟨h.1,hk _ _ _ h.2⟩
 ·exact⟨h.1,h.2.1,h.2.2.1,hk _ _ _ h.2.2.2⟩
 ·exact⟨h.1,h.2.1,h.2.2.1,hk _ _ _ h.2.2.2⟩
 ·exact h.elim
theorem z7m{s bytes:Nat}{H:AHeap}{n:Nat}{K K':AVal→AHeap→Nat→Prop}{x:AVal}{rows2:List (List AVal)}(hk:∀r H n,K r H n→K' r H n)(h:z9m s bytes H n K x rows2):z9m s bytes H n K' x rows2:=by
 unfold z9m at h ⊢
 split at h
 ·exact⟨fun hr=>hk _ _ _ (h.1 hr),fun hr=>⟨(h.2 hr).1,hk _ _ _ (h.2 hr).2⟩⟩
 ·exact⟨h.1,fun hr=>hk _ _ _ (h.2.1 hr),fun hr=>⟨(h.2.2 hr).1,(h.2.2 hr).2.1,hk _ _ _ (h.2.2 hr).2.2⟩⟩
 ·split at h
  ·rename_i hg
   try simp only[hg]
   exact⟨h.1,h.2.1,h.2.2.1,fun hf hr=>hk _ _ _ (h.2.2.2.1 hf hr),fun hr=>⟨(h.2.2.2.2 hr).1,hk _ _ _ (h.2.2.2.2 hr).2⟩⟩
  ·exact h.elim
 ·exact h.elim
theorem Yv{e:Env}{H:AHeap}{n:Nat}{K K':AVal→AHeap→Nat→Prop}{op:LOp}(hk:∀r H n,K r H n→K' r H n)(h:xw P e H n K op):xw P e H n K' op:=by
 cases op<;>simp only[xw] at h ⊢<;>try (exact h.elim)
 case alloc zs=>exact hk _ _ _ h
 case allocR s zs=>exact hk _ _ _ h
 case allocB T el=>exact hk _ _ _ h
 case box x=>
  split at h<;>try (exact h.elim)
  rename_i hc
  try simp only[hc]
  exact⟨h.1,hk _ _ _ h.2⟩
 case mkSl vm s zs len parts=>
  split at h<;>try (exact h.elim)
  rename_i hr
  try simp only[hr]
  cases vm with
  |true=>
   simp only at h ⊢
   split at h<;>try (exact h.elim)
   rename_i hi
   try simp only[hi]
   exact⟨h.1,h.2.1,h.2.2.1,hk _ _ _ h.2.2.2⟩
  |false=>
   obtain⟨h1,h2,h3,rs,h4,h5⟩:=h
   exact⟨h1,h2,h3,rs,h4,hk _ _ _ h5⟩
 case store m a x=>
  split at h<;>try (exact h.elim)
  rename_i ha hc
  try simp only[ha,hc]
  split at h
  ·rename_i hg
   try simp only[hg]
   exact⟨h.1,h.2.1,h.2.2.1,h.2.2.2.1,h.2.2.2.2.1,hk _ _ _ h.2.2.2.2.2⟩
  ·rename_i hg
   try simp only[hg]
   exact⟨h.1,h.2.1,h.2.2.1,h.2.2.2.1,h.2.2.2.2.1,hk _ _ _ h.2.2.2.2.2⟩
  ·exact h.elim
 case conv k x=>
  cases k<;>(try simp only at h ⊢)<;>try (exact h.elim)
  case s2b vm=>
   split at h<;>try (exact h.elim)
   rename_i hl
   try simp only[hl]
   cases vm<;>exact⟨h.1,hk _ _ _ h.2⟩
  case b2s=>
   split at h<;>try (exact h.elim)
   rename_i hl
   try simp only[hl]
   exact⟨h.1,h.2.1,h.2.2.1,h.2.2.2.1,hk _ _ _ h.2.2.2.2⟩
 case mkslice vm s bytes zs l c=>
  split at h<;>try (exact h.elim)
  rename_i hl hc
  try simp only[hl,hc]
  cases vm with
  |true=>exact⟨h.1,h.2.1,h.2.2.1,h.2.2.2.1,h.2.2.2.2.1,hk _ _ _ h.2.2.2.2.2⟩
  |false=>
   obtain⟨h1,h2,h3,h4,h5,rows,h7,h6⟩:=h
   exact⟨h1,h2,h3,h4,h5,rows,h7,hk _ _ _ h6⟩
 case call f args=>exact⟨h.1,h.2.mono hk⟩
 case mkmap r=>
  cases r with
  |none=>exact hk _ _ _ h
  |some x=>exact h.elim
 case range x=>
  split at h
  ·rename_i hx
   try simp only[hx]
   split at h<;>try (exact h.elim)
   rename_i hg
   try simp only[hg]
   exact⟨h.1,fun arr ck=>hk _ _ _ (h.2 arr ck)⟩
  ·rename_i hx
   try simp only[hx]
   exact⟨h.1,hk _ _ _ h.2⟩
  ·exact h.elim
 case next x=>
  split at h<;>try (exact h.elim)
  rename_i hx
  try simp only[hx]
  split at h
  ·rename_i hg
   try simp only[hg]
   exact⟨h.1,hk _ _ _ h.2⟩
  ·rename_i hg
   try simp only[hg]
   split at h<;>try (exact h.elim)
   rename_i hb
   try simp only[hb]
   exact⟨h.1,h.2.1,h.2.2.1,fun q=>hk _ _ _ (h.2.2.2.1 q),fun j h1 h2=>hk _ _ _ (h.2.2.2.2 j h1 h2)⟩
  ·exact h.elim
 case entry x=>
  split at h<;>try (exact h.elim)
  rename_i hx
  try simp only[hx]
  split at h<;>try (exact h.elim)
  rename_i hg
  try simp only[hg]
  split at h<;>try (exact h.elim)
  rename_i hb
  try simp only[hb]
  obtain⟨h1,h2,h3,p,h4,h5⟩:=h
  exact⟨h1,h2,h3,p,h4,hk _ _ _ h5⟩
 case mset ks ka g zs m k x=>
  split at h<;>try (exact h.elim)
  rename_i hm hy
  try simp only[hm,hy]
  split at h<;>try (exact h.elim)
  rename_i hg
  try simp only[hg]
  split at h<;>try (exact h.elim)
  rename_i hp
  try simp only[hp]
  exact⟨h.1,h.2.1,h.2.2.1,h.2.2.2.1,hk _ _ _ h.2.2.2.2⟩
 case mdel ks ka m k=>
  split at h<;>try (exact h.elim)
  rename_i hm
  try simp only[hm]
  split at h<;>try (exact h.elim)
  rename_i hg
  try simp only[hg]
  split at h<;>try (exact h.elim)
  rename_i hp
  try simp only[hp]
  exact⟨h.1,h.2.1,h.2.2.1,hk _ _ _ h.2.2.2⟩
 case callv x args=>
  split at h<;>try (exact h.elim)
  rename_i hx
  try simp only[hx]
  exact⟨h.1,h.2.1,h.2.2.mono hk⟩
 case app vm s bytes x y=>
  split at h<;>try (exact h.elim)
  rename_i hr
  try simp only[hr]
  cases vm with
  |true=>
   simp only at h ⊢
   split at h<;>try (exact h.elim)
   rename_i hi
   try simp only[hi]
   exact⟨h.1,h.2.1,h.2.2.1,z5f hk h.2.2.2⟩
  |false=>exact⟨h.1,h.2.1,h.2.2.1,z7m hk h.2.2.2⟩
 case copy s x y=>
  split at h<;>try (exact h.elim)
  rename_i hx hr
  try simp only[hx,hr]
  split at h<;>try (exact h.elim)
  rename_i hg
  try simp only[hg]
  exact⟨h.1,h.2.1,h.2.2.1,h.2.2.2.1,h.2.2.2.2.1,h.2.2.2.2.2.1,hk _ _ _ h.2.2.2.2.2.2⟩
def lk{κ α:Type}(q:κ→κ→Bool):List (κ×α)→κ→Option α
 |[],_=>none
 |(k',v)::r,k=>if q k k'=true then some v else lk q r k
def mp{κ α:Type}(q:κ→κ→Bool):List (κ×α)→κ→α→List (κ×α)
 |[],k,v=>[(k,v)]
 |(k',v')::r,k,v=>if q k k'=true then(k,v)::r else(k',v')::mp q r k v
def md{κ α:Type}(q:κ→κ→Bool):List (κ×α)→κ→List (κ×α)
 |[],_=>[]
 |(k',v')::r,k=>if q k k'=true then r else(k',v')::md q r k
def em{κ α:Type}(ek:κ→AVal)(ev:α→AVal)(p:κ×α):AVal×AVal:=(ek p.1,ev p.2)
end Go.Fx
namespace Go.Fx
open Go
section
variable {P:Program} {I:Nat→Nat→Prop} {β:Id→Option CLoc} {n:Nat} {H:AHeap} {w:World}
end
end Go.Fx
namespace Go.Fx
open Go
section
variable {P:Program} {I:Nat→Nat→Prop} {β:Id→Option CLoc} {n:Nat} {H:AHeap} {w:World}
def zjr(P:Program)(f:FuncId):Prop:=∀ (b:Nat) (es:Array MapEntry) (ck:Nat) (w:World),w.heap[b]?=some (.map es ck) →
 Calls P f #[.map (some b)] w fun e w'=>e=.returned (.map (some w.heap.size))∧w'=w.alloc (.map es ck)
end
end Go.Fx
namespace Go.Fx
def J8(I:Nat→Nat→Prop)(w:World)(aq:List AVal)(cs:List Value):Prop:=
 cs.length=aq.length∧(∀v∈cs,y7 v=true)∧∀ (i:Nat) (a:AVal) (v:Value),aq[i]?=some a→cs[i]?=some v→RepI I w a v
def old(w:World):Nat→Nat→Prop:=fun b k=>∃v,w.cell? ⟨b,k,none⟩=some v
structure RA(P:Program)(t:TypeId)(α:Type)(e:α→List AVal)(ok:α→Prop):Prop where
 size:∀x,(e x).length=P.cellsOf t
 reads:∀ {H:Type} {enc:TypeId×Value→H} {w:World} {fuel:Nat} {cs:List Value} {d:DataW H} {ps:List MemPlace},pV enc P w 0 (fun _=>true) true fuel t cs=some (d,ps)→(∀n∈d.weights P t,n≤reachBytes)→∃x,ok x∧J8 (old w) w (e x) cs
variable {P:Program}
theorem RA.map{t:TypeId}{α γ:Type}{e:α→List AVal}{ok:α→Prop}(h:RA P t α e ok)(g:α→γ){e':γ→List AVal}{ok':γ→Prop}(he:∀x,e' (g x)=e x)(hg:∀y,∃x,y=g x)(hok:∀x,ok x→ok' (g x)):RA P t γ e' ok':=
 ⟨fun y=>by obtain⟨x,rfl⟩:=hg y;rw[he];exact h.size x,fun h1 h2=>by
  obtain⟨x,h3,h4⟩:=h.reads h1 h2
  exact⟨g x,hok x h3,by rw[he];exact h4⟩⟩
theorem ju{I:Nat→Nat→Prop}{w:World}{a:AVal}{v:Value}(h:RepI I w a v)(hc:y7 v=true):J8 I w [a] [v]:=by
 refine⟨rfl,by simpa using hc,fun i x u hx hu=>?_⟩
 cases i with
 |zero=>simp at hx hu;subst hx;subst hu;exact h
 |succ i=>simp at hx
theorem RA.bool{t:TypeId}(ht:P.underlying t=some .bool)(hs:P.cellsOf t=1):RA P t Bool (fun b=>[.bool b]) (fun _=>True):=by
 refine⟨fun _=>hs.symm,fun {H enc w fuel cs d ps} h _=>?_⟩
 cases fuel with
 |zero=>cases h
 |succ fuel=>
  unfold pV at h
  simp only[ht] at h
  split at h<;>try (simp at *;done)
  rename_i b _
  exact⟨b,trivial,ju (.bool b) rfl⟩
theorem RA.int{t:TypeId}{k:IntKind}(ht:P.underlying t=some (.int k))(hs:P.cellsOf t=1):RA P t Int (fun n=>[.int k n]) (fun n=>k.min≤n∧n≤k.max):=by
 refine⟨fun _=>hs.symm,fun {H enc w fuel cs d ps} h _=>?_⟩
 cases fuel with
 |zero=>cases h
 |succ fuel=>
  unfold pV at h
  rcases cs with _|⟨v,_|⟨v2,r⟩⟩
  ·simp[ht] at h
  ·cases v<;>simp only[ht] at h<;>try (cases h;done)
   rename_i k2 m
   split at h<;>try (cases h;done)
   rename_i hk
   obtain⟨rfl,hwf⟩:=hk
   simp only[Lit.wf,pA,decide_eq_true_eq] at hwf
   exact⟨m,hwf,ju (.int _ m) rfl⟩
  ·simp[ht] at h
theorem RA.string{t:TypeId}(ht:P.underlying t=some .string)(hs:P.cellsOf t=1):RA P t (List UInt8) (fun l=>[.str l]) (fun l=>l.length≤reachBytes):=by
 refine⟨fun _=>hs.symm,fun {H enc w fuel cs d ps} h hw=>?_⟩
 cases fuel with
 |zero=>cases h
 |succ fuel=>
  unfold pV at h
  simp only[ht] at h
  split at h<;>try (simp at *;done)
  rename_i s _
  split at h<;>try (cases h;done)
  simp only[p0,pL] at h
  obtain⟨rfl,_⟩:=h
  refine⟨s.data.toList,?_,ju ?_ rfl⟩
  ·exact hw _ (by simp[DataW.weights])
  ·exact .str s.data.toList
theorem k6{α γ:Type}{f:α→Option γ}:∀ {l:List α} {r:List γ},l.mapM f=some r→r.length=l.length∧∀ (i:Nat) (a:α) (b:γ),l[i]?=some a→r[i]?=some b→f a=some b
 |[],r,h=>by simp at h;subst h;simp
 |a::l,r,h=>by
  rw[List.mapM_cons] at h
  cases hf:f a with
  |none=>rw[hf] at h;cases h
  |some b=>
   cases hr:l.mapM f with
   |none=>rw[hf,hr] at h;cases h
   |some r'=>
    rw[hf,hr] at h
    simp at h
    subst h
    obtain⟨h1,h2⟩:=k6 hr
    refine⟨by simp[h1],fun i x y hx hy=>?_⟩
    cases i with
    |zero=>simp at hx hy;subst hx;subst hy;exact hf
    |succ i=>exact h2 i x y (by simpa using hx) (by simpa using hy)
theorem cells?_get {w:World} {a:Addr} {n:Nat} {cs:List Value} (h:w.cells? 0 a n=some cs):cs.length=n∧∀j v,cs[j]?=some v→w.cell? (a.add j)=some v:=by
 unfold World.cells? at h
 rw[if_pos (Nat.zero_le _)] at h
 obtain⟨h1,h2⟩:=k6 h
 refine⟨by simpa using h1,fun j v hj=>?_⟩
 have hlt:j<n:=by
  rcases q5 j n with h|h
  ·exact h
  ·rw[pT (by rw[h1];simpa using h)] at hj;cases hj
 exact h2 j j v (List.getElem?_range hlt) hj
theorem vo{H:Type}{P:Program}{e:TypeId}:∀ {l:List (DataW H)} {d:DataW H},d∈l→∀n∈d.weights P e,n∈DataW.weightsAll P e l
 |x::l,d,hd,n,hn=>by
  simp only[DataW.weightsAll,List.mem_append]
  rcases pP.1 hd with rfl|h
  ·exact .inl hn
  ·exact .inr (vo h n hn)
theorem Zt{α:Type}(p:Nat→α→Prop):∀ (n:Nat),(∀i,i<n→∃x,p i x)→∃l:List α,l.length=n∧∀i x,l[i]?=some x→p i x
 |0,_=>⟨[],rfl,fun i x h=>by simp at h⟩
 |n+1,h=>by
  obtain⟨l,h1,h2⟩:=Zt p n (fun i hi=>h i (by omega))
  obtain⟨x,hx⟩:=h n (by omega)
  refine⟨l++[x],by simp[h1],fun i y hy=>?_⟩
  rw[List.getElem?_append] at hy
  split at hy
  ·exact h2 i y hy
  ·rename_i hge
   rw[h1] at hge hy
   cases hi:i-n with
   |zero=>rw[hi] at hy;simp at hy;subst hy;have:i=n:=by omega
          subst this;exact hx
   |succ k=>rw[hi] at hy;simp at hy
theorem RA.slice{t c:TypeId}{α:Type}{e:α→List AVal}{ok:α→Prop}(ht:P.underlying t=some (.slice c))(hs:P.cellsOf t=1)(hc:0<P.cellsOf c)(h:RA P c α e ok) :
 RA P t (List α) (fun l=>[.isl (P.cellsOf c) (l.map e) false]) (fun l=>l.length≤maxLen∧l.length*P.bytesOf c≤reachBytes∧∀x∈l,ok x):=by
 refine⟨fun _=>hs.symm,fun {H enc w fuel cs d ps} hd hw=>?_⟩
 cases fuel with
 |zero=>cases hd
 |succ fuel=>
  unfold pV at hd
  rcases cs with _|⟨v,_|⟨v2,r⟩⟩
  ·simp[ht] at hd
  ·cases v<;>simp only[ht] at hd<;>try (cases hd;done)
   rename_i ad len cap
   cases ad with
   |none=>
    rcases len with _|len<;>rcases cap with _|cap<;>simp only at hd<;>try (cases hd;done)
    exact⟨[],⟨Nat.zero_le _,by simp,by simp⟩,ju (.islNil _ _) rfl⟩
   |some ad=>
    simp only at hd
    split at hd<;>try (cases hd;done)
    rename_i hcond
    obtain⟨_,hlc,hcm⟩:=hcond
    cases hel:(List.range len).mapM (fun i=>(w.cells? 0 (ad.add (i*P.cellsOf c)) (P.cellsOf c)).bind (pV enc P w 0 (fun _=>true) true fuel c)) with
    |none=>rw[hel] at hd;cases hd
    |some elems=>
     rw[hel] at hd
     simp only[Option.bind_some,if_true,pQ,pL] at hd
     obtain⟨rest,hrest,hd1,_⟩:=hd
     obtain⟨k1,k2⟩:=k6 hel
     obtain⟨k3,_⟩:=k6 hrest
     subst hd1
     have hw1:(elems.length+rest.length)*P.bytesOf c≤reachBytes:=by
      have:=hw ((elems.length+rest.length)*P.bytesOf c) (by simp[DataW.weights,ht])
      exact this
     have hle:len*P.bytesOf c≤reachBytes:=by
      have:len*P.bytesOf c≤(elems.length+rest.length)*P.bytesOf c:=Nat.mul_le_mul_right _ (by rw[k1];simp)
      omega
     -- every element reads
     have each:∀i,i<len→∃x,ok x∧∃cs',w.cells? 0 (ad.add (i*P.cellsOf c)) (P.cellsOf c)=some cs'∧J8 (old w) w (e x) cs':=by
      intro i hi
      have hli:i<elems.length:=by rw[k1];simpa using hi
      have hget:=k2 i i elems[i] (List.getElem?_range hi) (p9 hli)
      cases hcs:w.cells? 0 (ad.add (i*P.cellsOf c)) (P.cellsOf c) with
      |none=>rw[hcs] at hget;cases hget
      |some cs'=>
       rw[hcs] at hget
       simp only[Option.bind_some] at hget
       obtain⟨x,hx1,hx2⟩:=h.reads (d:=elems[i].1) (ps:=elems[i].2) hget (fun m hm=>hw m (by
        simp only[DataW.weights,ht,pP,List.mem_append]
        exact .inr (.inl (vo (List.mem_map_of_mem (List.getElem_mem hli)) m hm))))
       exact⟨x,hx1,cs',rfl,hx2⟩
     obtain⟨l,hl1,hl2⟩:=Zt (fun i x=>ok x∧∃cs',w.cells? 0 (ad.add (i*P.cellsOf c)) (P.cellsOf c)=some cs'∧J8 (old w) w (e x) cs') len each
     subst hl1
     refine⟨l,⟨by omega,hle,fun x hx=>?_⟩,ju ?_ rfl⟩
     ·obtain⟨i,hi⟩:=List.getElem?_of_mem hx
      exact(hl2 i x hi).1
     ·by_cases h0:l=[]
      ·subst h0
       exact .islEmpty _ _ _ _ (fun h=>by cases h)
      ·have hpos:0<l.length:=List.length_pos_iff.2 h0
       -- the block
       obtain⟨_,cs0,hcs0,hcell0⟩:=hl2 0 l[0] (p9 hpos)
       obtain⟨hn0,hg0⟩:=cells?_get hcs0
       have hc0:=hg0 0 cs0[0] (p9 (by omega))
       have hsp:=World.cell?_spot hc0
       obtain⟨b,o,sp⟩:=ad
       have hsp:sp=none:=by simpa[Addr.add] using hsp
       subst hsp
       have hb:b<w.heap.size:=by
        have:=World.block_lt_of_cell? _ _ hc0
        rwa [yb,yb] at this
       let vf:Nat→Nat→Value:=fun i j=>((w.cells? 0 ((⟨b,o,none⟩:Addr).add (i*P.cellsOf c)) (P.cellsOf c)).getD []).getD j default
       have key:∀i r j x,(l.map e)[i]?=some r→r[j]?=some x→w.cell? ⟨b,o+i*P.cellsOf c+j,none⟩=some (vf i j)∧y7 (vf i j)=true∧RepI (old w) w x (vf i j):=by
        intro i r j x hr hx
        rw[pF] at hr
        cases hli:l[i]? with
        |none=>rw[hli] at hr;cases hr
        |some y=>
         rw[hli] at hr
         simp only[pG,p0] at hr
         subst hr
         obtain⟨_,cs',hcs',hl3,hl4,hl5⟩:=hl2 i y hli
         obtain⟨hn,hg⟩:=cells?_get hcs'
         have hj:j<cs'.length:=by
          rw[hl3]
          rcases q5 j (e y).length with h|h
          ·exact h
          ·rw[pT h] at hx;cases hx
         have hv:vf i j=cs'[j]:=by simp only[vf,hcs',Option.getD_some,List.getD_eq_getElem?_getD,p9 hj]
         have:=hg j cs'[j] (p9 hj)
         rw[yb,yb] at this
         rw[hv]
         exact⟨this,hl4 _ (List.getElem_mem hj),hl5 j x _ hx (p9 hj)⟩
       have:=RepI.isl (I:=old w) (w:=w) (P.cellsOf c) (l.map e) false b o cap vf (fun i r j x h1 h2=>⟨_,(key i r j x h1 h2).1⟩) (by simpa using hlc) (fun h=>by cases h)
        (fun i r hr=>by
         rw[pF] at hr
         cases hli:l[i]? with
         |none=>rw[hli] at hr;cases hr
         |some y=>rw[hli] at hr;simp at hr;rw[←hr];exact h.size y)
        (fun i r j x h1 h2=>(key i r j x h1 h2).1) (fun i r j x h1 h2=>(key i r j x h1 h2).2.1) (fun i r j x h1 h2=>(key i r j x h1 h2).2.2)
       simpa using this
  ·simp[ht] at hd
structure RF(P:Program)(fs:List Field)(off tot:Nat)(α:Type)(e:α→List AVal)(ok:α→Prop):Prop where
 size:∀x,(e x).length=tot
 reads:∀ {H:Type} {enc:TypeId×Value→H} {w:World} {fuel:Nat} {cs:List Value} {xs:List (DataW H×List MemPlace)},fs.mapM (fun f=>pV enc P w 0 (fun _=>true) true fuel f.type ((cs.drop f.offset).take (P.cellsOf f.type)))=some xs →
  (∀n∈pY P (fs.map (·.type)) (xs.map (·.1)),n≤reachBytes)→∃x,ok x∧J8 (old w) w (e x) ((cs.drop off).take tot)
theorem RF.nil(off:Nat):RF P [] off 0 Unit (fun _=>[]) (fun _=>True):=
 ⟨fun _=>rfl,fun _ _=>⟨(),trivial,by simp[J8]⟩⟩
theorem RF.cons{f:Field}{fs:List Field}{off tot m:Nat}{α γ:Type}{e:α→List AVal}{ok:α→Prop}{e':γ→List AVal}{ok':γ→Prop}(ho:f.offset=off)(hm:P.cellsOf f.type=m)(h:RA P f.type α e ok)(h':RF P fs (off+m) tot γ e' ok') :
 RF P (f::fs) off (m+tot) (α×γ) (fun x=>e x.1++e' x.2) (fun x=>ok x.1∧ok' x.2):=by
 refine⟨fun x=>by rw[List.length_append,h.size,h'.size,hm],fun {H enc w fuel cs xs} hd hw=>?_⟩
 rw[List.mapM_cons] at hd
 cases h1:pV enc P w 0 (fun _=>true) true fuel f.type ((cs.drop f.offset).take (P.cellsOf f.type)) with
 |none=>rw[h1] at hd;cases hd
 |some y=>
  rw[h1] at hd
  cases h2:fs.mapM (fun f=>pV enc P w 0 (fun _=>true) true fuel f.type ((cs.drop f.offset).take (P.cellsOf f.type))) with
  |none=>rw[h2] at hd;cases hd
  |some ys=>
   rw[h2] at hd
   simp at hd
   subst hd
   simp only[pS,pY,List.mem_append] at hw
   obtain⟨x,hx1,hx2,hx3,hx4⟩:=h.reads (d:=y.1) (ps:=y.2) h1 (fun n hn=>hw n (.inl hn))
   obtain⟨z,hz1,hz2,hz3,hz4⟩:=h'.reads h2 (fun n hn=>hw n (.inr hn))
   refine⟨(x,z),⟨hx1,hz1⟩,?_⟩
   subst ho
   have e1:(cs.drop f.offset).take (m+tot)=(cs.drop f.offset).take m++(cs.drop (f.offset+m)).take tot:=by
    rw[List.take_add,List.drop_drop]
   rw[e1]
   rw[hm] at hx2 hx3 hx4
   refine⟨by simp only[List.length_append,hx2,hz2],fun v hv=>?_,fun i a v ha hv=>?_⟩
   ·rcases List.mem_append.1 hv with h|h
    ·exact hx3 v h
    ·exact hz3 v h
   ·rw[List.getElem?_append] at ha hv
    rw[hx2] at hv
    split at ha
    ·rename_i hlt
     rw[if_pos hlt] at hv
     exact hx4 i a v ha hv
    ·rename_i hlt
     rw[if_neg hlt] at hv
     exact hz4 _ a v ha hv
theorem RA.struct{t:TypeId}{fs:Array Field}{α:Type}{e:α→List AVal}{ok:α→Prop}(ht:P.underlying t=some (.struct fs))(h:RF P fs.toList 0 (P.cellsOf t) α e ok):RA P t α e ok:=by
 refine⟨h.size,fun {H enc w fuel cs d ps} hd hw=>?_⟩
 cases fuel with
 |zero=>cases hd
 |succ fuel=>
  unfold pV at hd
  have hd:(if cs.length=P.cellsOf t then(fs.toList.mapM fun f=>pV enc P w 0 (fun _=>true) true fuel f.type ((cs.drop f.offset).take (P.cellsOf f.type))).map (fun xs=>(DataW.agg (xs.map (·.1)),xs.flatMap (·.2))) else none)=some (d,ps):=by
   rw[ht] at hd
   rcases cs with _|⟨v,_|⟨v2,r⟩⟩<;>simpa using hd
  split at hd<;>try (cases hd;done)
  rename_i hlen
  simp only[pQ,pL] at hd
  obtain⟨xs,hxs,rfl,_⟩:=hd
  obtain⟨x,hx1,hx2⟩:=h.reads hxs (fun n hn=>hw n (by simp only[DataW.weights,ht];exact hn))
  refine⟨x,hx1,?_⟩
  rw[List.drop_zero,←hlen,List.take_length] at hx2
  exact hx2
theorem RA.structN{t:TypeId}{fs:Array Field}{m:Nat}{α:Type}{e:α→List AVal}{ok:α→Prop}(ht:P.underlying t=some (.struct fs))(hm:P.cellsOf t=m)(h:RF P fs.toList 0 m α e ok):RA P t α e ok:=by
 subst hm
 exact RA.struct ht h
theorem RA.arg{t:TypeId}{α:Type}{e:α→List AVal}{ok:α→Prop}(h:RA P t α e ok){H:Type}{enc:TypeId×Value→H}{w:World}{v:Value}{d:DataW H}{ps:List MemPlace}(hv:y7 v=true)
 (hd:DataW.Trod enc P w 0 (fun _=>true) true t v d ps) (hw:∀n∈d.weights P t,n≤reachBytes):∃x a,ok x∧e x=[a]∧RepI (old w) w a v:=by
 obtain⟨fuel,hd⟩:=hd
 obtain⟨x,h1,h2,h3,h4⟩:=h.reads hd hw
 rw[Yn hv] at h2 h4
 have:(e x).length=1:=by rw[←h2];rfl
 obtain⟨a,ha⟩:=List.length_eq_one_iff.1 this
 exact⟨x,a,h1,ha,h4 0 a v (by rw[ha];rfl) rfl⟩
end Go.Fx
namespace Go.Fx
open Go.ChangeShapes Go.WideShapes Go.ChangeAt Go.RowKit
variable {P:Program}
def RV(P:Program)(t:TypeId)(α:Type)(e:α→AVal)(ok:α→Prop):Prop:=
 ∀ {H:Type} {enc:TypeId×Value→H} {w:World} {v:Value} {d:DataW H} {ps:List MemPlace} {base:Nat},Value.okWide P w .any base t v→DataW.Trod enc P w 0 (fun _=>true) true t v d ps→(∀n∈d.weights P t,n≤reachBytes)→∃x,ok x∧RepI (old w) w (e x) v
theorem RV.cell{t:TypeId}{α:Type}{e:α→AVal}{ok:α→Prop}(h:RA P t α (fun x=>[e x]) ok)(hc:∀ (w:World) (base:Nat) (v:Value),Value.okWide P w .any base t v→y7 v=true):RV P t α e ok:=by
 intro H enc w v d ps base hv hd hw
 obtain⟨x,a,h1,h2,h3⟩:=h.arg (hc w base v hv) hd hw
 simp only[List.cons.injEq,and_true] at h2
 exact⟨x,h1,by rw[h2];exact h3⟩
theorem RV.bool{t:TypeId}(ht:P.underlying t=some .bool)(hs:P.cellsOf t=1):RV P t Bool (fun b=>.bool b) (fun _=>True):=
 RV.cell (RA.bool ht hs) (fun w base v h=>by obtain⟨b,rfl⟩:=okWide_bool ht h;rfl)
theorem RV.int{t:TypeId}{k:IntKind}(ht:P.underlying t=some (.int k))(hs:P.cellsOf t=1):RV P t Int (fun n=>.int k n) (fun n=>k.min≤n∧n≤k.max):=
 RV.cell (RA.int ht hs) (fun w base v h=>by obtain⟨b,rfl⟩:=okWide_int ht h;rfl)
theorem RV.string{t:TypeId}(ht:P.underlying t=some .string)(hs:P.cellsOf t=1):RV P t (List UInt8) (fun l=>.str l) (fun l=>l.length≤reachBytes):=
 RV.cell (RA.string ht hs) (fun w base v h=>by obtain⟨b,rfl⟩:=okWide_string ht h;rfl)
theorem RV.slice{t c:TypeId}{α:Type}{e:α→List AVal}{ok:α→Prop}(ht:P.underlying t=some (.slice c))(hs:P.cellsOf t=1)(hc:0<P.cellsOf c)(h:RA P c α e ok) :
 RV P t (List α) (fun l=>.isl (P.cellsOf c) (l.map e) false) (fun l=>l.length≤maxLen∧l.length*P.bytesOf c≤reachBytes∧∀x∈l,ok x):=
 RV.cell (RA.slice ht hs hc h) (fun w base v h=>by obtain⟨a,l,c,rfl⟩:=okWide_slice ht h;rfl)
theorem RV.struct{t:TypeId}{fs:Array Field}{α:Type}{e:α→List AVal}{ok:α→Prop}(ht:P.underlying t=some (.struct fs))(h:RA P t α e ok):RV P t α (fun x=>.agg (e x)) ok:=by
 intro H enc w v d ps base hv hd hw
 obtain⟨cs,rfl,hsz⟩:=okWide_struct ht hv
 obtain⟨fuel,hd⟩:=hd
 obtain⟨x,h1,h2,h3,h4⟩:=h.reads hd hw
 have e1:(Value.agg cs).cells.toList=cs.toList:=rfl
 rw[e1] at h2 h3 h4
 refine⟨x,h1,.agg _ cs (by rw[←Array.length_toList];exact h2) h3 (fun i y u hy hu=>h4 i y u hy (by rw[pX];exact hu))⟩
def RVs(P:Program)(ts:List TypeId)(α:Type)(e:α→List AVal)(ok:α→Prop):Prop:=
 ∀ {H:Type} {enc:TypeId×Value→H} {w:World} {vs:List Value} {ds:List (DataW H)} {ps:List MemPlace} {base:Nat},(∀ (j:Nat) t v,ts[j]?=some t→vs[j]?=some v→Value.okWide P w .any base t v) →
  DataW.TrodAll enc P w 0 (fun _=>true) true ts vs ds ps→(∀n∈pY P ts ds,n≤reachBytes)→∃x,ok x∧vs.length=(e x).length∧∀ (i:Nat) (a:AVal) (v:Value),(e x)[i]?=some a→vs[i]?=some v→RepI (old w) w a v
theorem RVs.nil:RVs P [] Unit (fun _=>[]) (fun _=>True):=by
 intro H enc w vs ds ps base _ h _
 obtain⟨rfl,rfl,rfl⟩:=trodAll_nil h
 exact⟨(),trivial,rfl,by simp⟩
theorem RVs.cons{t:TypeId}{ts:List TypeId}{α γ:Type}{e:α→AVal}{e':γ→List AVal}{ok:α→Prop}{ok':γ→Prop}(h:RV P t α e ok)(h':RVs P ts γ e' ok'):RVs P (t::ts) (α×γ) (fun x=>e x.1::e' x.2) (fun x=>ok x.1∧ok' x.2):=by
 intro H enc w vs ds ps base hv hd hw
 obtain⟨v,vs',d,ds',p,q,rfl,rfl,rfl,h1,h2⟩:=trodAll_cons hd
 simp only[pY,List.mem_append] at hw
 obtain⟨x,hx1,hx2⟩:=h (hv 0 t v rfl rfl) h1 (fun n hn=>hw n (.inl hn))
 obtain⟨y,hy1,hy2,hy3⟩:=h' (fun j t' v' ht hv'=>hv (j+1) t' v' (by simpa using ht) (by simpa using hv')) h2 (fun n hn=>hw n (.inr hn))
 refine⟨(x,y),⟨hx1,hy1⟩,by simp[hy2],fun i a u ha hu=>?_⟩
 cases i with
 |zero=>simp at ha hu;subst ha;subst hu;exact hx2
 |succ i=>exact hy3 i a u (by simpa using ha) (by simpa using hu)
theorem Inv.empty(w:World)(hg:GlobOk (old w) w):Inv (old w) (fun _=>none) 0 [] w:=
 { blocks:=fun id blk h=>by simp[AHeap.get] at h
   inj:=fun i j c d b k h=>by simp at h
   own:=fun i c b k h=>by simp at h
   imm:=fun b k h=>h
   fresh:=fun id _=>rfl
   glob:=hg }
theorem Jj{H:Type}{enc:TypeId×Value→H}{w:World}{base:Nat}{spare:Nat→Bool}{held:Bool}:∀ {ts:List TypeId} {vs:List Value} {ds:List (DataW H)} {p:List MemPlace},DataW.TrodAll enc P w base spare held ts vs ds p→ds.length=ts.length
 |[],_,_,_,h=>by obtain⟨rfl,rfl,rfl⟩:=trodAll_nil h;rfl
 |t::ts,_,_,_,h=>by
  obtain⟨v,vs',d,ds',p1,q1,rfl,rfl,rfl,k1,k2⟩:=trodAll_cons h
  simp[Jj k2]
theorem Ka{f:FuncId}{fn:Func}{s:ChangeSpec}{tb:TypeId}(hl:laidOutB P=true)(ts:List TypeId)(hts:fn.params.toList=ts)(hvars:s.vars=[])(hres:fn.resultTypes=#[tb])(hb:P.underlying tb=some .bool)
 (hrd:ts.all (fun t=>P.readableRec t&&decide (t<P.types.size))=true)
 {H:Type} {enc:TypeId×Value→H} {W:World} {base:Nat} {args:Array Value} {ds gs:List (DataW H)} {before:List MemPlace}
 (hfn:∀ds:List (DataW H),ds.length=ts.length→(s.fn H (ds++[])).results=[.lit (.bool true)]∧(s.fn H (ds++[])).args=ds∧(s.fn H (ds++[])).vars=[])
 (hval:∀ (j:Nat) t v,fn.params[j]?=some t→args[j]?=some v→Value.okWide P W .any base t v)
 (hW:DataW.Whole enc P fn.params.toList s.vars false W args.toList ds gs before)
 (hsz:(pY P (fn.params.toList++s.plain.varTypes P) (ds++gs)).all (·≤reachBytes)=true) (hg:GlobOk (old W) W)
 (hr:∀ {ps:List MemPlace},(∀ (j:Nat) t v,ts[j]?=some t→args.toList[j]?=some v→Value.okWide P W .any base t v)→DataW.TrodAll enc P W 0 (fun _=>true) true ts args.toList ds ps→(∀n∈pY P ts ds,n≤reachBytes) →
  ∃xs:List AVal,PFn P f xs (.bool true)∧args.toList.length=xs.length∧∀ (i:Nat) (a:AVal) (v:Value),xs[i]?=some a→args.toList[i]?=some v→RepI (old W) W a v) :
 Calls P f args W fun e W'=>∃v,e=.returned v∧s.post enc P fn false true false false W args v W':=by
 subst hts
 have hW':=hW
 obtain⟨p,q,hA0,hV,rfl,_,_⟩:=hW
 have hfn:=hfn ds (Jj hA0)
 rw[hvars] at hV
 obtain⟨rfl,rfl⟩:=trodVars_none hV
 have hvt:s.plain.varTypes P=[]:=by
  show s.vars.filterMap _=[]
  rw[hvars];rfl
 rw[hvt] at hsz
 simp only[List.append_nil] at hsz hW' hfn
 obtain⟨xs,hA,hlen,hrep⟩:=hr (fun j t v ht hv=>hval j t v (by rw[←pX];exact ht) (by rw[←pX];exact hv)) hA0 (fun n hn=>of_decide_eq_true (pE.1 hsz n hn))
 obtain⟨_,m,hA⟩:=hA
 have hc:=hA.2 (old W) (fun _=>none) W args.toList (Inv.empty W hg) hlen (fun i a v h1 h2=>.imm a v (hrep i a v h1 h2))
 rw[show args.toList.toArray=args from by simp] at hc
 refine hc.mono fun e W' ⟨r,v,H',n',I',β',h1,h2,h3,h4,h5⟩=>?_
 subst h1
 obtain⟨rfl,_,_⟩:=h2
 have hv:v=.bool true:=by
  cases h4 with
  |imm _ _ h=>cases h;rfl
 subst hv
 have hbel:Below W.heap.size W W':=⟨h5.os,h5.tape.eq,h5.output,h5.size,fun k hk=>h5.frame k hk (fun id c q hc=>by cases hc)⟩
 have hlt:∀x∈p,x.block<W.heap.size:=fun x hx=>by simpa using hW'.lt x hx
 have hargs:∀ (ts:List TypeId) (vs:List Value) (ds:List (DataW H)) (p:List MemPlace),DataW.TrodAll enc P W 0 (fun _=>true) true ts vs ds p→(ts.all (fun t=>P.readableRec t&&decide (t<P.types.size))=true)→(∀x∈p,x.block<W.heap.size)→DataW.TrodAll enc P W' 0 (fun b=>decide (b<W.heap.size)) true ts vs ds p:=by
  intro ts
  induction ts with
  |nil=>
   intro vs ds p h _ _
   obtain⟨rfl,rfl,rfl⟩:=trodAll_nil h
   exact trodAll_mk0
  |cons t ts ih=>
   intro vs ds p h hall hp
   obtain⟨v,vs',d,ds',p1,q1,rfl,rfl,rfl,k1,k2⟩:=trodAll_cons h
   simp only[List.all_cons,pA,decide_eq_true_eq] at hall
   exact trodAll_cons_mk (Below.trod hl hall.1.1 hall.1.2 k1 hbel (fun x hx=>hp x (List.mem_append_left _ hx))) (ih _ _ _ k2 hall.2 (fun x hx=>hp x (List.mem_append_right _ hx)))
 refine⟨_,rfl,ds,[],p,[],p,[],by simpa using hW',?_,?_,?_,hbel.frame _,fun h=>by cases h⟩
 ·rw[List.append_nil,hfn.1,hres]
  exact trodAll_mk1 (shut_bool hb true)
 ·rw[List.append_nil,hfn.2.1]
  exact hargs _ _ _ _ hA0 hrd hlt
 ·rw[List.append_nil,hfn.2.2,hvars]
  rfl
end Go.Fx
namespace Go.Fx
open Go
section
variable {P:Program} {I:Nat→Nat→Prop} {β:Id→Option CLoc} {n:Nat} {H:AHeap} {w:World}
def zjp(fn:Func)(t:TypeId):Prop:=∃ (tB t0 t1 t2 t3 t4 t5 t6:TypeId) (p1 p2 p3 p4 p5 p6 p7 p8:String) (a1 a2 a3 a4 a5 a6 a7 a8:Array Edge) (i0 i1 i2 i3:Nat),
 fn.ntmps=8∧fn.results=#[.tmp 2] ∧
  fn.body=some (.seq (.region i0 #[⟨some 2,.assign (.const (.slice none 0 0)),t0,p1,a1,none⟩] false)
   (.seq (.seq (.region i1 #[⟨some 3,.move (.tmp 0),t1,p2,a2,none⟩,⟨some 4,.binOp .eql t (.tmp 3) (.const (.slice none 0 0)) t,tB,p3,a3,none⟩] false)
    (.cond (.tmp 4) (.seq (.region i2 #[⟨some 2,.assign (.const (.slice none 0 0)),t2,p4,a4,none⟩] false) .ret) .skip))
   (.seq (.region i3 #[⟨some 5,.buildSlice t 0 #[],t3,p5,a5,none⟩,⟨some 6,.move (.tmp 0),t4,p6,a6,none⟩,⟨some 7,.call { callee:=.builtin .append,args:=#[.tmp 5,.tmp 6],argTypes:=#[t,t] },t5,p7,a7,none⟩,⟨some 2,.assign (.tmp 7),t6,p8,a8,none⟩] false) .ret)))
end
noncomputable def zf1{α:Type}(m:Option Nat)(f:Nat→Option α):Option α:=match m with
 |some k=>f k
 |none=>open Classical in if h:∃k,(f k).isSome=true then f (pR h) else none
theorem z88{α:Type}{m:Option Nat}{f:Nat→Option α}{o:α}(h:zf1 m f=some o):∃k,f k=some o:=by
 unfold zf1 at h
 split at h
 ·exact⟨_,h⟩
 ·split at h
  ·exact⟨_,h⟩
  ·cases h
theorem zcw{α:Type}{f:Nat→Option α}{v:α}(h1:∀k o,f k=some o→o=v)(h2:∃k,f k=some v):zf1 none f=some v:=by
 obtain⟨k,hk⟩:=h2
 have h:∃k,(f k).isSome=true:=⟨k,by rw[hk];rfl⟩
 unfold zf1
 simp only
 rw[dif_pos h]
 have:=pM h
 cases hc:f (pR h) with
 |none=>rw[hc] at this;cases this
 |some o=>rw[h1 _ _ hc]
end Go.Fx
