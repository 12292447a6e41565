/-
  Own framework.
-/
import Derived.Test.YtjkfnbjgpilokaaGreatDoorFb
import Derived.Laws.Externs
import Derived.Tactics
import Derived.WalkKit
import Derived.ProofKit
import Derived.OpenShut
import Derived.SizedLaws
set_option linter.unusedVariables false
set_option linter.unusedSimpArgs false
open Bool renaming and_eq_true→p3,false_eq_true→pQ
open Classical renaming choose_spec→pJ,choose→pO
open Go.DataW renaming trod→pP
open List renaming getElem?_eq_getElem→p2,mem_of_getElem?→p6,all_eq_true→p7,getElem?_map→p8,mem_map→pB,length_map→pC,map_congr_left→pD,getElem?_cons_zero→pG,mem_cons→pH,map_cons→pI,contains_eq_any_beq→pK,getElem?_eq_none→pM,mem_append→pR,map_map→pT
open Nat renaming eq_of_beq_eq_true→p4,le_of_ble_eq_true→p5,beq→pA,ble→pF,le_refl→pN,not_lt_zero→pU,lt_or_ge→pV
open Option renaming map_some→p9,map_eq_some_iff→pL,none_or→pS
open Option.some renaming injEq→p0
open Prod.mk renaming injEq→pE
namespace Go.Fx
variable {P:Program} {N:Lay}
theorem LWp.mono{n0:Nat}{lc:LCode}{Q Q':Exit→Env→AHeap→Nat→Prop}{e:Env}{H:AHeap}{n:Nat}(h:LWp P N n0 lc Q e H n)(hq:∀ex e H n,Q ex e H n→Q' ex e H n):LWp P N n0 lc Q' e H n:=
 fun c hc ro hro I0 β0 H0 w0 I β w a h0 h1 h2 h3 h4 QQ hQ=>h c hc ro hro I0 β0 H0 w0 I β w a h0 h1 h2 h3 h4 QQ fun ex e' H' n' I' β' w' a' g1 g2 g3 g4 g5 g6=>hQ ex e' H' n' I' β' w' a' (hq _ _ _ _ g1) g2 g3 g4 g5 g6
theorem zcv{draw:Bool}{ops:Array Oper}{f t:Nat}(h:zju N draw ops=some (f,t)):N.rd=false∧draw=false∧t<N.n ∧
 ∃o1 o2 fs cs c,ops.toList=[o1,o2]∧o1.dst=some t∧o1.op=.makeFunc (.func f) fs cs∧o1.guard=none∧o2.dst=none∧o2.op=.defer c∧o2.guard=none∧c.callee=.value (.tmp t)∧fs=#[]∧c.args=#[]:=by
 unfold zju at h
 split at h<;>try (cases h;done)
 rename_i o1 o2 hrd hops
 split at h<;>try (cases h;done)
 rename_i t0 f0 fs cs c h1 h2 h3 h4 h5 h6
 split at h<;>try (cases h;done)
 rename_i t' hc
 split at h<;>try (cases h;done)
 rename_i hb
 simp only[p3,beq_iff_eq,Nat.blt_eq] at hb
 simp only[p0,pE] at h
 obtain⟨rfl,rfl⟩:=h
 obtain⟨⟨⟨b1,b2⟩,rfl⟩,b4⟩:=hb
 exact⟨hrd,rfl,b4,o1,o2,fs,cs,c,hops,h1,h2,h3,h4,h5,h6,hc,Array.size_eq_zero_iff.1 b1,Array.size_eq_zero_iff.1 b2⟩
theorem z5t{n0 id:Nat}{ops:Array Oper}{draw:Bool}{f t:Nat}(hd:zju N draw ops=some (f,t)){Q:Exit→Env→AHeap→Nat→Prop}{e:Env}{H:AHeap}{n:Nat}(h:z88 P f∧Q .normal (e.put (some t) .any) H n)
 {ro:Option Nat} (hro:N.rd=false→ro=none) {I0:Nat→Nat→Prop} {β0:Id→Option CLoc} {H0:AHeap} {w0:World} {I:Nat→Nat→Prop} {β:Id→Option CLoc} {w:World} {a:Act} (hX:Ext I0 β0 n0 H0 w0 I β n H w) (hI:Inv I β n H w) (hE:RepEnv I β n w e a) (hN:a.tmps.size=N.n) (hD:Dfr P w0.heap.size w a.defers) {QQ:Exit→Act→World→Prop} (hQ:ztt P N I0 β0 n0 H0 w0 Q QQ) :
 (Code.region id ops draw).wpIn (Vz ro) 0 P QQ a w:=by
 obtain⟨hrd,rfl,ht,o1,o2,fs,cs,c,hops,h1,h2,h3,h4,h5,h6,hc,rfl,hca⟩:=zcv hd
 obtain rfl:=hro hrd
 have hsz:ops.size=2:=by rw[←Array.length_toList,hops];rfl
 have g0:ops[0]?=some o1:=by rw[←Array.getElem?_toList,hops];rfl
 have g1:ops[1]?=some o2:=by rw[←Array.getElem?_toList,hops];rfl
 refine wpIn_region ?_
 have hr:List.range ops.size=[0,1]:=by rw[hsz];rfl
 rw[hr]
 unfold wpOpsIn
 simp only[g0]
 rw[k8 h3,if_pos rfl]
 refine⟨fun _ _=>trivial,?_⟩
 have e1:(o1.semAt (Vz none).round a.eval).run P w=.ok (.value (.func (.func f) #[] (cs.map a.eval))) w:=by
  show(execOp a.eval o1).run P w=_
  obtain⟨d1,p1,t1,s1,a1,g1⟩:=o1
  simp only at h2
  subst h2
  have hm:(Instr.makeFunc (.func f) #[] (cs.map a.eval)).run P w=.ok (.func (.func f) #[] (cs.map a.eval)) w:=rfl
  simp[go_sem,hm]
 rw[e1,Oper.uponIn_value,h1]
 unfold wpOpsIn
 simp only[g1]
 rw[k8 h6,if_pos rfl]
 refine⟨fun _ _=>trivial,?_⟩
 have ev:(a.put (some t) (.func (.func f) #[] (cs.map a.eval))).eval (.tmp t)=.func (.func f) #[] (cs.map a.eval):=by
  have:t<a.tmps.size:=by rw[hN];exact ht
  simp[Act.eval,Act.put,this]
 have e2:(o2.semAt (Vz none).round (a.put (some t) (.func (.func f) #[] (cs.map a.eval))).eval).run P w=.ok (.defer { target:=.fn (.func f) (cs.map a.eval),args:=#[] }) w:=by
  show(execOp _ o2).run P w=_
  obtain⟨d1,p1,t1,s1,a1,g1⟩:=o2
  simp only at h5
  subst h5
  simp[execOp,resolve,hc,hca,ev,Deferred.ofValue]
 rw[e2,Oper.uponIn_defer,h4]
 unfold wpOpsIn
 have hE1:RepEnv I β n w (e.put (some t) .any) (a.put (some t) (.func (.func f) #[] (cs.map a.eval))):=
  hE.put (fun t' ht'=>by cases ht';rw[hN];exact ht) (.any _)
 refine hQ .normal _ H n I β w _ h.2 hI ?_ ?_ ?_ hX
 ·exact hE1
 ·show(a.put (some t) _).tmps.size=N.n
  rw[Act.put_size];exact hN
 ·show Dfr P w0.heap.size w (_::(a.put (some t) _).defers)
  rw[Act.put_defers]
  exact hD.idle (h.1 _)
theorem y9{n0:Nat}(lc:LCode)(Q:Exit→Env→AHeap→Nat→Prop)(e:Env)(H:AHeap)(n:Nat)(h:Jm P N n0 lc Q e H n):LWp P N n0 lc Q e H n:=by
 intro c
 induction c generalizing lc Q e H n with
 |skip=>
  intro hc ro hro I0 β0 H0 w0 I β w a hX hI hE hN hD QQ hQ
  simp only[zj,p0] at hc
  subst hc
  exact wpIn_skip (hQ _ _ _ _ _ _ _ _ h hI hE hN hD hX)
 |region id os draw=>
  intro hc ro hro I0 β0 H0 w0 I β w a hX hI hE hN hD QQ hQ
  cases draw with
  |false=>
   simp only[zj] at hc
   split at hc
   ·rename_i x hd
    simp only[p0] at hc
    subst hc
    exact z5t hd h hro hX hI hE hN hD hQ
   split at hc<;>try (cases hc;done)
   rename_i ll hll
   simp only[pQ,if_false,p0] at hc
   subst hc
   obtain⟨k1,k2⟩:=X4 _ _ hll
   refine wpIn_region (z1h (Q:=Q .normal) (List.range os.size) ll (by simpa using k1) ?_ h hI hE hN hD (fun e' H' n' I' β' w' a' g1 g2 g3 g4 g5 g6=>hQ _ _ _ _ _ _ _ _ g1 g2 g3 g4 g5 (hX.trans g6)))
   intro k i lo hi hlo
   have hk:k<os.size:=by
    rcases pV k os.size with h|h
    ·exact h
    ·rw[pM (by simpa using h)] at hi;cases hi
   rw[List.getElem?_range hk] at hi
   simp only[p0] at hi
   subst hi
   exact⟨os[k],Array.getElem?_eq_getElem hk,k2 k os[k] lo (by simp[hk]) hlo⟩
  |true=>
   simp only[zj,if_true] at hc
   split at hc
   ·rename_i x hd
    simp only[p0] at hc
    subst hc
    exact z5t hd h hro hX hI hE hN hD hQ
   split at hc<;>try (cases hc;done)
   rename_i ll hll
   split at hc<;>try (cases hc;done)
   rename_i hm
   obtain⟨k1,k2⟩:=X4 _ _ hll
   have hheap:({ w with drawn:=w.drawn+1 }:World).heap=w.heap:=rfl
   have hId:=hI.of_heap hheap
   have hdraw:Ext I β n H w I β n H { w with drawn:=w.drawn+1 }:=by
    have:=Ext.refl I β n H w hI.fresh
    exact⟨rfl,⟨rfl,fun _=>Nat.le_succ _⟩,rfl,pN _,fun _ _ _=>rfl,fun _ _ _ h _=>h,fun _ arr _ fr h=>⟨arr,fr,h,rfl,.inl rfl⟩,fun _ _ _ h _=>h,this.imm,this.immNew,this.old,this.new,this.dom,this.le⟩
   split at hc
   ·rename_i hcond
    simp only[p3] at hcond
    simp only[p0] at hc
    subst hc
    simp only[Bool.not_eq_eq_eq_not,Bool.not_true] at hcond
    obtain rfl:=hro hcond.1
    refine wpIn_wide.2 (wp_region_quiet (C:=fun w'=>w'={ w with drawn:=w.drawn+1 }) hm hcond.2.1 rfl ?_)
    refine z4p (K0:=w0.heap.size) (w0:={ w with drawn:=w.drawn+1 }) (Q:=Q .normal) (w:={ w with drawn:=w.drawn+1 }) (fun w' h=>h) hId os.toList ll k1 k2 h (fun t=>(hE t).of_heap hheap) hN (hD.of_heap hheap) ?_
    intro e' a' g1 g2 g3 g4 w' hw'
    subst hw'
    exact hQ _ _ _ _ _ _ _ _ g1 hId g2 g3 g4 (hX.trans hdraw)
   ·obtain⟨sw,items,R,hit,h,hR,hap⟩:∃sw items,∃R:Env→AHeap→Nat→Prop,Qr sw os ll=some items∧xd P items 0 [] R e H n∧(∀e H n,R e H n→Q .normal e H n)∧∀i1 i2,items[os.size-2]?=some i1→items[os.size-1]?=some i2→ApR sw i1.lo i2.lo R:=by
     unfold K9 at hc
     split at hc
     ·rename_i items hit
      simp only[p0] at hc
      subst hc
      exact⟨false,items,Q .normal,hit,h,fun _ _ _ h=>h,fun _ _ _ _ hs=>by cases hs⟩
     ·unfold V2 at hc
      split at hc<;>try (cases hc;done)
      rename_i items hit
      split at hc<;>try (cases hc;done)
      rename_i i1 i2 hi1 hi2
      split at hc<;>try (cases hc;done)
      rename_i a b hop1 hop2
      split at hc<;>try (cases hc;done)
      simp only[p0] at hc
      subst hc
      refine⟨true,items,_,hit,h,fun _ _ _ h=>h.2,fun j1 j2 hj1 hj2 _ k a' x k' b' y g1 g2 e H n hr=>?_⟩
      rw[hi1] at hj1
      rw[hi2] at hj2
      simp only[p0] at hj1 hj2
      subst hj1 hj2
      rw[hop1] at g1
      rw[hop2] at g2
      cases g1
      cases g2
      exact hr.1
    obtain⟨ord,pre,loose,D,hlen,hll2,hits⟩:=z0l hit
    refine wpIn_region_any hm ?_
    have hun:∀i,(Array.replicate os.size false).getD i false=false:=fun i=>by
     rcases pV i os.size with h|h
     ·simp[h]
     ·simp[h]
    refine zvc (N:=N) (R:=R) (QQ:=QQ) (e0:=e) (fun e' H' n' I' β' w' a' g1 g2 g3 g4 g5 g6=>hQ .normal e' H' n' I' β' w' a' (hR _ _ _ g1) g2 g3 g4 g5 g6) (os.size+items.length) _ _ _ D ?_ ?_ os.size 0 items _ (fun _=>⟨0,0,0,0,0⟩) (fun _=>.any) [] e H n I β { w with drawn:=w.drawn+1 } a (pN _) (by omega) ?_ (by simp) ?_ ?_ (fun p p' _ _ _ _ hl=>by rw[hun] at hl;cases hl) (fun _ _=>rfl) ?_ ?_ ?_ ?_ ?_ ?_ h hId hN (hD.of_heap hheap) (hX.trans hdraw)
    ·intro p hp
     have hp2:=D.lt p hp
     refine⟨os[ord p]'hp2,Array.getElem?_eq_getElem hp2,k2 (ord p) _ _ (by simp[hp2]) ?_⟩
     rw[List.getD_eq_getElem?_getD,p2 (by omega)]
     simp
    ·intro hsw hm2
     have l1:os.size-2<items.length:=by omega
     have l2:os.size-1<items.length:=by omega
     have t1:=(hits _ _ (p2 l1)).1
     have t2:=(hits _ _ (p2 l2)).1
     have:=hap _ _ (p2 l1) (p2 l2)
     rw[t1,t2] at this
     exact this
    ·intro i it hi
     rw[Nat.zero_add]
     exact hits i it hi
    ·intro j hj
     rw[hun] at hj;cases hj
    ·intro p hp hl
     rw[hun] at hl;cases hl
    ·intro p hp;omega
    ·unfold unl
     exact Nat.le_trans (List.length_filter_le _ _) (by simp)
    ·intro t
     unfold Yu
     rw[List.find?_eq_none.2 (by simp)]
    ·intro t
     have:Yu os.size (fun p=>ll.getD (ord p) jm) e (fun _=>.any) (fun x=>(Array.replicate os.size false).getD (ord x) false) t=e.get t:=by
      unfold Yu
      rw[List.find?_eq_none.2 (fun x _=>by simp only[hun];simp)]
     rw[this]
     exact(hE t).of_heap hheap
    ·intro p hp;omega
    ·intro p hp;omega
 |seq x y ihx ihy=>
  intro hc ro hro I0 β0 H0 w0 I β w a hX hI hE hN hD QQ hQ
  simp only[zj] at hc
  split at hc<;>try (cases hc;done)
  rename_i x' y' hx hy
  simp only[p0] at hc
  subst hc
  refine wpIn_seq (ihx x' _ e H n h hx ro hro I0 β0 H0 w0 I β w a hX hI hE hN hD _ ?_)
  intro ex e' H' n' I' β' w' a' g1 g2 g3 g4 g5 g6
  cases ex with
  |normal=>exact ihy y' _ e' H' n' g1 hy ro hro I0 β0 H0 w0 I' β' w' a' g6 g2 g3 g4 g5 QQ hQ
  |_=>exact hQ _ _ _ _ _ _ _ _ g1 g2 g3 g4 g5 g6
 |cond cx x y ihx ihy=>
  intro hc ro hro I0 β0 H0 w0 I β w a hX hI hE hN hD QQ hQ
  simp only[zj] at hc
  split at hc<;>try (cases hc;done)
  rename_i c' x' y' hcx hx hy
  simp only[p0] at hc
  subst hc
  simp only[Jm] at h
  split at h
  ·rename_i v hev
   obtain⟨h1,h2,h3⟩:=h
   have hr:=zu hE hcx h1
   rw[hev] at hr
   exact wpIn_cond_split hr.bool_inv (fun hv=>ihx x' _ e H n (h2 hv) hx ro hro I0 β0 H0 w0 I β w a hX hI hE hN hD QQ hQ) (fun hv=>ihy y' _ e H n (h3 hv) hy ro hro I0 β0 H0 w0 I β w a hX hI hE hN hD QQ hQ)
  ·exact h.elim
 |block id x ih=>
  intro hc ro hro I0 β0 H0 w0 I β w a hX hI hE hN hD QQ hQ
  simp only[zj,pL] at hc
  obtain⟨x',hx,hc⟩:=hc
  subst hc
  refine wpIn_block (ih x' _ e H n h hx ro hro I0 β0 H0 w0 I β w a hX hI hE hN hD _ ?_)
  intro ex e' H' n' I' β' w' a' g1 g2 g3 g4 g5 g6
  cases ex with
  |exit i=>
   simp only at g1
   simp only[Exit.inBlock]
   split at g1
   ·rename_i hi;rw[if_pos hi];exact hQ _ _ _ _ _ _ _ _ g1 g2 g3 g4 g5 g6
   ·rename_i hi;rw[if_neg hi];exact hQ _ _ _ _ _ _ _ _ g1 g2 g3 g4 g5 g6
  |_=>exact hQ _ _ _ _ _ _ _ _ g1 g2 g3 g4 g5 g6
 |loop x ih=>
  intro hc
  have hc0:=hc
  simp only[zj,pL] at hc
  obtain⟨x',hx,hc⟩:=hc
  subst hc
  exact h _ hc0
 |exit id=>
  intro hc ro hro I0 β0 H0 w0 I β w a hX hI hE hN hD QQ hQ
  simp only[zj,p0] at hc
  subst hc
  exact wpIn_exit (hQ _ _ _ _ _ _ _ _ h hI hE hN hD hX)
 |ret=>
  intro hc ro hro I0 β0 H0 w0 I β w a hX hI hE hN hD QQ hQ
  simp only[zj,p0] at hc
  subst hc
  exact wpIn_ret (hQ _ _ _ _ _ _ _ _ h hI hE hN hD hX)
 |rangeFunc f ps x y ih1 ih2=>
  intro hc
  have hc0:=hc
  simp only[zj] at hc
  split at hc<;>try (cases hc;done)
  simp only[p0] at hc
  subst hc
  exact h _ hc0
 |scope x ih=>intro hc;cases hc
 |label l=>intro hc;cases hc
 |goto l=>intro hc;cases hc
 |refuse why=>intro hc;cases hc
def AVal.nid:AVal→Bool
 |.bool _|.int _ _|.str _|.val _|.isl _ _ _|.iptr _ _ _ _=>true
 |.tup cs=>nidL cs
 |.agg cs=>nidL cs
 |.fn _ a c=>nidL a&&nidL c
 |.ifc _ x=>x.nid
 |_=>false
where nidL:List AVal→Bool
 |[]=>true
 |x::r=>x.nid&&nidL r
mutual
theorem X0{I I2:Nat→Nat→Prop}{β β2:Id→Option CLoc}{n n2:Nat}{w:World}(hI:∀b k,I b k→I2 b k):∀ (x:AVal),x.nid=true→∀ {v:Value},Rep I β n w x v→Rep I2 β2 n2 w x v
 |.bool b,_,v,hr=>by cases hr with|imm _ _ h=>exact .imm _ _ (h.mono hI (fun _ _ _=>rfl))
 |.int k m,_,v,hr=>by cases hr with|imm _ _ h=>exact .imm _ _ (h.mono hI (fun _ _ _=>rfl))
 |.str l,_,v,hr=>by cases hr with|imm _ _ h=>exact .imm _ _ (h.mono hI (fun _ _ _=>rfl))
 |.val u,_,v,hr=>by cases hr with|imm _ _ h=>exact .imm _ _ (h.mono hI (fun _ _ _=>rfl))
 |.isl s es f,_,v,hr=>by cases hr with|imm _ _ h=>exact .imm _ _ (h.mono hI (fun _ _ _=>rfl))
 |.iptr s es i o,_,v,hr=>by cases hr with|imm _ _ h=>exact .imm _ _ (h.mono hI (fun _ _ _=>rfl))
 |.tup cs,hn,v,hr=>by
  cases hr with
  |imm _ _ h=>exact .imm _ _ (h.mono hI (fun _ _ _=>rfl))
  |tup _ vs h1 h2=>exact .tup cs vs h1 (fun i x v hx hv=>W2 hI cs hn x (p6 hx) (h2 i x v hx hv))
 |.agg cs,hn,v,hr=>by
  cases hr with
  |imm _ _ h=>exact .imm _ _ (h.mono hI (fun _ _ _=>rfl))
  |agg _ vs h1 h2 h3=>exact .agg cs vs h1 h2 (fun i x v hx hv=>W2 hI cs hn x (p6 hx) (h3 i x v hx hv))
 |.fn f a c,hn,v,hr=>by
  simp only[AVal.nid,p3] at hn
  cases hr with
  |imm _ _ h=>exact .imm _ _ (h.mono hI (fun _ _ _=>rfl))
  |fn _ _ _ fs cs h1 h2 h3 h4=>exact .fn f a c fs cs h1 h2 (fun i x v hx hv=>W2 hI a hn.1 x (p6 hx) (h3 i x v hx hv)) (fun i x v hx hv=>W2 hI c hn.2 x (p6 hx) (h4 i x v hx hv))
 |.ifc t x,hn,v,hr=>by
  cases hr with
  |imm _ _ h=>exact .imm _ _ (h.mono hI (fun _ _ _=>rfl))
  |ifc _ _ u h=>exact .ifc t x u (X0 hI x hn h)
theorem W2{I I2:Nat→Nat→Prop}{β β2:Id→Option CLoc}{n n2:Nat}{w:World}(hI:∀b k,I b k→I2 b k):∀ (cs:List AVal),AVal.nid.nidL cs=true→∀x∈cs,∀ {v:Value},Rep I β n w x v→Rep I2 β2 n2 w x v
 |[],_,x,hx,v,hr=>by cases hx
 |y::r,hn,x,hx,v,hr=>by
  simp only[AVal.nid.nidL,p3] at hn
  rcases pH.1 hx with e|hx
  ·rw[e] at hr ⊢;exact X0 hI y hn.1 hr
  ·exact W2 hI r hn.2 x hx hr
end
def AVal.inP(p:Id→Bool):AVal→Bool
 |.osl tok _ _=>p tok
 |.ptr b _ _=>p b
 |.msl b _ _ _ _=>p b
 |.map b=>p b
 |.optp b=>p b
 |.agg cs=>inPL p cs
 |.tup cs=>inPL p cs
 |.fn _ a c=>inPL p a&&inPL p c
 |.ifc _ x=>x.inP p
 |.cnd _ x=>x.inP p
 |_=>true
where inPL (p:Id→Bool):List AVal→Bool
 |[]=>true
 |x::xs=>x.inP p&&inPL p xs
def ABlock.inP(p:Id→Bool):ABlock→Bool
 |.rows _ es=>es.all (AVal.inP.inPL p)
 |.one cs=>AVal.inP.inPL p cs
 |.amap es=>es.all fun x=>x.1.inP p&&x.2.inP p
 |.tok=>true
 |.bld _ g=>p g
 |.buf _ _=>true
 |.lrec _ _ e=>e.all fun x=>x.2.inP p
 |.rmap es _ _=>es.all fun x=>x.1.inP p&&x.2.inP p
 |.itr m _ _ _=>(match m with|some b=>p b|none=>true)
 |.mbox b=>p b
theorem Xf{p:Id→Bool}:∀ {cs:List AVal},AVal.inP.inPL p cs=true→∀x∈cs,x.inP p=true
 |[],_,x,hx=>by cases hx
 |y::ys,h,x,hx=>by
  simp only[AVal.inP.inPL,p3] at h
  rcases pH.1 hx with e|hx
  ·rw[e];exact h.1
  ·exact Xf h.2 x hx
def AVal.ren(g:Id→Id):AVal→AVal
 |.osl tok s es=>.osl (g tok) s es
 |.ptr b i off=>.ptr (g b) i off
 |.msl b s off len f=>.msl (g b) s off len f
 |.map b=>.map (g b)
 |.optp b=>.optp (g b)
 |.agg cs=>.agg (renL g cs)
 |.tup cs=>.tup (renL g cs)
 |.fn f a c=>.fn f (renL g a) (renL g c)
 |.ifc t x=>.ifc t (x.ren g)
 |.cnd p x=>.cnd p (x.ren g)
 |x=>x
where renL (g:Id→Id):List AVal→List AVal
 |[]=>[]
 |x::r=>x.ren g::renL g r
def kv(g:Id→Id)(es:List (List AVal)):List (List AVal):=es.map (AVal.ren.renL g)
def ABlock.ren(g:Id→Id):ABlock→ABlock
 |.rows s es=>.rows s (kv g es)
 |.one cs=>.one (AVal.ren.renL g cs)
 |.amap es=>.amap (es.map fun x=>(x.1.ren g,x.2.ren g))
 |.tok=>.tok
 |.bld T b=>.bld T (g b)
 |.buf e bs=>.buf e bs
 |.lrec l r e=>.lrec l r (e.map fun x=>(x.1,x.2.ren g))
 |.rmap es arr ck=>.rmap (es.map fun x=>(x.1.ren g,x.2.ren g)) arr ck
 |.itr m arr ck seen=>.itr (m.map g) arr ck seen
 |.mbox b=>.mbox (g b)
theorem z2t(g:Id→Id):∀ (e:Env) (t:Nat),Env.get (e.map fun x=>(x.1,x.2.ren g)) t=(Env.get e t).ren g
 |[],t=>rfl
 |(k,v)::r,t=>by
  simp only[pI,Env.get]
  split
  ·rfl
  ·exact z2t g r t
theorem zil{p:Id→Bool}:∀ (e:Env) (t:Nat),(e.all fun x=>x.2.inP p)=true→(Env.get e t).inP p=true
 |[],t,_=>rfl
 |(k,v)::r,t,h=>by
  simp only[List.all_cons,p3] at h
  simp only[Env.get]
  split
  ·exact h.1
  ·exact zil r t h.2
theorem w9(g:Id→Id):∀ (l:List AVal),AVal.ren.renL g l=l.map (AVal.ren g)
 |[]=>rfl
 |x::r=>by simp only[AVal.ren.renL,pI,w9 g r]
theorem um{g:Id→Id}{l:List AVal}{i:Nat}{y:AVal}(h:(AVal.ren.renL g l)[i]?=some y):∃x,l[i]?=some x∧y=x.ren g:=by
 rw[w9,p8] at h
 cases hx:l[i]? with
 |none=>rw[hx] at h;cases h
 |some x=>rw[hx] at h;simp only[p9,p0] at h;exact⟨x,rfl,h.symm⟩
theorem ua{g:Id→Id}(l:List AVal):(AVal.ren.renL g l).length=l.length:=by rw[w9,pC]
theorem Jv{I:Nat→Nat→Prop}{w:World}{g:Id→Id}{x:AVal}{v:Value}(h:RepI I w x v):RepI I w (x.ren g) v:=by
 induction h with
 |bool b=>exact .bool b
 |int k n=>exact .int k n
 |str l=>exact .str l
 |val v h=>exact .val v h
 |agg cs vs h1 h2 _ ih=>exact .agg _ vs (by rw[ua];exact h1) h2 (fun i x v hx hv=>by obtain⟨y,hy,rfl⟩:=um hx;exact ih i y v hy hv)
 |tup cs vs h1 _ ih=>exact .tup _ vs (by rw[ua];exact h1) (fun i x v hx hv=>by obtain⟨y,hy,rfl⟩:=um hx;exact ih i y v hy hv)
 |islNil s f=>exact .islNil s f
 |islEmpty s f a cap h=>exact .islEmpty s f a cap h
 |isl s es f b o cap vf h1 h2 h3 h4 h5 h6 h7 _=>exact .isl s es f b o cap vf h1 h2 h3 h4 h5 h6 h7
 |iptr s es b o i0 off vf h1 h4 h5 h6 h7 _=>exact .iptr s es b o i0 off vf h1 h4 h5 h6 h7
 |fn f a c fs cs h1 h2 _ _ ih1 ih2=>exact .fn f _ _ fs cs (by rw[ua];exact h1) (by rw[ua];exact h2) (fun i x v hx hv=>by obtain⟨y,hy,rfl⟩:=um hx;exact ih1 i y v hy hv) (fun i x v hx hv=>by obtain⟨y,hy,rfl⟩:=um hx;exact ih2 i y v hy hv)
 |ifc t x v _ ih=>exact .ifc t _ v ih
theorem Kz{p:Id→Bool}{g:Id→Id}{I I2:Nat→Nat→Prop}{β β2:Id→Option CLoc}{n n2:Nat}{w:World}(hI:∀b k,I b k→I2 b k)(hn:∀id:Id,p id=true→(g id).1<n2)
 (hβ:∀ (id:Id) c,p id=true→β2 (g id)=some c→β id=some c) {x:AVal} {v:Value} (h:Rep I β n w x v):x.inP p=true→Rep I2 β2 n2 w (x.ren g) v:=by
 induction h with
 |any v=>intro _;exact .any v
 |imm x v h=>intro _;exact .imm _ _ (Jv (h.mono hI (fun _ _ _=>rfl)))
 |agg cs vs h1 h2 _ ih=>intro hr;exact .agg _ vs (by rw[ua];exact h1) h2 (fun i x v hx hv=>by obtain⟨y,hy,rfl⟩:=um hx;exact ih i y v hy hv (Xf hr y (p6 hy)))
 |tup cs vs h1 _ ih=>intro hr;exact .tup _ vs (by rw[ua];exact h1) (fun i x v hx hv=>by obtain⟨y,hy,rfl⟩:=um hx;exact ih i y v hy hv (Xf hr y (p6 hy)))
 |fn f a c fs cs h1 h2 _ _ ih1 ih2=>
  intro hr
  simp only[AVal.inP,p3] at hr
  exact .fn f _ _ fs cs (by rw[ua];exact h1) (by rw[ua];exact h2) (fun i x v hx hv=>by obtain⟨y,hy,rfl⟩:=um hx;exact ih1 i y v hy hv (Xf hr.1 y (p6 hy)))
   (fun i x v hx hv=>by obtain⟨y,hy,rfl⟩:=um hx;exact ih2 i y v hy hv (Xf hr.2 y (p6 hy)))
 |ifc t x v _ ih=>intro hr;exact .ifc t _ v (ih hr)
 |osl tok s es v h1 h2 h3=>intro hr;exact .osl _ s es v (hn tok hr) (h2.mono hI (fun _ _ _=>rfl)) (fun c hc=>h3 c (hβ tok c hr hc))
 |ptr b i off a hb h=>intro hr;exact .ptr _ i off a (hn b hr) (fun c hc=>h c (hβ b c hr hc))
 |msl b s off len f a cap hb h1 h2 h3=>intro hr;exact .msl _ s off len f a cap (hn b hr) h1 h2 (fun c hc=>h3 c (hβ b c hr hc))
 |map b k hb h=>intro hr;exact .map _ k (hn b hr) (fun c hc=>h c (hβ b c hr hc))
 |optp b k hb h=>intro hr;exact .optp _ k (hn b hr) (fun c hc=>h c (hβ b c hr hc))
 |cnd q x v _ h ih=>intro hr;exact .cnd q _ v (fun hp=>ih hp hr) h
theorem zb6{p:Id→Bool}{g:Id→Id}{I I2:Nat→Nat→Prop}{β β2:Id→Option CLoc}{n n2:Nat}{w:World}(hI:∀b k,I b k→I2 b k)(hn:∀id:Id,p id=true→(g id).1<n2)
 (hβ:∀ (id:Id) c,p id=true→β2 (g id)=some c→β id=some c) {c:CLoc} {s:Nat} {es:List (List AVal)} (hr:(ABlock.rows s es).inP p=true) (hB:RepB I β n w c (.rows s es)):RepB I2 β2 n2 w c (.rows s (kv g es)):=by
 obtain⟨h1,h2,h3,h4,h5,h6,h7⟩:=hB
 have hrow:∀ {i:Nat} {q:List AVal},(kv g es)[i]?=some q→∃q0,es[i]?=some q0∧q=AVal.ren.renL g q0:=by
  intro i q hq
  unfold kv at hq
  rw[p8] at hq
  cases hx:es[i]? with
  |none=>rw[hx] at hq;cases hq
  |some q0=>rw[hx] at hq;simp only[p9,p0] at hq;exact⟨q0,rfl,hq.symm⟩
 refine⟨h1,h2.imp id (fun z=>⟨z.1,z.2.1,by rw[z.2.2];rfl⟩),h3,h4,by unfold kv;rw[pC];exact h5,fun i q hi=>?_,fun i q j x hi hj=>?_⟩
 ·obtain⟨q0,hq0,rfl⟩:=hrow hi
  rw[ua];exact h6 i q0 hq0
 ·obtain⟨q0,hq0,rfl⟩:=hrow hi
  obtain⟨x0,hx0,rfl⟩:=um hj
  obtain⟨v,g1,g2,g3⟩:=h7 i q0 j x0 hq0 hx0
  simp only[ABlock.inP,p7] at hr
  exact⟨v,g1,g2,Kz hI hn hβ g3 (Xf (hr q0 (p6 hq0)) x0 (p6 hx0))⟩
theorem zlt{p:Id→Bool}{g:Id→Id}{I I2:Nat→Nat→Prop}{β β2:Id→Option CLoc}{n n2:Nat}{w:World}(hI:∀b k,I b k→I2 b k)(hn:∀id:Id,p id=true→(g id).1<n2)
 (hβ:∀ (id:Id) c,p id=true→β2 (g id)=some c→β id=some c) {c:CLoc} {b:ABlock} (hr:b.inP p=true) (hB:RepB I β n w c b):RepB I2 β2 n2 w c (b.ren g):=by
 cases b with
 |bld T g0=>
  obtain⟨h1,h2,h3,h4,q,v,h5,h6,h7⟩:=hB
  exact⟨h1,h2,h3,hn _ hr,q,v,h5,h6,fun d hd=>h7 d (hβ _ d hr hd)⟩
 |buf e bs=>exact hB
 |lrec l r e=>
  obtain⟨h1,h2,h3,h4,h5⟩:=hB
  exact⟨h1,h2,h3,h4,fun t=>by rw[z2t];exact Kz hI hn hβ (h5 t) (zil e t hr)⟩
 |rmap es arr ck=>
  obtain⟨h1,h2,h3,h4⟩:=hB
  refine⟨h1,h2,h3,by rw[h4.len,pC],fun i k x e hi he=>?_,h4.born,h4.clk⟩
  rw[p8] at hi
  cases hx:es[i]? with
  |none=>rw[hx] at hi;cases hi
  |some y=>
   rw[hx] at hi
   simp only[p9,p0,pE] at hi
   obtain⟨rfl,rfl⟩:=hi
   obtain⟨g1,g2⟩:=h4.ent i y.1 y.2 e hx he
   simp only[ABlock.inP,p7,p3] at hr
   exact⟨Jv (g1.mono hI (fun _ _ _=>rfl)),Kz hI hn hβ g2 (hr y (p6 hx)).2⟩
 |itr m arr ck seen=>
  obtain⟨h1,h2,h0,k,h3,h4⟩:=hB
  refine⟨h1,h2,h0,k,h3,h4.mono (fun id _ hm=>hn id ?_) (fun id c _ hm hc=>hβ id c ?_ hc)⟩<;>(subst hm;exact hr)
 |mbox b=>
  obtain⟨h1,h2,h0,k,h3,h4⟩:=hB
  refine⟨h1,h2,h0,k,h3,h4.mono (g:=g) (fun id _ hm=>hn id ?_) (fun id c _ hm hc=>hβ id c ?_ hc)⟩<;>(simp only[p0] at hm;subst hm;exact hr)
 |rows s es=>exact zb6 hI hn hβ hr hB
 |one cs=>
  have:=zb6 (g:=g) (I2:=I2) (β2:=β2) (n2:=n2) hI hn hβ (by simpa[ABlock.inP] using hr) (wl.1 hB)
  simp only[ABlock.ren]
  refine wl.2 ?_
  rw[ua]
  exact this
 |amap es=>
  obtain⟨h1,h2,arr,ck,h3,h4⟩:=hB
  refine⟨h1,h2,arr,ck,h3,by rw[h4.len,pC],fun i k x e hi he=>?_,h4.born,h4.clk⟩
  rw[p8] at hi
  cases hx:es[i]? with
  |none=>rw[hx] at hi;cases hi
  |some y=>
   rw[hx] at hi
   simp only[p9,p0,pE] at hi
   obtain⟨rfl,rfl⟩:=hi
   obtain⟨g1,g2⟩:=h4.ent i y.1 y.2 e hx he
   simp only[ABlock.inP,p7,p3] at hr
   exact⟨Jv (g1.mono hI (fun _ _ _=>rfl)),Kz hI hn hβ g2 (hr y (p6 hx)).2⟩
 |tok=>exact hB
inductive Vw(F:Id→Bool)(H:AHeap)(ρ:Id→Option Id)(n:Nat):AVal→AVal→Prop
 |any (x:AVal):Vw F H ρ n x .any
 |same (x:AVal):x.nid=true→Vw F H ρ n x x
 |mov (p:Id→Bool) (g:Id→Id) (x:AVal):x.inP p=true→(∀id:Id,p id=true→(g id).1<n∧ρ (g id)=some id)→Vw F H ρ n x (x.ren g)
 |osl (tok tok':Id) (s:Nat) (es:List (List AVal)):ρ tok'=some tok→Vw F H ρ n (.osl tok s es) (.osl tok' s es)
 |oslI (tok:Id) (s:Nat) (es:List (List AVal)):Vw F H ρ n (.osl tok s es) (.isl s es false)
 |ptr (b b':Id) (i off:Nat):ρ b'=some b→Vw F H ρ n (.ptr b i off) (.ptr b' i off)
 |msl (b b':Id) (s off len:Nat) (f:Bool):ρ b'=some b→Vw F H ρ n (.msl b s off len f) (.msl b' s off len f)
 |mslF (b b':Id) (s off len:Nat) (f:Bool):ρ b'=some b→Vw F H ρ n (.msl b s off len f) (.msl b' s off len false)
 |map (b b':Id):ρ b'=some b→Vw F H ρ n (.map b) (.map b')
 |optp (b b':Id):ρ b'=some b→Vw F H ρ n (.optp b) (.optp b')
 |nilP (b':Id):b'.1<n→Vw F H ρ n (.val (.pointer none)) (.optp b')
 |ptrP (b b':Id):ρ b'=some b→Vw F H ρ n (.ptr b 0 0) (.optp b')
 |islM (b b':Id) (s off:Nat) (f:Bool) (es:List (List AVal)):ρ b'=some b→H.get b=some (.rows s es)→Vw F H ρ n (.isl s [] true) (.msl b' s off 0 f)
 |nilM (b b':Id) (s off:Nat) (f:Bool) (es:List (List AVal)):ρ b'=some b→H.get b=some (.rows s es)→Vw F H ρ n (.val (.slice none 0 0)) (.msl b' s off 0 f)
 |nilI (s:Nat) (f:Bool):Vw F H ρ n (.val (.slice none 0 0)) (.isl s [] f)
 |nilO (tok':Id) (s:Nat):tok'.1<n→Vw F H ρ n (.val (.slice none 0 0)) (.osl tok' s [])
 |islF (s:Nat) (es:List (List AVal)) (f:Bool):Vw F H ρ n (.isl s es f) (.isl s es false)
 |islO (tok':Id) (s:Nat) (es:List (List AVal)):tok'.1<n→Vw F H ρ n (.isl s es true) (.osl tok' s es)
 |cnd (p:Bool) (x y:AVal):p=true→Vw F H ρ n x y→Vw F H ρ n (.cnd p x) y
 |agg (cs ds:List AVal):cs.length=ds.length→(∀ (i:Nat) (x y:AVal),cs[i]?=some x→ds[i]?=some y→Vw F H ρ n x y)→Vw F H ρ n (.agg cs) (.agg ds)
 |tup (cs ds:List AVal):cs.length=ds.length→(∀ (i:Nat) (x y:AVal),cs[i]?=some x→ds[i]?=some y→Vw F H ρ n x y)→Vw F H ρ n (.tup cs) (.tup ds)
 |fn (f:Fn) (a c a' c':List AVal):a.length=a'.length→c.length=c'.length→(∀ (i:Nat) (x y:AVal),a[i]?=some x→a'[i]?=some y→Vw F H ρ n x y)→(∀ (i:Nat) (x y:AVal),c[i]?=some x→c'[i]?=some y→Vw F H ρ n x y)→Vw F H ρ n (.fn f a c) (.fn f a' c')
 |ifc (t:TypeId) (x y:AVal):Vw F H ρ n x y→Vw F H ρ n (.ifc t x) (.ifc t y)
 |frz (b:Id) (s off len:Nat) (f f':Bool) (es rows:List (List AVal)):(f'=true→f=true)→F b=true→H.get b=some (.rows s es)→off+len≤es.length→rows.length=len →
  (∀ (i:Nat) (r r':List AVal),es[off+i]?=some r→rows[i]?=some r'→r.length=r'.length) →
  (∀ (i:Nat) (r r':List AVal) (j:Nat) (x y:AVal),es[off+i]?=some r→rows[i]?=some r'→r[j]?=some x→r'[j]?=some y→Vw F H ρ n x y)→(∀r'∈rows,∀y∈r',y.imm=some y)→Vw F H ρ n (.msl b s off len f) (.isl s rows f')
 |frz1 (b:Id) (off:Nat) (r r':List AVal):F b=true→H.get b=some (.one r)→r.length=r'.length→(∀ (j:Nat) (x y:AVal),r[j]?=some x→r'[j]?=some y→Vw F H ρ n x y)→(∀y∈r',y.imm=some y)→Vw F H ρ n (.ptr b 0 off) (.iptr r'.length [r'] 0 off)
 |frzP (b:Id) (s i off:Nat) (es rows:List (List AVal)):F b=true→H.get b=some (.rows s es)→rows.length=es.length →
  (∀ (i:Nat) (r r':List AVal),es[i]?=some r→rows[i]?=some r'→r.length=r'.length) →
  (∀ (i:Nat) (r r':List AVal) (j:Nat) (x y:AVal),es[i]?=some r→rows[i]?=some r'→r[j]?=some x→r'[j]?=some y→Vw F H ρ n x y)→(∀r'∈rows,∀y∈r',y.imm=some y)→Vw F H ρ n (.ptr b i off) (.iptr s rows i off)
inductive BVw(F:Id→Bool)(H:AHeap)(ρ:Id→Option Id)(n:Nat):ABlock→ABlock→Prop
 |tok:BVw F H ρ n .tok .tok
 |bld (T:TypeId) (g g':Id):ρ g'=some g→BVw F H ρ n (.bld T g) (.bld T g')
 |buf (e:TypeId) (bs:List UInt8):BVw F H ρ n (.buf e bs) (.buf e bs)
 |lrec (l:Nat) (r:Loop) (e e':Env):(∀t,Vw F H ρ n (e.get t) (e'.get t))→BVw F H ρ n (.lrec l r e) (.lrec l r e')
 |mov (p:Id→Bool) (g:Id→Id) (b:ABlock):b.inP p=true→(∀id:Id,p id=true→(g id).1<n∧ρ (g id)=some id)→BVw F H ρ n b (b.ren g)
 |one (r r':List AVal):r.length=r'.length→(∀ (j:Nat) (x y:AVal),r[j]?=some x→r'[j]?=some y→Vw F H ρ n x y)→BVw F H ρ n (.one r) (.one r')
 |amap (es:List (AVal×AVal)):(∀x∈es,x.2.nid=true)→BVw F H ρ n (.amap es) (.amap es)
 |amapV (es es':List (AVal×AVal)):es.length=es'.length→(∀ (i:Nat) (k x k' y:AVal),es[i]?=some (k,x)→es'[i]?=some (k',y)→k=k'∧Vw F H ρ n x y)→BVw F H ρ n (.amap es) (.amap es')
 |rmap (es:List (AVal×AVal)) (arr:Array MapEntry) (ck:Nat):(∀x∈es,x.2.nid=true)→BVw F H ρ n (.rmap es arr ck) (.rmap es arr ck)
 |rmapA (es:List (AVal×AVal)) (arr:Array MapEntry) (ck:Nat):(∀x∈es,x.2.nid=true)→BVw F H ρ n (.rmap es arr ck) (.amap es)
 |itr (b b':Id) (arr:Array MapEntry) (ck:Nat) (seen:List Nat):ρ b'=some b→BVw F H ρ n (.itr (some b) arr ck seen) (.itr (some b') arr ck seen)
 |mbox (b b':Id):ρ b'=some b→BVw F H ρ n (.mbox b) (.mbox b')
 |rows (s:Nat) (es es':List (List AVal)):es.length=es'.length→(∀ (i:Nat) (r r':List AVal),es[i]?=some r→es'[i]?=some r'→r.length=r'.length∧∀ (j:Nat) (x y:AVal),r[j]?=some x→r'[j]?=some y→Vw F H ρ n x y)→BVw F H ρ n (.rows s es) (.rows s es')
def EnvTo(F:Id→Bool)(H:AHeap)(ρ:Id→Option Id)(n:Nat)(e':Env):Env→Prop
 |[]=>True
 |(t,v)::r=>Vw F H ρ n (e'.get t) v∧EnvTo F H ρ n e' r
def Yx(F:Id→Bool)(H:AHeap)(ρ:Id→Option Id)(n0 n:Nat)(k:Id)(b:ABlock):Prop:=
 match ρ k with
 |some j=>match H.get j with
  |some b'=>F j=false∧BVw F H ρ n b' b
  |none=>False
 |none=>b=.tok∧n0≤k.1∧k.1<n
def HeapTo(F:Id→Bool)(H:AHeap)(ρ:Id→Option Id)(n0 n:Nat):AHeap→Prop
 |[]=>True
 |(k,b)::r=>Yx F H ρ n0 n k b∧HeapTo F H ρ n0 n r
def Um(F:Id→Bool)(H:AHeap)(ρ:Id→Option Id)(n0 n:Nat)(L:AHeap):Prop:=∀id blk,L.get id=some blk→Yx F H ρ n0 n id blk
structure RhoOk(n0 n:Nat)(F:Id→Bool)(H:AHeap)(ρ:Id→Option Id):Prop where
 inj:∀i j k,ρ i=some k→ρ j=some k→i=j
 dom:∀i k,ρ i=some k→i.1<n
 low:∀i:Id,i.1<n0→(ρ i=some i∧F i=false)∨(ρ i=none∧H.get i≠none)
 high:∀ (i k:Id),n0≤i.1→ρ i=some k→n0≤k.1∨H.get k≠none
 le:n0≤n
theorem EnvTo.get{F:Id→Bool}{H:AHeap}{ρ:Id→Option Id}{n:Nat}{e':Env}:∀ {e:Env},EnvTo F H ρ n e' e→∀t,Vw F H ρ n (e'.get t) (e.get t)
 |[],_,t=>.any _
 |(k,v)::r,h,t=>by
  by_cases hk:k=t
  ·subst hk;simp only[Env.get,if_pos];exact h.1
  ·simp only[Env.get,if_neg hk];exact EnvTo.get h.2 t
theorem HeapTo.get{F:Id→Bool}{H:AHeap}{ρ:Id→Option Id}{n0 n:Nat}:∀ {L:AHeap},HeapTo F H ρ n0 n L→∀id blk,L.get id=some blk→Yx F H ρ n0 n id blk
 |[],_,_,_,h=>by cases h
 |(k,b)::r,h,id,blk,hb=>by
  by_cases hk:k=id
  ·subst hk
   simp only[AHeap.get,if_pos,p0] at hb
   subst hb
   exact h.1
  ·simp only[AHeap.get,if_neg hk] at hb;exact HeapTo.get h.2 id blk hb
section
variable {I I0:Nat→Nat→Prop} {β β0:Id→Option CLoc} {n0 n n':Nat} {H H' H0 L:AHeap} {w w0:World} {F:Id→Bool} {ρ:Id→Option Id}
def z0o(I:Nat→Nat→Prop)(β:Id→Option CLoc)(F:Id→Bool)(H:AHeap)(w:World):Nat→Nat→Prop:=fun b k=>I b k∨((∃id c,F id=true∧β id=some c∧H.get id≠none∧c.has b k)∧∃v,w.cell? ⟨b,k,none⟩=some v)
noncomputable def z17(β:Id→Option CLoc)(F:Id→Bool)(ρ:Id→Option Id)(n0 n:Nat)(L:AHeap):Id→Option CLoc:=fun id=>match ρ id with
 |some k=>if F k then none else β k
 |none=>by classical exact if L.get id=some .tok∧n0≤id.1∧id.1<n then some ⟨0,0,0,0,0⟩ else none
theorem ub{id:Id}{c:CLoc}(h:z17 β F ρ n0 n L id=some c):(∃k,ρ id=some k∧F k=false∧β k=some c)∨(ρ id=none∧c=⟨0,0,0,0,0⟩∧L.get id=some .tok∧n0≤id.1∧id.1<n):=by
 unfold z17 at h
 split at h
 ·rename_i k hk
  split at h
  ·cases h
  ·rename_i hF;exact .inl ⟨k,hk,by simpa using hF,h⟩
 ·rename_i hk
  split at h
  ·rename_i hc
   simp only[p0] at h
   exact .inr ⟨hk,h.symm,hc⟩
  ·cases h
theorem ur{id:Id}{c:CLoc}{b k:Nat}(h:z17 β F ρ n0 n L id=some c)(hk:c.has b k):∃j,ρ id=some j∧F j=false∧β j=some c:=by
 rcases ub h with h|⟨_,h,_⟩
 ·exact h
 ·subst h
  have:=hk.2.2
  simp at this
theorem Kp{id k:Id}(h:ρ id=some k)(hF:F k=false):z17 β F ρ n0 n L id=β k:=by
 unfold z17;rw[h];simp[hF]
theorem z1j{es:List (List AVal)}{i:Nat}{r:List AVal}(h:es[i]?=some r):i<es.length:=by
 rcases pV i es.length with h'|h'
 ·exact h'
 ·rw[pM h'] at h;cases h
theorem Q1{r:List AVal}{j:Nat}{x:AVal}(h:r[j]?=some x):j<r.length:=by
 rcases pV j r.length with h'|h'
 ·exact h'
 ·rw[pM h'] at h;cases h
theorem Vn(hI:Inv I β n' H' w)(hρ:RhoOk n0 n F H' ρ){x y:AVal}(h:Vw F H' ρ n x y):∀ {v:Value},Rep I β n' w x v→Rep (z0o I β F H' w) (z17 β F ρ n0 n L) n w y v:=by
 have up:∀ {x:AVal} {v:Value},RepI I w x v→RepI (z0o I β F H' w) w x v:=fun h=>h.mono (fun _ _ h=>.inl h) (fun _ _ _=>rfl)
 have back:∀ {i k:Id} {c:CLoc},ρ i=some k→z17 β F ρ n0 n L i=some c→β k=some c:=by
  intro i k c hk hc
  rcases ub hc with⟨k',h1,_,h3⟩|⟨h1,_⟩
  ·rw[hk] at h1;simp only[p0] at h1;subst h1;exact h3
  ·rw[hk] at h1;cases h1
 -- the cells of a block that is frozen
 have frozen:∀ {b:Id} {c:CLoc} {s:Nat} {es:List (List AVal)},F b=true→H'.get b≠none→β b=some c→RepB I β n' w c (.rows s es)→∀k,c.base≤k→k<c.base+es.length*s→z0o I β F H' w c.blk k:=by
  intro b c s es hF hg hc hB k h1 h2
  obtain⟨_,⟨arr,el,fr,g1,g2⟩|⟨z1,z2,rfl⟩,_,g4,g5,_⟩:=hB
  rotate_left
  ·simp only[List.length_nil] at h2;omega
  refine .inr ⟨⟨b,c,hF,hc,hg,rfl,by omega,by omega⟩,?_⟩
  have hlt:k<arr.size:=by omega
  exact⟨arr[k],by unfold World.cell?;simp[g1,hlt]⟩
 induction h with
 |any x=>intro v _;exact .any v
 |same x hx=>intro v hr;exact X0 (fun _ _ h=>.inl h) x hx hr
 |mov p g x hx hp=>intro v hr;exact Kz (fun _ _ h=>.inl h) (fun id hid=>(hp id hid).1) (fun id c hid hc=>back (hp id hid).2 hc) hr hx
 |osl tok tok' s es ht=>
  intro v hr
  cases hr with
  |imm _ _ hr=>cases hr
  |osl _ _ _ _ h1 h2 h3=>exact .osl _ _ _ _ (hρ.dom _ _ ht) (up h2) (fun c hc=>h3 c (back ht hc))
 |oslI tok s es=>
  intro v hr
  cases hr with
  |imm _ _ hr=>cases hr
  |osl _ _ _ _ h1 h2 h3=>exact .imm _ _ (up h2)
 |ptr b b' i off hb=>
  intro v hr
  cases hr with
  |imm _ _ hr=>cases hr
  |ptr _ _ _ a h1 h2=>exact .ptr _ _ _ _ (hρ.dom _ _ hb) (fun c hc=>h2 c (back hb hc))
 |msl b b' s off len f hb=>
  intro v hr
  cases hr with
  |imm _ _ hr=>cases hr
  |msl _ _ _ _ _ a cap h0 h1 h2 h3=>exact .msl _ _ _ _ _ _ _ (hρ.dom _ _ hb) h1 h2 (fun c hc=>h3 c (back hb hc))
 |mslF b b' s off len f hb=>
  intro v hr
  cases hr with
  |imm _ _ hr=>cases hr
  |msl _ _ _ _ _ a cap h0 h1 h2 h3=>exact .msl _ _ _ _ _ _ _ (hρ.dom _ _ hb) h1 (fun h=>by cases h) (fun c hc=>h3 c (back hb hc))
 |islM b b' s off f es hb hg=>
  intro v hr
  obtain⟨c,hc,hB⟩:=hI.blocks b _ hg
  obtain⟨ad,cap,rfl,_,hcap,_⟩:=hr.isl_inv
  have h0:cap=0:=hcap rfl
  subst h0
  exact .msl _ _ _ _ _ ad 0 (hρ.dom _ _ hb) ⟨pN _,fun _=>rfl⟩ (fun _=>rfl) (fun c' hc'=>by
   have h1:=back hb hc'
   rw[hc] at h1
   simp only[p0] at h1
   subst h1
   exact⟨hB.1,fun h=>absurd rfl h⟩)
 |nilM b b' s off f es hb hg=>
  intro v hr
  obtain rfl:=hr.val_inv
  obtain⟨c,hc,hB⟩:=hI.blocks b _ hg
  exact .msl _ _ _ _ _ none 0 (hρ.dom _ _ hb) ⟨pN _,fun _=>rfl⟩ (fun _=>rfl) (fun c' hc'=>by
   have h1:=back hb hc'
   rw[hc] at h1
   simp only[p0] at h1
   subst h1
   exact⟨hB.1,fun h=>absurd rfl h⟩)
 |map b b' hb=>
  intro v hr
  cases hr with
  |imm _ _ hr=>cases hr
  |map _ r h1 h2=>exact .map _ _ (hρ.dom _ _ hb) (fun c hc=>h2 c (back hb hc))
 |optp b b' hb=>
  intro v hr
  cases hr with
  |imm _ _ hr=>cases hr
  |optp _ a h1 h2=>exact .optp _ _ (hρ.dom _ _ hb) (fun c hc=>h2 c (back hb hc))
 |nilP b' hb=>intro v hr;rw[hr.val_inv];exact .optp _ _ hb (fun c _=>.inl rfl)
 |ptrP b b' hb=>
  intro v hr
  cases hr with
  |imm _ _ hr=>cases hr
  |ptr _ _ _ a h1 h2=>exact .optp _ _ (hρ.dom _ _ hb) (fun c hc=>.inr (by rw[h2 c (back hb hc)];simp))
 |nilI s f=>intro v hr;rw[hr.val_inv];exact .imm _ _ (.islNil s f)
 |nilO tok' s ht=>intro v hr;rw[hr.val_inv];exact .osl _ _ _ _ ht (.islNil _ _) (fun c _ a cap he=>by simp at he)
 |islF s es f=>
  intro v hr
  cases hr with
  |imm _ _ hr=>
   cases hr with
   |islNil=>exact .imm _ _ (.islNil _ _)
   |islEmpty _ _ a cap h=>exact .imm _ _ (.islEmpty _ _ _ _ (fun h=>by cases h))
   |isl _ _ _ b o cap vf h1 h2 h3 h4 h5 h6 h7=>exact .imm _ _ (up (.isl _ _ _ b o cap vf h1 h2 (fun h=>by cases h) h4 h5 h6 h7))
 |islO tok' s es ht=>
  intro v hr
  obtain⟨ad,cap,hv,_,hf,_⟩:=hr.isl_inv
  have hcap:=hf rfl
  cases hr with
  |imm _ _ hr=>
   refine .osl _ _ _ _ ht ?_ ?_
   ·cases hr with
    |islNil=>exact .islNil _ _
    |islEmpty _ _ a cap h=>exact .islEmpty _ _ _ _ (fun h=>by cases h)
    |isl _ _ _ b o cap vf h1 h2 h3 h4 h5 h6 h7=>exact up (.isl _ _ _ b o cap vf h1 h2 (fun h=>by cases h) h4 h5 h6 h7)
   ·intro c _ a cap' he
    rw[hv] at he
    simp only[Value.slice.injEq] at he
    exact .inl (by rw[←he.2.2];exact hcap)
 |cnd p x y hp _ ih=>
  intro v hr
  cases hr with
  |imm _ _ hr=>cases hr
  |cnd _ _ _ h1 _=>exact ih (h1 hp)
 |agg cs ds hl _ ih=>
  intro v hr
  obtain⟨vs,rfl,h1,h2,h3⟩:=hr.agg_inv
  refine .agg ds vs (by omega) h2 fun i y v hy hv=>?_
  have hlt:i<cs.length:=by rw[hl];exact Q1 hy
  exact ih i cs[i] y (p2 hlt) hy (h3 i _ v (p2 hlt) hv)
 |tup cs ds hl _ ih=>
  intro v hr
  have:∃vs,v=.tuple vs∧vs.size=cs.length∧∀ (i:Nat) (y:AVal) (u:Value),cs[i]?=some y→vs[i]?=some u→Rep I β n' w y u:=by
   cases hr with
   |tup _ vs h1 h2=>exact⟨vs,rfl,h1,h2⟩
   |imm _ _ hx=>
    cases hx with
    |tup _ vs h1 h2=>exact⟨vs,rfl,h1,fun i y u hy hu=>.imm _ _ (h2 i y u hy hu)⟩
  obtain⟨vs,rfl,h1,h3⟩:=this
  refine .tup ds vs (by omega) fun i y v hy hv=>?_
  have hlt:i<cs.length:=by rw[hl];exact Q1 hy
  exact ih i cs[i] y (p2 hlt) hy (h3 i _ v (p2 hlt) hv)
 |fn f a c a' c' hl1 hl2 _ _ ih1 ih2=>
  intro v hr
  have hfn:∃fs cs:Array Value,v=.func f fs cs∧fs.size=a.length∧cs.size=c.length∧(∀ (i:Nat) (x:AVal) (v:Value),a[i]?=some x→fs[i]?=some v→Rep I β n' w x v)∧(∀ (i:Nat) (x:AVal) (v:Value),c[i]?=some x→cs[i]?=some v→Rep I β n' w x v):=by
   cases hr with
   |fn _ _ _ fs cs h1 h2 h3 h4=>exact⟨fs,cs,rfl,h1,h2,h3,h4⟩
   |imm _ _ hr=>
    cases hr with
    |fn _ _ _ fs cs h1 h2 h3 h4=>exact⟨fs,cs,rfl,h1,h2,fun i x v p q=>.imm _ _ (h3 i x v p q),fun i x v p q=>.imm _ _ (h4 i x v p q)⟩
  obtain⟨fs,cs,rfl,k1,k2,k3,k4⟩:=hfn
  refine .fn f a' c' fs cs (by omega) (by omega) (fun i y v hy hv=>?_) (fun i y v hy hv=>?_)
  ·have hlt:i<a.length:=by rw[hl1];exact Q1 hy
   exact ih1 i a[i] y (p2 hlt) hy (k3 i _ v (p2 hlt) hv)
  ·have hlt:i<c.length:=by rw[hl2];exact Q1 hy
   exact ih2 i c[i] y (p2 hlt) hy (k4 i _ v (p2 hlt) hv)
 |ifc t x y _ ih=>
  intro v hr
  cases hr with
  |ifc _ _ u h=>exact .ifc t y u (ih h)
  |imm _ _ h=>
   cases h with
   |ifc _ _ u h=>exact .ifc t y u (ih (.imm _ _ h))
 |frz b s off len f f' es rows hff hF hg hlen hrl hrow _ himm ih=>
  intro v hr
  obtain⟨c,hc,hB⟩:=hI.blocks b _ hg
  have hB0:=hB
  obtain⟨hcs,_,_,hlo,hbase,hlens,hcell⟩:=hB
  cases hr with
  |imm _ _ h=>cases h
  |msl _ _ _ _ _ ad cap hbn hcap hf hp=>
   by_cases h0:len=0
   ·subst h0
    have:rows=[]:=List.length_eq_zero_iff.1 hrl
    subst this
    cases ad with
    |some ad=>exact .imm _ _ (.islEmpty s f' ad cap (fun h=>hf (hff h)))
    |none=>have hc0:=hcap.2 rfl;subst hc0;exact .imm _ _ (.islNil _ _)
   ·obtain⟨k1,k2⟩:=(hp c hc).2 (by omega)
    subst k1
    have key:∀ (i:Nat) (r':List AVal) (j:Nat) (y:AVal),rows[i]?=some r'→r'[j]?=some y→∃u,w.cell? ⟨c.blk,c.base+off*s+i*s+j,none⟩=some u∧qm u=true∧RepI (z0o I β F H' w) w y u∧z0o I β F H' w c.blk (c.base+off*s+i*s+j):=by
     intro i r' j y hr' hy
     have hi:i<len:=by rw[←hrl];exact z1j hr'
     have hr:es[off+i]?=some (es[off+i]'(by omega)):=p2 (by omega)
     have hlr:=hrow i _ r' hr hr'
     have hj:=Q1 hy
     have hx:(es[off+i]'(by omega))[j]?=some ((es[off+i]'(by omega))[j]'(by omega)):=p2 (by omega)
     obtain⟨u,g1,g2,g3⟩:=hcell (off+i) _ j _ hr hx
     have hrin:=zb3 hlens hr hx
     rw[Nat.add_mul] at g1 hrin
     have hrep:=ih i _ r' j _ y hr hr' hx hy g3
     have e1:c.base+(off*s+i*s)+j=c.base+off*s+i*s+j:=by omega
     rw[e1] at g1
     exact⟨u,g1,g2,kn y (himm r' (p6 hr') y (p6 hy)) hrep,frozen hF (by rw[hg];simp) hc hB0 _ (by omega) (by omega)⟩
    subst hrl
    refine .imm _ _ (.isl s rows f' c.blk (c.base+off*s) cap (fun i j=>(w.cell? ⟨c.blk,c.base+off*s+i*s+j,none⟩).getD undef) ?_ hcap.1 (fun h=>hf (hff h)) ?_ ?_ ?_ ?_)
    ·intro i r j x hi hj
     obtain⟨u,_,_,_,h4⟩:=key i r j x hi hj
     exact h4
    ·intro i r' hr'
     have hi:=z1j hr'
     have hr:es[off+i]?=some (es[off+i]'(by omega)):=p2 (by omega)
     rw[←hrow i _ r' hr hr'];exact hlens _ _ hr
    ·intro i r j x hi hj;obtain⟨u,h1,_⟩:=key i r j x hi hj;rw[h1];rfl
    ·intro i r j x hi hj;obtain⟨u,h1,h2,_⟩:=key i r j x hi hj;rw[h1];exact h2
    ·intro i r j x hi hj;obtain⟨u,h1,_,h3,_⟩:=key i r j x hi hj;rw[h1];exact h3
 |frz1 b off r0 r0' hF hg hl0 _ himm ih=>
  intro v hr
  obtain⟨c,hc,hB⟩:=hI.blocks b _ hg
  have hB0:=wl.1 hB
  obtain⟨hcs,_,_,hlo,hbase,hlens,hcell⟩:=hB0
  cases hr with
  |imm _ _ h=>cases h
  |ptr _ _ _ ad hbn hp=>
   have hp:=hp c hc
   subst hp
   have key:∀ (i:Nat) (r':List AVal) (j:Nat) (y:AVal),[r0'][i]?=some r'→r'[j]?=some y→∃u,w.cell? ⟨c.blk,c.base+i*r0'.length+j,none⟩=some u∧qm u=true∧RepI (z0o I β F H' w) w y u∧z0o I β F H' w c.blk (c.base+i*r0'.length+j):=by
    intro i r' j y hr' hy
    cases i with
    |succ i=>simp at hr'
    |zero=>
     simp only[pG,p0] at hr'
     subst hr'
     have hj:=Q1 hy
     have hx:r0[j]?=some (r0[j]'(by omega)):=p2 (by omega)
     obtain⟨u,g1,g2,g3⟩:=hcell 0 r0 j _ rfl hx
     have hrep:=ih j _ y hx hy g3
     simp only[Nat.zero_mul,Nat.add_zero] at g1 ⊢
     exact⟨u,g1,g2,kn y (himm y (p6 hy)) hrep,frozen hF (by rw[hg];simp) hc (wl.1 hB) _ (by omega) (by simp;omega)⟩
   simp only[Nat.zero_mul,Nat.add_zero]
   have:=RepI.iptr (I:=z0o I β F H' w) (w:=w) r0'.length [r0'] c.blk c.base 0 off (fun i j=>(w.cell? ⟨c.blk,c.base+i*r0'.length+j,none⟩).getD undef) (fun i r j x hi hj=>by
    obtain⟨u,_,_,_,h4⟩:=key i r j x hi hj
    exact h4) (fun i r' hr'=>by
    cases i with
    |succ i=>simp at hr'
    |zero=>simp only[pG,p0] at hr';rw[←hr'])
    (fun i r j x hi hj=>by obtain⟨u,h1,_⟩:=key i r j x hi hj;rw[h1];rfl)
    (fun i r j x hi hj=>by obtain⟨u,h1,h2,_⟩:=key i r j x hi hj;rw[h1];exact h2)
    (fun i r j x hi hj=>by obtain⟨u,h1,_,h3,_⟩:=key i r j x hi hj;rw[h1];exact h3)
   simp only[Nat.zero_mul,Nat.add_zero] at this
   exact .imm _ _ this
 |frzP b s i0 off es rows hF hg hrl hrow _ himm ih=>
  intro v hr
  obtain⟨c,hc,hB⟩:=hI.blocks b _ hg
  have hB0:=hB
  obtain⟨hcs,_,_,hlo,hbase,hlens,hcell⟩:=hB
  cases hr with
  |imm _ _ h=>cases h
  |ptr _ _ _ ad hbn hp=>
   have hp:=hp c hc
   subst hp
   rw[hcs]
   have key:∀ (i:Nat) (r':List AVal) (j:Nat) (y:AVal),rows[i]?=some r'→r'[j]?=some y→∃u,w.cell? ⟨c.blk,c.base+i*s+j,none⟩=some u∧qm u=true∧RepI (z0o I β F H' w) w y u∧z0o I β F H' w c.blk (c.base+i*s+j):=by
    intro i r' j y hr' hy
    have hi:i<es.length:=by rw[←hrl];exact z1j hr'
    have hr:es[i]?=some es[i]:=p2 hi
    have hlr:=hrow i _ r' hr hr'
    have hj:=Q1 hy
    have hx:(es[i])[j]?=some ((es[i])[j]'(by omega)):=p2 (by omega)
    obtain⟨u,g1,g2,g3⟩:=hcell i _ j _ hr hx
    have hrin:=zb3 hlens hr hx
    have hrep:=ih i _ r' j _ y hr hr' hx hy g3
    exact⟨u,g1,g2,kn y (himm r' (p6 hr') y (p6 hy)) hrep,frozen hF (by rw[hg];simp) hc hB0 _ (by omega) (by omega)⟩
   refine .imm _ _ (.iptr s rows c.blk c.base i0 off (fun i j=>(w.cell? ⟨c.blk,c.base+i*s+j,none⟩).getD undef) ?_ ?_ ?_ ?_ ?_)
   ·intro i r j x hi hj
    obtain⟨u,_,_,_,h4⟩:=key i r j x hi hj
    exact h4
   ·intro i r' hr'
    have hi:=z1j hr'
    have hr:es[i]?=some (es[i]'(by omega)):=p2 (by omega)
    rw[←hrow i _ r' hr hr'];exact hlens _ _ hr
   ·intro i r j x hi hj;obtain⟨u,h1,_⟩:=key i r j x hi hj;rw[h1];rfl
   ·intro i r j x hi hj;obtain⟨u,h1,h2,_⟩:=key i r j x hi hj;rw[h1];exact h2
   ·intro i r j x hi hj;obtain⟨u,h1,_,h3,_⟩:=key i r j x hi hj;rw[h1];exact h3
theorem z9r(hI:Inv I β n' H' w)(hρ:RhoOk n0 n F H' ρ){c:CLoc}{s:Nat}{es es':List (List AVal)}(hl:es.length=es'.length)(hr:∀ (i:Nat) (r r':List AVal),es[i]?=some r→es'[i]?=some r'→r.length=r'.length∧∀ (j:Nat) (x y:AVal),r[j]?=some x→r'[j]?=some y→Vw F H' ρ n x y)
 (hB:RepB I β n' w c (.rows s es)):RepB (z0o I β F H' w) (z17 β F ρ n0 n L) n w c (.rows s es'):=by
 obtain⟨h1,h2,h3,h4,h5,h6,h7⟩:=hB
 refine⟨h1,h2.imp id (fun z=>⟨z.1,z.2.1,by have:=hl;rw[z.2.2] at this;exact List.eq_nil_of_length_eq_zero this.symm⟩),h3,h4,by rw[←hl];exact h5,fun i r' hr'=>?_,fun i r' j y hr' hy=>?_⟩
 ·have hi:i<es.length:=by rw[hl];exact z1j hr'
  have hri:es[i]?=some es[i]:=p2 hi
  rw[←(hr i _ r' hri hr').1];exact h6 i _ hri
 ·have hi:i<es.length:=by rw[hl];exact z1j hr'
  have hri:es[i]?=some es[i]:=p2 hi
  obtain⟨k1,k2⟩:=hr i _ r' hri hr'
  have hj:j<(es[i]).length:=by rw[k1];exact Q1 hy
  have hxj:(es[i])[j]?=some ((es[i])[j]):=p2 hj
  obtain⟨v,g1,g2,g3⟩:=h7 i _ j _ hri hxj
  exact⟨v,g1,g2,Vn hI hρ (k2 j _ y hxj hy) g3⟩
theorem zf0(hI:Inv I β n' H' w)(hρ:RhoOk n0 n F H' ρ){c:CLoc}{b b':ABlock}(h:BVw F H' ρ n b b')(hB:RepB I β n' w c b):RepB (z0o I β F H' w) (z17 β F ρ n0 n L) n w c b':=by
 cases h with
 |tok=>exact hB
 |buf e bs=>exact hB
 |lrec l r e e' he=>
  obtain⟨h1,h2,h3,h4,h5⟩:=hB
  exact⟨h1,h2,h3,h4,fun t=>Vn hI hρ (he t) (h5 t)⟩
 |rmap es arr ck he=>
  obtain⟨h1,h2,h3,h4⟩:=hB
  refine⟨h1,h2,h3,h4.len,fun i k x e hi hx=>?_,h4.born,h4.clk⟩
  obtain⟨g1,g2⟩:=h4.ent i k x e hi hx
  exact⟨g1.mono (fun _ _ h=>.inl h) (fun _ _ _=>rfl),X0 (fun _ _ h=>.inl h) x (he _ (p6 hi)) g2⟩
 |rmapA es arr ck he=>
  obtain⟨h1,h2,h3,h4⟩:=hB
  refine⟨h1,h2,arr,ck,h3,h4.len,fun i k x e hi hx=>?_,h4.born,h4.clk⟩
  obtain⟨g1,g2⟩:=h4.ent i k x e hi hx
  exact⟨g1.mono (fun _ _ h=>.inl h) (fun _ _ _=>rfl),X0 (fun _ _ h=>.inl h) x (he _ (p6 hi)) g2⟩
 |itr b b' arr ck seen hg=>
  obtain⟨h1,h2,h0,k,h3,h4,q,h5,h6⟩:=hB
  refine⟨h1,h2,h0,k,h3,hρ.dom _ _ hg,q,h5,fun d hd=>h6 d ?_⟩
  rcases ub hd with⟨k',e1,_,e3⟩|⟨e1,_⟩
  ·rw[hg] at e1;simp only[p0] at e1;subst e1;exact e3
  ·rw[hg] at e1;cases e1
 |mbox b b' hg=>
  obtain⟨h1,h2,h0,k,h3,h4,q,h5,h6⟩:=hB
  refine⟨h1,h2,h0,k,h3,hρ.dom _ _ hg,q,h5,fun d hd=>h6 d ?_⟩
  rcases ub hd with⟨k',e1,_,e3⟩|⟨e1,_⟩
  ·rw[hg] at e1;simp only[p0] at e1;subst e1;exact e3
  ·rw[hg] at e1;cases e1
 |bld T g g' hg=>
  obtain⟨h1,h2,h3,h4,p,v,h5,h6,h7⟩:=hB
  refine⟨h1,h2,h3,hρ.dom _ _ hg,p,v,h5,h6,fun d hd=>h7 d ?_⟩
  rcases ub hd with⟨k',e1,_,e3⟩|⟨e1,_⟩
  ·rw[hg] at e1;simp only[p0] at e1;subst e1;exact e3
  ·rw[hg] at e1;cases e1
 |mov p g b hx hp=>
  refine zlt (fun _ _ h=>.inl h) (fun id hid=>(hp id hid).1) (fun id c hid hc=>?_) hx hB
  rcases ub hc with⟨k',h1,_,h3⟩|⟨h1,_⟩
  ·rw[(hp id hid).2] at h1;simp only[p0] at h1;subst h1;exact h3
  ·rw[(hp id hid).2] at h1;cases h1
 |one r r' hl hr=>
  have:=z9r (L:=L) (es:=[r]) (es':=[r']) hI hρ rfl (fun i a a' h1 h2=>by
   cases i with
   |succ i=>simp at h1
   |zero=>simp only[pG,p0] at h1 h2;subst h1;subst h2;exact⟨hl,hr⟩) (wl.1 hB)
  rw[hl] at this
  exact wl.2 this
 |amap es he=>
  obtain⟨h1,h2,arr,ck,h3,h4⟩:=hB
  refine⟨h1,h2,arr,ck,h3,h4.len,fun i k x e hi hx=>?_,h4.born,h4.clk⟩
  obtain⟨g1,g2⟩:=h4.ent i k x e hi hx
  exact⟨g1.mono (fun _ _ h=>.inl h) (fun _ _ _=>rfl),X0 (fun _ _ h=>.inl h) x (he _ (p6 hi)) g2⟩
 |amapV es es' hl hv=>
  obtain⟨h1,h2,arr,ck,h3,h4⟩:=hB
  refine⟨h1,h2,arr,ck,h3,h4.len.trans hl,fun i k x e hi hx=>?_,h4.born,h4.clk⟩
  have hlt:i<es.length:=by rw[hl];exact(List.getElem?_eq_some_iff.1 hi).1
  obtain⟨rfl,g⟩:=hv i es[i].1 es[i].2 k x (by rw[p2 hlt]) hi
  obtain⟨g1,g2⟩:=h4.ent i es[i].1 es[i].2 e (by rw[p2 hlt]) hx
  exact⟨g1.mono (fun _ _ h=>.inl h) (fun _ _ _=>rfl),Vn hI hρ g g2⟩
 |rows s es es' hl hr=>exact z9r hI hρ hl hr hB
theorem z9v(hX:Ext I0 β0 n0 H0 w0 I β n' H' w)(hI:Inv I β n' H' w)(hρ:RhoOk n0 n F H' ρ)(hL:Um F H' ρ n0 n L) :
 Ext I0 β0 n0 H0 w0 (z0o I β F H' w) (z17 β F ρ n0 n L) n L w∧Inv (z0o I β F H' w) (z17 β F ρ n0 n L) n L w:=by
 have own:∀id c b k,β id=some c→H'.get id≠none→c.has b k→b<w0.heap.size→∃i0 c0,β0 i0=some c0∧c0.has b k∧H0.get i0≠none:=by
  intro id c b k he hg hk hlt
  by_cases hid:id.1<n0
  ·rcases hX.old id hid with h|⟨h,_⟩
   ·exact⟨id,c,h▸he,hk,hX.dom id hid hg⟩
   ·rw[h] at he;cases he
  ·rcases hX.new id c b k (by omega) he hk with h|h
   ·omega
   ·exact h
 constructor
 ·refine⟨hX.os,hX.tape,hX.output,hX.size,hX.frame,hX.cells,hX.shape,hX.maps,fun b k h=>.inl (hX.imm b k h),?_,?_,?_,?_,hρ.le⟩
  ·rintro b k (h|⟨⟨id,c,h1,h2,h3,h4⟩,_⟩) hn hlt
   ·exact hX.immNew b k h hn hlt
   ·exact own id c b k h2 h3 h4 hlt
  ·intro id hid
   rcases hρ.low id hid with⟨h1,h2⟩|⟨h1,h2⟩
   ·rw[Kp h1 h2]
    exact hX.old id hid
   ·refine .inr ⟨?_,hX.dom id hid h2⟩
    unfold z17
    rw[h1]
    simp only
    rw[if_neg (fun h=>by omega)]
  ·intro id c b k hid hc hk
   obtain⟨j,h1,h2,h3⟩:=ur hc hk
   rcases hρ.high id j hid h1 with h4|h4
   ·exact hX.new j c b k h4 h3 hk
   ·by_cases hlt:b<w0.heap.size
    ·exact .inr (own j c b k h3 h4 hk hlt)
    ·exact .inl (by omega)
  ·intro id hid hg
   refine hX.dom id hid ?_
   cases hh:L.get id with
   |none=>exact absurd hh hg
   |some blk=>
    have:=hL id blk hh
    unfold Yx at this
    rcases hρ.low id hid with⟨h1,h2⟩|⟨h1,h2⟩
    ·rw[h1] at this
     simp only at this
     intro hn
     rw[hn] at this
     exact this
    ·exact h2
 ·refine⟨fun id blk hb=>?_,fun i j c d b k hi hj hc hd=>?_,fun i c b k hi hc=>?_,fun b k h=>?_,fun id hid=>?_,hI.glob.mono (fun _ _ h=>.inl h) (fun _ _ _=>rfl) (SameSz.refl _)⟩
  ·have:=hL id blk hb
   unfold Yx at this
   split at this
   ·rename_i j hj
    split at this<;>try (exact this.elim)
    rename_i b' hb'
    obtain⟨hF,hv⟩:=this
    obtain⟨c,hc,hB⟩:=hI.blocks j b' hb'
    exact⟨c,by rw[Kp hj hF];exact hc,zf0 hI hρ hv hB⟩
   ·rename_i hj
    obtain⟨rfl,h1,h2⟩:=this
    refine⟨⟨0,0,0,0,0⟩,?_,fun k _ h=>absurd h (pU k)⟩
    unfold z17
    rw[hj]
    simp[hb,h1,h2]
  ·obtain⟨i',h1,_,h2⟩:=ur hi hc
   obtain⟨j',h3,_,h4⟩:=ur hj hd
   have:=hI.inj i' j' c d b k h2 h4 hc hd
   subst this
   exact hρ.inj i j i' h1 h3
  ·obtain⟨i',h1,h2,h3⟩:=ur hi hc
   obtain⟨h4,h5⟩:=hI.own i' c b k h3 hc
   refine⟨?_,h5⟩
   rintro(h|⟨⟨id,d,g1,g2,g3,g4⟩,_⟩)
   ·exact h4 h
   ·have:=hI.inj id i' d c b k g2 h3 g4 hc
    subst this
    rw[g1] at h2;cases h2
  ·rcases h with h|⟨_,h⟩
   ·exact hI.imm b k h
   ·exact h
  ·cases hr:z17 β F ρ n0 n L id with
   |none=>rfl
   |some c=>
    rcases ub hr with⟨k,h1,_⟩|⟨_,_,_,_,h⟩
    ·have:=hρ.dom id k h1;omega
    ·omega
end
def zxt(n0 n:Nat)(e':Env)(H':AHeap)(e:Env)(L:AHeap):Prop:=∃F ρ,RhoOk n0 n F H' ρ∧EnvTo F H' ρ n e' e∧Um F H' ρ n0 n L
theorem ke(p:Nat→Prop)(h:∃m,p m):∃m,p m∧∀k,k<m→¬p k:=by
 obtain⟨m,hm⟩:=h
 induction m using Nat.strongRecOn with
 |_ m ih=>
  by_cases hk:∃k,k<m∧p k
  ·obtain⟨k,h1,h2⟩:=hk
   exact ih k h1 h2
  ·exact⟨m,hm,fun k hlt hp=>hk ⟨k,hlt,hp⟩⟩
def zy4{ι:Type}(n0:Nat)(nL:ι→Nat)(env:ι→Env)(L:ι→AHeap)(pre:ι→Prop)(μ:ι→Nat)(x:ι)(Q:Exit→Env→AHeap→Nat→Prop):Exit→Env→AHeap→Nat→Prop
 |.normal,e',H',n'=>∃y,pre y∧μ y<μ x∧zxt n0 (nL y) e' H' (env y) (L y)
 |ex,e',H',n'=>Q ex e' H' n'
def yi:Nat→List AVal→Env
 |_,[]=>[]
 |k,x::r=>(k,x)::yi (k+1) r
theorem J2:∀ (l:List AVal) (k t:Nat),(yi k l).get t=if k≤t then(l[t-k]?).getD .any else .any
 |[],k,t=>by simp[yi,Env.get]
 |x::l,k,t=>by
  unfold yi Env.get
  by_cases h:k=t
  ·subst h;simp
  ·rw[if_neg h,J2 l (k+1) t]
   by_cases h1:k+1≤t
   ·rw[if_pos h1,if_pos (by omega)]
    have:t-k=(t-(k+1))+1:=by omega
    rw[this,List.getElem?_cons_succ]
   ·rw[if_neg h1]
    by_cases h2:k≤t
    ·omega
    ·rw[if_neg h2]
def zrr(e:Env)(H:AHeap):LRes→XR
 |.t i=>.ok (e.get i).need (e.get i).strip
 |.cell i g n=>(Vx g n H (e.get i).strip).and (e.get i).need
def z2z(e:Env)(H:AHeap):List LRes→(List AVal→Prop)→Prop
 |[],k=>k []
 |r::rs,k=>match zrr e H r with
  |.ok side v=>side∧z2z e H rs (fun l=>k (v::l))
  |.bad=>False
def z6l(l:List AVal):AVal:=match l with|[x]=>x|l=>.tup l
def Q0(res:List LRes)(Q:AVal→AHeap→Nat→Prop):Exit→Env→AHeap→Nat→Prop
 |.normal,e,H,n=>z2z e H res (fun l=>Q (z6l l) H n)
 |.ret,e,H,n=>z2z e H res (fun l=>Q (z6l l) H n)
 |_,_,_,_=>False
def zlj:List Value→Value
 |[x]=>x
 |l=>.tuple l.toArray
theorem and_ok{p side:Prop}{r:XR}{v:AVal}(h:r.and p=.ok side v)(hs:side):∃s0,r=.ok s0 v∧s0∧p:=by
 cases r with
 |bad=>cases h
 |ok s0 u=>
  simp only[XR.and,XR.ok.injEq] at h
  obtain⟨rfl,rfl⟩:=h
  exact⟨s0,rfl,hs.2,hs.1⟩
def zcc(tmps:Array Value):ResultVar→Sem Value
 |.tmp t=>pure (tmps.getD t undef)
 |.cell a t=>do loadVar t (←asAddr (tmps.getD a undef))
theorem zcr(fn:Func)(tmps:Array Value):results fn tmps=(do let vs ←fn.results.mapM (zcc tmps);pure (if h:vs.size=1 then vs[0] else .tuple vs)):=by
 rfl
theorem z3f{I:Nat→Nat→Prop}{β:Id→Option CLoc}{n:Nat}{H:AHeap}{w:World}{e:Env}{tmps:Array Value}(hI:Inv I β n H w)(hE:∀t,Rep I β n w (e.get t) (tmps.getD t undef)):∀ (rs:List ResultVar) (ls:List LRes),z09 P rs=some ls→∀ {k:List AVal→Prop},z2z e H ls k →
 ∃ (vs:List Value) (xs:List AVal),(rs.mapM (zcc tmps)).run P w=.ok vs w∧k xs∧vs.length=xs.length∧∀ (i:Nat) (x:AVal) (v:Value),xs[i]?=some x→vs[i]?=some v→Rep I β n w x v
 |[],ls,h,k,hk=>by
  simp only[z09,p0] at h
  subst h
  exact⟨[],[],rfl,hk,rfl,fun i x v h _=>by simp at h⟩
 |.tmp t::rs,ls,h,k,hk=>by
  simp only[z09,pL] at h
  obtain⟨l,hl,rfl⟩:=h
  simp only[z2z,zrr] at hk
  obtain⟨hn,hk⟩:=hk
  obtain⟨vs,xs,h1,h2,h3,h4⟩:=z3f hI hE rs l hl hk
  refine⟨tmps.getD t undef::vs,(e.get t).strip::xs,?_,h2,by simp[h3],fun i x v hx hv=>?_⟩
  ·rw[List.mapM_cons]
   simp only[zcc,pure_bind,Sem.run_bind,h1,Result.andThen_ok,Sem.run_pure]
  ·cases i with
   |zero=>simp only[pG,p0] at hx hv;subst hx;subst hv;exact(hE t).strip hn
   |succ i=>exact h4 i x v (by simpa using hx) (by simpa using hv)
 |.cell a t::rs,ls,h,k,hk=>by
  simp only[z09] at h
  split at h<;>try (cases h;done)
  rename_i g m l hg hm hl
  split at h<;>try (cases h;done)
  rename_i hgm
  simp only[p0] at h
  subst h
  simp only[z2z,zrr] at hk
  split at hk<;>try (exact hk.elim)
  rename_i side u hx
  obtain⟨hs,hk⟩:=hk
  obtain⟨s0,hx0,hs0,hneed⟩:=and_ok hx hs
  obtain⟨vs,xs,h1,h2,h3,h4⟩:=z3f hI hE rs l hl hk
  have hr:=(hE a).strip hneed
  obtain⟨r,hr1,hr2⟩:=z0d (P:=P) hg hm (by simpa[Bool.or_eq_true] using hgm) hI hr hx0 hs0
  have hrun:(zcc tmps (.cell a t)).run P w=.ok r w:=by
   have:∃ad,tmps.getD a undef=.pointer (some ad):=by
    cases hst:(e.get a).strip<;>rw[hst] at hx0 hr<;>simp only[Vx] at hx0<;>try (cases hx0;done)
    ·obtain⟨b,o,h⟩:=hr.iptr_inv;exact⟨_,h⟩
    ·obtain⟨ad,h⟩:=hr.ptr_inv;exact⟨_,h⟩
   obtain⟨ad,had⟩:=this
   rw[had] at hr1
   simpa[zcc,had,Instr.loadAt,Instr.sureAddr,asAddr] using hr1
  refine⟨r::vs,u::xs,?_,h2,by simp[h3],fun i x v hx hv=>?_⟩
  ·rw[List.mapM_cons]
   rw[Sem.run_bind,hrun]
   simp only[Result.andThen_ok,Sem.run_bind,h1,Sem.run_pure]
  ·cases i with
   |zero=>simp only[pG,p0] at hx hv;subst hx;subst hv;exact hr2
   |succ i=>exact h4 i x v (by simpa using hx) (by simpa using hv)
theorem J3{fn:Func}{tmps:Array Value}{w:World}{vs:List Value}(h:(fn.results.toList.mapM (zcc tmps)).run P w=.ok vs w) :
 (results fn tmps).run P w=.ok (zlj vs) w:=by
 rw[zcr,Array.mapM_eq_mapM_toList]
 simp only[map_eq_pure_bind,bind_assoc,pure_bind]
 simp only[Sem.run_bind,h,Result.andThen_ok,Sem.run_pure]
 cases vs with
 |nil=>rfl
 |cons v l=>
  cases l with
  |nil=>rfl
  |cons v2 l=>simp[zlj]
theorem ACalls.ofFnW{f:FuncId}{bm:List Nat}{L:LFn}(hL:w4 P bm f=some L)(hok:uc P f){args:List AVal}(hlen:args.length≤L.lay.n){H:AHeap}{n:Nat}{Q:AVal→AHeap→Nat→Prop}
 (h:LWp P L.lay n L.body (Q0 L.res Q) (yi 0 args) H n):ACalls P f args H n Q:=by
 refine⟨hok,fun I β w vs hI hl hr=>?_⟩
 unfold w4 at hL
 split at hL<;>try (cases hL;done)
 rename_i fn hfn
 split at hL<;>try (cases hL;done)
 rename_i c hc
 split at hL<;>try (cases hL;done)
 rename_i lc lr hlc hlr
 simp only[p0] at hL
 subst hL
 simp only at h hlen
 refine(z6w (ro:=none) (m:=0)).1 (callsIn_of_wp_marks hfn hc trivial ?_)
 refine h c hlc none (fun _=>rfl) I β H w I β w _ (Ext.refl _ _ _ _ _ hI.fresh) hI ?_ (by simp[hl];omega) (Dfr.nil _ _ _) _ ?_
 ·intro t
  rw[J2,if_pos (Nat.zero_le t),Nat.sub_zero]
  cases hx:args[t]? with
  |none=>exact .any _
  |some x=>
   have hlt:t<vs.length:=by
    rcases pV t vs.length with h|h
    ·exact h
    ·rw[pM (by omega)] at hx;cases hx
   have:(vs.toArray++Array.replicate (fn.ntmps-vs.toArray.size) undef).getD t undef=vs[t]:=by
    simp[Array.getD_eq_getD_getElem?,Array.getElem?_append,hlt]
   rw[this]
   exact hr t x vs[t] hx (p2 hlt)
 ·intro ex e' H' n' I' β' w' a' g1 g2 g3 g4 g5 g6
  have fin:z2z e' H' lr (fun l=>Q (z6l l) H' n')→LeavesInM (Vz none) 0 P fn a'.tmps (fun e w'=>∃r v H' n' I' β',e=.returned v∧Q r H' n'∧Inv I' β' n' H' w'∧Rep I' β' n' w' r v∧Ext I β n H w I' β' n' H' w') a'.defers .returning w':=by
   intro hk
   generalize a'.defers=ds at g5
   induction ds generalizing w' with
   |nil=>
    obtain⟨us,xs,q1,q2,q3,q4⟩:=z3f (P:=P) g2 g3 _ _ hlr hk
    refine⟨_,J3 q1,_,_,_,_,_,_,rfl,q2,g2,?_,g6⟩
    cases xs with
    |nil=>
     have:us=[]:=List.length_eq_zero_iff.1 q3
     subst this
     exact .tup [] #[] rfl (by simp)
    |cons x l=>
     cases us with
     |nil=>simp at q3
     |cons u us=>
      cases l with
      |nil=>
       have:us=[]:=List.length_eq_zero_iff.1 (by simpa using q3)
       subst this
       exact q4 0 x u rfl rfl
      |cons x2 l=>
       cases us with
       |nil=>simp at q3
       |cons u2 us=>exact .tup (x::x2::l) _ (by simpa[zlj] using q3) (fun i x v hx hv=>q4 i x v hx (by simpa[zlj] using hv))
   |cons d ds ih=>
    obtain⟨hnd,hall⟩:=g5
    rcases hall d (by simp) with hid|⟨r,h1,h2,h3⟩
    ·obtain⟨fv,cap,f,args,i1,i2,i3⟩:=hid w'
     refine⟨nofun,.inr ⟨fun h=>(by cases h),fv,cap,f,args,i1,i2,fun _ _=>trivial,i3.mono ?_⟩⟩
     rintro e1 u' w1 ⟨⟨v,rfl⟩,rfl,rfl⟩
     exact ih _ g2 g3 g6 ⟨(List.pairwise_cons.1 hnd).2,fun d' hd'=>hall d' (by simp[hd'])⟩
    subst h1
    obtain⟨m1,m2,m3⟩:=zmb (.deferred none) g2 h3
    refine⟨nofun,.inl ⟨r,_,rfl,run_takeDeferred h3,ih _ m1 (fun t=>m2 _ _ (g3 t)) (m3 _ _ _ _ _ h2 g6) ⟨(List.pairwise_cons.1 hnd).2,fun d' hd'=>?_⟩⟩⟩
    rcases hall d' (by simp[hd']) with hid|⟨r',k1,k2,k3⟩
    ·exact .inl hid
    refine .inr ⟨r',k1,k2,?_⟩
    have hne:r'≠r:=by
     rintro rfl
     subst k1
     rcases(List.pairwise_cons.1 hnd).1 _ hd' with hh|hh
     ·exact hh rfl
     ·obtain⟨_,_,_,_,h,_⟩:=hh w';cases h
    rw[World.putObj_heap_other hne];exact k3
  cases ex with
  |normal=>exact fin g1
  |ret=>exact fin g1
  |_=>exact g1.elim
def Jl(n0 n:Nat)(R:AVal)(L:AHeap):AVal→AHeap→Nat→Prop:=fun r H' _=>∃F ρ,RhoOk n0 n F H' ρ∧Vw F H' ρ n r R∧Um F H' ρ n0 n L
def Z6(n:Nat)(R:AVal)(L:AHeap):AVal→AHeap→Nat→Prop:=fun r H' n'=>r=R∧H'=L∧n'=n
theorem ACalls.fin{f:Fn}{args:List AVal}{H L:AHeap}{n0 n:Nat}{R:AVal}(h:ACalls P f args H n0 (Jl n0 n R L)):ACalls P f args H n0 (Z6 n R L):=by
 refine⟨h.1,fun I β w vs hI hl hr=>(h.2 I β w vs hI hl hr).mono ?_⟩
 rintro ee w' ⟨r,v,H',n',I',β',he,⟨F,ρ,hρ,hv,hL⟩,hI',hr',hx⟩
 obtain⟨k1,k2⟩:=z9v hx hI' hρ hL
 exact⟨R,v,L,n,_,_,he,⟨rfl,rfl,rfl⟩,k2,Vn hI' hρ hv hr',k1⟩
end Go.Fx
namespace Go.Fx
variable {P:Program}
theorem Km{I:Nat→Nat→Prop}{β β2:Id→Option CLoc}{n n2:Nat}{w:World}{g:Id→Id}(hn:∀id:Id,id.1<n→(g id).1<n2)(hβ:∀ (id:Id) c,id.1<n→β2 (g id)=some c→β id=some c){x:AVal}{v:Value}(h:Rep I β n w x v):Rep I β2 n2 w (x.ren g) v:=by
 induction h with
 |any v=>exact .any v
 |imm x v h=>
  -- immutable values have no names in them
  have key:∀ {x:AVal} {v:Value},RepI I w x v→Rep I β2 n2 w (x.ren g) v:=by
   intro x v h
   induction h with
   |bool b=>exact .imm _ _ (.bool b)
   |int k m=>exact .imm _ _ (.int k m)
   |str l=>exact .imm _ _ (.str l)
   |val v h=>exact .imm _ _ (.val v h)
   |agg cs vs h1 h2 _ ih=>
    refine .agg _ vs (by rw[w9,pC];exact h1) h2 fun i y v hy hv=>?_
    rw[w9,p8] at hy
    cases hc:cs[i]? with
    |none=>rw[hc] at hy;cases hy
    |some x=>rw[hc] at hy;simp only[p9,p0] at hy;subst hy;exact ih i x v hc hv
   |tup cs vs h1 _ ih=>
    refine .tup _ vs (by rw[w9,pC];exact h1) fun i y v hy hv=>?_
    rw[w9,p8] at hy
    cases hc:cs[i]? with
    |none=>rw[hc] at hy;cases hy
    |some x=>rw[hc] at hy;simp only[p9,p0] at hy;subst hy;exact ih i x v hc hv
   |islNil s f=>exact .imm _ _ (.islNil s f)
   |islEmpty s f a cap h=>exact .imm _ _ (.islEmpty s f a cap h)
   |isl s es f b o cap vf h1 h2 h3 h4 h5 h6 h7 _=>exact .imm _ _ (.isl s es f b o cap vf h1 h2 h3 h4 h5 h6 h7)
   |iptr s es b o i0 off vf h1 h4 h5 h6 h7 _=>exact .imm _ _ (.iptr s es b o i0 off vf h1 h4 h5 h6 h7)
   |fn f a c fs cs h1 h2 _ _ ih1 ih2=>
    refine .fn f _ _ fs cs (by rw[w9,pC];exact h1) (by rw[w9,pC];exact h2) (fun i y v hy hv=>?_) (fun i y v hy hv=>?_)
    ·rw[w9,p8] at hy
     cases hc:a[i]? with
     |none=>rw[hc] at hy;cases hy
     |some x=>rw[hc] at hy;simp only[p9,p0] at hy;subst hy;exact ih1 i x v hc hv
    ·rw[w9,p8] at hy
     cases hc:c[i]? with
     |none=>rw[hc] at hy;cases hy
     |some x=>rw[hc] at hy;simp only[p9,p0] at hy;subst hy;exact ih2 i x v hc hv
   |ifc t x v _ ih=>exact .ifc t _ v ih
  exact key h
 |agg cs vs h1 h2 _ ih=>
  refine .agg _ vs (by rw[w9,pC];exact h1) h2 fun i y v hy hv=>?_
  rw[w9,p8] at hy
  cases hc:cs[i]? with
  |none=>rw[hc] at hy;cases hy
  |some x=>rw[hc] at hy;simp only[p9,p0] at hy;subst hy;exact ih i x v hc hv
 |tup cs vs h1 _ ih=>
  refine .tup _ vs (by rw[w9,pC];exact h1) fun i y v hy hv=>?_
  rw[w9,p8] at hy
  cases hc:cs[i]? with
  |none=>rw[hc] at hy;cases hy
  |some x=>rw[hc] at hy;simp only[p9,p0] at hy;subst hy;exact ih i x v hc hv
 |fn f a c fs cs h1 h2 _ _ ih1 ih2=>
  refine .fn f _ _ fs cs (by rw[w9,pC];exact h1) (by rw[w9,pC];exact h2) (fun i y v hy hv=>?_) (fun i y v hy hv=>?_)
  ·rw[w9,p8] at hy
   cases hc:a[i]? with
   |none=>rw[hc] at hy;cases hy
   |some x=>rw[hc] at hy;simp only[p9,p0] at hy;subst hy;exact ih1 i x v hc hv
  ·rw[w9,p8] at hy
   cases hc:c[i]? with
   |none=>rw[hc] at hy;cases hy
   |some x=>rw[hc] at hy;simp only[p9,p0] at hy;subst hy;exact ih2 i x v hc hv
 |ifc t x v _ ih=>exact .ifc t _ v ih
 |osl tok s es v h1 h2 h3=>exact .osl _ _ _ _ (hn _ h1) h2 (fun c hc=>h3 c (hβ _ c h1 hc))
 |ptr b i off a h1 h2=>exact .ptr _ _ _ _ (hn _ h1) (fun c hc=>h2 c (hβ _ c h1 hc))
 |msl b s off len f a cap h0 h1 h2 h3=>exact .msl _ _ _ _ _ _ _ (hn _ h0) h1 h2 (fun c hc=>h3 c (hβ _ c h0 hc))
 |map b r h1 h2=>exact .map _ _ (hn _ h1) (fun c hc=>h2 c (hβ _ c h1 hc))
 |optp b r h1 h2=>exact .optp _ _ (hn _ h1) (fun c hc=>h2 c (hβ _ c h1 hc))
 |cnd p x v _ h ih=>exact .cnd p _ v ih h
theorem z9k{I:Nat→Nat→Prop}{β β2:Id→Option CLoc}{n n2:Nat}{w:World}{g:Id→Id}(hn:∀id:Id,id.1<n→(g id).1<n2)(hβ:∀ (id:Id) c,id.1<n→β2 (g id)=some c→β id=some c){c:CLoc}{s:Nat}{es:List (List AVal)}(h:RepB I β n w c (.rows s es)):RepB I β2 n2 w c (.rows s (kv g es)):=by
 obtain⟨h1,h2,h3,h4,h5,h6,h7⟩:=h
 have get:∀ (i:Nat) (r:List AVal),(kv g es)[i]?=some r→∃r0,es[i]?=some r0∧r=r0.map (AVal.ren g):=by
  intro i r hr
  unfold kv at hr
  rw[p8] at hr
  cases he:es[i]? with
  |none=>rw[he] at hr;cases hr
  |some r0=>rw[he] at hr;simp only[p9,p0] at hr;exact⟨r0,rfl,by rw[←hr,w9]⟩
 refine⟨h1,h2.imp id (fun z=>⟨z.1,z.2.1,by rw[z.2.2];rfl⟩),h3,h4,by unfold kv;rw[pC];exact h5,fun i r hr=>?_,fun i r j x hr hx=>?_⟩
 ·obtain⟨r0,hr0,rfl⟩:=get i r hr
  rw[pC];exact h6 i r0 hr0
 ·obtain⟨r0,hr0,rfl⟩:=get i r hr
  rw[p8] at hx
  cases hj:r0[j]? with
  |none=>rw[hj] at hx;cases hx
  |some x0=>
   rw[hj] at hx
   simp only[p9,p0] at hx
   subst hx
   obtain⟨v,g1,g2,g3⟩:=h7 i r0 j x0 hr0 hj
   exact⟨v,g1,g2,Km hn hβ g3⟩
theorem zmp{I:Nat→Nat→Prop}{β β2:Id→Option CLoc}{n n2:Nat}{w:World}{g:Id→Id}(hn:∀id:Id,id.1<n→(g id).1<n2)(hβ:∀ (id:Id) c,id.1<n→β2 (g id)=some c→β id=some c){c:CLoc}{b:ABlock}(h:RepB I β n w c b):RepB I β2 n2 w c (b.ren g):=by
 cases b with
 |tok=>exact h
 |amap es=>
  obtain⟨h1,h2,arr,ck,h3,h4⟩:=h
  refine⟨h1,h2,arr,ck,h3,by rw[h4.len,pC],fun i k x e hi he=>?_,h4.born,h4.clk⟩
  rw[p8] at hi
  cases hx:es[i]? with
  |none=>rw[hx] at hi;cases hi
  |some y=>
   rw[hx] at hi
   simp only[p9,p0,pE] at hi
   obtain⟨rfl,rfl⟩:=hi
   obtain⟨g1,g2⟩:=h4.ent i y.1 y.2 e hx he
   exact⟨Jv g1,Km hn hβ g2⟩
 |one cs=>
  have:=z9k hn hβ (wl.1 h)
  have hl:(AVal.ren.renL g cs).length=cs.length:=by rw[w9,pC]
  rw[←hl] at this
  exact wl.2 this
 |rows s es=>exact z9k hn hβ h
 |bld T g=>
  obtain⟨h1,h2,h3,h4,p,v,h5,h6,h7⟩:=h
  exact⟨h1,h2,h3,hn _ h4,p,v,h5,h6,fun d hd=>h7 d (hβ _ d h4 hd)⟩
 |buf e bs=>exact h
 |lrec l r e=>
  obtain⟨h1,h2,h3,h4,h5⟩:=h
  exact⟨h1,h2,h3,h4,fun t=>by rw[z2t];exact Km hn hβ (h5 t)⟩
 |rmap es arr ck=>
  obtain⟨h1,h2,h3,h4⟩:=h
  refine⟨h1,h2,h3,by rw[h4.len,pC],fun i k x e hi he=>?_,h4.born,h4.clk⟩
  rw[p8] at hi
  cases hx:es[i]? with
  |none=>rw[hx] at hi;cases hi
  |some y=>
   rw[hx] at hi
   simp only[p9,p0,pE] at hi
   obtain⟨rfl,rfl⟩:=hi
   obtain⟨g1,g2⟩:=h4.ent i y.1 y.2 e hx he
   exact⟨Jv g1,Km hn hβ g2⟩
 |itr m arr ck seen=>
  obtain⟨h1,h2,h0,k,h3,h4⟩:=h
  exact⟨h1,h2,h0,k,h3,h4.mono (fun id h _=>hn id h) (fun id c h _ hc=>hβ id c h hc)⟩
 |mbox b=>
  obtain⟨h1,h2,h0,k,h3,h4⟩:=h
  exact⟨h1,h2,h0,k,h3,h4.mono (g:=g) (fun id h _=>hn id h) (fun id c h _ hc=>hβ id c h hc)⟩
def ArgsTo(F:Id→Bool)(H:AHeap)(ρ:Id→Option Id)(n:Nat):List AVal→List AVal→Prop
 |[],[]=>True
 |x::xs,y::ys=>Vw F H ρ n x y∧ArgsTo F H ρ n xs ys
 |_,_=>False
theorem ArgsTo.get{F:Id→Bool}{H:AHeap}{ρ:Id→Option Id}{n:Nat}:∀ {xs ys:List AVal},ArgsTo F H ρ n xs ys→xs.length=ys.length∧∀ (i:Nat) (x y:AVal),xs[i]?=some x→ys[i]?=some y→Vw F H ρ n x y
 |[],[],_=>⟨rfl,fun i x y h _=>by simp at h⟩
 |[],_::_,h=>h.elim
 |_::_,[],h=>h.elim
 |x::xs,y::ys,h=>by
  obtain⟨h1,h2⟩:=ArgsTo.get h.2
  refine⟨by simp[h1],fun i a b ha hb=>?_⟩
  cases i with
  |zero=>simp only[pG,p0] at ha hb;subst ha;subst hb;exact h.1
  |succ i=>exact h2 i a b (by simpa using ha) (by simpa using hb)
def AHeap.without(p:Id→Bool):AHeap→AHeap
 |[]=>[]
 |(k,b)::r=>if p k then AHeap.without p r else(k,b)::AHeap.without p r
theorem AHeap.get_without(p:Id→Bool):∀ (H:AHeap) (t:Id),(AHeap.without p H).get t=if p t then none else H.get t
 |[],t=>by simp[AHeap.without,AHeap.get]
 |(k,b)::r,t=>by
  unfold AHeap.without
  by_cases hk:p k=true
  ·rw[if_pos hk,AHeap.get_without p r t]
   by_cases ht:p t=true
   ·rw[if_pos ht,if_pos ht]
   ·rw[if_neg ht,if_neg ht]
    have:k≠t:=fun h=>by subst h;exact ht hk
    rw[AHeap.get_cons_other _ _ this]
  ·rw[if_neg hk]
   by_cases hkt:k=t
   ·subst hkt;rw[AHeap.get_cons_same,AHeap.get_cons_same,if_neg hk]
   ·rw[AHeap.get_cons_other _ _ hkt,AHeap.get_cons_other _ _ hkt];exact AHeap.get_without p r t
theorem AHeap.get_append(L H:AHeap)(t:Id):AHeap.get (L++H) t=(L.get t).or (H.get t):=by
 induction L with
 |nil=>rfl
 |cons x L ih=>
  obtain⟨k,b⟩:=x
  by_cases h:k=t
  ·subst h;simp[AHeap.get]
  ·simp only[List.cons_append,AHeap.get,if_neg h];exact ih
def AHeap.renamed(g:Id→Id)(H:AHeap):AHeap:=H.map fun x=>(g x.1,x.2.ren g)
theorem AHeap.get_renamed{g:Id→Id}:∀ {H:AHeap} {t:Id} {b:ABlock},(AHeap.renamed g H).get t=some b→∃i b0,(i,b0)∈H∧g i=t∧b=b0.ren g
 |[],t,b,h=>by simp[AHeap.renamed,AHeap.get] at h
 |(k,b0)::r,t,b,h=>by
  simp only[AHeap.renamed,pI] at h
  by_cases hk:g k=t
  ·subst hk
   rw[AHeap.get_cons_same] at h
   simp only[p0] at h
   exact⟨k,b0,List.mem_cons_self ..,rfl,h.symm⟩
  ·rw[AHeap.get_cons_other _ _ hk] at h
   obtain⟨i,b1,h1,h2,h3⟩:=AHeap.get_renamed h
   exact⟨i,b1,List.mem_cons_of_mem _ h1,h2,h3⟩
def Wu(ρ:Id→Option Id)(k n m:Nat)(id:Id):Id:=if id.1<k then(ρ id).getD (n+m,0) else(n+(id.1-k),id.2)
theorem ACalls.frame{f:Fn}{args args0:List AVal}{H H0 L:AHeap}{n k m:Nat}{R:AVal}{F:Id→Bool}{ρ:Id→Option Id}{K:AVal→AHeap→Nat→Prop}(h:ACalls P f args0 H0 k (Z6 (k+m) R L))
 (hinj:∀i j x,ρ i=some x→ρ j=some x→i=j) (hdom:∀i x,ρ i=some x→i.1<k∧x.1<n∧F x=false) (hF:∀x,F x=true→H.get x≠none)
 (ha:ArgsTo F H ρ k args args0) (hH:∀i b,H0.get i=some b→∃x b',ρ i=some x∧H.get x=some b'∧BVw F H ρ k b' b)
 (p:Id→Bool) (hp:∀x,p x=true↔F x=true∨∃i,ρ i=some x) (hnd:(L.map (·.1)).Nodup)
 (hk:K (R.ren (Wu ρ k n m)) (AHeap.renamed (Wu ρ k n m) L++AHeap.without p H) (n+m+1)):ACalls P f args H n K:=by
 refine⟨h.1,fun I β w vs hI hl hr=>?_⟩
 have hρ:RhoOk 0 k F H ρ:=⟨hinj,fun i x hx=>(hdom i x hx).1,fun i hi=>absurd hi (pU _),fun _ _ _ _=>.inl (Nat.zero_le _),Nat.zero_le _⟩
 have hmem:∀ {L:AHeap} {i:Id} {b:ABlock},(L.map (·.1)).Nodup→(i,b)∈L→L.get i=some b:=by
  intro L i b hn hm
  induction L with
  |nil=>cases hm
  |cons y r ih=>
   obtain⟨j,c⟩:=y
   simp only[pI,List.nodup_cons] at hn
   rcases pH.1 hm with h|h
   ·simp only[pE] at h;obtain⟨rfl,rfl⟩:=h;exact AHeap.get_cons_same _ _ _
   ·have:j≠i:=fun hji=>by subst hji;exact hn.1 (pB.2 ⟨_,h,rfl⟩)
    rw[AHeap.get_cons_other _ _ this];exact ih hn.2 h
 -- the callee's view
 have hto:∀ {i:Id} {b:ABlock},H0.get i=some b→Yx F H ρ 0 k i b:=by
  intro i b hb
  obtain⟨x,b',h1,h2,h3⟩:=hH i b hb
  unfold Yx
  rw[h1]
  simp only[h2]
  exact⟨(hdom i x h1).2.2,h3⟩
 have hI0:Inv (z0o I β F H w) (z17 β F ρ 0 k H0) k H0 w:=by
  refine⟨fun id blk hb=>?_,fun i j c d b q hi hj hc hd=>?_,fun i c b q hi hc=>?_,fun b q h=>?_,fun id hid=>?_,hI.glob.mono (fun _ _ h=>.inl h) (fun _ _ _=>rfl) (SameSz.refl _)⟩
  ·obtain⟨x,b',h1,h2,h3⟩:=hH id blk hb
   obtain⟨c,hc,hB⟩:=hI.blocks x b' h2
   exact⟨c,by rw[Kp h1 (hdom id x h1).2.2];exact hc,zf0 hI hρ h3 hB⟩
  ·obtain⟨i',h1,_,h2⟩:=ur hi hc
   obtain⟨j',h3,_,h4⟩:=ur hj hd
   have:=hI.inj i' j' c d b q h2 h4 hc hd
   subst this
   exact hinj i j i' h1 h3
  ·obtain⟨i',h1,h2,h3⟩:=ur hi hc
   obtain⟨h4,h5⟩:=hI.own i' c b q h3 hc
   refine⟨?_,h5⟩
   rintro(h|⟨⟨id,d,g1,g2,g3,g4⟩,_⟩)
   ·exact h4 h
   ·have:=hI.inj id i' d c b q g2 h3 g4 hc
    subst this
    rw[g1] at h2;cases h2
  ·rcases h with h|⟨_,h⟩
   ·exact hI.imm b q h
   ·exact h
  ·cases hr:z17 β F ρ 0 k H0 id with
   |none=>rfl
   |some c=>
    rcases ub hr with⟨x,h1,_⟩|⟨_,_,_,_,h⟩
    ·have:=(hdom id x h1).1;omega
    ·omega
 obtain⟨ha1,ha2⟩:=ha.get
 refine(h.2 _ _ w vs hI0 (by rw[hl,ha1]) (fun i y v hy hv=>?_)).mono ?_
 ·have hlt:i<args.length:=by rw[ha1];exact Q1 hy
  exact Vn hI hρ (ha2 i args[i] y (p2 hlt) hy) (hr i _ v (p2 hlt) hv)
 ·rintro ee w' ⟨r,v,H1,n1,I',β',he,⟨rfl,rfl,rfl⟩,hI',hr',hx⟩
  -- an alive block of the callee is one of the caller
  have alive:∀ {i:Id} {c:CLoc} {b q:Nat},z17 β F ρ 0 k H0 i=some c→H0.get i≠none→c.has b q→∃x,ρ i=some x∧β x=some c∧H.get x≠none:=by
   intro i c b q hi hg hc
   obtain⟨x,h1,_,h2⟩:=ur hi hc
   refine⟨x,h1,h2,?_⟩
   cases hb:H0.get i with
   |none=>exact absurd hb hg
   |some b0=>
    obtain⟨x',b',h3,h4,_⟩:=hH i b0 hb
    rw[h1] at h3
    simp only[p0] at h3
    subst h3
    rw[h4];simp
  let β3:Id→Option CLoc:=fun j=>by
   classical
   exact if j.1<n then(if hj:∃i,ρ i=some j then β' (pO hj) else if F j=true then none else β j) else if j.1<n+m then β' (k+(j.1-n),j.2) else none
  have b3at:∀ {i x:Id},ρ i=some x→β3 x=β' i:=by
   intro i x hix
   have hex:∃i,ρ i=some x:=⟨i,hix⟩
   have:pO hex=i:=hinj _ _ x (pJ hex) hix
   simp only[β3,if_pos (hdom i x hix).2.1,dif_pos hex,this]
  have b3old:∀ {j:Id},j.1<n→(¬∃i,ρ i=some j)→F j=false→β3 j=β j:=by
   intro j hj hno hFj
   simp only[β3,if_pos hj,dif_neg hno,hFj,pQ,if_false]
  have b3cases:∀ {j:Id} {c:CLoc},β3 j=some c→(∃i,ρ i=some j∧β' i=some c)∨(j.1<n∧(¬∃i,ρ i=some j)∧F j=false∧β j=some c)∨(n≤j.1∧j.1<n+m∧β' (k+(j.1-n),j.2)=some c):=by
   intro j c hj
   simp only[β3] at hj
   split at hj
   ·rename_i hlt
    split at hj
    ·rename_i hex;exact .inl ⟨_,pJ hex,hj⟩
    ·rename_i hno
     split at hj
     ·cases hj
     ·rename_i hFj;exact .inr (.inl ⟨hlt,hno,by simpa using hFj,hj⟩)
   ·rename_i hge
    split at hj
    ·rename_i hlt;exact .inr (.inr ⟨by omega,hlt,hj⟩)
    ·cases hj
  have hk0:∀ {i:Id} {c:CLoc},i.1<k→β' i=some c→z17 β F ρ 0 k H0 i=some c:=fun hi hc=>hx.back _ _ hi hc
  have upn:∀id:Id,id.1<k+m→(Wu ρ k n m id).1<n+m+1:=by
   intro id hid
   unfold Wu
   split
   ·cases hρi:ρ id with
    |none=>simp
    |some x=>have:=(hdom id x hρi).2.1;simp;omega
   ·simp;omega
  have upβ:∀ (id:Id) c,id.1<k+m→β3 (Wu ρ k n m id)=some c→β' id=some c:=by
   intro id c hid hc
   unfold Wu at hc
   split at hc
   ·rename_i hlt
    cases hρi:ρ id with
    |none=>
     rw[hρi] at hc
     simp only[Option.getD_none] at hc
     rcases b3cases hc with⟨i,h1,_⟩|⟨h1,_⟩|⟨_,h1,_⟩
     ·have:=(hdom i _ h1).2.1;simp only at this;omega
     ·simp only at h1;omega
     ·simp only at h1;omega
    |some x=>
     rw[hρi] at hc
     simp only[Option.getD_some] at hc
     rw[b3at hρi] at hc;exact hc
   ·rename_i hge
    rcases b3cases hc with⟨i,h1,_⟩|⟨h1,_⟩|⟨_,_,h1⟩
    ·have:=(hdom i _ h1).2.1;simp only at this;omega
    ·simp only at h1;omega
    ·simp only[Nat.add_sub_cancel_left] at h1
     rw[show k+(id.1-k)=id.1 by omega] at h1
     exact h1
  have hcI:∀b q,I b q→w'.cell? ⟨b,q,none⟩=w.cell? ⟨b,q,none⟩:=fun b q hb=>hx.heapI hI0 b q (.inl hb)
  have himm:∀b q,I b q→I' b q:=fun b q hb=>hx.imm b q (.inl hb)
  have hsz:w.heap.size≤w'.heap.size:=hx.size
  have hupAt:∀i b,H1.get i=some b→i.1<k+m∧((i.1<k∧∃x,ρ i=some x∧Wu ρ k n m i=x∧H.get x≠none)∨(k≤i.1∧Wu ρ k n m i=(n+(i.1-k),i.2))):=by
   intro i b hb
   have hlt:i.1<k+m:=by
    obtain⟨c,hc,_⟩:=hI'.blocks i b hb
    exact uy hI' hc
   refine⟨hlt,?_⟩
   by_cases hi:i.1<k
   ·left
    refine⟨hi,?_⟩
    have hg:=hx.dom i hi (by rw[hb];simp)
    cases hb0:H0.get i with
    |none=>exact absurd hb0 hg
    |some b0=>
     obtain⟨x,b',h3,h4,_⟩:=hH i b0 hb0
     exact⟨x,h3,by unfold Wu;rw[if_pos hi,h3];rfl,by rw[h4];simp⟩
   ·right
    exact⟨by omega,by unfold Wu;rw[if_neg hi]⟩
  refine⟨_,v,_,_,I',β3,he,hk,?_,Km upn upβ hr',?_⟩
  ·refine⟨fun id blk hb=>?_,fun i j c d b q hi hj hc hd=>?_,fun i c b q hi hc=>?_,hI'.imm,fun id hid=>?_,hI'.glob⟩
   ·rw[AHeap.get_append] at hb
    cases hg:(AHeap.renamed (Wu ρ k n m) H1).get id with
    |some b1=>
     rw[hg] at hb
     simp only[Option.some_or,p0] at hb
     subst hb
     obtain⟨i,b0,h1,h2,rfl⟩:=AHeap.get_renamed hg
     have hLi:=hmem hnd h1
     obtain⟨c,hc,hB⟩:=hI'.blocks i b0 hLi
     refine⟨c,?_,zmp upn upβ hB⟩
     obtain⟨hlt,h3|h3⟩:=hupAt i b0 hLi
     ·obtain⟨_,x,h4,h5,_⟩:=h3
      rw[←h2,h5,b3at h4];exact hc
     ·obtain⟨h4,h5⟩:=h3
      rw[←h2,h5]
      simp only[β3]
      rw[if_neg (by simp),if_pos (by simp;omega)]
      simp only[Nat.add_sub_cancel_left]
      rw[show k+(i.1-k)=i.1 by omega];exact hc
    |none=>
     rw[hg] at hb
     simp only[pS,AHeap.get_without] at hb
     split at hb<;>try (cases hb;done)
     rename_i hpn
     obtain⟨c,hc,hB⟩:=hI.blocks id blk hb
     have hid:=uy hI hc
     have hno:¬∃i,ρ i=some id:=fun hex=>hpn ((hp id).2 (.inr hex))
     have hFid:F id=false:=by
      cases hF':F id with
      |false=>rfl
      |true=>exact absurd ((hp id).2 (.inl hF')) hpn
     refine⟨c,by rw[b3old hid hno hFid];exact hc,hB.mono' himm hcI (by omega) ?_ (fun arr el fr hh=>by
      obtain⟨arr',fr',k1,k2,k3⟩:=hx.shape _ arr el fr hh
      refine⟨arr',fr',k1,k2,k3.imp (fun h=>h) fun g k hk hck=>?_⟩
      obtain⟨i,d,e1,e2,e3⟩:=g k hk
      obtain⟨x,g1,g2,_⟩:=alive e1 e2 e3
      have:=hI.inj id x c d _ k hc g2 hck e3
      subst this
      exact hno ⟨i,g1⟩) ?_ ?_⟩
     ·intro j d hj hd
      rcases b3cases hd with⟨i,h1,h2⟩|⟨_,_,_,h1⟩|⟨h1,_⟩
      ·have:=hk0 (hdom i j h1).1 h2
       rwa [Kp h1 (hdom i j h1).2.2] at this
      ·exact h1
      ·omega
     ·intro b q u hbq hu
      refine hx.cells b q u hu (fun i d hi hg hd=>?_)
      obtain⟨x,h1,h2,_⟩:=alive hi hg hd
      have:=hI.inj id x c d b q hc h2 hbq hd
      subst this
      exact hno ⟨i,h1⟩
     ·intro es ck h0 hm
      refine hx.maps _ es ck hm (fun i d hi hg hd=>?_)
      obtain⟨x,h1,h2,_⟩:=alive hi hg hd
      have:=hI.inj id x c d _ 0 hc h2 h0 hd
      subst this
      exact hno ⟨i,h1⟩
   ·-- two blocks z6i
    have tr:∀ {j:Id} {c:CLoc},β3 j=some c→(∃i,β' i=some c∧Wu ρ k n m i=j∧i.1<k+m)∨(j.1<n∧(¬∃i,ρ i=some j)∧F j=false∧β j=some c):=by
     intro j c hj
     rcases b3cases hj with⟨i,h1,h2⟩|h|⟨h1,h2,h3⟩
     ·exact .inl ⟨i,h2,by unfold Wu;rw[if_pos (hdom i j h1).1,h1];rfl,by have:=(hdom i j h1).1;omega⟩
     ·exact .inr h
     ·refine .inl ⟨_,h3,?_,by simp;omega⟩
      unfold Wu
      rw[if_neg (by simp)]
      simp only[Nat.add_sub_cancel_left]
      ext<;>simp;omega
    have mixed:∀ {i:Id} {j:Id} {c d:CLoc},β' i=some c→i.1<k+m→c.has b q→j.1<n→(¬∃i,ρ i=some j)→β j=some d→d.has b q→False:=by
     intro i j c d hi hik hc hj hno hd hdq
     obtain⟨_,hlt⟩:=hI.own j d b q hd hdq
     by_cases hi':i.1<k
     ·obtain⟨x,h1,_,h2⟩:=ur (hk0 hi' hi) hc
      have:=hI.inj x j c d b q h2 hd hc hdq
      subst this
      exact hno ⟨i,h1⟩
     ·rcases hx.new i c b q (by omega) hi hc with h|⟨i0,c0,h1,h2,h3⟩
      ·omega
      ·obtain⟨x,g1,g2,_⟩:=alive h1 h3 h2
       have:=hI.inj x j c0 d b q g2 hd h2 hdq
       subst this
       exact hno ⟨i0,g1⟩
    rcases tr hi with⟨i',h1,h2,h2'⟩|⟨h1,h2,_,h3⟩<;>rcases tr hj with⟨j',g1,g2,g2'⟩|⟨g1,g2,_,g3⟩
    ·have:=hI'.inj i' j' c d b q h1 g1 hc hd
     subst this
     rw[←h2,g2]
    ·exact(mixed h1 h2' hc g1 g2 g3 hd).elim
    ·exact(mixed g1 g2' hd h1 h2 h3 hc).elim
    ·exact hI.inj i j c d b q h3 g3 hc hd
   ·rcases b3cases hi with⟨i',_,h2⟩|⟨h1,h2,hFi,h3⟩|⟨_,_,h3⟩
    ·exact hI'.own i' c b q h2 hc
    ·obtain⟨g1,g2⟩:=hI.own i c b q h3 hc
     refine⟨fun hI'bq=>?_,by omega⟩
     by_cases hin:z0o I β F H w b q
     ·rcases hin with h|⟨⟨id,d,e1,e2,e3,e4⟩,_⟩
      ·exact g1 h
      ·have:=hI.inj id i d c b q e2 h3 e4 hc
       subst this
       rw[e1] at hFi;cases hFi
     ·obtain⟨i0,c0,e1,e2,e3⟩:=hx.immNew b q hI'bq hin g2
      obtain⟨x,e4,e5,_⟩:=alive e1 e3 e2
      have:=hI.inj x i c0 c b q e5 h3 e2 hc
      subst this
      exact h2 ⟨i0,e4⟩
    ·exact hI'.own _ c b q h3 hc
   ·cases hb:β3 id with
    |none=>rfl
    |some c=>
     rcases b3cases hb with⟨i,h1,_⟩|⟨h1,_⟩|⟨_,h1,_⟩
     ·have:=(hdom i id h1).2.1;omega
     ·omega
     ·omega
  ·refine⟨hx.os,hx.tape,hx.output,hx.size,fun b hb hn=>hx.frame b hb (fun i c q hi hg hc=>?_),fun b q u hu hn=>hx.cells b q u hu (fun i c hi hg hc=>?_),fun b arr el fr hb=>(by
    obtain⟨arr',fr',k1,k2,k3⟩:=hx.shape b arr el fr hb
    refine⟨arr',fr',k1,k2,k3.imp (fun h=>h) fun g k hk=>?_⟩
    obtain⟨i,d,e1,e2,e3⟩:=g k hk
    obtain⟨x,_,g2,g3⟩:=alive e1 e2 e3
    exact⟨x,d,g2,g3,e3⟩),fun b es ck hm hn=>hx.maps b es ck hm (fun i c hi hg hc=>?_),himm,fun b q hb hnb hlt=>?_,fun j hj=>?_,fun j c b q hj hc hq=>?_,fun j hj hg=>?_,by omega⟩
   ·obtain⟨x,_,h2,h3⟩:=alive hi hg hc
    exact hn x c q h2 h3 hc
   ·obtain⟨x,_,h2,h3⟩:=alive hi hg hc
    exact hn x c h2 h3 hc
   ·obtain⟨x,_,h2,h3⟩:=alive hi hg hc
    exact hn x c h2 h3 hc
   ·by_cases hin:z0o I β F H w b q
    ·rcases hin with h|⟨⟨id,d,e1,e2,e3,e4⟩,_⟩
     ·exact absurd h hnb
     ·exact⟨id,d,e2,e4,e3⟩
    ·obtain⟨i0,c0,e1,e2,e3⟩:=hx.immNew b q hb hin hlt
     obtain⟨x,_,e5,e6⟩:=alive e1 e3 e2
     exact⟨x,c0,e5,e2,e6⟩
   ·by_cases hex:∃i,ρ i=some j
    ·obtain⟨i,hi⟩:=hex
     obtain⟨d1,d2,d3⟩:=hdom i j hi
     rw[b3at hi]
     rcases hx.old i d1 with h|⟨h,hg⟩
     ·left;rw[h,Kp hi d3]
     ·right
      refine⟨h,?_⟩
      cases hb:H0.get i with
      |none=>exact absurd hb hg
      |some b0=>
       obtain⟨x',b',h3,h4,_⟩:=hH i b0 hb
       rw[hi] at h3
       simp only[p0] at h3
       subst h3
       rw[h4];simp
    ·cases hFj:F j with
     |false=>exact .inl (b3old hj hex hFj)
     |true=>
      right
      refine⟨?_,hF j hFj⟩
      simp only[β3,if_pos hj,dif_neg hex,hFj,if_true]
   ·rcases b3cases hc with⟨i,h1,_⟩|⟨h1,_⟩|⟨_,_,h1⟩
    ·have:=(hdom i j h1).2.1;omega
    ·omega
    ·rcases hx.new _ c b q (by simp) h1 hq with h|⟨i0,c0,e1,e2,e3⟩
     ·exact .inl h
     ·obtain⟨x,_,e5,e6⟩:=alive e1 e3 e2
      exact .inr ⟨x,c0,e5,e2,e6⟩
   ·rw[AHeap.get_append] at hg
    cases hh:(AHeap.renamed (Wu ρ k n m) H1).get j with
    |none=>
     rw[hh] at hg
     simp only[pS,AHeap.get_without] at hg
     split at hg
     ·exact absurd rfl hg
     ·exact hg
    |some b1=>
     obtain⟨i,b0,h1,h2,_⟩:=AHeap.get_renamed hh
     have hLi:=hmem hnd h1
     obtain⟨hlt,h3|h3⟩:=hupAt i b0 hLi
     ·obtain⟨_,x,_,h5,h6⟩:=h3
      rw[←h2,h5];exact h6
     ·obtain⟨h4,h5⟩:=h3
      rw[←h2,h5] at hj
      simp only at hj;omega
end Go.Fx
namespace Go.Fx
variable {P:Program}
def PFn(P:Program)(f:FuncId)(args:List AVal)(R:AVal):Prop:=R.nid=true∧∃m,ACalls P f args [] 0 (Z6 m R [])
theorem Inv.give{I:Nat→Nat→Prop}{β:Id→Option CLoc}{n:Nat}{H:AHeap}{w:World}{F:Id→Bool}(hI:Inv I β n H w):Inv (z0o I β F H w) (fun _=>none) 0 [] w:=
 { blocks:=fun id blk h=>by simp[AHeap.get] at h
   inj:=fun i j c d b k h=>by simp at h
   own:=fun i c b k h=>by simp at h
   imm:=fun b k h=>by
    rcases h with h|⟨_,h⟩
    ·exact hI.imm b k h
    ·exact h
   fresh:=fun id _=>rfl
   glob:=hI.glob.mono (fun _ _ h=>.inl h) (fun _ _ _=>rfl) (SameSz.refl _) }
theorem zid{I:Nat→Nat→Prop}{β:Id→Option CLoc}{n:Nat}{H:AHeap}{w:World}{F:Id→Bool}(hI:Inv I β n H w){x y:AVal}(h:Vw F H (fun _=>none) 0 x y){v:Value}(hr:Rep I β n w x v):Rep (z0o I β F H w) (fun _=>none) 0 w y v:=by
 have hρ:RhoOk 0 0 F H (fun _=>none):=⟨fun i j k h=>(by cases h),fun i k h=>(by cases h),fun i h=>absurd h (pU _),fun i k _ h=>(by cases h),pN _⟩
 have:=Vn (n:=0) (L:=[]) hI hρ h hr
 have e:z17 β F (fun _=>none) 0 0 []=fun _=>none:=by
  funext id
  simp[z17,AHeap.get]
 rw[e] at this
 exact this
theorem PFn.use{f:FuncId}{args args0:List AVal}{R:AVal}(h:PFn P f args0 R){F:Id→Bool}{H:AHeap}{n:Nat}{K:AVal→AHeap→Nat→Prop}(ha:ArgsTo F H (fun _=>none) 0 args args0)(hF:∀x,F x=true→H.get x≠none)
 (hk:K R (AHeap.without F H) n):ACalls P f args H n K:=by
 obtain⟨hR,m,h⟩:=h
 refine⟨h.1,fun I β w vs hI hl hr=>?_⟩
 obtain⟨ha1,ha2⟩:=ha.get
 refine(h.2 _ _ w vs (hI.give (F:=F)) (by rw[hl,ha1]) (fun i y v hy hv=>?_)).mono ?_
 ·have hlt:i<args.length:=by rw[ha1];exact Q1 hy
  exact zid hI (ha2 i args[i] y (p2 hlt) hy) (hr i _ v (p2 hlt) hv)
 ·rintro ee w' ⟨r,v,H1,n1,I',β',he,⟨rfl,rfl,rfl⟩,hI',hr',hx⟩
  have hcell:∀b q u,w.cell? ⟨b,q,none⟩=some u→w'.cell? ⟨b,q,none⟩=some u:=fun b q u hu=>hx.cells b q u hu (fun i c hi=>by cases hi)
  have himm:∀b q,I b q→I' b q:=fun b q hb=>hx.imm b q (.inl hb)
  have hcI:∀b q,I b q→w'.cell? ⟨b,q,none⟩=w.cell? ⟨b,q,none⟩:=fun b q hb=>by
   obtain⟨u,hu⟩:=hI.imm b q hb
   rw[hu];exact hcell b q u hu
  let β3:Id→Option CLoc:=fun j=>if F j then none else β j
  have b3:∀ {j c},β3 j=some c→F j=false∧β j=some c:=by
   intro j c hj
   simp only[β3] at hj
   split at hj
   ·cases hj
   ·rename_i hF';exact⟨by simpa using hF',hj⟩
  refine⟨_,v,_,_,I',β3,he,hk,?_,X0 (fun _ _ h=>h) _ hR hr',?_⟩
  ·refine⟨fun id blk hb=>?_,fun i j c d b q hi hj hc hd=>hI.inj i j c d b q (b3 hi).2 (b3 hj).2 hc hd,fun i c b q hi hc=>?_,hI'.imm,fun id hid=>?_,hI'.glob⟩
   ·rw[AHeap.get_without] at hb
    split at hb<;>try (cases hb;done)
    rename_i hFid
    obtain⟨c,hc,hB⟩:=hI.blocks id blk hb
    refine⟨c,by simp only[β3];rw[if_neg hFid];exact hc,hB.mono' himm hcI (pN n) (fun id d _ hd=>(b3 hd).2) (fun arr el fr hh=>by
     obtain⟨arr',fr',k1,k2,k3⟩:=hx.shape _ arr el fr hh
     refine⟨arr',fr',k1,k2,k3.imp (fun h=>h) fun g k hk=>?_⟩
     obtain⟨i,d,e1,_⟩:=g k hk
     cases e1) (fun b q u _ hu=>hcell b q u hu) (fun es ck _ hm=>hx.maps _ es ck hm (fun i c hi=>by cases hi))⟩
   ·obtain⟨hFi,hi⟩:=b3 hi
    obtain⟨g1,g2⟩:=hI.own i c b q hi hc
    refine⟨fun hbq=>?_,Nat.lt_of_lt_of_le g2 hx.size⟩
    by_cases hin:z0o I β F H w b q
    ·rcases hin with h|⟨⟨id,d,e1,e2,e3,e4⟩,_⟩
     ·exact g1 h
     ·have:=hI.inj id i d c b q e2 hi e4 hc
      subst this
      rw[e1] at hFi;cases hFi
    ·obtain⟨i0,c0,e1,_⟩:=hx.immNew b q hbq hin g2
     cases e1
   ·simp only[β3]
    split
    ·rfl
    ·exact hI.fresh id hid
  ·refine⟨hx.os,hx.tape,hx.output,hx.size,fun b hb _=>hx.frame b hb (fun i c q hi=>by cases hi),fun b q u hu _=>hcell b q u hu,fun b arr el fr hb=>(by
    obtain⟨arr',fr',k1,k2,k3⟩:=hx.shape b arr el fr hb
    refine⟨arr',fr',k1,k2,k3.imp (fun h=>h) fun g k hk=>?_⟩
    obtain⟨i,d,e1,_⟩:=g k hk
    cases e1),fun b es ck hm _=>hx.maps b es ck hm (fun i c hi=>by cases hi),himm,fun b q hb hnb hlt=>?_,fun j hj=>?_,fun j c b q hj hc hq=>?_,fun j hj hg=>?_,pN n⟩
   ·by_cases hin:z0o I β F H w b q
    ·rcases hin with h|⟨⟨id,d,e1,e2,e3,e4⟩,_⟩
     ·exact absurd h hnb
     ·exact⟨id,d,e2,e4,e3⟩
    ·obtain⟨i0,c0,e1,_⟩:=hx.immNew b q hb hin hlt
     cases e1
   ·simp only[β3]
    split
    ·rename_i hFj;exact .inr ⟨rfl,hF j hFj⟩
    ·exact .inl rfl
   ·have:=(b3 hc).2
    rw[hI.fresh j hj] at this
    cases this
   ·rw[AHeap.get_without] at hg
    split at hg
    ·exact absurd rfl hg
    ·exact hg
def AVal.flat:AVal→Bool
 |.bool _|.int _ _|.str _|.val _=>true
 |.tup cs=>flatL cs
 |.agg cs=>flatL cs
 |_=>false
where flatL:List AVal→Bool
 |[]=>true
 |x::r=>x.flat&&flatL r
mutual
theorem z9u{I I2:Nat→Nat→Prop}{β β2:Id→Option CLoc}{n n2:Nat}{w w2:World}:∀ (x:AVal),x.flat=true→∀ {v:Value},Rep I β n w x v→Rep I2 β2 n2 w2 x v
 |.bool b,_,v,hr=>by rw[hr.bool_inv];exact .imm _ _ (.bool b)
 |.int k m,_,v,hr=>by rw[hr.int_inv];exact .imm _ _ (.int k m)
 |.str l,_,v,hr=>by rw[hr.str_inv];exact .imm _ _ (.str l)
 |.val u,_,v,hr=>by
  cases hr with
  |imm _ _ h=>cases h with|val _ h=>exact .imm _ _ (.val u h)
 |.tup cs,hn,v,hr=>by
  have:∃vs,v=.tuple vs∧vs.size=cs.length∧∀ (i:Nat) (y:AVal) (u:Value),cs[i]?=some y→vs[i]?=some u→Rep I β n w y u:=by
   cases hr with
   |tup _ vs h1 h2=>exact⟨vs,rfl,h1,h2⟩
   |imm _ _ hx=>
    cases hx with
    |tup _ vs h1 h2=>exact⟨vs,rfl,h1,fun i y u hy hu=>.imm _ _ (h2 i y u hy hu)⟩
  obtain⟨vs,rfl,h1,h3⟩:=this
  exact .tup cs vs h1 (fun i x v hx hv=>Uo cs hn x (p6 hx) (h3 i x v hx hv))
 |.agg cs,hn,v,hr=>by
  obtain⟨vs,rfl,h1,h2,h3⟩:=hr.agg_inv
  exact .agg cs vs h1 h2 (fun i x v hx hv=>Uo cs hn x (p6 hx) (h3 i x v hx hv))
theorem Uo{I I2:Nat→Nat→Prop}{β β2:Id→Option CLoc}{n n2:Nat}{w w2:World}:∀ (cs:List AVal),AVal.flat.flatL cs=true→∀x∈cs,∀ {v:Value},Rep I β n w x v→Rep I2 β2 n2 w2 x v
 |[],_,x,hx,v,hr=>by cases hx
 |y::r,hn,x,hx,v,hr=>by
  simp only[AVal.flat.flatL,p3] at hn
  rcases pH.1 hx with e|hx
  ·rw[e] at hr ⊢;exact z9u y hn.1 hr
  ·exact Uo r hn.2 x hx hr
end
theorem PFn.read{f:FuncId}{args args0:List AVal}{R:AVal}(h:PFn P f args0 R)(hR:R.flat=true)(B:Id→Bool){H:AHeap}{n:Nat}{K:AVal→AHeap→Nat→Prop}(ha:ArgsTo B H (fun _=>none) 0 args args0)(hk:K R H n):ACalls P f args H n K:=by
 obtain⟨_,m,h⟩:=h
 refine⟨h.1,fun I β w vs hI hl hr=>?_⟩
 obtain⟨ha1,ha2⟩:=ha.get
 refine(h.2 _ _ w vs (hI.give (F:=B)) (by rw[hl,ha1]) (fun i y v hy hv=>?_)).mono ?_
 ·have hlt:i<args.length:=by rw[ha1];exact Q1 hy
  exact zid hI (ha2 i args[i] y (p2 hlt) hy) (hr i _ v (p2 hlt) hv)
 ·rintro ee w' ⟨r,v,H1,n1,I',β',he,⟨rfl,rfl,rfl⟩,hI',hr',hx⟩
  have hcell:∀b q u,w.cell? ⟨b,q,none⟩=some u→w'.cell? ⟨b,q,none⟩=some u:=fun b q u hu=>hx.cells b q u hu (fun i c hi=>by cases hi)
  have hcI:∀b q,I b q→w'.cell? ⟨b,q,none⟩=w.cell? ⟨b,q,none⟩:=fun b q hb=>by
   obtain⟨u,hu⟩:=hI.imm b q hb
   rw[hu];exact hcell b q u hu
  refine⟨r,v,H,n,I,β,he,hk,?_,z9u r hR hr',?_⟩
  ·refine⟨fun id blk hb=>?_,hI.inj,fun i c b q hi hc=>⟨(hI.own i c b q hi hc).1,Nat.lt_of_lt_of_le (hI.own i c b q hi hc).2 hx.size⟩,fun b q hb=>by rw[hcI b q hb];exact hI.imm b q hb,hI.fresh,hI.glob.mono (fun _ _ h=>h) hcI (fun b arr el fr h=>by obtain⟨arr',fr',k1,k2,_⟩:=hx.shape b arr el fr h;exact⟨arr',fr',k1,k2⟩)⟩
   obtain⟨c,hc,hB⟩:=hI.blocks id blk hb
   exact⟨c,hc,hB.mono' (fun _ _ h=>h) hcI (pN n) (fun _ _ _ h=>h) (fun arr el fr hh=>by
    obtain⟨arr',fr',k1,k2,k3⟩:=hx.shape _ arr el fr hh
    refine⟨arr',fr',k1,k2,k3.imp (fun h=>h) fun g k hk=>?_⟩
    obtain⟨i,d,e1,_⟩:=g k hk
    cases e1) (fun b q u _ hu=>hcell b q u hu) (fun es ck _ hm=>hx.maps _ es ck hm (fun i c hi=>by cases hi))⟩
  ·exact⟨hx.os,hx.tape,hx.output,hx.size,fun b hb _=>hx.frame b hb (fun i c q hi=>by cases hi),fun b q u hu _=>hcell b q u hu,fun b arr el fr hb=>(by
    obtain⟨arr',fr',k1,k2,k3⟩:=hx.shape b arr el fr hb
    refine⟨arr',fr',k1,k2,k3.imp (fun h=>h) fun g k hk=>?_⟩
    obtain⟨i,d,e1,_⟩:=g k hk
    cases e1),fun b es ck hm _=>hx.maps b es ck hm (fun i c hi=>by cases hi),fun _ _ h=>h,fun b q h h'=>absurd h h',fun j _=>.inl rfl,fun j c b q hj hc=>(by rw[hI.fresh j hj] at hc;cases hc),fun j _ h=>h,pN n⟩
def jj(R:AVal):AVal→AHeap→Nat→Prop:=fun r H' _=>R.nid=true∧Vw (fun _=>true) H' (fun _=>none) 0 r R
theorem PFn.ofFnW{f:FuncId}{bm:List Nat}{L:LFn}(hL:w4 P bm f=some L)(hok:uc P f){args:List AVal}(hlen:args.length≤L.lay.n){R:AVal}(hR:R.nid=true)
 (h:LWp P L.lay 0 L.body (Q0 L.res (jj R)) (yi 0 args) [] 0):PFn P f args R:=by
 refine⟨hR,0,ACalls.fin ((ACalls.ofFnW hL hok hlen h).mono ?_)⟩
 rintro r H' n' ⟨_,hv⟩
 exact⟨fun _=>true,fun _=>none,⟨fun i j k h=>(by cases h),fun i k h=>(by cases h),fun i h=>absurd h (pU _),fun i k _ h=>(by cases h),pN _⟩,hv,fun _ _ h=>by simp[AHeap.get] at h⟩
end Go.Fx
namespace Go.Fx
def W8:Option Prop→Prop→Prop
 |none,q=>q
 |some p,q=>p∧q
def Y3:Option Prop→Option Prop→Option Prop
 |none,y=>y
 |some a,none=>some a
 |some a,some b=>some (a∧b)
def we:Option Prop→Prop
 |none=>True
 |some p=>p
theorem x6(s:Option Prop)(q:Prop):W8 s q↔we s∧q:=by cases s<;>simp[W8,we]
theorem xa(a b:Option Prop):we (Y3 a b)↔we a∧we b:=by cases a<;>cases b<;>simp[Y3,we]
def AVal.needY:AVal→Option Prop
 |.cnd p _=>some (p=true)
 |_=>none
theorem zfu(x:AVal):we x.needY↔x.need:=by cases x<;>simp[AVal.needY,AVal.need,we]
def LOpd.needY(e:Env):LOpd→Option Prop
 |.t i=>(e.get i).needY
 |.c _=>none
theorem zh(e:Env)(x:LOpd):we (x.needY e)↔x.need e:=by
 cases x with
 |t i=>exact zfu _
 |c v=>simp[LOpd.needY,LOpd.need,we]
def Wd(e:Env):List LOpd→Option Prop
 |[]=>none
 |x::r=>Y3 (x.needY e) (Wd e r)
theorem uz(e:Env):∀l,we (Wd e l)↔Q3 e l
 |[]=>by simp[Wd,Q3,we]
 |x::r=>by simp[Wd,Q3,xa,zh,uz e r]
def z0e(e:Env):Option LOpd→Option Prop
 |none=>none
 |some x=>x.needY e
theorem Y4(e:Env)(x:Option LOpd):we (z0e e x)↔ud e x:=by
 cases x with
 |none=>simp[z0e,ud,we]
 |some x=>exact zh e x
def z5w(e:Env):List (Nat×Nat×LOpd)→Option Prop
 |[]=>none
 |(_,_,x)::r=>Y3 (x.needY e) (z5w e r)
theorem z22(e:Env):∀l,we (z5w e l)↔jy e l
 |[]=>by simp[z5w,jy,we]
 |(_,_,x)::r=>by simp[z5w,jy,xa,zh,z22 e r]
def z1g(e:Env):List (Nat×LOpd)→Option Prop
 |[]=>none
 |(_,x)::r=>Y3 (x.needY e) (z1g e r)
theorem Vc(e:Env):∀l,we (z1g e l)↔Wy e l
 |[]=>by simp[z1g,Wy,we]
 |(_,x)::r=>by simp[z1g,Wy,xa,zh,Vc e r]
def zdv:IntKind→IntKind→Bool
 |.i8,.i8|.i16,.i16|.i32,.i32|.i64,.i64|.u8,.u8|.u16,.u16|.u32,.u32|.u64,.u64=>true
 |_,_=>false
theorem z2s{a b:IntKind}(h:zdv a b=true):a=b:=by cases a<;>cases b<;>first|rfl|cases h
inductive YR where
 |ok (side:Option Prop) (v:AVal)
 |row (es:List (List AVal)) (i:Nat) (side:Prop) (f:List AVal→AVal)
 |pick (v:AVal) (side:Prop)
 |fork (j:Int) (len:Nat) (side:Option Prop) (f:Nat→AVal)
 |bad
def zp2(j:Int)(f:Nat→AVal)(K:AVal→Prop):Nat→Nat→Prop
 |0,_=>True
 |k+1,c=>(j=(c:Int)→K (f c))∧zp2 j f K k (c+1)
def YR.run(r:YR)(K:AVal→Prop):Prop:=match r with
 |.ok s v=>W8 s (K v)
 |.row es i s f=>∃r,es.getD i []=r∧s∧K (f r)
 |.pick v0 s=>∃v,v0=v∧s∧K v
 |.fork j len s f=>W8 s ((0≤j∧j<(len:Int))∧zp2 j f K len 0)
 |.bad=>False
def YR.runG(p:Bool)(r:YR)(K:AVal→Prop):Prop:=match r with
 |.ok none v=>K (.cnd p v)
 |.ok (some s) v=>(p=true→s)∧K (.cnd p v)
 |.row es i s f=>∃r,(p=true→es.getD i []=r∧s)∧K (.cnd p (f r))
 |.pick v0 s=>∃v,(p=true→v0=v∧s)∧K (.cnd p v)
 |_=>p=false∧K (.tup [])
def YR.and(s:Option Prop):YR→YR
 |.ok t v=>.ok (Y3 s t) v
 |.row es i t f=>match s with
  |none=>.row es i t f
  |some p=>.row es i (p∧t) f
 |.pick v t=>match s with
  |none=>.pick v t
  |some p=>.pick v (p∧t)
 |.fork j len t f=>.fork j len (Y3 s t) f
 |.bad=>.bad
def YR.Of(r:YR)(x:XR):Prop:=match r with
 |.ok s v=>∃side,x=.ok side v∧(we s→side)
 |.row es i s f=>∃side,x=.ok side (f (es.getD i []))∧(s→side)
 |.pick v s=>∃side,x=.ok side v∧(s→side)
 |.fork j len s f=>∃side v,x=.ok side v∧∀c:Nat,c<len→j=(c:Int)→we s→side∧v=f c
 |.bad=>True
theorem YR.Of.and{r:YR}{x:XR}{s:Option Prop}{p:Prop}(h:r.Of x)(hs:we s→p):(r.and s).Of (x.and p):=by
 cases r with
 |bad=>trivial
 |ok t v=>
  obtain⟨side,rfl,h1⟩:=h
  exact⟨_,rfl,fun h=>by rw[xa] at h;exact⟨hs h.1,h1 h.2⟩⟩
 |row es i t f=>
  obtain⟨side,rfl,h1⟩:=h
  cases s with
  |none=>exact⟨_,rfl,fun h=>⟨hs trivial,h1 h⟩⟩
  |some q=>exact⟨_,rfl,fun h=>⟨hs h.1,h1 h.2⟩⟩
 |pick v t=>
  obtain⟨side,rfl,h1⟩:=h
  cases s with
  |none=>exact⟨_,rfl,fun h=>⟨hs trivial,h1 h⟩⟩
  |some q=>exact⟨_,rfl,fun h=>⟨hs h.1,h1 h.2⟩⟩
 |fork j len t f=>
  obtain⟨side,v,rfl,h1⟩:=h
  exact⟨_,v,rfl,fun c hc hj h=>by
   rw[xa] at h
   obtain⟨h2,h3⟩:=h1 c hc hj h.2
   exact⟨⟨hs h.1,h2⟩,h3⟩⟩
theorem z44{j:Int}{f:Nat→AVal}{K:AVal→Prop}:∀ {k c0:Nat},zp2 j f K k c0→∀c,c0≤c→c<c0+k→j=(c:Int)→K (f c)
 |0,c0,_,c,h1,h2,_=>by omega
 |k+1,c0,h,c,h1,h2,h3=>by
  by_cases hc:c=c0
  ·subst hc;exact h.1 h3
  ·exact z44 h.2 c (by omega) (by omega) h3
theorem YR.Of.run{r:YR}{x:XR}(h:r.Of x){K:AVal→Prop}(hk:r.run K):∃side v,x=.ok side v∧side∧K v:=by
 cases r with
 |bad=>exact hk.elim
 |ok t v=>
  obtain⟨side,rfl,h1⟩:=h
  rw[YR.run,x6] at hk
  exact⟨_,_,rfl,h1 hk.1,hk.2⟩
 |row es i t f=>
  obtain⟨side,rfl,h1⟩:=h
  obtain⟨r,rfl,ht,hk⟩:=hk
  exact⟨_,_,rfl,h1 ht,hk⟩
 |pick v t=>
  obtain⟨side,rfl,h1⟩:=h
  obtain⟨r,rfl,ht,hk⟩:=hk
  exact⟨_,_,rfl,h1 ht,hk⟩
 |fork j len t f=>
  obtain⟨side,v,rfl,h1⟩:=h
  rw[YR.run,x6] at hk
  obtain⟨hs,⟨h2,h3⟩,h4⟩:=hk
  obtain⟨c,rfl⟩:=Int.eq_ofNat_of_zero_le h2
  obtain⟨g1,rfl⟩:=h1 c (by omega) rfl hs
  exact⟨_,_,rfl,g1,z44 h4 c (Nat.zero_le _) (by omega) rfl⟩
def zwv(op:BinOp):AVal→AVal→YR
 |.int k a,.int k' b=>match op with
  |.shl=>.ok (some (0≤b)) (.int k (k.wrap (a*2 ^ (min b.toNat k.bits))))
  |.shr=>.ok (some (0≤b)) (.int k (a.fdiv (2 ^ (min b.toNat k.bits))))
  |op=>match zdv k k' with
   |false=>.bad
   |true=>match op with
    |.add=>.ok none (.int k (k.wrap (a+b)))
    |.sub=>.ok none (.int k (k.wrap (a-b)))
    |.mul=>.ok none (.int k (k.wrap (a*b)))
    |.quo=>.ok (some (b≠0)) (.int k (k.wrap (a.tdiv b)))
    |.rem=>.ok (some (b≠0)) (.int k (a.tmod b))
    |.and=>.ok none (.int k (Xz .and k a b))
    |.or=>.ok none (.int k (Xz .or k a b))
    |.xor=>.ok none (.int k (Xz .xor k a b))
    |.andNot=>.ok none (.int k (Xz .andNot k a b))
    |.eql=>.ok none (.bool (a==b))
    |.neq=>.ok none (.bool (a != b))
    |.lss=>.ok none (.bool (decide (a<b)))
    |.leq=>.ok none (.bool (decide (a≤b)))
    |.gtr=>.ok none (.bool (decide (a > b)))
    |.geq=>.ok none (.bool (decide (a≥b)))
    |_=>.bad
 |.str a,.str b=>match op with
  |.add=>.ok (some (((a.length+b.length:Nat):Int)≤9223372036854775807)) (.str (a++b))
  |.eql=>.ok none (.bool (a==b))
  |.neq=>.ok none (.bool (!(a==b)))
  |.lss=>.ok none (.bool (Op.bytesLess a b))
  |.leq=>.ok none (.bool (Op.bytesLess a b || a==b))
  |.gtr=>.ok none (.bool (!(Op.bytesLess a b || a==b)))
  |.geq=>.ok none (.bool (!(Op.bytesLess a b)))
  |_=>.bad
 |_,_=>.bad
theorem zri(op:BinOp)(x y:AVal):(zwv op x y).Of (zi8 op x y):=by
 cases x<;>cases y<;>simp only[zwv,zi8]<;>try trivial
 case int.int k a k' b=>
  cases op<;>simp only<;>(try exact⟨_,rfl,fun h=>h⟩)<;>(cases hk:zdv k k'<;>simp only<;>(try trivial)<;>(have hk:=z2s hk;subst hk)) <;>
   first|exact⟨_,rfl,fun _=>rfl⟩|exact⟨_,rfl,fun h=>⟨rfl,h⟩⟩
 case str.str a b=>
  cases op<;>simp only<;>first|trivial|exact⟨_,rfl,fun _=>trivial⟩|exact⟨_,rfl,fun h=>h⟩
def XR.toY:XR→YR
 |.ok s v=>.ok (some s) v
 |.bad=>.bad
theorem XR.toY_of(x:XR):x.toY.Of x:=by
 cases x with
 |ok s v=>exact⟨s,rfl,fun h=>h⟩
 |bad=>trivial
def XR.toY0:XR→YR
 |.ok _ v=>.ok none v
 |.bad=>.bad
theorem XR.toY0_of{x:XR}(h:∀s v,x=.ok s v→s):x.toY0.Of x:=by
 cases x with
 |ok s v=>exact⟨s,rfl,fun _=>h s v rfl⟩
 |bad=>trivial
def zu8:AVal→AVal→YR:=fun a b=>(zmx a b).toY0
def z3l:AVal→AVal→YR
 |.val (.slice none 0 0),.isl _ es _=>.ok (some (es≠[])) (.bool false)
 |.isl _ es _,.val (.slice none 0 0)=>.ok (some (es≠[])) (.bool false)
 |.val (.slice none 0 0),.msl _ _ _ len _=>.ok (some (len≠0)) (.bool false)
 |.msl _ _ _ len _,.val (.slice none 0 0)=>.ok (some (len≠0)) (.bool false)
 |a,b=>(Wo a b).toY0
theorem z8q(a b:AVal):(z3l a b).Of (Wo a b):=by
 unfold z3l
 split
 ·exact⟨_,rfl,fun h=>h⟩
 ·exact⟨_,rfl,fun h=>h⟩
 ·exact⟨_,rfl,fun h=>h⟩
 ·exact⟨_,rfl,fun h=>h⟩
 ·rename_i h1 h2 h3 h4
  refine XR.toY0_of fun s v h=>?_
  unfold Wo at h
  split at h<;>simp only[XR.ok.injEq,reduceCtorEq] at h<;>(try (obtain⟨rfl,_⟩:=h;trivial))
  ·exact absurd rfl (h3 _ _ _ _ _ rfl)
  ·exact absurd rfl (h4 _ _ _ _ _ · rfl)
  ·exact absurd rfl (h1 _ _ _ rfl)
  ·exact absurd rfl (h2 _ _ _ · rfl)
def ztl(k:EqK)(x y:AVal):YR:=
 match k with
 |.bool=>match x,y with
  |.bool a,.bool b=>.ok none (.bool (a==b))
  |_,_=>.bad
 |.ptr=>zu8 x y
 |.slice=>z3l x.rd y.rd
 |.map=>(Kg x y).toY0
 |.agg ks=>(zeg ks x y).toY0
 |.ifc=>(z6e x y).toY0
 |.fnc=>(z4s x y).toY0
 |_=>.bad
def YR.neg:YR→YR
 |.ok s (.bool b)=>.ok s (.bool (!b))
 |_=>.bad
def yeq(neg:Bool)(k:EqK)(x y:AVal):YR:=match neg with
 |true=>(ztl k x y).neg
 |false=>ztl k x y
theorem zpz(k:EqK)(x y:AVal):(ztl k x y).Of (zf3 k x y):=by
 cases k<;>simp only[ztl,zf3]<;>try trivial
 case bool=>cases x<;>cases y<;>first|trivial|exact⟨_,rfl,fun _=>trivial⟩
 case ptr=>
  refine XR.toY0_of fun s v h=>?_
  unfold zmx at h
  split at h<;>simp only[XR.ok.injEq,reduceCtorEq] at h<;>(obtain⟨rfl,_⟩:=h;trivial)
 case slice=>exact z8q _ _
 case map=>
  refine XR.toY0_of fun s v h=>?_
  unfold Kg at h
  split at h<;>simp only[XR.ok.injEq,reduceCtorEq] at h<;>(obtain⟨rfl,_⟩:=h;trivial)
 case agg ks=>
  refine XR.toY0_of fun s v h=>?_
  unfold zeg at h
  split at h<;>(try split at h)<;>simp only[XR.ok.injEq,reduceCtorEq] at h<;>(obtain⟨rfl,_⟩:=h;trivial)
 case ifc=>
  refine XR.toY0_of fun s v h=>?_
  unfold z6e at h
  split at h<;>simp only[XR.ok.injEq,reduceCtorEq] at h<;>(obtain⟨rfl,_⟩:=h;trivial)
 case fnc=>
  refine XR.toY0_of fun s v h=>?_
  unfold z4s at h
  split at h<;>simp only[XR.ok.injEq,reduceCtorEq] at h<;>(obtain⟨rfl,_⟩:=h;trivial)
theorem zt6(neg:Bool)(k:EqK)(x y:AVal):(yeq neg k x y).Of (xeq neg k x y):=by
 have h:=zpz k x y
 cases neg with
 |false=>simpa[yeq,xeq] using h
 |true=>
  simp only[yeq,xeq,if_true]
  cases hr:ztl k x y with
  |ok s v=>
   rw[hr] at h
   obtain⟨side,hx,hs⟩:=h
   cases v<;>simp only[YR.neg]<;>try trivial
   rw[hx]
   exact⟨side,rfl,hs⟩
  |_=>simp only[YR.neg];trivial
def zph(agg:Bool)(n:Nat)(H:AHeap):AVal→YR
 |.iptr s es i off=>.row es i (i<es.length∧off+n≤s) (yn agg n off)
 |.ptr b i off=>match H.get b with
  |some (.rows s es)=>.row es i (i<es.length∧off+n≤s) (yn agg n off)
  |some (.one cs)=>match i,pF (off+n) cs.length with
   |0,true=>.ok none (yn agg n off cs)
   |_,_=>.bad
  |_=>.bad
 |_=>.bad
theorem zkf(g:Bool)(n:Nat)(H:AHeap)(x:AVal):(zph g n H x).Of (Vx g n H x):=by
 cases x<;>simp only[zph,Vx]<;>try trivial
 case iptr s es i off=>exact⟨_,rfl,fun h=>h⟩
 case ptr b i off=>
  split
  ·rename_i hb
   rw[hb]
   exact⟨_,rfl,fun h=>h⟩
  ·rename_i hb
   rw[hb]
   split
   ·rename_i h
    exact⟨_,rfl,fun _=>⟨rfl,p5 h⟩⟩
   ·trivial
  ·trivial
def zig(agg:Bool)(n off:Nat):AVal→YR
 |.agg cs=>match pF (off+n) cs.length with
  |true=>.ok none (yn agg n off cs)
  |false=>.bad
 |_=>.bad
theorem zgn(g:Bool)(n off:Nat)(x:AVal):(zig g n off x).Of (z0y g n off x):=by
 cases x<;>simp only[zig,z0y]<;>try trivial
 split
 ·rename_i h;exact⟨_,rfl,fun _=>p5 h⟩
 ·trivial
def zfo(s:Nat):AVal→AVal→YR
 |.isl s' es _,.int _ j=>match pA s s' with
  |true=>.ok (some (0≤j∧j<(es.length:Int))) (.iptr s' es j.toNat 0)
  |false=>.bad
 |.msl b s' off len _,.int _ j=>match pA s s' with
  |true=>.ok (some (0≤j∧j<(len:Int))) (.ptr b (off+j.toNat) 0)
  |false=>.bad
 |_,_=>.bad
theorem zex(s:Nat)(x y:AVal):(zfo s x y).Of (Ub s x y):=by
 cases x<;>cases y<;>simp only[zfo,Ub]<;>try trivial
 all_goals
  split
  ·rename_i h;exact⟨_,rfl,fun hh=>⟨p4 h,hh⟩⟩
  ·trivial
def z89(len s:Nat)(H:AHeap):AVal→AVal→YR
 |.ptr b i 0,.int _ j=>match H.get b with
  |some (.rows s' _)=>match pA s s' with
   |true=>.ok (some (0≤j∧j<(len:Int))) (.ptr b (i+j.toNat) 0)
   |false=>.bad
  |_=>.bad
 |_,_=>.bad
theorem zc3(len s:Nat)(H:AHeap)(x y:AVal):(z89 len s H x y).Of (Jg len s H x y):=by
 unfold z89 Jg
 split
 ·split
  ·rename_i hg
   split
   ·rename_i h
    simp only[hg]
    exact⟨_,rfl,fun hh=>⟨p4 h,hh⟩⟩
   ·trivial
  ·trivial
 ·trivial
def z79(len s:Nat)(x:AVal):LOpd→AVal→YR
 |.c (.int _ (.ofNat c)),_=>match pF (c+1) len,x with
  |true,.iptr s' es i o=>.ok none (.iptr s' es i (o+c*s))
  |true,.ptr b i o=>.ok none (.ptr b i (o+c*s))
  |_,_=>.bad
 |_,.int _ j=>match x with
  |.iptr s' es i o=>.fork j len none (fun c=>.iptr s' es i (o+c*s))
  |.ptr b i o=>.fork j len none (fun c=>.ptr b i (o+c*s))
  |_=>.bad
 |_,_=>.bad
theorem zca(len s:Nat)(x:AVal)(e:Env)(i:LOpd):(z79 len s x i (i.ev e)).Of (Uu len s x (i.ev e)):=by
 unfold z79
 split
 ·rename_i k c
  split
  ·rename_i h
   exact⟨_,rfl,fun _=>⟨Int.natCast_nonneg c,by have:=p5 h;simp;omega⟩⟩
  ·rename_i h
   exact⟨_,rfl,fun _=>⟨Int.natCast_nonneg c,by have:=p5 h;simp;omega⟩⟩
  ·trivial
 ·rename_i j _ heq
  rw[heq]
  split
  ·exact⟨_,_,rfl,fun c hc hj _=>⟨by omega,by subst hj;simp⟩⟩
  ·exact⟨_,_,rfl,fun c hc hj _=>⟨by omega,by subst hj;simp⟩⟩
  ·trivial
 ·trivial
def zos(len s:Nat)(agg:Bool)(x:AVal):LOpd→AVal→YR
 |.c (.int _ (.ofNat c)),_=>match x with
  |.agg cs=>match pF (c+1) len&&pF (c*s+s) cs.length with
   |true=>.ok none (yn agg s (c*s) cs)
   |false=>.bad
  |_=>.bad
 |_,.int _ j=>match x with
  |.agg cs=>.pick (yn agg s (j.toNat * s) cs) (0≤j∧j<(len:Int)∧(j.toNat * s)+s≤cs.length)
  |_=>.bad
 |_,_=>.bad
theorem zln(len s:Nat)(g:Bool)(x:AVal)(e:Env)(i:LOpd):(zos len s g x i (i.ev e)).Of (zf6 len s g x (i.ev e)):=by
 unfold zos
 split
 ·split
  ·split
   ·rename_i h
    simp only[p3] at h
    have h1:=p5 h.1
    have h2:=p5 h.2
    rename_i c _ _ _ _
    exact⟨_,rfl,fun _=>⟨Int.natCast_nonneg _,by simp;omega,by simpa using h2⟩⟩
   ·trivial
  ·trivial
 ·rename_i j _ heq
  rw[heq]
  split
  ·exact⟨_,rfl,fun h=>h⟩
  ·trivial
 ·trivial
def zvy(k:Nat):AVal→YR
 |.tup cs=>match pF (k+1) cs.length with
  |true=>.ok none (cs.getD k .any)
  |false=>.bad
 |_=>.bad
theorem zox(k:Nat)(x:AVal):(zvy k x).Of (zrv k x):=by
 cases x<;>simp only[zvy,zrv]<;>try trivial
 split
 ·rename_i h;exact⟨_,rfl,fun _=>p5 h⟩
 ·trivial
def zra(c:Bool):AVal→AVal→Option AVal
 |.bool a,.bool b=>some (.bool (bif c then a else b))
 |.int k a,.int k' b=>match zdv k k' with
  |true=>some (.int k (bif c then a else b))
  |false=>none
 |.str a,.str b=>some (.str (bif c then a else b))
 |_,_=>none
theorem zmm{c:Bool}{a b v:AVal}(h:zra c a b=some v):zpi c a b=v:=by
 cases a<;>cases b<;>simp only[zra] at h<;>try (cases h;done)
 ·simp only[p0] at h;subst h;cases c<;>rfl
 ·split at h<;>try (cases h;done)
  rename_i hk
  have hk:=z2s hk
  subst hk
  simp only[p0] at h
  subst h;cases c<;>rfl
 ·simp only[p0] at h;subst h;cases c<;>rfl
def zl5(c want:Bool):Option Prop→Option Prop
 |none=>none
 |some p=>some (c=want→p)
theorem z4j(c want:Bool)(p:Option Prop):we (zl5 c want p)↔(c=want→we p):=by cases p<;>simp[zl5,we]
def zej(c:Bool)(e:Env):LOpd→LOpd→Option AVal
 |.c (.bool true),b=>match b.ev e with
  |.bool y=>some (.bool (c || y))
  |_=>none
 |a,.c (.bool false)=>match a.ev e with
  |.bool x=>some (.bool (c&&x))
  |_=>none
 |a,b=>zra c (a.ev e) (b.ev e)
theorem zdk{c:Bool}{e:Env}{a b:LOpd}{v:AVal}(h:zej c e a b=some v):zpi c (a.ev e) (b.ev e)=v:=by
 unfold zej at h
 split at h
 ·split at h<;>try (cases h;done)
  rename_i y hy
  simp only[p0] at h
  subst h
  rw[hy]
  cases c<;>rfl
 ·split at h<;>try (cases h;done)
  rename_i x hx
  simp only[p0] at h
  subst h
  rw[hx]
  cases c<;>rfl
 ·exact zmm h
def znp(e:Env)(na nb:Option Prop)(c:AVal)(a b:LOpd):YR:=match c with
 |.bool c=>match zej c e a b with
  |some v=>.ok (Y3 (zl5 c true na) (zl5 c false nb)) v
  |none=>.bad
 |_=>.bad
def z3x(cells:List AVal):List (Nat×Nat×AVal)→YR
 |[]=>.ok none (.agg cells)
 |(off,n,x)::r=>match x.cells? with
  |some cs=>match pA cs.length n&&pF (off+n) cells.length with
   |true=>z3x (jp cells off cs) r
   |false=>.bad
  |none=>.bad
theorem z5n:∀ (parts:List (Nat×Nat×AVal)) (cells:List AVal),(z3x cells parts).Of (Zq cells parts)
 |[],cells=>⟨_,rfl,fun _=>trivial⟩
 |(off,n,x)::r,cells=>by
  simp only[z3x,Zq]
  split
  ·rename_i cs hc
   simp only[hc]
   split
   ·rename_i h
    simp only[p3] at h
    have h1:=p4 h.1
    have h2:=p5 h.2
    have ih:=z5n r (jp cells off cs)
    cases hy:z3x (jp cells off cs) r with
    |ok s v=>
     rw[hy] at ih
     obtain⟨side,hx,hs⟩:=ih
     rw[hx]
     exact⟨_,rfl,fun h=>⟨h1,h2,hs h⟩⟩
    |bad=>trivial
    |row es i s f=>
     rw[hy] at ih
     obtain⟨side,hx,hs⟩:=ih
     rw[hx]
     exact⟨_,rfl,fun h=>⟨h1,h2,hs h⟩⟩
    |pick v s=>
     rw[hy] at ih
     obtain⟨side,hx,hs⟩:=ih
     rw[hx]
     exact⟨_,rfl,fun h=>⟨h1,h2,hs h⟩⟩
    |fork j len s f=>
     rw[hy] at ih
     obtain⟨side,v,hx,hs⟩:=ih
     rw[hx]
     exact⟨_,_,rfl,fun c hc hj h=>⟨⟨h1,h2,(hs c hc hj h).1⟩,(hs c hc hj h).2⟩⟩
   ·trivial
  ·trivial
def zvb(lo hi:Nat→Option Int):AVal→YR:=fun x=>(z1i lo hi x).toY
def XR.toP:XR→YR
 |.ok s v=>.pick v s
 |.bad=>.bad
theorem XR.toP_of(x:XR):x.toP.Of x:=by
 cases x with
 |ok s v=>exact⟨s,rfl,fun h=>h⟩
 |bad=>trivial
def zyi(s:Nat)(lo hi:Nat→Option Int)(mx:Option (Option Int))(keep:Bool):AVal→YR:=fun x=>(zgy s lo hi mx keep x).toP
def zrw(isMax:Bool):AVal→List AVal→YR
 |v,[]=>.ok none v
 |.int k a,.int k' b::r=>match zdv k k' with
  |true=>zrw isMax (.int k (if isMax then(if b > a then b else a) else(if b<a then b else a))) r
  |false=>.bad
 |_,_=>.bad
theorem zhc(m:Bool):∀ (l:List AVal) (v:AVal),(zrw m v l).Of (zg8 m v l)
 |[],v=>by simp only[zrw,zg8];exact⟨_,rfl,fun _=>trivial⟩
 |y::r,v=>by
  cases v<;>cases y<;>try trivial
  rename_i k a k' b
  simp only[zrw,zg8]
  split
  ·rename_i hk
   have hk:=z2s hk
   subst hk
   have ih:=zhc m r (.int k (if m then(if b > a then b else a) else(if b<a then b else a)))
   cases hy:zrw m (.int k (if m then(if b > a then b else a) else(if b<a then b else a))) r with
   |ok s v=>
    rw[hy] at ih
    obtain⟨side,hx,hs⟩:=ih
    rw[hx]
    exact⟨_,rfl,fun h=>⟨rfl,hs h⟩⟩
   |bad=>trivial
   |row es i s f=>
    rw[hy] at ih
    obtain⟨side,hx,hs⟩:=ih
    rw[hx]
    exact⟨_,rfl,fun h=>⟨rfl,hs h⟩⟩
   |pick v s=>
    rw[hy] at ih
    obtain⟨side,hx,hs⟩:=ih
    rw[hx]
    exact⟨_,rfl,fun h=>⟨rfl,hs h⟩⟩
   |fork j len s f=>
    rw[hy] at ih
    obtain⟨side,v,hx,hs⟩:=ih
    rw[hx]
    exact⟨_,_,rfl,fun c hc hj h=>⟨⟨rfl,(hs c hc hj h).1⟩,(hs c hc hj h).2⟩⟩
  ·trivial
def zul(isMax:Bool):List AVal→YR
 |.int k a::r=>zrw isMax (.int k a) r
 |_=>.bad
def zdf(ks:List CK)(ka g ok:Bool)(zs:List AVal)(H:AHeap)(k:AVal):AVal→YR
 |.val (.map none)=>match Qv ks ka k with
  |true=>.ok none (zn9 g ok zs none)
  |false=>.bad
 |.map b=>match H.get b with
  |some (.amap es)=>match Qv ks ka k with
   |true=>.pick (zn9 g ok zs ((z0t ks k es).getD none)) ((z0t ks k es).isSome=true)
   |false=>.bad
  |_=>.bad
 |_=>.bad
theorem zf8(ks:List CK)(ka g ok:Bool)(zs:List AVal)(H:AHeap)(k x:AVal):(zdf ks ka g ok zs H k x).Of (Vk ks ka g ok zs H k x):=by
 unfold zdf Vk
 split
 ·split
  ·rename_i h;rw[if_pos h];exact⟨_,rfl,fun _=>trivial⟩
  ·trivial
 ·split
  ·rename_i hg
   split
   ·rename_i h;simp only[hg];rw[if_pos h];exact⟨_,rfl,fun h=>h⟩
   ·trivial
  ·trivial
 ·trivial
def z0n(e:Env)(H:AHeap):LOp→YR
 |.mv x=>.ok (x.needY e) (x.ev e)
 |.pick c a b=>(znp e (a.needY e) (b.needY e) (c.ev e) a b).and (c.needY e)
 |.build zs parts=>(z3x zs (wb e parts)).and (z5w e parts)
 |.load g n a=>(zph g n H (a.ev e)).and (a.needY e)
 |.nilck x=>(z1s (x.ev e)).toY0.and (x.needY e)
 |.bin op x y=>(zwv op (x.ev e) (y.ev e)).and (Y3 (x.needY e) (y.needY e))
 |.eq neg k x y=>(yeq neg k (x.ev e) (y.ev e)).and (Y3 (x.needY e) (y.needY e))
 |.un op x=>(xun op (x.ev e)).toY0.and (x.needY e)
 |.conv (.int k) x=>match x.ev e with
  |.int _ n=>.ok (x.needY e) (.int k (k.wrap n))
  |_=>.bad
 |.conv .same x=>match x.ev e with
  |.str l=>.ok (x.needY e) (.str l)
  |_=>.bad
 |.mkfn f a c=>.ok (Y3 (Wd e a) (Wd e c)) (.fn f (evs e a) (evs e c))
 |.slStr x lo hi=>(zvb (fun d=>xb e d lo) (fun d=>xb e d hi) (x.ev e)).and (Y3 (x.needY e) (Y3 (z0e e lo) (z0e e hi)))
 |.slSl s x lo hi mx=>(zyi s (fun d=>xb e d lo) (fun d=>xb e d hi) (z0r e mx) (hi.isNone&&mx.isNone) (x.ev e)).and (Y3 (x.needY e) (Y3 (z0e e lo) (Y3 (z0e e hi) (z0e e mx))))
 |.slAr n s x=>(zcp n s H (x.ev e)).toP.and (x.needY e)
 |.faddr off x=>(z1n off (x.ev e)).toY0.and (x.needY e)
 |.field g n off x=>(zig g n off (x.ev e)).and (x.needY e)
 |.iaddr s x i=>(zfo s (x.ev e).rd (i.ev e)).and (Y3 (x.needY e) (i.needY e))
 |.iaddrA n s x i=>(z79 n s (x.ev e) i (i.ev e)).and (Y3 (x.needY e) (i.needY e))
 |.iaddrR n s x i=>(z89 n s H (x.ev e) (i.ev e)).and (Y3 (x.needY e) (i.needY e))
 |.idxS x i=>(zh6 (x.ev e) (i.ev e)).toY.and (Y3 (x.needY e) (i.needY e))
 |.idxA n s g x i=>(zos n s g (x.ev e) i (i.ev e)).and (Y3 (x.needY e) (i.needY e))
 |.ext k x=>(zvy k (x.ev e)).and (x.needY e)
 |.len true x=>(zc5 (x.ev e)).toY0.and (x.needY e)
 |.len false x=>(z6y (x.ev e).rd).toY0.and (x.needY e)
 |.mnx m args=>(zul m (evs e args)).and (Wd e args)
 |.mlook ks ka g ok zs x k=>(zdf ks ka g ok zs H (k.ev e) (x.ev e)).and (Y3 (x.needY e) (k.needY e))
 |.mlen x=>(z8h H (x.ev e)).toY0.and (x.needY e)
 |_=>.bad
theorem Zn(e:Env)(H:AHeap)(op:LOp):(z0n e H op).Of (xh e H op):=by
 have h2:∀ {x y:LOpd},we (Y3 (x.needY e) (y.needY e))→x.need e∧y.need e:=fun h=>by rw[xa,zh,zh] at h;exact h
 cases op<;>simp only[z0n,xh]<;>try trivial
 case mv x=>exact⟨_,rfl,(zh e x).1⟩
 case pick c a b=>
  refine YR.Of.and ?_ (zh e c).1
  unfold znp zlq
  split
  ·rename_i cc hcc
   simp only[hcc]
   split
   ·rename_i v hv
    rw[zdk hv]
    refine⟨_,rfl,fun h=>?_⟩
    rw[xa,z4j,z4j,zh,zh] at h
    exact h
   ·trivial
  ·trivial
 case build zs parts=>exact(z5n _ _).and (z22 e parts).1
 case load g n a=>exact(zkf _ _ _ _).and (zh e a).1
 case nilck x=>
  refine YR.Of.and (XR.toY0_of fun s v h=>?_) (zh e x).1
  unfold z1s at h
  split at h<;>simp only[XR.ok.injEq,reduceCtorEq] at h<;>(obtain⟨rfl,_⟩:=h;trivial)
 case bin op x y=>exact(zri _ _ _).and h2
 case eq neg k x y=>exact(zt6 _ _ _ _).and h2
 case mlook ks ka g ok zs x k=>exact(zf8 _ _ _ _ _ _ _ _).and h2
 case mlen x=>
  refine YR.Of.and (XR.toY0_of fun s v h=>?_) (zh e x).1
  unfold z8h at h
  split at h<;>(try split at h)<;>simp only[XR.ok.injEq,reduceCtorEq] at h<;>(obtain⟨rfl,_⟩:=h;trivial)
 case un op x=>
  refine YR.Of.and (XR.toY0_of fun s v h=>?_) (zh e x).1
  unfold xun at h
  split at h<;>(try split at h)<;>simp only[XR.ok.injEq,reduceCtorEq] at h<;>(obtain⟨rfl,_⟩:=h;trivial)
 case conv k x=>
  cases k<;>simp only<;>try trivial
  ·split
   ·rename_i h;simp only[h];exact⟨_,rfl,(zh e x).1⟩
   ·trivial
  ·split
   ·rename_i h;simp only[h];exact⟨_,rfl,(zh e x).1⟩
   ·trivial
 case mkfn f a c=>exact⟨_,rfl,fun h=>by rw[xa,uz,uz] at h;exact h⟩
 case slStr x lo hi=>exact(XR.toY_of _).and (fun h=>by rw[xa,xa,zh,Y4,Y4] at h;exact h)
 case slSl s x lo hi mx=>exact(XR.toP_of _).and (fun h=>by rw[xa,xa,xa,zh,Y4,Y4,Y4] at h;exact h)
 case slAr k s x=>exact(XR.toP_of _).and (zh e x).1
 case faddr off x=>
  refine YR.Of.and (XR.toY0_of fun s v h=>?_) (zh e x).1
  unfold z1n at h
  split at h<;>simp only[XR.ok.injEq,reduceCtorEq] at h<;>(obtain⟨rfl,_⟩:=h;trivial)
 case field g n off x=>exact(zgn _ _ _ _).and (zh e x).1
 case iaddr s x i=>exact(zex _ _ _).and h2
 case iaddrA n s x i=>exact(zca _ _ _ _ _).and h2
 case iaddrR n s x i=>exact(zc3 _ _ _ _ _).and h2
 case idxS x i=>exact(XR.toY_of _).and h2
 case idxA n s g x i=>exact(zln _ _ _ _ _ _).and h2
 case ext k x=>exact(zox _ _).and (zh e x).1
 case len st x=>
  cases st with
  |true=>
   refine YR.Of.and (XR.toY0_of fun s v h=>?_) (zh e x).1
   unfold zc5 at h
   split at h<;>simp only[XR.ok.injEq,reduceCtorEq] at h<;>(obtain⟨rfl,_⟩:=h;trivial)
  |false=>
   refine YR.Of.and (XR.toY0_of fun s v h=>?_) (zh e x).1
   unfold z6y at h
   split at h<;>simp only[XR.ok.injEq,reduceCtorEq] at h<;>(obtain⟨rfl,_⟩:=h;trivial)
 case mnx m args=>
  refine YR.Of.and ?_ (uz e args).1
  unfold zul zeo
  split
  ·rename_i h;simp only[h];exact zhc _ _ _
  ·trivial
end Go.Fx
namespace Go.Fx
variable {P:Program}
def zg2(H:AHeap)(s:Nat):AVal→Option (Option Prop×List (List AVal))
 |.isl s' es _=>match pA s' s with
  |true=>some (none,es)
  |false=>none
 |.osl _ s' es=>match pA s' s with
  |true=>some (none,es)
  |false=>none
 |.msl b s' off len _=>match H.get b with
  |some (.rows s'' es)=>match pA s' s&&pA s'' s with
   |true=>some (some (off+len≤es.length),(es.drop off).take len)
   |false=>none
  |_=>none
 |.val (.slice none 0 0)=>some (none,[])
 |.str l=>match pA s 1 with
  |true=>some (none,l.map fun c=>[.int .u8 (c.toNat:Int)])
  |false=>none
 |_=>none
theorem z2v{H:AHeap}{s:Nat}{x:AVal}{so:Option Prop}{rows:List (List AVal)}(h:zg2 H s x=some (so,rows)):∃p,ui H s x=some (p,rows)∧(we so→p):=by
 unfold zg2 at h
 unfold ui
 split at h
 ·split at h<;>simp only[p0,pE,reduceCtorEq] at h
  rename_i hb
  obtain⟨rfl,rfl⟩:=h
  exact⟨_,rfl,fun _=>p4 hb⟩
 ·split at h<;>simp only[p0,pE,reduceCtorEq] at h
  rename_i hb
  obtain⟨rfl,rfl⟩:=h
  exact⟨_,rfl,fun _=>p4 hb⟩
 ·split at h<;>try (cases h;done)
  rename_i hg
  split at h<;>simp only[p0,pE,reduceCtorEq] at h
  rename_i hb
  obtain⟨rfl,rfl⟩:=h
  simp only[p3] at hb
  simp only[hg]
  exact⟨_,rfl,fun hh=>⟨p4 hb.1,p4 hb.2,hh⟩⟩
 ·simp only[p0,pE] at h
  obtain⟨rfl,rfl⟩:=h
  exact⟨_,rfl,fun _=>trivial⟩
 ·split at h<;>simp only[p0,pE,reduceCtorEq] at h
  rename_i hb
  obtain⟨rfl,rfl⟩:=h
  exact⟨_,rfl,fun _=>p4 hb⟩
 ·cases h
def Ku:List (List AVal)→List (Nat×AVal)→Option (List (List AVal))
 |rows,[]=>some rows
 |rows,(i,x)::r=>match x.cells? with
  |some cs=>match pA cs.length ((rows.getD i []).length)&&pF (i+1) rows.length with
   |true=>Ku (rows.set i cs) r
   |false=>none
  |none=>none
theorem z1z:∀ {parts:List (Nat×AVal)} {rows rs:List (List AVal)},Ku rows parts=some rs→∃p,X8 rows parts=some (p,rs)∧p
 |[],rows,rs,h=>by simp only[Ku,p0] at h;subst h;exact⟨True,rfl,trivial⟩
 |(i,x)::r,rows,rs,h=>by
  simp only[Ku] at h
  split at h<;>try (cases h;done)
  rename_i cs hc
  split at h<;>try (cases h;done)
  rename_i hb
  simp only[p3] at hb
  obtain⟨p,h1,h2⟩:=z1z h
  simp only[X8,hc,h1]
  exact⟨_,rfl,p4 hb.1,p5 hb.2,h2⟩
def zmw(s bytes:Nat)(H:AHeap)(n:Nat)(K:AVal→AHeap→Nat→Prop)(x:AVal)(rows2:List (List AVal)):Prop:=
 match x with
 |.val (.slice none 0 0)=>∃es',rows2=es'∧es'.length*bytes≤140737488355328∧K (.osl (n,0) s es') (((n,0),.tok)::H) (n+1)
 |.isl s' es f=>match pA s' s with
  |true=>∃es',es++rows2=es'∧(f=true∧es'.length*bytes≤140737488355328)∧K (.osl (n,0) s es') (((n,0),.tok)::H) (n+1)
  |false=>False
 |.osl tok s' es=>match pA s' s,H.get tok with
  |true,some .tok=>∃es',es++rows2=es'∧es'.length*bytes≤140737488355328∧K (.osl (n,0) s es') (((n,0),.tok)::H.del tok) (n+1)
  |_,_=>False
 |_=>False
theorem z9t{s bytes:Nat}{H:AHeap}{n:Nat}{K K':AVal→AHeap→Nat→Prop}{x:AVal}{rows2:List (List AVal)}(h:zmw s bytes H n K x rows2)(hk:∀r H n,K r H n→K' r H n):z4z s bytes H n K' x rows2:=by
 unfold zmw at h
 unfold z4z
 split at h
 ·obtain⟨es',rfl,h1,h2⟩:=h
  exact⟨h1,hk _ _ _ h2⟩
 ·split at h<;>try (exact h.elim)
  rename_i hb
  obtain⟨es',rfl,⟨h0,h1⟩,h2⟩:=h
  exact⟨p4 hb,h0,by simpa using h1,hk _ _ _ h2⟩
 ·split at h<;>try (exact h.elim)
  rename_i hb hg
  obtain⟨es',rfl,h1,h2⟩:=h
  exact⟨p4 hb,hg,by simpa using h1,hk _ _ _ h2⟩
 ·exact h.elim
def zww(s bytes:Nat)(H:AHeap)(n:Nat)(K:AVal→AHeap→Nat→Prop)(x:AVal)(rows2:List (List AVal)):Prop:=
 match x with
 |.val (.slice none 0 0)=>rows2≠[]∧∃es',rows2=es'∧es'.length*bytes≤140737488355328∧K (.msl (n,0) s 0 es'.length false) (((n,0),.rows s es')::H) (n+1)
 |.isl s' es f=>match pA s' s with
  |true=>rows2≠[]∧∃es',es++rows2=es'∧(f=true∧es'.length*bytes≤140737488355328)∧K (.msl (n,0) s 0 es'.length false) (((n,0),.rows s es')::H) (n+1)
  |false=>False
 |.msl b s' off len f=>match H.get b with
  |some (.rows s'' es)=>match pA s' s&&pA s'' s with
   |true=>(f=true→rows2≠[])∧off+len≤es.length∧∃es',(es.drop off).take len++rows2=es'∧es'.length*bytes≤140737488355328 ∧
    K (.msl (n,0) s 0 es'.length false) (((n,0),.rows s es')::(match f with|true=>H|false=>H.del b)) (n+1)
   |false=>False
  |_=>False
 |_=>False
theorem zoh{s bytes:Nat}{H:AHeap}{n:Nat}{K K':AVal→AHeap→Nat→Prop}{x:AVal}{rows2:List (List AVal)}(h:zww s bytes H n K x rows2)(hk:∀r H n,K r H n→K' r H n):zjn s bytes H n K' x rows2:=by
 unfold zww at h
 unfold zjn
 split at h
 ·obtain⟨h0,es',rfl,h1,h2⟩:=h
  exact⟨fun h=>absurd h h0,fun _=>⟨h1,hk _ _ _ h2⟩⟩
 ·split at h<;>try (exact h.elim)
  rename_i hb
  obtain⟨hne,es',rfl,⟨h0,h1⟩,h2⟩:=h
  exact⟨p4 hb,fun h=>absurd h hne,fun _=>⟨h0,by simpa using h1,by simpa using hk _ _ _ h2⟩⟩
 ·split at h<;>try (exact h.elim)
  rename_i hg
  split at h<;>try (exact h.elim)
  rename_i hb
  simp only[p3] at hb
  obtain⟨hne,hl,es',rfl,h1,h2⟩:=h
  simp only[hg]
  rename_i off len f _ _ es _
  have e:((es.drop off).take len).length=len:=List.length_take_of_le (by simp only[List.length_drop];omega)
  refine⟨p4 hb.1,p4 hb.2,hl,fun hf h=>absurd h (hne hf),fun _=>?_⟩
  rw[List.length_append,e] at h1 h2
  refine⟨h1,hk _ _ _ ?_⟩
  cases f<;>simpa using h2
 ·exact h.elim
def zs1(P:Program)(e:Env)(H:AHeap)(n:Nat)(K:AVal→AHeap→Nat→Prop):LOp→Prop
 |.alloc zs=>K (.ptr (n,0) 0 0) (((n,0),.one zs)::H) (n+1)
 |.allocB T el=>K (.ptr (n,0) 0 0) (((n,0),.bld T (n,1))::((n,1),.buf el [])::H) (n+1)
 |.allocR s zs=>∃es',Qx s (zs.length / s) zs=es'∧K (.ptr (n,0) 0 0) (((n,0),.rows s es')::H) (n+1)
 |.box x=>match (x.ev e).cells? with
  |some cs=>W8 (x.needY e) (K (.ptr (n,0) 0 0) (((n,0),.one cs)::H) (n+1))
  |none=>False
 |.mkSl vm s zs len parts=>match Ku (List.replicate len zs) (evI e parts),pA zs.length s with
  |some rows,true=>match vm with
   |true=>match wq rows with
    |some rows'=>W8 (z1g e parts) (K (.isl s (rows'.map (xz zs)) true) H n)
    |none=>False
   |false=>W8 (z1g e parts) (K (.msl (n,0) s 0 len true) (((n,0),.rows s (rows.map (xz zs)))::H) (n+1))
  |_,_=>False
 |.store m a x=>match a.ev e,(x.ev e).cells? with
  |.ptr b i off,some cs=>match H.get b with
   |some (.rows s es)=>W8 (Y3 (a.needY e) (x.needY e)) (∃es',es.set i (jp (es.getD i []) off cs)=es'∧(cs.length=m∧i<es.length∧off+m≤s)∧K .any (H.set b (.rows s es')) n)
   |some (.one rs)=>match i,pA cs.length m&&pF (off+m) rs.length with
    |0,true=>W8 (Y3 (a.needY e) (x.needY e)) (K .any (H.set b (.one (jp rs off cs))) n)
    |_,_=>False
   |_=>False
  |_,_=>False
 |.conv (.s2b vm) x=>match x.ev e with
  |.str l=>match vm with
   |true=>W8 (x.needY e) (∃es',(l.map fun c=>[AVal.int .u8 (c.toNat:Int)])=es'∧K (.isl 1 es' false) H n)
   |false=>W8 (x.needY e) (K (.msl (n,0) 1 0 l.length false) (((n,0),.rows 1 (l.map fun c=>[.int .u8 (c.toNat:Int)]))::H) (n+1))
  |_=>False
 |.conv .b2s x=>match x.ev e,zg2 H 1 (x.ev e) with
  |.str _,_=>False
  |_,some (so,rows)=>W8 (Y3 (x.needY e) so) (∃l:List UInt8,rows.map Wt=l∧(∀r∈rows,∃m,r=[.int .u8 m])∧K (.str l) H n)
  |_,none=>False
 |.mkslice vm s bytes zs l c=>match l.ev e,c.ev e with
  |.int .i64 l',.int .i64 c'=>match vm with
   |true=>W8 (Y3 (l.needY e) (c.needY e)) ((l'=0∧l'≤c'∧c'*bytes≤140737488355328)∧K (.osl (n,0) s []) (((n,0),.tok)::H) (n+1))
   |false=>W8 (Y3 (l.needY e) (c.needY e)) (∃es' fl,(List.replicate l'.toNat (xz zs zs)=es'∨List.replicate l'.toNat zs=es')∧decide (c'=l')=fl∧(0≤l'∧l'≤c'∧c'*bytes≤140737488355328)∧K (.msl (n,0) s 0 es'.length fl) (((n,0),.rows s es')::H) (n+1))
  |_,_=>False
 |.call f args=>W8 (Wd e args) (ACalls P f (evs e args) H n K)
 |.callv x args=>match x.ev e with
  |.fn f first caps=>W8 (Y3 (x.needY e) (Wd e args)) (ACallsC P f first (evs e args) caps H n K)
  |_=>False
 |.app vm s bytes x y=>match zg2 H s (y.ev e) with
  |some (so,rows2)=>match vm with
   |true=>match y.ev e with
    |.msl _ _ _ _ _=>W8 (Y3 (x.needY e) (Y3 (y.needY e) so)) (∃rows2',wq rows2=some rows2'∧zmw s bytes H n K (x.ev e) rows2')
    |_=>W8 (Y3 (x.needY e) (Y3 (y.needY e) so)) (zmw s bytes H n K (x.ev e) rows2)
   |false=>W8 (Y3 (x.needY e) (Y3 (y.needY e) so)) (zww s bytes H n K (x.ev e) rows2)
  |none=>False
 |.copy s x y=>match x.ev e,zg2 H s (y.ev e) with
  |.msl b s' off len _,some (so,rows2)=>match H.get b with
   |some (.rows s'' es)=>match pA s' s&&pA s'' s with
    |true=>W8 (Y3 (x.needY e) (Y3 (y.needY e) so)) (∃es',es.take off++rows2.take len++es.drop (off+min rows2.length len)=es'∧off+len≤es.length ∧
     K (.int .i64 ((min rows2.length len:Nat):Int)) (H.set b (.rows s es')) n)
    |false=>False
   |_=>False
  |_,_=>False
 |.mkmap none=>K (.map (n,0)) (((n,0),.amap [])::H) (n+1)
 |.mset ks ka g zs m k x=>match m.ev e,zru g zs (x.ev e) with
  |.map b,some y=>match H.get b,Qv ks ka (k.ev e) with
   |some (.amap es),true=>W8 (Y3 (m.needY e) (Y3 (k.needY e) (x.needY e))) (∃es',zkv ks (k.ev e) y es=some es'∧K .any (H.set b (.amap es')) n)
   |_,_=>False
  |_,_=>False
 |.mdel ks ka m k=>match m.ev e with
  |.map b=>match H.get b,Qv ks ka (k.ev e) with
   |some (.amap es),true=>W8 (Y3 (m.needY e) (k.needY e)) (∃es',z30 ks (k.ev e) es=some es'∧K .any (H.set b (.amap es')) n)
   |_,_=>False
  |_=>False
 |.range x=>match x.ev e with
  |.map b=>match H.get b with
   |some (.amap es)=>W8 (x.needY e) (∀ (arr:Array MapEntry) (ck:Nat),K (.ptr (n,0) 0 0) (((n,0),.itr (some b) arr ck [])::H.set b (.rmap es arr ck)) (n+1))
   |_=>False
  |.val (.map none)=>W8 (x.needY e) (K (.ptr (n,0) 0 0) (((n,0),.itr none #[] 0 [])::H) (n+1))
  |_=>False
 |.next x=>match x.ev e with
  |.ptr i 0 0=>match H.get i with
   |some (.itr none _ _ _)=>W8 (x.needY e) (K (.tup [.bool false]) H n)
   |some (.itr (some b) arr ck seen)=>match H.get b with
    |some (.rmap es arr' ck')=>W8 (x.needY e) ((arr'=arr∧ck'=ck)∧((∀j,j<es.length→j∈seen)→K (.tup [.bool false]) H n) ∧
     (∀j,j<es.length→j∉seen→K (.tup [.bool true,.any,.any]) (H.set i (.itr (some b) arr ck (j::seen))) n))
    |_=>False
   |_=>False
  |_=>False
 |.entry x=>match x.ev e with
  |.ptr i 0 0=>match H.get i with
   |some (.itr (some b) arr ck (j::seen))=>match H.get b with
    |some (.rmap es arr' ck')=>W8 (x.needY e) ((arr'=arr∧ck'=ck)∧∃p,es[j]?=some p∧K (.tup [p.1,p.2]) H n)
    |_=>False
   |_=>False
  |_=>False
 |_=>False
theorem z2u{e:Env}{H:AHeap}{n:Nat}{K K':AVal→AHeap→Nat→Prop}{op:LOp}(h:zs1 P e H n K op)(hk:∀r H n,K r H n→K' r H n):wh P e H n K' op:=by
 have h2:∀ {x y:LOpd},we (Y3 (x.needY e) (y.needY e))→x.need e∧y.need e:=fun h=>by rw[xa,zh,zh] at h;exact h
 cases op<;>simp only[zs1] at h<;>try (exact h.elim)
 case alloc zs=>exact hk _ _ _ h
 case allocR s zs=>obtain⟨es',rfl,h⟩:=h;exact hk _ _ _ h
 case allocB T el=>exact hk _ _ _ h
 case box x=>
  simp only[wh]
  split at h<;>try (exact h.elim)
  rename_i cs hc
  rw[x6,zh] at h
  simp only[hc]
  exact⟨h.1,hk _ _ _ h.2⟩
 case mkSl vm s zs len parts=>
  simp only[wh]
  split at h<;>try (exact h.elim)
  rename_i rows hr hb
  obtain⟨p,h1,h1'⟩:=z1z hr
  have hb:=p4 hb
  simp only[h1]
  cases vm with
  |true=>
   simp only at h ⊢
   split at h<;>try (exact h.elim)
   rename_i rows' hi
   rw[x6,Vc] at h
   simp only[hi]
   exact⟨hb,h.1,h1',hk _ _ _ h.2⟩
  |false=>
   simp only at h ⊢
   rw[x6,Vc] at h
   exact⟨hb,h.1,h1',_,.inl rfl,hk _ _ _ h.2⟩
 case store m a x=>
  simp only[wh]
  split at h<;>try (exact h.elim)
  rename_i b i off cs ha hc
  simp only[ha,hc]
  split at h
  ·rename_i s es hg
   simp only[hg]
   rw[x6] at h
   obtain⟨hn,es',rfl,⟨k1,k2,k3⟩,k4⟩:=h
   exact⟨(h2 hn).1,(h2 hn).2,k1,k2,k3,hk _ _ _ k4⟩
  ·rename_i rs hg
   simp only[hg]
   split at h<;>try (exact h.elim)
   rename_i hb
   simp only[p3] at hb
   rw[x6] at h
   exact⟨(h2 h.1).1,(h2 h.1).2,p4 hb.1,rfl,p5 hb.2,hk _ _ _ h.2⟩
  ·exact h.elim
 case conv k x=>
  cases k<;>simp only at h<;>try (exact h.elim)
  case s2b vm=>
   simp only[wh]
   split at h<;>try (exact h.elim)
   rename_i l hl
   simp only[hl]
   cases vm with
   |false=>simp only at h ⊢;rw[x6,zh] at h;exact⟨h.1,hk _ _ _ h.2⟩
   |true=>
    simp only at h ⊢
    rw[x6,zh] at h
    obtain⟨h1,es',rfl,h2⟩:=h
    exact⟨h1,hk _ _ _ h2⟩
  case b2s=>
   simp only[wh]
   split at h<;>try (exact h.elim)
   rename_i so rows hr hns
   obtain⟨p,h1,h1'⟩:=z2v hr
   simp only[h1]
   rw[x6,xa,zh] at h
   obtain⟨⟨k1,k2⟩,l,rfl,k4,k3⟩:=h
   exact⟨k1,fun l' hl'=>hns l' hl',h1' k2,k4,hk _ _ _ k3⟩
 case mkslice vm s bytes zs l c=>
  simp only[wh]
  split at h<;>try (exact h.elim)
  rename_i l' c' hl hc
  simp only[hl,hc]
  cases vm with
  |true=>
   simp only at h ⊢
   rw[x6] at h
   obtain⟨hn,⟨k1,k2,k3⟩,k4⟩:=h
   exact⟨(h2 hn).1,(h2 hn).2,k1,k2,k3,hk _ _ _ k4⟩
  |false=>
   simp only at h ⊢
   rw[x6] at h
   obtain⟨hn,es',fl,hes,rfl,⟨k1,k2,k3⟩,k4⟩:=h
   have hlen:es'.length=l'.toNat:=by rcases hes with rfl|rfl<;>simp
   rw[hlen] at k4
   exact⟨(h2 hn).1,(h2 hn).2,k1,k2,k3,es',hes.imp Eq.symm Eq.symm,hk _ _ _ k4⟩
 case mkmap r=>
  cases r with
  |none=>exact hk _ _ _ h
  |some x=>exact h.elim
 case range x=>
  simp only[wh]
  split at h
  ·rename_i b hx
   simp only[hx]
   split at h<;>try (exact h.elim)
   rename_i es hg
   simp only[hg]
   rw[x6,zh] at h
   exact⟨h.1,fun arr ck=>hk _ _ _ (h.2 arr ck)⟩
  ·rename_i hx
   simp only[hx]
   rw[x6,zh] at h
   exact⟨h.1,hk _ _ _ h.2⟩
  ·exact h.elim
 case next x=>
  simp only[wh]
  split at h<;>try (exact h.elim)
  rename_i i hx
  simp only[hx]
  split at h
  ·rename_i hg
   simp only[hg]
   rw[x6,zh] at h
   exact⟨h.1,hk _ _ _ h.2⟩
  ·rename_i hg
   simp only[hg]
   split at h<;>try (exact h.elim)
   rename_i hb
   simp only[hb]
   rw[x6,zh] at h
   obtain⟨h1,⟨h2,h3⟩,h4,h5⟩:=h
   exact⟨h1,h2,h3,fun q=>hk _ _ _ (h4 q),fun j q1 q2=>hk _ _ _ (h5 j q1 q2)⟩
  ·exact h.elim
 case entry x=>
  simp only[wh]
  split at h<;>try (exact h.elim)
  rename_i i hx
  simp only[hx]
  split at h<;>try (exact h.elim)
  rename_i hg
  simp only[hg]
  split at h<;>try (exact h.elim)
  rename_i hb
  simp only[hb]
  rw[x6,zh] at h
  obtain⟨h1,⟨h2,h3⟩,p,h4,h5⟩:=h
  exact⟨h1,h2,h3,p,h4,hk _ _ _ h5⟩
 case mset ks ka g zs m k x=>
  simp only[wh]
  split at h<;>try (exact h.elim)
  rename_i b y hm hy
  simp only[hm,hy]
  split at h<;>try (exact h.elim)
  rename_i es hg hok
  simp only[hg]
  rw[x6,xa,xa,zh,zh,zh] at h
  obtain⟨⟨h1,h2',h3⟩,es',h4,h5⟩:=h
  simp only[h4]
  exact⟨h1,h2',h3,hok,hk _ _ _ h5⟩
 case mdel ks ka m k=>
  simp only[wh]
  split at h<;>try (exact h.elim)
  rename_i b hm
  simp only[hm]
  split at h<;>try (exact h.elim)
  rename_i es hg hok
  simp only[hg]
  rw[x6,xa,zh,zh] at h
  obtain⟨⟨h1,h2'⟩,es',h4,h5⟩:=h
  simp only[h4]
  exact⟨h1,h2',hok,hk _ _ _ h5⟩
 case call f args=>
  rw[x6,uz] at h
  exact⟨h.1,h.2.mono hk⟩
 case callv x args=>
  simp only[wh]
  split at h<;>try (exact h.elim)
  rename_i f first caps hx
  rw[x6,xa,zh,uz] at h
  simp only[hx]
  exact⟨h.1.1,h.1.2,h.2.mono hk⟩
 case app vm s bytes x y=>
  simp only[wh]
  split at h<;>try (exact h.elim)
  rename_i so rows2 hr
  obtain⟨p,h1,h1'⟩:=z2v hr
  simp only[h1]
  cases vm with
  |true=>
   simp only at h ⊢
   split at h
   ·rename_i hy
    rw[x6,xa,xa,zh,zh] at h
    obtain⟨⟨k1,k2,k3⟩,rows2',k4,k5⟩:=h
    have:Vs (y.ev e) rows2=some rows2':=by rw[hy];exact k4
    simp only[this]
    exact⟨k1,k2,h1' k3,z9t k5 hk⟩
   ·rename_i hy
    rw[x6,xa,xa,zh,zh] at h
    obtain⟨⟨k1,k2,k3⟩,k5⟩:=h
    have:Vs (y.ev e) rows2=some rows2:=by
     unfold Vs
     split
     ·rename_i h;exact absurd h (hy _ _ _ _ _)
     ·rfl
    simp only[this]
    exact⟨k1,k2,h1' k3,z9t k5 hk⟩
  |false=>
   simp only at h ⊢
   rw[x6,xa,xa,zh,zh] at h
   obtain⟨⟨k1,k2,k3⟩,k5⟩:=h
   exact⟨k1,k2,h1' k3,zoh k5 hk⟩
 case copy s x y=>
  simp only[wh]
  split at h<;>try (exact h.elim)
  rename_i b s' off len f so rows2 hx hr
  obtain⟨p,h1,h1'⟩:=z2v hr
  simp only[hx,h1]
  split at h<;>try (exact h.elim)
  rename_i s'' es hg
  simp only[hg]
  split at h<;>try (exact h.elim)
  rename_i hb
  simp only[p3] at hb
  rw[x6,xa,xa,zh,zh] at h
  obtain⟨⟨k1,k2,k3⟩,es',rfl,k4,k5⟩:=h
  exact⟨k1,k2,h1' k3,p4 hb.1,p4 hb.2,k4,hk _ _ _ k5⟩
def zjo(P:Program):List LOper→(Env→AHeap→Nat→Prop)→Env→AHeap→Nat→Prop
 |[],R,e,H,n=>R e H n
 |⟨d,op,none⟩::os,R,e,H,n=>match xy op with
  |true=>(z0n e H op).run (fun v=>zjo P os R (e.put d v) H n)
  |false=>zs1 P e H n (fun r H' n'=>zjo P os R (e.put d r) H' n') op
 |⟨d,op,some (g,want)⟩::os,R,e,H,n=>match kc (e.get g) want with
  |some p=>match xy op with
   |true=>(z0n e H op).runG p (fun v=>zjo P os R (e.put d v) H n)
   |false=>Vf p H n (fun K=>zs1 P e H n K op) (fun r H' n'=>zjo P os R (e.put d r) H' n')
  |none=>False
theorem z00{p:Bool}{H:AHeap}{n:Nat}{E E':(AVal→AHeap→Nat→Prop)→Prop}{K K':AVal→AHeap→Nat→Prop}(h:Vf p H n E K)(hE:∀ {K K':AVal→AHeap→Nat→Prop},E K→(∀r H n,K r H n→K' r H n)→E' K')(hk:∀r H n,K r H n→K' r H n):Vf p H n E' K':=by
 rcases h with⟨R,h1,h2⟩|⟨h1,h2⟩
 ·exact .inl ⟨R,fun hp=>hE (h1 hp) (fun _ _ _ h=>h),hk _ _ _ h2⟩
 ·exact .inr ⟨fun hp=>hE (h1 hp) hk,fun hp=>by obtain⟨u,h3,h4⟩:=h2 hp;exact⟨u,h3,hk _ _ _ h4⟩⟩
def zxr(x:XR)(p:Bool)(K:AVal→Prop):Prop:=match x with
 |.ok side v=>(∃u,(p=true→side∧v=u)∧K (.cnd p u))∨(p=false∧K (.tup []))
 |.bad=>p=false∧K (.tup [])
theorem Wv{r:YR}{x:XR}(h:r.Of x){p:Bool}{K:AVal→Prop}(hk:r.runG p K):zxr x p K:=by
 have other:(p=false∧K (.tup []))→zxr x p K:=fun h'=>by
  cases x with
  |ok s v=>exact .inr h'
  |bad=>exact h'
 cases r with
 |ok s v=>
  obtain⟨side,rfl,hs⟩:=h
  cases s with
  |none=>exact .inl ⟨v,fun _=>⟨hs trivial,rfl⟩,hk⟩
  |some q=>exact .inl ⟨v,fun hp=>⟨hs (hk.1 hp),rfl⟩,hk.2⟩
 |row es i s f=>
  obtain⟨side,rfl,hs⟩:=h
  obtain⟨r,h1,h2⟩:=hk
  refine .inl ⟨f r,fun hp=>?_,h2⟩
  obtain⟨rfl,h3⟩:=h1 hp
  exact⟨hs h3,rfl⟩
 |pick v0 s=>
  obtain⟨side,rfl,hs⟩:=h
  obtain⟨v,h1,h2⟩:=hk
  refine .inl ⟨v,fun hp=>?_,h2⟩
  obtain⟨rfl,h3⟩:=h1 hp
  exact⟨hs h3,rfl⟩
 |fork j len s f=>exact other hk
 |bad=>exact other hk
theorem X6{R:Env→AHeap→Nat→Prop}:∀ (os:List LOper) {e:Env} {H:AHeap} {n:Nat},zjo P os R e H n→X3 P os R e H n
 |[],e,H,n,h=>h
 |⟨d,op,none⟩::os,e,H,n,h=>by
  simp only[zjo] at h
  simp only[X3]
  split at h
  ·rename_i hp
   obtain⟨side,v,h1,h2,h3⟩:=(Zn e H op).run h
   simp only[hp,h1]
   exact⟨h2,X6 os h3⟩
  ·rename_i hp
   simp only[hp]
   exact z2u h (fun r H' n' h=>X6 os h)
 |⟨d,op,some (g,want)⟩::os,e,H,n,h=>by
  simp only[zjo] at h
  simp only[X3]
  split at h<;>try (exact h.elim)
  rename_i p hg
  simp only[hg]
  split at h
  ·rename_i hp
   simp only[hp]
   have:=Wv (Zn e H op) h
   cases hx:xh e H op with
   |ok side v=>
    rw[hx] at this
    rcases this with⟨u,h1,h2⟩|⟨h1,h2⟩
    ·exact .inl ⟨u,h1,X6 os h2⟩
    ·exact .inr ⟨h1,X6 os h2⟩
   |bad=>
    rw[hx] at this
    exact⟨this.1,X6 os this.2⟩
  ·rename_i hp
   simp only[hp]
   exact z00 h (fun h hk=>z2u h hk) (fun r H' n' h=>X6 os h)
def yqs:List LOper→(Env→AHeap→Nat→Prop)→Env→AHeap→Nat→Prop
 |[],R,e,H,n=>R e H n
 |⟨d,op,none⟩::os,R,e,H,n=>(z0n e H op).run (fun v=>yqs os R (e.put d v) H n)
 |⟨d,op,some (g,want)⟩::os,R,e,H,n=>match kc (e.get g) want with
  |some p=>(z0n e H op).runG p (fun v=>yqs os R (e.put d v) H n)
  |none=>False
theorem z3r{R:Env→AHeap→Nat→Prop}:∀ (os:List LOper) {e:Env} {H:AHeap} {n:Nat},yqs os R e H n→xqs os R e H n
 |[],e,H,n,h=>h
 |⟨d,op,none⟩::os,e,H,n,h=>by
  simp only[yqs] at h
  simp only[xqs]
  obtain⟨side,v,h1,h2,h3⟩:=(Zn e H op).run h
  simp only[h1]
  exact⟨h2,z3r os h3⟩
 |⟨d,op,some (g,want)⟩::os,e,H,n,h=>by
  simp only[yqs] at h
  simp only[xqs]
  split at h<;>try (exact h.elim)
  rename_i p hg
  simp only[hg]
  have:=Wv (Zn e H op) h
  cases hx:xh e H op with
  |ok side v=>
   rw[hx] at this
   rcases this with⟨u,h1,h2⟩|⟨h1,h2⟩
   ·exact .inl ⟨u,h1,z3r os h2⟩
   ·exact .inr ⟨h1,z3r os h2⟩
  |bad=>
   rw[hx] at this
   exact⟨this.1,z3r os this.2⟩
def zrn(e:Env)(H:AHeap)(lo:LOper)(K:AVal→Prop):Prop:=
 match lo.guard with
 |none=>(z0n e H lo.op).run K
 |some (g,want)=>match kc (e.get g) want with
  |some p=>(z0n e H lo.op).runG p K
  |none=>False
theorem zk2{e:Env}{H:AHeap}{lo:LOper}{K:AVal→Prop}(h:zrn e H lo K):∃v,(Yh e H lo).gives v∧K v:=by
 unfold zrn at h
 unfold Yh
 split at h
 ·rename_i hg
  simp only[hg]
  obtain⟨side,v,h1,h2,h3⟩:=(Zn _ _ _).run h
  rw[h1]
  exact⟨v,⟨h2,.inl rfl⟩,h3⟩
 ·rename_i g want hgu
  simp only[hgu]
  split at h<;>try (exact h.elim)
  rename_i p hg
  simp only[hg]
  have:=Wv (Zn e H lo.op) h
  cases hx:xh e H lo.op with
  |ok side v=>
   rw[hx] at this
   rcases this with⟨u,h1,h2⟩|⟨h1,h2⟩
   ·exact⟨.cnd p u,⟨fun hp=>(h1 hp).1,.inr (.inr ⟨p,v,u,rfl,rfl,fun hp=>(h1 hp).2⟩)⟩,h2⟩
   ·subst h1
    exact⟨.tup [],⟨(fun hp=>by cases hp),.inr (.inl ⟨.inr ⟨v,rfl⟩,.inl rfl⟩)⟩,h2⟩
  |bad=>
   rw[hx] at this
   exact⟨.tup [],⟨this.1,.inl rfl⟩,this.2⟩
def YR.gives(r:YR)(v:AVal):Prop:=match r with
 |.ok s u=>W8 s (u=v)
 |.row es i s f=>s∧f (es.getD i [])=v
 |.pick u s=>s∧u=v
 |_=>False
theorem YR.Of.gives{r:YR}{x:XR}(h:r.Of x){v:AVal}(hg:r.gives v):∃side,x=.ok side v∧side:=by
 cases r with
 |ok s u=>
  obtain⟨side,rfl,hs⟩:=h
  rw[YR.gives,x6] at hg
  obtain⟨h1,rfl⟩:=hg
  exact⟨side,rfl,hs h1⟩
 |row es i s f=>
  obtain⟨side,rfl,hs⟩:=h
  obtain⟨h1,rfl⟩:=hg
  exact⟨side,rfl,hs h1⟩
 |pick u s=>
  obtain⟨side,rfl,hs⟩:=h
  obtain⟨h1,rfl⟩:=hg
  exact⟨side,rfl,hs h1⟩
 |fork j len s f=>exact hg.elim
 |bad=>exact hg.elim
def z87(e:Env)(H:AHeap)(lo:LOper)(v:AVal):Prop:=
 match lo.guard with
 |none=>(z0n e H lo.op).gives v
 |some (g,want)=>match kc (e.get g) want,v with
  |some p,.cnd q u=>q=p∧(p=true→(z0n e H lo.op).gives u)
  |_,_=>False
theorem zbu{e:Env}{H:AHeap}{lo:LOper}{v:AVal}(h:z87 e H lo v):(Yh e H lo).gives v:=by
 unfold z87 at h
 unfold Yh
 split at h
 ·rename_i hg
  simp only[hg]
  obtain⟨side,h1,h2⟩:=(Zn _ _ _).gives h
  rw[h1]
  exact⟨h2,.inl rfl⟩
 ·rename_i g want hgu
  simp only[hgu]
  split at h<;>try (exact h.elim)
  rename_i p q u hg
  simp only[hg]
  obtain⟨rfl,h⟩:=h
  cases q with
  |true=>
   obtain⟨side,h1,h2⟩:=(Zn _ _ _).gives (h rfl)
   rw[h1]
   exact⟨fun _=>h2,.inl rfl⟩
  |false=>
   cases xh e H lo.op with
   |ok side x=>exact⟨(fun hp=>by cases hp),.inr (.inl ⟨.inr ⟨x,rfl⟩,.inr ⟨u,rfl⟩⟩)⟩
   |bad=>exact⟨rfl,.inr (.inl ⟨.inl rfl,.inr ⟨u,rfl⟩⟩)⟩
def z5i(loose:List Nat)(H:AHeap)(q:Prop):List (Nat×LOper×Env×AVal)→Prop
 |[]=>q
 |x::r=>match loose.contains x.1 with
  |true=>z87 x.2.2.1 H x.2.1 x.2.2.2∧z5i loose H q r
  |false=>z5i loose H q r
theorem Uf{loose:List Nat}{H:AHeap}{q:Prop}:∀ {done:List (Nat×LOper×Env×AVal)},z5i loose H q done→(∀x∈done,x.1∈loose→(Yh x.2.2.1 H x.2.1).gives x.2.2.2)∧q
 |[],h=>⟨fun x hx=>absurd hx (List.not_mem_nil),h⟩
 |y::r,h=>by
  unfold z5i at h
  split at h
  ·obtain⟨h1,h2⟩:=h
   obtain⟨h3,h4⟩:=Uf h2
   refine⟨fun x hx hl=>?_,h4⟩
   rcases pH.1 hx with rfl|hx
   ·exact zbu h1
   ·exact h3 x hx hl
  ·rename_i hc
   obtain⟨h3,h4⟩:=Uf h
   refine⟨fun x hx hl=>?_,h4⟩
   rcases pH.1 hx with rfl|hx
   ·rw[List.contains_iff_mem.2 hl] at hc;cases hc
   ·exact h3 x hx hl
def zrl(P:Program)(e:Env)(H:AHeap)(n:Nat)(K:AVal→AHeap→Nat→Prop)(lo:LOper):Prop:=
 match lo.guard with
 |none=>zs1 P e H n K lo.op
 |some (g,want)=>match kc (e.get g) want with
  |some p=>Vf p H n (fun K=>zs1 P e H n K lo.op) K
  |none=>False
theorem zlw{e:Env}{H:AHeap}{n:Nat}{K K':AVal→AHeap→Nat→Prop}{lo:LOper}(h:zrl P e H n K lo)(hk:∀r H n,K r H n→K' r H n):Vv P e H n K' lo:=by
 unfold zrl at h
 unfold Vv
 split at h
 ·rename_i hg;simp only[hg];exact z2u h hk
 ·rename_i g want hg
  simp only[hg]
  split at h
  ·rename_i p hp;simp only[hp];exact z00 h (fun h hk=>z2u h hk) hk
  ·exact h.elim
def zu1(b:Bool)(x:Nat×LOper×Env×AVal)(done:List (Nat×LOper×Env×AVal)):List (Nat×LOper×Env×AVal):=match b with
 |true=>x::done
 |false=>done
def yd(P:Program):List DItem→Nat→List (Nat×LOper×Env×AVal)→(Env→AHeap→Nat→Prop)→Env→AHeap→Nat→Prop
 |[],_,_,R,e,H,n=>R e H n
 |it::rest,p,done,R,e,H,n=>
  match xy it.lo.op with
  |true=>zrn (it.lo.sees e) H it.lo (fun v=>yd P rest (p+1) (zu1 (kw it.lo.op) (p,it.lo,it.lo.sees e,v) done) R (e.put it.lo.dst v) H n)
  |false=>zrl P (it.lo.sees e) H n (fun v H' n'=>z5i it.loose H' (yd P rest (p+1) done R (e.put it.lo.dst v) H' n') done) it.lo
theorem zjr{R:Env→AHeap→Nat→Prop}:∀ (items:List DItem) {p:Nat} {done:List (Nat×LOper×Env×AVal)} {e:Env} {H:AHeap} {n:Nat},yd P items p done R e H n→xd P items p done R e H n
 |[],p,done,e,H,n,h=>h
 |it::rest,p,done,e,H,n,h=>by
  unfold yd at h
  unfold xd
  split at h
  ·rename_i hp
   obtain⟨v,h2,h3⟩:=zk2 h
   simp only[hp]
   refine⟨v,h2,zjr rest ?_⟩
   cases hl:kw it.lo.op<;>rw[hl] at h3<;>simpa[zu1] using h3
  ·rename_i hp
   simp only[hp]
   exact zlw h (fun r H' n' hh=>by
    obtain⟨h1,h2⟩:=Uf hh
    exact⟨h1,zjr rest h2⟩)
def z7s(P:Program)(N:Lay)(n0:Nat):LCode→(Exit→Env→AHeap→Nat→Prop)→Env→AHeap→Nat→Prop
 |.skip,Q,e,H,n=>Q .normal e H n
 |.region ops,Q,e,H,n=>zjo P ops (Q .normal) e H n
 |.quiet ops,Q,e,H,n=>yqs ops (Q .normal) e H n
 |.draw items,Q,e,H,n=>yd P items 0 [] (Q .normal) e H n
 |.draw2 a b items,Q,e,H,n=>yd P items 0 [] (fun e H n=>z6i (a.ev e) (b.ev e)∧Q .normal e H n) e H n
 |.seq a b,Q,e,H,n=>z7s P N n0 a (fun ex e H n=>match ex with|.normal=>z7s P N n0 b Q e H n|ex=>Q ex e H n) e H n
 |.cond c a b,Q,e,H,n=>match c.ev e with
  |.bool v=>W8 (c.needY e) ((v=true→z7s P N n0 a Q e H n)∧(v=false→z7s P N n0 b Q e H n))
  |_=>False
 |.block id c,Q,e,H,n=>z7s P N n0 c (fun ex e H n=>match ex with|.exit i=>(match pA i id with|true=>Q .normal e H n|false=>Q (.exit i) e H n)|ex=>Q ex e H n) e H n
 |.loop c,Q,e,H,n=>LWp P N n0 (.loop c) Q e H n
 |.rng g ps a b,Q,e,H,n=>LWp P N n0 (.rng g ps a b) Q e H n
 |.dfr f t,Q,e,H,n=>z88 P f∧Q .normal (e.put (some t) .any) H n
 |.exit id,Q,e,H,n=>Q (.exit id) e H n
 |.ret,Q,e,H,n=>Q .ret e H n
theorem Yn{N:Lay}{n0:Nat}{a b:LCode}{Q:Exit→Env→AHeap→Nat→Prop}{e:Env}{H:AHeap}{n:Nat}(h:LWp P N n0 a (fun ex e H n=>match ex with|.normal=>LWp P N n0 b Q e H n|ex=>Q ex e H n) e H n):LWp P N n0 (.seq a b) Q e H n:=by
 intro c hc ro hro I0 β0 H0 w0 I β w aa hX hI hE hN hD QQ hQ
 cases c with
 |seq x y=>
  simp only[zj] at hc
  split at hc<;>try (cases hc;done)
  rename_i x' y' hx hy
  simp only[p0,LCode.seq.injEq] at hc
  obtain⟨rfl,rfl⟩:=hc
  refine wpIn_seq (h x hx ro hro I0 β0 H0 w0 I β w aa hX hI hE hN hD _ ?_)
  intro ex e' H' n' I' β' w' a' g1 g2 g3 g4 g5 g6
  cases ex with
  |normal=>exact g1 y hy ro hro I0 β0 H0 w0 I' β' w' a' g6 g2 g3 g4 g5 QQ hQ
  |_=>exact hQ _ _ _ _ _ _ _ _ g1 g2 g3 g4 g5 g6
 |skip=>simp[zj] at hc
 |region id ops draw=>simp only[zj] at hc;split at hc<;>(try split at hc)<;>(try split at hc)<;>(try split at hc)<;>(try split at hc)<;>(first|(simp at hc;done)|(rcases wo hc with⟨_,h⟩|⟨_,_,_,h⟩<;>cases h))
 |cond c a b=>simp only[zj] at hc;split at hc<;>simp at hc
 |block id c=>simp[zj] at hc
 |loop c=>simp[zj] at hc
 |exit id=>simp[zj] at hc
 |ret=>simp[zj] at hc
 |rangeFunc g ps x y=>simp only[zj] at hc;split at hc<;>simp at hc
 |_=>cases hc
theorem Y0{N:Lay}{n0 id:Nat}{a:LCode}{Q:Exit→Env→AHeap→Nat→Prop}{e:Env}{H:AHeap}{n:Nat}(h:LWp P N n0 a (fun ex e H n=>match ex with|.exit i=>if i=id then Q .normal e H n else Q (.exit i) e H n|ex=>Q ex e H n) e H n):LWp P N n0 (.block id a) Q e H n:=by
 intro c hc ro hro I0 β0 H0 w0 I β w aa hX hI hE hN hD QQ hQ
 cases c with
 |block id' x=>
  simp only[zj,pL] at hc
  obtain⟨x',hx,hc⟩:=hc
  simp only[LCode.block.injEq] at hc
  obtain⟨rfl,rfl⟩:=hc
  refine wpIn_block (h x hx ro hro I0 β0 H0 w0 I β w aa hX hI hE hN hD _ ?_)
  intro ex e' H' n' I' β' w' a' g1 g2 g3 g4 g5 g6
  cases ex with
  |exit i=>
   simp only at g1
   simp only[Exit.inBlock]
   split at g1
   ·rename_i hi;rw[if_pos hi];exact hQ _ _ _ _ _ _ _ _ g1 g2 g3 g4 g5 g6
   ·rename_i hi;rw[if_neg hi];exact hQ _ _ _ _ _ _ _ _ g1 g2 g3 g4 g5 g6
  |_=>exact hQ _ _ _ _ _ _ _ _ g1 g2 g3 g4 g5 g6
 |skip=>simp[zj] at hc
 |region id ops draw=>simp only[zj] at hc;split at hc<;>(try split at hc)<;>(try split at hc)<;>(try split at hc)<;>(try split at hc)<;>(first|(simp at hc;done)|(rcases wo hc with⟨_,h⟩|⟨_,_,_,h⟩<;>cases h))
 |seq a b=>simp only[zj] at hc;split at hc<;>simp at hc
 |cond c a b=>simp only[zj] at hc;split at hc<;>simp at hc
 |loop c=>simp[zj] at hc
 |exit id=>simp[zj] at hc
 |ret=>simp[zj] at hc
 |rangeFunc g ps x y=>simp only[zj] at hc;split at hc<;>simp at hc
 |_=>cases hc
theorem Zo{N:Lay}{n0:Nat}{c:LOpd}{a b:LCode}{v:Bool}{Q:Exit→Env→AHeap→Nat→Prop}{e:Env}{H:AHeap}{n:Nat}(hv:c.ev e=.bool v)(hn:c.need e)(h1:v=true→LWp P N n0 a Q e H n)(h2:v=false→LWp P N n0 b Q e H n):LWp P N n0 (.cond c a b) Q e H n:=by
 intro cc hc ro hro I0 β0 H0 w0 I β w aa hX hI hE hN hD QQ hQ
 cases cc with
 |cond cx x y=>
  simp only[zj] at hc
  split at hc<;>try (cases hc;done)
  rename_i c' x' y' hcx hx hy
  simp only[p0,LCode.cond.injEq] at hc
  obtain⟨rfl,rfl,rfl⟩:=hc
  have hr:=zu hE hcx hn
  rw[hv] at hr
  exact wpIn_cond_split hr.bool_inv (fun hv=>h1 hv x hx ro hro I0 β0 H0 w0 I β w aa hX hI hE hN hD QQ hQ) (fun hv=>h2 hv y hy ro hro I0 β0 H0 w0 I β w aa hX hI hE hN hD QQ hQ)
 |skip=>simp[zj] at hc
 |region id ops draw=>simp only[zj] at hc;split at hc<;>(try split at hc)<;>(try split at hc)<;>(try split at hc)<;>(try split at hc)<;>(first|(simp at hc;done)|(rcases wo hc with⟨_,h⟩|⟨_,_,_,h⟩<;>cases h))
 |seq a b=>simp only[zj] at hc;split at hc<;>simp at hc
 |block id c=>simp[zj] at hc
 |loop c=>simp[zj] at hc
 |exit id=>simp[zj] at hc
 |ret=>simp[zj] at hc
 |rangeFunc g ps x y=>simp only[zj] at hc;split at hc<;>simp at hc
 |_=>cases hc
theorem kx{N:Lay}{n0:Nat}:∀ (lc:LCode) {Q:Exit→Env→AHeap→Nat→Prop} {e:Env} {H:AHeap} {n:Nat},z7s P N n0 lc Q e H n→LWp P N n0 lc Q e H n
 |.skip,Q,e,H,n,h=>y9 .skip Q e H n h
 |.region ops,Q,e,H,n,h=>y9 (.region ops) Q e H n (X6 ops h)
 |.quiet ops,Q,e,H,n,h=>y9 (.quiet ops) Q e H n (z3r ops h)
 |.draw items,Q,e,H,n,h=>y9 (.draw items) Q e H n (zjr items h)
 |.draw2 a b items,Q,e,H,n,h=>y9 (.draw2 a b items) Q e H n (zjr items h)
 |.seq a b,Q,e,H,n,h=>by
  refine Yn ((kx a h).mono fun ex e H n hx=>?_)
  cases ex with
  |normal=>exact kx b hx
  |_=>exact hx
 |.cond c a b,Q,e,H,n,h=>by
  unfold z7s at h
  split at h<;>try (exact h.elim)
  rename_i v hv
  rw[x6,zh] at h
  exact Zo hv h.1 (fun hh=>kx a (h.2.1 hh)) (fun hh=>kx b (h.2.2 hh))
 |.block id c,Q,e,H,n,h=>by
  refine Y0 ((kx c h).mono fun ex e H n hx=>?_)
  cases ex with
  |exit i=>
   simp only at hx ⊢
   split at hx
   ·rename_i hi;rw[if_pos (p4 hi)];exact hx
   ·rename_i hi;rw[if_neg (Nat.ne_of_beq_eq_false hi)];exact hx
  |_=>exact hx
 |.loop c,Q,e,H,n,h=>h
 |.rng g ps a b,Q,e,H,n,h=>h
 |.dfr f t,Q,e,H,n,h=>y9 (.dfr f t) Q e H n h
 |.exit id,Q,e,H,n,h=>y9 (.exit id) Q e H n h
 |.ret,Q,e,H,n,h=>y9 .ret Q e H n h
end Go.Fx
namespace Go.Fx
variable {P:Program} {N:Lay} {n0:Nat}
def Sim(n0:Nat)(e':Env)(H':AHeap)(n':Nat)(e:Env)(L:AHeap)(n:Nat):Prop:=
 ∀ (I0:Nat→Nat→Prop) (β0:Id→Option CLoc) (H0:AHeap) (w0:World) (I:Nat→Nat→Prop) (β:Id→Option CLoc) (w:World) (a:Act),Ext I0 β0 n0 H0 w0 I β n' H' w→Inv I β n' H' w→RepEnv I β n' w e' a →
  ∃I2 β2,Ext I0 β0 n0 H0 w0 I2 β2 n L w∧Inv I2 β2 n L w∧RepEnv I2 β2 n w e a
theorem Sim.of{n n':Nat}{e e':Env}{H' L:AHeap}(h:zxt n0 n e' H' e L):Sim n0 e' H' n' e L n:=by
 intro I0 β0 H0 w0 I β w a hX hI hE
 obtain⟨F,ρ,hρ,hEnv,hHeap⟩:=h
 obtain⟨k1,k2⟩:=z9v hX hI hρ hHeap
 exact⟨_,_,k1,k2,fun t=>Vn hI hρ (hEnv.get t) (hE t)⟩
theorem Sim.trans{n n' n'':Nat}{e e' e'':Env}{H H' H'':AHeap}(a:Sim n0 e'' H'' n'' e' H' n')(b:Sim n0 e' H' n' e H n):Sim n0 e'' H'' n'' e H n:=by
 intro I0 β0 H0 w0 I β w ac hX hI hE
 obtain⟨I2,β2,h1,h2,h3⟩:=a I0 β0 H0 w0 I β w ac hX hI hE
 exact b I0 β0 H0 w0 I2 β2 w ac h1 h2 h3
theorem LWp.sim{n n':Nat}{lc:LCode}{Q:Exit→Env→AHeap→Nat→Prop}{H' L:AHeap}{e e':Env}(hs:Sim n0 e' H' n' e L n)(h:LWp P N n0 lc Q e L n):LWp P N n0 lc Q e' H' n':=by
 intro c hc ro hro J0 γ0 G0 w0 I β w a hX hI hE hN hD QQ hQ
 obtain⟨I2,β2,k1,k2,k3⟩:=hs J0 γ0 G0 w0 I β w a hX hI hE
 exact h c hc ro hro J0 γ0 G0 w0 I2 β2 w a k1 k2 k3 hN hD QQ hQ
def Qh(P:Program)(N:Lay)(n0:Nat)(b:LCode)(Q:Exit→Env→AHeap→Nat→Prop):Exit→Env→AHeap→Nat→Prop:=fun ex e H n=>match ex with
 |.normal=>LWp P N n0 b Q e H n
 |ex=>Q ex e H n
def j4(id:Nat)(Q:Exit→Env→AHeap→Nat→Prop):Exit→Env→AHeap→Nat→Prop:=fun ex e H n=>match ex with
 |.exit i=>(match pA i id with|true=>Q .normal e H n|false=>Q (.exit i) e H n)
 |ex=>Q ex e H n
theorem zl{a b:LCode}{Q:Exit→Env→AHeap→Nat→Prop}{e:Env}{H:AHeap}{n:Nat}(h:LWp P N n0 a (Qh P N n0 b Q) e H n):LWp P N n0 (.seq a b) Q e H n:=
 Yn (h.mono fun ex e H n hx=>by cases ex<;>exact hx)
theorem ja{id:Nat}{a:LCode}{Q:Exit→Env→AHeap→Nat→Prop}{e:Env}{H:AHeap}{n:Nat}(h:LWp P N n0 a (j4 id Q) e H n):LWp P N n0 (.block id a) Q e H n:=
 Y0 (h.mono fun ex e H n hx=>by
  cases ex with
  |exit i=>
   simp only[j4] at hx
   simp only
   split at hx
   ·rename_i hi;rw[if_pos (p4 hi)];exact hx
   ·rename_i hi;rw[if_neg (Nat.ne_of_beq_eq_false hi)];exact hx
  |_=>exact hx)
theorem j0{c:LOpd}{a b:LCode}{v:Bool}{Q:Exit→Env→AHeap→Nat→Prop}{e:Env}{H:AHeap}{n:Nat}(hv:c.ev e=.bool v)(hn:c.need e)(h1:v=true→LWp P N n0 a Q e H n)(h2:v=false→LWp P N n0 b Q e H n):LWp P N n0 (.cond c a b) Q e H n:=Zo hv hn h1 h2
theorem jw{Q:Exit→Env→AHeap→Nat→Prop}{e:Env}{H:AHeap}{n:Nat}(h:Q .normal e H n):LWp P N n0 .skip Q e H n:=kx .skip h
theorem vl{Q:Exit→Env→AHeap→Nat→Prop}{e:Env}{H:AHeap}{n:Nat}(h:Q .ret e H n):LWp P N n0 .ret Q e H n:=kx .ret h
theorem Xn{i:Nat}{Q:Exit→Env→AHeap→Nat→Prop}{e:Env}{H:AHeap}{n:Nat}(h:Q (.exit i) e H n):LWp P N n0 (.exit i) Q e H n:=kx (.exit i) h
theorem y5{ops:List LOper}{Q:Exit→Env→AHeap→Nat→Prop}{e:Env}{H:AHeap}{n:Nat}(h:zjo P ops (Q .normal) e H n):LWp P N n0 (.region ops) Q e H n:=kx (.region ops) h
theorem zhh{ops:List LOper}{Q:Exit→Env→AHeap→Nat→Prop}{e:Env}{H:AHeap}{n:Nat}(h:yqs ops (Q .normal) e H n):LWp P N n0 (.quiet ops) Q e H n:=kx (.quiet ops) h
theorem zq6{items:List DItem}{Q:Exit→Env→AHeap→Nat→Prop}{e:Env}{H:AHeap}{n:Nat}(h:yd P items 0 [] (Q .normal) e H n):LWp P N n0 (.draw items) Q e H n:=kx (.draw items) h
def J6{σ ρ:Type}(b:σ→Option (σ ⊕ ρ)):Nat→σ→Option ρ
 |0,_=>none
 |m+1,s=>match b s with
  |none=>none
  |some (.inl s')=>J6 b m s'
  |some (.inr r)=>some r
theorem Wq{σ ρ:Type}{b:σ→Option (σ ⊕ ρ)}:∀ {m k:Nat} {s:σ} {r:ρ},m≤k→J6 b m s=some r→J6 b k s=some r
 |0,_,_,_,_,h=>by cases h
 |m+1,0,_,_,hk,_=>by omega
 |m+1,k+1,s,r,hk,h=>by
  unfold J6 at h ⊢
  split at h
  ·cases h
  ·exact Wq (by omega) h
  ·exact h
noncomputable def z7i{σ ρ:Type}(b:σ→Option (σ ⊕ ρ))(s:σ):Option ρ:=by
 classical
 exact if h:∃m r,J6 b m s=some r then some (pO (pJ h)) else none
theorem Zx{σ ρ:Type}{b:σ→Option (σ ⊕ ρ)}{s:σ}{r:ρ}:z7i b s=some r↔∃m,J6 b m s=some r:=by
 unfold z7i
 constructor
 ·intro h
  split at h
  ·rename_i hex
   simp only[p0] at h
   exact⟨_,by rw[←h];exact pJ (pJ hex)⟩
  ·cases h
 ·rintro⟨m,hm⟩
  have hex:∃m r,J6 b m s=some r:=⟨m,r,hm⟩
  rw[dif_pos hex]
  have h2:=pJ (pJ hex)
  have h3:=Wq (Nat.le_max_left m (pO hex)) hm
  have h4:=Wq (Nat.le_max_right m (pO hex)) h2
  rw[h3] at h4
  rw[h4]
theorem zlz{σ ρ:Type}(b:σ→Option (σ ⊕ ρ))(s:σ):z7i b s=match b s with
 |none=>none
 |some (.inl s')=>z7i b s'
 |some (.inr r)=>some r:=by
 apply Option.ext
 intro r
 cases hb:b s with
 |none=>
  simp only[reduceCtorEq,iff_false]
  rw[Zx]
  rintro⟨m,hm⟩
  cases m with
  |zero=>cases hm
  |succ m=>simp[J6,hb] at hm
 |some x=>
  cases x with
  |inl s'=>
   simp only
   rw[Zx,Zx]
   constructor
   ·rintro⟨m,hm⟩
    cases m with
    |zero=>cases hm
    |succ m=>exact⟨m,by simpa[J6,hb] using hm⟩
   ·rintro⟨m,hm⟩
    exact⟨m+1,by simpa[J6,hb] using hm⟩
  |inr r'=>
   simp only[p0]
   rw[Zx]
   constructor
   ·rintro⟨m,hm⟩
    cases m with
    |zero=>cases hm
    |succ m=>simpa[J6,hb] using hm
   ·intro h
    exact⟨1,by simp[J6,hb,h]⟩
def Zg{σ ρ:Type}(n0 nL:Nat)(env:σ→Env)(hp:σ→AHeap)(QX:ρ→Exit→Env→AHeap→Nat→Prop):σ ⊕ ρ→Exit→Env→AHeap→Nat→Prop
 |.inl s,ex,e,H,n=>ex=.normal∧Sim n0 e H n (env s) (hp s) nL
 |.inr r,ex,e,H,n=>ex≠.normal∧QX r ex e H n
theorem zic{σ ρ:Type}{c:LCode}{nL:Nat}(body:σ→Option (σ ⊕ ρ))(env:σ→Env)(hp:σ→AHeap)(QX:ρ→Exit→Env→AHeap→Nat→Prop)
 (h:∀s o,body s=some o→LWp P N n0 c (Zg n0 nL env hp QX o) (env s) (hp s) nL) {s:σ} {r:ρ} (hr:z7i body s=some r):LWp P N n0 (.loop c) (QX r) (env s) (hp s) nL:=by
 obtain⟨m0,hm0⟩:=Zx.1 hr
 intro cc hc ro hro J0 γ0 G0 w0 I β w a hX hI hE hN hD QQ hQ
 cases cc with
 |loop c'=>
  simp only[zj,pL] at hc
  obtain⟨b',hb,hc⟩:=hc
  simp only[LCode.loop.injEq] at hc
  subst hc
  let Inside:Nat→Act→World→Prop:=fun m a w=>∃s I β,J6 body m s=some r∧Ext J0 γ0 n0 G0 w0 I β nL (hp s) w∧Inv I β nL (hp s) w∧RepEnv I β nL w (env s) a∧a.tmps.size=N.n∧Dfr P w0.heap.size w a.defers
  let mu:Act→World→Nat:=fun a w=>by
   classical
   exact if h:∃m,Inside m a w then pO (ke _ h) else 0
  have mu_spec:∀a w,(∃m,Inside m a w)→Inside (mu a w) a w∧∀k,k<mu a w→¬Inside k a w:=by
   intro a w h
   have:mu a w=pO (ke _ h):=by simp only[mu];rw[dif_pos h]
   rw[this]
   exact pJ (ke _ h)
  refine wpIn_loop (fun a w=>∃m,Inside m a w) mu ⟨m0,s,I,β,hm0,hX,hI,hE,hN,hD⟩ ?_
  intro a w hin
  obtain⟨⟨s,I,β,hm,k1,k2,k3,k4,k5⟩,_⟩:=mu_spec a w hin
  cases hmu:mu a w with
  |zero=>rw[hmu] at hm;cases hm
  |succ m=>
   rw[hmu] at hm
   unfold J6 at hm
   cases hbs:body s with
   |none=>rw[hbs] at hm;cases hm
   |some o=>
    rw[hbs] at hm
    refine h s o hbs c' hb ro hro J0 γ0 G0 w0 I β w a k1 k2 k3 k4 k5 _ ?_
    intro ex e' H' n' I' β' w' a' g1 g2 g3 g4 g5 g6
    cases o with
    |inl s'=>
     obtain⟨rfl,hsim⟩:=g1
     obtain⟨I2,β2,q1,q2,q3⟩:=hsim J0 γ0 G0 w0 I' β' w' a' g6 g2 g3
     have hin':Inside m a' w':=⟨s',I2,β2,hm,q1,q2,q3,g4,g5⟩
     refine⟨⟨_,hin'⟩,?_⟩
     obtain⟨_,hleast⟩:=mu_spec a' w' ⟨_,hin'⟩
     have:¬m<mu a' w':=fun h=>hleast _ h hin'
     omega
    |inr r'=>
     obtain⟨hne,hq⟩:=g1
     simp only[p0] at hm
     subst hm
     cases ex with
     |normal=>exact absurd rfl hne
     |_=>exact hQ _ _ _ _ _ _ _ _ hq g2 g3 g4 g5 g6
 |skip=>cases hc
 |region id ops draw=>simp only[zj] at hc;split at hc<;>(try split at hc)<;>(try split at hc)<;>(try split at hc)<;>(try split at hc)<;>(first|(simp at hc;done)|(rcases wo hc with⟨_,h⟩|⟨_,_,_,h⟩<;>cases h))
 |seq a b=>simp only[zj] at hc;split at hc<;>simp at hc
 |cond c a b=>simp only[zj] at hc;split at hc<;>simp at hc
 |block id c=>simp[zj] at hc
 |exit id=>cases hc
 |ret=>cases hc
 |rangeFunc g ps x y=>simp only[zj] at hc;split at hc<;>simp at hc
 |_=>cases hc
noncomputable def Zf{σ ρ:Type}(m:Option Nat)(b:σ→Option (σ ⊕ ρ))(s:σ):Option ρ:=match m with
 |none=>z7i b s
 |some k=>J6 b k s
theorem zqj{σ ρ:Type}{m:Option Nat}{b:σ→Option (σ ⊕ ρ)}{s:σ}{r:ρ}(h:Zf m b s=some r):z7i b s=some r:=by
 cases m with
 |none=>exact h
 |some k=>exact Zx.2 ⟨k,h⟩
theorem ji{σ ρ:Type}{c:LCode}{nL:Nat}{m:Option Nat}(body:σ→Option (σ ⊕ ρ))(env:σ→Env)(hp:σ→AHeap)(QX:ρ→Exit→Env→AHeap→Nat→Prop)
 (h:∀s o,body s=some o→LWp P N n0 c (Zg n0 nL env hp QX o) (env s) (hp s) nL) {s:σ} {r:ρ} (hr:Zf m body s=some r):LWp P N n0 (.loop c) (QX r) (env s) (hp s) nL:=zic body env hp QX h (zqj hr)
def z65:List (Id×Id)→Id→Option Id
 |[],_=>none
 |(a,b)::r,i=>if a=i then some b else z65 r i
theorem vz:∀ {M:List (Id×Id)} {i k:Id},z65 M i=some k→(i,k)∈M
 |[],i,k,h=>by cases h
 |(a,b)::r,i,k,h=>by
  unfold z65 at h
  split at h
  ·rename_i hab
   simp only[p0] at h
   subst hab;subst h
   exact List.mem_cons_self ..
  ·exact List.mem_cons_of_mem _ (vz h)
def rho(n0:Nat)(M:List (Id×Id))(id:Id):Option Id:=match z65 M id with
 |some k=>some k
 |none=>if id.1<n0∧¬(M.map (·.2)).contains id=true then some id else none
def Jp(n0 n:Nat)(H:AHeap)(M:List (Id×Id)):Bool:=
 pF n0 n&&M.all (fun x=>pF n0 x.1.1&&pF (x.1.1+1) n&&(pF n0 x.2.1 || (H.get x.2).isSome))&&(M.map (·.2)).Nodup
theorem Qu{M:List (Id×Id)}{i j k:Id}(h:(M.map (·.2)).Nodup)(h1:(i,k)∈M)(h2:(j,k)∈M):i=j:=by
 induction M with
 |nil=>cases h1
 |cons x r ih=>
  simp only[pI,List.nodup_cons] at h
  rcases pH.1 h1 with e1|h1<;>rcases pH.1 h2 with e2|h2
  ·rw[←e1] at e2;simp only[pE] at e2;exact e2.1.symm
  ·exact absurd (pB.2 ⟨_,h2,by rw[←e1]⟩) h.1
  ·exact absurd (pB.2 ⟨_,h1,by rw[←e2]⟩) h.1
  ·exact ih h.2 h1 h2
theorem kg{n0:Nat}{M:List (Id×Id)}{i k:Id}(h:rho n0 M i=some k):(i,k)∈M∨(i.1<n0∧k=i∧k∉M.map (·.2)):=by
 unfold rho at h
 split at h
 ·rename_i k' hk;simp only[p0] at h;subst h;exact .inl (vz hk)
 ·split at h
  ·rename_i hc
   simp only[p0] at h
   subst h
   exact .inr ⟨hc.1,rfl,by simpa using hc.2⟩
  ·cases h
structure RhoChk(n0 n:Nat)(H:AHeap)(M:List (Id×Id)):Prop where
 le:n0≤n
 all:∀x∈M,n0≤x.1.1∧x.1.1<n∧(n0≤x.2.1∨H.get x.2≠none)
 nd:(M.map (·.2)).Nodup
theorem Uz{n0 n:Nat}{H:AHeap}{M:List (Id×Id)}(h:Jp n0 n H M=true):RhoChk n0 n H M:=by
 unfold Jp at h
 simp only[p3,p7,decide_eq_true_eq,Bool.or_eq_true] at h
 obtain⟨⟨h0,h1⟩,h2⟩:=h
 refine⟨p5 h0,fun x hx=>?_,h2⟩
 obtain⟨⟨a,b⟩,c⟩:=h1 x hx
 refine⟨p5 a,p5 b,?_⟩
 rcases c with c|c
 ·exact .inl (p5 c)
 ·right;intro hn;rw[hn] at c;cases c
theorem z7t{n0 n:Nat}{H:AHeap}{M:List (Id×Id)}(h:RhoChk n0 n H M){i:Id}(hi:i.1<n0):rho n0 M i=some i∨(rho n0 M i=none∧H.get i≠none):=by
 have hl:z65 M i=none:=by
  cases hk:z65 M i with
  |none=>rfl
  |some k=>have:=(h.all _ (vz hk)).1;simp only at this;omega
 unfold rho
 rw[hl]
 by_cases hc:(M.map (·.2)).contains i=true
 ·right
  refine⟨by simp only;rw[if_neg (fun hh=>hh.2 hc)],?_⟩
  simp only[pK,List.any_eq_true,beq_iff_eq] at hc
  obtain⟨k,hk,rfl⟩:=hc
  obtain⟨x,hx,rfl⟩:=pB.1 hk
  rcases(h.all x hx).2.2 with h3|h3
  ·omega
  ·exact h3
 ·left
  simp only
  rw[if_pos ⟨hi,hc⟩]
theorem zuc{n0 n:Nat}{H:AHeap}{M:List (Id×Id)}{F:Id→Bool}(h:RhoChk n0 n H M)(hF:∀i:Id,i.1<n0→F i=false):RhoOk n0 n F H (rho n0 M):=by
 refine⟨fun i j k hi hj=>?_,fun i k hi=>?_,fun i hi=>?_,fun i k hi hk=>?_,h.le⟩
 ·rcases kg hi with g1|⟨g1,g1',g1''⟩<;>rcases kg hj with g2|⟨g2,g2',g2''⟩
  ·exact Qu h.nd g1 g2
  ·exact absurd (pB.2 ⟨_,g1,rfl⟩) g2''
  ·exact absurd (pB.2 ⟨_,g2,rfl⟩) g1''
  ·rw[←g1',←g2']
 ·rcases kg hi with g|⟨g,g',_⟩
  ·exact(h.all _ g).2.1
  ·have:=h.le;omega
 ·rcases z7t h hi with g|g
  ·exact .inl ⟨g,hF i hi⟩
  ·exact .inr g
 ·rcases kg hk with g|⟨g,g',_⟩
  ·exact(h.all _ g).2.2
  ·omega
theorem zm1{n0 n:Nat}{H:AHeap}{M:List (Id×Id)}{F:Id→Bool}(h:Jp n0 n H M=true)(hF:∀i:Id,i.1<n0→F i=false):RhoOk n0 n F H (rho n0 M):=zuc (Uz h) hF
theorem qt{α:Type}[Inhabited α](f:α→List AVal)(l:List α)(i:Nat)(h:i<l.length):(l.map f).getD i []=f (l.getD i default):=by
 simp[List.getD_eq_getElem?_getD,h]
theorem wa{α:Type}{l:List α}{j:Int}(h:0≤j∧j<(l.length:Int)):j.toNat<l.length:=by omega
theorem zk{c:Prop}[Decidable c]{α:Type}{x:Option α}{o:α}(h:(if c then x else none)=some o):c∧x=some o:=by
 split at h
 ·exact⟨by assumption,h⟩
 ·cases h
theorem yq{c:Bool}{α:Type}{x y:Option α}{o:α}(hc:c=true)(h:(if c=true then x else y)=some o):x=some o:=by rw[if_pos hc] at h;exact h
theorem qc{c:Bool}{α:Type}{x y:Option α}{o:α}(hc:c=false)(h:(if c=true then x else y)=some o):y=some o:=by subst hc;exact h
theorem bind_some{α γ:Type}{x:Option α}{f:α→Option γ}{o:γ}(h:x.bind f=some o):∃r,x=some r∧f r=some o:=Option.bind_eq_some_iff.1 h
theorem bqt{c:Bool}(h:c=true):(c==true)=true:=by rw[h];rfl
theorem bqf{c:Bool}(h:c=false):(c==false)=true:=by rw[h];rfl
theorem zu7{a b:Bool}(h1:a=true)(h2:b=true):(a&&b)=true:=by rw[h1,h2];rfl
theorem z8r{α:Type}(f:α→List AVal)(l m:List α):l.map f++m.map f=(l++m).map f:=List.map_append.symm
theorem zqf{α:Type}[Inhabited α](f:α→List AVal)(l:List α)(i off:Nat)(cs:List AVal)(y:α)(h:i<l.length)(hy:jp (f (l.getD i default)) off cs=f y):(l.map f).set i (jp ((l.map f).getD i []) off cs)=(l.set i y).map f:=by
 rw[qt f l i h,hy,List.map_set]
abbrev W(n:Int):Int:=IntKind.wrap .i64 n
def zyw(c:UInt8):Int:=(c.toNat:Int)
def zyv(n:Int):UInt8:=UInt8.ofNat n.toNat
def zyt(x:Int):List AVal:=[.int .u8 x]
def VwL(F:Id→Bool)(H:AHeap)(ρ:Id→Option Id)(n:Nat):List AVal→List AVal→Prop
 |[],[]=>True
 |x::xs,y::ys=>Vw F H ρ n x y∧VwL F H ρ n xs ys
 |_,_=>False
theorem Yf{F:Id→Bool}{H:AHeap}{ρ:Id→Option Id}{n:Nat}:∀ {xs ys:List AVal},VwL F H ρ n xs ys→xs.length=ys.length∧∀ (i:Nat) (x y:AVal),xs[i]?=some x→ys[i]?=some y→Vw F H ρ n x y
 |[],[],_=>⟨rfl,fun i x y h _=>by simp at h⟩
 |[],_::_,h=>h.elim
 |_::_,[],h=>h.elim
 |x::xs,y::ys,h=>by
  obtain⟨h1,h2⟩:=Yf h.2
  refine⟨by simp[h1],fun i a b ha hb=>?_⟩
  cases i with
  |zero=>simp only[pG,p0] at ha hb;subst ha;subst hb;exact h.1
  |succ i=>exact h2 i a b (by simpa using ha) (by simpa using hb)
theorem Vw.tupL{F:Id→Bool}{H:AHeap}{ρ:Id→Option Id}{n:Nat}{xs ys:List AVal}(h:VwL F H ρ n xs ys):Vw F H ρ n (.tup xs) (.tup ys):=.tup _ _ (Yf h).1 (Yf h).2
theorem BVw.oneL{F:Id→Bool}{H:AHeap}{ρ:Id→Option Id}{n:Nat}{xs ys:List AVal}(h:VwL F H ρ n xs ys):BVw F H ρ n (.one xs) (.one ys):=.one _ _ (Yf h).1 (Yf h).2
theorem Kj{F:Id→Bool}{H:AHeap}{ρ:Id→Option Id}{n:Nat}:∀ {xs:List AVal},AVal.nid.nidL xs=true→∀ (i:Nat) (x y:AVal),xs[i]?=some x→xs[i]?=some y→Vw F H ρ n x y
 |[],_,i,x,y,h,_=>by simp at h
 |z::r,hn,i,x,y,h,h'=>by
  simp only[AVal.nid.nidL,p3] at hn
  cases i with
  |zero=>simp only[pG,p0] at h h';subst h;subst h';exact .same _ hn.1
  |succ i=>exact Kj hn.2 i x y (by simpa using h) (by simpa using h')
theorem BVw.enc{F:Id→Bool}{H:AHeap}{ρ:Id→Option Id}{n:Nat}{α:Type}(f:α→List AVal)(hf:∀x,AVal.nid.nidL (f x)=true)(s:Nat)(l:List α):BVw F H ρ n (.rows s (l.map f)) (.rows s (l.map f)):=by
 refine .rows s _ _ rfl fun i r r' h h'=>?_
 rw[h] at h'
 simp only[p0] at h'
 subst h'
 rw[p8] at h
 cases hl:l[i]? with
 |none=>rw[hl] at h;cases h
 |some x=>
  rw[hl] at h
  simp only[p9,p0] at h
  subst h
  exact⟨rfl,Kj (hf x)⟩
theorem Vw.frzEnc{F:Id→Bool}{H:AHeap}{ρ:Id→Option Id}{n:Nat}{α:Type}(f:α→List AVal)(hf:∀x,AVal.nid.nidL (f x)=true∧∀y∈f x,y.imm=some y){b:Id}{s len:Nat}{fl:Bool}{fl':Bool}{l:List α}(hff:fl'=true→fl=true)(hF:F b=true)(hg:H.get b=some (.rows s (l.map f)))(hl:len=l.length):Vw F H ρ n (.msl b s 0 len fl) (.isl s (l.map f) fl'):=by
 subst hl
 refine .frz b s 0 l.length fl fl' (l.map f) (l.map f) hff hF hg (by simp) (by simp) (fun i r r' h h'=>?_) (fun i r r' j x y h h' hx hy=>?_) (fun r hr y hy=>?_)
 ·rw[Nat.zero_add,h'] at h;simp only[p0] at h;rw[h]
 ·rw[Nat.zero_add,h'] at h
  simp only[p0] at h
  subst h
  rw[p8] at h'
  cases hl:l[i]? with
  |none=>rw[hl] at h';cases h'
  |some z=>
   rw[hl] at h'
   simp only[p9,p0] at h'
   subst h'
   exact Kj (hf z).1 j x y hx hy
 ·obtain⟨z,_,rfl⟩:=pB.1 hr
  exact(hf z).2 y hy
theorem Vq:∀H:AHeap,AHeap.without (fun _=>false) H=H
 |[]=>rfl
 |(k,b)::r=>by
  simp only[AHeap.without,pQ,if_false]
  rw[Vq r]
theorem PFn.call{f:FuncId}{args args0:List AVal}{R:AVal}(h:PFn P f args0 R){H:AHeap}{n:Nat}{K:AVal→AHeap→Nat→Prop}(ha:ArgsTo (fun _=>false) H (fun _=>none) 0 args args0)(hk:K R H n):ACalls P f args H n K:=
 PFn.use h ha (fun x hx=>by cases hx) (by rw[Vq];exact hk)
theorem PFn.readB(ids:List Id){f:FuncId}{args args0:List AVal}{R:AVal}(h:PFn P f args0 R)(hR:R.flat=true){H:AHeap}{n:Nat}{K:AVal→AHeap→Nat→Prop}(ha:ArgsTo (fun x=>ids.contains x) H (fun _=>none) 0 args args0)(hk:K R H n):ACalls P f args H n K:=PFn.read h hR _ ha hk
theorem Vw.frzB{F:Id→Bool}{H:AHeap}{ρ:Id→Option Id}{n:Nat}{α:Type}(f:α→List AVal)(hf:∀x,AVal.nid.nidL (f x)=true∧∀y∈f x,y.imm=some y){b:Id}{s len:Nat}{fl:Bool}{fl':Bool}{l:List α}(hff:fl'=true→fl=true)(hF:F b=true)(hg:H.get b=some (.rows s (l.map f)))(hl:len=l.length):Vw F H ρ n (.msl b s 0 len fl) (.isl s (l.map f) fl'):=Vw.frzEnc f hf hff hF hg hl
theorem jq{n n':Nat}{M:List (Id×Id)}{e' e:Env}{H' L:AHeap}(hρ:Jp n0 n H' M=true)(hE:EnvTo (fun _=>false) H' (rho n0 M) n e' e)(hH:HeapTo (fun _=>false) H' (rho n0 M) n0 n L):Sim n0 e' H' n' e L n:=Sim.of ⟨_,_,zm1 hρ (fun _ _=>rfl),hE,hH.get⟩
theorem zv6{α:Type}(f:α→List AVal){l:List α}{i:Nat}(h:i<l.length):i<(l.map f).length:=by rw[pC];exact h
theorem xr{α:Type}(f:α→List AVal){l:List α}{j:Int}(h:0≤j∧j<((l.map f).length:Int)):j.toNat<l.length:=by rw[pC] at h;omega
theorem zxp{α:Type}(f:α→List AVal){s:Nat}{rows:List (List AVal)}{l:List α}{a b:Bool}(h1:rows=l.map f)(h2:a=b):AVal.isl s rows a=.isl s (l.map f) b:=by rw[h1,h2]
theorem slB{α:Type}(f:α→List AVal)(l:List α)(b:Nat):((l.map f).take b).drop 0=(l.take b).map f:=by rw[List.map_take];rfl
end Go.Fx
namespace Go.Fx
variable {P:Program}
theorem ACalls.sub{f:Fn}{args:List AVal}{H:AHeap}{n:Nat}{K:AVal→AHeap→Nat→Prop}
 (h:ACalls P f args H n (fun r H' n'=>∃H2,(∀id blk,H2.get id=some blk→H'.get id=some blk)∧K r H2 n')):ACalls P f args H n K:=by
 refine⟨h.1,fun I β w vs hI hl hr=>(h.2 I β w vs hI hl hr).mono ?_⟩
 rintro ee w' ⟨r,v,H',n',I',β',he,⟨H2,h1,h2⟩,hI',hr',hx⟩
 exact⟨r,v,H2,n',I',β',he,h2,Inv.sub h1 hI',hr',Ext.sub h1 hx⟩
theorem u5{H:AHeap}{id:Id}{b:ABlock}(h:H.get id=some b):(id,b)∈H:=by
 induction H with
 |nil=>simp[AHeap.get] at h
 |cons x r ih=>
  obtain⟨k,c⟩:=x
  by_cases hk:k=id
  ·subst hk;rw[AHeap.get_cons_same] at h;simp only[p0] at h;subst h;exact List.mem_cons_self ..
  ·rw[AHeap.get_cons_other _ _ hk] at h;exact List.mem_cons_of_mem _ (ih h)
theorem z23{H:AHeap}{id:Id}{b:ABlock}(hn:(H.map (·.1)).Nodup)(h:(id,b)∈H):H.get id=some b:=by
 induction H with
 |nil=>cases h
 |cons x r ih=>
  obtain⟨k,c⟩:=x
  simp only[pI,List.nodup_cons] at hn
  rcases pH.1 h with h|h
  ·simp only[pE] at h;obtain⟨rfl,rfl⟩:=h;exact AHeap.get_cons_same _ _ _
  ·have:k≠id:=fun hk=>by subst hk;exact hn.1 (pB.2 ⟨_,h,rfl⟩)
   rw[AHeap.get_cons_other _ _ this];exact ih hn.2 h
def noR(r:Nat)(H:AHeap):Bool:=H.all fun x=>!(pA x.1.1 r)
theorem Qw{r:Nat}{H:AHeap}(h:noR r H=true){id:Id}(hid:id.1=r):H.get id=none:=by
 cases hg:H.get id with
 |none=>rfl
 |some b=>
  have hm:=u5 hg
  unfold noR at h
  rw[p7] at h
  have:=h _ hm
  simp only[hid] at this
  simp at this
mutual
theorem X5{g h:Id→Id}:∀ (x:AVal),(x.ren g).ren h=x.ren (fun i=>h (g i))
 |.any=>rfl
 |.bool _=>rfl
 |.int _ _=>rfl
 |.str _=>rfl
 |.val _=>rfl
 |.isl _ _ _=>rfl
 |.iptr _ _ _ _=>rfl
 |.osl _ _ _=>rfl
 |.ptr _ _ _=>rfl
 |.msl _ _ _ _ _=>rfl
 |.map _=>rfl
 |.optp _=>rfl
 |.tup cs=>by simp only[AVal.ren];rw[Za cs]
 |.agg cs=>by simp only[AVal.ren];rw[Za cs]
 |.fn f a c=>by simp only[AVal.ren];rw[Za a,Za c]
 |.ifc t x=>by simp only[AVal.ren];rw[X5 x]
 |.cnd p x=>by simp only[AVal.ren];rw[X5 x]
theorem Za{g h:Id→Id}:∀ (cs:List AVal),AVal.ren.renL h (AVal.ren.renL g cs)=AVal.ren.renL (fun i=>h (g i)) cs
 |[]=>rfl
 |x::r=>by simp only[AVal.ren.renL];rw[X5 x,Za r]
end
mutual
theorem kl{p:Id→Bool}{g h:Id→Id}(hgh:∀id:Id,p id=true→g id=h id):∀ (x:AVal),x.inP p=true→x.ren g=x.ren h
 |.any,_=>rfl
 |.bool _,_=>rfl
 |.int _ _,_=>rfl
 |.str _,_=>rfl
 |.val _,_=>rfl
 |.isl _ _ _,_=>rfl
 |.iptr _ _ _ _,_=>rfl
 |.osl t _ _,hp=>by simp only[AVal.ren];rw[hgh t hp]
 |.ptr t _ _,hp=>by simp only[AVal.ren];rw[hgh t hp]
 |.msl t _ _ _ _,hp=>by simp only[AVal.ren];rw[hgh t hp]
 |.map t,hp=>by simp only[AVal.ren];rw[hgh t hp]
 |.optp t,hp=>by simp only[AVal.ren];rw[hgh t hp]
 |.tup cs,hp=>by simp only[AVal.ren];rw[kb hgh cs hp]
 |.agg cs,hp=>by simp only[AVal.ren];rw[kb hgh cs hp]
 |.fn f a c,hp=>by
  simp only[AVal.inP,p3] at hp
  simp only[AVal.ren];rw[kb hgh a hp.1,kb hgh c hp.2]
 |.ifc t x,hp=>by simp only[AVal.ren];rw[kl hgh x hp]
 |.cnd q x,hp=>by simp only[AVal.ren];rw[kl hgh x hp]
theorem kb{p:Id→Bool}{g h:Id→Id}(hgh:∀id:Id,p id=true→g id=h id):∀ (cs:List AVal),AVal.inP.inPL p cs=true→AVal.ren.renL g cs=AVal.ren.renL h cs
 |[],_=>rfl
 |x::r,hp=>by
  simp only[AVal.inP.inPL,p3] at hp
  simp only[AVal.ren.renL];rw[kl hgh x hp.1,kb hgh r hp.2]
end
mutual
theorem Qs{p q:Id→Bool}{g:Id→Id}(hg:∀id:Id,p id=true→q (g id)=true):∀ (x:AVal),x.inP p=true→(x.ren g).inP q=true
 |.any,_=>rfl
 |.bool _,_=>rfl
 |.int _ _,_=>rfl
 |.str _,_=>rfl
 |.val _,_=>rfl
 |.isl _ _ _,_=>rfl
 |.iptr _ _ _ _,_=>rfl
 |.osl t _ _,hp=>hg t hp
 |.ptr t _ _,hp=>hg t hp
 |.msl t _ _ _ _,hp=>hg t hp
 |.map t,hp=>hg t hp
 |.optp t,hp=>hg t hp
 |.tup cs,hp=>Yv hg cs hp
 |.agg cs,hp=>Yv hg cs hp
 |.fn f a c,hp=>by
  simp only[AVal.inP,p3] at hp
  simp only[AVal.ren,AVal.inP,p3]
  exact⟨Yv hg a hp.1,Yv hg c hp.2⟩
 |.ifc t x,hp=>Qs hg x hp
 |.cnd r x,hp=>Qs hg x hp
theorem Yv{p q:Id→Bool}{g:Id→Id}(hg:∀id:Id,p id=true→q (g id)=true):∀ (cs:List AVal),AVal.inP.inPL p cs=true→AVal.inP.inPL q (AVal.ren.renL g cs)=true
 |[],_=>rfl
 |x::r,hp=>by
  simp only[AVal.inP.inPL,p3] at hp
  simp only[AVal.ren.renL,AVal.inP.inPL,p3]
  exact⟨Qs hg x hp.1,Yv hg r hp.2⟩
end
theorem zh2{g h:Id→Id}(b:ABlock):(b.ren g).ren h=b.ren (fun i=>h (g i)):=by
 cases b with
 |rows s es=>simp only[ABlock.ren,kv,pT];congr 1;exact pD fun x _=>Za x
 |one cs=>simp only[ABlock.ren];rw[Za]
 |amap es=>simp only[ABlock.ren,pT];congr 1;refine pD fun x _=>?_;simp only[Function.comp];rw[X5,X5]
 |tok=>rfl
 |bld T g0=>rfl
 |buf e bs=>rfl
 |lrec l r e=>simp only[ABlock.ren,pT];congr 1;refine pD fun x _=>?_;simp only[Function.comp];rw[X5]
 |rmap es arr ck=>simp only[ABlock.ren,pT];congr 1;refine pD fun x _=>?_;simp only[Function.comp];rw[X5,X5]
 |itr m arr ck seen=>simp only[ABlock.ren,Option.map_map];rfl
 |mbox b=>rfl
theorem Wx{p:Id→Bool}{g h:Id→Id}(hgh:∀id:Id,p id=true→g id=h id)(b:ABlock)(hp:b.inP p=true):b.ren g=b.ren h:=by
 cases b with
 |rows s es=>
  simp only[ABlock.inP,p7] at hp
  simp only[ABlock.ren,kv];congr 1;exact pD fun x hx=>kb hgh x (hp x hx)
 |one cs=>simp only[ABlock.ren];rw[kb hgh cs hp]
 |amap es=>
  simp only[ABlock.inP,p7,p3] at hp
  simp only[ABlock.ren];congr 1;refine pD fun x hx=>?_;rw[kl hgh _ (hp x hx).1,kl hgh _ (hp x hx).2]
 |tok=>rfl
 |bld T g0=>simp only[ABlock.ren];rw[hgh g0 hp]
 |buf e bs=>rfl
 |lrec l r e=>
  simp only[ABlock.inP,p7] at hp
  simp only[ABlock.ren];congr 1;refine pD fun x hx=>?_;rw[kl hgh _ (hp x hx)]
 |rmap es arr ck=>
  simp only[ABlock.inP,p7,p3] at hp
  simp only[ABlock.ren];congr 1;refine pD fun x hx=>?_;rw[kl hgh _ (hp x hx).1,kl hgh _ (hp x hx).2]
 |itr m arr ck seen=>
  cases m with
  |none=>rfl
  |some b=>simp only[ABlock.ren,p9];rw[hgh b hp]
 |mbox b=>simp only[ABlock.ren];rw[hgh b hp]
theorem Kf{p q:Id→Bool}{g:Id→Id}(hg:∀id:Id,p id=true→q (g id)=true)(b:ABlock)(hp:b.inP p=true):(b.ren g).inP q=true:=by
 cases b with
 |rows s es=>
  simp only[ABlock.inP,p7] at hp
  simp only[ABlock.ren,kv,ABlock.inP,p7,pB]
  rintro x ⟨y,hy,rfl⟩
  exact Yv hg y (hp y hy)
 |one cs=>exact Yv hg cs hp
 |amap es=>
  simp only[ABlock.inP,p7,p3] at hp
  simp only[ABlock.ren,ABlock.inP,p7,pB,p3]
  rintro x ⟨y,hy,rfl⟩
  exact⟨Qs hg _ (hp y hy).1,Qs hg _ (hp y hy).2⟩
 |tok=>rfl
 |bld T g0=>exact hg g0 hp
 |buf e bs=>rfl
 |lrec l r e=>
  simp only[ABlock.inP,p7] at hp
  simp only[ABlock.ren,ABlock.inP,p7,pB]
  rintro x ⟨y,hy,rfl⟩
  exact Qs hg _ (hp y hy)
 |rmap es arr ck=>
  simp only[ABlock.inP,p7,p3] at hp
  simp only[ABlock.ren,ABlock.inP,p7,pB,p3]
  rintro x ⟨y,hy,rfl⟩
  exact⟨Qs hg _ (hp y hy).1,Qs hg _ (hp y hy).2⟩
 |itr m arr ck seen=>
  cases m with
  |none=>rfl
  |some b=>exact hg b hp
 |mbox b=>exact hg b hp
mutual
theorem Jo:∀ (x:AVal),x.ren (fun i=>i)=x
 |.any=>rfl
 |.bool _=>rfl
 |.int _ _=>rfl
 |.str _=>rfl
 |.val _=>rfl
 |.isl _ _ _=>rfl
 |.iptr _ _ _ _=>rfl
 |.osl _ _ _=>rfl
 |.ptr _ _ _=>rfl
 |.msl _ _ _ _ _=>rfl
 |.map _=>rfl
 |.optp _=>rfl
 |.tup cs=>by simp only[AVal.ren];rw[Ji cs]
 |.agg cs=>by simp only[AVal.ren];rw[Ji cs]
 |.fn f a c=>by simp only[AVal.ren];rw[Ji a,Ji c]
 |.ifc t x=>by simp only[AVal.ren];rw[Jo x]
 |.cnd p x=>by simp only[AVal.ren];rw[Jo x]
theorem Ji:∀ (cs:List AVal),AVal.ren.renL (fun i=>i) cs=cs
 |[]=>rfl
 |x::r=>by simp only[AVal.ren.renL];rw[Jo x,Ji r]
end
mutual
theorem zhx{p:Id→Bool}:∀ (x:AVal),x.nid=true→x.inP p=true
 |.bool _,_=>rfl
 |.int _ _,_=>rfl
 |.str _,_=>rfl
 |.val _,_=>rfl
 |.isl _ _ _,_=>rfl
 |.iptr _ _ _ _,_=>rfl
 |.tup cs,h=>Wf cs h
 |.agg cs,h=>Wf cs h
 |.fn f a c,h=>by
  simp only[AVal.nid,p3] at h
  simp only[AVal.inP,p3]
  exact⟨Wf a h.1,Wf c h.2⟩
 |.ifc t x,h=>zhx x h
theorem Wf{p:Id→Bool}:∀ (cs:List AVal),AVal.nid.nidL cs=true→AVal.inP.inPL p cs=true
 |[],_=>rfl
 |x::r,h=>by
  simp only[AVal.nid.nidL,p3] at h
  simp only[AVal.inP.inPL,p3]
  exact⟨zhx x h.1,Wf r h.2⟩
end
mutual
theorem ug{g:Id→Id}:∀ (x:AVal),x.nid=true→x.ren g=x
 |.bool _,_=>rfl
 |.int _ _,_=>rfl
 |.str _,_=>rfl
 |.val _,_=>rfl
 |.isl _ _ _,_=>rfl
 |.iptr _ _ _ _,_=>rfl
 |.tup cs,h=>by simp only[AVal.ren];rw[Xi cs h]
 |.agg cs,h=>by simp only[AVal.ren];rw[Xi cs h]
 |.fn f a c,h=>by
  simp only[AVal.nid,p3] at h
  simp only[AVal.ren];rw[Xi a h.1,Xi c h.2]
 |.ifc t x,h=>by simp only[AVal.ren];rw[ug x h]
theorem Xi{g:Id→Id}:∀ (cs:List AVal),AVal.nid.nidL cs=true→AVal.ren.renL g cs=cs
 |[],_=>rfl
 |x::r,h=>by
  simp only[AVal.nid.nidL,p3] at h
  simp only[AVal.ren.renL];rw[ug x h.1,Xi r h.2]
end
theorem zk3{α:Type}{g:Id→Id}(f:α→List AVal)(hf:∀x,AVal.nid.nidL (f x)=true)(s:Nat)(l:List α):(ABlock.rows s (l.map f)).ren g=.rows s (l.map f):=by
 simp only[ABlock.ren,kv,pT]
 congr 1
 refine pD fun x _=>?_
 exact Xi _ (hf x)
theorem zdw(b:ABlock):b.ren (fun i=>i)=b:=by
 cases b with
 |rows s es=>
  simp only[ABlock.ren,kv];congr 1
  conv=>rhs;rw[←List.map_id es]
  exact pD fun x _=>Ji x
 |one cs=>simp only[ABlock.ren];rw[Ji]
 |amap es=>
  simp only[ABlock.ren];congr 1
  conv=>rhs;rw[←List.map_id es]
  refine pD fun x _=>?_
  rw[Jo,Jo];rfl
 |tok=>rfl
 |bld T g0=>rfl
 |buf e bs=>rfl
 |lrec l r e=>
  simp only[ABlock.ren];congr 1
  conv=>rhs;rw[←List.map_id e]
  refine pD fun x _=>?_
  rw[Jo];rfl
 |rmap es arr ck=>
  simp only[ABlock.ren];congr 1
  conv=>rhs;rw[←List.map_id es]
  refine pD fun x _=>?_
  rw[Jo,Jo];rfl
 |itr m arr ck seen=>cases m<;>rfl
 |mbox b=>rfl
def RenL(g:Id→Id):AHeap→AHeap→Prop
 |[],[]=>True
 |(k,b)::r,(k',b')::r'=>g k=k'∧b.ren g=b'∧RenL g r r'
 |_,_=>False
theorem RenL.eq{g:Id→Id}:∀ {L L':AHeap},RenL g L L'→AHeap.renamed g L=L'
 |[],[],_=>rfl
 |[],_::_,h=>h.elim
 |_::_,[],h=>h.elim
 |(k,b)::r,(k',b')::r',h=>by
  obtain⟨h1,h2,h3⟩:=h
  have:=RenL.eq h3
  simp only[AHeap.renamed,pI] at this ⊢
  rw[h1,h2,this]
def mv(a b:Nat)(id:Id):Id:=if id.1=a then(b,id.2) else id
def p12(id:Id):Bool:=pA id.1 1 || pA id.1 2
structure Tl(T:AHeap):Prop where
 key:∀x∈T,p12 x.1=true
 val:∀x∈T,x.2.inP (fun id=>p12 id&&(T.get id).isSome)=true
 nd:(T.map (·.1)).Nodup
def up(q:Nat)(T:AHeap):AHeap:=AHeap.renamed (mv 2 q) T
theorem kq{id:Id}(h:p12 id=true):id.1=1∨id.1=2:=by
 unfold p12 at h
 simp only[Bool.or_eq_true] at h
 rcases h with h|h
 ·exact .inl (p4 h)
 ·exact .inr (p4 h)
theorem zgi{q:Nat}{id:Id}(h:p12 id=true):(mv 2 q id).1=1∨(mv 2 q id).1=q:=by
 unfold mv
 rcases kq h with h|h
 ·left;rw[if_neg (by omega)];exact h
 ·right;rw[if_pos h]
def p1q(q:Nat)(id:Id):Bool:=pA id.1 1 || pA id.1 q
theorem z1w{q:Nat}{id:Id}(h:id.1=1∨id.1=q):p1q q id=true:=by
 unfold p1q
 rcases h with h|h<;>simp[h]
theorem Tl.val'{T:AHeap}(t:Tl T)(x)(hx:x∈T):x.2.inP p12=true:=by
 have:=t.val x hx
 have h2:=Kf (q:=p12) (g:=fun i=>i) (fun id hid=>by simp only[p3] at hid;exact hid.1) _ this
 rwa [zdw] at h2
theorem Q6{q:Nat}{id:Id}(h:p1q q id=true):id.1=1∨id.1=q:=by
 unfold p1q at h
 simp only[Bool.or_eq_true] at h
 rcases h with h|h
 ·exact .inl (p4 h)
 ·exact .inr (p4 h)
theorem z9w{q:Nat}{T:AHeap}(t:Tl T){x:Id×ABlock}(hx:x∈up q T):(x.1.1=1∨x.1.1=q)∧x.2.inP (p1q q)=true:=by
 unfold up AHeap.renamed at hx
 obtain⟨y,hy,rfl⟩:=pB.1 hx
 exact⟨zgi (t.key y hy),Kf (fun id hid=>z1w (zgi hid)) _ (t.val' y hy)⟩
theorem znc{q:Nat}{T:AHeap}(t:Tl T){id:Id}{b:ABlock}(h:(up q T).get id=some b):∃k b0,T.get k=some b0∧p12 k=true∧b0.inP p12=true∧mv 2 q k=id∧b=b0.ren (mv 2 q):=by
 obtain⟨i,b0,h1,h2,h3⟩:=AHeap.get_renamed h
 exact⟨i,b0,z23 t.nd h1,t.key _ h1,t.val' _ h1,h2,h3⟩
theorem zut{q:Nat}(hq:q≠1){i j:Id}(hi:p12 i=true)(hj:p12 j=true)(h:mv 2 q i=mv 2 q j):i=j:=by
 unfold mv at h
 rcases kq hi with hi|hi<;>rcases kq hj with hj|hj
 ·rwa [if_neg (by omega),if_neg (by omega)] at h
 ·rw[if_neg (by omega),if_pos hj] at h
  have:i.1=q:=by rw[h]
  omega
 ·rw[if_pos hi,if_neg (by omega)] at h
  have:j.1=q:=by rw[←h]
  omega
 ·rw[if_pos hi,if_pos hj] at h
  simp only[pE] at h
  ext
  ·omega
  ·exact h.2
theorem ztz{q:Nat}(hq:q≠1){T:AHeap}(t:Tl T):((up q T).map (·.1)).Nodup:=by
 unfold up AHeap.renamed
 rw[pT]
 have:(T.map ((fun x=>x.1)∘fun x=>(mv 2 q x.1,x.2.ren (mv 2 q))))=(T.map (·.1)).map (mv 2 q):=by rw[pT];rfl
 rw[this]
 refine List.pairwise_map.2 (List.Pairwise.imp_of_mem (fun {a b} ha hb hab he=>hab ?_) t.nd)
 obtain⟨x,hx,rfl⟩:=pB.1 ha
 obtain⟨y,hy,rfl⟩:=pB.1 hb
 exact zut hq (t.key x hx) (t.key y hy) he
theorem znm{q:Nat}(hq:q≠1){T:AHeap}(t:Tl T){k:Id}{b0:ABlock}(h:T.get k=some b0):(up q T).get (mv 2 q k)=some (b0.ren (mv 2 q)):=
 z23 (ztz hq t) (pB.2 ⟨(k,b0),u5 h,rfl⟩)
theorem zs6{a q q':Nat}(hq:q≠1){id:Id}(h:p12 id=true):mv q q' (mv 2 q id)=mv 2 q' id:=by
 unfold mv
 rcases kq h with h|h
 ·rw[if_neg (by omega:¬id.1=2),if_neg (by omega),if_neg (by omega)]
 ·rw[if_pos h,if_pos h];simp
theorem z2r{q q':Nat}(hq:q≠1){b0:ABlock}(h:b0.inP p12=true):(b0.ren (mv 2 q)).ren (mv q q')=b0.ren (mv 2 q'):=by
 rw[zh2]
 exact Wx (fun id hid=>zs6 (a:=0) hq hid) b0 h
theorem zw1{q:Nat}(hq:q≠1){q':Nat}{T:AHeap}(t:Tl T):AHeap.renamed (mv q q') (up q T)=up q' T:=by
 unfold up AHeap.renamed
 rw[pT]
 refine pD fun x hx=>?_
 simp only[Function.comp]
 rw[zs6 (a:=0) hq (t.key x hx),z2r hq (t.val' x hx)]
theorem zoa{q:Nat}{T lit:AHeap}(t:Tl T)(h1:noR 1 lit=true)(hq:noR q lit=true){id:Id}{b:ABlock}(hg:(up q T).get id=some b):AHeap.get (lit++up q T) id=some b:=by
 rw[AHeap.get_append]
 have:lit.get id=none:=by
  rcases(z9w t (u5 hg)).1 with h|h
  ·exact Qw h1 h
  ·exact Qw hq h
 rw[this];simpa using hg
def z6p(q:Nat)(M:List (Id×Id))(id:Id):Option Id:=if id.1=3 then some (q,id.2) else rho 3 M id
def zvq(n q:Nat)(lit':AHeap)(M:List (Id×Id)):Bool:=
 pF 4 n&&pF 3 q&&Jp 3 n lit' M&&M.all (fun x=>pF 4 x.1.1&&!(pA x.2.1 q)&&!(pA x.2.1 1))&&noR 1 lit'&&noR q lit'
structure ChkT(n q:Nat)(lit':AHeap)(M:List (Id×Id)):Prop where
 n4:4≤n
 q3:3≤q
 rc:RhoChk 3 n lit' M
 all:∀x∈M,4≤x.1.1∧x.2.1≠q∧x.2.1≠1
 no1:noR 1 lit'=true
 noq:noR q lit'=true
theorem Vi{a b:Nat}(h:(!(pA a b))=true):a≠b:=by
 intro e;subst e;simp at h
theorem Z5{n q:Nat}{lit':AHeap}{M:List (Id×Id)}(h:zvq n q lit' M=true):ChkT n q lit' M:=by
 unfold zvq at h
 simp only[p3,p7] at h
 obtain⟨⟨⟨⟨⟨h1,h2⟩,h3⟩,h4⟩,h5⟩,h6⟩:=h
 exact⟨p5 h1,p5 h2,Uz h3,fun x hx=>⟨p5 (h4 x hx).1.1,Vi (h4 x hx).1.2,Vi (h4 x hx).2⟩,h5,h6⟩
theorem z9x{A B:AHeap}{id:Id}(h:A.get id≠none):AHeap.get (A++B) id≠none:=by
 rw[AHeap.get_append]
 cases hg:A.get id with
 |none=>exact absurd hg h
 |some b=>simp
theorem zhq{n q:Nat}{lit' T:AHeap}{M:List (Id×Id)}{F:Id→Bool}(h:ChkT n q lit' M)(hF:∀i:Id,i.1<3→F i=false):RhoOk 3 n F (lit'++T) (z6p q M):=by
 have base:∀ {i k:Id},z6p q M i=some k→(i.1=3∧k=(q,i.2))∨(i.1≠3∧rho 3 M i=some k):=by
  intro i k hi
  unfold z6p at hi
  split at hi
  ·rename_i h3;simp only[p0] at hi;exact .inl ⟨h3,hi.symm⟩
  ·rename_i h3;exact .inr ⟨h3,hi⟩
 have vals:∀ {i k:Id},rho 3 M i=some k→k.1≠q:=by
  intro i k hi
  rcases kg hi with g|⟨g1,g2,_⟩
  ·exact(h.all _ g).2.1
  ·have:=h.q3;subst g2;omega
 have lift:∀ {id:Id},lit'.get id≠none→AHeap.get (lit'++T) id≠none:=fun h=>z9x h
 have hr:RhoOk 3 n F (lit'++T) (rho 3 M):=by
  have hc:RhoChk 3 n (lit'++T) M:=⟨h.rc.le,fun x hx=>⟨(h.rc.all x hx).1,(h.rc.all x hx).2.1,(h.rc.all x hx).2.2.imp id lift⟩,h.rc.nd⟩
  refine⟨fun i j k hi hj=>?_,fun i k hi=>?_,fun i hi=>?_,fun i k hi hk=>?_,hc.le⟩
  ·rcases kg hi with g1|⟨g1,g1',g1''⟩<;>rcases kg hj with g2|⟨g2,g2',g2''⟩
   ·exact Qu hc.nd g1 g2
   ·exact absurd (pB.2 ⟨_,g1,rfl⟩) g2''
   ·exact absurd (pB.2 ⟨_,g2,rfl⟩) g1''
   ·rw[←g1',←g2']
  ·rcases kg hi with g|⟨g,g',_⟩
   ·exact(hc.all _ g).2.1
   ·have:=hc.le;omega
  ·rcases z7t hc hi with g|g
   ·exact .inl ⟨g,hF i hi⟩
   ·exact .inr g
  ·rcases kg hk with g|⟨g,g',_⟩
   ·exact(hc.all _ g).2.2
   ·omega
 refine⟨fun i j k hi hj=>?_,fun i k hi=>?_,fun i hi=>?_,fun i k hi hk=>?_,hr.le⟩
 ·rcases base hi with⟨a1,a2⟩|⟨a1,a2⟩<;>rcases base hj with⟨b1,b2⟩|⟨b1,b2⟩
  ·rw[a2] at b2
   simp only[pE,true_and] at b2
   ext
   ·omega
   ·exact b2
  ·exact absurd (by rw[a2]) (vals b2)
  ·exact absurd (by rw[b2]) (vals a2)
  ·exact hr.inj i j k a2 b2
 ·rcases base hi with⟨a1,a2⟩|⟨a1,a2⟩
  ·have:=h.n4;omega
  ·exact hr.dom i k a2
 ·have:z6p q M i=rho 3 M i:=by unfold z6p;rw[if_neg (by omega)]
  rw[this];exact hr.low i hi
 ·rcases base hk with⟨a1,a2⟩|⟨a1,a2⟩
  ·left;rw[a2];exact h.q3
  ·exact hr.high i k hi a2
theorem Wa{n q:Nat}{lit':AHeap}{M:List (Id×Id)}(h:ChkT n q lit' M)(p:Nat):z6p q M (1,p)=some (1,p):=by
 unfold z6p
 rw[if_neg (by simp)]
 have hl:z65 M (1,p)=none:=by
  cases hk:z65 M (1,p) with
  |none=>rfl
  |some k=>have:=(h.all _ (vz hk)).1;simp only at this;omega
 unfold rho
 rw[hl]
 simp only
 rw[if_pos]
 refine⟨by simp,?_⟩
 simp only[pK,List.any_eq_true,beq_iff_eq,pB]
 rintro⟨_,⟨x,hx,rfl⟩,he⟩
 exact(h.all x hx).2.2 (by rw[←he])
theorem z5o{F:Id→Bool}{n q:Nat}{lit lit' T:AHeap}{M:List (Id×Id)}(t:Tl T)(hc:ChkT n q lit' M)(h:HeapTo F (lit'++up q T) (z6p q M) 3 n lit)(hF:∀id:Id,id.1=1∨id.1=q→F id=false) :
 Um F (lit'++up q T) (z6p q M) 3 n (lit++up 3 T):=by
 intro id blk hg
 rw[AHeap.get_append] at hg
 cases hl:lit.get id with
 |some b=>
  rw[hl] at hg
  simp only[Option.some_or,p0] at hg
  subst hg
  exact h.get id b hl
 |none=>
  rw[hl] at hg
  simp only[pS] at hg
  have hq1:q≠1:=by have:=hc.q3;omega
  obtain⟨k,b0,g1,g2,g3,g4,g5⟩:=znc t hg
  have hat:z6p q M id=some (mv 2 q k):=by
   subst g4
   rcases kq g2 with h1|h1
   ·have e:∀a,mv 2 a k=k:=fun a=>by unfold mv;rw[if_neg (by omega)]
    rw[e,e,show k=(1,k.2) by rw[←h1]]
    exact Wa hc _
   ·unfold mv;rw[if_pos h1,if_pos h1];unfold z6p;simp
  unfold Yx
  rw[hat]
  simp only
  rw[zoa t hc.no1 hc.noq (znm hq1 t g1)]
  refine⟨hF _ (zgi g2),?_⟩
  rw[g5,←z2r (q:=q) (q':=3) hq1 g3]
  refine .mov (p1q q) (mv q 3) _ (Kf (fun id hid=>z1w (zgi hid)) _ g3) (fun i hi=>?_)
  have hn:=hc.n4
  rcases Q6 hi with h1|h1
  ·have e:mv q 3 i=i:=by unfold mv;rw[if_neg (by omega)]
   rw[e,show i=(1,i.2) by rw[←h1]]
   exact⟨by simp only;omega,Wa hc _⟩
  ·have e:mv q 3 i=(3,i.2):=by unfold mv;rw[if_pos h1]
   rw[e]
   refine⟨by simp only;omega,?_⟩
   unfold z6p
   simp[←h1]
theorem zl8{n n':Nat}{q:Nat}{M:List (Id×Id)}{e' e:Env}{lit' lit T:AHeap}(t:Tl T)(hc:zvq n q lit' M=true)(hE:EnvTo (fun _=>false) (lit'++up q T) (z6p q M) n e' e)
 (hH:HeapTo (fun _=>false) (lit'++up q T) (z6p q M) 3 n lit):Sim 3 e' (lit'++up q T) n' e (lit++up 3 T) n:=
 Sim.of ⟨_,_,zhq (Z5 hc) (fun _ _=>rfl),hE,z5o t (Z5 hc) hH (fun _ _=>rfl)⟩
theorem zw6{n0:Nat}{Fs:List Id}(hF:(Fs.all fun x=>pF n0 x.1)=true)(i:Id)(hi:i.1<n0):Fs.contains i=false:=by
 rw[p7] at hF
 simp only[pK,List.any_eq_false,beq_iff_eq]
 intro x hx hix
 have:=p5 (hF x hx)
 subst hix;omega
theorem znk{n0 n n':Nat}{r R:AVal}{H' L:AHeap}(M:List (Id×Id))(Fs:List Id)(hρ:Jp n0 n H' M=true)(hF:(Fs.all fun x=>pF n0 x.1)=true)(hv:Vw (fun x=>Fs.contains x) H' (rho n0 M) n r R)
 (hH:HeapTo (fun x=>Fs.contains x) H' (rho n0 M) n0 n L):Jl n0 n R L r H' n':=
 ⟨_,_,zm1 hρ (zw6 hF),hv,hH.get⟩
theorem zvl{q n n':Nat}{r R:AVal}{lit' lit T:AHeap}(t:Tl T)(M:List (Id×Id))(Fs:List Id)(hc:zvq n q lit' M=true)(hF:(Fs.all fun x=>pF 3 x.1&&!(pA x.1 q))=true)
 (hv:Vw (fun x=>Fs.contains x) (lit'++up q T) (z6p q M) n r R) (hH:HeapTo (fun x=>Fs.contains x) (lit'++up q T) (z6p q M) 3 n lit):Jl 3 n R (lit++up 3 T) r (lit'++up q T) n':=by
 have hF1:(Fs.all fun x=>pF 3 x.1)=true:=by
  rw[p7] at hF ⊢
  intro x hx
  have:=hF x hx
  simp only[p3] at this
  exact this.1
 refine⟨_,_,zhq (Z5 hc) (zw6 hF1),hv,z5o t (Z5 hc) hH (fun id hid=>?_)⟩
 rcases hid with hid|hid
 ·exact zw6 hF1 id (by omega)
 ·rw[p7] at hF
  simp only[pK,List.any_eq_false,beq_iff_eq]
  intro x hx hix
  have:=hF x hx
  simp only[p3] at this
  subst hix
  exact Vi this.2 hid
theorem Qd{f:FuncId}{bm:List Nat}{L:LFn}(hL:w4 P bm f=some L)(hok:uc P f){args:List AVal}(hlen:args.length≤L.lay.n){H Lh:AHeap}{n0 n:Nat}{R:AVal}
 (h:LWp P L.lay n0 L.body (Q0 L.res (Jl n0 n R Lh)) (yi 0 args) H n0):ACalls P f args H n0 (Z6 n R Lh):=ACalls.fin (ACalls.ofFnW hL hok hlen h)
def zbe(H:AHeap)(id:Id):Option Id:=if id.1=3 then(if(H.get (2,id.2)).isSome=true then some (2,id.2) else none) else if id.1<3 then(if id.1=2∧(H.get id).isSome=true then none else some id) else none
theorem zpw{H:AHeap}:RhoOk 3 4 (fun _=>false) H (zbe H):=by
 have some_ne:∀ {id:Id},(H.get id).isSome=true→H.get id≠none:=fun h hn=>by rw[hn] at h;cases h
 refine⟨fun i j k hi hj=>?_,fun i k hi=>?_,fun i hi=>?_,fun i k hi hk=>?_,by omega⟩
 ·unfold zbe at hi hj
  split at hi
  ·rename_i i3
   split at hi<;>simp only[p0,reduceCtorEq] at hi
   rename_i hs
   split at hj
   ·rename_i j3
    split at hj<;>simp only[p0,reduceCtorEq] at hj
    rw[←hi] at hj
    simp only[pE,true_and] at hj
    ext
    ·omega
    ·exact hj.symm
   ·split at hj<;>try (cases hj;done)
    split at hj<;>simp only[p0,reduceCtorEq] at hj
    rename_i hno
    subst hj
    refine absurd ⟨?_,?_⟩ hno
    ·rw[←hi]
    ·rw[←hi];exact hs
  ·split at hi<;>try (cases hi;done)
   split at hi<;>simp only[p0,reduceCtorEq] at hi
   rename_i hno
   subst hi
   split at hj
   ·split at hj<;>simp only[p0,reduceCtorEq] at hj
    rename_i hs
    refine absurd ⟨?_,?_⟩ hno
    ·rw[←hj]
    ·rw[←hj];exact hs
   ·split at hj<;>try (cases hj;done)
    split at hj<;>simp only[p0,reduceCtorEq] at hj
    exact hj.symm
 ·unfold zbe at hi
  split at hi
  ·omega
  ·split at hi<;>try (cases hi;done)
   omega
 ·unfold zbe
  rw[if_neg (by omega),if_pos hi]
  split
  ·rename_i hc;exact .inr ⟨rfl,some_ne hc.2⟩
  ·exact .inl ⟨rfl,rfl⟩
 ·unfold zbe at hk
  split at hk
  ·split at hk<;>simp only[p0,reduceCtorEq] at hk
   rename_i hs
   right;rw[←hk];exact some_ne hs
  ·split at hk
   ·omega
   ·cases hk
theorem zf1{lit' lit T:AHeap}{e' e:Env}(t:Tl T)(h1:noR 1 lit'=true)(h2:noR 2 lit'=true)(hE:EnvTo (fun _=>false) (lit'++T) (zbe (lit'++T)) 4 e' e)(hH:HeapTo (fun _=>false) (lit'++T) (zbe (lit'++T)) 3 4 lit) :
 Sim 3 e' (lit'++T) 3 e (lit++up 3 T) 4:=by
 refine Sim.of ⟨_,_,zpw,hE,?_⟩
 have app:∀ {id:Id} {b:ABlock},p12 id=true→T.get id=some b→AHeap.get (lit'++T) id=some b:=by
  intro id b hp hg
  rw[AHeap.get_append]
  have:lit'.get id=none:=by
   rcases kq hp with h|h
   ·exact Qw h1 h
   ·exact Qw h2 h
  rw[this];simpa using hg
 have at1:∀p,zbe (lit'++T) (1,p)=some (1,p):=fun p=>by unfold zbe;simp
 -- names under 2 that are alive
 have at2:∀ {id:Id} {b:ABlock},id.1=2→T.get id=some b→zbe (lit'++T) (3,id.2)=some id:=by
  intro id b hid hg
  have e:id=(2,id.2):=by rw[←hid]
  unfold zbe
  rw[if_pos rfl]
  have:=app (by unfold p12;rw[hid];rfl) hg
  rw[e] at this
  simp only
  rw[this,e]
  simp
 intro id blk hg
 rw[AHeap.get_append] at hg
 cases hl:lit.get id with
 |some b=>
  rw[hl] at hg
  simp only[Option.some_or,p0] at hg
  subst hg
  exact hH.get id b hl
 |none=>
  rw[hl] at hg
  simp only[pS] at hg
  obtain⟨k,b0,g1,g2,g3,g4,g5⟩:=znc t hg
  have hat:zbe (lit'++T) id=some k:=by
   subst g4
   rcases kq g2 with h|h
   ·unfold mv;rw[if_neg (by omega),show k=(1,k.2) by rw[←h]];exact at1 _
   ·unfold mv;rw[if_pos h];exact at2 h g1
  unfold Yx
  rw[hat]
  simp only
  rw[app g2 g1]
  refine⟨by trivial,?_⟩
  rw[g5]
  refine .mov (fun id=>p12 id&&(T.get id).isSome) (mv 2 3) b0 (t.val _ (u5 g1)) (fun i hi=>?_)
  simp only[p3] at hi
  have hs:∃b,T.get i=some b:=Option.isSome_iff_exists.1 hi.2
  obtain⟨b,hb⟩:=hs
  rcases kq hi.1 with h|h
  ·have e:mv 2 3 i=i:=by unfold mv;rw[if_neg (by omega)]
   rw[e]
   refine⟨by omega,?_⟩
   rw[show i=(1,i.2) by rw[←h]];exact at1 _
  ·have e:mv 2 3 i=(3,i.2):=by unfold mv;rw[if_pos h]
   rw[e]
   exact⟨by simp only;omega,at2 h hb⟩
def zvt(k n:Nat)(M:List (Id×Id)):Bool:=M.all (fun x=>pF (x.1.1+1) k&&pF (x.2.1+1) n)&&(M.map (·.2)).Nodup
theorem Jd:∀ {M:List (Id×Id)} {k:Id},k∈M.map (·.2)→(M.map (·.1)).Nodup→∃i,z65 M i=some k
 |[],k,h,_=>by cases h
 |(a,b)::r,k,h,hn=>by
  simp only[pI,List.nodup_cons] at hn
  simp only[pI,pH] at h
  rcases h with rfl|h
  ·exact⟨a,by simp[z65]⟩
  ·obtain⟨i,hi⟩:=Jd h hn.2
   refine⟨i,?_⟩
   have:a≠i:=fun hai=>by subst hai;exact hn.1 (pB.2 ⟨_,vz hi,rfl⟩)
   simp[z65,this,hi]
def H0To(H:AHeap)(ρ:Id→Option Id)(k:Nat):AHeap→Prop
 |[]=>True
 |(i,b)::r=>(∃x b',ρ i=some x∧H.get x=some b'∧BVw (fun _=>false) H ρ k b' b)∧H0To H ρ k r
theorem H0To.get{H:AHeap}{ρ:Id→Option Id}{k:Nat}:∀ {H0:AHeap},H0To H ρ k H0→∀i b,H0.get i=some b→∃x b',ρ i=some x∧H.get x=some b'∧BVw (fun _=>false) H ρ k b' b
 |[],_,i,b,h=>by simp[AHeap.get] at h
 |(j,c)::r,h,i,b,hg=>by
  by_cases hj:j=i
  ·subst hj;rw[AHeap.get_cons_same] at hg;simp only[p0] at hg;subst hg;exact h.1
  ·rw[AHeap.get_cons_other _ _ hj] at hg;exact H0To.get h.2 i b hg
theorem h0I{H:AHeap}{ρ:Id→Option Id}{k:Nat}{i:Id}{b b':ABlock}(x:Id)(h1:ρ i=some x)(h2:H.get x=some b')(h3:BVw (fun _=>false) H ρ k b' b):∃x b',ρ i=some x∧H.get x=some b'∧BVw (fun _=>false) H ρ k b' b:=⟨x,b',h1,h2,h3⟩
def zkm(M:List (Id×Id)):Bool:=(M.map (·.1)).Nodup
def z1t(L:AHeap):Bool:=(L.map (·.1)).Nodup
theorem z37{f:Fn}{args args0:List AVal}{H H0 L L' rest:AHeap}{n k m:Nat}{R R':AVal}{K:AVal→AHeap→Nat→Prop}(M:List (Id×Id))(h:ACalls P f args0 H0 k (Z6 (k+m) R L))
 (hM:zvt k n M=true) (hM1:zkm M=true) (hnd:z1t L=true) (ha:ArgsTo (fun _=>false) H (z65 M) k args args0) (hH:H0To H (z65 M) k H0)
 (hR:R.ren (Wu (z65 M) k n m)=R') (hL:RenL (Wu (z65 M) k n m) L L') (hrest:AHeap.without (fun x=>(M.map (·.2)).contains x) H=rest)
 (hk:K R' (L'++rest) (n+m+1)):ACalls P f args H n K:=by
 unfold zvt at hM
 simp only[p3,p7,decide_eq_true_eq] at hM
 have hM':∀x∈M,x.1.1<k∧x.2.1<n:=fun x hx=>⟨p5 (hM.1 x hx).1,p5 (hM.1 x hx).2⟩
 refine ACalls.frame (F:=fun _=>false) (ρ:=z65 M) h (fun i j x hi hj=>Qu hM.2 (vz hi) (vz hj)) (fun i x hi=>⟨(hM' _ (vz hi)).1,(hM' _ (vz hi)).2,rfl⟩) (fun x hx=>by cases hx) ha hH.get
  (fun x=>(M.map (·.2)).contains x) (fun x=>?_) (by simpa[z1t] using hnd) ?_
 ·simp only[pK,List.any_eq_true,beq_iff_eq,exists_eq_right',pQ,false_or]
  constructor
  ·intro hy
   exact Jd hy (by simpa[zkm] using hM1)
  ·rintro⟨i,hi⟩
   exact pB.2 ⟨_,vz hi,rfl⟩
 ·rw[hR,hL.eq,hrest];exact hk
theorem W6{p:Id→Bool}:∀ {H:AHeap},(∀x∈H,p x.1=false)→AHeap.without p H=H
 |[],_=>rfl
 |(k,b)::r,h=>by
  have:=h (k,b) (List.mem_cons_self ..)
  simp only at this
  simp only[AHeap.without,this,pQ,if_false]
  rw[W6 (fun x hx=>h x (List.mem_cons_of_mem _ hx))]
def Y2(q:Nat)(M:List (Id×Id))(id:Id):Option Id:=if id.1=1 then some id else if id.1=2 then some (q,id.2) else z65 M id
theorem znn{f:Fn}{args args0:List AVal}{lit0 lit L L' rest T T':AHeap}{n q m:Nat}{R R':AVal}{K:AVal→AHeap→Nat→Prop}(t:Tl T)(t':Tl T')(M:List (Id×Id))(h:ACalls P f args0 (lit0++T) 3 (Z6 (3+m) R (L++up 3 T')))
 (hM:zvt 3 n M=true) (hM1:zkm M=true) (hM2:(M.all fun x=>pA x.1.1 0&&!(pA x.2.1 1)&&!(pA x.2.1 q))=true) (hn:(pF 3 q&&pF (q+1) n&&pF 1 m)=true) (hnd:z1t L=true) (hnr:(noR 1 L&&noR 3 L&&noR n lit&&noR 1 lit&&noR q lit)=true)
 (ha:ArgsTo (fun _=>false) (lit++up q T) (Y2 q M) 3 args args0) (hH:H0To (lit++up q T) (Y2 q M) 3 lit0)
 (hR:R.ren (Wu (Y2 q M) 3 n m)=R') (hL:RenL (Wu (Y2 q M) 3 n m) L L') (hrest:AHeap.without (fun x=>(M.map (·.2)).contains x) lit=rest)
 (hk:K R' (L'++(rest++up n T')) (n+m+1)):ACalls P f args (lit++up q T) n K:=by
 unfold zvt at hM
 simp only[p3,p7,decide_eq_true_eq] at hM hM2 hn hnr
 have hM':∀x∈M,x.1.1<3∧x.2.1<n:=fun x hx=>⟨p5 (hM.1 x hx).1,p5 (hM.1 x hx).2⟩
 have hM3:∀x∈M,x.1.1=0∧x.2.1≠1∧x.2.1≠q:=fun x hx=>⟨p4 (hM2 x hx).1.1,Vi (by simpa using(hM2 x hx).1.2),Vi (by simpa using(hM2 x hx).2)⟩
 have q3:=p5 hn.1.1
 have qn:=p5 hn.1.2
 have m1:=p5 hn.2
 have q1:q≠1:=by omega
 have cases:∀ {i k:Id},Y2 q M i=some k→(i.1=1∧k=i)∨(i.1=2∧k=(q,i.2))∨((i,k)∈M∧i.1=0∧k.1≠1∧k.1≠q):=by
  intro i k h
  unfold Y2 at h
  split at h
  ·rename_i h1;simp only[p0] at h;exact .inl ⟨h1,h.symm⟩
  ·split at h
   ·rename_i h1;simp only[p0] at h;exact .inr (.inl ⟨h1,h.symm⟩)
   ·have:=vz h;exact .inr (.inr ⟨this,hM3 _ this⟩)
 have l1:∀p,Y2 q M (1,p)=some (1,p):=fun p=>by simp[Y2]
 have l2:∀p,Y2 q M (2,p)=some (q,p):=fun p=>by simp[Y2]
 refine ACalls.sub ?_
 refine ACalls.frame (F:=fun _=>false) (ρ:=Y2 q M) h (fun i j x hi hj=>?_) (fun i x hi=>?_) (fun x hx=>by cases hx) ha (fun i b hb=>?_)
  (fun x=>p1q q x || (M.map (·.2)).contains x) (fun x=>?_) ?_ ?_
 ·rcases cases hi with⟨a1,a2⟩|⟨a1,a2⟩|⟨a1,a2,a3,a4⟩<;>rcases cases hj with⟨b1,b2⟩|⟨b1,b2⟩|⟨b1,b2,b3,b4⟩
  ·rw[←a2,←b2]
  ·rw[b2] at a2;have:i.1=q:=by rw[←a2]
   omega
  ·subst a2;omega
  ·rw[a2] at b2;have:j.1=q:=by rw[←b2]
   omega
  ·rw[a2] at b2;simp only[pE,true_and] at b2;ext
   ·omega
   ·exact b2
  ·rw[a2] at b4;exact absurd rfl b4
  ·subst b2;omega
  ·rw[b2] at a4;exact absurd rfl a4
  ·exact Qu hM.2 a1 b1
 ·rcases cases hi with⟨a1,a2⟩|⟨a1,a2⟩|⟨a1,a2,a3,a4⟩
  ·subst a2;exact⟨by omega,by omega,rfl⟩
  ·subst a2;exact⟨by omega,by simp only;omega,rfl⟩
  ·exact⟨by omega,(hM' _ a1).2,rfl⟩
 ·rw[AHeap.get_append] at hb
  cases hl:lit0.get i with
  |some b0=>
   rw[hl] at hb
   simp only[Option.some_or,p0] at hb
   subst hb
   exact hH.get i b0 hl
  |none=>
   rw[hl] at hb
   simp only[pS] at hb
   have hm:=u5 hb
   have hat:Y2 q M i=some (mv 2 q i):=by
    have hk:p12 i=true:=t.key _ hm
    rcases kq hk with h1|h1
    ·unfold mv;rw[if_neg (by omega),show i=(1,i.2) by rw[←h1]];exact l1 _
    ·unfold mv;rw[if_pos h1,show i=(2,i.2) by rw[←h1]];exact l2 _
   refine⟨_,_,hat,zoa t hnr.1.2 hnr.2 (znm q1 t hb),?_⟩
   have e:(b.ren (mv 2 q)).ren (mv q 2)=b:=by
    rw[z2r q1 (t.val' _ hm)]
    have:=Wx (g:=mv 2 2) (h:=fun i=>i) (p:=p12) (fun id hid=>by
     unfold mv
     split
     ·rename_i h;rw[←h]
     ·rfl) b (t.val' _ hm)
    rw[this,zdw]
   have:=BVw.mov (F:=fun _=>false) (H:=lit++up q T) (ρ:=Y2 q M) (n:=3) (p1q q) (mv q 2) (b.ren (mv 2 q)) (Kf (fun id hid=>z1w (zgi hid)) _ (t.val' _ hm)) (fun id hid=>by
    rcases Q6 hid with h1|h1
    ·have e:mv q 2 id=id:=by unfold mv;rw[if_neg (by omega)]
     rw[e,show id=(1,id.2) by rw[←h1]]
     exact⟨by simp only;omega,l1 _⟩
    ·have e:mv q 2 id=(2,id.2):=by unfold mv;rw[if_pos h1]
     rw[e]
     refine⟨by simp only;omega,?_⟩
     rw[l2,←h1])
   rwa [e] at this
 ·simp only[pQ,false_or,Bool.or_eq_true]
  constructor
  ·rintro(h1|h1)
   ·rcases Q6 h1 with h1|h1
    ·exact⟨x,by rw[show x=(1,x.2) by rw[←h1]];exact l1 _⟩
    ·exact⟨(2,x.2),by rw[l2,←h1]⟩
   ·simp only[pK,List.any_eq_true,beq_iff_eq,exists_eq_right'] at h1
    obtain⟨i,hi⟩:=Jd (M:=M) h1 (by simpa[zkm] using hM1)
    have:=(hM3 _ (vz hi)).1
    exact⟨i,by unfold Y2;rw[if_neg (by simp only at this;omega),if_neg (by simp only at this;omega)];exact hi⟩
  ·rintro⟨i,hi⟩
   rcases cases hi with⟨a1,a2⟩|⟨a1,a2⟩|⟨a1,a2,a3,a4⟩
   ·left;subst a2;exact z1w (.inl a1)
   ·left;subst a2;exact z1w (.inr rfl)
   ·right
    simp only[pK,List.any_eq_true,beq_iff_eq,exists_eq_right']
    exact pB.2 ⟨_,a1,rfl⟩
 ·rw[List.map_append,List.nodup_append]
  refine⟨by simpa[z1t] using hnd,ztz (by omega) t',fun a ha b hb hab=>?_⟩
  obtain⟨x,hx,rfl⟩:=pB.1 ha
  obtain⟨y,hy,rfl⟩:=pB.1 hb
  have h1:=hnr.1.1.1.1
  have h3:=hnr.1.1.1.2
  unfold noR at h1 h3
  rw[p7] at h1 h3
  rcases(z9w t' hy).1 with g|g
  ·exact Vi (h1 x hx) (by rw[hab];exact g)
  ·exact Vi (h3 x hx) (by rw[hab];exact g)
 ·have hu:∀id:Id,p1q 3 id=true→Wu (Y2 q M) 3 n m id=mv 3 n id:=by
   intro id hid
   rcases Q6 hid with h1|h1
   ·unfold Wu mv;rw[if_pos (by omega),if_neg (by omega),show id=(1,id.2) by rw[←h1],l1];rfl
   ·unfold Wu mv;rw[if_neg (by omega),if_pos h1,h1];simp
  have eT:AHeap.renamed (Wu (Y2 q M) 3 n m) (up 3 T')=up n T':=by
   rw[←zw1 (q:=3) (q':=n) (by omega) t']
   unfold AHeap.renamed
   refine pD fun x hx=>?_
   obtain⟨g1,g2⟩:=z9w t' hx
   rw[hu _ (z1w g1),Wx hu _ g2]
  have eL:AHeap.renamed (Wu (Y2 q M) 3 n m) (L++up 3 T')=L'++up n T':=by
   have:=hL.eq
   unfold AHeap.renamed at this eT ⊢
   rw[List.map_append,this,eT]
  rw[hR,eL]
  refine⟨_,fun id blk hb=>?_,hk⟩
  rw[AHeap.get_append] at hb ⊢
  rw[AHeap.get_append]
  cases g1:L'.get id with
  |some b=>rw[g1] at hb;simpa using hb
  |none=>
   rw[g1] at hb
   simp only[pS] at hb ⊢
   rw[AHeap.get_append] at hb
   cases g2:rest.get id with
   |none=>
    rw[g2] at hb
    simp only[pS] at hb
    rw[hb];rfl
   |some b=>
    rw[g2] at hb
    simp only[Option.some_or,p0] at hb
    subst hb
    -- an old block: not under 1, nor under n
    have hg:lit.get id=some b∧(M.map (·.2)).contains id=false:=by
     rw[←hrest,AHeap.get_without] at g2
     split at g2
     ·cases g2
     ·rename_i hc;exact⟨g2,by simpa using hc⟩
    have hlt:id.1≠1∧id.1≠q:=⟨fun h=>by rw[Qw hnr.1.2 h] at hg;exact absurd hg.1 (by simp),fun h=>by rw[Qw hnr.2 h] at hg;exact absurd hg.1 (by simp)⟩
    have hu0:(up n T').get id=none:=by
     cases hh:(up n T').get id with
     |none=>rfl
     |some b'=>
      rcases(z9w t' (u5 hh)).1 with h1|h1
      ·exact absurd h1 hlt.1
      ·rw[Qw hnr.1.1.2 h1] at hg;exact absurd hg.1 (by simp)
    have hp:(p1q q id || (M.map (·.2)).contains id)=false:=by
     rw[hg.2,Bool.or_false]
     cases hh:p1q q id with
     |false=>rfl
     |true=>
      rcases Q6 hh with h1|h1
      ·exact absurd h1 hlt.1
      ·exact absurd h1 hlt.2
    rw[hu0,AHeap.get_without,hp,AHeap.get_append,hg.1]
    simp
structure Clo(P:Program)(fid:Fn)(first caps:List AVal){σ α τ:Type}(Hc:σ→AHeap)(ea:α→List AVal)(rb:τ→AVal)(g:σ→α→Option (τ×σ)):Prop where
 tl:∀s,Tl (Hc s)
 hf:AVal.inP.inPL (fun id=>pA id.1 1) first=true
 hc:AVal.inP.inPL (fun id=>pA id.1 1) caps=true
 hb:∀b,(rb b).nid=true
 yc:(∃f,fid=.func f)∨caps=[]
 call:∀s x o,g s x=some o→ACalls P fid (first++ea x++caps) (Hc s) 3 (Z6 4 (rb o.1) (up 3 (Hc o.2)))
theorem Vd{F:Id→Bool}{H:AHeap}{ρ:Id→Option Id}{n:Nat}:∀ {a b c d:List AVal},ArgsTo F H ρ n a b→ArgsTo F H ρ n c d→ArgsTo F H ρ n (a++c) (b++d)
 |[],[],_,_,_,h=>h
 |[],_::_,_,_,h,_=>h.elim
 |_::_,[],_,_,h,_=>h.elim
 |x::xs,y::ys,_,_,h,h'=>⟨h.1,Vd h.2 h'⟩
theorem Vw.fix1{F:Id→Bool}{H:AHeap}{ρ:Id→Option Id}{n:Nat}{x:AVal}(hx:x.inP (fun id=>pA id.1 1)=true)(hn:1<n)(hρ:∀p,ρ (1,p)=some (1,p)):Vw F H ρ n x x:=by
 have:=Vw.mov (F:=F) (H:=H) (ρ:=ρ) (n:=n) (fun id=>pA id.1 1) (fun i=>i) x hx (fun id hid=>by
  have h1:=p4 hid
  refine⟨by omega,?_⟩
  rw[show id=(1,id.2) by rw[←h1]];exact hρ _)
 rwa [Jo] at this
theorem Wj{F:Id→Bool}{H:AHeap}{ρ:Id→Option Id}{n:Nat}(hn:1<n)(hρ:∀p,ρ (1,p)=some (1,p)):∀ {a:List AVal},AVal.inP.inPL (fun id=>pA id.1 1) a=true→ArgsTo F H ρ n a a
 |[],_=>trivial
 |x::r,h=>by
  simp only[AVal.inP.inPL,p3] at h
  exact⟨.fix1 h.1 hn hρ,Wj hn hρ h.2⟩
theorem Vw.clo{F:Id→Bool}{H:AHeap}{ρ:Id→Option Id}{n:Nat}{f:Fn}{a c:List AVal}(ha:AVal.inP.inPL (fun id=>pA id.1 1) a=true)(hc:AVal.inP.inPL (fun id=>pA id.1 1) c=true)(hn:1<n)(hρ:∀p,ρ (1,p)=some (1,p)):Vw F H ρ n (.fn f a c) (.fn f a c):=
 .fix1 (by simp only[AVal.inP,ha,hc,Bool.and_self]) hn hρ
theorem z76(q:Nat)(M:List (Id×Id))(p:Nat):Y2 q M (1,p)=some (1,p):=by simp[Y2]
theorem zjg(H:AHeap)(p:Nat):zbe H (1,p)=some (1,p):=by simp[zbe]
theorem Clo.use{fid:Fn}{first caps:List AVal}{σ α τ:Type}{Hc:σ→AHeap}{ea:α→List AVal}{rb:τ→AVal}{g:σ→α→Option (τ×σ)}(c:Clo P fid first caps Hc ea rb g){s:σ}{x:α}{o:τ×σ}(h:g s x=some o)
 {args:List AVal} {lit:AHeap} {n q:Nat} {K:AVal→AHeap→Nat→Prop} (hn:(pF 3 q&&pF (q+1) n)=true) (hnr:(noR n lit&&noR 1 lit&&noR q lit)=true) (ha:ArgsTo (fun _=>false) (lit++up q (Hc s)) (Y2 q []) 3 args (ea x))
 (hk:K (rb o.1) (lit++up n (Hc o.2)) (n+2)):ACallsC P fid first args caps (lit++up q (Hc s)) n K:=by
 have key:∀ {f:Fn},(∃f',f=.func f')∨caps=[]→ACalls P f (first++args++caps) (lit++up q (Hc s)) n K→ACallsC P f first args caps (lit++up q (Hc s)) n K:=by
  intro f h1 h2
  cases f with
  |func g=>exact h2
  |_=>
   rcases h1 with⟨f',h1⟩|h1
   ·cases h1
   ·exact⟨h1,h2⟩
 refine key c.yc ?_
 refine znn (m:=1) (L:=[]) (L':=[]) (lit0:=[]) (rest:=lit) (R':=rb o.1) (c.tl s) (c.tl o.2) [] (c.call s x o h) rfl rfl rfl ?_ rfl ?_ (Vd (Vd (Wj (by omega) (z76 q []) c.hf) ha) (Wj (by omega) (z76 q []) c.hc)) trivial
  (ug _ (c.hb _)) trivial (W6 (fun _ _=>rfl)) hk
 ·simp only[p3] at hn ⊢
  exact⟨hn,rfl⟩
 ·simp only[p3] at hnr ⊢
  exact⟨⟨⟨⟨rfl,rfl⟩,hnr.1.1⟩,hnr.1.2⟩,hnr.2⟩
theorem Vw.mslE{F:Id→Bool}{H:AHeap}{ρ:Id→Option Id}{n:Nat}{b b':Id}{s off len len':Nat}{f f':Bool}(h:ρ b'=some b)(hl:len=len')(hf:f=f'):Vw F H ρ n (.msl b s off len f) (.msl b' s off len' f'):=by
 subst hl;subst hf;exact .msl _ _ _ _ _ _ h
theorem ACalls.same{f:Fn}{args:List AVal}{H:AHeap}{n:Nat}{R:AVal}(hR:R.nid=true)(h:ACalls P f args H n (fun r H' n'=>r=R∧Um (fun _=>false) H' (rho n []) n n H)):ACalls P f args H n (fun r H' n'=>r=R∧H'=H∧n'=n):=by
 refine⟨h.1,fun I β w vs hI hl hr=>(h.2 I β w vs hI hl hr).mono ?_⟩
 rintro ee w' ⟨r,v,H',n',I',β',he,⟨rfl,hH⟩,hI',hr',hx⟩
 have hρ:RhoOk n n (fun _=>false) H' (rho n []):=zm1 (by simp[Jp]) (fun _ _=>rfl)
 obtain⟨k1,k2⟩:=z9v hx hI' hρ hH
 exact⟨_,v,H,n,_,_,he,⟨rfl,rfl,rfl⟩,k2,X0 (fun _ _ h=>.inl h) _ hR hr',k1⟩
theorem ACalls.sim{f:Fn}{args args':List AVal}{H L:AHeap}{n n2:Nat}{K:AVal→AHeap→Nat→Prop}(hc:pF n n2=true)(ha:ArgsTo (fun _=>false) H (rho n []) n2 args args')(hH:HeapTo (fun _=>false) H (rho n []) n n2 L)
 (h:ACalls P f args' L n2 K):ACalls P f args H n K:=by
 refine⟨h.1,fun I β w vs hI hl hr=>?_⟩
 have hρ:RhoOk n n2 (fun _=>false) H (rho n []):=zm1 (by simp[Jp,hc]) (fun _ _=>rfl)
 obtain⟨k1,k2⟩:=z9v (Ext.refl I β n H w hI.fresh) hI hρ hH.get
 obtain⟨ha1,ha2⟩:=ha.get
 refine(h.2 _ _ w vs k2 (by rw[hl,ha1]) (fun i y v hy hv=>?_)).mono ?_
 ·have hlt:i<args.length:=by rw[ha1];exact Q1 hy
  exact Vn hI hρ (ha2 i args[i] y (p2 hlt) hy) (hr i _ v (p2 hlt) hv)
 ·rintro ee w' ⟨r,v,H',n',I',β',he,hk,hI',hr',hx⟩
  exact⟨r,v,H',n',I',β',he,hk,hI',hr',k1.trans hx⟩
def zq0(p:Id→Bool):AHeap→Prop
 |[]=>True
 |(_,b)::r=>b.inP p=true∧zq0 p r
theorem z63{p:Id→Bool}:∀ {T:AHeap},zq0 p T→∀x∈T,x.2.inP p=true
 |[],_,x,hx=>by cases hx
 |(_,b)::r,h,x,hx=>by
  rcases pH.1 hx with e|hx
  ·rw[e];exact h.1
  ·exact z63 h.2 x hx
theorem Tl.lit{T:AHeap}(hk:(T.all fun x=>p12 x.1)=true)(hv:zq0 (fun id=>p12 id&&(T.get id).isSome) T)(hn:z1t T=true):Tl T:=
 ⟨by rw[p7] at hk;exact hk,z63 hv,by simpa[z1t] using hn⟩
theorem Vw.fnL{F:Id→Bool}{H:AHeap}{ρ:Id→Option Id}{n:Nat}{f:Fn}{a c a' c':List AVal}(h1:VwL F H ρ n a a')(h2:VwL F H ρ n c c'):Vw F H ρ n (.fn f a c) (.fn f a' c'):=.fn _ _ _ _ _ (Yf h1).1 (Yf h2).1 (Yf h1).2 (Yf h2).2
theorem Clo.mk'{fid:FuncId}{first caps:List AVal}{σ α τ:Type}{Hc:σ→AHeap}{ea:α→List AVal}{rb:τ→AVal}{g:σ→α→Option (τ×σ)}(tl:∀s,Tl (Hc s))(hf:AVal.inP.inPL (fun id=>pA id.1 1) first=true)(hc:AVal.inP.inPL (fun id=>pA id.1 1) caps=true)
 (hb:∀b,(rb b).nid=true) (call:∀s x o,g s x=some o→∃L,ACalls P fid (first++ea x++caps) (Hc s) 3 (Z6 4 (rb o.1) L)∧RenL (mv 2 3) (Hc o.2) L):Clo P fid first caps Hc ea rb g:=
 ⟨tl,hf,hc,hb,.inl ⟨_,rfl⟩,fun s x o h=>by
  obtain⟨L,h1,h2⟩:=call s x o h
  have:=h2.eq
  unfold up
  rw[this];exact h1⟩
theorem zc{e e':Env}{x:LOpd}(h:∀t∈x.tmps,e.get t=e'.get t):x.ev e=x.ev e'∧x.need e=x.need e':=by
 cases x with
 |t i=>have:=h i (by simp[LOpd.tmps]);simp[LOpd.ev,LOpd.need,this]
 |c v=>exact⟨rfl,rfl⟩
theorem uw{e e':Env}:∀ {l:List LOpd},(∀t∈l.flatMap LOpd.tmps,e.get t=e'.get t)→evs e l=evs e' l∧Q3 e l=Q3 e' l
 |[],_=>⟨rfl,rfl⟩
 |x::r,h=>by
  obtain⟨h1,h2⟩:=zc (e:=e) (e':=e') (x:=x) (fun t ht=>h t (by simp[ht]))
  obtain⟨h3,h4⟩:=uw (e:=e) (e':=e') (l:=r) (fun t ht=>h t (by simp only[List.flatMap_cons,pR];exact .inr ht))
  simp only[evs,Q3,h1,h2,h3,h4,and_self]
theorem Y9{e e':Env}{x:Option LOpd}(h:∀t∈z8f x,e.get t=e'.get t):(∀d,xb e d x=xb e' d x)∧ud e x=ud e' x∧z0r e x=z0r e' x:=by
 cases x with
 |none=>exact⟨fun _=>rfl,rfl,rfl⟩
 |some x=>
  obtain⟨h1,h2⟩:=zc (e:=e) (e':=e') (x:=x) h
  refine⟨fun d=>?_,?_,?_⟩<;>simp only[xb,ud,z0r,h1,h2]
theorem Ul{e e':Env}:∀ {l:List (Nat×Nat×LOpd)},(∀t∈l.flatMap (fun p=>p.2.2.tmps),e.get t=e'.get t)→wb e l=wb e' l∧jy e l=jy e' l
 |[],_=>⟨rfl,rfl⟩
 |(o,n,x)::r,h=>by
  obtain⟨h1,h2⟩:=zc (e:=e) (e':=e') (x:=x) (fun t ht=>h t (by simp[ht]))
  obtain⟨h3,h4⟩:=Ul (e:=e) (e':=e') (l:=r) (fun t ht=>h t (by simp only[List.flatMap_cons,pR];exact .inr ht))
  simp only[wb,jy,h1,h2,h3,h4,and_self]
theorem Vp{e e':Env}:∀ {l:List (Nat×LOpd)},(∀t∈l.flatMap (fun p=>p.2.tmps),e.get t=e'.get t)→evI e l=evI e' l∧Wy e l=Wy e' l
 |[],_=>⟨rfl,rfl⟩
 |(n,x)::r,h=>by
  obtain⟨h1,h2⟩:=zc (e:=e) (e':=e') (x:=x) (fun t ht=>h t (by simp[ht]))
  obtain⟨h3,h4⟩:=Vp (e:=e) (e':=e') (l:=r) (fun t ht=>h t (by simp only[List.flatMap_cons,pR];exact .inr ht))
  simp only[evI,Wy,h1,h2,h3,h4,and_self]
theorem Un{e e':Env}{H:AHeap}{op:LOp}(h:∀t∈op.tmps,e.get t=e'.get t):xh e H op=xh e' H op:=by
 have hl:∀ {a b:List Nat},(∀t∈a++b,e.get t=e'.get t)→(∀t∈a,e.get t=e'.get t)∧(∀t∈b,e.get t=e'.get t):=fun h=>⟨fun t ht=>h t (List.mem_append_left _ ht),fun t ht=>h t (List.mem_append_right _ ht)⟩
 cases op with
 |mv x=>obtain⟨h1,h2⟩:=zc h;simp only[xh,h1,h2]
 |pick c a b=>
  obtain⟨h12,h3⟩:=hl h
  obtain⟨h1,h2⟩:=hl h12
  obtain⟨a1,a2⟩:=zc h1
  obtain⟨b1,b2⟩:=zc h2
  obtain⟨c1,c2⟩:=zc h3
  simp only[xh,a1,a2,b1,b2,c1,c2]
 |build zs parts=>obtain⟨h1,h2⟩:=Ul h;simp only[xh,h1,h2]
 |load g n a=>obtain⟨h1,h2⟩:=zc h;simp only[xh,h1,h2]
 |nilck x=>obtain⟨h1,h2⟩:=zc h;simp only[xh,h1,h2]
 |bin op x y=>
  obtain⟨h1,h2⟩:=hl h
  obtain⟨a1,a2⟩:=zc h1
  obtain⟨b1,b2⟩:=zc h2
  simp only[xh,a1,a2,b1,b2]
 |eq neg k x y=>
  obtain⟨h1,h2⟩:=hl h
  obtain⟨a1,a2⟩:=zc h1
  obtain⟨b1,b2⟩:=zc h2
  simp only[xh,a1,a2,b1,b2]
 |un op x=>obtain⟨h1,h2⟩:=zc h;simp only[xh,h1,h2]
 |conv k x=>
  obtain⟨h1,h2⟩:=zc h
  cases k<;>simp only[xh,h1,h2]
 |mkfn f a c=>
  obtain⟨h1,h2⟩:=hl h
  obtain⟨a1,a2⟩:=uw h1
  obtain⟨b1,b2⟩:=uw h2
  simp only[xh,a1,a2,b1,b2]
 |slStr x lo hi=>
  obtain⟨h12,h3⟩:=hl h
  obtain⟨h1,h2⟩:=hl h12
  obtain⟨a1,a2⟩:=zc h1
  obtain⟨b1,b2,_⟩:=Y9 h2
  obtain⟨c1,c2,_⟩:=Y9 h3
  simp only[xh,a1,a2,b1,b2,c1,c2]
 |slSl s x lo hi mx=>
  obtain⟨h123,h4⟩:=hl h
  obtain⟨h12,h3⟩:=hl h123
  obtain⟨h1,h2⟩:=hl h12
  obtain⟨a1,a2⟩:=zc h1
  obtain⟨b1,b2,_⟩:=Y9 h2
  obtain⟨c1,c2,_⟩:=Y9 h3
  obtain⟨_,d2,d3⟩:=Y9 h4
  simp only[xh,a1,a2,b1,b2,c1,c2,d2,d3]
 |slAr k s x=>obtain⟨h1,h2⟩:=zc h;simp only[xh,h1,h2]
 |faddr off x=>obtain⟨h1,h2⟩:=zc h;simp only[xh,h1,h2]
 |field g n off x=>obtain⟨h1,h2⟩:=zc h;simp only[xh,h1,h2]
 |iaddr s x i=>
  obtain⟨h1,h2⟩:=hl h
  obtain⟨a1,a2⟩:=zc h1
  obtain⟨b1,b2⟩:=zc h2
  simp only[xh,a1,a2,b1,b2]
 |iaddrA n s x i=>
  obtain⟨h1,h2⟩:=hl h
  obtain⟨a1,a2⟩:=zc h1
  obtain⟨b1,b2⟩:=zc h2
  simp only[xh,a1,a2,b1,b2]
 |iaddrR n s x i=>
  obtain⟨h1,h2⟩:=hl h
  obtain⟨a1,a2⟩:=zc h1
  obtain⟨b1,b2⟩:=zc h2
  simp only[xh,a1,a2,b1,b2]
 |idxS x i=>
  obtain⟨h1,h2⟩:=hl h
  obtain⟨a1,a2⟩:=zc h1
  obtain⟨b1,b2⟩:=zc h2
  simp only[xh,a1,a2,b1,b2]
 |idxA n s g x i=>
  obtain⟨h1,h2⟩:=hl h
  obtain⟨a1,a2⟩:=zc h1
  obtain⟨b1,b2⟩:=zc h2
  simp only[xh,a1,a2,b1,b2]
 |mlook ks ka g ok zs x k=>
  obtain⟨h1,h2⟩:=hl h
  obtain⟨a1,a2⟩:=zc h1
  obtain⟨b1,b2⟩:=zc h2
  simp only[xh,a1,a2,b1,b2]
 |mlen x=>obtain⟨h1,h2⟩:=zc h;simp only[xh,h1,h2]
 |ext k x=>obtain⟨h1,h2⟩:=zc h;simp only[xh,h1,h2]
 |len b x=>obtain⟨h1,h2⟩:=zc h;cases b<;>simp only[xh,h1,h2]
 |mnx m args=>obtain⟨h1,h2⟩:=uw h;simp only[xh,h1,h2]
 |_=>rfl
theorem z1f{e e':Env}{H:AHeap}{n:Nat}{K:AVal→AHeap→Nat→Prop}{op:LOp}(h:∀t∈op.tmps,e.get t=e'.get t):wh P e H n K op=wh P e' H n K op:=by
 have hl:∀ {a b:List Nat},(∀t∈a++b,e.get t=e'.get t)→(∀t∈a,e.get t=e'.get t)∧(∀t∈b,e.get t=e'.get t):=fun h=>⟨fun t ht=>h t (List.mem_append_left _ ht),fun t ht=>h t (List.mem_append_right _ ht)⟩
 cases op with
 |box x=>obtain⟨h1,h2⟩:=zc h;simp only[wh,h1,h2]
 |mkSl vm s zs len parts=>obtain⟨h1,h2⟩:=Vp h;simp only[wh,h1,h2]
 |store m a x=>
  obtain⟨h1,h2⟩:=hl h
  obtain⟨a1,a2⟩:=zc h1
  obtain⟨b1,b2⟩:=zc h2
  simp only[wh,a1,a2,b1,b2]
 |conv k x=>
  obtain⟨h1,h2⟩:=zc h
  cases k<;>simp only[wh,h1,h2]
 |mkslice vm s b zs l c=>
  obtain⟨h1,h2⟩:=hl h
  obtain⟨a1,a2⟩:=zc h1
  obtain⟨b1,b2⟩:=zc h2
  simp only[wh,a1,a2,b1,b2]
 |call f args=>obtain⟨h1,h2⟩:=uw h;simp only[wh,h1,h2]
 |callv x args=>
  obtain⟨h1,h2⟩:=hl h
  obtain⟨a1,a2⟩:=zc h1
  obtain⟨b1,b2⟩:=uw h2
  simp only[wh,a1,a2,b1,b2]
 |app vm s b x y=>
  obtain⟨h1,h2⟩:=hl h
  obtain⟨a1,a2⟩:=zc h1
  obtain⟨b1,b2⟩:=zc h2
  simp only[wh,a1,a2,b1,b2]
 |mkmap r=>cases r<;>rfl
 |range x=>obtain⟨h1,h2⟩:=zc h;simp only[wh,h1,h2]
 |next x=>obtain⟨h1,h2⟩:=zc h;simp only[wh,h1,h2]
 |entry x=>obtain⟨h1,h2⟩:=zc h;simp only[wh,h1,h2]
 |mset ks ka g zs m k x=>
  obtain⟨h12,h3⟩:=hl h
  obtain⟨h1,h2⟩:=hl h12
  obtain⟨a1,a2⟩:=zc h1
  obtain⟨b1,b2⟩:=zc h2
  obtain⟨c1,c2⟩:=zc h3
  simp only[wh,a1,a2,b1,b2,c1,c2]
 |mdel ks ka m k=>
  obtain⟨h1,h2⟩:=hl h
  obtain⟨a1,a2⟩:=zc h1
  obtain⟨b1,b2⟩:=zc h2
  simp only[wh,a1,a2,b1,b2]
 |copy s x y=>
  obtain⟨h1,h2⟩:=hl h
  obtain⟨a1,a2⟩:=zc h1
  obtain⟨b1,b2⟩:=zc h2
  simp only[wh,a1,a2,b1,b2]
 |_=>rfl
theorem zd8{s bytes:Nat}{H:AHeap}{n:Nat}{K K':AVal→AHeap→Nat→Prop}{x:AVal}{rows2:List (List AVal)}(hk:∀r H n,K r H n→K' r H n)(h:z4z s bytes H n K x rows2):z4z s bytes H n K' x rows2:=by
 unfold z4z at h ⊢
 split at h
 ·exact⟨h.1,hk _ _ _ h.2⟩
 ·exact⟨h.1,h.2.1,h.2.2.1,hk _ _ _ h.2.2.2⟩
 ·exact⟨h.1,h.2.1,h.2.2.1,hk _ _ _ h.2.2.2⟩
 ·exact h.elim
theorem zds{s bytes:Nat}{H:AHeap}{n:Nat}{K K':AVal→AHeap→Nat→Prop}{x:AVal}{rows2:List (List AVal)}(hk:∀r H n,K r H n→K' r H n)(h:zjn s bytes H n K x rows2):zjn s bytes H n K' x rows2:=by
 unfold zjn at h ⊢
 split at h
 ·exact⟨fun hr=>hk _ _ _ (h.1 hr),fun hr=>⟨(h.2 hr).1,hk _ _ _ (h.2 hr).2⟩⟩
 ·exact⟨h.1,fun hr=>hk _ _ _ (h.2.1 hr),fun hr=>⟨(h.2.2 hr).1,(h.2.2 hr).2.1,hk _ _ _ (h.2.2 hr).2.2⟩⟩
 ·split at h
  ·rename_i hg
   try simp only[hg]
   exact⟨h.1,h.2.1,h.2.2.1,fun hf hr=>hk _ _ _ (h.2.2.2.1 hf hr),fun hr=>⟨(h.2.2.2.2 hr).1,hk _ _ _ (h.2.2.2.2 hr).2⟩⟩
  ·exact h.elim
 ·exact h.elim
theorem Zz{e:Env}{H:AHeap}{n:Nat}{K K':AVal→AHeap→Nat→Prop}{op:LOp}(hk:∀r H n,K r H n→K' r H n)(h:wh P e H n K op):wh P e H n K' op:=by
 cases op<;>simp only[wh] at h ⊢<;>try (exact h.elim)
 case alloc zs=>exact hk _ _ _ h
 case allocR s zs=>exact hk _ _ _ h
 case allocB T el=>exact hk _ _ _ h
 case box x=>
  split at h<;>try (exact h.elim)
  rename_i hc
  try simp only[hc]
  exact⟨h.1,hk _ _ _ h.2⟩
 case mkSl vm s zs len parts=>
  split at h<;>try (exact h.elim)
  rename_i hr
  try simp only[hr]
  cases vm with
  |true=>
   simp only at h ⊢
   split at h<;>try (exact h.elim)
   rename_i hi
   try simp only[hi]
   exact⟨h.1,h.2.1,h.2.2.1,hk _ _ _ h.2.2.2⟩
  |false=>
   obtain⟨h1,h2,h3,rs,h4,h5⟩:=h
   exact⟨h1,h2,h3,rs,h4,hk _ _ _ h5⟩
 case store m a x=>
  split at h<;>try (exact h.elim)
  rename_i ha hc
  try simp only[ha,hc]
  split at h
  ·rename_i hg
   try simp only[hg]
   exact⟨h.1,h.2.1,h.2.2.1,h.2.2.2.1,h.2.2.2.2.1,hk _ _ _ h.2.2.2.2.2⟩
  ·rename_i hg
   try simp only[hg]
   exact⟨h.1,h.2.1,h.2.2.1,h.2.2.2.1,h.2.2.2.2.1,hk _ _ _ h.2.2.2.2.2⟩
  ·exact h.elim
 case conv k x=>
  cases k<;>(try simp only at h ⊢)<;>try (exact h.elim)
  case s2b vm=>
   split at h<;>try (exact h.elim)
   rename_i hl
   try simp only[hl]
   cases vm<;>exact⟨h.1,hk _ _ _ h.2⟩
  case b2s=>
   split at h<;>try (exact h.elim)
   rename_i hl
   try simp only[hl]
   exact⟨h.1,h.2.1,h.2.2.1,h.2.2.2.1,hk _ _ _ h.2.2.2.2⟩
 case mkslice vm s bytes zs l c=>
  split at h<;>try (exact h.elim)
  rename_i hl hc
  try simp only[hl,hc]
  cases vm with
  |true=>exact⟨h.1,h.2.1,h.2.2.1,h.2.2.2.1,h.2.2.2.2.1,hk _ _ _ h.2.2.2.2.2⟩
  |false=>
   obtain⟨h1,h2,h3,h4,h5,rows,h7,h6⟩:=h
   exact⟨h1,h2,h3,h4,h5,rows,h7,hk _ _ _ h6⟩
 case call f args=>exact⟨h.1,h.2.mono hk⟩
 case mkmap r=>
  cases r with
  |none=>exact hk _ _ _ h
  |some x=>exact h.elim
 case range x=>
  split at h
  ·rename_i hx
   try simp only[hx]
   split at h<;>try (exact h.elim)
   rename_i hg
   try simp only[hg]
   exact⟨h.1,fun arr ck=>hk _ _ _ (h.2 arr ck)⟩
  ·rename_i hx
   try simp only[hx]
   exact⟨h.1,hk _ _ _ h.2⟩
  ·exact h.elim
 case next x=>
  split at h<;>try (exact h.elim)
  rename_i hx
  try simp only[hx]
  split at h
  ·rename_i hg
   try simp only[hg]
   exact⟨h.1,hk _ _ _ h.2⟩
  ·rename_i hg
   try simp only[hg]
   split at h<;>try (exact h.elim)
   rename_i hb
   try simp only[hb]
   exact⟨h.1,h.2.1,h.2.2.1,fun q=>hk _ _ _ (h.2.2.2.1 q),fun j h1 h2=>hk _ _ _ (h.2.2.2.2 j h1 h2)⟩
  ·exact h.elim
 case entry x=>
  split at h<;>try (exact h.elim)
  rename_i hx
  try simp only[hx]
  split at h<;>try (exact h.elim)
  rename_i hg
  try simp only[hg]
  split at h<;>try (exact h.elim)
  rename_i hb
  try simp only[hb]
  obtain⟨h1,h2,h3,p,h4,h5⟩:=h
  exact⟨h1,h2,h3,p,h4,hk _ _ _ h5⟩
 case mset ks ka g zs m k x=>
  split at h<;>try (exact h.elim)
  rename_i hm hy
  try simp only[hm,hy]
  split at h<;>try (exact h.elim)
  rename_i hg
  try simp only[hg]
  split at h<;>try (exact h.elim)
  rename_i hp
  try simp only[hp]
  exact⟨h.1,h.2.1,h.2.2.1,h.2.2.2.1,hk _ _ _ h.2.2.2.2⟩
 case mdel ks ka m k=>
  split at h<;>try (exact h.elim)
  rename_i hm
  try simp only[hm]
  split at h<;>try (exact h.elim)
  rename_i hg
  try simp only[hg]
  split at h<;>try (exact h.elim)
  rename_i hp
  try simp only[hp]
  exact⟨h.1,h.2.1,h.2.2.1,hk _ _ _ h.2.2.2⟩
 case callv x args=>
  split at h<;>try (exact h.elim)
  rename_i hx
  try simp only[hx]
  exact⟨h.1,h.2.1,h.2.2.mono hk⟩
 case app vm s bytes x y=>
  split at h<;>try (exact h.elim)
  rename_i hr
  try simp only[hr]
  cases vm with
  |true=>
   simp only at h ⊢
   split at h<;>try (exact h.elim)
   rename_i hi
   try simp only[hi]
   exact⟨h.1,h.2.1,h.2.2.1,zd8 hk h.2.2.2⟩
  |false=>exact⟨h.1,h.2.1,h.2.2.1,zds hk h.2.2.2⟩
 case copy s x y=>
  split at h<;>try (exact h.elim)
  rename_i hx hr
  try simp only[hx,hr]
  split at h<;>try (exact h.elim)
  rename_i hg
  try simp only[hg]
  exact⟨h.1,h.2.1,h.2.2.1,h.2.2.2.1,h.2.2.2.2.1,h.2.2.2.2.2.1,hk _ _ _ h.2.2.2.2.2.2⟩
theorem z96{lo:LOper}{e:Env}{t:Nat}(h:t∈lo.looks):(lo.sees e).get t=e.get t:=by
 unfold LOper.sees
 generalize lo.looks=l at h
 induction l with
 |nil=>cases h
 |cons a r ih=>
  simp only[pI,Env.get]
  split
  ·rename_i h1;rw[h1]
  ·rename_i h1
   rcases pH.1 h with e'|h
   ·exact absurd e'.symm h1
   ·exact ih h
theorem Wg{lo:LOper}{e:Env}:∀t∈lo.op.tmps,(lo.sees e).get t=e.get t:=fun t ht=>z96 (by unfold LOper.looks;exact List.mem_append_left _ ht)
theorem zcx{d:Option Nat}{op:LOp}{g:Nat}{w:Bool}{e:Env}:((⟨d,op,some (g,w)⟩:LOper).sees e).get g=e.get g:=z96 (by simp[LOper.looks])
theorem vb{R:Env→AHeap→Nat→Prop}:∀ (items:List DItem) {p:Nat} {done:List (Nat×LOper×Env×AVal)} {e:Env} {H:AHeap} {n:Nat},(items.all fun it=>it.loose.isEmpty)=true→X3 P (items.map (·.lo)) R e H n→xd P items p done R e H n
 |[],p,done,e,H,n,_,h=>h
 |⟨⟨d,op,none⟩,loose⟩::rest,p,done,e,H,n,hl,h=>by
  simp only[List.all_cons,p3] at hl
  have hlo:loose=[]:=by simpa using hl.1
  simp only[pI,X3] at h
  unfold xd
  try simp only
  split at h
  ·rename_i hp
   try simp only[hp]
   split at h
   ·rename_i side v hx
    refine⟨v,?_,vb rest hl.2 h.2⟩
    unfold Yh
    try simp only
    rw[Un (e':=e) (fun t ht=>Wg (lo:=⟨d,op,none⟩) t ht),hx]
    exact⟨h.1,.inl rfl⟩
   ·exact h.elim
  ·rename_i hp
   try simp only[hp]
   unfold Vv
   try simp only
   rw[z1f (e':=e) (fun t ht=>Wg (lo:=⟨d,op,none⟩) t ht)]
   refine Zz (fun r H' n' hk=>⟨(fun x _ hx=>by rw[hlo] at hx;cases hx),vb rest hl.2 hk⟩) h
 |⟨⟨d,op,some (g,want)⟩,loose⟩::rest,p,done,e,H,n,hl,h=>by
  simp only[List.all_cons,p3] at hl
  have hlo:loose=[]:=by simpa using hl.1
  simp only[pI,X3] at h
  unfold xd
  try simp only
  split at h<;>try (exact h.elim)
  rename_i q hq
  have hg:kc (((⟨d,op,some (g,want)⟩:LOper).sees e).get g) want=some q:=by rw[zcx];exact hq
  split at h
  ·rename_i hp
   try simp only[hp]
   unfold Yh
   try simp only
   try simp only[hg]
   rw[Un (e':=e) (fun t ht=>Wg (lo:=⟨d,op,some (g,want)⟩) t ht)]
   split at h
   ·rename_i side v hx
    try simp only[hx]
    rcases h with⟨u,h1,h2⟩|⟨h1,h2⟩
    ·exact⟨.cnd q u,⟨fun hq=>(h1 hq).1,.inr (.inr ⟨q,v,u,rfl,rfl,fun hq=>(h1 hq).2⟩)⟩,vb rest hl.2 h2⟩
    ·refine⟨.tup [],⟨(fun hq=>by rw[h1] at hq;cases hq),.inr (.inl ⟨.inr ⟨v,by rw[h1]⟩,.inl rfl⟩)⟩,vb rest hl.2 h2⟩
   ·rename_i hx
    try simp only[hx]
    exact⟨.tup [],⟨h.1,.inl rfl⟩,vb rest hl.2 h.2⟩
  ·rename_i hp
   try simp only[hp]
   unfold Vv
   try simp only
   try simp only[hg]
   have hk:∀ (K:AVal→AHeap→Nat→Prop) (hh:q=true→wh P e H n K op),q=true→wh P ((⟨d,op,some (g,want)⟩:LOper).sees e) H n K op:=fun K hh hq=>by
    rw[z1f (e':=e) (fun t ht=>Wg (lo:=⟨d,op,some (g,want)⟩) t ht)];exact hh hq
   rcases h with⟨R',h1,h2⟩|⟨h1,h2⟩
   ·exact Or.inl ⟨R',(hk _ h1),(fun x _ hx=>by rw[hlo] at hx;cases hx),vb rest hl.2 h2⟩
   ·refine Or.inr ⟨hk _ (fun hq=>Zz (fun r H' n' hk=>⟨(fun x _ hx=>by rw[hlo] at hx;cases hx),vb rest hl.2 hk⟩) (h1 hq)),fun hq=>(h2 hq).elim fun u hu=>⟨u,hu.1,(fun x _ hx=>by rw[hlo] at hx;cases hx),vb rest hl.2 hu.2⟩⟩
theorem zj0{N:Lay}{n0:Nat}{items:List DItem}{Q:Exit→Env→AHeap→Nat→Prop}{e:Env}{H:AHeap}{n:Nat}(hl:(items.all fun it=>it.loose.isEmpty)=true)(h:zjo P (items.map (·.lo)) (Q .normal) e H n):LWp P N n0 (.draw items) Q e H n:=
 y9 (.draw items) Q e H n (vb items hl (X6 _ h))
def lk{κ α:Type}(q:κ→κ→Bool):List (κ×α)→κ→Option α
 |[],_=>none
 |(k',v)::r,k=>if q k k'=true then some v else lk q r k
def mp{κ α:Type}(q:κ→κ→Bool):List (κ×α)→κ→α→List (κ×α)
 |[],k,v=>[(k,v)]
 |(k',v')::r,k,v=>if q k k'=true then(k,v)::r else(k',v')::mp q r k v
def md{κ α:Type}(q:κ→κ→Bool):List (κ×α)→κ→List (κ×α)
 |[],_=>[]
 |(k',v')::r,k=>if q k k'=true then r else(k',v')::md q r k
def em{κ α:Type}(ek:κ→AVal)(ev:α→AVal)(p:κ×α):AVal×AVal:=(ek p.1,ev p.2)
end Go.Fx
namespace Go.Fx
open Go
section
variable {P:Program} {I:Nat→Nat→Prop} {β:Id→Option CLoc} {n:Nat} {H:AHeap} {w:World}
theorem U0(hI:Inv I β n H w)(s:Nat) :
 ∃β',Inv I β' (n+1) (((n,0),.rows s [])::H) w∧Ext I β n H w I β' (n+1) (((n,0),.rows s [])::H) w∧(∀ {x:AVal} {v:Value},Rep I β n w x v→Rep I β' (n+1) w x v):=by
 have hup:∀id d,id.1<n→upd β (n,0) (some ⟨0,0,0,0,s⟩) id=some d→β id=some d:=fun id d hid hd=>by
  rwa [ze _ _ (fun h=>by subst h;exact absurd hid (Nat.lt_irrefl n))] at hd
 have hno:∀ (d:CLoc) (x k:Nat),d=⟨0,0,0,0,s⟩→¬d.has x k:=fun d x k h hk=>by subst h;exact absurd hk.2.2 (pU k)
 obtain⟨g1,g2⟩:=wk (I':=I) (β':=upd β (n,0) (some ⟨0,0,0,0,s⟩)) (n':=n+1) (H':=((n,0),.rows s [])::H) hI (Chg.refl w (fun _ _=>False)) (Nat.le_succ n) (fun _ _ h=>h.elim) (fun _ _ h=>h) (fun _ _ h h'=>absurd h h') (fun id hid=>.inl (ze _ _ (vn hid)))
  (fun id d x k hid hd hk=>by
   rcases j6 hd hI.fresh with⟨_,rfl⟩|⟨h,_⟩
   ·exact absurd hk (hno _ _ _ rfl)
   ·omega)
  (fun id hid=>by
   rw[ze _ _ (fun h=>by subst h;exact absurd hid (Nat.not_succ_le_self n))]
   exact hI.fresh id (by omega))
  (fun i j d d' x k hi hj hk hk' hn=>by
   rcases j6 hj hI.fresh with⟨rfl,rfl⟩|⟨h,_⟩
   ·exact absurd hk' (hno _ _ _ rfl)
   ·omega)
  (fun i d x k _ _ h=>h)
  (fun id hid hg=>by rwa [AHeap.get_cons_other _ _ (vn hid).symm] at hg)
  (fun id blk' hid=>by
   by_cases h:(n,0)=id
   ·subst h
    rw[AHeap.get_cons_same] at hid
    simp only[p0] at hid
    subst hid
    exact .inr ⟨_,qr _ _ _,rfl,.inr ⟨rfl,rfl,rfl⟩,fun k _ hk=>absurd hk (pU k),pN _,by simp,fun i r hi=>by simp at hi,fun i r j x hi=>by simp at hi⟩
   ·rw[AHeap.get_cons_other _ _ h] at hid
    exact .inl ⟨hid,ze _ _ (fun h'=>h h'.symm),fun _ _ _ _ _ h=>h⟩)
 exact⟨_,g1,g2,fun hr=>hr.mono' (fun _ _ h=>h) (fun _ _ _=>rfl) (Nat.le_succ n) hup⟩
theorem LWp.ghost{N:Lay}{n0:Nat}{lc:LCode}{Q:Exit→Env→AHeap→Nat→Prop}{e:Env}(s:Nat)
 (h:LWp P N n0 lc Q e (((n,0),.rows s [])::H) (n+1)):LWp P N n0 lc Q e H n:=by
 intro c hc ro hro J0 γ0 G0 w0 I β w a hX hI hE hN hD QQ hQ
 obtain⟨β',g1,g2,g3⟩:=U0 hI s
 exact h c hc ro hro J0 γ0 G0 w0 I β' w a (hX.trans g2) g1 (fun t=>g3 (hE t)) hN hD QQ hQ
end
end Go.Fx
namespace Go.Fx
open Go
section
variable {P:Program} {I:Nat→Nat→Prop} {β:Id→Option CLoc} {n:Nat} {H:AHeap} {w:World}
def zxw(P:Program)(f:FuncId):Prop:=∀ (b:Nat) (es:Array MapEntry) (ck:Nat) (w:World),w.heap[b]?=some (.map es ck) →
 Calls P f #[.map (some b)] w fun e w'=>e=.returned (.map (some w.heap.size))∧w'=w.alloc (.map es ck)
theorem za4{o:Oper}{a:Act}{w w':World}{next:Act→World→Prop}{Q:Exit→Act→World→Prop}{s:Sem Value}{v:Value}(he:execOp a.eval o=(do pure (.value (←s)):Sem Next))(hs:s.run P w=.ok v w')(h:next (a.put o.dst v) w'):o.wp P a w next Q:=by
 unfold Oper.wp
 rw[he,Sem.run_bind,hs]
 exact h
end
end Go.Fx
namespace Go.Fx
def zce(I:Nat→Nat→Prop)(w:World)(aq:List AVal)(cs:List Value):Prop:=
 cs.length=aq.length∧(∀v∈cs,qm v=true)∧∀ (i:Nat) (a:AVal) (v:Value),aq[i]?=some a→cs[i]?=some v→RepI I w a v
def old(w:World):Nat→Nat→Prop:=fun b k=>∃v,w.cell? ⟨b,k,none⟩=some v
structure RA(P:Program)(t:TypeId)(α:Type)(e:α→List AVal)(ok:α→Prop):Prop where
 size:∀x,(e x).length=P.cellsOf t
 reads:∀ {H:Type} {enc:TypeId×Value→H} {w:World} {fuel:Nat} {cs:List Value} {d:DataW H} {ps:List MemPlace},pP enc P w 0 (fun _=>true) true fuel t cs=some (d,ps)→(∀n∈d.weights P t,n≤reachBytes)→∃x,ok x∧zce (old w) w (e x) cs
variable {P:Program}
theorem RA.map{t:TypeId}{α γ:Type}{e:α→List AVal}{ok:α→Prop}(h:RA P t α e ok)(g:α→γ){e':γ→List AVal}{ok':γ→Prop}(he:∀x,e' (g x)=e x)(hg:∀y,∃x,y=g x)(hok:∀x,ok x→ok' (g x)):RA P t γ e' ok':=
 ⟨fun y=>by obtain⟨x,rfl⟩:=hg y;rw[he];exact h.size x,fun h1 h2=>by
  obtain⟨x,h3,h4⟩:=h.reads h1 h2
  exact⟨g x,hok x h3,by rw[he];exact h4⟩⟩
theorem Qq{I:Nat→Nat→Prop}{w:World}{a:AVal}{v:Value}(h:RepI I w a v)(hc:qm v=true):zce I w [a] [v]:=by
 refine⟨rfl,by simpa using hc,fun i x u hx hu=>?_⟩
 cases i with
 |zero=>simp at hx hu;subst hx;subst hu;exact h
 |succ i=>simp at hx
theorem RA.bool{t:TypeId}(ht:P.underlying t=some .bool)(hs:P.cellsOf t=1):RA P t Bool (fun b=>[.bool b]) (fun _=>True):=by
 refine⟨fun _=>hs.symm,fun {H enc w fuel cs d ps} h _=>?_⟩
 cases fuel with
 |zero=>cases h
 |succ fuel=>
  unfold pP at h
  simp only[ht] at h
  split at h<;>try (simp at *;done)
  rename_i b _
  exact⟨b,trivial,Qq (.bool b) rfl⟩
theorem RA.int{t:TypeId}{k:IntKind}(ht:P.underlying t=some (.int k))(hs:P.cellsOf t=1):RA P t Int (fun n=>[.int k n]) (fun n=>k.min≤n∧n≤k.max):=by
 refine⟨fun _=>hs.symm,fun {H enc w fuel cs d ps} h _=>?_⟩
 cases fuel with
 |zero=>cases h
 |succ fuel=>
  unfold pP at h
  rcases cs with _|⟨v,_|⟨v2,r⟩⟩
  ·simp[ht] at h
  ·cases v<;>simp only[ht] at h<;>try (cases h;done)
   rename_i k2 m
   split at h<;>try (cases h;done)
   rename_i hk
   obtain⟨rfl,hwf⟩:=hk
   simp only[Lit.wf,p3,decide_eq_true_eq] at hwf
   exact⟨m,hwf,Qq (.int _ m) rfl⟩
  ·simp[ht] at h
theorem RA.string{t:TypeId}(ht:P.underlying t=some .string)(hs:P.cellsOf t=1):RA P t (List UInt8) (fun l=>[.str l]) (fun l=>l.length≤reachBytes):=by
 refine⟨fun _=>hs.symm,fun {H enc w fuel cs d ps} h hw=>?_⟩
 cases fuel with
 |zero=>cases h
 |succ fuel=>
  unfold pP at h
  simp only[ht] at h
  split at h<;>try (simp at *;done)
  rename_i s _
  split at h<;>try (cases h;done)
  simp only[p0,pE] at h
  obtain⟨rfl,_⟩:=h
  refine⟨s.data.toList,?_,Qq ?_ rfl⟩
  ·exact hw _ (by simp[DataW.weights])
  ·exact .str s.data.toList
theorem Jr{α γ:Type}{f:α→Option γ}:∀ {l:List α} {r:List γ},l.mapM f=some r→r.length=l.length∧∀ (i:Nat) (a:α) (b:γ),l[i]?=some a→r[i]?=some b→f a=some b
 |[],r,h=>by simp at h;subst h;simp
 |a::l,r,h=>by
  rw[List.mapM_cons] at h
  cases hf:f a with
  |none=>rw[hf] at h;cases h
  |some b=>
   cases hr:l.mapM f with
   |none=>rw[hf,hr] at h;cases h
   |some r'=>
    rw[hf,hr] at h
    simp at h
    subst h
    obtain⟨h1,h2⟩:=Jr hr
    refine⟨by simp[h1],fun i x y hx hy=>?_⟩
    cases i with
    |zero=>simp at hx hy;subst hx;subst hy;exact hf
    |succ i=>exact h2 i x y (by simpa using hx) (by simpa using hy)
theorem cells?_get {w:World} {a:Addr} {n:Nat} {cs:List Value} (h:w.cells? 0 a n=some cs):cs.length=n∧∀j v,cs[j]?=some v→w.cell? (a.add j)=some v:=by
 unfold World.cells? at h
 rw[if_pos (Nat.zero_le _)] at h
 obtain⟨h1,h2⟩:=Jr h
 refine⟨by simpa using h1,fun j v hj=>?_⟩
 have hlt:j<n:=by
  rcases pV j n with h|h
  ·exact h
  ·rw[pM (by rw[h1];simpa using h)] at hj;cases hj
 exact h2 j j v (List.getElem?_range hlt) hj
theorem Xv{H:Type}{P:Program}{e:TypeId}:∀ {l:List (DataW H)} {d:DataW H},d∈l→∀n∈d.weights P e,n∈DataW.weightsAll P e l
 |x::l,d,hd,n,hn=>by
  simp only[DataW.weightsAll,pR]
  rcases pH.1 hd with rfl|h
  ·exact .inl hn
  ·exact .inr (Xv h n hn)
theorem Ua{α:Type}(p:Nat→α→Prop):∀ (n:Nat),(∀i,i<n→∃x,p i x)→∃l:List α,l.length=n∧∀i x,l[i]?=some x→p i x
 |0,_=>⟨[],rfl,fun i x h=>by simp at h⟩
 |n+1,h=>by
  obtain⟨l,h1,h2⟩:=Ua p n (fun i hi=>h i (by omega))
  obtain⟨x,hx⟩:=h n (by omega)
  refine⟨l++[x],by simp[h1],fun i y hy=>?_⟩
  rw[List.getElem?_append] at hy
  split at hy
  ·exact h2 i y hy
  ·rename_i hge
   rw[h1] at hge hy
   cases hi:i-n with
   |zero=>rw[hi] at hy;simp at hy;subst hy;have:i=n:=by omega
          subst this;exact hx
   |succ k=>rw[hi] at hy;simp at hy
theorem RA.slice{t c:TypeId}{α:Type}{e:α→List AVal}{ok:α→Prop}(ht:P.underlying t=some (.slice c))(hs:P.cellsOf t=1)(hc:0<P.cellsOf c)(h:RA P c α e ok) :
 RA P t (List α) (fun l=>[.isl (P.cellsOf c) (l.map e) false]) (fun l=>l.length≤maxLen∧l.length*P.bytesOf c≤reachBytes∧∀x∈l,ok x):=by
 refine⟨fun _=>hs.symm,fun {H enc w fuel cs d ps} hd hw=>?_⟩
 cases fuel with
 |zero=>cases hd
 |succ fuel=>
  unfold pP at hd
  rcases cs with _|⟨v,_|⟨v2,r⟩⟩
  ·simp[ht] at hd
  ·cases v<;>simp only[ht] at hd<;>try (cases hd;done)
   rename_i ad len cap
   cases ad with
   |none=>
    rcases len with _|len<;>rcases cap with _|cap<;>simp only at hd<;>try (cases hd;done)
    exact⟨[],⟨Nat.zero_le _,by simp,by simp⟩,Qq (.islNil _ _) rfl⟩
   |some ad=>
    simp only at hd
    split at hd<;>try (cases hd;done)
    rename_i hcond
    obtain⟨_,hlc,hcm⟩:=hcond
    cases hel:(List.range len).mapM (fun i=>(w.cells? 0 (ad.add (i*P.cellsOf c)) (P.cellsOf c)).bind (pP enc P w 0 (fun _=>true) true fuel c)) with
    |none=>rw[hel] at hd;cases hd
    |some elems=>
     rw[hel] at hd
     simp only[Option.bind_some,if_true,pL,pE] at hd
     obtain⟨rest,hrest,hd1,_⟩:=hd
     obtain⟨k1,k2⟩:=Jr hel
     obtain⟨k3,_⟩:=Jr hrest
     subst hd1
     have hw1:(elems.length+rest.length)*P.bytesOf c≤reachBytes:=by
      have:=hw ((elems.length+rest.length)*P.bytesOf c) (by simp[DataW.weights,ht])
      exact this
     have hle:len*P.bytesOf c≤reachBytes:=by
      have:len*P.bytesOf c≤(elems.length+rest.length)*P.bytesOf c:=Nat.mul_le_mul_right _ (by rw[k1];simp)
      omega
     -- every element reads
     have each:∀i,i<len→∃x,ok x∧∃cs',w.cells? 0 (ad.add (i*P.cellsOf c)) (P.cellsOf c)=some cs'∧zce (old w) w (e x) cs':=by
      intro i hi
      have hli:i<elems.length:=by rw[k1];simpa using hi
      have hget:=k2 i i elems[i] (List.getElem?_range hi) (p2 hli)
      cases hcs:w.cells? 0 (ad.add (i*P.cellsOf c)) (P.cellsOf c) with
      |none=>rw[hcs] at hget;cases hget
      |some cs'=>
       rw[hcs] at hget
       simp only[Option.bind_some] at hget
       obtain⟨x,hx1,hx2⟩:=h.reads (d:=elems[i].1) (ps:=elems[i].2) hget (fun m hm=>hw m (by
        simp only[DataW.weights,ht,pH,pR]
        exact .inr (.inl (Xv (List.mem_map_of_mem (List.getElem_mem hli)) m hm))))
       exact⟨x,hx1,cs',rfl,hx2⟩
     obtain⟨l,hl1,hl2⟩:=Ua (fun i x=>ok x∧∃cs',w.cells? 0 (ad.add (i*P.cellsOf c)) (P.cellsOf c)=some cs'∧zce (old w) w (e x) cs') len each
     subst hl1
     refine⟨l,⟨by omega,hle,fun x hx=>?_⟩,Qq ?_ rfl⟩
     ·obtain⟨i,hi⟩:=List.getElem?_of_mem hx
      exact(hl2 i x hi).1
     ·by_cases h0:l=[]
      ·subst h0
       exact .islEmpty _ _ _ _ (fun h=>by cases h)
      ·have hpos:0<l.length:=List.length_pos_iff.2 h0
       -- the block
       obtain⟨_,cs0,hcs0,hcell0⟩:=hl2 0 l[0] (p2 hpos)
       obtain⟨hn0,hg0⟩:=cells?_get hcs0
       have hc0:=hg0 0 cs0[0] (p2 (by omega))
       have hsp:=World.cell?_spot hc0
       obtain⟨b,o,sp⟩:=ad
       have hsp:sp=none:=by simpa[Addr.add] using hsp
       subst hsp
       have hb:b<w.heap.size:=by
        have:=World.block_lt_of_cell? _ _ hc0
        rwa [xg,xg] at this
       let vf:Nat→Nat→Value:=fun i j=>((w.cells? 0 ((⟨b,o,none⟩:Addr).add (i*P.cellsOf c)) (P.cellsOf c)).getD []).getD j default
       have key:∀i r j x,(l.map e)[i]?=some r→r[j]?=some x→w.cell? ⟨b,o+i*P.cellsOf c+j,none⟩=some (vf i j)∧qm (vf i j)=true∧RepI (old w) w x (vf i j):=by
        intro i r j x hr hx
        rw[p8] at hr
        cases hli:l[i]? with
        |none=>rw[hli] at hr;cases hr
        |some y=>
         rw[hli] at hr
         simp only[p9,p0] at hr
         subst hr
         obtain⟨_,cs',hcs',hl3,hl4,hl5⟩:=hl2 i y hli
         obtain⟨hn,hg⟩:=cells?_get hcs'
         have hj:j<cs'.length:=by
          rw[hl3]
          rcases pV j (e y).length with h|h
          ·exact h
          ·rw[pM h] at hx;cases hx
         have hv:vf i j=cs'[j]:=by simp only[vf,hcs',Option.getD_some,List.getD_eq_getElem?_getD,p2 hj]
         have:=hg j cs'[j] (p2 hj)
         rw[xg,xg] at this
         rw[hv]
         exact⟨this,hl4 _ (List.getElem_mem hj),hl5 j x _ hx (p2 hj)⟩
       have:=RepI.isl (I:=old w) (w:=w) (P.cellsOf c) (l.map e) false b o cap vf (fun i r j x h1 h2=>⟨_,(key i r j x h1 h2).1⟩) (by simpa using hlc) (fun h=>by cases h)
        (fun i r hr=>by
         rw[p8] at hr
         cases hli:l[i]? with
         |none=>rw[hli] at hr;cases hr
         |some y=>rw[hli] at hr;simp at hr;rw[←hr];exact h.size y)
        (fun i r j x h1 h2=>(key i r j x h1 h2).1) (fun i r j x h1 h2=>(key i r j x h1 h2).2.1) (fun i r j x h1 h2=>(key i r j x h1 h2).2.2)
       simpa using this
  ·simp[ht] at hd
structure RF(P:Program)(fs:List Field)(off tot:Nat)(α:Type)(e:α→List AVal)(ok:α→Prop):Prop where
 size:∀x,(e x).length=tot
 reads:∀ {H:Type} {enc:TypeId×Value→H} {w:World} {fuel:Nat} {cs:List Value} {xs:List (DataW H×List MemPlace)},fs.mapM (fun f=>pP enc P w 0 (fun _=>true) true fuel f.type ((cs.drop f.offset).take (P.cellsOf f.type)))=some xs →
  (∀n∈DataW.weightsEach P (fs.map (·.type)) (xs.map (·.1)),n≤reachBytes)→∃x,ok x∧zce (old w) w (e x) ((cs.drop off).take tot)
theorem RF.nil(off:Nat):RF P [] off 0 Unit (fun _=>[]) (fun _=>True):=
 ⟨fun _=>rfl,fun _ _=>⟨(),trivial,by simp[zce]⟩⟩
theorem RF.cons{f:Field}{fs:List Field}{off tot m:Nat}{α γ:Type}{e:α→List AVal}{ok:α→Prop}{e':γ→List AVal}{ok':γ→Prop}(ho:f.offset=off)(hm:P.cellsOf f.type=m)(h:RA P f.type α e ok)(h':RF P fs (off+m) tot γ e' ok') :
 RF P (f::fs) off (m+tot) (α×γ) (fun x=>e x.1++e' x.2) (fun x=>ok x.1∧ok' x.2):=by
 refine⟨fun x=>by rw[List.length_append,h.size,h'.size,hm],fun {H enc w fuel cs xs} hd hw=>?_⟩
 rw[List.mapM_cons] at hd
 cases h1:pP enc P w 0 (fun _=>true) true fuel f.type ((cs.drop f.offset).take (P.cellsOf f.type)) with
 |none=>rw[h1] at hd;cases hd
 |some y=>
  rw[h1] at hd
  cases h2:fs.mapM (fun f=>pP enc P w 0 (fun _=>true) true fuel f.type ((cs.drop f.offset).take (P.cellsOf f.type))) with
  |none=>rw[h2] at hd;cases hd
  |some ys=>
   rw[h2] at hd
   simp at hd
   subst hd
   simp only[pI,DataW.weightsEach,pR] at hw
   obtain⟨x,hx1,hx2,hx3,hx4⟩:=h.reads (d:=y.1) (ps:=y.2) h1 (fun n hn=>hw n (.inl hn))
   obtain⟨z,hz1,hz2,hz3,hz4⟩:=h'.reads h2 (fun n hn=>hw n (.inr hn))
   refine⟨(x,z),⟨hx1,hz1⟩,?_⟩
   subst ho
   have e1:(cs.drop f.offset).take (m+tot)=(cs.drop f.offset).take m++(cs.drop (f.offset+m)).take tot:=by
    rw[List.take_add,List.drop_drop]
   rw[e1]
   rw[hm] at hx2 hx3 hx4
   refine⟨by simp only[List.length_append,hx2,hz2],fun v hv=>?_,fun i a v ha hv=>?_⟩
   ·rcases pR.1 hv with h|h
    ·exact hx3 v h
    ·exact hz3 v h
   ·rw[List.getElem?_append] at ha hv
    rw[hx2] at hv
    split at ha
    ·rename_i hlt
     rw[if_pos hlt] at hv
     exact hx4 i a v ha hv
    ·rename_i hlt
     rw[if_neg hlt] at hv
     exact hz4 _ a v ha hv
theorem RA.struct{t:TypeId}{fs:Array Field}{α:Type}{e:α→List AVal}{ok:α→Prop}(ht:P.underlying t=some (.struct fs))(h:RF P fs.toList 0 (P.cellsOf t) α e ok):RA P t α e ok:=by
 refine⟨h.size,fun {H enc w fuel cs d ps} hd hw=>?_⟩
 cases fuel with
 |zero=>cases hd
 |succ fuel=>
  unfold pP at hd
  have hd:(if cs.length=P.cellsOf t then(fs.toList.mapM fun f=>pP enc P w 0 (fun _=>true) true fuel f.type ((cs.drop f.offset).take (P.cellsOf f.type))).map (fun xs=>(DataW.agg (xs.map (·.1)),xs.flatMap (·.2))) else none)=some (d,ps):=by
   rw[ht] at hd
   rcases cs with _|⟨v,_|⟨v2,r⟩⟩<;>simpa using hd
  split at hd<;>try (cases hd;done)
  rename_i hlen
  simp only[pL,pE] at hd
  obtain⟨xs,hxs,rfl,_⟩:=hd
  obtain⟨x,hx1,hx2⟩:=h.reads hxs (fun n hn=>hw n (by simp only[DataW.weights,ht];exact hn))
  refine⟨x,hx1,?_⟩
  rw[List.drop_zero,←hlen,List.take_length] at hx2
  exact hx2
theorem RA.structN{t:TypeId}{fs:Array Field}{m:Nat}{α:Type}{e:α→List AVal}{ok:α→Prop}(ht:P.underlying t=some (.struct fs))(hm:P.cellsOf t=m)(h:RF P fs.toList 0 m α e ok):RA P t α e ok:=by
 subst hm
 exact RA.struct ht h
theorem RA.arg{t:TypeId}{α:Type}{e:α→List AVal}{ok:α→Prop}(h:RA P t α e ok){H:Type}{enc:TypeId×Value→H}{w:World}{v:Value}{d:DataW H}{ps:List MemPlace}(hv:qm v=true)
 (hd:DataW.Trod enc P w 0 (fun _=>true) true t v d ps) (hw:∀n∈d.weights P t,n≤reachBytes):∃x a,ok x∧e x=[a]∧RepI (old w) w a v:=by
 obtain⟨fuel,hd⟩:=hd
 obtain⟨x,h1,h2,h3,h4⟩:=h.reads hd hw
 rw[Ju hv] at h2 h4
 have:(e x).length=1:=by rw[←h2];rfl
 obtain⟨a,ha⟩:=List.length_eq_one_iff.1 this
 exact⟨x,a,h1,ha,h4 0 a v (by rw[ha];rfl) rfl⟩
end Go.Fx
