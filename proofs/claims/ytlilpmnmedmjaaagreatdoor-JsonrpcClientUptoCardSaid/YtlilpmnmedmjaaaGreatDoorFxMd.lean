/-
  Own framework.
-/
import Derived.Test.YtlilpmnmedmjaaaGreatDoorFxMc
import Derived.Test.YtlilpmnmedmjaaaGreatDoorFxU
/-! slices.Clone at an empty slice -/
namespace Go.Fx
open Go
section
variable {P:Program} {I:Nat→Nat→Prop} {β:Id→Option CLoc} {n:Nat} {H:AHeap} {w:World}
theorem zfm{t c:TypeId}(h:P.underlying t=some (.slice c))(a:Addr)(k q:Nat)(xo yo:Operand)(w:World) :
 (do eqGuard .eql t xo yo (.slice (some a) k q) (.slice none 0 0);binOp .eql t (.slice (some a) k q) (.slice none 0 0):Sem Value).run P w=.ok (.bool false) w:=by
 have h1:(eqGuard .eql t xo yo (.slice (some a) k q) (.slice none 0 0)).run P w=.ok () w:=rfl
 have h2:binOp .eql t (.slice (some a) k q) (.slice none 0 0)=(do pure (.bool (←Op.equal t (.slice (some a) k q) (.slice none 0 0))):Sem Value):=rfl
 have h3:(Op.equal t (.slice (some a) k q) (.slice none 0 0)).run P w=.ok false w:=Xu h 9999 _ _ _ _ _
 rw[Sem.run_bind,h1,Result.andThen_ok,h2,Sem.run_bind,h3,Result.andThen_ok]
 rfl
theorem zb0{t c:TypeId}(h:P.underlying t=some (.slice c))(xo yo:Operand)(w:World) :
 (do eqGuard .eql t xo yo (.slice none 0 0) (.slice none 0 0);binOp .eql t (.slice none 0 0) (.slice none 0 0):Sem Value).run P w=.ok (.bool true) w:=by
 have h1:(eqGuard .eql t xo yo (.slice none 0 0) (.slice none 0 0)).run P w=.ok () w:=rfl
 have h2:binOp .eql t (.slice none 0 0) (.slice none 0 0)=(do pure (.bool (←Op.equal t (.slice none 0 0) (.slice none 0 0))):Sem Value):=rfl
 have h3:(Op.equal t (.slice none 0 0) (.slice none 0 0)).run P w=.ok true w:=Y9 h 9999 _ _ _ _ _
 rw[Sem.run_bind,h1,Result.andThen_ok,h2,Sem.run_bind,h3,Result.andThen_ok]
 rfl
def zyc(fn:Func)(t:TypeId):Prop:=∃ (tB t0 t1 t2 t3 t4 t5 t6:TypeId) (p1 p2 p3 p4 p5 p6 p7 p8:String) (a1 a2 a3 a4 a5 a6 a7 a8:Array Edge) (i0 i1 i2 i3:Nat),
 fn.ntmps=8∧fn.results=#[.tmp 2] ∧
  fn.body=some (.seq (.region i0 #[⟨some 2,.assign (.const (.slice none 0 0)),t0,p1,a1,none⟩] false)
   (.seq (.seq (.region i1 #[⟨some 3,.move (.tmp 0),t1,p2,a2,none⟩,⟨some 4,.binOp .eql t (.tmp 3) (.const (.slice none 0 0)) t,tB,p3,a3,none⟩] false)
    (.cond (.tmp 4) (.seq (.region i2 #[⟨some 2,.assign (.const (.slice none 0 0)),t2,p4,a4,none⟩] false) .ret) .skip))
   (.seq (.region i3 #[⟨some 5,.buildSlice t 0 #[],t3,p5,a5,none⟩,⟨some 6,.move (.tmp 0),t4,p6,a6,none⟩,⟨some 7,.call { callee:=.builtin .append,args:=#[.tmp 5,.tmp 6],argTypes:=#[t,t] },t5,p7,a7,none⟩,⟨some 2,.assign (.tmp 7),t6,p8,a8,none⟩] false) .ret)))
set_option maxHeartbeats 2000000 in
theorem z4a{f:FuncId}{fn:Func}{t c:TypeId}{s b:Nat}{zs:List AVal}(hok:uk P f)(hfn:P.funcs[f]?=some fn)(hS:zyc fn t)(ht:P.underlying t=some (.slice c))(hz:wa P c=some zs)(hsz:wj P c=some s)(hby:X8 P c=some b)(hs:0<s)(hb:0<b)(hzs:zs.length=s) :
 PFn P f [.isl s [] false] (.isl s [] false):=by
 refine⟨rfl,0,hok,fun I β w vs hI hl hr=>?_⟩
 obtain⟨tB,t0,t1,t2,t3,t4,t5,t6,p1,p2,p3,p4,p5,p6,p7,p8,a1,a2,a3,a4,a5,a6,a7,a8,i0,i1,i2,i3,hnt,hres,hbody⟩:=hS
 match vs,hl with
 |[v],_=>
  have h1:=hr 0 _ _ rfl rfl
  obtain⟨ad,cap,rfl,_⟩:=h1.isl_inv
  have ht8:∀u:Value,(#[u]++Array.replicate (8-(#[u]:Array Value).size) undef)=#[u,undef,undef,undef,undef,undef,undef,undef]:=fun u=>by simp[Array.replicate,List.replicate]
  cases ad with
  |none=>
   have hv:Value.slice none ([]:List (List AVal)).length cap=.slice none 0 0:=by
    cases h1 with
    |imm _ _ h=>cases h;rfl
   rw[hv]
   refine calls_of_wp hfn hbody (wp_seq (wp_region_list (wpList_plain rfl fun K0 hK0=>?_)))
   rw[hnt]
   change Oper.wp P _ ⟨#[.slice none 0 0]++Array.replicate (8-(#[Value.slice none 0 0]:Array Value).size) undef,[]⟩ _ _ _
   rw[ht8]
   refine hK0 _ _ (wpList_nil ?_)
   refine wp_seq (wp_seq (wp_region_list (wpList_plain rfl fun K1 hK1=>hK1 _ _ (wpList_plain rfl fun K2 hK2=>?_))))
   refine zea (s:=do eqGuard .eql t (.tmp 3) (.const (.slice none 0 0)) (.slice none 0 0) (.slice none 0 0);binOp .eql t (.slice none 0 0) (.slice none 0 0)) rfl (zb0 ht _ _ w) (hK2 _ _ (wpList_nil ?_))
   refine wp_cond_true rfl (wp_seq (wp_region_list (wpList_plain rfl fun K3 hK3=>hK3 _ _ (wpList_nil (wp_ret ⟨rfl,.slice none 0 0,?_,?_⟩)))))
   ·refine Wl (vs:=[.slice none 0 0]) ?_
    rw[hres]
    rfl
   ·exact⟨_,_,_,_,_,_,rfl,⟨rfl,rfl,rfl⟩,hI,.imm _ _ (.islNil _ _),Ext.refl _ _ _ _ _ hI.fresh⟩
  |some ad=>
   change Calls P f #[.slice (some ad) 0 cap] w _
   refine calls_of_wp hfn hbody (wp_seq (wp_region_list (wpList_plain rfl fun K0 hK0=>?_)))
   rw[hnt,ht8]
   refine hK0 _ _ (wpList_nil ?_)
   refine wp_seq (wp_seq (wp_region_list (wpList_plain rfl fun K1 hK1=>hK1 _ _ (wpList_plain rfl fun K2 hK2=>?_))))
   refine zea (s:=do eqGuard .eql t (.tmp 3) (.const (.slice none 0 0)) (.slice (some ad) 0 cap) (.slice none 0 0);binOp .eql t (.slice (some ad) 0 cap) (.slice none 0 0)) rfl (zfm ht _ _ _ _ _ w) (hK2 _ _ (wpList_nil ?_))
   refine wp_cond_false rfl (wp_skip ?_)
   obtain⟨arr',k1,k2,k3,k4⟩:=z68 (P:=P) (e:=[]) (a:=⟨#[],[]⟩) (parts:=#[]) (len:=0) hI (fun t=>.any _) ht hz hsz rfl hs (by omega) hzs trivial rfl trivial
   obtain⟨r1,H1,n1,I1,β1,⟨e1,e2,e3⟩,g1,g2,g3⟩:=ze5 (K:=fun r H' n'=>r=.isl s [] true∧H'=[]∧n'=0) (rows':=[]) (zs:=zs) hI k4 k3 (by rw[List.length_eq_zero_iff.1 k3];rfl) ⟨rfl,rfl,rfl⟩
   subst e1 e2 e3
   obtain⟨v2,w2,q1,r2,H2,n2,I2,β2,⟨e1,e2,e3⟩,q2,q3,q4⟩:=zp5 (K:=fun r H' n'=>r=.isl s [] true∧H'=[]∧n'=0) (rt:=t5) g1 ht (.inl ⟨_,ht⟩) hz hsz hby hs hb g2 (h1.mono g3 hI) rfl rfl ⟨rfl,fun _=>⟨rfl,rfl,rfl⟩,fun h=>absurd rfl h⟩
   subst e1 e2 e3
   refine wp_seq (wp_region_list (wpList_plain rfl fun K3 hK3=>?_))
   have k1':(Instr.buildSlice t 0 #[]).run P w=.ok (.slice (some ⟨w.heap.size,0,none⟩) 0 0) (w.alloc (.cells arr' c)):=by simpa using k1
   refine zea (s:=Instr.buildSlice t 0 #[]) (by simp only[execOp,List.map_toArray,List.map_nil]) k1' (hK3 _ _ (wpList_plain rfl fun K4 hK4=>hK4 _ _ (wpList_plain rfl fun K5 hK5=>?_)))
   have e1:∀ρ:Operand→Value,(#[.tmp 5,.tmp 6]:Array Operand).map ρ=#[ρ (.tmp 5),ρ (.tmp 6)]:=fun ρ=>by simp
   refine zea (s:=Builtin.append_ #[t,t] t5 ((#[.tmp 5,.tmp 6]:Array Operand).map (Act.eval _))) rfl (by rw[e1];exact q1) (hK5 _ _ (wpList_plain rfl fun K6 hK6=>hK6 _ _ (wpList_nil ?_)))
   refine wp_ret ⟨rfl,v2,?_,?_⟩
   ·refine Wl (vs:=[v2]) ?_
    rw[hres]
    rfl
   ·refine⟨_,_,_,_,_,_,rfl,⟨rfl,rfl,rfl⟩,q2,?_,g3.trans q4⟩
    cases q3 with
    |imm _ _ h=>cases h with
     |islEmpty _ _ a cap _=>exact .imm _ _ (.islEmpty _ _ a cap nofun)
     |islNil=>exact .imm _ _ (.islNil _ _)
     |isl _ _ _ b o cap vf hb hcap hf hlen hcell hic hrep=>exact .imm _ _ (.isl _ _ _ b o cap vf hb hcap nofun hlen hcell hic hrep)
end
noncomputable def zp7{α:Type}(m:Option Nat)(f:Nat→Option α):Option α:=match m with
 |some k=>f k
 |none=>open Classical in if h:∃k,(f k).isSome=true then f (Classical.choose h) else none
theorem X9{α:Type}{m:Option Nat}{f:Nat→Option α}{o:α}(h:zp7 m f=some o):∃k,f k=some o:=by
 unfold zp7 at h
 split at h
 ·exact⟨_,h⟩
 ·split at h
  ·exact⟨_,h⟩
  ·cases h
theorem zxj{α:Type}{f:Nat→Option α}{v:α}(h1:∀k o,f k=some o→o=v)(h2:∃k,f k=some v):zp7 none f=some v:=by
 obtain⟨k,hk⟩:=h2
 have h:∃k,(f k).isSome=true:=⟨k,by rw[hk];rfl⟩
 unfold zp7
 simp only
 rw[dif_pos h]
 have:=Classical.choose_spec h
 cases hc:f (Classical.choose h) with
 |none=>rw[hc] at this;cases this
 |some o=>rw[h1 _ _ hc]
end Go.Fx
