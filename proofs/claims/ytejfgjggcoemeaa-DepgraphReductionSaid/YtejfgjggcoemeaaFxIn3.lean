/-
  Own framework.
-/
import Derived.Test.YtejfgjggcoemeaaFxIn2
import Derived.Test.YtejfgjggcoemeaaFxMd
import Derived.Test.YtejfgjggcoemeaaFxMg
namespace Go.Fx
open Go.Shelf Go.RowKit Go.Lib Go.Proofs
set_option linter.unusedVariables false
set_option linter.unusedSimpArgs false
variable {P:Program} {ρ:Ren}
set_option maxHeartbeats 2000000 in
theorem zbm{f:FuncId}{fn:Func}{t c:TypeId}{s b:Nat}{zs:List AVal}(hok:Z6 P f)(hfn:P.funcs[f]?=some fn)(hS:zm5 fn t)(ht:P.underlying t=some (.slice c))(hz:jx P c=some zs)(hsz:jq P c=some s)(hby:Yn P c=some b)(hs:0<s)(hb:0<b)(hzs:zs.length=s)
 {es:List (List AVal)} (hbig:es.length*b≤140737488355328) (fv:Bool):ACalls P f [.isl s es fv] [] 3 (ub 4 (.msl (3,0) s 0 es.length false) [((3,0),.rows s es)]):=by
 refine⟨hok,fun I β w vs hI hl hr=>?_⟩
 obtain⟨tB,t0,t1,t2,t3,t4,t5,t6,p1,p2,p3,p4,p5,p6,p7,p8,a1,a2,a3,a4,a5,a6,a7,a8,i0,i1,i2,i3,hnt,hres,hbody⟩:=hS
 match vs,hl with
 |[v],_=>
  have h1:=hr 0 _ _ rfl rfl
  obtain⟨ad,cap,rfl,hlc,_⟩:=h1.isl_inv
  have ht8:∀u:Value,(#[u]++Array.replicate (8-(#[u]:Array Value).size) undef)=#[u,undef,undef,undef,undef,undef,undef,undef]:=fun u=>by simp[Array.replicate,List.replicate]
  cases ad with
  |none=>
   have hv:Value.slice none es.length cap=.slice none 0 0∧es=[]:=by
    cases h1 with
    |imm _ _ h=>cases h;exact⟨rfl,rfl⟩
   obtain⟨hv,rfl⟩:=hv
   rw[hv]
   change Calls P f #[.slice none 0 0] w _
   refine calls_of_wp hfn hbody (wp_seq (wp_region_list (wpList_plain rfl fun K0 hK0=>?_)))
   rw[hnt]
   rw[ht8]
   refine hK0 _ _ (wpList_nil ?_)
   refine wp_seq (wp_seq (wp_region_list (wpList_plain rfl fun K1 hK1=>hK1 _ _ (wpList_plain rfl fun K2 hK2=>?_))))
   refine z8q (s:=do eqGuard .eql t (.tmp 3) (.const (.slice none 0 0)) (.slice none 0 0) (.slice none 0 0);binOp .eql t (.slice none 0 0) (.slice none 0 0)) rfl (z7b ht _ _ w) (hK2 _ _ (wpList_nil ?_))
   refine wp_cond_true rfl (wp_seq (wp_region_list (wpList_plain rfl fun K3 hK3=>hK3 _ _ (wpList_nil (wp_ret ⟨rfl,.slice none 0 0,?_,?_⟩)))))
   ·refine Jg (vs:=[.slice none 0 0]) ?_
    rw[hres]
    rfl
   ·obtain⟨β',g1,g2,_⟩:=U7 hI s
    have hβ:=g1.blocks (3,0) _ rfl
    obtain⟨c',hc',hB⟩:=hβ
    refine⟨_,_,_,_,I,β',rfl,⟨rfl,rfl,rfl⟩,g1,?_,g2⟩
    refine .msl _ _ _ _ _ none 0 (by decide) ⟨Nat.le_refl _,fun _=>rfl⟩ (fun h=>by cases h) fun d hd=>?_
    rw[hc'] at hd
    simp only[Option.some.injEq] at hd
    subst hd
    exact⟨hB.1,fun h=>absurd rfl h⟩
  |some ad=>
   change Calls P f #[.slice (some ad) es.length cap] w _
   refine calls_of_wp hfn hbody (wp_seq (wp_region_list (wpList_plain rfl fun K0 hK0=>?_)))
   rw[hnt,ht8]
   refine hK0 _ _ (wpList_nil ?_)
   refine wp_seq (wp_seq (wp_region_list (wpList_plain rfl fun K1 hK1=>hK1 _ _ (wpList_plain rfl fun K2 hK2=>?_))))
   refine z8q (s:=do eqGuard .eql t (.tmp 3) (.const (.slice none 0 0)) (.slice (some ad) es.length cap) (.slice none 0 0);binOp .eql t (.slice (some ad) es.length cap) (.slice none 0 0)) rfl (zbq ht _ _ _ _ _ w) (hK2 _ _ (wpList_nil ?_))
   refine wp_cond_false rfl (wp_skip ?_)
   obtain⟨arr',k1,k2,k3,k4⟩:=z2y (P:=P) (e:=[]) (a:=⟨#[],[]⟩) (parts:=#[]) (len:=0) hI (fun t=>.any _) ht hz hsz rfl hs (by omega) hzs trivial rfl trivial
   obtain⟨r1,H1,n1,I1,β1,⟨e1,e2,e3⟩,g1,g2,g3⟩:=z92 (K:=fun r H' n'=>r=.isl s [] true∧H'=[]∧n'=3) (rows':=[]) (zs:=zs) hI k4 k3 (by rw[List.length_eq_zero_iff.1 k3];rfl) ⟨rfl,rfl,rfl⟩
   subst e1 e2 e3
   obtain⟨v2,w2,q1,hg⟩:=za6 (K:=fun r H' n'=>(es=[]∧r=.isl s [] true∧H'=[]∧n'=3)∨(r=.msl (3,0) s 0 es.length false∧H'=[((3,0),.rows s es)]∧n'=4)) (rt:=t5) g1 ht (.inl ⟨_,ht⟩) hz hsz hby hs hb g2 (h1.mono g3 hI) rfl rfl
    ⟨rfl,fun h=>.inl ⟨h,rfl,rfl,rfl⟩,fun h=>⟨rfl,by simpa using hbig,.inr ⟨by simp,rfl,rfl⟩⟩⟩
   refine wp_seq (wp_region_list (wpList_plain rfl fun K3 hK3=>?_))
   have k1':(Instr.buildSlice t 0 #[]).run P w=.ok (.slice (some ⟨w.heap.size,0,none⟩) 0 0) (w.alloc (.cells arr' c)):=by simpa using k1
   refine z8q (s:=Instr.buildSlice t 0 #[]) (by simp only[execOp,List.map_toArray,List.map_nil]) k1' (hK3 _ _ (wpList_plain rfl fun K4 hK4=>hK4 _ _ (wpList_plain rfl fun K5 hK5=>?_)))
   have e1:∀ρ:Operand→Value,(#[.tmp 5,.tmp 6]:Array Operand).map ρ=#[ρ (.tmp 5),ρ (.tmp 6)]:=fun ρ=>by simp
   refine z8q (s:=Builtin.append_ #[t,t] t5 ((#[.tmp 5,.tmp 6]:Array Operand).map (Act.eval _))) rfl (by rw[e1];exact q1) (hK5 _ _ (wpList_plain rfl fun K6 hK6=>hK6 _ _ (wpList_nil ?_)))
   refine wp_ret ⟨rfl,v2,?_,?_⟩
   ·refine Jg (vs:=[v2]) ?_
    rw[hres]
    rfl
   ·obtain⟨r2,H2,n2,I2,β2,hk,q2,q3,q4⟩:=hg
    rcases hk with⟨rfl,rfl,rfl,rfl⟩|⟨rfl,rfl,rfl⟩
    ·obtain⟨β',u1,u2,u3⟩:=U7 q2 s
     obtain⟨c',hc',hB⟩:=u1.blocks (3,0) _ rfl
     refine⟨_,_,_,_,I2,β',rfl,⟨rfl,rfl,rfl⟩,u1,?_,(g3.trans q4).trans u2⟩
     obtain⟨a2,cap2,rfl,_,hfull,_⟩:=q3.isl_inv
     have hc0:=hfull rfl
     subst hc0
     refine .msl _ _ _ _ _ a2 0 (by decide) ⟨Nat.le_refl _,fun _=>rfl⟩ (fun h=>by cases h) fun d hd=>?_
     rw[hc'] at hd
     simp only[Option.some.injEq] at hd
     subst hd
     exact⟨hB.1,fun h=>absurd rfl h⟩
    ·exact⟨_,_,_,_,_,_,rfl,⟨rfl,rfl,rfl⟩,q2,q3,g3.trans q4⟩
end Go.Fx
