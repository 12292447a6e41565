/-
  The reference's ValidUTF8 is the library's; no condition.
-/
import Derived.Test.YtlilpmnmedmjaaaDoorGenC
import Derived.Test.YtlilpmnmedmjaaaDoorFd
import Derived.Test.YtlilpmnmedmjaaaDoorRows
import Derived.Lib.LaidU8
import Derived.MakeChecks
open Bool renaming or_eq_true→p5,and_eq_true→p6,eq_iff_iff→pD,eq_false_iff→pG
open Int renaming toNat_natCast→p4
open List renaming length_map→p7,drop_eq_getElem_cons→p8,getElem_mem→p9,getD_eq_getElem?_getD→pC,drop_length→pE,map_append→pF,length_cons→pH,take_succ_eq_append_getElem→pI,length_append→pJ,drop_zero→pK
open Nat renaming zero_add→pB
open Option renaming bind_some→p0,bind→pA
namespace Go.Proofs.YtlilpmnmedmjaaaDoor
open Go.Fx
set_option linter.unusedVariables false
set_option linter.unusedSimpArgs false
theorem Wi{i:Nat}(h:i≤4611686018427387904):W ((i:Int)+1)=((i+1:Nat):Int):=by rw[ztt (by unfold inR;omega)];omega
theorem z36{α:Type}[Inhabited α]{l:List α}{i:Nat}(h:i<l.length):l.getD i default=l[i]:=by
 simp[pC,h]
def U5(s:List UInt8):Nat→Nat→Nat→Nat→Option Nat
 |0,p,_,_=>some p
 |k+1,p,lo,hi=>if s.length≤p∨(s.getD p 0).toNat<lo∨hi<(s.getD p 0).toNat then none else U5 s k (p+1) 128 191
def zqi:Option Nat→Int ⊕ Bool
 |some q=>.inl (q:Int)
 |none=>.inr false
theorem z8s{s:List UInt8}(hs:s.length≤4611686018427387904):∀ (k p lo hi v d:Nat),d+k=v→v≤3 →
 xp none s (v:Int) (p:Int) (lo:Int) (hi:Int) (d:Int)=some (zqi (U5 s k p lo hi))
 |0,p,lo,hi,v,d,h,hv=>by
  unfold xp
  rw[qw (x:=some (.inl (p:Int)))]
  ·rfl
  ·unfold qk
   rw[if_neg (by simp;omega)]
 |k+1,p,lo,hi,v,d,h,hv=>by
  have hb:qk none s (v:Int) (p:Int) (lo:Int) (hi:Int) (d:Int) =
   if s.length≤p∨(s.getD p 0).toNat<lo∨hi<(s.getD p 0).toNat then some (.inr (.inr false)) else some (.inl (((p+1:Nat):Int),((128:Nat):Int),((191:Nat):Int),((d+1:Nat):Int))):=by
   unfold qk
   rw[if_pos (by simp;omega),if_pos (by simp),if_pos (by simp;omega)]
   simp only[p4]
   by_cases hc:s.length≤p∨(s.getD p 0).toNat<lo∨hi<(s.getD p 0).toNat
   ·rw[if_pos (by simp only[p6,p5,decide_eq_true_eq,beq_iff_eq,ge_iff_le,gt_iff_lt];omega),if_pos hc];rfl
   ·rw[if_neg (by simp only[p6,p5,decide_eq_true_eq,beq_iff_eq,ge_iff_le,gt_iff_lt];omega),if_neg hc,Wi (by omega),Wi (by omega)];rfl
  unfold U5
  by_cases hc:s.length≤p∨(s.getD p 0).toNat<lo∨hi<(s.getD p 0).toNat
  ·unfold xp
   rw[if_pos hc,qw (x:=some (.inr false)) (by rw[hb,if_pos hc];rfl)]
   rfl
  ·rw[if_neg hc,←z8s hs k (p+1) 128 191 v (d+1) (by omega) hv]
   unfold xp
   rw[wz (s':=(((p+1:Nat):Int),((128:Nat):Int),((191:Nat):Int),((d+1:Nat):Int))) (by rw[hb,if_neg hc])]
theorem ck2(n b1 b2 b3 lo hi:Nat):Lib.checkN n b1 b2 b3 (1+1) lo hi=if n<2∨b1<lo∨hi<b1 then none else some 2:=by unfold Lib.checkN;rw[if_pos rfl]
theorem ck3(n b1 b2 b3 lo hi:Nat):Lib.checkN n b1 b2 b3 (2+1) lo hi=if n<3∨b1<lo∨hi<b1∨b2<128∨191<b2 then none else some 3:=by unfold Lib.checkN;rw[if_neg (by decide),if_pos rfl]
theorem ck4(n b1 b2 b3 lo hi:Nat):Lib.checkN n b1 b2 b3 (3+1) lo hi=if n<4∨b1<lo∨hi<b1∨b2<128∨191<b2∨b3<128∨191<b3 then none else some 4:=by unfold Lib.checkN;rw[if_neg (by decide),if_neg (by decide),if_pos rfl]
theorem zj1{s:List UInt8}{i:Nat}(hi:i<s.length):∀ (k lo h:Nat),1≤k→k≤3 →
 U5 s k (i+1) lo h=(Lib.checkN (s.drop i).length ((s.drop i).getD 1 0).toNat ((s.drop i).getD 2 0).toNat ((s.drop i).getD 3 0).toNat (k+1) lo h).map fun n=>i+n:=by
 intro k lo h h1 h3
 have g:∀j,(s.drop i).getD j 0=s.getD (i+j) 0:=fun j=>by simp[pC]
 rw[g,g,g,List.length_drop]
 have hk:k=1∨k=2∨k=3:=by omega
 rcases hk with rfl|rfl|rfl
 ·rw[ck2]
  unfold U5
  by_cases c:s.length≤i+1∨(s.getD (i+1) 0).toNat<lo∨h<(s.getD (i+1) 0).toNat
  ·rw[if_pos c,if_pos (by omega)];rfl
  ·rw[if_neg c,if_neg (by omega)];rfl
 ·rw[ck3]
  unfold U5
  by_cases c:s.length≤i+1∨(s.getD (i+1) 0).toNat<lo∨h<(s.getD (i+1) 0).toNat
  ·rw[if_pos c,if_pos (by omega)];rfl
  ·rw[if_neg c]
   unfold U5
   by_cases c2:s.length≤i+2∨(s.getD (i+2) 0).toNat<128∨191<(s.getD (i+2) 0).toNat
   ·rw[if_pos c2,if_pos (by omega)];rfl
   ·rw[if_neg c2,if_neg (by omega)];rfl
 ·rw[ck4]
  unfold U5
  by_cases c:s.length≤i+1∨(s.getD (i+1) 0).toNat<lo∨h<(s.getD (i+1) 0).toNat
  ·rw[if_pos c,if_pos (by omega)];rfl
  ·rw[if_neg c]
   unfold U5
   by_cases c2:s.length≤i+2∨(s.getD (i+2) 0).toNat<128∨191<(s.getD (i+2) 0).toNat
   ·rw[if_pos c2,if_pos (by omega)];rfl
   ·rw[if_neg c2]
    unfold U5
    by_cases c3:s.length≤i+3∨(s.getD (i+3) 0).toNat<128∨191<(s.getD (i+3) 0).toNat
    ·rw[if_pos c3,if_pos (by omega)];rfl
    ·rw[if_neg c3,if_neg (by omega)];rfl
def zkl(b:Nat):Option (Nat×Nat×Nat):=
 if b<128 then some (0,128,191) else if 194≤b∧b≤223 then some (1,128,191) else
 if 224≤b∧b≤239 then some (2,if b=224 then 160 else 128,if b=237 then 159 else 191) else
 if 240≤b∧b≤244 then some (3,if b=240 then 144 else 128,if b=244 then 143 else 191) else none
def y4j(b:Nat):Bool:=match zkl b with
 |none=>Lib.firstT b % 8==1
 |some (k,lo,hi)=>decide (1≤k)&&decide (k≤3)&&(Lib.firstT b % 8==k+1)&&(Lib.accLo (Lib.firstT b / 16)==lo)&&(Lib.accHi (Lib.firstT b / 16)==hi)
theorem zjm:∀b:Fin 256,128≤b.val→y4j b.val=true:=by decide +kernel
theorem ziz{s:List UInt8}(hs:s.length≤4611686018427387904){i:Nat}(hi:i<s.length):qm none s (i:Int) =
 match zkl (s.getD i 0).toNat with
 |none=>some (.inr false)
 |some (k,lo,h)=>some (zqi (U5 s k (i+1) lo h)):=by
 have hl:=fun(v lo h:Nat) (hv:v≤3)=>z8s hs v (i+1) lo h v 0 (by omega) hv
 have j9:∀ (v lo h:Nat),v≤3→zx none s (i:Int) (v:Int) (lo:Int) (h:Int)=some (zqi (U5 s v (i+1) lo h)):=fun v lo h hv=>by
  unfold zx
  rw[Wi (by omega)]
  exact hl v lo h hv
 have j7:∀lo:Nat,xr none s (i:Int) (lo:Int)=some (zqi (U5 s 2 (i+1) lo (if(s.getD i 0).toNat=237 then 159 else 191))):=fun lo=>by
  unfold xr
  simp only[p4]
  by_cases c:(s.getD i 0).toNat=237
  ·rw[if_pos (by simp only[beq_iff_eq];omega),if_pos c];exact j9 2 lo 159 (by omega)
  ·rw[if_neg (by simp only[beq_iff_eq];omega),if_neg c];exact j9 2 lo 191 (by omega)
 have j8:∀lo:Nat,xt none s (i:Int) (lo:Int)=some (zqi (U5 s 3 (i+1) lo (if(s.getD i 0).toNat=244 then 143 else 191))):=fun lo=>by
  unfold xt
  simp only[p4]
  by_cases c:(s.getD i 0).toNat=244
  ·rw[if_pos (by simp only[beq_iff_eq];omega),if_pos c];exact j9 3 lo 143 (by omega)
  ·rw[if_neg (by simp only[beq_iff_eq];omega),if_neg c];exact j9 3 lo 191 (by omega)
 unfold qm zkl
 rw[if_pos (by simp;omega),if_pos (by omega)]
 simp only[p4]
 by_cases c1:(s.getD i 0).toNat<128
 ·rw[if_pos (by simp only[p6,p5,decide_eq_true_eq,beq_iff_eq,ge_iff_le,gt_iff_lt];omega),if_pos c1];exact j9 0 128 191 (by omega)
 rw[if_neg (by simp only[p6,p5,decide_eq_true_eq,beq_iff_eq,ge_iff_le,gt_iff_lt];omega),if_neg c1]
 by_cases c2:194≤(s.getD i 0).toNat∧(s.getD i 0).toNat≤223
 ·rw[if_pos (by simp only[p6,p5,decide_eq_true_eq,beq_iff_eq,ge_iff_le,gt_iff_lt];omega),if_pos c2];exact j9 1 128 191 (by omega)
 rw[if_neg (by simp only[p6,p5,decide_eq_true_eq,beq_iff_eq,ge_iff_le,gt_iff_lt];omega),if_neg c2]
 by_cases c3:224≤(s.getD i 0).toNat∧(s.getD i 0).toNat≤239
 ·rw[if_pos (by simp only[p6,p5,decide_eq_true_eq,beq_iff_eq,ge_iff_le,gt_iff_lt];omega),if_pos c3]
  by_cases c:(s.getD i 0).toNat=224
  ·rw[if_pos (by simp only[beq_iff_eq];omega),if_pos c];exact j7 160
  ·rw[if_neg (by simp only[beq_iff_eq];omega),if_neg c];exact j7 128
 rw[if_neg (by simp only[p6,p5,decide_eq_true_eq,beq_iff_eq,ge_iff_le,gt_iff_lt];omega),if_neg c3]
 by_cases c4:240≤(s.getD i 0).toNat∧(s.getD i 0).toNat≤244
 ·rw[if_pos (by simp only[p6,p5,decide_eq_true_eq,beq_iff_eq,ge_iff_le,gt_iff_lt];omega),if_pos c4]
  by_cases c:(s.getD i 0).toNat=240
  ·rw[if_pos (by simp only[beq_iff_eq];omega),if_pos c];exact j8 144
  ·rw[if_neg (by simp only[beq_iff_eq];omega),if_neg c];exact j8 128
 rw[if_neg (by simp only[p6,p5,decide_eq_true_eq,beq_iff_eq,ge_iff_le,gt_iff_lt];omega),if_neg c4]
 rfl
theorem z5m{s:List UInt8}(hs:s.length≤4611686018427387904):∀ (k i:Nat),i+k≥s.length→i≤s.length→w4 none s (i:Int)=some (Lib.validD (s.drop i))
 |k,i,hk,hi=>by
  by_cases he:i=s.length
  ·subst he
   unfold w4
   rw[pE,qw (x:=some true)]
   ·rfl
   ·unfold qm
    rw[if_neg (by simp)]
    rfl
  ·have hi:i<s.length:=by omega
   cases k with
   |zero=>omega
   |succ k=>
   have ih:=z5m hs k
   have hb:=ziz hs hi
   have hg:(s.drop i).getD 0 0=s.getD i 0:=by simp[pC]
   have hne:s.drop i≠[]:=by simp;omega
   unfold w4 at ih ⊢
   by_cases ha:(s.getD i 0).toNat<128
   ·have:zkl (s.getD i 0).toNat=some (0,128,191):=by unfold zkl;rw[if_pos ha]
    rw[this] at hb
    rw[wz (s':=((i+1:Nat):Int)) hb,ih (i+1) (by omega) (by omega)]
    have hcons:s.drop i=s.getD i 0::s.drop (i+1):=by
     rw[p8 hi];simp[pC,hi]
    rw[hcons,Lib.validD_cons _ _ ha]
   ·have hv:=Lib.validD_lead (s.drop i) hne (by rw[hg];omega)
    have hf:=zjm ⟨(s.getD i 0).toNat,(s.getD i 0).toNat_lt⟩ (by simp only;omega)
    simp only[y4j] at hf
    rw[hg] at hv
    cases hl:zkl (s.getD i 0).toNat with
    |none=>
     rw[hl] at hb hf
     rw[qw (x:=some false) hb,hv]
     simp only[beq_iff_eq] at hf
     rw[hf]
     rfl
    |some y=>
     obtain⟨k',lo,h⟩:=y
     rw[hl] at hb hf
     simp only at hb
     simp only[p6,decide_eq_true_eq,beq_iff_eq] at hf
     obtain⟨⟨⟨⟨f1,f2⟩,f3⟩,f4⟩,f5⟩:=hf
     have hc:=zj1 hi k' lo h f1 f2
     rw[f3,f4,f5] at hv
     rw[hv]
     cases hcn:Lib.checkN (s.drop i).length ((s.drop i).getD 1 0).toNat ((s.drop i).getD 2 0).toNat ((s.drop i).getD 3 0).toNat (k'+1) lo h with
     |none=>
      rw[hcn] at hc
      rw[hc] at hb
      rw[qw (x:=some false) hb]
     |some q=>
      rw[hcn] at hc
      rw[hc] at hb
      have hq:1≤q∧i+q≤s.length:=by
       have hlen:(s.drop i).length=s.length-i:=List.length_drop
       rw[hlen] at hcn
       unfold Lib.checkN at hcn
       have hk:k'=1∨k'=2∨k'=3:=by omega
       rcases hk with rfl|rfl|rfl<;>simp only[] at hcn<;>(repeat' split at hcn)<;>simp at hcn<;>omega
      rw[wz (s':=((i+q:Nat):Int)) hb,ih (i+q) (by omega) (by omega)]
      simp only[List.drop_drop]
theorem z7y{s:List UInt8}(hs:s.length≤4611686018427387904):qv none s=some (Lib.validD s):=by
 have:=z5m hs s.length 0 (by omega) (by omega)
 exact this
theorem ze5{s:List UInt8}(hs:s.length≤4611686018427387904):kf none s=some (Lib.validD s):=by
 unfold kf;rw[if_pos (by omega)]
inductive J where
 |mk (kind num:Int) (text:List UInt8) (names:List (List UInt8)) (elems:List J)
def J.kind:J→Int|.mk k _ _ _ _=>k
def J.num:J→Int|.mk _ n _ _ _=>n
def J.text:J→List UInt8|.mk _ _ t _ _=>t
def J.names:J→List (List UInt8)|.mk _ _ _ ns _=>ns
def J.elems:J→List J|.mk _ _ _ _ es=>es
mutual
def J.raw:J→List AVal
 |.mk k n t ns es=>z7 ⟨k,n,t,ns,J.rawL es⟩
def J.rawL:List J→List (List AVal)
 |[]=>[]
 |e::r=>e.raw::J.rawL r
end
theorem zpk:∀es:List J,J.rawL es=es.map J.raw
 |[]=>rfl
 |e::r=>by unfold J.rawL;rw[zpk r];rfl
def J.val(j:J):GJ:=⟨j.kind,j.num,j.text,j.names,j.elems.map J.raw⟩
theorem Ke(j:J):j.raw=z7 j.val:=by
 cases j with
 |mk k n t ns es=>unfold J.raw J.val;rw[zpk];rfl
theorem y6e{x y:GJ}(h:z7 x=z7 y):x=y:=by
 obtain⟨k,n,t,ns,es⟩:=x
 obtain⟨k',n',t',ns',es'⟩:=y
 simp only[z7,List.cons.injEq,AVal.int.injEq,AVal.str.injEq,AVal.isl.injEq,true_and,and_true] at h
 obtain⟨h1,h2,h3,h4,h5⟩:=h
 have g1:ns=ns':=by
  refine(List.map_inj_right ?_).1 h4
  intro a b hab
  simp only[za,List.cons.injEq,AVal.str.injEq,and_true] at hab
  exact hab
 have g2:es=es':=by
  have:(fun r:List AVal=>ze r)=id:=rfl
  rw[show(ze:List AVal→List AVal)=id from rfl,List.map_id,List.map_id] at h5
  exact h5
 rw[h1,h2,h3,g1,g2]
theorem y75(j:J):Yt j.raw=some j.val:=by
 rw[Ke]
 have h:∃x,z7 j.val=z7 x:=⟨_,rfl⟩
 unfold Yt
 rw[dif_pos h]
 congr 1
 exact(y6e (Classical.choose_spec h)).symm
theorem zu7{j:J}{i:Nat}(h:i<j.elems.length):j.val.fE.getD i default=(j.elems[i]).raw:=by
 simp[J.val,pC,h]
theorem u7(j:J):(j.val.fE.map ze).length=j.elems.length:=by simp[J.val]
theorem y3m{j:J}{i:Nat}(h:i<j.elems.length):Yt (j.val.fE.getD i default)=some (j.elems[i]).val:=by rw[zu7 h,y75]
def nsz:List (List UInt8)→Nat
 |[]=>0
 |n::r=>n.length+1+nsz r
mutual
def J.sz:J→Nat
 |.mk _ _ t ns es=>1+t.length+nsz ns+J.szL es
def J.szL:List J→Nat
 |[]=>0
 |e::r=>e.sz+J.szL r
end
mutual
def J.nodes:J→Nat
 |.mk _ _ _ _ es=>1+J.nodesL es
def J.nodesL:List J→Nat
 |[]=>0
 |e::r=>e.nodes+J.nodesL r
end
mutual
def J.depth:J→Nat
 |.mk _ _ _ _ es=>1+J.depthL es
def J.depthL:List J→Nat
 |[]=>0
 |e::r=>max e.depth (J.depthL r)
end
theorem z3g(j:J):1≤j.sz:=by cases j;unfold J.sz;omega
theorem zkv:∀ {es:List J} {e:J},e∈es→e.sz≤J.szL es
 |x::r,e,h=>by
  unfold J.szL
  rcases List.mem_cons.1 h with rfl|h
  ·omega
  ·have:=zkv h;omega
theorem zxh:∀es:List J,es.length≤J.szL es
 |[]=>by simp
 |e::r=>by
  unfold J.szL
  have:=zxh r
  have:=z3g e
  simp only[pH];omega
theorem zri:∀ {ns:List (List UInt8)} {n:List UInt8},n∈ns→n.length≤nsz ns
 |x::r,n,h=>by
  unfold nsz
  rcases List.mem_cons.1 h with rfl|h
  ·omega
  ·have:=zri h;omega
theorem zls:∀ns:List (List UInt8),ns.length≤nsz ns
 |[]=>by simp
 |n::r=>by
  unfold nsz
  have:=zls r
  simp only[pH];omega
mutual
theorem zhn:∀j:J,j.nodes≤j.sz
 |.mk _ _ t ns es=>by unfold J.nodes J.sz;have:=zbv es;omega
theorem zbv:∀es:List J,J.nodesL es≤J.szL es
 |[]=>by simp[J.nodesL]
 |e::r=>by unfold J.nodesL J.szL;have:=zhn e;have:=zbv r;omega
end
mutual
theorem z32:∀j:J,j.depth≤j.nodes
 |.mk _ _ t ns es=>by unfold J.nodes J.depth;have:=z0u es;omega
theorem z0u:∀es:List J,J.depthL es≤J.nodesL es
 |[]=>by simp[J.depthL]
 |e::r=>by unfold J.nodesL J.depthL;have:=z32 e;have:=z0u r;omega
end
def J.ok(j:J):Prop:=j.sz≤1073741824
theorem J.ok.elem{j e:J}(h:j.ok)(he:e∈j.elems):e.ok:=by
 cases j with
 |mk k n t ns es=>
  have h':J.sz (.mk k n t ns es)≤1073741824:=h
  rw[J.sz.eq_1 k n t ns es] at h'
  have:=zkv he
  simp only[J.elems] at this
  show e.sz≤1073741824
  omega
theorem zju{j e:J}(he:e∈j.elems):e.sz<j.sz:=by
 cases j with
 |mk k n t ns es=>
  have:=zkv he
  simp only[J.elems] at this
  rw[J.sz.eq_1 k n t ns es]
  omega
theorem J.ok.len{j:J}(h:j.ok):j.elems.length≤1073741824∧j.text.length≤1073741824∧j.names.length≤1073741824∧∀n∈j.names,n.length≤1073741824:=by
 cases j with
 |mk k n t ns es=>
  unfold J.ok J.sz at h
  have:=zxh es
  have:=zls ns
  refine⟨?_,?_,?_,fun n hn=>?_⟩<;>simp only[J.elems,J.text,J.names] at *
  ·omega
  ·omega
  ·omega
  ·have:=zri hn;omega
theorem Wv{α:Type}{f:Nat→Option α}{v:α}{d:Nat}(h:∀k,f k=some v∨(k<d∧f k=none)):zl5 none f=some v:=
 y1l (fun k o ho=>by rcases h k with h1|⟨_,h1⟩<;>rw[h1] at ho<;>cases ho;rfl) ⟨d,by rcases h d with h1|⟨h1,_⟩;exact h1;omega⟩
theorem Jd{σ ρ:Type}{b:σ→Option (σ ⊕ ρ)}{s:σ}(h:b s=none):Y5 none b s=none:=by rw[z6n,h]
mutual
def J.lim:J→Int→Int→Bool×Int
 |.mk _ _ _ _ es,d,n=>if n+1 > 400∨d > 20 then(false,n+1) else J.limL es (d+1) (n+1)
def J.limL:List J→Int→Int→Bool×Int
 |[],_,n=>(true,n)
 |e::r,d,n=>if(e.lim d n).1=true then J.limL r d (e.lim d n).2 else(false,(e.lim d n).2)
end
mutual
theorem zee:∀ (j:J) (d n:Int),0≤n→((j.lim d n).1=true↔n+j.nodes≤400∧d+j.depth≤21)∧((j.lim d n).1=true→(j.lim d n).2=n+j.nodes)
 |.mk k m t ns es,d,n,h=>by
  unfold J.lim J.nodes J.depth
  by_cases c:n+1 > 400∨d > 20
  ·rw[if_pos c]
   refine⟨⟨fun h=>(by cases h),fun h=>?_⟩,fun h=>(by cases h)⟩
   omega
  ·rw[if_neg c]
   obtain⟨h1,h2⟩:=zgh es (d+1) (n+1) (by omega) (by omega) (by omega)
   refine⟨h1.trans ⟨fun h=>by omega,fun h=>by omega⟩,fun h=>?_⟩
   rw[h2 h];omega
theorem zgh:∀ (es:List J) (d n:Int),0≤n→n≤400→d≤21→((J.limL es d n).1=true↔n+J.nodesL es≤400∧d+J.depthL es≤21)∧((J.limL es d n).1=true→(J.limL es d n).2=n+J.nodesL es)
 |[],d,n,h,h',hd=>by
  unfold J.limL J.nodesL J.depthL
  refine⟨⟨fun _=>by omega,fun _=>rfl⟩,fun _=>by simp⟩
 |e::r,d,n,h,h',hd=>by
  unfold J.limL J.nodesL J.depthL
  obtain⟨h1,h2⟩:=zee e d n h
  by_cases c:(e.lim d n).1=true
  ·rw[if_pos c]
   have h3:=h2 c
   have h4:=h1.1 c
   obtain⟨g1,g2⟩:=zgh r d (e.lim d n).2 (by omega) (by omega) hd
   refine⟨g1.trans ⟨fun h=>by omega,fun h=>by omega⟩,fun h=>?_⟩
   rw[g2 h];omega
  ·rw[if_neg c]
   refine⟨⟨fun h=>(by cases h),fun hh=>absurd (h1.2 (by omega)) c⟩,fun h=>by cases h⟩
end
theorem zfw{j:J}{rec0:GJ→Int→Int→Option (Bool×Int)}{B:Prop}(hj:j.ok){d:Int}(hd:1≤d∧d≤20)
 (hr:∀e∈j.elems,∀n:Int,0≤n→n≤400→rec0 e.val (d+1) n=some (e.lim (d+1) n)∨(B∧rec0 e.val (d+1) n=none)) :
 ∀ (k i:Nat) (n:Int),i+k=j.elems.length→0≤n→n≤400 →
  xa rec0 none j.val d n (i:Int)=some (J.limL (j.elems.drop i) (d+1) n)∨(B∧xa rec0 none j.val d n (i:Int)=none)
 |0,i,n,h,h0,h4=>by
  left
  have:i=j.elems.length:=by omega
  subst this
  unfold xa
  rw[qw (x:=some (true,n)),pE]
  ·rfl
  ·unfold yr
   rw[if_neg (by rw[u7];simp)]
   rfl
 |k+1,i,n,h,h0,h4=>by
  have hi:i<j.elems.length:=by omega
  have hl:=hj.len
  have ih:=zfw hj hd hr k (i+1)
  have hb:yr rec0 none j.val d n (i:Int)=(rec0 (j.elems[i]).val (d+1) n).bind fun v8=>if(!v8.1)=true then some (.inr (false,v8.2)) else some (.inl (v8.2,((i+1:Nat):Int))):=by
   unfold yr
   rw[u7,if_pos (by simpa using hi),if_pos (by omega)]
   simp only[p4,y3m hi,p0,Wi (show i≤4611686018427387904 by omega),show W (d+1)=d+1 from ztt (by unfold inR;omega)]
   rfl
  rw[p8 hi]
  unfold xa at ih ⊢
  rcases hr _ (p9 hi) n h0 h4 with hc|⟨hB,hc⟩
  ·rw[hc,p0] at hb
   unfold J.limL
   obtain⟨g1,g2⟩:=zee j.elems[i] (d+1) n h0
   cases hv:(j.elems[i].lim (d+1) n).1 with
   |true=>
    rw[hv] at hb
    rw[wz (s':=((j.elems[i].lim (d+1) n).2,((i+1:Nat):Int))) hb,if_pos rfl]
    have:=g2 hv
    have:=g1.1 hv
    exact ih _ (by omega) (by omega) (by omega)
   |false=>
    left
    rw[hv] at hb
    rw[qw (x:=some (false,(j.elems[i].lim (d+1) n).2)) hb,if_neg (by simp)]
  ·right
   rw[hc] at hb
   exact⟨hB,Jd hb⟩
theorem zmm:∀ (k:Nat) (j:J) (d n:Int),j.ok→1≤d→d≤21→0≤n→n≤400→qa none k j.val d n=some (j.lim d n)∨(k<j.sz∧qa none k j.val d n=none)
 |0,j,d,n,hj,hd,hd',h0,h4=>.inr ⟨z3g j,rfl⟩
 |k+1,j,d,n,hj,hd,hd',h0,h4=>by
  have hW:W (n+1)=n+1:=ztt (by unfold inR;omega)
  unfold qa wh
  rw[hW]
  by_cases c:n+1 > 400∨d > 20
  ·left
   rw[if_pos (by simpa using c)]
   cases j;unfold J.lim;rw[if_pos c]
  ·rw[if_neg (by simpa using c)]
   have:=zfw (rec0:=qa none k) (B:=k+1<j.sz) hj (d:=d) (by omega) (fun e he n h0 h4=>by
    rcases zmm k e (d+1) n (hj.elem he) (by omega) (by omega) h0 h4 with h|⟨h1,h2⟩
    ·exact .inl h
    ·exact .inr ⟨by have:=zju he;omega,h2⟩) j.elems.length 0 (n+1) (by omega) (by omega) (by omega)
   have e:j.lim d n=J.limL j.elems (d+1) (n+1):=by cases j;rw[J.lim.eq_1,if_neg c];rfl
   rw[e]
   exact this
theorem y31{j:J}(hj:j.ok):u3 none j.val 1 0=some (j.lim 1 0):=
 Wv (d:=j.sz) fun k=>zmm k j 1 0 hj (by omega) (by omega) (by omega) (by omega)
theorem z27{l:List (List UInt8)}{i:Nat}(h:i<l.length):l.getD i default=l[i]:=z36 h
theorem zym{p:List (List UInt8)}{x y:List UInt8}(h:y≠x):(p++[y]).contains x=p.contains x:=by simp[Ne.symm h]
theorem zv7{p:List (List UInt8)}{x:List UInt8}:(p++[x]).contains x=true:=by simp
theorem y4f{p:List (List UInt8)}{x:List UInt8}:(x::p).contains x=true:=by simp
theorem y36{p:List (List UInt8)}{x y:List UInt8}(h:x≠y):(y::p).contains x=p.contains x:=by simp[h]
def ztl(p:List (List UInt8)):List (List UInt8)→Bool
 |[]=>false
 |x::r=>p.contains x || ztl (p++[x]) r
theorem y2t{M:List (List UInt8×Int)}{k j:List UInt8}{v:Int}:lk Wu (mp Wu M k v) j=if k=j then some v else lk Wu M j:=by
 induction M with
 |nil=>
  simp only[mp,lk,Wu,Bool.and_true,beq_iff_eq]
  by_cases h:k=j
  ·rw[if_pos h,if_pos h.symm]
  ·rw[if_neg h,if_neg (Ne.symm h)]
 |cons x r ih=>
  obtain⟨k',v'⟩:=x
  simp only[mp,Wu,Bool.and_true,beq_iff_eq]
  by_cases h:k=k'
  ·rw[if_pos h]
   simp only[lk,Wu,Bool.and_true,beq_iff_eq]
   by_cases h2:k=j
   ·rw[if_pos h2,if_pos h2.symm]
   ·rw[if_neg h2,if_neg (Ne.symm h2),if_neg (by rw[←h];exact Ne.symm h2)]
  ·rw[if_neg h]
   simp only[lk,Wu,Bool.and_true,beq_iff_eq]
   by_cases h2:j=k'
   ·rw[if_pos h2,if_pos h2,if_neg (by rw[h2];exact h)]
   ·rw[if_neg h2,if_neg h2];exact ih
theorem z2x{a0:List (List UInt8)}(hl:a0.length≤4611686018427387904):∀ (k i:Nat) (M:List (List UInt8×Int)),i+k=a0.length→(∀x,(((lk Wu M x).getD 0) != 0)=(a0.take i).contains x) →
 vb none a0 (i:Int) M=some (ztl (a0.take i) (a0.drop i))
 |0,i,M,h,hM=>by
  have:i=a0.length:=by omega
  subst this
  unfold vb
  rw[qw (x:=some false),pE]
  ·rfl
  ·unfold xe
   rw[if_neg (by simp)]
   rfl
 |k+1,i,M,h,hM=>by
  have hi:i<a0.length:=by omega
  have ih:=z2x hl k (i+1)
  have hb:xe none a0 (i:Int) M=if(a0.take i).contains a0[i]=true then some (.inr true) else some (.inl (((i+1:Nat):Int),mp Wu M a0[i] 1)):=by
   unfold xe
   rw[if_pos (by simpa using hi),if_pos (by simpa using hi)]
   simp only[p4,z27 hi,Wi (show i≤4611686018427387904 by omega),hM]
   rfl
  rw[p8 hi,ztl]
  unfold vb at ih ⊢
  cases hc:(a0.take i).contains a0[i] with
  |true=>
   rw[hc,if_pos rfl] at hb
   rw[qw (x:=some true) hb];rfl
  |false=>
   rw[hc,if_neg (by simp)] at hb
   have ht:a0.take (i+1)=a0.take i++[a0[i]]:=by rw[pI hi]
   rw[wz hb,ih _ (by omega) (fun x=>?_),ht,Bool.false_or]
   rw[y2t,ht]
   by_cases hx:a0[i]=x
   ·rw[if_pos hx,hx,zv7];rfl
   ·rw[if_neg hx,hM,zym hx]
theorem zlb{a0:List (List UInt8)}(hl:a0.length≤4611686018427387904):kh none a0=some (ztl [] a0):=
 z2x hl a0.length 0 [] (by omega) (fun x=>by simp[lk])
theorem z4p{a0:List (List UInt8)}{a1:List UInt8}(hl:a0.length≤4611686018427387904):∀ (k i:Nat),i+k=a0.length →
 ∃r,xy none a0 a1 (i:Int)=some r∧decide (r≥0)=(a0.drop i).contains a1
 |0,i,h=>by
  have:i=a0.length:=by omega
  subst this
  refine⟨-1,?_,by simp⟩
  unfold xy
  rw[qw (x:=some (-1))]
  unfold ym
  rw[if_neg (by simp)]
  rfl
 |k+1,i,h=>by
  have hi:i<a0.length:=by omega
  obtain⟨r,ih1,ih2⟩:=z4p (a1:=a1) hl k (i+1) (by omega)
  have hb:ym none a0 a1 (i:Int)=if(a1==a0[i])=true then some (.inr (i:Int)) else some (.inl ((i+1:Nat):Int)):=by
   unfold ym
   rw[if_pos (by simpa using hi),if_pos (by simpa using hi)]
   simp only[p4,z27 hi,Wi (show i≤4611686018427387904 by omega)]
   rfl
  rw[p8 hi]
  unfold xy at ih1 ⊢
  by_cases hc:a1=a0[i]
  ·rw[if_pos (by simpa using hc)] at hb
   exact⟨i,qw (x:=some (i:Int)) hb,by rw[hc,y4f,decide_eq_true_eq];omega⟩
  ·rw[if_neg (by simpa using hc)] at hb
   refine⟨r,by rw[wz hb];exact ih1,?_⟩
   rw[ih2,y36 hc]
theorem zd0{a0:List (List UInt8)}{a1:List UInt8}(hl:a0.length≤4611686018427387904):qz none a0 a1=some (a0.contains a1):=by
 obtain⟨r,h1,h2⟩:=z4p (a1:=a1) hl a0.length 0 (by omega)
 unfold qz w9
 rw[show(0:Int)=((0:Nat):Int) from rfl,h1,p0]
 rw[show((0:Nat):Int)=(0:Int) from rfl,h2]
 rfl
theorem zhx{a0:List (List UInt8)}(hl:a0.length≤4611686018427387904):∀ (k i:Nat),i+k=a0.length→jt none a0 (i:Int)=some (ztl (a0.take i) (a0.drop i))
 |0,i,h=>by
  have:i=a0.length:=by omega
  subst this
  unfold jt
  rw[qw (x:=some false),pE]
  ·rfl
  ·unfold qi
   rw[if_neg (by simp)]
   rfl
 |k+1,i,h=>by
  have hi:i<a0.length:=by omega
  have ih:=zhx hl k (i+1) (by omega)
  have hb:qi none a0 (i:Int)=if(a0.take i).contains a0[i]=true then some (.inr true) else some (.inl ((i+1:Nat):Int)):=by
   unfold qi
   rw[if_pos (by simpa using hi),if_pos (by simpa using hi),if_pos (by simp;omega)]
   simp only[p4,z27 hi,Wi (show i≤4611686018427387904 by omega)]
   rw[zd0 (by rw[List.length_take];omega),p0]
   rfl
  rw[p8 hi,ztl]
  unfold jt at ih ⊢
  cases hc:(a0.take i).contains a0[i] with
  |true=>
   rw[hc,if_pos rfl] at hb
   rw[qw (x:=some true) hb];rfl
  |false=>
   rw[hc,if_neg (by simp)] at hb
   rw[wz hb,ih,pI hi,Bool.false_or]
theorem y42{a0:List (List UInt8)}(hl:a0.length≤4611686018427387904):vl none a0=some (ztl [] a0):=zhx hl a0.length 0 (by omega)
theorem z9j{a0:List (List UInt8)}(hl:a0.length≤4611686018427387904)(hn:∀n∈a0,n.length≤4611686018427387904):∀ (k i:Nat),i+k=a0.length →
 ∃r,jw (fun(s:Unit) (x:(List UInt8))=>(qt none x).map fun o=>(o,())) none a0 (i:Int) ()=some (r,())∧decide (r≥0)=!((a0.drop i).all Lib.validD)
 |0,i,h=>by
  have:i=a0.length:=by omega
  subst this
  refine⟨-1,?_,by simp⟩
  unfold jw
  rw[qw (x:=some (-1,()))]
  unfold qq
  rw[if_neg (by simp)]
  rfl
 |k+1,i,h=>by
  have hi:i<a0.length:=by omega
  obtain⟨r,ih1,ih2⟩:=z9j hl hn k (i+1) (by omega)
  have hb:qq (fun(s:Unit) (x:(List UInt8))=>(qt none x).map fun o=>(o,())) none a0 (i:Int) ()=if(!Lib.validD a0[i])=true then some (.inr ((i:Int),())) else some (.inl (((i+1:Nat):Int),())):=by
   unfold qq qt
   rw[if_pos (by simpa using hi),if_pos (by simpa using hi)]
   simp only[p4,z27 hi,Wi (show i≤4611686018427387904 by omega)]
   rw[ze5 (hn _ (p9 hi))]
   rfl
  rw[p8 hi]
  unfold jw at ih1 ⊢
  cases hc:Lib.validD a0[i] with
  |false=>
   rw[hc,if_pos (by rfl)] at hb
   exact⟨i,qw (x:=some ((i:Int),())) hb,by rw[List.all_cons,hc,Bool.false_and,Bool.not_false,decide_eq_true_eq];omega⟩
  |true=>
   rw[hc,if_neg (by simp)] at hb
   refine⟨r,by rw[wz hb];exact ih1,?_⟩
   rw[ih2,List.all_cons,hc,Bool.true_and]
theorem zyl{a0:List (List UInt8)}(hl:a0.length≤4611686018427387904)(hn:∀n∈a0,n.length≤4611686018427387904) :
 xn (fun(s:Unit) (x:(List UInt8))=>(qt none x).map fun o=>(o,())) none a0 ()=some (!(a0.all Lib.validD),()):=by
 obtain⟨r,h1,h2⟩:=z9j hl hn a0.length 0 (by omega)
 unfold xn vn
 rw[show(0:Int)=((0:Nat):Int) from rfl,h1,p0]
 rw[show((0:Nat):Int)=(0:Int) from rfl,h2]
 rfl
def z1e(k n:Int):Bool:=decide (n=0∨(k=1∧n=1)∨(k=2∧-9007199254740991≤n∧n≤9007199254740991))
def wfB(k n:Int)(t:List UInt8)(ns:List (List UInt8))(len:Nat):Bool:=
 z1e k n&&(decide (t=[]) || (decide (k=3)&&Lib.validD t))&&decide (len=0∨k≥4)&&(if k=5 then decide (ns.length=len)&&!ztl [] ns else decide (ns.length=0))&&ns.all Lib.validD
def J.wf(j:J):Bool:=wfB j.kind j.num j.text j.names j.elems.length
theorem zyy{j:J}(hj:j.ok)(hk:0≤j.kind∧j.kind≤5){lo hi:Int}(hnum:z1e j.kind j.num=decide (lo≤j.num∧j.num≤hi)):jd none j.val lo hi=some j.wf:=by
 obtain⟨hl1,hl2,hl3,hl4⟩:=hj.len
 have hd:=zlb (a0:=j.names) (by omega)
 have hf:=zyl (a0:=j.names) (by omega) (fun n hn=>by have:=hl4 n hn;omega)
 have hu:=ze5 (s:=j.text) (by omega)
 unfold jd J.wf wfB
 rw[hnum]
 rw[u7,show j.val.fK=j.kind from rfl,show j.val.fN=j.num from rfl,show j.val.fT=j.text from rfl,show j.val.fA=j.names from rfl,p7]
 by_cases c1:¬(lo≤j.num∧j.num≤hi)
 ·rw[if_pos (by simp only[p5,decide_eq_true_eq];omega),decide_eq_false c1];rfl
 rw[if_neg (by simp only[p5,decide_eq_true_eq];omega)]
 by_cases c2:j.text≠[]∧j.kind≠3
 ·rw[if_pos (by simp;exact c2)];simp[c2.1,c2.2]
 rw[if_neg (by simpa using c2)]
 by_cases c3:j.elems.length > 0∧j.kind≠4∧j.kind≠5
 ·rw[if_pos (by simp;omega)]
  have:¬(j.elems.length=0∨j.kind≥4):=by omega
  rw[decide_eq_false this,Bool.and_false,Bool.false_and,Bool.false_and]
 rw[if_neg (by simp;omega)]
 have e1:decide (lo≤j.num∧j.num≤hi)=true:=by rw[decide_eq_true_eq];omega
 have e3:decide (j.elems.length=0∨j.kind≥4)=true:=by simp only[decide_eq_true_eq];omega
 have e2:(decide (j.text=[]) || (decide (j.kind=3)&&Lib.validD j.text))=Lib.validD j.text:=by
  by_cases ht:j.text=[]
  ·rw[ht];rfl
  ·have:j.kind=3:=Decidable.byContradiction fun h=>c2 ⟨ht,h⟩
   simp[ht,this]
 rw[e1,e2,e3]
 by_cases c5:j.kind=5
 ·rw[if_pos c5]
  by_cases cl:j.names.length=j.elems.length
  ·rw[if_pos (by simp[c5,cl]),hd,p0]
   cases hdp:ztl [] j.names with
   |true=>rw[if_pos (by simp[c5])];simp
   |false=>
    rw[if_neg (by simp[c5,cl]),if_neg (by simp[c5]),hu,p0]
    cases hv:Lib.validD j.text with
    |true=>rw[if_pos (by rfl),hf,p0];simp[cl]
    |false=>rw[if_neg (by simp),p0];simp
  ·rw[if_neg (by simp[c5];omega),p0,if_pos (by simp[c5];omega)]
   simp[cl]
 ·rw[if_neg c5,if_neg (by simp[c5]),p0,if_neg (by simp[c5])]
  by_cases cl:j.names.length=0
  ·rw[if_neg (by simp[cl]),hu,p0]
   cases hv:Lib.validD j.text with
   |true=>rw[if_pos (by rfl),hf,p0];simp[cl]
   |false=>rw[if_neg (by simp),p0];simp
  ·rw[if_pos (by simp[c5];omega)]
   simp[cl]
theorem y7c{j:J}(hj:j.ok)(hk:0≤j.kind∧j.kind≤5):ki none j.val=some j.wf:=by
 unfold ki
 have hkv:j.val.fK=j.kind:=rfl
 rw[hkv]
 by_cases c1:j.kind=1
 ·rw[if_pos (by simpa using c1)]
  exact zyy hj hk (by unfold z1e;rw[decide_eq_decide];omega)
 rw[if_neg (by simpa using c1)]
 by_cases c2:j.kind=2
 ·rw[if_pos (by simpa using c2)]
  exact zyy hj hk (by unfold z1e;rw[decide_eq_decide];omega)
 rw[if_neg (by simpa using c2)]
 exact zyy hj hk (by unfold z1e;rw[decide_eq_decide];omega)
mutual
def J.vd:J→Int
 |.mk k n t ns es=>if k<0∨k > 5 then 7 else if wfB k n t ns es.length=true then J.vdL es else 3
def J.vdL:List J→Int
 |[]=>0
 |e::r=>if e.vd≠0 then e.vd else J.vdL r
end
theorem zq5(j:J):j.vd=if j.kind<0∨j.kind > 5 then 7 else if j.wf=true then J.vdL j.elems else 3:=by
 cases j;rw[J.vd.eq_1];rfl
theorem zea{j:J}{rec0:GJ→Option Int}{B:Prop}(hj:j.ok)(hr:∀e∈j.elems,rec0 e.val=some e.vd∨(B∧rec0 e.val=none)) :
 ∀ (k i:Nat),i+k=j.elems.length →
  ja rec0 none j.val (i:Int)=some (J.vdL (j.elems.drop i))∨(B∧ja rec0 none j.val (i:Int)=none)
 |0,i,h=>by
  left
  have:i=j.elems.length:=by omega
  subst this
  unfold ja
  rw[qw (x:=some 0),pE]
  ·rfl
  ·unfold xc
   rw[if_neg (by rw[u7];simp)]
   rfl
 |k+1,i,h=>by
  have hi:i<j.elems.length:=by omega
  have hl:=hj.len
  have ih:=zea hj hr k (i+1) (by omega)
  have hb:xc rec0 none j.val (i:Int)=(rec0 (j.elems[i]).val).bind fun v8=>if(v8 != 0)=true then some (.inr v8) else some (.inl ((i+1:Nat):Int)):=by
   unfold xc
   rw[u7,if_pos (by simpa using hi),if_pos (by omega)]
   simp only[p4,y3m hi,p0,Wi (show i≤4611686018427387904 by omega)]
   rfl
  rw[p8 hi]
  unfold ja at ih ⊢
  rcases hr _ (p9 hi) with hc|⟨hB,hc⟩
  ·rw[hc,p0] at hb
   unfold J.vdL
   by_cases hv:j.elems[i].vd=0
   ·rw[if_neg (by simpa using hv)] at hb
    rw[wz hb,if_neg (by simpa using hv)]
    exact ih
   ·left
    rw[if_pos (by simpa using hv)] at hb
    rw[qw (x:=some (j.elems[i].vd)) hb,if_pos hv]
  ·right
   rw[hc] at hb
   exact⟨hB,Jd hb⟩
theorem zng{j:J}{rec0:GJ→Option Int}{B:Prop}(hj:j.ok)(hr:∀e∈j.elems,rec0 e.val=some e.vd∨(B∧rec0 e.val=none)) :
 xi rec0 none j.val=some j.vd∨(B∧xi rec0 none j.val=none):=by
 unfold xi
 rw[zq5,show j.val.fK=j.kind from rfl]
 by_cases c:j.kind<0∨j.kind > 5
 ·left
  rw[if_pos (by simp only[p5,decide_eq_true_eq];omega),if_pos c]
 rw[if_neg (by simp only[p5,decide_eq_true_eq];omega),if_neg c,y7c hj (by omega),p0]
 cases hw:j.wf with
 |false=>left;rw[if_pos (by rfl),if_neg (by simp)]
 |true=>
  rw[if_neg (by simp),if_pos rfl]
  exact zea hj hr j.elems.length 0 (by omega)
theorem zwu:∀ (k:Nat) (j:J),j.ok→jm none k j.val=some j.vd∨(k<j.sz∧jm none k j.val=none)
 |0,j,hj=>.inr ⟨z3g j,rfl⟩
 |k+1,j,hj=>by
  unfold jm
  exact zng hj fun e he=>by
   rcases zwu k e (hj.elem he) with h|⟨h1,h2⟩
   ·exact .inl h
   ·exact .inr ⟨by have:=zju he;omega,h2⟩
theorem y52{j:J}(hj:j.ok):ut none j.val=some j.vd:=Wv (d:=j.sz) fun k=>zwu k j hj
theorem y70{j:J}(hj:j.ok):Ye none j.val=some j.vd:=by
 rcases zng (B:=False) hj (fun e he=>.inl (y52 (hj.elem he))) with h|⟨h,_⟩
 ·exact h
 ·exact h.elim
def J.chk(j:J):Int:=if j.nodes≤400∧j.depth≤20 then j.vd else 2
theorem z3t{j:J}(hj:j.ok):vg none j.val=some j.chk:=by
 obtain⟨h1,_⟩:=zee j 1 0 (by omega)
 unfold vg J.chk
 rw[y31 hj,p0]
 by_cases c:j.nodes≤400∧j.depth≤20
 ·have:(j.lim 1 0).1=true:=h1.2 (by omega)
  rw[if_neg (by rw[this];simp),if_pos c,y70 hj]
  rfl
 ·have:(j.lim 1 0).1=false:=by
   cases hv:(j.lim 1 0).1 with
   |false=>rfl
   |true=>have:=h1.1 hv;omega
  rw[if_pos (by rw[this];rfl),if_neg c]
theorem zb6{j:J}{rec0:GJ→Option (Int×Int)}{B:Prop}(hj:j.ok)(hr:∀e∈j.elems,rec0 e.val=some ((e.nodes:Int),(e.depth:Int))∨(B∧rec0 e.val=none)) :
 ∀ (k i a c:Nat),i+k=j.elems.length→a+J.nodesL (j.elems.drop i)≤4611686018427387904→c≤1073741824→J.depthL (j.elems.drop i)≤1073741824 →
  qy rec0 none j.val (a:Int) (c:Int) (i:Int)=some (((a+J.nodesL (j.elems.drop i):Nat):Int),((max c (J.depthL (j.elems.drop i))+1:Nat):Int))∨(B∧qy rec0 none j.val (a:Int) (c:Int) (i:Int)=none)
 |0,i,a,c,h,ha,hc,hd=>by
  left
  have:i=j.elems.length:=by omega
  subst this
  unfold qy
  rw[qw (x:=some ((a:Int),((c+1:Nat):Int))),pE]
  ·simp[J.nodesL,J.depthL]
  ·unfold yp wu
   rw[if_neg (by rw[u7];simp),Wi (by omega)]
 |k+1,i,a,c,h,ha,hcc,hd=>by
  have hi:i<j.elems.length:=by omega
  have hl:=hj.len
  have ih:=zb6 hj hr k (i+1)
  have hb:yp rec0 none j.val (a:Int) (c:Int) (i:Int)=(rec0 (j.elems[i]).val).bind fun v9=>some (.inl (W ((a:Int)+v9.1),(if v9.2 > (c:Int) then v9.2 else(c:Int)),((i+1:Nat):Int))):=by
   unfold yp
   rw[u7,if_pos (by simpa using hi),if_pos (by omega)]
   simp only[p4,y3m hi,p0,Wi (show i≤4611686018427387904 by omega)]
  rw[p8 hi] at ha hd ⊢
  unfold J.nodesL at ha ⊢
  unfold J.depthL at hd ⊢
  unfold qy at ih ⊢
  rcases hr _ (p9 hi) with hc|⟨hB,hc⟩
  ·rw[hc,p0] at hb
   have e1:W ((a:Int)+(j.elems[i].nodes:Int))=((a+j.elems[i].nodes:Nat):Int):=by rw[ztt (by unfold inR;omega)];omega
   have e2:(if(j.elems[i].depth:Int) > (c:Int) then(j.elems[i].depth:Int) else(c:Int))=((max c j.elems[i].depth:Nat):Int):=by
    by_cases hx:(j.elems[i].depth:Int) > (c:Int)
    ·rw[if_pos hx];omega
    ·rw[if_neg hx];omega
   simp only[e1,e2] at hb
   rw[wz hb]
   have:=ih (a+j.elems[i].nodes) (max c j.elems[i].depth) (by omega) (by omega) (by omega) (by omega)
   rw[Nat.add_assoc,Nat.max_assoc] at this
   exact this
  ·right
   rw[hc] at hb
   exact⟨hB,Jd hb⟩
theorem z93{j:J}{rec0:GJ→Option (Int×Int)}{B:Prop}(hj:j.ok)(hr:∀e∈j.elems,rec0 e.val=some ((e.nodes:Int),(e.depth:Int))∨(B∧rec0 e.val=none)) :
 qr rec0 none j.val=some ((j.nodes:Int),(j.depth:Int))∨(B∧qr rec0 none j.val=none):=by
 have h1:=zhn j
 have h2:=z32 j
 have hk:j.sz≤1073741824:=hj
 have e1:j.nodes=1+J.nodesL j.elems:=by cases j;rw[J.nodes.eq_1];rfl
 have e2:j.depth=1+J.depthL j.elems:=by cases j;rw[J.depth.eq_1];rfl
 have:=zb6 hj hr j.elems.length 0 1 0 (by omega) (by rw[pK];omega) (by omega) (by rw[pK];omega)
 rw[pK] at this
 rw[e1,e2,Nat.add_comm 1 (J.depthL j.elems)]
 rw[Nat.max_eq_right (Nat.zero_le _)] at this
 exact this
theorem zgs:∀ (k:Nat) (j:J),j.ok→xb none k j.val=some ((j.nodes:Int),(j.depth:Int))∨(k<j.sz∧xb none k j.val=none)
 |0,j,hj=>.inr ⟨z3g j,rfl⟩
 |k+1,j,hj=>by
  unfold xb
  exact z93 hj fun e he=>by
   rcases zgs k e (hj.elem he) with h|⟨h1,h2⟩
   ·exact .inl h
   ·exact .inr ⟨by have:=zju he;omega,h2⟩
theorem zzj{j:J}(hj:j.ok):Z6 none j.val=some ((j.nodes:Int),(j.depth:Int)):=by
 rcases z93 (rec0:=kx none) (B:=False) hj (fun e he=>.inl (Wv (d:=e.sz) fun k=>zgs k e (hj.elem he))) with h|⟨h,_⟩
 ·exact h
 ·exact h.elim
theorem y4w(k n:Int):(((n==0) || ((k==1)&&(n==1))) || (((k==2)&&(decide ((W (0-9007199254740991))≤n)))&&(decide (n≤9007199254740991))))=z1e k n:=by
 have e:W (0-9007199254740991)=-9007199254740991:=ztt (by unfold inR;omega)
 rw[e]
 unfold z1e
 rw[pD]
 simp only[p5,p6,decide_eq_true_eq,beq_iff_eq]
 omega
theorem z5d{j:J}{rec0:GJ→Option Int}(hj:j.ok):∀ (k i:Nat) (v:Bool),i+k=j.names.length →
 xh rec0 none j.val v (i:Int)=yw rec0 none j.val (v&&(j.names.drop i).all Lib.validD)
 |0,i,v,h=>by
  have:i=j.names.length:=by omega
  subst this
  unfold xh
  rw[pE,List.all_nil,Bool.and_true,qw]
  unfold y9
  rw[show j.val.fA=j.names from rfl,p7,if_neg (by simp)]
 |k+1,i,v,h=>by
  have hi:i<j.names.length:=by omega
  have hl:=hj.len
  have ih:=z5d (rec0:=rec0) hj k (i+1) (v&&Lib.validD j.names[i]) (by omega)
  have hb:y9 rec0 none j.val v (i:Int)=some (.inl ((v&&Lib.validD j.names[i]),((i+1:Nat):Int))):=by
   unfold y9
   rw[show j.val.fA=j.names from rfl,p7,if_pos (by simpa using hi),if_pos (by omega)]
   simp only[p4,z27 hi,Wi (show i≤4611686018427387904 by omega)]
   rw[z7y (by have:=hl.2.2.2 _ (p9 hi);omega)]
   cases v<;>rfl
  rw[p8 hi,List.all_cons,←Bool.and_assoc]
  unfold xh at ih ⊢
  rw[wz hb]
  exact ih
theorem zg6{j:J}{rec0:GJ→Option Int}{B:Prop}(hj:j.ok)(hr:∀e∈j.elems,rec0 e.val=some e.vd∨(B∧rec0 e.val=none)) :
 y6 rec0 none j.val=some j.vd∨(B∧y6 rec0 none j.val=none):=by
 obtain⟨hl1,hl2,hl3,hl4⟩:=hj.len
 have hend:∀v:Bool,(v&&j.names.all Lib.validD)=j.wf→¬(j.kind<0∨j.kind > 5) →
  (y8 rec0 none j.val v=some j.vd∨(B∧y8 rec0 none j.val v=none)):=by
  intro v hv hk
  have h1:=z5d (rec0:=rec0) hj j.names.length 0 v (by omega)
  rw[pK,hv] at h1
  have h2:y8 rec0 none j.val v=yw rec0 none j.val j.wf:=h1
  rw[h2,zq5,if_neg hk]
  unfold yw
  cases hw:j.wf with
  |false=>left;rw[if_pos (by rfl),if_neg (by simp)]
  |true=>
   rw[if_neg (by simp),if_pos rfl]
   exact zea hj hr j.elems.length 0 (by omega)
 unfold y6
 rw[u7,show j.val.fK=j.kind from rfl,show j.val.fN=j.num from rfl,show j.val.fT=j.text from rfl,show j.val.fA=j.names from rfl,p7,y4w]
 by_cases c:j.kind<0∨j.kind > 5
 ·left
  rw[if_pos (by simp only[p5,decide_eq_true_eq];omega),zq5,if_pos c]
 rw[if_neg (by simp only[p5,decide_eq_true_eq];omega)]
 have hv:∃v1,(if((((z1e j.kind j.num)==true)&&((j.text==([]:List UInt8))==false))&&((j.kind==3)==true))=true then qv none j.text else some default)=some v1 ∧
  (z1e j.kind j.num&&((j.text==([]:List UInt8)) || ((j.kind==3)&&v1)))=(z1e j.kind j.num&&(decide (j.text=[]) || (decide (j.kind=3)&&Lib.validD j.text))):=by
  rw[z7y (by omega)]
  cases z1e j.kind j.num with
  |false=>exact⟨default,by simp,rfl⟩
  |true=>
   by_cases ht:j.text=[]
   ·exact⟨default,by simp[ht],by simp[ht]⟩
   ·by_cases h3:j.kind=3
    ·exact⟨_,by rw[if_pos (by simp[ht,h3])],by simp[ht,h3]⟩
    ·exact⟨default,by rw[if_neg (by simp[h3])],by simp[ht,h3]⟩
 obtain⟨v1,hv1,hv2⟩:=hv
 rw[hv1,p0,hv2]
 have e3:((((j.elems.length:Nat):Int)==0) || decide (j.kind≥4))=decide (j.elems.length=0∨j.kind≥4):=by
  rw[pD];simp only[p5,decide_eq_true_eq,beq_iff_eq];omega
 rw[e3]
 by_cases c5:j.kind=5
 ·rw[if_pos (by simpa using c5)]
  have e4:(((j.names.length:Nat):Int)==((j.elems.length:Nat):Int))=decide (j.names.length=j.elems.length):=by
   rw[pD];simp only[decide_eq_true_eq,beq_iff_eq];omega
  rw[e4,y42 (by omega)]
  generalize hA:(((z1e j.kind j.num&&(decide (j.text=[]) || (decide (j.kind=3)&&Lib.validD j.text)))&&decide (j.elems.length=0∨j.kind≥4))&&decide (j.names.length=j.elems.length))=A
  have hwf:j.wf=(A&&!ztl [] j.names&&j.names.all Lib.validD):=by
   rw[←hA]
   unfold J.wf wfB
   rw[if_pos c5]
   simp only[Bool.and_assoc]
  cases A with
  |false=>
   rw[if_neg (by simp),p0]
   exact hend _ (by rw[hwf];rfl) c
  |true=>
   rw[if_pos (by rfl),p0]
   exact hend _ (by rw[hwf]) c
 ·rw[if_neg (by simpa using c5)]
  have e4:(((j.names.length:Nat):Int)==0)=decide (j.names.length=0):=by
   rw[pD];simp only[decide_eq_true_eq,beq_iff_eq];omega
  rw[e4]
  refine hend _ ?_ c
  unfold J.wf wfB
  rw[if_neg c5]
theorem zpe:∀ (k:Nat) (j:J),j.ok→qg none k j.val=some j.vd∨(k<j.sz∧qg none k j.val=none)
 |0,j,hj=>.inr ⟨z3g j,rfl⟩
 |k+1,j,hj=>by
  unfold qg
  exact zg6 hj fun e he=>by
   rcases zpe k e (hj.elem he) with h|⟨h1,h2⟩
   ·exact .inl h
   ·exact .inr ⟨by have:=zju he;omega,h2⟩
theorem y3a{j:J}(hj:j.ok):ur none j.val=some j.vd:=by
 rcases zg6 (rec0:=kl none) (B:=False) hj (fun e he=>.inl (Wv (d:=e.sz) fun k=>zpe k e (hj.elem he))) with h|⟨h,_⟩
 ·exact h
 ·exact h.elim
theorem z17{j:J}(hj:j.ok):qu none j.val=some j.chk:=by
 unfold qu J.chk
 rw[zzj hj,p0]
 by_cases c:j.nodes≤400∧j.depth≤20
 ·rw[if_neg (by simp only[p5,decide_eq_true_eq];omega),if_pos c,y3a hj];rfl
 ·rw[if_pos (by simp only[p5,decide_eq_true_eq];omega),if_neg c]
theorem zop{ns:List (List UInt8)}(h:ns.length≤1073741824):Ze none ns=some ns:=by
 cases ns with
 |nil=>rfl
 |cons x r=>
  show vw none (x::r)=_
  unfold vw
  rw[List.nil_append,if_pos (by simp),if_pos (by rw[p7];omega)]
theorem z5w{j:J}{rec0:GJ→Option GJ}{B:Prop}(hj:j.ok)(hr:∀e∈j.elems,rec0 e.val=some e.val∨(B∧rec0 e.val=none)) :
 ∀ (k i:Nat),i+k=j.elems.length →
  ws rec0 none j.val j.names (i:Int) ((j.elems.take i).map J.raw)=some j.val∨(B∧ws rec0 none j.val j.names (i:Int) ((j.elems.take i).map J.raw)=none)
 |0,i,h=>by
  left
  have:i=j.elems.length:=by omega
  subst this
  unfold ws
  rw[qw (x:=some j.val)]
  unfold je uc
  rw[u7,if_neg (by simp),List.take_length]
  rfl
 |k+1,i,h=>by
  have hi:i<j.elems.length:=by omega
  have hl:=hj.len
  have ih:=z5w hj hr k (i+1) (by omega)
  have ht:(j.elems.take (i+1)).map J.raw=(j.elems.take i).map J.raw++[(j.elems[i]).raw]:=by rw[pI hi,pF];rfl
  have hlen:((j.elems.take i).map J.raw++[(j.elems[i]).raw]).length=i+1:=by
   rw[←ht,p7,List.length_take];omega
  have hb:je rec0 none j.val j.names (i:Int) ((j.elems.take i).map J.raw)=(rec0 (j.elems[i]).val).bind fun v9=>if((((j.elems.take i).map J.raw)++([z7 v9]:List (List AVal))).map ze).length*80≤140737488355328 then some (.inl (((i+1:Nat):Int),((j.elems.take i).map J.raw)++([z7 v9]:List (List AVal)))) else none:=by
   unfold je
   rw[u7,if_pos (by simpa using hi),if_pos (by omega)]
   simp only[p4,y3m hi,p0,Wi (show i≤4611686018427387904 by omega)]
  unfold ws at ih ⊢
  rcases hr _ (p9 hi) with hc|⟨hB,hc⟩
  ·rw[hc,p0,←Ke,if_pos (by rw[p7,hlen];omega),←ht] at hb
   rw[wz hb]
   exact ih
  ·right
   rw[hc] at hb
   exact⟨hB,Jd hb⟩
theorem z58{j:J}{rec0:GJ→Option GJ}{B:Prop}(hj:j.ok)(hr:∀e∈j.elems,rec0 e.val=some e.val∨(B∧rec0 e.val=none)) :
 jo rec0 none j.val=some j.val∨(B∧jo rec0 none j.val=none):=by
 unfold jo
 rw[show j.val.fA=j.names from rfl,zop hj.len.2.2.1,p0]
 exact z5w hj hr j.elems.length 0 (by omega)
theorem Ko:∀ (k:Nat) (j:J),j.ok→vh none k j.val=some j.val∨(k<j.sz∧vh none k j.val=none)
 |0,j,hj=>.inr ⟨z3g j,rfl⟩
 |k+1,j,hj=>by
  unfold vh
  exact z58 hj fun e he=>by
   rcases Ko k e (hj.elem he) with h|⟨h1,h2⟩
   ·exact .inl h
   ·exact .inr ⟨by have:=zju he;omega,h2⟩
theorem zv4{j:J}(hj:j.ok):Yg none j.val=some j.val:=by
 rcases z58 (rec0:=xw none) (B:=False) hj (fun e he=>.inl (Wv (d:=e.sz) fun k=>Ko k e (hj.elem he))) with h|⟨h,_⟩
 ·exact h
 ·exact h.elim
theorem z00{a:List (List UInt8)}(hl:a.length≤4611686018427387904):∀ (k i:Nat),i+k=a.length→j0 none a a (i:Int)=some true
 |0,i,h=>by
  unfold j0
  rw[qw (x:=some true)]
  unfold yn
  rw[if_neg (by simp;omega)]
  rfl
 |k+1,i,h=>by
  have hi:i<a.length:=by omega
  have ih:=z00 hl k (i+1) (by omega)
  have hb:yn none a a (i:Int)=some (.inl ((i+1:Nat):Int)):=by
   unfold yn
   rw[if_pos (by simpa using hi),if_pos (by simpa using hi),if_pos (by simpa using hi),if_neg (by simp),Wi (by omega)]
  unfold j0 at ih ⊢
  rw[wz hb]
  exact ih
theorem zk2{a:List (List UInt8)}(hl:a.length≤4611686018427387904):yl none a a=some true:=by
 unfold yl
 rw[if_neg (by simp)]
 exact z00 hl a.length 0 (by omega)
theorem zob{a:List (List UInt8)}:yl none a []=some (decide (a.length=0)):=by
 unfold yl
 by_cases h:a.length=0
 ·have:a=[]:=List.eq_nil_of_length_eq_zero h
  subst this
  rw[if_neg (by simp)]
  exact z00 (a:=[]) (by simp) 0 0 rfl
 ·rw[if_pos (by simp;exact fun hh=>h (by rw[hh];rfl))]
  simp[h]
theorem zlj{j:J}{rec0:GJ→GJ→Option Bool}{B:Prop}(hj:j.ok)(hr:∀e∈j.elems,rec0 e.val e.val=some true∨(B∧rec0 e.val e.val=none)) :
 ∀ (k i:Nat),i+k=j.elems.length →
  zr rec0 none j.val j.val true (i:Int)=some true∨(B∧zr rec0 none j.val j.val true (i:Int)=none)
 |0,i,h=>by
  left
  have:i=j.elems.length:=by omega
  subst this
  unfold zr
  rw[qw (x:=some true)]
  unfold zq qc
  rw[u7,if_neg (by simp)]
  first|rfl|done
 |k+1,i,h=>by
  have hi:i<j.elems.length:=by omega
  have hl:=hj.len
  have ih:=zlj hj hr k (i+1) (by omega)
  have hb:zq rec0 none j.val j.val true (i:Int)=(rec0 (j.elems[i]).val (j.elems[i]).val).bind fun v12=>some (.inl (v12,((i+1:Nat):Int))):=by
   unfold zq
   rw[u7,if_pos (by simpa using hi),if_pos (by omega)]
   simp only[p4,y3m hi,p0,Wi (show i≤4611686018427387904 by omega)]
   rw[if_pos (by omega)]
  unfold zr at ih ⊢
  rcases hr _ (p9 hi) with hc|⟨hB,hc⟩
  ·rw[hc,p0] at hb
   rw[wz hb]
   exact ih
  ·right
   rw[hc] at hb
   exact⟨hB,Jd hb⟩
theorem zya{j:J}{rec0:GJ→GJ→Option Bool}{B:Prop}(hj:j.ok)(hr:∀e∈j.elems,rec0 e.val e.val=some true∨(B∧rec0 e.val e.val=none)) :
 zn rec0 none j.val j.val=some true∨(B∧zn rec0 none j.val j.val=none):=by
 unfold zn
 rw[if_pos (by simp),show j.val.fA=j.names from rfl,zk2 (by have:=hj.len.2.2.1;omega),p0]
 have e:((((((j.val.fK==j.val.fK)&&(j.val.fN==j.val.fN))&&(j.val.fT==j.val.fT))&&true)&&(((j.val.fE.map ze).length:Int)==((j.val.fE.map ze).length:Int))))=true:=by simp
 rw[e]
 exact zlj hj hr j.elems.length 0 (by omega)
theorem zwn:∀ (k:Nat) (j:J),j.ok→yj none k j.val j.val=some true∨(k<j.sz∧yj none k j.val j.val=none)
 |0,j,hj=>.inr ⟨z3g j,rfl⟩
 |k+1,j,hj=>by
  unfold yj
  exact zya hj fun e he=>by
   rcases zwn k e (hj.elem he) with h|⟨h1,h2⟩
   ·exact .inl h
   ·exact .inr ⟨by have:=zju he;omega,h2⟩
theorem y76{j:J}(hj:j.ok):yk none j.val j.val=some true:=Wv (d:=j.sz) fun k=>zwn k j hj
def nullJ:J:=.mk 0 0 [] [] []
def Up(j:J):Bool:=decide (j.kind=0∧j.num=0∧j.text=[]∧j.names.length=0∧j.elems.length=0)
theorem zqz{j:J}(hj:j.ok):u5 none j.val=some (Up j):=by
 have hl:=hj.len
 unfold u5 Up
 rw[u7,show j.val.fK=j.kind from rfl,show j.val.fN=j.num from rfl,show j.val.fT=j.text from rfl,show j.val.fA=j.names from rfl,p7,ztt (by unfold inR;omega)]
 congr 1
 rw[pD]
 simp only[p6,decide_eq_true_eq,beq_iff_eq]
 constructor
 ·rintro⟨⟨⟨h1,h2⟩,h3⟩,h4⟩;exact⟨h1,h2,h3,by omega,by omega⟩
 ·rintro⟨h1,h2,h3,h4,h5⟩;exact⟨⟨⟨h1,h2⟩,h3⟩,by omega⟩
theorem zw5{j:J}(hj:j.ok):qx none j.val=some (Up j):=by
 have hl:=hj.len
 have hlp:∀ (b:J) (v:Bool),(v=true→j.elems.length=0)→zr (yk none) none j.val b.val v 0=some v:=fun b v hv=>by
  unfold zr
  rw[qw (x:=some v)]
  unfold zq qc
  rw[u7,if_neg]
  simp only[p6,decide_eq_true_eq]
  rintro⟨h1,h2⟩
  have:=hv h1
  omega
 unfold qx u6 zn
 rw[show(GJ.mk 0 0 ([]:List UInt8) ([]:List (List UInt8)) ([]:List (List AVal)))=nullJ.val from rfl]
 rw[u7,u7,show j.val.fK=j.kind from rfl,show j.val.fN=j.num from rfl,show j.val.fT=j.text from rfl,show j.val.fA=j.names from rfl]
 rw[show nullJ.val.fK=0 from rfl,show nullJ.val.fN=0 from rfl,show nullJ.val.fT=[] from rfl,show nullJ.val.fA=[] from rfl,show nullJ.elems.length=0 from rfl,zob]
 by_cases c:j.kind=0∧j.num=0∧j.text=[]
 ·rw[if_pos (by simp[c.1,c.2.1,c.2.2]),p0,hlp nullJ _ (fun h=>by simp only[p6,beq_iff_eq] at h;omega)]
  simp only[p0]
  congr 1
  unfold Up
  rw[pD]
  simp only[p6,decide_eq_true_eq,beq_iff_eq]
  constructor
  ·rintro⟨⟨⟨⟨h1,h2⟩,h3⟩,h4⟩,h5⟩;exact⟨h1,h2,h3,h4,by omega⟩
  ·rintro⟨h1,h2,h3,h4,h5⟩;exact⟨⟨⟨⟨h1,h2⟩,h3⟩,h4⟩,by omega⟩
 ·have hc:(((j.kind==0)&&(j.num==0))&&(j.text==([]:List UInt8)))=false:=by
   cases hx:(((j.kind==0)&&(j.num==0))&&(j.text==([]:List UInt8))) with
   |false=>rfl
   |true=>
    simp only[p6,beq_iff_eq] at hx
    exact absurd ⟨hx.1.1,hx.1.2,hx.2⟩ c
  rw[hc,if_neg (by simp),p0,hlp nullJ _ (fun h=>by simp at h)]
  simp only[p0,Bool.false_and]
  congr 1
  unfold Up
  rw[eq_comm,decide_eq_false_iff_not]
  exact fun h=>c ⟨h.1,h.2.1,h.2.2.1⟩
def vt(m:List UInt8)(a:Int):Bool:=((decide ((m.length:Int)≥a))&&(decide ((m.length:Int)≤60)))&&Lib.validD m
theorem z0q(m:List UInt8)(a:Int):jc none m a=some (vt m a):=by
 unfold jc vt
 cases hc:((decide ((m.length:Int)≥a))&&(decide ((m.length:Int)≤60))) with
 |false=>rfl
 |true=>
  have:m.length≤60:=by simp only[p6,decide_eq_true_eq] at hc;omega
  rw[if_pos (by rfl),ze5 (by omega)]
  rfl
theorem z0i(m:List UInt8)(a:Int):yq none m a=some (vt m a):=by
 unfold yq vt
 cases hc:((decide ((m.length:Int)≥a))&&(decide ((m.length:Int)≤60))) with
 |false=>rfl
 |true=>
  have:m.length≤60:=by simp only[p6,decide_eq_true_eq] at hc;omega
  rw[if_pos (by rfl),z7y (by omega)]
  rfl
def z6c:List UInt8:=[36,47,99,97,110,99,101,108]
def idB(k id:Int):Bool:=if k=2 then decide (id=0) else decide (0≤id∧id≤2147483647)
def zu8(k c:Int):Bool:=if k=4 then decide (1≤c∧c≤99) else decide (c=0)
def zcz(k:Int)(m:List UInt8):Bool:=if k=1 then vt m 1 else if k=2 then vt m 1&&!(m==z6c) else if k=4 then vt m 0 else(m==[])
def wfM(k id c:Int)(m:List UInt8)(b:J):Bool:=idB k id&&zu8 k c&&(!(decide (k=4∨k=5)) || Up b)&&zcz k m
theorem zn1(k id c:Int)(m:List UInt8)(b:GJ):wc none ⟨k,id,c,m,b⟩=some (zcz k m):=by
 unfold wc zcz
 simp only[z0q,p0,beq_iff_eq]
 by_cases c1:k=1
 ·rw[if_pos c1,if_pos c1]
 rw[if_neg c1,if_neg c1]
 by_cases c2:k=2
 ·rw[if_pos c2,if_pos c2];rfl
 rw[if_neg c2,if_neg c2]
 by_cases c4:k=4
 ·rw[if_pos c4,if_pos c4]
 rw[if_neg c4,if_neg c4]
theorem y3c{k id c:Int}{m:List UInt8}{b:J}(hb:b.ok)(v:Bool):wv none ⟨k,id,c,m,b.val⟩ v=some (!v&&(!(decide (k=4∨k=5)) || Up b)&&zcz k m):=by
 unfold wv
 have e1:u5 none (GJ.mk b.val.fK b.val.fN b.val.fT b.val.fA b.val.fE)=some (Up b):=zqz hb
 have e2:wc none (GM.mk k id c m (GJ.mk b.val.fK b.val.fN b.val.fT b.val.fA b.val.fE))=some (zcz k m):=zn1 ..
 simp only[e1,e2,p0]
 cases v with
 |true=>rw[if_pos rfl];rfl
 |false=>
  rw[if_neg (by simp)]
  by_cases ck:k=4∨k=5
  ·have h1:((k != 4)&&(k != 5))=false:=by rcases ck with rfl|rfl<;>rfl
   rw[h1,if_pos (by rfl),p0,decide_eq_true ck]
   cases Up b with
   |true=>rw[if_neg (by simp)];simp
   |false=>rw[if_pos (by rfl)];rfl
  ·have h1:((k != 4)&&(k != 5))=true:=by simp;omega
   rw[h1,if_neg (by simp),p0,if_neg (by simp),decide_eq_false ck]
   simp
theorem y34{k id c:Int}{m:List UInt8}{b:J}(hb:b.ok):ve none ⟨k,id,c,m,b.val⟩=some (wfM k id c m b):=by
 have hj1:∀v:Bool,wt none ⟨k,id,c,m,b.val⟩ v=some (!v&&zu8 k c&&(!(decide (k=4∨k=5)) || Up b)&&zcz k m):=by
  intro v
  unfold wt
  simp only[y3c hb]
  cases v with
  |true=>rw[if_pos rfl];rfl
  |false=>
   rw[if_neg (by simp)]
   unfold zu8
   by_cases c4:k=4
   ·rw[if_pos c4]
    by_cases cc:1≤c∧c≤99
    ·have:((decide (c<1)) || (decide (c > 99)))=false:=by simp;omega
     rw[this,if_neg (by simp),decide_eq_true cc];simp[c4]
    ·have:((decide (c<1)) || (decide (c > 99)))=true:=by simp only[p5,decide_eq_true_eq];omega
     rw[this,if_pos (by simp[c4]),decide_eq_false cc];simp[c4]
   ·rw[if_neg c4,if_neg (by simp[c4])]
    by_cases cc:c=0
    ·simp[cc]
    ·simp[cc,c4]
 unfold ve
 simp only[hj1]
 unfold wfM idB
 by_cases c2:k=2
 ·rw[if_pos c2,if_neg (by simp[c2])]
  by_cases ci:id=0
  ·simp[ci]
  ·simp[ci,c2]
 ·have hk2:(k != 2)=true:=by simpa using c2
  rw[if_neg c2]
  by_cases ci:0≤id∧id≤2147483647
  ·have:((decide (id<0)) || (decide (id > 2147483647)))=false:=by simp;omega
   rw[this,if_neg (by simp),decide_eq_true ci,hk2];rfl
  ·have:((decide (id<0)) || (decide (id > 2147483647)))=true:=by simp only[p5,decide_eq_true_eq];omega
   rw[this,if_pos (by simp[c2]),decide_eq_false ci,hk2];rfl
theorem y5q{k id c:Int}{m:List UInt8}{b:J}(hb:b.ok)(hk:¬(k<1∨k > 5)):qj none ⟨k,id,c,m,b.val⟩=some (wfM k id c m b):=by
 have e1:qx none (GJ.mk b.val.fK b.val.fN b.val.fT b.val.fA b.val.fE)=some (Up b):=zw5 hb
 have hid:((decide (id≥0))&&(decide (id≤2147483647)))=decide (0≤id∧id≤2147483647):=by rw[pD];simp
 have hc0:(c==0)=decide (c=0):=by rw[pD];simp
 have hi0:(id==0)=decide (id=0):=by rw[pD];simp
 unfold qj wfM idB zu8 zcz
 simp only[e1,z0i,hid,hc0,hi0]
 have hk':k=1∨k=2∨k=3∨k=4∨k=5:=by omega
 rcases hk' with rfl|rfl|rfl|rfl|rfl
 ·cases decide (0≤id∧id≤2147483647)<;>cases decide (c=0)<;>simp
 ·cases decide (id=0)<;>cases decide (c=0)<;>simp[z6c]
 ·cases decide (0≤id∧id≤2147483647)<;>cases decide (c=0)<;>simp
 ·have hcc:∀x:Bool,(x&&decide (c≥1)&&decide (c≤99))=(x&&decide (1≤c∧c≤99)):=fun x=>by rw[pD];simp[and_assoc]
  simp only[hcc]
  cases decide (0≤id∧id≤2147483647)<;>cases decide (1≤c∧c≤99)<;>cases vt m 0<;>cases Up b<;>simp
 ·cases decide (0≤id∧id≤2147483647)<;>cases decide (c=0)<;>cases(m==[])<;>cases Up b<;>simp
def zc7(n:Int):J:=.mk 2 n [] [] []
def zjf(t:List UInt8):J:=.mk 3 0 t [] []
def zc5(ns:List (List UInt8))(es:List J):J:=.mk 5 0 [] ns es
def idT:List UInt8:=[105,100]
def z7i:List UInt8:=[109,101,116,104,111,100]
def z7n:List UInt8:=[112,97,114,97,109,115]
def zt7:List UInt8:=[114,101,115,117,108,116]
def zy2:List UInt8:=[101,114,114,111,114]
def y4n:List UInt8:=[99,111,100,101]
def zgr:List UInt8:=[109,101,115,115,97,103,101]
def z4c(k id c:Int)(m:List UInt8)(b:J):J:=
 if k=1 then zc5 [idT,z7i,z7n] [zc7 id,zjf m,b]
 else if k=2 then zc5 [z7i,z7n] [zjf m,b]
 else if k=3 then zc5 [idT,zt7] [zc7 id,b]
 else if k=4 then zc5 [idT,zy2] [zc7 id,zc5 [y4n,zgr] [zc7 c,zjf m]]
 else zc5 [z7i,z7n] [zjf z6c,zc5 [idT] [zc7 id]]
theorem zn4(k id c:Int)(m:List UInt8)(b:J):(z4c k id c m b).sz≤b.sz+m.length+200:=by
 unfold z4c
 repeat' split
 all_goals
  simp only[zc5,zc7,zjf,J.sz,J.szL,nsz,idT,z7i,z7n,zt7,zy2,y4n,zgr,z6c,pH,List.length_nil]
  omega
theorem zf5{k id c:Int}{m:List UInt8}{b:J}(hb:b.ok):ke none ⟨k,id,c,m,b.val⟩=some (z4c k id c m b).val:=by
 have e1:Yg none (GJ.mk b.val.fK b.val.fN b.val.fT b.val.fA b.val.fE)=some b.val:=zv4 hb
 have en:∀n,vo none n=some (zc7 n).val:=fun n=>rfl
 have et:∀t,uf none t=some (zjf t).val:=fun t=>rfl
 have eo:∀ns es,jh none ns (es.map J.raw)=some (zc5 ns es).val:=fun ns es=>rfl
 unfold ke z4c
 simp only[e1,en,et,p0,←Ke,beq_iff_eq]
 by_cases c1:k=1
 ·rw[if_pos c1,if_pos c1,show [(zc7 id).raw,(zjf m).raw,b.raw]=[zc7 id,zjf m,b].map J.raw from rfl,eo];rfl
 rw[if_neg c1,if_neg c1]
 by_cases c2:k=2
 ·rw[if_pos c2,if_pos c2,show [(zjf m).raw,b.raw]=[zjf m,b].map J.raw from rfl,eo];rfl
 rw[if_neg c2,if_neg c2]
 by_cases c3:k=3
 ·rw[if_pos c3,if_pos c3,show [(zc7 id).raw,b.raw]=[zc7 id,b].map J.raw from rfl,eo];rfl
 rw[if_neg c3,if_neg c3]
 by_cases c4:k=4
 ·rw[if_pos c4,if_pos c4,show [(zc7 c).raw,(zjf m).raw]=[zc7 c,zjf m].map J.raw from rfl,eo,p0,←Ke]
  rfl
 rw[if_neg c4,if_neg c4,show [(zc7 id).raw]=[zc7 id].map J.raw from rfl,eo,p0,←Ke]
 rfl
theorem z99(n:List UInt8)(x:J)(k u:Int)(t:List UInt8)(ns:List (List UInt8))(es:List J)(h1:ns.length≤1000)(h2:es.length≤1000) :
 zb none n x.val (J.mk k u t ns es).val=some (zc5 (n::ns) (x::es)).val:=by
 unfold zb
 rw[show(J.mk k u t ns es).val.fA=ns from rfl,show(J.mk k u t ns es).val.fE=es.map J.raw from rfl,←Ke]
 rw[if_pos (by simp only[p7,pJ,pH,List.length_nil];omega),if_pos (by simp only[p7,pJ,pH,List.length_nil];omega)]
 rfl
theorem zmx{k id c:Int}{m:List UInt8}{b:J}(hb:b.ok):yy none ⟨k,id,c,m,b.val⟩=some (z4c k id c m b).val:=by
 have en:∀n,qp none n=some (zc7 n).val:=fun n=>rfl
 have et:∀t,wi none t=some (zjf t).val:=fun t=>rfl
 have eb:(GJ.mk b.val.fK b.val.fN b.val.fT b.val.fA b.val.fE)=b.val:=rfl
 have e0:(GJ.mk 0 0 ([]:List UInt8) ([]:List (List UInt8)) ([]:List (List AVal)))=(J.mk 0 0 [] [] []).val:=rfl
 have mo:∀ (n:List UInt8) (x:J) (ns:List (List UInt8)) (es:List J),ns.length≤1000→es.length≤1000→zb none n x.val (zc5 ns es).val=some (zc5 (n::ns) (x::es)).val:=fun n x ns es h1 h2=>z99 n x _ _ _ ns es h1 h2
 have m0:∀ (n:List UInt8) (x:J),zb none n x.val (J.mk 0 0 [] [] []).val=some (zc5 [n] [x]).val:=fun n x=>z99 n x _ _ _ [] [] (by simp) (by simp)
 have m1:∀ (n:List UInt8) (x:J) (a:List UInt8) (y:J),zb none n x.val (zc5 [a] [y]).val=some (zc5 [n,a] [x,y]).val:=fun n x a y=>mo n x _ _ (by simp) (by simp)
 have m2:∀ (n:List UInt8) (x:J) (a d:List UInt8) (y z:J),zb none n x.val (zc5 [a,d] [y,z]).val=some (zc5 [n,a,d] [x,y,z]).val:=fun n x a d y z=>mo n x _ _ (by simp) (by simp)
 unfold yy z4c
 simp only[en,et,eb,e0,p0,beq_iff_eq,m0,m1,m2]
 by_cases c1:k=1
 ·rw[if_pos c1,if_pos c1];rfl
 rw[if_neg c1,if_neg c1]
 by_cases c2:k=2
 ·rw[if_pos c2,if_pos c2];rfl
 rw[if_neg c2,if_neg c2]
 by_cases c3:k=3
 ·rw[if_pos c3,if_pos c3];rfl
 rw[if_neg c3,if_neg c3]
 by_cases c4:k=4
 ·rw[if_pos c4,if_pos c4];rfl
 rw[if_neg c4,if_neg c4]
 rfl
def Un(k id c:Int)(m:List UInt8)(b:J):J×Int:=
 if k<1∨k > 5 then(nullJ,7) else if wfM k id c m b=true then
  if b.chk≠0 then(nullJ,b.chk) else if(z4c k id c m b).chk≠0 then(nullJ,(z4c k id c m b).chk) else(z4c k id c m b,0)
 else(nullJ,3)
theorem za9{k id c:Int}{m:List UInt8}{b:J}(hs:b.sz+m.length≤1000000000):vq none ⟨k,id,c,m,b.val⟩=some ((Un k id c m b).1.val,(Un k id c m b).2):=by
 have hb:b.ok:=by unfold J.ok;omega
 have ho:(z4c k id c m b).ok:=by have:=zn4 k id c m b;unfold J.ok;omega
 have e1:ve none (GM.mk k id c m (GJ.mk b.val.fK b.val.fN b.val.fT b.val.fA b.val.fE))=some (wfM k id c m b):=y34 hb
 have e2:vg none (GJ.mk b.val.fK b.val.fN b.val.fT b.val.fA b.val.fE)=some b.chk:=z3t hb
 have e3:ke none (GM.mk k id c m (GJ.mk b.val.fK b.val.fN b.val.fT b.val.fA b.val.fE))=some (z4c k id c m b).val:=zf5 hb
 unfold vq Un
 simp only[e1,e2,e3,z3t ho,p0]
 by_cases ck:k<1∨k > 5
 ·rw[if_pos (by simp only[p5,decide_eq_true_eq];omega),if_pos ck];rfl
 rw[if_neg (by simp only[p5,decide_eq_true_eq];omega),if_neg ck]
 cases wfM k id c m b with
 |false=>rw[if_pos (by rfl),if_neg (by simp)];rfl
 |true=>
  rw[if_neg (by simp),if_pos rfl]
  by_cases c1:b.chk=0
  ·rw[if_neg (show ¬((b.chk != 0)=true) by simp[c1]),if_neg (show ¬(b.chk≠0) by simp[c1])]
   by_cases c2:(z4c k id c m b).chk=0
   ·rw[if_neg (show ¬(((z4c k id c m b).chk != 0)=true) by simp[c2]),if_neg (show ¬((z4c k id c m b).chk≠0) by simp[c2])]
   ·rw[if_pos (show((z4c k id c m b).chk != 0)=true by simp[c2]),if_pos c2];rfl
  ·rw[if_pos (show(b.chk != 0)=true by simp[c1]),if_pos c1];rfl
theorem zbg{k id c:Int}{m:List UInt8}{b:J}(hs:b.sz+m.length≤1000000000):zz none ⟨k,id,c,m,b.val⟩=some ((Un k id c m b).1.val,(Un k id c m b).2):=by
 have hb:b.ok:=by unfold J.ok;omega
 have ho:(z4c k id c m b).ok:=by have:=zn4 k id c m b;unfold J.ok;omega
 have e2:qu none (GJ.mk b.val.fK b.val.fN b.val.fT b.val.fA b.val.fE)=some b.chk:=z17 hb
 have e3:yy none (GM.mk k id c m (GJ.mk b.val.fK b.val.fN b.val.fT b.val.fA b.val.fE))=some (z4c k id c m b).val:=zmx hb
 unfold zz Un
 simp only[e2,e3,z17 ho,p0]
 by_cases ck:k<1∨k > 5
 ·rw[if_pos (by simp only[p5,decide_eq_true_eq];omega),if_pos ck];rfl
 have e1:qj none (GM.mk k id c m (GJ.mk b.val.fK b.val.fN b.val.fT b.val.fA b.val.fE))=some (wfM k id c m b):=y5q hb ck
 rw[if_neg (by simp only[p5,decide_eq_true_eq];omega),if_neg ck,e1,p0]
 cases wfM k id c m b with
 |false=>rw[if_pos (by rfl),if_neg (by simp)];rfl
 |true=>
  rw[if_neg (by simp),if_pos rfl]
  by_cases c1:b.chk=0
  ·rw[if_neg (show ¬((b.chk != 0)=true) by simp[c1]),if_neg (show ¬(b.chk≠0) by simp[c1])]
   by_cases c2:(z4c k id c m b).chk=0
   ·rw[if_neg (show ¬(((z4c k id c m b).chk != 0)=true) by simp[c2]),if_neg (show ¬((z4c k id c m b).chk≠0) by simp[c2])]
   ·rw[if_pos (show((z4c k id c m b).chk != 0)=true by simp[c2]),if_pos c2];rfl
  ·rw[if_pos (show(b.chk != 0)=true by simp[c1]),if_pos c1];rfl
structure Jb where
 i:Int
 p:Bool
 c:Bool
def jp(x:Jb):G_job:=⟨x.i,x.p,x.c⟩
def jr(x:Jb):G_Job:=⟨x.i,x.p,x.c⟩
abbrev Ms:=Int×Int×Int×List UInt8×J
def mv(x:Ms):GM:=⟨x.1,x.2.1,x.2.2.1,x.2.2.2.1,x.2.2.2.2.val⟩
def Jb.m(x:Jb)(id:Int):Bool:=x.p&&x.i==id
theorem zj4{js:List Jb}{k:Nat}(h:k<js.length):(js.map jp).getD k default=jp js[k]:=by rw[z36 (by rw[p7];exact h),List.getElem_map]
theorem zbk{js:List Jb}{k:Nat}(h:k<js.length):(js.map jr).getD k default=jr js[k]:=by rw[z36 (by rw[p7];exact h),List.getElem_map]
theorem zvb{l:List Ms}{k:Nat}(h:k<l.length):(l.map mv).getD k default=mv l[k]:=by rw[z36 (by rw[p7];exact h),List.getElem_map]
theorem zfv{l:List Int}(hl:l.length≤1000000):∀ (k i:Nat),i+k=l.length→w7 none l l (i:Int)=some true
 |0,i,h=>by
  unfold w7
  rw[qw (x:=some true)]
  unfold xq vz
  rw[if_neg (by simp;omega)]
 |k+1,i,h=>by
  have ih:=zfv hl k (i+1) (by omega)
  unfold w7 at ih ⊢
  rw[wz (s':=((i+1:Nat):Int))]
  ·exact ih
  ·unfold xq
   simp only[p7]
   rw[if_pos (by simp;omega),if_pos (by omega),if_pos (by omega),if_neg (by simp),Wi (by omega)]
theorem eqI{l:List Int}(hl:l.length≤1000000):jn none l l=some true:=by
 unfold jn
 rw[if_neg (by simp)]
 exact zfv hl l.length 0 (by omega)
theorem eqm{k id c:Int}{m:List UInt8}{j:J}(hj:j.ok):yx none ⟨k,id,c,m,j.val⟩ ⟨k,id,c,m,j.val⟩=some true:=by
 unfold yx
 rw[if_pos (by simp)]
 show pA (yk none j.val j.val) _=_
 rw[y76 hj,p0]
 simp
theorem zx8(a:Int){b:Int}(hb:0<b)(hb':b≤4611686018427387904):∃v,qb none a b=some v∧0≤v∧v<b:=by
 have h1:=Int.tmod_lt_of_pos a hb
 have h2:-b<a.tmod b:=by
  have h:=Int.tmod_lt_of_pos (-a) hb
  rw[Int.neg_tmod] at h
  omega
 unfold qb kq
 rw[if_pos (by omega)]
 by_cases c:a.tmod b<0
 ·rw[if_pos (decide_eq_true c),ztt (by unfold inR;omega)]
  exact⟨_,rfl,by omega,by omega⟩
 ·rw[if_neg (by simpa using c)]
  exact⟨_,rfl,by omega,by omega⟩
def pl:List Jb→Nat→List Int
 |[],_=>[]
 |x::r,i=>if x.p=true then(i:Int)::pl r (i+1) else pl r (i+1)
theorem zhy:∀ (l:List Jb) (i:Nat),(pl l i).length≤l.length
 |[],_=>Nat.le_refl _
 |x::r,i=>by
  have:=zhy r (i+1)
  unfold pl
  split<;>simp only[pH]<;>omega
theorem y2o{js:List Jb}{Q:List GM}(hl:js.length≤1000):∀ (n i:Nat) (acc:List Int),i+n=js.length→acc.length≤i→wg none (js.map jp) Q acc (i:Int)=some (acc++pl (js.drop i) i)
 |0,i,acc,h,ha=>by
  have:i=js.length:=by omega
  subst this
  unfold wg
  rw[qw (x:=some acc),pE]
  ·unfold pl;rw[List.append_nil]
  ·unfold x5 kg
   rw[if_neg (by simp)]
 |n+1,i,acc,h,ha=>by
  have hi:i<js.length:=by omega
  have hb:x5 none (js.map jp) Q acc (i:Int)=some (.inl (if js[i].p=true then acc++[(i:Int)] else acc,((i+1:Nat):Int))):=by
   unfold x5 wk
   simp only[p4,pB,zj4 hi]
   rw[if_pos (by simpa using hi),if_pos (by simp;omega),if_pos (by simpa using hi),Wi (by omega)]
   by_cases c:js[i].p=true
   ·rw[if_pos (show(jp js[i]).f_pending=true from c),if_pos c,if_pos (by simp;omega)]
   ·rw[if_neg (show ¬(jp js[i]).f_pending=true from c),if_neg c]
  have ih:=y2o (Q:=Q) hl n (i+1) (if js[i].p=true then acc++[(i:Int)] else acc) (by omega) (by split<;>first|(simp only[pJ,List.length_singleton];omega)|omega)
  unfold wg at ih ⊢
  rw[wz hb,ih,p8 hi]
  by_cases c:js[i].p=true
  ·rw[if_pos c,List.append_assoc,pl,if_pos c];rfl
  ·rw[if_neg c,pl,if_neg c]
theorem y4d{js:List Jb}{Q:List GM}(hl:js.length≤1000):∀ (n i:Nat) (acc:List Int),i+n=js.length→acc.length≤i→xf none (js.map jr) Q acc (i:Int)=some (acc++pl (js.drop i) i)
 |0,i,acc,h,ha=>by
  have:i=js.length:=by omega
  subst this
  unfold xf
  rw[qw (x:=some acc),pE]
  ·unfold pl;rw[List.append_nil]
  ·unfold yb w8
   rw[if_neg (by simp)]
 |n+1,i,acc,h,ha=>by
  have hi:i<js.length:=by omega
  have hb:yb none (js.map jr) Q acc (i:Int)=some (.inl (if js[i].p=true then acc++[(i:Int)] else acc,((i+1:Nat):Int))):=by
   unfold yb xg
   simp only[p4,pB,zbk hi]
   rw[if_pos (by simpa using hi),if_pos (by simp;omega),if_pos (by simpa using hi),Wi (by omega)]
   by_cases c:js[i].p=true
   ·rw[if_pos (show(jr js[i]).f_Pending=true from c),if_pos c,if_pos (by simp;omega)]
   ·rw[if_neg (show ¬(jr js[i]).f_Pending=true from c),if_neg c]
  have ih:=y4d (Q:=Q) hl n (i+1) (if js[i].p=true then acc++[(i:Int)] else acc) (by omega) (by split<;>first|(simp only[pJ,List.length_singleton];omega)|omega)
  unfold xf at ih ⊢
  rw[wz hb,ih,p8 hi]
  by_cases c:js[i].p=true
  ·rw[if_pos c,List.append_assoc,pl,if_pos c];rfl
  ·rw[if_neg c,pl,if_neg c]
theorem zhr{js:List Jb}(Q:List GM)(hl:js.length≤1000):wa none (js.map jp) Q=some (pl js 0):=by
 have:=y2o (Q:=Q) hl js.length 0 [] (by omega) (by simp)
 rw[pK,List.nil_append] at this
 exact this
theorem zfl{js:List Jb}(Q:List GM)(hl:js.length≤1000):x7 none (js.map jr) Q=some (pl js 0):=by
 have:=y4d (Q:=Q) hl js.length 0 [] (by omega) (by simp)
 rw[pK,List.nil_append] at this
 exact this
def At(js:List Jb)(id:Int)(r:Int):Prop:=(∃k,∃h:k<js.length,r=(k:Int)∧js[k].m id=true)∨(r=-1∧∀x∈js,x.m id=false)
def y2h(js:List Jb):Prop:=∀ (a b:Nat) (ha:a<js.length) (hb:b<js.length) (id:Int),js[a].m id=true→js[b].m id=true→a=b
theorem At.un{js:List Jb}{id r r':Int}(hu:y2h js)(h:At js id r)(h':At js id r'):r=r':=by
 rcases h with⟨k,hk,rfl,h1⟩|⟨rfl,h1⟩
 ·rcases h' with⟨k',hk',rfl,h2⟩|⟨rfl,h2⟩
  ·rw[hu k k' hk hk' id h1 h2]
  ·rw[h2 _ (p9 _)] at h1;cases h1
 ·rcases h' with⟨k',hk',rfl,h2⟩|⟨rfl,h2⟩
  ·rw[h1 _ (p9 _)] at h2;cases h2
  ·rfl
theorem y55{js:List Jb}{id:Int}(hl:js.length≤1000):∀ (n i:Nat),i+n=js.length→(∀j (h:j<js.length),j<i→js[j].m id=false) →
 ∃r,yt (fun(s:Unit) (x:G_job)=>(x9 none id x).map fun o=>(o,())) none (js.map jp) (i:Int) ()=some (r,())∧At js id r
 |0,i,h,hn=>by
  have:i=js.length:=by omega
  subst this
  refine⟨-1,?_,.inr ⟨rfl,fun x hx=>?_⟩⟩
  ·unfold yt
   rw[qw (x:=some (-1,()))]
   unfold ye jy
   rw[if_neg (by simp)]
  ·obtain⟨j,hj,rfl⟩:=List.mem_iff_getElem.1 hx
   exact hn j hj hj
 |n+1,i,h,hn=>by
  have hi:i<js.length:=by omega
  have hb:ye (fun(s:Unit) (x:G_job)=>(x9 none id x).map fun o=>(o,())) none (js.map jp) (i:Int) ()=if js[i].m id=true then some (.inr ((i:Int),())) else some (.inl (((i+1:Nat):Int),())):=by
   unfold ye x9
   simp only[p4,pB,zj4 hi,Option.map_some,p0]
   rw[if_pos (by simpa using hi),if_pos (by simp;omega),if_pos (by simpa using hi)]
   by_cases c:js[i].m id=true
   ·rw[if_pos (show((jp js[i]).f_pending&&((jp js[i]).f_id==id))=true from c),if_pos c]
   ·rw[if_neg (show ¬((jp js[i]).f_pending&&((jp js[i]).f_id==id))=true from c),if_neg c,Wi (by omega)]
  by_cases c:js[i].m id=true
  ·rw[if_pos c] at hb
   refine⟨i,?_,.inl ⟨i,hi,rfl,c⟩⟩
   unfold yt
   rw[qw (x:=some ((i:Int),())) hb]
  ·rw[if_neg c] at hb
   obtain⟨r,h1,h2⟩:=y55 hl n (i+1) (by omega) (fun j hj hji=>by
    by_cases e:j=i
    ·subst e;exact pG.2 c
    ·exact hn j hj (by omega))
   refine⟨r,?_,h2⟩
   unfold yt at h1 ⊢
   rw[wz hb];exact h1
theorem zmn{js:List Jb}(id:Int)(Q:List GM)(hl:js.length≤1000):∃r,we none id (js.map jp) Q=some r∧At js id r:=by
 obtain⟨r,h1,h2⟩:=y55 (id:=id) hl js.length 0 (by omega) (fun j _ h=>absurd h (Nat.not_lt_zero _))
 refine⟨r,?_,h2⟩
 unfold we j5
 rw[show(0:Int)=((0:Nat):Int) from rfl,h1];rfl
theorem y7n{js:List Jb}{M:GM}{Q:List GM}(hl:js.length≤1000):∀ (n i:Nat) (v:Int),i+n=js.length→((∃k,∃h:k<js.length,v=(k:Int)∧js[k].m M.fI=true)∨(v=-1∧∀j (h:j<js.length),j<i→js[j].m M.fI=false)) →
 ∃r,yu none M (js.map jr) Q v (i:Int)=zm none M (js.map jr) Q r∧At js M.fI r
 |0,i,v,h,hv=>by
  have:i=js.length:=by omega
  subst this
  refine⟨v,?_,?_⟩
  ·unfold yu
   refine qw ?_
   unfold yh
   rw[if_neg (by simp)]
  ·rcases hv with h|⟨h1,h2⟩
   ·exact .inl h
   ·refine .inr ⟨h1,fun x hx=>?_⟩
    obtain⟨j,hj,rfl⟩:=List.mem_iff_getElem.1 hx
    exact h2 j hj hj
 |n+1,i,v,h,hv=>by
  have hi:i<js.length:=by omega
  have hb:yh none M (js.map jr) Q v (i:Int)=some (.inl (if js[i].m M.fI=true then(i:Int) else v,((i+1:Nat):Int))):=by
   unfold yh xj
   simp only[p4,pB,zbk hi]
   rw[if_pos (by simpa using hi),if_pos (by simp;omega),if_pos (by simpa using hi),Wi (by omega)]
   by_cases c:js[i].m M.fI=true
   ·rw[if_pos (show((jr js[i]).f_Pending&&((jr js[i]).fI==M.fI))=true from c),if_pos c]
   ·rw[if_neg (show ¬((jr js[i]).f_Pending&&((jr js[i]).fI==M.fI))=true from c),if_neg c]
  obtain⟨r,h1,h2⟩:=y7n (M:=M) (Q:=Q) hl n (i+1) (if js[i].m M.fI=true then(i:Int) else v) (by omega) (by
   by_cases c:js[i].m M.fI=true
   ·rw[if_pos c];exact .inl ⟨i,hi,rfl,c⟩
   ·rw[if_neg c]
    rcases hv with hv|⟨h1,h2⟩
    ·exact .inl hv
    ·refine .inr ⟨h1,fun j hj hji=>?_⟩
     by_cases e:j=i
     ·subst e;exact pG.2 c
     ·exact h2 j hj (by omega))
  refine⟨r,?_,h2⟩
  unfold yu at h1 ⊢
  rw[wz hb];exact h1
def dupT:List UInt8:=[100,117,112,108,105,99,97,116,101,32,114,101,113,117,101,115,116]
def y88:List UInt8:=[116,111,111,32,109,97,110,121,32,114,101,113,117,101,115,116,115]
def failT:List UInt8:=[102,97,105,108,101,100]
theorem zgc:nullJ.sz≤1000:=by unfold nullJ;rw[J.sz.eq_1];simp[nsz,J.szL]
structure Inv(i:Nat)(js:List Jb)(qs:List Ms):Prop where
 jl:js.length≤i
 ql:qs.length≤i
 un:y2h js
 qo:∀q∈qs,q.2.2.2.2.sz+q.2.2.2.1.length≤1000000000
theorem Inv.up{i:Nat}{js:List Jb}{qs:List Ms}(h:Inv i js qs):Inv (i+1) js qs:=⟨by have:=h.jl;omega,by have:=h.ql;omega,h.un,h.qo⟩
theorem Inv.queue{i:Nat}{js:List Jb}{qs:List Ms}(h:Inv i js qs){q:Ms}(hq:q.2.2.2.2.sz+q.2.2.2.1.length≤1000000000):Inv (i+1) js (qs++[q]):=
 ⟨by have:=h.jl;omega,by have:=h.ql;simp;omega,h.un,fun x hx=>by
  rcases List.mem_append.1 hx with hx|hx
  ·exact h.qo x hx
  ·rw[List.mem_singleton] at hx;subst hx;exact hq⟩
theorem zvi{js:List Jb}{y:Jb}(hu:y2h js)(hn:∀x∈js,x.m y.i=false):y2h (js++[y]):=by
 have hy:∀id,y.m id=true→id=y.i:=fun id h=>by
  unfold Jb.m at h
  rw[p6,beq_iff_eq] at h
  exact h.2.symm
 intro a b ha hb id h1 h2
 rw[pJ,List.length_singleton] at ha hb
 rw[List.getElem_append] at h1 h2
 by_cases ca:a<js.length
 ·rw[dif_pos ca] at h1
  by_cases cb:b<js.length
  ·rw[dif_pos cb] at h2
   exact hu a b ca cb id h1 h2
  ·rw[dif_neg cb,List.getElem_singleton] at h2
   have:=hy id h2
   subst this
   rw[hn _ (p9 _)] at h1;cases h1
 ·rw[dif_neg ca,List.getElem_singleton] at h1
  by_cases cb:b<js.length
  ·rw[dif_pos cb] at h2
   have:=hy id h1
   subst this
   rw[hn _ (p9 _)] at h2;cases h2
  ·omega
theorem zuz{js:List Jb}{k:Nat}(hk:k<js.length){y:Jb}(hu:y2h js)(hy:∀id,y.m id=true→js[k].m id=true):y2h (js.set k y):=by
 have key:∀ (a:Nat) (ha:a<(js.set k y).length) (id:Int),(js.set k y)[a].m id=true→∃h:a<js.length,js[a].m id=true:=fun a ha id h=>by
  have ha':a<js.length:=by rw[List.length_set] at ha;exact ha
  rw[List.getElem_set] at h
  by_cases c:k=a
  ·subst c;rw[if_pos rfl] at h;exact⟨ha',hy id h⟩
  ·rw[if_neg c] at h;exact⟨ha',h⟩
 intro a b ha hb id h1 h2
 obtain⟨a1,a2⟩:=key a ha id h1
 obtain⟨b1,b2⟩:=key b hb id h2
 exact hu a b a1 b1 id a2 b2
theorem Inv.job{i:Nat}{js:List Jb}{qs:List Ms}(h:Inv i js qs){id:Int}(hn:∀x∈js,x.m id=false):Inv (i+1) (js++[⟨id,true,false⟩]) qs:=
 ⟨by have:=h.jl;simp;omega,by have:=h.ql;omega,zvi h.un hn,h.qo⟩
theorem Inv.set{i:Nat}{js:List Jb}{qs:List Ms}(h:Inv i js qs){k:Nat}(hk:k<js.length){y:Jb}(hy:∀id,y.m id=true→js[k].m id=true):Inv i (js.set k y) qs:=
 ⟨by rw[List.length_set];exact h.jl,h.ql,zuz hk h.un hy,h.qo⟩
theorem map_set{α β:Type}{f:α→β}{l:List α}{k:Nat}{y:α}:(l.map f).set k (f y)=(l.set k y).map f:=by rw[List.map_set]
theorem Wl(n:Nat)(h:n≤1000):W ((n:Int)-1)=(n:Int)-1:=ztt (by unfold inR;omega)
section
variable {i:Nat} {js:List Jb} {qs:List Ms}
def y71(i:Nat)(p:Option (G_QAction×Int×(List G_job)×(List GM)))(r:Option (G_QAction×Int×(List G_Job)×(List GM))):Prop:=
 ∃ (a:G_QAction) (e:Int) (js':List Jb) (qs':List Ms),p=some (a,e,js'.map jp,qs'.map mv)∧r=some (a,e,js'.map jr,qs'.map mv)∧Inv (i+1) js' qs'
theorem zvy(h:Inv i js qs)(hi:i<30)(id:Int){r:Int}(hr:At js id r) :
 (r≥0→xx none id (js.map jp) (qs.map mv)=some (G_QAction.mk 0 0,js.map jp,(qs++[(4,id,6,dupT,nullJ)]).map mv)) ∧
 (¬r≥0→xx none id (js.map jp) (qs.map mv)=some (G_QAction.mk 1 (js.length:Int),(js++[Jb.mk id true false]).map jp,qs.map mv)):=by
 have hjl:=h.jl
 have hql:=h.ql
 obtain⟨r',h1,h2⟩:=zmn id (qs.map mv) (by omega:js.length≤1000)
 have hrr:=h2.un h.un hr
 subst hrr
 unfold xx
 rw[h1,p0]
 refine⟨fun hc=>?_,fun hc=>?_⟩
 ·rw[if_pos (decide_eq_true hc)]
  unfold wr
  rw[if_pos (by simp;omega),p0,pF]
  rfl
 ·rw[if_neg (by rw[decide_eq_true_eq];exact hc),zhr _ (by omega),p0]
  have:=zhy js 0
  rw[if_neg (by rw[decide_eq_true_eq,p7];omega),if_pos (by simp;omega)]
  have e:(W (((((js.map jp++([(G_job.mk id true false)]:List G_job)).map z8).length:Nat):Int)-1))=(js.length:Int):=by
   rw[Wl _ (by simp;omega)];simp
  rw[e,pF]
  rfl
theorem zt5(h:Inv i js qs)(hi:i<30)(id:Int){r:Int}(hr:At js id r) :
 ∃ (a:G_QAction) (js':List Jb),jb none id (js.map jp) (qs.map mv)=some (a,js'.map jp) ∧
  ((∃k,∃hk:k<js.length,r=(k:Int)∧js[k].c=false∧a=G_QAction.mk 2 (k:Int)∧js'=js.set k ⟨js[k].i,js[k].p,true⟩)∨((r<0∨∃k,∃hk:k<js.length,r=(k:Int)∧js[k].c=true)∧a=G_QAction.mk 0 0∧js'=js)):=by
 have hjl:=h.jl
 obtain⟨r',h1,h2⟩:=zmn id (qs.map mv) (by omega:js.length≤1000)
 have hrr:=h2.un h.un hr
 subst hrr
 unfold jb
 rw[h1,p0]
 rcases hr with⟨k,hk,hkr,h3⟩|⟨hkr,h3⟩
 ·subst hkr
  simp only[p4,pB,zj4 hk]
  rw[if_pos (fun _=>by simp;omega),if_pos (fun _=>by simp;omega)]
  by_cases c:js[k].c=true
  ·rw[if_pos (by rw[show(jp js[k]).f_canceled=js[k].c from rfl,c];simp)]
   exact⟨_,js,rfl,.inr ⟨.inr ⟨k,hk,rfl,c⟩,rfl,rfl⟩⟩
  ·have c':=pG.2 c
   rw[if_neg (by rw[show(jp js[k]).f_canceled=js[k].c from rfl,c'];simp),if_pos (by simp;omega),if_pos (by simp;omega)]
   refine⟨_,js.set k ⟨js[k].i,js[k].p,true⟩,?_,.inl ⟨k,hk,rfl,c',rfl,rfl⟩⟩
   rw[←map_set]
   rfl
 ·subst hkr
  rw[if_pos (fun hx=>by simp at hx),if_pos (fun hx=>by simp at hx),if_pos (by simp)]
  exact⟨_,js,rfl,.inr ⟨.inl (by omega),rfl,rfl⟩⟩
theorem y5g(h:Inv i js qs)(hi:i<30){x:Ms}(hs:x.2.2.2.2.sz+x.2.2.2.1.length≤1000000000) :
 y71 i (x8 none (mv x) (js.map jp) (qs.map mv)) (y5 none (mv x) (js.map jr) (qs.map mv)):=by
 obtain⟨k,id,c,m,b⟩:=x
 have hjl:=h.jl
 have hql:=h.ql
 have eP:x8 none (mv (k,id,c,m,b)) (js.map jp) (qs.map mv)=if((Un k id c m b).2 != 0)=true then some ((G_QAction.mk 0 0),(Un k id c m b).2,js.map jp,qs.map mv) else if(k==1)=true then(xx none id (js.map jp) (qs.map mv)).bind fun v2=>some ((G_QAction.mk v2.1.f_Do v2.1.f_Job),0,v2.2.1,v2.2.2)
  else if(k==2)=true then some ((G_QAction.mk 3 0),0,js.map jp,qs.map mv) else if(k==5)=true then(jb none id (js.map jp) (qs.map mv)).bind fun v3=>some ((G_QAction.mk v3.1.f_Do v3.1.f_Job),0,v3.2,qs.map mv) else some ((G_QAction.mk 0 0),7,js.map jp,qs.map mv):=by
  unfold x8
  change pA (vq none ⟨k,id,c,m,b.val⟩) _=_
  rw[za9 hs,p0]
  rfl
 have eR:y5 none (mv (k,id,c,m,b)) (js.map jr) (qs.map mv)=if((Un k id c m b).2 != 0)=true then some ((G_QAction.mk 0 0),(Un k id c m b).2,js.map jr,qs.map mv) else yu none (mv (k,id,c,m,b)) (js.map jr) (qs.map mv) (-1) ((0:Nat):Int):=by
  unfold y5
  change pA (zz none ⟨k,id,c,m,b.val⟩) _=_
  rw[zbg hs,p0]
  rfl
 rw[eP,eR]
 by_cases he:(Un k id c m b).2=0
 ·obtain⟨r,g1,hr⟩:=y7n (M:=mv (k,id,c,m,b)) (Q:=qs.map mv) (by omega:js.length≤1000) js.length 0 (-1) (by omega) (.inr ⟨rfl,fun j _ h=>absurd h (Nat.not_lt_zero _)⟩)
  change At js id r at hr
  have hne:¬((Un k id c m b).2 != 0)=true:=by simpa using he
  rw[g1]
  unfold y71
  simp only[if_neg hne]
  by_cases k1:k=1
  ·subst k1
   obtain⟨s1,s2⟩:=zvy h hi id hr
   by_cases hc:r≥0
   ·refine⟨G_QAction.mk 0 0,0,js,qs++[(4,id,6,dupT,nullJ)],?_,?_,h.queue (by have:=zgc;show nullJ.sz+dupT.length≤_;rw[show dupT.length=17 from rfl];omega)⟩
    ·rw[if_pos (by decide),s1 hc];rfl
    ·unfold zm
     rw[if_pos (show((mv (1,id,c,m,b)).fK==1)=true from rfl),if_pos (decide_eq_true hc),if_pos (by simp;omega),pF]
     rfl
   ·have hn:∀x∈js,x.m id=false:=by
     rcases hr with⟨j,hj,hjr,h3⟩|⟨hjr,h3⟩
     ·omega
     ·exact h3
    refine⟨G_QAction.mk 1 (js.length:Int),0,js++[Jb.mk id true false],qs,?_,?_,h.job hn⟩
    ·rw[if_pos (by decide),s2 hc];rfl
    ·have:=zhy js 0
     unfold zm
     rw[if_pos (show((mv (1,id,c,m,b)).fK==1)=true from rfl),if_neg (by rw[decide_eq_true_eq];exact hc),zfl _ (by omega),p0,if_neg (by rw[decide_eq_true_eq,p7];omega),if_pos (by simp;omega)]
     have e:(W (((((js.map jr++([(G_Job.mk id true false)]:List G_Job)).map zh).length:Nat):Int)-1))=(js.length:Int):=by
      rw[Wl _ (by simp;omega)];simp
     change some (G_QAction.mk 1 (W (((((js.map jr++([(G_Job.mk id true false)]:List G_Job)).map zh).length:Nat):Int)-1)),_,_,_)=_
     rw[e,pF]
     rfl
  have k1':¬(k==1)=true:=by simpa using k1
  by_cases k2:k=2
  ·subst k2
   refine⟨G_QAction.mk 3 0,0,js,qs,?_,?_,h.up⟩
   ·rw[if_neg k1',if_pos (by decide)]
   ·unfold zm
    change (if((2:Int)==1)=true then _ else if((2:Int)==2)=true then _ else _)=_
    rw[if_neg k1',if_pos (by decide)]
  have k2':¬(k==2)=true:=by simpa using k2
  by_cases k5:k=5
  ·subst k5
   obtain⟨a,js',p1,p2⟩:=zt5 h hi id hr
   rcases p2 with⟨j,hj,rfl,hc,rfl,rfl⟩|⟨hc,rfl,rfl⟩
   ·refine⟨G_QAction.mk 2 (j:Int),0,js.set j ⟨js[j].i,js[j].p,true⟩,qs,?_,?_,(h.up).set hj fun id' h'=>h'⟩
    ·rw[if_neg k1',if_neg k2',if_pos (by decide),p1];rfl
    ·unfold zm
     change (if((5:Int)==1)=true then _ else if((5:Int)==2)=true then _ else if((5:Int)==5)=true then _ else _)=_
     rw[if_neg k1',if_neg k2',if_pos (by decide)]
     simp only[p4,pB,zbk hj]
     rw[if_pos (fun _=>by simp;omega),if_pos (fun _=>by simp;omega),if_pos (by rw[show(jr js[j]).f_Canceled=js[j].c from rfl,hc];simp),if_pos (by simp;omega),if_pos (by simp;omega)]
     rw[←map_set (f:=jr)]
     rfl
   ·refine⟨G_QAction.mk 0 0,0,js',qs,?_,?_,h.up⟩
    ·rw[if_neg k1',if_neg k2',if_pos (by decide),p1];rfl
    ·unfold zm
     change (if((5:Int)==1)=true then _ else if((5:Int)==2)=true then _ else if((5:Int)==5)=true then _ else _)=_
     rw[if_neg k1',if_neg k2',if_pos (by decide)]
     rcases hc with hc|⟨j,hj,rfl,hc⟩
     ·rw[if_pos (fun hx=>by simp at hx;omega),if_pos (fun hx=>by simp at hx;omega),if_neg (by simp;omega)]
     ·simp only[p4,pB,zbk hj]
      rw[if_pos (fun _=>by simp;omega),if_pos (fun _=>by simp;omega),if_neg (by rw[show(jr js'[j]).f_Canceled=js'[j].c from rfl,hc];simp)]
  have k5':¬(k==5)=true:=by simpa using k5
  refine⟨G_QAction.mk 0 0,7,js,qs,?_,?_,h.up⟩
  ·rw[if_neg k1',if_neg k2',if_neg k5']
  ·unfold zm
   change (if(k==1)=true then _ else if(k==2)=true then _ else if(k==5)=true then _ else _)=_
   rw[if_neg k1',if_neg k2',if_neg k5']
 ·have hne:((Un k id c m b).2 != 0)=true:=by simpa using he
  unfold y71
  simp only[if_pos hne]
  exact⟨_,_,js,qs,rfl,rfl,h.up⟩
end
section
variable {i:Nat} {js:List Jb} {qs:List Ms}
def zvu(i:Nat)(p:Option (Int×(List G_job)×(List GM)))(r:Option (Int×(List G_Job)×(List GM))):Prop:=
 ∃ (e:Int) (js':List Jb) (qs':List Ms),p=some (e,js'.map jp,qs'.map mv)∧r=some (e,js'.map jr,qs'.map mv)∧Inv (i+1) js' qs'
theorem zfe(a:Int)(Q:List GM):jq none a (js.map jp) Q=if h:0≤a∧a.toNat<js.length then some (if(js[a.toNat]'h.2).p=true then 0 else 8) else some 5:=by
 unfold jq
 by_cases h:0≤a∧a.toNat<js.length
 ·rw[dif_pos h,if_neg (by simp;omega),if_pos (by simp;omega),if_pos (by simp;omega),pB,zj4 h.2]
  by_cases c:(js[a.toNat]'h.2).p=true
  ·rw[if_neg (by rw[show(jp (js[a.toNat]'h.2)).f_pending=(js[a.toNat]'h.2).p from rfl,c];decide),if_pos c]
  ·rw[if_pos (by rw[show(jp (js[a.toNat]'h.2)).f_pending=(js[a.toNat]'h.2).p from rfl,pG.2 c];rfl),if_neg c]
 ·rw[dif_neg h,if_pos (by simp;omega)]
theorem zwg(h:Inv i js qs)(hi:i<30){a:Nat}(ha:a<js.length){k c:Int}{m:List UInt8}{b:J}(hs:b.sz+m.length≤1000000000) :
 (((Un k js[a].i c m b).2≠0→ya none (a:Int) ⟨k,0,c,m,b.val⟩ (js.map jp) (qs.map mv)=some ((Un k js[a].i c m b).2,js.map jp,qs.map mv)) ∧
  ((Un k js[a].i c m b).2=0→ya none (a:Int) ⟨k,0,c,m,b.val⟩ (js.map jp) (qs.map mv)=some (0,(js.set a ⟨js[a].i,false,js[a].c⟩).map jp,(qs++[(k,js[a].i,c,m,b)]).map mv))) ∧
 Inv (i+1) (js.set a ⟨js[a].i,false,js[a].c⟩) (qs++[(k,js[a].i,c,m,b)]):=by
 have hql:=h.ql
 have e0:ya none (a:Int) ⟨k,0,c,m,b.val⟩ (js.map jp) (qs.map mv)=if((Un k js[a].i c m b).2 != 0)=true then some ((Un k js[a].i c m b).2,js.map jp,qs.map mv) else some (0,(js.map jp).set a (jp ⟨js[a].i,false,js[a].c⟩),qs.map mv++[mv (k,js[a].i,c,m,b)]):=by
  unfold ya
  simp only[p4,pB,zj4 ha]
  rw[if_pos (by simp;omega),if_pos (by simp;omega)]
  change pA (vq none ⟨k,js[a].i,c,m,b.val⟩) _=_
  rw[za9 hs,p0]
  dsimp only
  by_cases he:((Un k js[a].i c m b).2 != 0)=true
  ·rw[if_pos he,if_pos he]
  ·rw[if_neg he,if_neg he,if_pos (by simp;omega),if_pos (by simp;omega),if_pos (by simp;omega)]
   rfl
 refine⟨⟨fun he=>?_,fun he=>?_⟩,?_⟩
 ·rw[e0,if_pos (by simpa using he)]
 ·rw[e0,if_neg (by simpa using he),map_set,pF];rfl
 ·have h1:=h.queue (q:=(k,js[a].i,c,m,b)) hs
  exact h1.set ha fun id hx=>by simp[Jb.m] at hx
theorem y7p(h:Inv i js qs)(hi:i<30){a:Nat}(ha:a<js.length)(hp:js[a].p=true){k c:Int}{m:List UInt8}{b:J}(hs:b.sz+m.length≤1000000000)(hk:¬(k=4∧((c<1∨c > 99)∨vt m 0=false))) :
 zc none (a:Int) ⟨k,0,c,m,b.val⟩ (js.map jr) (qs.map mv)=if((Un k js[a].i c m b).2 != 0)=true then some ((Un k js[a].i c m b).2,js.map jr,qs.map mv) else some (0,(js.set a ⟨js[a].i,false,js[a].c⟩).map jr,(qs++[(k,js[a].i,c,m,b)]).map mv):=by
 have hql:=h.ql
 have tail:(if(0:Int)≤(a:Int)∧(a:Int)<(((js.map jr).length:Nat):Int) then
  if a<(js.map jr).length then
  (zz none ⟨k,js[a].i,c,m,b.val⟩).bind fun v2=>
  if(v2.2 != 0)=true then some (v2.2,js.map jr,qs.map mv)
  else
   if(0:Int)≤(a:Int)∧(a:Int)<(((js.map jr).length:Nat):Int) then
   if a<(js.map jr).length then
   if((qs.map mv++([mv (k,js[a].i,c,m,b)]:List GM)).map z6).length*120≤140737488355328 then
   some ((0:Int),(js.map jr).set a (jr ⟨js[a].i,false,js[a].c⟩),qs.map mv++[mv (k,js[a].i,c,m,b)])
   else none else none else none
  else none else none)=if((Un k js[a].i c m b).2 != 0)=true then some ((Un k js[a].i c m b).2,js.map jr,qs.map mv) else some (0,(js.set a ⟨js[a].i,false,js[a].c⟩).map jr,(qs++[(k,js[a].i,c,m,b)]).map mv):=by
  rw[if_pos (by simp;omega),if_pos (by simp;omega),zbg hs,p0]
  dsimp only
  by_cases he:((Un k js[a].i c m b).2 != 0)=true
  ·rw[if_pos he,if_pos he]
  ·rw[if_neg he,if_neg he,if_pos (by simp;omega),if_pos (by simp;omega),if_pos (by simp;omega),map_set,pF]
   rfl
 unfold zc
 simp only[p4,pB,zbk ha]
 rw[if_neg (by simp;omega),if_pos (by simp;omega),if_pos (by simp;omega),if_neg (by rw[show(jr js[a]).f_Pending=js[a].p from rfl,hp];decide)]
 by_cases g:k=4∧¬(c<1∨c > 99)
 ·have hv:vt m 0=true:=by
   cases hx:vt m 0 with
   |true=>rfl
   |false=>exact absurd ⟨g.1,.inr hx⟩ hk
  rw[if_pos (by simp;omega),z0i,p0,hv,if_neg (by simp;omega)]
  exact tail
 ·rw[if_neg (by simp;omega),p0,if_neg]
  ·exact tail
  ·intro hx
   simp only[p6,beq_iff_eq,p5,decide_eq_true_eq] at hx
   exact g ⟨hx.1,fun hc=>hk ⟨hx.1,.inl hc⟩⟩
theorem zy5(a:Int)(M:GM)(hn:¬(0≤a∧a.toNat<js.length)):zc none a M (js.map jr) (qs.map mv)=some (5,js.map jr,qs.map mv):=by
 unfold zc
 rw[if_pos (by simp;omega)]
theorem zq8{a:Nat}(ha:a<js.length)(hp:js[a].p=false)(M:GM):zc none (a:Int) M (js.map jr) (qs.map mv)=some (8,js.map jr,qs.map mv):=by
 unfold zc
 simp only[p4,pB,zbk ha]
 rw[if_neg (by simp;omega),if_pos (by simp;omega),if_pos (by simp;omega),if_pos (by rw[show(jr js[a]).f_Pending=js[a].p from rfl,hp];rfl)]
theorem zyq(h:Inv i js qs)(hi:i<30)(a:Int){b:J}(hs:b.sz≤1000000000) :
 zvu i (xz none a b.val (js.map jp) (qs.map mv)) (zc none a ⟨3,0,0,[],b.val⟩ (js.map jr) (qs.map mv)):=by
 have hb:b.ok:=by unfold J.ok;omega
 unfold zvu xz
 rw[zfe]
 by_cases ha:0≤a∧a.toNat<js.length
 ·obtain⟨n,rfl⟩:∃n:Nat,a=(n:Int):=⟨a.toNat,by omega⟩
  have hn:n<js.length:=by simpa using ha.2
  rw[dif_pos ha,p0]
  simp only[p4]
  by_cases hp:js[n].p=true
  ·rw[if_pos hp,if_neg (by decide),show xw none b.val=some b.val from Wv (d:=b.sz) fun k=>Ko k b hb,p0]
   obtain⟨⟨p1,p2⟩,p3⟩:=zwg h hi hn (k:=3) (c:=0) (m:=[]) (b:=b) (by simpa using hs)
   rw[y7p h hi hn hp (by simpa using hs) (fun hx=>by omega)]
   by_cases he:(Un 3 js[n].i 0 [] b).2=0
   ·refine⟨0,_,_,?_,?_,p3⟩
    ·rw[p2 he];rfl
    ·rw[if_neg (by simpa using he)]
   ·refine⟨(Un 3 js[n].i 0 [] b).2,js,qs,?_,?_,h.up⟩
    ·rw[p1 he];rfl
    ·rw[if_pos (by simpa using he)]
  ·rw[if_neg hp,if_pos (by decide)]
   exact⟨8,js,qs,rfl,zq8 hn (pG.2 hp) _,h.up⟩
 ·rw[dif_neg ha,p0,if_pos (by decide)]
  exact⟨5,js,qs,rfl,zy5 a _ ha,h.up⟩
theorem zzd(h:Inv i js qs)(hi:i<30)(a c:Int) :
 zvu i (wj none a c failT (js.map jp) (qs.map mv)) (zc none a ⟨4,0,c,failT,nullJ.val⟩ (js.map jr) (qs.map mv)):=by
 have hz:nullJ.sz+failT.length≤1000000000:=by have:=zgc;rw[show failT.length=6 from rfl];omega
 have hv:vt failT 0=true:=by decide
 unfold zvu wj
 rw[zfe]
 by_cases ha:0≤a∧a.toNat<js.length
 ·obtain⟨n,rfl⟩:∃n:Nat,a=(n:Int):=⟨a.toNat,by omega⟩
  have hn:n<js.length:=by simpa using ha.2
  rw[dif_pos ha,p0]
  simp only[p4]
  by_cases hp:js[n].p=true
  ·rw[if_pos hp,if_neg (by decide),z0q,hv]
   by_cases hc:c<1∨c > 99
   ·refine⟨1,js,qs,?_,?_,h.up⟩
    ·rw[if_neg (by first|(simp;omega)|simp),p0,if_pos (by first|(simp;omega)|simp)]
    ·unfold zc
     simp only[p4,pB,zbk hn]
     rw[if_neg (by simp;omega),if_pos (by simp;omega),if_pos (by simp;omega),if_neg (by rw[show(jr js[n]).f_Pending=js[n].p from rfl,hp];decide),if_neg (by first|(simp;omega)|simp),p0,if_pos (by first|(simp;omega)|simp)]
   ·rw[if_pos (by simp;omega),p0,if_neg (by simp;omega)]
    obtain⟨⟨p1,p2⟩,p3⟩:=zwg h hi hn (k:=4) (c:=c) (m:=failT) (b:=nullJ) hz
    rw[y7p h hi hn hp hz (fun hx=>by rcases hx.2 with h'|h';exact hc h';rw[hv] at h';cases h')]
    by_cases he:(Un 4 js[n].i c failT nullJ).2=0
    ·refine⟨0,_,_,?_,?_,p3⟩
     ·change pA (ya none (n:Int) ⟨4,0,c,failT,nullJ.val⟩ (js.map jp) (qs.map mv)) _=_
      rw[p2 he];rfl
     ·rw[if_neg (by simpa using he)]
    ·refine⟨(Un 4 js[n].i c failT nullJ).2,js,qs,?_,?_,h.up⟩
     ·change pA (ya none (n:Int) ⟨4,0,c,failT,nullJ.val⟩ (js.map jp) (qs.map mv)) _=_
      rw[p1 he];rfl
     ·rw[if_pos (by simpa using he)]
  ·rw[if_neg hp,if_pos (by decide)]
   exact⟨8,js,qs,rfl,zq8 hn (pG.2 hp) _,h.up⟩
 ·rw[dif_neg ha,p0,if_pos (by decide)]
  exact⟨5,js,qs,rfl,zy5 a _ ha,h.up⟩
theorem z5t{J':List G_job}(hq:qs.length≤1000)(ho:∀q∈qs,q.2.2.2.2.sz+q.2.2.2.1.length≤1000000000):∀ (n k:Nat),k+n=qs.length→vj none J' (qs.map mv) (k:Int) (qs.map mv)=some (qs.map mv)
 |0,k,h=>by
  have:k=qs.length:=by omega
  subst this
  unfold vj
  rw[qw (x:=some (qs.map mv))]
  unfold jk kw
  rw[if_neg (by simp)]
 |n+1,k,h=>by
  have hk:k<qs.length:=by omega
  have ih:=z5t (J':=J') hq ho n (k+1) (by omega)
  have hb:(qs[k]).2.2.2.2.ok:=by have:=ho _ (p9 hk);unfold J.ok;omega
  unfold vj at ih ⊢
  rw[wz (s':=(((k+1:Nat):Int),qs.map mv))]
  ·exact ih
  ·unfold jk
   simp only[p4,pB,zvb hk]
   rw[if_pos (by simp;omega),if_pos (by simp;omega),if_pos (by simp;omega)]
   change pA (xw none (qs[k]).2.2.2.2.val) _=_
   rw[show xw none (qs[k]).2.2.2.2.val=some (qs[k]).2.2.2.2.val from Wv (d:=(qs[k]).2.2.2.2.sz) fun d=>Ko d _ hb,p0,if_pos (by simp;omega),if_pos (by simp;omega),Wi (by omega)]
   change some (Sum.inl (_,(qs.map mv).set k (mv qs[k])))=_
   rw[map_set,List.set_getElem_self]
end
def stA(a1:List G_Step)(i:Int):G_Step:=(a1.take (if 30<((a1.map y3).length:Int) then 30 else((a1.map y3).length:Int)).toNat).getD i.toNat default
abbrev St:=Int×(List G_job)×(List GM)×(List G_Job)×(List GM)
def Xx(i:Nat)(r:Option (St ⊕ Bool)):Prop:=∃ (js:List Jb) (qs:List Ms),r=some (.inl (((i+1:Nat):Int),js.map jp,qs.map mv,js.map jr,qs.map mv))∧Inv (i+1) js qs
theorem y0p{js:List Jb}(a:Int)(Q:List GM):xm none a (js.map jp) Q=some (((decide (a≥0))&&(decide (a<((js.length:Nat):Int))))&&(js.getD a.toNat ⟨0,false,false⟩).c):=by
 unfold xm
 rw[if_pos (fun hx=>by simp at hx;simp;omega),if_pos (fun hx=>by simp at hx;simp;omega)]
 congr 1
 rw[p7,pB]
 by_cases h:0≤a∧a.toNat<js.length
 ·rw[zj4 h.2,pC,List.getElem?_eq_getElem h.2];rfl
 ·have:((decide (a≥0))&&(decide (a<((js.length:Nat):Int))))=false:=by
   rw[Bool.and_eq_false_iff,decide_eq_false_iff_not,decide_eq_false_iff_not];omega
  rw[this];rfl
theorem zhe{a0:List GM}{a1:List G_Step}{i:Nat}{js:List Jb}{qs:List Ms}(h:Inv (i+1) js qs)(hi:i<30):Xx i (zy none a0 a1 (i:Int) (js.map jp) (qs.map mv) (js.map jr) (qs.map mv)):=by
 have hjl:=h.jl
 have:=zhy js 0
 refine⟨js,qs,?_,h⟩
 unfold zy
 change (if((((decide ((stA a1 (i:Int)).f_A≥0))&&(decide ((stA a1 (i:Int)).f_A<(((js.map jr).length:Nat):Int))))==true)=true→(0:Int)≤(stA a1 (i:Int)).f_A∧(stA a1 (i:Int)).f_A<(((js.map jr).length:Nat):Int)) then
  if((((decide ((stA a1 (i:Int)).f_A≥0))&&(decide ((stA a1 (i:Int)).f_A<(((js.map jr).length:Nat):Int))))==true)=true→(0+((stA a1 (i:Int)).f_A).toNat)<(js.map jr).length) then _ else _ else _)=_
 rw[if_pos (fun hx=>by simp at hx;simp;omega),if_pos (fun hx=>by simp at hx;simp;omega),zhr _ (by omega),p0,zfl _ (by omega),p0,eqI (by omega),p0,if_pos (by decide)]
 change pA (xm none (stA a1 (i:Int)).f_A (js.map jp) (qs.map mv)) (fun v78=>yv none a0 a1 (i:Int) (js.map jp) (qs.map mv) (js.map jr) (qs.map mv) ((!true) || (!(v78==(((decide ((stA a1 (i:Int)).f_A≥0))&&(decide ((stA a1 (i:Int)).f_A<(((js.map jr).length:Nat):Int))))&&((js.map jr).getD (0+((stA a1 (i:Int)).f_A).toNat) default).f_Canceled)))))=_
 have er:(((decide ((stA a1 (i:Int)).f_A≥0))&&(decide ((stA a1 (i:Int)).f_A<(((js.map jr).length:Nat):Int))))&&((js.map jr).getD (0+((stA a1 (i:Int)).f_A).toNat) default).f_Canceled)=(((decide ((stA a1 (i:Int)).f_A≥0))&&(decide ((stA a1 (i:Int)).f_A<((js.length:Nat):Int))))&&(js.getD ((stA a1 (i:Int)).f_A).toNat ⟨0,false,false⟩).c):=by
  rw[p7,pB]
  by_cases hc:0≤(stA a1 (i:Int)).f_A∧((stA a1 (i:Int)).f_A).toNat<js.length
  ·rw[zbk hc.2,pC,List.getElem?_eq_getElem hc.2];rfl
  ·have:((decide ((stA a1 (i:Int)).f_A≥0))&&(decide ((stA a1 (i:Int)).f_A<((js.length:Nat):Int))))=false:=by
    rw[Bool.and_eq_false_iff,decide_eq_false_iff_not,decide_eq_false_iff_not];omega
   rw[this];rfl
 rw[y0p,p0,er,beq_self_eq_true]
 unfold yv ju
 rw[if_neg (by decide),Wi (by omega)]
theorem zi8{a0:List GM}{a1:List G_Step}{i:Nat}{js:List Jb}{qs:List Ms}(hq:qs.length≤1000)(ho:∀q∈qs,q.2.2.2.2.sz+q.2.2.2.1.length≤1000000000):∀ (n k:Nat),k+n=qs.length →
 qe none a0 a1 (i:Int) (js.map jp) (js.map jr) (qs.map mv) (qs.map mv) (k:Int)=wb none a0 a1 (i:Int) (js.map jp) (js.map jr) (qs.map mv)
 |0,k,h=>by
  have:k=qs.length:=by omega
  subst this
  unfold qe
  refine qw ?_
  unfold qf
  rw[if_neg (by simp)]
 |n+1,k,h=>by
  have hk:k<qs.length:=by omega
  have ih:=zi8 (a0:=a0) (a1:=a1) (i:=i) (js:=js) hq ho n (k+1) (by omega)
  have hb:(qs[k]).2.2.2.2.ok:=by have:=ho _ (p9 hk);unfold J.ok;omega
  unfold qe at ih ⊢
  rw[wz (s':=((k+1:Nat):Int))]
  ·exact ih
  ·unfold qf
   simp only[p4,pB,zvb hk]
   rw[if_pos (by simp;omega),if_pos (by simp;omega),if_pos (by simp;omega),if_pos (by simp;omega)]
   change pA (yx none ⟨(qs[k]).1,(qs[k]).2.1,(qs[k]).2.2.1,(qs[k]).2.2.2.1,(qs[k]).2.2.2.2.val⟩ ⟨(qs[k]).1,(qs[k]).2.1,(qs[k]).2.2.1,(qs[k]).2.2.2.1,(qs[k]).2.2.2.2.val⟩) _=_
   rw[eqm hb,p0,if_neg (by decide),Wi (by omega)]
theorem zzt{ms:List Ms}{a1:List G_Step}(hml:ms.length≤4611686018427387904)(hms:∀x∈ms,x.2.2.2.2.sz+x.2.2.2.1.length≤1000000000):∀ (f i:Nat) (js:List Jb) (qs:List Ms),i+f=min 30 a1.length→Inv i js qs →
 xv none (ms.map mv) a1 (i:Int) (js.map jp) (qs.map mv) (js.map jr) (qs.map mv)=some true:=by
 have hcap:(((a1.take (if 30<((a1.map y3).length:Int) then 30 else((a1.map y3).length:Int)).toNat).map y3).length:Int)=((min 30 a1.length:Nat):Int):=by
  simp only[p7,List.length_take]
  split<;>omega
 have pick:∀x:Int,0<ms.length→∃v,∃hv:v<ms.length,qb none x (((ms.map mv).map z6).length:Int)=some (v:Int):=fun x hm=>by
  obtain⟨v,hv,v0,v1⟩:=zx8 x (b:=(((ms.map mv).map z6).length:Int)) (by simpa using hm) (by simp;omega)
  simp only[p7] at v1
  exact⟨v.toNat,by omega,by rw[hv];congr 1;omega⟩
 intro f
 induction f with
 |zero=>
  intro i js qs hf h
  unfold xv
  rw[qw (x:=some true)]
  unfold yi w6 j6
  simp only
  rw[hcap,if_neg (by simp;omega)]
  rfl
 |succ f ih=>
  intro i js qs hf h
  have hi:i<30:=by omega
  have hql:=h.ql
  have hb:Xx i (yi none (ms.map mv) a1 (i:Int) (js.map jp) (qs.map mv) (js.map jr) (qs.map mv)):=by
   unfold yi
   rw[hcap,if_pos (by simp;omega),if_pos (by omega)]
   change Xx i (pA (qb none (stA a1 (i:Int)).f_Do 5) _)
   obtain⟨d,hd,d0,d1⟩:=zx8 (stA a1 (i:Int)).f_Do (b:=5) (by decide) (by decide)
   rw[hd,p0]
   by_cases c1:d≤1∧0<ms.length
   ·rw[if_pos (by simp;exact⟨c1.1,c1.2⟩)]
    change Xx i (pA (qb none (stA a1 (i:Int)).f_A (((ms.map mv).map z6).length:Int)) _)
    obtain⟨v,hv,hm⟩:=pick (stA a1 (i:Int)).f_A c1.2
    rw[hm,p0,if_pos (by simp;omega)]
    simp only[p4,zvb hv]
    obtain⟨a,e,js',qs',p1,p2,p3⟩:=y5g h hi (hms _ (p9 hv))
    change Xx i (pA (x8 none (mv ms[v]) (js.map jp) (qs.map mv)) fun v58=>pA (y5 none (mv ms[v]) (js.map jr) (qs.map mv)) _)
    rw[p1,p0,p2,p0,if_neg (by simp)]
    exact zhe p3 hi
   rw[if_neg (by
    intro hx
    simp only[p6,decide_eq_true_eq,p7] at hx
    exact c1 ⟨hx.1,by omega⟩)]
   by_cases c2:d=2∧0<ms.length
   ·rw[if_pos (by simp;exact⟨c2.1,c2.2⟩)]
    change Xx i (pA (qb none (stA a1 (i:Int)).f_B (((ms.map mv).map z6).length:Int)) _)
    obtain⟨v,hv,hm⟩:=pick (stA a1 (i:Int)).f_B c2.2
    rw[hm,p0,if_pos (by simp;omega)]
    simp only[p4,zvb hv]
    obtain⟨e,js',qs',p1,p2,p3⟩:=zyq h hi (stA a1 (i:Int)).f_A (b:=(ms[v]).2.2.2.2) (by have:=hms _ (p9 hv);omega)
    change Xx i (pA (xz none (stA a1 (i:Int)).f_A (ms[v]).2.2.2.2.val (js.map jp) (qs.map mv)) fun v61=>pA (zc none (stA a1 (i:Int)).f_A ⟨3,0,0,[],(ms[v]).2.2.2.2.val⟩ (js.map jr) (qs.map mv)) _)
    rw[p1,p0,p2,p0,if_neg (by simp)]
    exact zhe p3 hi
   rw[if_neg (by
    intro hx
    simp only[p6,beq_iff_eq,decide_eq_true_eq,p7] at hx
    exact c2 ⟨hx.1,by omega⟩)]
   by_cases c3:d=3
   ·rw[if_pos (by simpa using c3)]
    obtain⟨e,js',qs',p1,p2,p3⟩:=zzd h hi (stA a1 (i:Int)).f_A (stA a1 (i:Int)).f_B
    change Xx i (pA (wj none (stA a1 (i:Int)).f_A (stA a1 (i:Int)).f_B failT (js.map jp) (qs.map mv)) fun v63=>pA (zc none (stA a1 (i:Int)).f_A ⟨4,0,(stA a1 (i:Int)).f_B,failT,nullJ.val⟩ (js.map jr) (qs.map mv)) _)
    rw[p1,p0,p2,p0,if_neg (by simp)]
    exact zhe p3 hi
   ·rw[if_neg (by simpa using c3),show ko none (js.map jp) (qs.map mv)=some (qs.map mv) from z5t (by omega) h.qo qs.length 0 (by omega),p0,if_neg (by simp)]
    rw[show qe none (ms.map mv) a1 (i:Int) (js.map jp) (js.map jr) (qs.map mv) (qs.map mv) 0=_ from zi8 (by omega) h.qo qs.length 0 (by omega)]
    exact zhe (qs:=[]) ⟨by have:=h.jl;omega,by simp,h.un,fun q hq=>absurd hq List.not_mem_nil⟩ hi
  obtain⟨js',qs',h1,h2⟩:=hb
  have:=ih (i+1) js' qs' (by omega) h2
  unfold xv at this ⊢
  rw[wz h1];exact this
theorem y89{ms:List Ms}{a1:List G_Step}(hml:ms.length≤4611686018427387904)(hms:∀x∈ms,x.2.2.2.2.sz+x.2.2.2.1.length≤1000000000):ji none (ms.map mv) a1=some true:=by
 unfold ji j6 ui
 rw[p0,if_neg (by decide),p0,if_pos (by rw[p7];split<;>omega)]
 exact zzt hml hms (min 30 a1.length) 0 [] [] (by omega) ⟨Nat.le_refl _,Nat.le_refl _,fun a b ha=>absurd ha (Nat.not_lt_zero _),fun x hx=>absurd hx List.not_mem_nil⟩
open Go.Fx Go.RowKit
theorem y1e:laidOutB Tryd.prog=true:=by kernel_rfl
theorem c9:Tryd.prog.cellsOf 9=1:=by kernel_rfl
theorem c3:Tryd.prog.cellsOf 3=1:=by kernel_rfl
theorem c34:Tryd.prog.cellsOf 34=1:=by kernel_rfl
theorem c35:Tryd.prog.cellsOf 35=1:=by kernel_rfl
theorem c37:Tryd.prog.cellsOf 37=5:=by kernel_rfl
theorem c39:Tryd.prog.cellsOf 39=9:=by kernel_rfl
theorem rbS(F:Nat):RB Tryd.prog F 9 (List UInt8) za (fun l k=>l.length+1≤k):=RB.string Tryd.underlying9 c9
theorem rbI(F:Nat):RB Tryd.prog F 3 Int (fun x=>[.int .i64 x]) (fun _ _=>True):=
 RB.map (RB.of (F:=F) (RA.int Tryd.underlying3 c3)) (fun x=>x) (fun _=>c3.symm) (fun _ _ _=>⟨trivial,rfl⟩)
theorem zmz:∀ns:List (List UInt8),nsz ns=(ns.map fun n=>n.length+1).sum
 |[]=>rfl
 |n::r=>by rw[nsz,zmz r];rfl
theorem zpt:∀es:List J,J.szL es=(es.map J.sz).sum
 |[]=>rfl
 |e::r=>by rw[J.szL,zpt r];rfl
theorem rbN:∀F:Nat,RB Tryd.prog F 34 (List (List UInt8)) (fun l=>[.isl 1 (l.map za) false]) (fun l k=>nsz l≤k)
 |0=>RB.zero (fun _=>c34.symm)
 |F+1=>RB.map (RB.slice Tryd.underlying34 c34 (by rw[c9];decide) (rbS F)) (fun x=>x) (fun _=>c34.symm) (fun l k ⟨_,_,ks,h1,h2,h3⟩=>⟨by
  rw[zmz]
  have:=z6m (f:=fun n:List UInt8=>n.length+1) h1 h2
  omega,by rw[c9]⟩)
theorem y7s:∀F:Nat,RB Tryd.prog F 37 J (fun j=>z7 j.val) (fun j k=>j.sz≤k)∧RB Tryd.prog F 35 (List J) (fun l=>[.isl 5 ((l.map J.raw).map ze) false]) (fun l k=>J.szL l≤k)
 |0=>⟨RB.zero (fun _=>c37.symm),RB.zero (fun _=>c35.symm)⟩
 |F+1=>by
  obtain⟨ih1,ih2⟩:=y7s F
  refine⟨RB.map (RB.structN Tryd.underlying37 c37 (RG.cons (P:=Tryd.prog) (off:=0) (tot:=4) (m:=1) rfl c3 (rbI F) (RG.cons (P:=Tryd.prog) (off:=1) (tot:=3) (m:=1) rfl c3 (rbI F) (RG.cons (P:=Tryd.prog) (off:=2) (tot:=2) (m:=1) rfl c9 (rbS F) (RG.cons (P:=Tryd.prog) (off:=3) (tot:=1) (m:=1) rfl c34 (rbN F) (RG.cons (P:=Tryd.prog) (off:=4) (tot:=0) (m:=1) rfl c35 ih2 (RG.nil (P:=Tryd.prog) 5)))))))
   (fun x=>J.mk x.1 x.2.1 x.2.2.1 x.2.2.2.1 x.2.2.2.2.1) (fun _=>c37.symm) (fun x k h=>⟨?_,rfl⟩),?_⟩
  ·obtain⟨k0,⟨k1,k2,_,⟨k3,k4,_,⟨k5,k6,h5,⟨k7,k8,h7,⟨k9,k10,h9,_,q5⟩,q4⟩,q3⟩,q2⟩,q1⟩,q0⟩:=h
   rw[J.sz]
   omega
  ·refine RB.map (RB.slice Tryd.underlying35 c35 (by rw[c37];decide) ih1) (fun x=>x) (fun _=>c35.symm) (fun l k ⟨_,_,ks,h1,h2,h3⟩=>⟨?_,?_⟩)
   ·rw[zpt]
    have:=z6m (f:=J.sz) h1 h2
    omega
   ·rw[c37,List.map_map]
    congr 3
    funext j
    exact Ke j
abbrev Msg:=Ms
theorem y7y(F:Nat):RB Tryd.prog F 39 Msg (fun x=>[.int .i64 x.1,.int .i64 x.2.1,.int .i64 x.2.2.1,.str x.2.2.2.1]++z7 x.2.2.2.2.val) (fun x k=>x.2.2.2.2.sz+x.2.2.2.1.length≤k):=by
 cases F with
 |zero=>exact RB.zero (fun _=>c39.symm)
 |succ F=>
  refine RB.map (RB.structN Tryd.underlying39 c39 (RG.cons (P:=Tryd.prog) (off:=0) (tot:=8) (m:=1) rfl c3 (rbI F) (RG.cons (P:=Tryd.prog) (off:=1) (tot:=7) (m:=1) rfl c3 (rbI F) (RG.cons (P:=Tryd.prog) (off:=2) (tot:=6) (m:=1) rfl c3 (rbI F) (RG.cons (P:=Tryd.prog) (off:=3) (tot:=5) (m:=1) rfl c9 (rbS F) (RG.cons (P:=Tryd.prog) (off:=4) (tot:=0) (m:=5) rfl c37 (y7s F).1 (RG.nil (P:=Tryd.prog) 9)))))))
   (fun x=>(x.1,x.2.1,x.2.2.1,x.2.2.2.1,x.2.2.2.2.1)) (fun _=>c39.symm) (fun x k h=>⟨?_,?_⟩)
  ·obtain⟨k0,⟨k1,k2,_,⟨k3,k4,_,⟨k5,k6,_,⟨k7,k8,h7,⟨k9,k10,h9,_,q5⟩,q4⟩,q3⟩,q2⟩,q1⟩,q0⟩:=h
   simp only
   omega
  ·rfl
theorem zwp:∀ {l:List Nat} {x:Nat},x∈l→x≤l.sum
 |y::r,x,h=>by
  rw[List.sum_cons]
  rcases List.mem_cons.1 h with rfl|h
  ·omega
  ·have:=zwp h;omega
theorem b39:Tryd.prog.bytesOf 39=120:=by kernel_rfl
theorem c22:Tryd.prog.cellsOf 22=1:=by kernel_rfl
theorem c32:Tryd.prog.cellsOf 32=3:=by kernel_rfl
theorem y85:Tryd.prog.cellsOf 23=1:=by kernel_rfl
theorem rbM:∀F:Nat,RB Tryd.prog F 22 (List Msg) (fun l=>[.isl 9 ((l.map mv).map z6) false]) (fun l k=>l.length≤4611686018427387904∧∀x∈l,x.2.2.2.2.sz+x.2.2.2.1.length≤k)
 |0=>RB.zero (fun _=>c22.symm)
 |F+1=>RB.map (RB.slice Tryd.underlying22 c22 (by rw[c39];decide) (y7y F)) (fun x=>x) (fun _=>c22.symm) (fun l k ⟨_,hb,ks,h1,h2,h3⟩=>⟨⟨by rw[b39] at hb;unfold reachBytes at hb;omega,fun x hx=>by
  have:=z6m (f:=fun x:Msg=>x.2.2.2.2.sz+x.2.2.2.1.length) h1 h2
  have:=zwp (List.mem_map_of_mem (f:=fun x:Msg=>x.2.2.2.2.sz+x.2.2.2.1.length) hx)
  omega⟩,by rw[c39,List.map_map];rfl⟩)
theorem y7x:RVB Tryd.prog 22 (List Msg) (fun l=>.isl 9 ((l.map mv).map z6) false) (fun l k=>l.length≤4611686018427387904∧∀x∈l,x.2.2.2.2.sz+x.2.2.2.1.length≤k):=RVB.slice Tryd.underlying22 rbM
theorem ra3:RA Tryd.prog 3 Int (fun(x:Int)=>[.int .i64 x]) (fun _=>True):=RA.map (RA.int Tryd.underlying3 c3) (fun x=>x) (fun _=>rfl) (fun y=>⟨y,rfl⟩) (fun _ _=>trivial)
theorem y80:RA Tryd.prog 32 G_Step y3 (fun _=>True):=by
 refine RA.map (RA.structN Tryd.underlying32 c32 (RF.cons (P:=Tryd.prog) (off:=0) (tot:=2) (m:=1) rfl c3 ra3 (RF.cons (P:=Tryd.prog) (off:=1) (tot:=1) (m:=1) rfl c3 ra3 (RF.cons (P:=Tryd.prog) (off:=2) (tot:=0) (m:=1) rfl c3 ra3 (RF.nil (P:=Tryd.prog) 3))))) (fun x=>(⟨x.1,x.2.1,x.2.2.1⟩:G_Step)) (fun _=>rfl) (fun y=>⟨(y.f_Do,y.f_A,y.f_B,()),rfl⟩) (fun x h=>trivial)
set_option maxRecDepth 20000 in
theorem y8a:RV Tryd.prog 23 (List G_Step) (fun l=>.isl 3 (l.map y3) false) (fun _=>True):=by
 intro H enc w v d ps base hv hd hw
 obtain⟨x,h1,h2⟩:=RV.slice (P:=Tryd.prog) Tryd.underlying23 y85 (by rw[c32];decide) y80 hv hd hw
 rw[c32] at h2
 exact⟨x,trivial,h2⟩
theorem y6p:RVB Tryd.prog 23 (List G_Step) (fun l=>.isl 3 (l.map y3) false) (fun _ _=>True):=RVB.of (@y8a)
theorem y6k:RVsB Tryd.prog [23] (List G_Step×Unit) (fun x=>[.isl 3 (x.1.map y3) false]) (fun _ k=>∃k3 k4,True∧True∧k3+k4≤k):=
 @RVsB.cons _ 23 [] (List G_Step) Unit (fun l=>.isl 3 (l.map y3) false) (fun _=>[]) (fun _ _=>True) (fun _ _=>True) (@y6p) (@RVsB.nil _)
theorem rvs:RVsB Tryd.prog [22,23] (List Msg×List G_Step×Unit) (fun x=>[.isl 9 ((x.1.map mv).map z6) false,.isl 3 (x.2.1.map y3) false]) (fun x k=>∃k1 k2,(x.1.length≤4611686018427387904∧∀y∈x.1,y.2.2.2.2.sz+y.2.2.2.1.length≤k1)∧(∃k3 k4,True∧True∧k3+k4≤k2)∧k1+k2≤k):=
 @RVsB.cons _ 22 [23] (List Msg) (List G_Step×Unit) (fun l=>.isl 9 ((l.map mv).map z6) false) (fun x=>[.isl 3 (x.1.map y3) false]) (fun l k=>l.length≤4611686018427387904∧∀x∈l,x.2.2.2.2.sz+x.2.2.2.1.length≤k) (fun _ k=>∃k3 k4,True∧True∧k3+k4≤k) (@y7x) (@y6k)
mutual
theorem zcd{H:Type}:∀d:DataW H,sz d≤Rows.uptoBulk d
 |.lit l=>by cases l<;>simp[sz,Rows.uptoBulk]
 |.nil=>by simp[sz,Rows.uptoBulk]
 |.ptr d=>by have:=zcd d;simp only[sz,Rows.uptoBulk];omega
 |.slice es sp=>by have:=U0 es;have:=U0 sp;simp only[sz,Rows.uptoBulk];omega
 |.agg ds=>by have:=U0 ds;simp only[sz,Rows.uptoBulk];omega
 |.iface _ d=>by have:=zcd d;simp only[sz,Rows.uptoBulk];omega
 |.map es=>by simp[sz,Rows.uptoBulk]
 |.held _=>by simp[sz,Rows.uptoBulk]
theorem U0{H:Type}:∀ds:List (DataW H),szL ds≤Rows.uptoBulkAll ds
 |[]=>by simp[szL,Rows.uptoBulkAll]
 |d::r=>by have:=zcd d;have:=U0 r;simp only[szL,Rows.uptoBulkAll];omega
end
theorem zi6{H:Type}:∀a b:List (DataW H),Rows.uptoBulkAll a≤Rows.uptoBulkAll (a++b)
 |[],b=>by simp[Rows.uptoBulkAll]
 |d::r,b=>by have:=zi6 r b;simp only[List.cons_append,Rows.uptoBulkAll];omega
theorem zw3{H:Type}{ds gs:List (DataW H)}(h:Rows.uptoSmall H (ds++gs)=true):szL ds≤1048576:=by
 have h1:Rows.uptoBulkAll (ds++gs)≤1048576:=of_decide_eq_true h
 have:=U0 ds
 have:=zi6 ds gs
 omega
theorem gn0:Tryd.prog.globalNamed "unicode/utf8.first"=some 0:=by kernel_rfl
theorem gn1:Tryd.prog.globalNamed "unicode/utf8.acceptRanges"=some 1:=by kernel_rfl
theorem gy0:(Tryd.prog.globals[0]?).map (·.type)=some 106:=by kernel_rfl
theorem gy1:(Tryd.prog.globals[1]?).map (·.type)=some 109:=by kernel_rfl
theorem cc5:Tryd.prog.cellsOf 5=1:=by kernel_rfl
theorem y6i:Tryd.prog.cellsOf 106=256:=by kernel_rfl
theorem y41:Tryd.prog.cellsOf 108=2:=by kernel_rfl
theorem y1j {w:World} (h3:Lib.VarReads Tryd.prog w "unicode/utf8.first" Lib.firstData) (h4:Lib.VarReads Tryd.prog w "unicode/utf8.acceptRanges" Lib.acceptData):Lib.Utf8Tabs 0 1 w:=by
 refine⟨fun c hc=>?_,fun i hi=>?_⟩
 ·obtain⟨g,t,cs,fuel,p,hg,hty,hvar,hd⟩:=h3
  obtain rfl:=Option.some.inj (gn0.symm.trans hg)
  obtain rfl:=Option.some.inj (gy0.symm.trans hty)
  have hcs:=Lib.cells_of_tab Tryd.underlying106 Tryd.underlying5 cc5 y6i hd
  rw[World.var?_cell hg hvar c,←Array.getElem?_toList,hcs]
  simp[Lib.firstTab,hc]
 ·obtain⟨g,t,cs,fuel,p,hg,hty,hvar,hd⟩:=h4
  obtain rfl:=Option.some.inj (gn1.symm.trans hg)
  obtain rfl:=Option.some.inj (gy1.symm.trans hty)
  obtain⟨fuel',d,q,hdi,he⟩:=Lib.array_elem Tryd.underlying109 hd i hi
  simp only[List.getElem?_map,List.getElem?_range hi,Option.map_some,Option.some.injEq] at hdi
  subst hdi
  rw[y41] at he
  have hcs:=Lib.ints_of_struct Tryd.underlying108 (fun j f hj=>by
   match j,hj with
   |0,hj=>simp at hj;subst hj;exact⟨Tryd.underlying5,rfl,cc5⟩
   |1,hj=>simp at hj;subst hj;exact⟨Tryd.underlying5,rfl,cc5⟩
   |j+2,hj=>simp at hj) (by rw[y41];rfl) he
  have e0:=congrArg (·[0]?) hcs
  have e1:=congrArg (·[1]?) hcs
  simp only[List.getElem?_take,List.getElem?_drop] at e0 e1
  constructor
  ·rw[World.var?_cell hg hvar (2*i),←Array.getElem?_toList]
   simpa[Nat.mul_comm] using e0
  ·rw[World.var?_cell hg hvar (2*i+1),←Array.getElem?_toList]
   simpa[Nat.mul_comm] using e1
theorem y7e:(Rows.laid_unicode_utf8_first:DataW Unit)=Lib.firstData:=by kernel_rfl
theorem y6b:(Rows.laid_unicode_utf8_acceptRanges:DataW Unit)=Lib.acceptData:=by kernel_rfl
theorem y16 {w:World} {l:List (String×DataW Unit)} (hl:(l.all fun x=>x.2.handleName?.isNone)=true) (h1:("unicode/utf8.first",Rows.laid_unicode_utf8_first)∈l) (h2:("unicode/utf8.acceptRanges",Rows.laid_unicode_utf8_acceptRanges)∈l) (h:laidMetH Tryd.prog l w):GlobOk (old w) w:=by
 rw[MakeChecks.laidMetH_plain _ _ _ hl] at h
 have r1:=Lib.laidMet.reads h h1
 have r2:=Lib.laidMet.reads h h2
 rw[y7e] at r1
 rw[y6b] at r2
 exact zb9 y4x rfl rfl (y1j r1 r2)
end Go.Proofs.YtlilpmnmedmjaaaDoor
