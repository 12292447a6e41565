/-
  The reference's ValidUTF8 is the library's; no condition.
-/
import Derived.Test.YtlilpmnmedmjaaaGreatDoorGenB
import Derived.Test.YtlilpmnmedmjaaaGreatDoorFxLt
import Derived.Test.YtlilpmnmedmjaaaGreatDoorFxTv
import Derived.Test.YtlilpmnmedmjaaaGreatDoorRows
import Derived.Lib.LaidU8
import Derived.MakeChecks
namespace Go.Proofs.YtlilpmnmedmjaaaGreatDoor
open Go.Fx
set_option linter.unusedVariables false
set_option linter.unusedSimpArgs false
theorem Wi{i:Nat}(h:i≤4611686018427387904):W ((i:Int)+1)=((i+1:Nat):Int):=by rw[zsr (by unfold inR;omega)];omega
theorem z5w{α:Type}[Inhabited α]{l:List α}{i:Nat}(h:i<l.length):l.getD i default=l[i]:=by
 simp[List.getD_eq_getElem?_getD,h]
def Vv(s:List UInt8):Nat→Nat→Nat→Nat→Option Nat
 |0,p,_,_=>some p
 |k+1,p,lo,hi=>if s.length≤p∨(s.getD p 0).toNat<lo∨hi<(s.getD p 0).toNat then none else Vv s k (p+1) 128 191
def zik:Option Nat→Int ⊕ Bool
 |some q=>.inl (q:Int)
 |none=>.inr false
theorem za3{s:List UInt8}(hs:s.length≤4611686018427387904):∀ (k p lo hi v d:Nat),d+k=v→v≤3 →
 x6 none s (v:Int) (p:Int) (lo:Int) (hi:Int) (d:Int)=some (zik (Vv s k p lo hi))
 |0,p,lo,hi,v,d,h,hv=>by
  unfold x6
  rw[xe (x:=some (.inl (p:Int)))]
  ·rfl
  ·unfold qd
   rw[if_neg (by simp;omega)]
 |k+1,p,lo,hi,v,d,h,hv=>by
  have hb:qd none s (v:Int) (p:Int) (lo:Int) (hi:Int) (d:Int) =
   if s.length≤p∨(s.getD p 0).toNat<lo∨hi<(s.getD p 0).toNat then some (.inr (.inr false)) else some (.inl (((p+1:Nat):Int),((128:Nat):Int),((191:Nat):Int),((d+1:Nat):Int))):=by
   unfold qd
   rw[if_pos (by simp;omega),if_pos (by simp),if_pos (by simp;omega)]
   simp only[Int.toNat_natCast]
   by_cases hc:s.length≤p∨(s.getD p 0).toNat<lo∨hi<(s.getD p 0).toNat
   ·rw[if_pos (by simp only[Bool.and_eq_true,Bool.or_eq_true,decide_eq_true_eq,beq_iff_eq,ge_iff_le,gt_iff_lt];omega),if_pos hc];rfl
   ·rw[if_neg (by simp only[Bool.and_eq_true,Bool.or_eq_true,decide_eq_true_eq,beq_iff_eq,ge_iff_le,gt_iff_lt];omega),if_neg hc,Wi (by omega),Wi (by omega)];rfl
  unfold Vv
  by_cases hc:s.length≤p∨(s.getD p 0).toNat<lo∨hi<(s.getD p 0).toNat
  ·unfold x6
   rw[if_pos hc,xe (x:=some (.inr false)) (by rw[hb,if_pos hc];rfl)]
   rfl
  ·rw[if_neg hc,←za3 hs k (p+1) 128 191 v (d+1) (by omega) hv]
   unfold x6
   rw[wz (s':=(((p+1:Nat):Int),((128:Nat):Int),((191:Nat):Int),((d+1:Nat):Int))) (by rw[hb,if_neg hc])]
theorem ck2(n b1 b2 b3 lo hi:Nat):Lib.checkN n b1 b2 b3 (1+1) lo hi=if n<2∨b1<lo∨hi<b1 then none else some 2:=by unfold Lib.checkN;rw[if_pos rfl]
theorem ck3(n b1 b2 b3 lo hi:Nat):Lib.checkN n b1 b2 b3 (2+1) lo hi=if n<3∨b1<lo∨hi<b1∨b2<128∨191<b2 then none else some 3:=by unfold Lib.checkN;rw[if_neg (by decide),if_pos rfl]
theorem ck4(n b1 b2 b3 lo hi:Nat):Lib.checkN n b1 b2 b3 (3+1) lo hi=if n<4∨b1<lo∨hi<b1∨b2<128∨191<b2∨b3<128∨191<b3 then none else some 4:=by unfold Lib.checkN;rw[if_neg (by decide),if_neg (by decide),if_pos rfl]
theorem zgk{s:List UInt8}{i:Nat}(hi:i<s.length):∀ (k lo h:Nat),1≤k→k≤3 →
 Vv s k (i+1) lo h=(Lib.checkN (s.drop i).length ((s.drop i).getD 1 0).toNat ((s.drop i).getD 2 0).toNat ((s.drop i).getD 3 0).toNat (k+1) lo h).map fun n=>i+n:=by
 intro k lo h h1 h3
 have g:∀j,(s.drop i).getD j 0=s.getD (i+j) 0:=fun j=>by simp[List.getD_eq_getElem?_getD]
 rw[g,g,g,List.length_drop]
 have hk:k=1∨k=2∨k=3:=by omega
 rcases hk with rfl|rfl|rfl
 ·rw[ck2]
  unfold Vv
  by_cases c:s.length≤i+1∨(s.getD (i+1) 0).toNat<lo∨h<(s.getD (i+1) 0).toNat
  ·rw[if_pos c,if_pos (by omega)];rfl
  ·rw[if_neg c,if_neg (by omega)];rfl
 ·rw[ck3]
  unfold Vv
  by_cases c:s.length≤i+1∨(s.getD (i+1) 0).toNat<lo∨h<(s.getD (i+1) 0).toNat
  ·rw[if_pos c,if_pos (by omega)];rfl
  ·rw[if_neg c]
   unfold Vv
   by_cases c2:s.length≤i+2∨(s.getD (i+2) 0).toNat<128∨191<(s.getD (i+2) 0).toNat
   ·rw[if_pos c2,if_pos (by omega)];rfl
   ·rw[if_neg c2,if_neg (by omega)];rfl
 ·rw[ck4]
  unfold Vv
  by_cases c:s.length≤i+1∨(s.getD (i+1) 0).toNat<lo∨h<(s.getD (i+1) 0).toNat
  ·rw[if_pos c,if_pos (by omega)];rfl
  ·rw[if_neg c]
   unfold Vv
   by_cases c2:s.length≤i+2∨(s.getD (i+2) 0).toNat<128∨191<(s.getD (i+2) 0).toNat
   ·rw[if_pos c2,if_pos (by omega)];rfl
   ·rw[if_neg c2]
    unfold Vv
    by_cases c3:s.length≤i+3∨(s.getD (i+3) 0).toNat<128∨191<(s.getD (i+3) 0).toNat
    ·rw[if_pos c3,if_pos (by omega)];rfl
    ·rw[if_neg c3,if_neg (by omega)];rfl
def zgp(b:Nat):Option (Nat×Nat×Nat):=
 if b<128 then some (0,128,191) else if 194≤b∧b≤223 then some (1,128,191) else
 if 224≤b∧b≤239 then some (2,if b=224 then 160 else 128,if b=237 then 159 else 191) else
 if 240≤b∧b≤244 then some (3,if b=240 then 144 else 128,if b=244 then 143 else 191) else none
def zz8(b:Nat):Bool:=match zgp b with
 |none=>Lib.firstT b % 8==1
 |some (k,lo,hi)=>decide (1≤k)&&decide (k≤3)&&(Lib.firstT b % 8==k+1)&&(Lib.accLo (Lib.firstT b / 16)==lo)&&(Lib.accHi (Lib.firstT b / 16)==hi)
theorem zgj:∀b:Fin 256,128≤b.val→zz8 b.val=true:=by decide +kernel
theorem zh0{s:List UInt8}(hs:s.length≤4611686018427387904){i:Nat}(hi:i<s.length):qg none s (i:Int) =
 match zgp (s.getD i 0).toNat with
 |none=>some (.inr false)
 |some (k,lo,h)=>some (zik (Vv s k (i+1) lo h)):=by
 have hl:=fun(v lo h:Nat) (hv:v≤3)=>za3 hs v (i+1) lo h v 0 (by omega) hv
 have j9:∀ (v lo h:Nat),v≤3→y3 none s (i:Int) (v:Int) (lo:Int) (h:Int)=some (zik (Vv s v (i+1) lo h)):=fun v lo h hv=>by
  unfold y3
  rw[Wi (by omega)]
  exact hl v lo h hv
 have j7:∀lo:Nat,x5 none s (i:Int) (lo:Int)=some (zik (Vv s 2 (i+1) lo (if(s.getD i 0).toNat=237 then 159 else 191))):=fun lo=>by
  unfold x5
  simp only[Int.toNat_natCast]
  by_cases c:(s.getD i 0).toNat=237
  ·rw[if_pos (by simp only[beq_iff_eq];omega),if_pos c];exact j9 2 lo 159 (by omega)
  ·rw[if_neg (by simp only[beq_iff_eq];omega),if_neg c];exact j9 2 lo 191 (by omega)
 have j8:∀lo:Nat,x8 none s (i:Int) (lo:Int)=some (zik (Vv s 3 (i+1) lo (if(s.getD i 0).toNat=244 then 143 else 191))):=fun lo=>by
  unfold x8
  simp only[Int.toNat_natCast]
  by_cases c:(s.getD i 0).toNat=244
  ·rw[if_pos (by simp only[beq_iff_eq];omega),if_pos c];exact j9 3 lo 143 (by omega)
  ·rw[if_neg (by simp only[beq_iff_eq];omega),if_neg c];exact j9 3 lo 191 (by omega)
 unfold qg zgp
 rw[if_pos (by simp;omega),if_pos (by omega)]
 simp only[Int.toNat_natCast]
 by_cases c1:(s.getD i 0).toNat<128
 ·rw[if_pos (by simp only[Bool.and_eq_true,Bool.or_eq_true,decide_eq_true_eq,beq_iff_eq,ge_iff_le,gt_iff_lt];omega),if_pos c1];exact j9 0 128 191 (by omega)
 rw[if_neg (by simp only[Bool.and_eq_true,Bool.or_eq_true,decide_eq_true_eq,beq_iff_eq,ge_iff_le,gt_iff_lt];omega),if_neg c1]
 by_cases c2:194≤(s.getD i 0).toNat∧(s.getD i 0).toNat≤223
 ·rw[if_pos (by simp only[Bool.and_eq_true,Bool.or_eq_true,decide_eq_true_eq,beq_iff_eq,ge_iff_le,gt_iff_lt];omega),if_pos c2];exact j9 1 128 191 (by omega)
 rw[if_neg (by simp only[Bool.and_eq_true,Bool.or_eq_true,decide_eq_true_eq,beq_iff_eq,ge_iff_le,gt_iff_lt];omega),if_neg c2]
 by_cases c3:224≤(s.getD i 0).toNat∧(s.getD i 0).toNat≤239
 ·rw[if_pos (by simp only[Bool.and_eq_true,Bool.or_eq_true,decide_eq_true_eq,beq_iff_eq,ge_iff_le,gt_iff_lt];omega),if_pos c3]
  by_cases c:(s.getD i 0).toNat=224
  ·rw[if_pos (by simp only[beq_iff_eq];omega),if_pos c];exact j7 160
  ·rw[if_neg (by simp only[beq_iff_eq];omega),if_neg c];exact j7 128
 rw[if_neg (by simp only[Bool.and_eq_true,Bool.or_eq_true,decide_eq_true_eq,beq_iff_eq,ge_iff_le,gt_iff_lt];omega),if_neg c3]
 by_cases c4:240≤(s.getD i 0).toNat∧(s.getD i 0).toNat≤244
 ·rw[if_pos (by simp only[Bool.and_eq_true,Bool.or_eq_true,decide_eq_true_eq,beq_iff_eq,ge_iff_le,gt_iff_lt];omega),if_pos c4]
  by_cases c:(s.getD i 0).toNat=240
  ·rw[if_pos (by simp only[beq_iff_eq];omega),if_pos c];exact j8 144
  ·rw[if_neg (by simp only[beq_iff_eq];omega),if_neg c];exact j8 128
 rw[if_neg (by simp only[Bool.and_eq_true,Bool.or_eq_true,decide_eq_true_eq,beq_iff_eq,ge_iff_le,gt_iff_lt];omega),if_neg c4]
 rfl
theorem z4k{s:List UInt8}(hs:s.length≤4611686018427387904):∀ (k i:Nat),i+k≥s.length→i≤s.length→jb none s (i:Int)=some (Lib.validD (s.drop i))
 |k,i,hk,hi=>by
  by_cases he:i=s.length
  ·subst he
   unfold jb
   rw[List.drop_length,xe (x:=some true)]
   ·rfl
   ·unfold qg
    rw[if_neg (by simp)]
    rfl
  ·have hi:i<s.length:=by omega
   cases k with
   |zero=>omega
   |succ k=>
   have ih:=z4k hs k
   have hb:=zh0 hs hi
   have hg:(s.drop i).getD 0 0=s.getD i 0:=by simp[List.getD_eq_getElem?_getD]
   have hne:s.drop i≠[]:=by simp;omega
   unfold jb at ih ⊢
   by_cases ha:(s.getD i 0).toNat<128
   ·have:zgp (s.getD i 0).toNat=some (0,128,191):=by unfold zgp;rw[if_pos ha]
    rw[this] at hb
    rw[wz (s':=((i+1:Nat):Int)) hb,ih (i+1) (by omega) (by omega)]
    have hcons:s.drop i=s.getD i 0::s.drop (i+1):=by
     rw[List.drop_eq_getElem_cons hi];simp[List.getD_eq_getElem?_getD,hi]
    rw[hcons,Lib.validD_cons _ _ ha]
   ·have hv:=Lib.validD_lead (s.drop i) hne (by rw[hg];omega)
    have hf:=zgj ⟨(s.getD i 0).toNat,(s.getD i 0).toNat_lt⟩ (by simp only;omega)
    simp only[zz8] at hf
    rw[hg] at hv
    cases hl:zgp (s.getD i 0).toNat with
    |none=>
     rw[hl] at hb hf
     rw[xe (x:=some false) hb,hv]
     simp only[beq_iff_eq] at hf
     rw[hf]
     rfl
    |some y=>
     obtain⟨k',lo,h⟩:=y
     rw[hl] at hb hf
     simp only at hb
     simp only[Bool.and_eq_true,decide_eq_true_eq,beq_iff_eq] at hf
     obtain⟨⟨⟨⟨f1,f2⟩,f3⟩,f4⟩,f5⟩:=hf
     have hc:=zgk hi k' lo h f1 f2
     rw[f3,f4,f5] at hv
     rw[hv]
     cases hcn:Lib.checkN (s.drop i).length ((s.drop i).getD 1 0).toNat ((s.drop i).getD 2 0).toNat ((s.drop i).getD 3 0).toNat (k'+1) lo h with
     |none=>
      rw[hcn] at hc
      rw[hc] at hb
      rw[xe (x:=some false) hb]
     |some q=>
      rw[hcn] at hc
      rw[hc] at hb
      have hq:1≤q∧i+q≤s.length:=by
       have hlen:(s.drop i).length=s.length-i:=List.length_drop
       rw[hlen] at hcn
       unfold Lib.checkN at hcn
       have hk:k'=1∨k'=2∨k'=3:=by omega
       rcases hk with rfl|rfl|rfl<;>simp only[] at hcn<;>(repeat' split at hcn)<;>simp at hcn<;>omega
      rw[wz (s':=((i+q:Nat):Int)) hb,ih (i+q) (by omega) (by omega)]
      simp only[List.drop_drop]
theorem z50{s:List UInt8}(hs:s.length≤4611686018427387904):qk none s=some (Lib.validD s):=by
 have:=z4k hs s.length 0 (by omega) (by omega)
 exact this
theorem zaq{s:List UInt8}(hs:s.length≤4611686018427387904):we none s=some (Lib.validD s):=by
 unfold we;rw[if_pos (by omega)]
inductive J where
 |mk (kind num:Int) (text:List UInt8) (names:List (List UInt8)) (elems:List J)
def J.kind:J→Int|.mk k _ _ _ _=>k
def J.num:J→Int|.mk _ n _ _ _=>n
def J.text:J→List UInt8|.mk _ _ t _ _=>t
def J.names:J→List (List UInt8)|.mk _ _ _ ns _=>ns
def J.elems:J→List J|.mk _ _ _ _ es=>es
mutual
def J.raw:J→List AVal
 |.mk k n t ns es=>z6 ⟨k,n,t,ns,J.rawL es⟩
def J.rawL:List J→List (List AVal)
 |[]=>[]
 |e::r=>e.raw::J.rawL r
end
theorem zly:∀es:List J,J.rawL es=es.map J.raw
 |[]=>rfl
 |e::r=>by unfold J.rawL;rw[zly r];rfl
def J.val(j:J):GJ:=⟨j.kind,j.num,j.text,j.names,j.elems.map J.raw⟩
theorem Wu(j:J):j.raw=z6 j.val:=by
 cases j with
 |mk k n t ns es=>unfold J.raw J.val;rw[zly];rfl
theorem y2y{x y:GJ}(h:z6 x=z6 y):x=y:=by
 obtain⟨k,n,t,ns,es⟩:=x
 obtain⟨k',n',t',ns',es'⟩:=y
 simp only[z6,List.cons.injEq,AVal.int.injEq,AVal.str.injEq,AVal.isl.injEq,true_and,and_true] at h
 obtain⟨h1,h2,h3,h4,h5⟩:=h
 have g1:ns=ns':=by
  refine(List.map_inj_right ?_).1 h4
  intro a b hab
  simp only[za,List.cons.injEq,AVal.str.injEq,and_true] at hab
  exact hab
 have g2:es=es':=by
  have:(fun r:List AVal=>ze r)=id:=rfl
  rw[show(ze:List AVal→List AVal)=id from rfl,List.map_id,List.map_id] at h5
  exact h5
 rw[h1,h2,h3,g1,g2]
theorem y25(j:J):Zo j.raw=some j.val:=by
 rw[Wu]
 have h:∃x,z6 j.val=z6 x:=⟨_,rfl⟩
 unfold Zo
 rw[dif_pos h]
 congr 1
 exact(y2y (Classical.choose_spec h)).symm
theorem zq3{j:J}{i:Nat}(h:i<j.elems.length):j.val.fE.getD i default=(j.elems[i]).raw:=by
 simp[J.val,List.getD_eq_getElem?_getD,h]
theorem vj(j:J):(j.val.fE.map ze).length=j.elems.length:=by simp[J.val]
theorem zzc{j:J}{i:Nat}(h:i<j.elems.length):Zo (j.val.fE.getD i default)=some (j.elems[i]).val:=by rw[zq3 h,y25]
def nsz:List (List UInt8)→Nat
 |[]=>0
 |n::r=>n.length+1+nsz r
mutual
def J.sz:J→Nat
 |.mk _ _ t ns es=>1+t.length+nsz ns+J.szL es
def J.szL:List J→Nat
 |[]=>0
 |e::r=>e.sz+J.szL r
end
mutual
def J.nodes:J→Nat
 |.mk _ _ _ _ es=>1+J.nodesL es
def J.nodesL:List J→Nat
 |[]=>0
 |e::r=>e.nodes+J.nodesL r
end
mutual
def J.depth:J→Nat
 |.mk _ _ _ _ es=>1+J.depthL es
def J.depthL:List J→Nat
 |[]=>0
 |e::r=>max e.depth (J.depthL r)
end
theorem z15(j:J):1≤j.sz:=by cases j;unfold J.sz;omega
theorem zhs:∀ {es:List J} {e:J},e∈es→e.sz≤J.szL es
 |x::r,e,h=>by
  unfold J.szL
  rcases List.mem_cons.1 h with rfl|h
  ·omega
  ·have:=zhs h;omega
theorem zsn:∀es:List J,es.length≤J.szL es
 |[]=>by simp
 |e::r=>by
  unfold J.szL
  have:=zsn r
  have:=z15 e
  simp only[List.length_cons];omega
theorem zob:∀ {ns:List (List UInt8)} {n:List UInt8},n∈ns→n.length≤nsz ns
 |x::r,n,h=>by
  unfold nsz
  rcases List.mem_cons.1 h with rfl|h
  ·omega
  ·have:=zob h;omega
theorem zkv:∀ns:List (List UInt8),ns.length≤nsz ns
 |[]=>by simp
 |n::r=>by
  unfold nsz
  have:=zkv r
  simp only[List.length_cons];omega
mutual
theorem ze3:∀j:J,j.nodes≤j.sz
 |.mk _ _ t ns es=>by unfold J.nodes J.sz;have:=z7r es;omega
theorem z7r:∀es:List J,J.nodesL es≤J.szL es
 |[]=>by simp[J.nodesL]
 |e::r=>by unfold J.nodesL J.szL;have:=ze3 e;have:=z7r r;omega
end
mutual
theorem z2h:∀j:J,j.depth≤j.nodes
 |.mk _ _ t ns es=>by unfold J.nodes J.depth;have:=Ug es;omega
theorem Ug:∀es:List J,J.depthL es≤J.nodesL es
 |[]=>by simp[J.depthL]
 |e::r=>by unfold J.nodesL J.depthL;have:=z2h e;have:=Ug r;omega
end
def J.ok(j:J):Prop:=j.sz≤1073741824
theorem J.ok.elem{j e:J}(h:j.ok)(he:e∈j.elems):e.ok:=by
 cases j with
 |mk k n t ns es=>
  have h':J.sz (.mk k n t ns es)≤1073741824:=h
  rw[J.sz.eq_1 k n t ns es] at h'
  have:=zhs he
  simp only[J.elems] at this
  show e.sz≤1073741824
  omega
theorem zfl{j e:J}(he:e∈j.elems):e.sz<j.sz:=by
 cases j with
 |mk k n t ns es=>
  have:=zhs he
  simp only[J.elems] at this
  rw[J.sz.eq_1 k n t ns es]
  omega
theorem J.ok.len{j:J}(h:j.ok):j.elems.length≤1073741824∧j.text.length≤1073741824∧j.names.length≤1073741824∧∀n∈j.names,n.length≤1073741824:=by
 cases j with
 |mk k n t ns es=>
  unfold J.ok J.sz at h
  have:=zsn es
  have:=zkv ns
  refine⟨?_,?_,?_,fun n hn=>?_⟩<;>simp only[J.elems,J.text,J.names] at *
  ·omega
  ·omega
  ·omega
  ·have:=zob hn;omega
theorem Wm{α:Type}{f:Nat→Option α}{v:α}{d:Nat}(h:∀k,f k=some v∨(k<d∧f k=none)):zp7 none f=some v:=
 zxj (fun k o ho=>by rcases h k with h1|⟨_,h1⟩<;>rw[h1] at ho<;>cases ho;rfl) ⟨d,by rcases h d with h1|⟨h1,_⟩;exact h1;omega⟩
theorem X3{σ ρ:Type}{b:σ→Option (σ ⊕ ρ)}{s:σ}(h:b s=none):Y1 none b s=none:=by rw[z5l,h]
mutual
def J.lim:J→Int→Int→Bool×Int
 |.mk _ _ _ _ es,d,n=>if n+1 > 400∨d > 20 then(false,n+1) else J.limL es (d+1) (n+1)
def J.limL:List J→Int→Int→Bool×Int
 |[],_,n=>(true,n)
 |e::r,d,n=>if(e.lim d n).1=true then J.limL r d (e.lim d n).2 else(false,(e.lim d n).2)
end
mutual
theorem zby:∀ (j:J) (d n:Int),0≤n→((j.lim d n).1=true↔n+j.nodes≤400∧d+j.depth≤21)∧((j.lim d n).1=true→(j.lim d n).2=n+j.nodes)
 |.mk k m t ns es,d,n,h=>by
  unfold J.lim J.nodes J.depth
  by_cases c:n+1 > 400∨d > 20
  ·rw[if_pos c]
   refine⟨⟨fun h=>(by cases h),fun h=>?_⟩,fun h=>(by cases h)⟩
   omega
  ·rw[if_neg c]
   obtain⟨h1,h2⟩:=zdp es (d+1) (n+1) (by omega) (by omega) (by omega)
   refine⟨h1.trans ⟨fun h=>by omega,fun h=>by omega⟩,fun h=>?_⟩
   rw[h2 h];omega
theorem zdp:∀ (es:List J) (d n:Int),0≤n→n≤400→d≤21→((J.limL es d n).1=true↔n+J.nodesL es≤400∧d+J.depthL es≤21)∧((J.limL es d n).1=true→(J.limL es d n).2=n+J.nodesL es)
 |[],d,n,h,h',hd=>by
  unfold J.limL J.nodesL J.depthL
  refine⟨⟨fun _=>by omega,fun _=>rfl⟩,fun _=>by simp⟩
 |e::r,d,n,h,h',hd=>by
  unfold J.limL J.nodesL J.depthL
  obtain⟨h1,h2⟩:=zby e d n h
  by_cases c:(e.lim d n).1=true
  ·rw[if_pos c]
   have h3:=h2 c
   have h4:=h1.1 c
   obtain⟨g1,g2⟩:=zdp r d (e.lim d n).2 (by omega) (by omega) hd
   refine⟨g1.trans ⟨fun h=>by omega,fun h=>by omega⟩,fun h=>?_⟩
   rw[g2 h];omega
  ·rw[if_neg c]
   refine⟨⟨fun h=>(by cases h),fun hh=>absurd (h1.2 (by omega)) c⟩,fun h=>by cases h⟩
end
theorem zen{j:J}{rec0:GJ→Int→Int→Option (Bool×Int)}{B:Prop}(hj:j.ok){d:Int}(hd:1≤d∧d≤20)
 (hr:∀e∈j.elems,∀n:Int,0≤n→n≤400→rec0 e.val (d+1) n=some (e.lim (d+1) n)∨(B∧rec0 e.val (d+1) n=none)) :
 ∀ (k i:Nat) (n:Int),i+k=j.elems.length→0≤n→n≤400 →
  qu rec0 none j.val d n (i:Int)=some (J.limL (j.elems.drop i) (d+1) n)∨(B∧qu rec0 none j.val d n (i:Int)=none)
 |0,i,n,h,h0,h4=>by
  left
  have:i=j.elems.length:=by omega
  subst this
  unfold qu
  rw[xe (x:=some (true,n)),List.drop_length]
  ·rfl
  ·unfold yn
   rw[if_neg (by rw[vj];simp)]
   rfl
 |k+1,i,n,h,h0,h4=>by
  have hi:i<j.elems.length:=by omega
  have hl:=hj.len
  have ih:=zen hj hd hr k (i+1)
  have hb:yn rec0 none j.val d n (i:Int)=(rec0 (j.elems[i]).val (d+1) n).bind fun v8=>if(!v8.1)=true then some (.inr (false,v8.2)) else some (.inl (v8.2,((i+1:Nat):Int))):=by
   unfold yn
   rw[vj,if_pos (by simpa using hi),if_pos (by omega)]
   simp only[Int.toNat_natCast,zzc hi,Option.bind_some,Wi (show i≤4611686018427387904 by omega),show W (d+1)=d+1 from zsr (by unfold inR;omega)]
   rfl
  rw[List.drop_eq_getElem_cons hi]
  unfold qu at ih ⊢
  rcases hr _ (List.getElem_mem hi) n h0 h4 with hc|⟨hB,hc⟩
  ·rw[hc,Option.bind_some] at hb
   unfold J.limL
   obtain⟨g1,g2⟩:=zby j.elems[i] (d+1) n h0
   cases hv:(j.elems[i].lim (d+1) n).1 with
   |true=>
    rw[hv] at hb
    rw[wz (s':=((j.elems[i].lim (d+1) n).2,((i+1:Nat):Int))) hb,if_pos rfl]
    have:=g2 hv
    have:=g1.1 hv
    exact ih _ (by omega) (by omega) (by omega)
   |false=>
    left
    rw[hv] at hb
    rw[xe (x:=some (false,(j.elems[i].lim (d+1) n).2)) hb,if_neg (by simp)]
  ·right
   rw[hc] at hb
   exact⟨hB,X3 hb⟩
theorem zjs:∀ (k:Nat) (j:J) (d n:Int),j.ok→1≤d→d≤21→0≤n→n≤400→yw none k j.val d n=some (j.lim d n)∨(k<j.sz∧yw none k j.val d n=none)
 |0,j,d,n,hj,hd,hd',h0,h4=>.inr ⟨z15 j,rfl⟩
 |k+1,j,d,n,hj,hd,hd',h0,h4=>by
  have hW:W (n+1)=n+1:=zsr (by unfold inR;omega)
  unfold yw jf
  rw[hW]
  by_cases c:n+1 > 400∨d > 20
  ·left
   rw[if_pos (by simpa using c)]
   cases j;unfold J.lim;rw[if_pos c]
  ·rw[if_neg (by simpa using c)]
   have:=zen (rec0:=yw none k) (B:=k+1<j.sz) hj (d:=d) (by omega) (fun e he n h0 h4=>by
    rcases zjs k e (d+1) n (hj.elem he) (by omega) (by omega) h0 h4 with h|⟨h1,h2⟩
    ·exact .inl h
    ·exact .inr ⟨by have:=zfl he;omega,h2⟩) j.elems.length 0 (n+1) (by omega) (by omega) (by omega)
   have e:j.lim d n=J.limL j.elems (d+1) (n+1):=by cases j;rw[J.lim.eq_1,if_neg c];rfl
   rw[e]
   exact this
theorem y0x{j:J}(hj:j.ok):vi none j.val 1 0=some (j.lim 1 0):=
 Wm (d:=j.sz) fun k=>zjs k j 1 0 hj (by omega) (by omega) (by omega) (by omega)
theorem z2q{l:List (List UInt8)}{i:Nat}(h:i<l.length):l.getD i default=l[i]:=z5w h
theorem zu8{p:List (List UInt8)}{x y:List UInt8}(h:y≠x):(p++[y]).contains x=p.contains x:=by simp[Ne.symm h]
theorem zq2{p:List (List UInt8)}{x:List UInt8}:(p++[x]).contains x=true:=by simp
theorem y1b{p:List (List UInt8)}{x:List UInt8}:(x::p).contains x=true:=by simp
theorem zz1{p:List (List UInt8)}{x y:List UInt8}(h:x≠y):(y::p).contains x=p.contains x:=by simp[h]
def zpe(p:List (List UInt8)):List (List UInt8)→Bool
 |[]=>false
 |x::r=>p.contains x || zpe (p++[x]) r
theorem zyq{M:List (List UInt8×Int)}{k j:List UInt8}{v:Int}:lk Jm (mp Jm M k v) j=if k=j then some v else lk Jm M j:=by
 induction M with
 |nil=>
  simp only[mp,lk,Jm,Bool.and_true,beq_iff_eq]
  by_cases h:k=j
  ·rw[if_pos h,if_pos h.symm]
  ·rw[if_neg h,if_neg (Ne.symm h)]
 |cons x r ih=>
  obtain⟨k',v'⟩:=x
  simp only[mp,Jm,Bool.and_true,beq_iff_eq]
  by_cases h:k=k'
  ·rw[if_pos h]
   simp only[lk,Jm,Bool.and_true,beq_iff_eq]
   by_cases h2:k=j
   ·rw[if_pos h2,if_pos h2.symm]
   ·rw[if_neg h2,if_neg (Ne.symm h2),if_neg (by rw[←h];exact Ne.symm h2)]
  ·rw[if_neg h]
   simp only[lk,Jm,Bool.and_true,beq_iff_eq]
   by_cases h2:j=k'
   ·rw[if_pos h2,if_pos h2,if_neg (by rw[h2];exact h)]
   ·rw[if_neg h2,if_neg h2];exact ih
theorem z0w{a0:List (List UInt8)}(hl:a0.length≤4611686018427387904):∀ (k i:Nat) (M:List (List UInt8×Int)),i+k=a0.length→(∀x,(((lk Jm M x).getD 0) != 0)=(a0.take i).contains x) →
 jr none a0 (i:Int) M=some (zpe (a0.take i) (a0.drop i))
 |0,i,M,h,hM=>by
  have:i=a0.length:=by omega
  subst this
  unfold jr
  rw[xe (x:=some false),List.drop_length]
  ·rfl
  ·unfold qx
   rw[if_neg (by simp)]
   rfl
 |k+1,i,M,h,hM=>by
  have hi:i<a0.length:=by omega
  have ih:=z0w hl k (i+1)
  have hb:qx none a0 (i:Int) M=if(a0.take i).contains a0[i]=true then some (.inr true) else some (.inl (((i+1:Nat):Int),mp Jm M a0[i] 1)):=by
   unfold qx
   rw[if_pos (by simpa using hi),if_pos (by simpa using hi)]
   simp only[Int.toNat_natCast,z2q hi,Wi (show i≤4611686018427387904 by omega),hM]
   rfl
  rw[List.drop_eq_getElem_cons hi,zpe]
  unfold jr at ih ⊢
  cases hc:(a0.take i).contains a0[i] with
  |true=>
   rw[hc,if_pos rfl] at hb
   rw[xe (x:=some true) hb];rfl
  |false=>
   rw[hc,if_neg (by simp)] at hb
   have ht:a0.take (i+1)=a0.take i++[a0[i]]:=by rw[List.take_succ_eq_append_getElem hi]
   rw[wz hb,ih _ (by omega) (fun x=>?_),ht,Bool.false_or]
   rw[zyq,ht]
   by_cases hx:a0[i]=x
   ·rw[if_pos hx,hx,zq2];rfl
   ·rw[if_neg hx,hM,zu8 hx]
theorem zm6{a0:List (List UInt8)}(hl:a0.length≤4611686018427387904):wg none a0=some (zpe [] a0):=
 z0w hl a0.length 0 [] (by omega) (fun x=>by simp[lk])
theorem z3w{a0:List (List UInt8)}{a1:List UInt8}(hl:a0.length≤4611686018427387904):∀ (k i:Nat),i+k=a0.length →
 ∃r,xc none a0 a1 (i:Int)=some r∧decide (r≥0)=(a0.drop i).contains a1
 |0,i,h=>by
  have:i=a0.length:=by omega
  subst this
  refine⟨-1,?_,by simp⟩
  unfold xc
  rw[xe (x:=some (-1))]
  unfold ym
  rw[if_neg (by simp)]
  rfl
 |k+1,i,h=>by
  have hi:i<a0.length:=by omega
  obtain⟨r,ih1,ih2⟩:=z3w (a1:=a1) hl k (i+1) (by omega)
  have hb:ym none a0 a1 (i:Int)=if(a1==a0[i])=true then some (.inr (i:Int)) else some (.inl ((i+1:Nat):Int)):=by
   unfold ym
   rw[if_pos (by simpa using hi),if_pos (by simpa using hi)]
   simp only[Int.toNat_natCast,z2q hi,Wi (show i≤4611686018427387904 by omega)]
   rfl
  rw[List.drop_eq_getElem_cons hi]
  unfold xc at ih1 ⊢
  by_cases hc:a1=a0[i]
  ·rw[if_pos (by simpa using hc)] at hb
   exact⟨i,xe (x:=some (i:Int)) hb,by rw[hc,y1b,decide_eq_true_eq];omega⟩
  ·rw[if_neg (by simpa using hc)] at hb
   refine⟨r,by rw[wz hb];exact ih1,?_⟩
   rw[ih2,zz1 hc]
theorem zbc{a0:List (List UInt8)}{a1:List UInt8}(hl:a0.length≤4611686018427387904):qp none a0 a1=some (a0.contains a1):=by
 obtain⟨r,h1,h2⟩:=z3w (a1:=a1) hl a0.length 0 (by omega)
 unfold qp j0
 rw[show(0:Int)=((0:Nat):Int) from rfl,h1,Option.bind_some]
 rw[show((0:Nat):Int)=(0:Int) from rfl,h2]
 rfl
theorem zdw{a0:List (List UInt8)}(hl:a0.length≤4611686018427387904):∀ (k i:Nat),i+k=a0.length→ja none a0 (i:Int)=some (zpe (a0.take i) (a0.drop i))
 |0,i,h=>by
  have:i=a0.length:=by omega
  subst this
  unfold ja
  rw[xe (x:=some false),List.drop_length]
  ·rfl
  ·unfold qi
   rw[if_neg (by simp)]
   rfl
 |k+1,i,h=>by
  have hi:i<a0.length:=by omega
  have ih:=zdw hl k (i+1) (by omega)
  have hb:qi none a0 (i:Int)=if(a0.take i).contains a0[i]=true then some (.inr true) else some (.inl ((i+1:Nat):Int)):=by
   unfold qi
   rw[if_pos (by simpa using hi),if_pos (by simpa using hi),if_pos (by simp;omega)]
   simp only[Int.toNat_natCast,z2q hi,Wi (show i≤4611686018427387904 by omega)]
   rw[zbc (by rw[List.length_take];omega),Option.bind_some]
   rfl
  rw[List.drop_eq_getElem_cons hi,zpe]
  unfold ja at ih ⊢
  cases hc:(a0.take i).contains a0[i] with
  |true=>
   rw[hc,if_pos rfl] at hb
   rw[xe (x:=some true) hb];rfl
  |false=>
   rw[hc,if_neg (by simp)] at hb
   rw[wz hb,ih,List.take_succ_eq_append_getElem hi,Bool.false_or]
theorem y0d{a0:List (List UInt8)}(hl:a0.length≤4611686018427387904):jw none a0=some (zpe [] a0):=zdw hl a0.length 0 (by omega)
theorem zab{a0:List (List UInt8)}(hl:a0.length≤4611686018427387904)(hn:∀n∈a0,n.length≤4611686018427387904):∀ (k i:Nat),i+k=a0.length →
 ∃r,jd (fun(s:Unit) (x:(List UInt8))=>(qe none x).map fun o=>(o,())) none a0 (i:Int) ()=some (r,())∧decide (r≥0)=!((a0.drop i).all Lib.validD)
 |0,i,h=>by
  have:i=a0.length:=by omega
  subst this
  refine⟨-1,?_,by simp⟩
  unfold jd
  rw[xe (x:=some (-1,()))]
  unfold qc
  rw[if_neg (by simp)]
  rfl
 |k+1,i,h=>by
  have hi:i<a0.length:=by omega
  obtain⟨r,ih1,ih2⟩:=zab hl hn k (i+1) (by omega)
  have hb:qc (fun(s:Unit) (x:(List UInt8))=>(qe none x).map fun o=>(o,())) none a0 (i:Int) ()=if(!Lib.validD a0[i])=true then some (.inr ((i:Int),())) else some (.inl (((i+1:Nat):Int),())):=by
   unfold qc qe
   rw[if_pos (by simpa using hi),if_pos (by simpa using hi)]
   simp only[Int.toNat_natCast,z2q hi,Wi (show i≤4611686018427387904 by omega)]
   rw[zaq (hn _ (List.getElem_mem hi))]
   rfl
  rw[List.drop_eq_getElem_cons hi]
  unfold jd at ih1 ⊢
  cases hc:Lib.validD a0[i] with
  |false=>
   rw[hc,if_pos (by rfl)] at hb
   exact⟨i,xe (x:=some ((i:Int),())) hb,by rw[List.all_cons,hc,Bool.false_and,Bool.not_false,decide_eq_true_eq];omega⟩
  |true=>
   rw[hc,if_neg (by simp)] at hb
   refine⟨r,by rw[wz hb];exact ih1,?_⟩
   rw[ih2,List.all_cons,hc,Bool.true_and]
theorem zwt{a0:List (List UInt8)}(hl:a0.length≤4611686018427387904)(hn:∀n∈a0,n.length≤4611686018427387904) :
 x9 (fun(s:Unit) (x:(List UInt8))=>(qe none x).map fun o=>(o,())) none a0 ()=some (!(a0.all Lib.validD),()):=by
 obtain⟨r,h1,h2⟩:=zab hl hn a0.length 0 (by omega)
 unfold x9 jx
 rw[show(0:Int)=((0:Nat):Int) from rfl,h1,Option.bind_some]
 rw[show((0:Nat):Int)=(0:Int) from rfl,h2]
 rfl
def z03(k n:Int):Bool:=decide (n=0∨(k=1∧n=1)∨(k=2∧-9007199254740991≤n∧n≤9007199254740991))
def wfB(k n:Int)(t:List UInt8)(ns:List (List UInt8))(len:Nat):Bool:=
 z03 k n&&(decide (t=[]) || (decide (k=3)&&Lib.validD t))&&decide (len=0∨k≥4)&&(if k=5 then decide (ns.length=len)&&!zpe [] ns else decide (ns.length=0))&&ns.all Lib.validD
def J.wf(j:J):Bool:=wfB j.kind j.num j.text j.names j.elems.length
theorem zxg{j:J}(hj:j.ok)(hk:0≤j.kind∧j.kind≤5){lo hi:Int}(hnum:z03 j.kind j.num=decide (lo≤j.num∧j.num≤hi)):xl none j.val lo hi=some j.wf:=by
 obtain⟨hl1,hl2,hl3,hl4⟩:=hj.len
 have hd:=zm6 (a0:=j.names) (by omega)
 have hf:=zwt (a0:=j.names) (by omega) (fun n hn=>by have:=hl4 n hn;omega)
 have hu:=zaq (s:=j.text) (by omega)
 unfold xl J.wf wfB
 rw[hnum]
 rw[vj,show j.val.fK=j.kind from rfl,show j.val.fN=j.num from rfl,show j.val.fT=j.text from rfl,show j.val.fA=j.names from rfl,List.length_map]
 by_cases c1:¬(lo≤j.num∧j.num≤hi)
 ·rw[if_pos (by simp only[Bool.or_eq_true,decide_eq_true_eq];omega),decide_eq_false c1];rfl
 rw[if_neg (by simp only[Bool.or_eq_true,decide_eq_true_eq];omega)]
 by_cases c2:j.text≠[]∧j.kind≠3
 ·rw[if_pos (by simp;exact c2)];simp[c2.1,c2.2]
 rw[if_neg (by simpa using c2)]
 by_cases c3:j.elems.length > 0∧j.kind≠4∧j.kind≠5
 ·rw[if_pos (by simp;omega)]
  have:¬(j.elems.length=0∨j.kind≥4):=by omega
  rw[decide_eq_false this,Bool.and_false,Bool.false_and,Bool.false_and]
 rw[if_neg (by simp;omega)]
 have e1:decide (lo≤j.num∧j.num≤hi)=true:=by rw[decide_eq_true_eq];omega
 have e3:decide (j.elems.length=0∨j.kind≥4)=true:=by simp only[decide_eq_true_eq];omega
 have e2:(decide (j.text=[]) || (decide (j.kind=3)&&Lib.validD j.text))=Lib.validD j.text:=by
  by_cases ht:j.text=[]
  ·rw[ht];rfl
  ·have:j.kind=3:=Decidable.byContradiction fun h=>c2 ⟨ht,h⟩
   simp[ht,this]
 rw[e1,e2,e3]
 by_cases c5:j.kind=5
 ·rw[if_pos c5]
  by_cases cl:j.names.length=j.elems.length
  ·rw[if_pos (by simp[c5,cl]),hd,Option.bind_some]
   cases hdp:zpe [] j.names with
   |true=>rw[if_pos (by simp[c5])];simp
   |false=>
    rw[if_neg (by simp[c5,cl]),if_neg (by simp[c5]),hu,Option.bind_some]
    cases hv:Lib.validD j.text with
    |true=>rw[if_pos (by rfl),hf,Option.bind_some];simp[cl]
    |false=>rw[if_neg (by simp),Option.bind_some];simp
  ·rw[if_neg (by simp[c5];omega),Option.bind_some,if_pos (by simp[c5];omega)]
   simp[cl]
 ·rw[if_neg c5,if_neg (by simp[c5]),Option.bind_some,if_neg (by simp[c5])]
  by_cases cl:j.names.length=0
  ·rw[if_neg (by simp[cl]),hu,Option.bind_some]
   cases hv:Lib.validD j.text with
   |true=>rw[if_pos (by rfl),hf,Option.bind_some];simp[cl]
   |false=>rw[if_neg (by simp),Option.bind_some];simp
  ·rw[if_pos (by simp[c5];omega)]
   simp[cl]
theorem y31{j:J}(hj:j.ok)(hk:0≤j.kind∧j.kind≤5):wi none j.val=some j.wf:=by
 unfold wi
 have hkv:j.val.fK=j.kind:=rfl
 rw[hkv]
 by_cases c1:j.kind=1
 ·rw[if_pos (by simpa using c1)]
  exact zxg hj hk (by unfold z03;rw[decide_eq_decide];omega)
 rw[if_neg (by simpa using c1)]
 by_cases c2:j.kind=2
 ·rw[if_pos (by simpa using c2)]
  exact zxg hj hk (by unfold z03;rw[decide_eq_decide];omega)
 rw[if_neg (by simpa using c2)]
 exact zxg hj hk (by unfold z03;rw[decide_eq_decide];omega)
mutual
def J.vd:J→Int
 |.mk k n t ns es=>if k<0∨k > 5 then 7 else if wfB k n t ns es.length=true then J.vdL es else 3
def J.vdL:List J→Int
 |[]=>0
 |e::r=>if e.vd≠0 then e.vd else J.vdL r
end
theorem zoq(j:J):j.vd=if j.kind<0∨j.kind > 5 then 7 else if j.wf=true then J.vdL j.elems else 3:=by
 cases j;rw[J.vd.eq_1];rfl
theorem zch{j:J}{rec0:GJ→Option Int}{B:Prop}(hj:j.ok)(hr:∀e∈j.elems,rec0 e.val=some e.vd∨(B∧rec0 e.val=none)) :
 ∀ (k i:Nat),i+k=j.elems.length →
  xj rec0 none j.val (i:Int)=some (J.vdL (j.elems.drop i))∨(B∧xj rec0 none j.val (i:Int)=none)
 |0,i,h=>by
  left
  have:i=j.elems.length:=by omega
  subst this
  unfold xj
  rw[xe (x:=some 0),List.drop_length]
  ·rfl
  ·unfold qw
   rw[if_neg (by rw[vj];simp)]
   rfl
 |k+1,i,h=>by
  have hi:i<j.elems.length:=by omega
  have hl:=hj.len
  have ih:=zch hj hr k (i+1) (by omega)
  have hb:qw rec0 none j.val (i:Int)=(rec0 (j.elems[i]).val).bind fun v8=>if(v8 != 0)=true then some (.inr v8) else some (.inl ((i+1:Nat):Int)):=by
   unfold qw
   rw[vj,if_pos (by simpa using hi),if_pos (by omega)]
   simp only[Int.toNat_natCast,zzc hi,Option.bind_some,Wi (show i≤4611686018427387904 by omega)]
   rfl
  rw[List.drop_eq_getElem_cons hi]
  unfold xj at ih ⊢
  rcases hr _ (List.getElem_mem hi) with hc|⟨hB,hc⟩
  ·rw[hc,Option.bind_some] at hb
   unfold J.vdL
   by_cases hv:j.elems[i].vd=0
   ·rw[if_neg (by simpa using hv)] at hb
    rw[wz hb,if_neg (by simpa using hv)]
    exact ih
   ·left
    rw[if_pos (by simpa using hv)] at hb
    rw[xe (x:=some (j.elems[i].vd)) hb,if_pos hv]
  ·right
   rw[hc] at hb
   exact⟨hB,X3 hb⟩
theorem zmc{j:J}{rec0:GJ→Option Int}{B:Prop}(hj:j.ok)(hr:∀e∈j.elems,rec0 e.val=some e.vd∨(B∧rec0 e.val=none)) :
 qz rec0 none j.val=some j.vd∨(B∧qz rec0 none j.val=none):=by
 unfold qz
 rw[zoq,show j.val.fK=j.kind from rfl]
 by_cases c:j.kind<0∨j.kind > 5
 ·left
  rw[if_pos (by simp only[Bool.or_eq_true,decide_eq_true_eq];omega),if_pos c]
 rw[if_neg (by simp only[Bool.or_eq_true,decide_eq_true_eq];omega),if_neg c,y31 hj (by omega),Option.bind_some]
 cases hw:j.wf with
 |false=>left;rw[if_pos (by rfl),if_neg (by simp)]
 |true=>
  rw[if_neg (by simp),if_pos rfl]
  exact zch hj hr j.elems.length 0 (by omega)
theorem zsp:∀ (k:Nat) (j:J),j.ok→xx none k j.val=some j.vd∨(k<j.sz∧xx none k j.val=none)
 |0,j,hj=>.inr ⟨z15 j,rfl⟩
 |k+1,j,hj=>by
  unfold xx
  exact zmc hj fun e he=>by
   rcases zsp k e (hj.elem he) with h|⟨h1,h2⟩
   ·exact .inl h
   ·exact .inr ⟨by have:=zfl he;omega,h2⟩
theorem zz2{j:J}(hj:j.ok):kr none j.val=some j.vd:=Wm (d:=j.sz) fun k=>zsp k j hj
theorem y2o{j:J}(hj:j.ok):Zh none j.val=some j.vd:=by
 rcases zmc (B:=False) hj (fun e he=>.inl (zz2 (hj.elem he))) with h|⟨h,_⟩
 ·exact h
 ·exact h.elim
def J.chk(j:J):Int:=if j.nodes≤400∧j.depth≤20 then j.vd else 2
theorem z0t{j:J}(hj:j.ok):ju none j.val=some j.chk:=by
 obtain⟨h1,_⟩:=zby j 1 0 (by omega)
 unfold ju J.chk
 rw[y0x hj,Option.bind_some]
 by_cases c:j.nodes≤400∧j.depth≤20
 ·have:(j.lim 1 0).1=true:=h1.2 (by omega)
  rw[if_neg (by rw[this];simp),if_pos c,y2o hj]
  rfl
 ·have:(j.lim 1 0).1=false:=by
   cases hv:(j.lim 1 0).1 with
   |false=>rfl
   |true=>have:=h1.1 hv;omega
  rw[if_pos (by rw[this];rfl),if_neg c]
theorem za8{j:J}{rec0:GJ→Option (Int×Int)}{B:Prop}(hj:j.ok)(hr:∀e∈j.elems,rec0 e.val=some ((e.nodes:Int),(e.depth:Int))∨(B∧rec0 e.val=none)) :
 ∀ (k i a c:Nat),i+k=j.elems.length→a+J.nodesL (j.elems.drop i)≤4611686018427387904→c≤1073741824→J.depthL (j.elems.drop i)≤1073741824 →
  qo rec0 none j.val (a:Int) (c:Int) (i:Int)=some (((a+J.nodesL (j.elems.drop i):Nat):Int),((max c (J.depthL (j.elems.drop i))+1:Nat):Int))∨(B∧qo rec0 none j.val (a:Int) (c:Int) (i:Int)=none)
 |0,i,a,c,h,ha,hc,hd=>by
  left
  have:i=j.elems.length:=by omega
  subst this
  unfold qo
  rw[xe (x:=some ((a:Int),((c+1:Nat):Int))),List.drop_length]
  ·simp[J.nodesL,J.depthL]
  ·unfold yk jm
   rw[if_neg (by rw[vj];simp),Wi (by omega)]
 |k+1,i,a,c,h,ha,hcc,hd=>by
  have hi:i<j.elems.length:=by omega
  have hl:=hj.len
  have ih:=za8 hj hr k (i+1)
  have hb:yk rec0 none j.val (a:Int) (c:Int) (i:Int)=(rec0 (j.elems[i]).val).bind fun v9=>some (.inl (W ((a:Int)+v9.1),(if v9.2 > (c:Int) then v9.2 else(c:Int)),((i+1:Nat):Int))):=by
   unfold yk
   rw[vj,if_pos (by simpa using hi),if_pos (by omega)]
   simp only[Int.toNat_natCast,zzc hi,Option.bind_some,Wi (show i≤4611686018427387904 by omega)]
  rw[List.drop_eq_getElem_cons hi] at ha hd ⊢
  unfold J.nodesL at ha ⊢
  unfold J.depthL at hd ⊢
  unfold qo at ih ⊢
  rcases hr _ (List.getElem_mem hi) with hc|⟨hB,hc⟩
  ·rw[hc,Option.bind_some] at hb
   have e1:W ((a:Int)+(j.elems[i].nodes:Int))=((a+j.elems[i].nodes:Nat):Int):=by rw[zsr (by unfold inR;omega)];omega
   have e2:(if(j.elems[i].depth:Int) > (c:Int) then(j.elems[i].depth:Int) else(c:Int))=((max c j.elems[i].depth:Nat):Int):=by
    by_cases hx:(j.elems[i].depth:Int) > (c:Int)
    ·rw[if_pos hx];omega
    ·rw[if_neg hx];omega
   simp only[e1,e2] at hb
   rw[wz hb]
   have:=ih (a+j.elems[i].nodes) (max c j.elems[i].depth) (by omega) (by omega) (by omega) (by omega)
   rw[Nat.add_assoc,Nat.max_assoc] at this
   exact this
  ·right
   rw[hc] at hb
   exact⟨hB,X3 hb⟩
theorem z84{j:J}{rec0:GJ→Option (Int×Int)}{B:Prop}(hj:j.ok)(hr:∀e∈j.elems,rec0 e.val=some ((e.nodes:Int),(e.depth:Int))∨(B∧rec0 e.val=none)) :
 qh rec0 none j.val=some ((j.nodes:Int),(j.depth:Int))∨(B∧qh rec0 none j.val=none):=by
 have h1:=ze3 j
 have h2:=z2h j
 have hk:j.sz≤1073741824:=hj
 have e1:j.nodes=1+J.nodesL j.elems:=by cases j;rw[J.nodes.eq_1];rfl
 have e2:j.depth=1+J.depthL j.elems:=by cases j;rw[J.depth.eq_1];rfl
 have:=za8 hj hr j.elems.length 0 1 0 (by omega) (by rw[List.drop_zero];omega) (by omega) (by rw[List.drop_zero];omega)
 rw[List.drop_zero] at this
 rw[e1,e2,Nat.add_comm 1 (J.depthL j.elems)]
 rw[Nat.max_eq_right (Nat.zero_le _)] at this
 exact this
theorem zdj:∀ (k:Nat) (j:J),j.ok→qt none k j.val=some ((j.nodes:Int),(j.depth:Int))∨(k<j.sz∧qt none k j.val=none)
 |0,j,hj=>.inr ⟨z15 j,rfl⟩
 |k+1,j,hj=>by
  unfold qt
  exact z84 hj fun e he=>by
   rcases zdj k e (hj.elem he) with h|⟨h1,h2⟩
   ·exact .inl h
   ·exact .inr ⟨by have:=zfl he;omega,h2⟩
theorem zwn{j:J}(hj:j.ok):u1 none j.val=some ((j.nodes:Int),(j.depth:Int)):=by
 rcases z84 (rec0:=wu none) (B:=False) hj (fun e he=>.inl (Wm (d:=e.sz) fun k=>zdj k e (hj.elem he))) with h|⟨h,_⟩
 ·exact h
 ·exact h.elim
theorem zyu(k n:Int):(((n==0) || ((k==1)&&(n==1))) || (((k==2)&&(decide ((W (0-9007199254740991))≤n)))&&(decide (n≤9007199254740991))))=z03 k n:=by
 have e:W (0-9007199254740991)=-9007199254740991:=zsr (by unfold inR;omega)
 rw[e]
 unfold z03
 rw[Bool.eq_iff_iff]
 simp only[Bool.or_eq_true,Bool.and_eq_true,decide_eq_true_eq,beq_iff_eq]
 omega
theorem z3t{j:J}{rec0:GJ→Option Int}(hj:j.ok):∀ (k i:Nat) (v:Bool),i+k=j.names.length →
 qy rec0 none j.val v (i:Int)=yq rec0 none j.val (v&&(j.names.drop i).all Lib.validD)
 |0,i,v,h=>by
  have:i=j.names.length:=by omega
  subst this
  unfold qy
  rw[List.drop_length,List.all_nil,Bool.and_true,xe]
  unfold y9
  rw[show j.val.fA=j.names from rfl,List.length_map,if_neg (by simp)]
 |k+1,i,v,h=>by
  have hi:i<j.names.length:=by omega
  have hl:=hj.len
  have ih:=z3t (rec0:=rec0) hj k (i+1) (v&&Lib.validD j.names[i]) (by omega)
  have hb:y9 rec0 none j.val v (i:Int)=some (.inl ((v&&Lib.validD j.names[i]),((i+1:Nat):Int))):=by
   unfold y9
   rw[show j.val.fA=j.names from rfl,List.length_map,if_pos (by simpa using hi),if_pos (by omega)]
   simp only[Int.toNat_natCast,z2q hi,Wi (show i≤4611686018427387904 by omega)]
   rw[z50 (by have:=hl.2.2.2 _ (List.getElem_mem hi);omega)]
   cases v<;>rfl
  rw[List.drop_eq_getElem_cons hi,List.all_cons,←Bool.and_assoc]
  unfold qy at ih ⊢
  rw[wz hb]
  exact ih
theorem zd1{j:J}{rec0:GJ→Option Int}{B:Prop}(hj:j.ok)(hr:∀e∈j.elems,rec0 e.val=some e.vd∨(B∧rec0 e.val=none)) :
 y8 rec0 none j.val=some j.vd∨(B∧y8 rec0 none j.val=none):=by
 obtain⟨hl1,hl2,hl3,hl4⟩:=hj.len
 have hend:∀v:Bool,(v&&j.names.all Lib.validD)=j.wf→¬(j.kind<0∨j.kind > 5) →
  (yf rec0 none j.val v=some j.vd∨(B∧yf rec0 none j.val v=none)):=by
  intro v hv hk
  have h1:=z3t (rec0:=rec0) hj j.names.length 0 v (by omega)
  rw[List.drop_zero,hv] at h1
  have h2:yf rec0 none j.val v=yq rec0 none j.val j.wf:=h1
  rw[h2,zoq,if_neg hk]
  unfold yq
  cases hw:j.wf with
  |false=>left;rw[if_pos (by rfl),if_neg (by simp)]
  |true=>
   rw[if_neg (by simp),if_pos rfl]
   exact zch hj hr j.elems.length 0 (by omega)
 unfold y8
 rw[vj,show j.val.fK=j.kind from rfl,show j.val.fN=j.num from rfl,show j.val.fT=j.text from rfl,show j.val.fA=j.names from rfl,List.length_map,zyu]
 by_cases c:j.kind<0∨j.kind > 5
 ·left
  rw[if_pos (by simp only[Bool.or_eq_true,decide_eq_true_eq];omega),zoq,if_pos c]
 rw[if_neg (by simp only[Bool.or_eq_true,decide_eq_true_eq];omega)]
 have hv:∃v1,(if((((z03 j.kind j.num)==true)&&((j.text==([]:List UInt8))==false))&&((j.kind==3)==true))=true then qk none j.text else some default)=some v1 ∧
  (z03 j.kind j.num&&((j.text==([]:List UInt8)) || ((j.kind==3)&&v1)))=(z03 j.kind j.num&&(decide (j.text=[]) || (decide (j.kind=3)&&Lib.validD j.text))):=by
  rw[z50 (by omega)]
  cases z03 j.kind j.num with
  |false=>exact⟨default,by simp,rfl⟩
  |true=>
   by_cases ht:j.text=[]
   ·exact⟨default,by simp[ht],by simp[ht]⟩
   ·by_cases h3:j.kind=3
    ·exact⟨_,by rw[if_pos (by simp[ht,h3])],by simp[ht,h3]⟩
    ·exact⟨default,by rw[if_neg (by simp[h3])],by simp[ht,h3]⟩
 obtain⟨v1,hv1,hv2⟩:=hv
 rw[hv1,Option.bind_some,hv2]
 have e3:((((j.elems.length:Nat):Int)==0) || decide (j.kind≥4))=decide (j.elems.length=0∨j.kind≥4):=by
  rw[Bool.eq_iff_iff];simp only[Bool.or_eq_true,decide_eq_true_eq,beq_iff_eq];omega
 rw[e3]
 by_cases c5:j.kind=5
 ·rw[if_pos (by simpa using c5)]
  have e4:(((j.names.length:Nat):Int)==((j.elems.length:Nat):Int))=decide (j.names.length=j.elems.length):=by
   rw[Bool.eq_iff_iff];simp only[decide_eq_true_eq,beq_iff_eq];omega
  rw[e4,y0d (by omega)]
  generalize hA:(((z03 j.kind j.num&&(decide (j.text=[]) || (decide (j.kind=3)&&Lib.validD j.text)))&&decide (j.elems.length=0∨j.kind≥4))&&decide (j.names.length=j.elems.length))=A
  have hwf:j.wf=(A&&!zpe [] j.names&&j.names.all Lib.validD):=by
   rw[←hA]
   unfold J.wf wfB
   rw[if_pos c5]
   simp only[Bool.and_assoc]
  cases A with
  |false=>
   rw[if_neg (by simp),Option.bind_some]
   exact hend _ (by rw[hwf];rfl) c
  |true=>
   rw[if_pos (by rfl),Option.bind_some]
   exact hend _ (by rw[hwf]) c
 ·rw[if_neg (by simpa using c5)]
  have e4:(((j.names.length:Nat):Int)==0)=decide (j.names.length=0):=by
   rw[Bool.eq_iff_iff];simp only[decide_eq_true_eq,beq_iff_eq];omega
  rw[e4]
  refine hend _ ?_ c
  unfold J.wf wfB
  rw[if_neg c5]
theorem zm0:∀ (k:Nat) (j:J),j.ok→q8 none k j.val=some j.vd∨(k<j.sz∧q8 none k j.val=none)
 |0,j,hj=>.inr ⟨z15 j,rfl⟩
 |k+1,j,hj=>by
  unfold q8
  exact zd1 hj fun e he=>by
   rcases zm0 k e (hj.elem he) with h|⟨h1,h2⟩
   ·exact .inl h
   ·exact .inr ⟨by have:=zfl he;omega,h2⟩
theorem y0v{j:J}(hj:j.ok):ko none j.val=some j.vd:=by
 rcases zd1 (rec0:=wk none) (B:=False) hj (fun e he=>.inl (Wm (d:=e.sz) fun k=>zm0 k e (hj.elem he))) with h|⟨h,_⟩
 ·exact h
 ·exact h.elim
theorem Uj{j:J}(hj:j.ok):ql none j.val=some j.chk:=by
 unfold ql J.chk
 rw[zwn hj,Option.bind_some]
 by_cases c:j.nodes≤400∧j.depth≤20
 ·rw[if_neg (by simp only[Bool.or_eq_true,decide_eq_true_eq];omega),if_pos c,y0v hj];rfl
 ·rw[if_pos (by simp only[Bool.or_eq_true,decide_eq_true_eq];omega),if_neg c]
theorem zmp{ns:List (List UInt8)}(h:ns.length≤1073741824):ud none ns=some ns:=by
 cases ns with
 |nil=>rfl
 |cons x r=>
  show w7 none (x::r)=_
  unfold w7
  rw[List.nil_append,if_pos (by simp),if_pos (by rw[List.length_map];omega)]
theorem z4j{j:J}{rec0:GJ→Option GJ}{B:Prop}(hj:j.ok)(hr:∀e∈j.elems,rec0 e.val=some e.val∨(B∧rec0 e.val=none)) :
 ∀ (k i:Nat),i+k=j.elems.length →
  jp rec0 none j.val j.names (i:Int) ((j.elems.take i).map J.raw)=some j.val∨(B∧jp rec0 none j.val j.names (i:Int) ((j.elems.take i).map J.raw)=none)
 |0,i,h=>by
  left
  have:i=j.elems.length:=by omega
  subst this
  unfold jp
  rw[xe (x:=some j.val)]
  unfold xk vn
  rw[vj,if_neg (by simp),List.take_length]
  rfl
 |k+1,i,h=>by
  have hi:i<j.elems.length:=by omega
  have hl:=hj.len
  have ih:=z4j hj hr k (i+1) (by omega)
  have ht:(j.elems.take (i+1)).map J.raw=(j.elems.take i).map J.raw++[(j.elems[i]).raw]:=by rw[List.take_succ_eq_append_getElem hi,List.map_append];rfl
  have hlen:((j.elems.take i).map J.raw++[(j.elems[i]).raw]).length=i+1:=by
   rw[←ht,List.length_map,List.length_take];omega
  have hb:xk rec0 none j.val j.names (i:Int) ((j.elems.take i).map J.raw)=(rec0 (j.elems[i]).val).bind fun v9=>if((((j.elems.take i).map J.raw)++([z6 v9]:List (List AVal))).map ze).length*80≤140737488355328 then some (.inl (((i+1:Nat):Int),((j.elems.take i).map J.raw)++([z6 v9]:List (List AVal)))) else none:=by
   unfold xk
   rw[vj,if_pos (by simpa using hi),if_pos (by omega)]
   simp only[Int.toNat_natCast,zzc hi,Option.bind_some,Wi (show i≤4611686018427387904 by omega)]
  unfold jp at ih ⊢
  rcases hr _ (List.getElem_mem hi) with hc|⟨hB,hc⟩
  ·rw[hc,Option.bind_some,←Wu,if_pos (by rw[List.length_map,hlen];omega),←ht] at hb
   rw[wz hb]
   exact ih
  ·right
   rw[hc] at hb
   exact⟨hB,X3 hb⟩
theorem z3r{j:J}{rec0:GJ→Option GJ}{B:Prop}(hj:j.ok)(hr:∀e∈j.elems,rec0 e.val=some e.val∨(B∧rec0 e.val=none)) :
 xy rec0 none j.val=some j.val∨(B∧xy rec0 none j.val=none):=by
 unfold xy
 rw[show j.val.fA=j.names from rfl,zmp hj.len.2.2.1,Option.bind_some]
 exact z4j hj hr j.elems.length 0 (by omega)
theorem z1k:∀ (k:Nat) (j:J),j.ok→jv none k j.val=some j.val∨(k<j.sz∧jv none k j.val=none)
 |0,j,hj=>.inr ⟨z15 j,rfl⟩
 |k+1,j,hj=>by
  unfold jv
  exact z3r hj fun e he=>by
   rcases z1k k e (hj.elem he) with h|⟨h1,h2⟩
   ·exact .inl h
   ·exact .inr ⟨by have:=zfl he;omega,h2⟩
theorem zpm{j:J}(hj:j.ok):Yk none j.val=some j.val:=by
 rcases z3r (rec0:=wl none) (B:=False) hj (fun e he=>.inl (Wm (d:=e.sz) fun k=>z1k k e (hj.elem he))) with h|⟨h,_⟩
 ·exact h
 ·exact h.elim
theorem U6{a:List (List UInt8)}(hl:a.length≤4611686018427387904):∀ (k i:Nat),i+k=a.length→xf none a a (i:Int)=some true
 |0,i,h=>by
  unfold xf
  rw[xe (x:=some true)]
  unfold yl
  rw[if_neg (by simp;omega)]
  rfl
 |k+1,i,h=>by
  have hi:i<a.length:=by omega
  have ih:=U6 hl k (i+1) (by omega)
  have hb:yl none a a (i:Int)=some (.inl ((i+1:Nat):Int)):=by
   unfold yl
   rw[if_pos (by simpa using hi),if_pos (by simpa using hi),if_pos (by simpa using hi),if_neg (by simp),Wi (by omega)]
  unfold xf at ih ⊢
  rw[wz hb]
  exact ih
theorem zgh{a:List (List UInt8)}(hl:a.length≤4611686018427387904):yj none a a=some true:=by
 unfold yj
 rw[if_neg (by simp)]
 exact U6 hl a.length 0 (by omega)
theorem zot{a:List (List UInt8)}:yj none a []=some (decide (a.length=0)):=by
 unfold yj
 by_cases h:a.length=0
 ·have:a=[]:=List.eq_nil_of_length_eq_zero h
  subst this
  rw[if_neg (by simp)]
  exact U6 (a:=[]) (by simp) 0 0 rfl
 ·rw[if_pos (by simp;exact fun hh=>h (by rw[hh];rfl))]
  simp[h]
theorem zl2{j:J}{rec0:GJ→GJ→Option Bool}{B:Prop}(hj:j.ok)(hr:∀e∈j.elems,rec0 e.val e.val=some true∨(B∧rec0 e.val e.val=none)) :
 ∀ (k i:Nat),i+k=j.elems.length →
  zr rec0 none j.val j.val true (i:Int)=some true∨(B∧zr rec0 none j.val j.val true (i:Int)=none)
 |0,i,h=>by
  left
  have:i=j.elems.length:=by omega
  subst this
  unfold zr
  rw[xe (x:=some true)]
  unfold zq q7
  rw[vj,if_neg (by simp)]
  first|rfl|done
 |k+1,i,h=>by
  have hi:i<j.elems.length:=by omega
  have hl:=hj.len
  have ih:=zl2 hj hr k (i+1) (by omega)
  have hb:zq rec0 none j.val j.val true (i:Int)=(rec0 (j.elems[i]).val (j.elems[i]).val).bind fun v12=>some (.inl (v12,((i+1:Nat):Int))):=by
   unfold zq
   rw[vj,if_pos (by simpa using hi),if_pos (by omega)]
   simp only[Int.toNat_natCast,zzc hi,Option.bind_some,Wi (show i≤4611686018427387904 by omega)]
   rw[if_pos (by omega)]
  unfold zr at ih ⊢
  rcases hr _ (List.getElem_mem hi) with hc|⟨hB,hc⟩
  ·rw[hc,Option.bind_some] at hb
   rw[wz hb]
   exact ih
  ·right
   rw[hc] at hb
   exact⟨hB,X3 hb⟩
theorem zw5{j:J}{rec0:GJ→GJ→Option Bool}{B:Prop}(hj:j.ok)(hr:∀e∈j.elems,rec0 e.val e.val=some true∨(B∧rec0 e.val e.val=none)) :
 zp rec0 none j.val j.val=some true∨(B∧zp rec0 none j.val j.val=none):=by
 unfold zp
 rw[if_pos (by simp),show j.val.fA=j.names from rfl,zgh (by have:=hj.len.2.2.1;omega),Option.bind_some]
 have e:((((((j.val.fK==j.val.fK)&&(j.val.fN==j.val.fN))&&(j.val.fT==j.val.fT))&&true)&&(((j.val.fE.map ze).length:Int)==((j.val.fE.map ze).length:Int))))=true:=by simp
 rw[e]
 exact zl2 hj hr j.elems.length 0 (by omega)
theorem zt5:∀ (k:Nat) (j:J),j.ok→yh none k j.val j.val=some true∨(k<j.sz∧yh none k j.val j.val=none)
 |0,j,hj=>.inr ⟨z15 j,rfl⟩
 |k+1,j,hj=>by
  unfold yh
  exact zw5 hj fun e he=>by
   rcases zt5 k e (hj.elem he) with h|⟨h1,h2⟩
   ·exact .inl h
   ·exact .inr ⟨by have:=zfl he;omega,h2⟩
theorem y2m{j:J}(hj:j.ok):yi none j.val j.val=some true:=Wm (d:=j.sz) fun k=>zt5 k j hj
def nullJ:J:=.mk 0 0 [] [] []
theorem zfd:nullJ.ok:=by unfold J.ok nullJ;rw[J.sz.eq_1];simp[nsz,J.szL]
def U7(j:J):Bool:=decide (j.kind=0∧j.num=0∧j.text=[]∧j.names.length=0∧j.elems.length=0)
theorem zhh{j:J}(hj:j.ok):va none j.val=some (U7 j):=by
 have hl:=hj.len
 unfold va U7
 rw[vj,show j.val.fK=j.kind from rfl,show j.val.fN=j.num from rfl,show j.val.fT=j.text from rfl,show j.val.fA=j.names from rfl,List.length_map,zsr (by unfold inR;omega)]
 congr 1
 rw[Bool.eq_iff_iff]
 simp only[Bool.and_eq_true,decide_eq_true_eq,beq_iff_eq]
 constructor
 ·rintro⟨⟨⟨h1,h2⟩,h3⟩,h4⟩;exact⟨h1,h2,h3,by omega,by omega⟩
 ·rintro⟨h1,h2,h3,h4,h5⟩;exact⟨⟨⟨h1,h2⟩,h3⟩,by omega⟩
theorem zqb{j:J}(hj:j.ok):qj none j.val=some (U7 j):=by
 have hl:=hj.len
 have hlp:∀ (b:J) (v:Bool),(v=true→j.elems.length=0)→zr (yi none) none j.val b.val v 0=some v:=fun b v hv=>by
  unfold zr
  rw[xe (x:=some v)]
  unfold zq q7
  rw[vj,if_neg]
  simp only[Bool.and_eq_true,decide_eq_true_eq]
  rintro⟨h1,h2⟩
  have:=hv h1
  omega
 unfold qj ve zp
 rw[show(GJ.mk 0 0 ([]:List UInt8) ([]:List (List UInt8)) ([]:List (List AVal)))=nullJ.val from rfl]
 rw[vj,vj,show j.val.fK=j.kind from rfl,show j.val.fN=j.num from rfl,show j.val.fT=j.text from rfl,show j.val.fA=j.names from rfl]
 rw[show nullJ.val.fK=0 from rfl,show nullJ.val.fN=0 from rfl,show nullJ.val.fT=[] from rfl,show nullJ.val.fA=[] from rfl,show nullJ.elems.length=0 from rfl,zot]
 by_cases c:j.kind=0∧j.num=0∧j.text=[]
 ·rw[if_pos (by simp[c.1,c.2.1,c.2.2]),Option.bind_some,hlp nullJ _ (fun h=>by simp only[Bool.and_eq_true,beq_iff_eq] at h;omega)]
  simp only[Option.bind_some]
  congr 1
  unfold U7
  rw[Bool.eq_iff_iff]
  simp only[Bool.and_eq_true,decide_eq_true_eq,beq_iff_eq]
  constructor
  ·rintro⟨⟨⟨⟨h1,h2⟩,h3⟩,h4⟩,h5⟩;exact⟨h1,h2,h3,h4,by omega⟩
  ·rintro⟨h1,h2,h3,h4,h5⟩;exact⟨⟨⟨⟨h1,h2⟩,h3⟩,h4⟩,by omega⟩
 ·have hc:(((j.kind==0)&&(j.num==0))&&(j.text==([]:List UInt8)))=false:=by
   cases hx:(((j.kind==0)&&(j.num==0))&&(j.text==([]:List UInt8))) with
   |false=>rfl
   |true=>
    simp only[Bool.and_eq_true,beq_iff_eq] at hx
    exact absurd ⟨hx.1.1,hx.1.2,hx.2⟩ c
  rw[hc,if_neg (by simp),Option.bind_some,hlp nullJ _ (fun h=>by simp at h)]
  simp only[Option.bind_some,Bool.false_and]
  congr 1
  unfold U7
  rw[eq_comm,decide_eq_false_iff_not]
  exact fun h=>c ⟨h.1,h.2.1,h.2.2.1⟩
def vt(m:List UInt8)(a:Int):Bool:=((decide ((m.length:Int)≥a))&&(decide ((m.length:Int)≤60)))&&Lib.validD m
theorem z9o(m:List UInt8)(a:Int):jg none m a=some (vt m a):=by
 unfold jg vt
 cases hc:((decide ((m.length:Int)≥a))&&(decide ((m.length:Int)≤60))) with
 |false=>rfl
 |true=>
  have:m.length≤60:=by simp only[Bool.and_eq_true,decide_eq_true_eq] at hc;omega
  rw[if_pos (by rfl),zaq (by omega)]
  rfl
theorem z88(m:List UInt8)(a:Int):qm none m a=some (vt m a):=by
 unfold qm vt
 cases hc:((decide ((m.length:Int)≥a))&&(decide ((m.length:Int)≤60))) with
 |false=>rfl
 |true=>
  have:m.length≤60:=by simp only[Bool.and_eq_true,decide_eq_true_eq] at hc;omega
  rw[if_pos (by rfl),z50 (by omega)]
  rfl
def z5u:List UInt8:=[36,47,99,97,110,99,101,108]
def idB(k id:Int):Bool:=if k=2 then decide (id=0) else decide (0≤id∧id≤2147483647)
def zps(k c:Int):Bool:=if k=4 then decide (1≤c∧c≤99) else decide (c=0)
def zcv(k:Int)(m:List UInt8):Bool:=if k=1 then vt m 1 else if k=2 then vt m 1&&!(m==z5u) else if k=4 then vt m 0 else(m==[])
def wfM(k id c:Int)(m:List UInt8)(b:J):Bool:=idB k id&&zps k c&&(!(decide (k=4∨k=5)) || U7 b)&&zcv k m
theorem zhn(k id c:Int)(m:List UInt8)(b:GJ):jh none ⟨k,id,c,m,b⟩=some (zcv k m):=by
 unfold jh zcv
 simp only[z9o,Option.bind_some,beq_iff_eq]
 by_cases c1:k=1
 ·rw[if_pos c1,if_pos c1]
 rw[if_neg c1,if_neg c1]
 by_cases c2:k=2
 ·rw[if_pos c2,if_pos c2];rfl
 rw[if_neg c2,if_neg c2]
 by_cases c4:k=4
 ·rw[if_pos c4,if_pos c4]
 rw[if_neg c4,if_neg c4]
theorem y0n{k id c:Int}{m:List UInt8}{b:J}(hb:b.ok)(v:Bool):jq none ⟨k,id,c,m,b.val⟩ v=some (!v&&(!(decide (k=4∨k=5)) || U7 b)&&zcv k m):=by
 unfold jq
 have e1:va none (GJ.mk b.val.fK b.val.fN b.val.fT b.val.fA b.val.fE)=some (U7 b):=zhh hb
 have e2:jh none (GM.mk k id c m (GJ.mk b.val.fK b.val.fN b.val.fT b.val.fA b.val.fE))=some (zcv k m):=zhn ..
 simp only[e1,e2,Option.bind_some]
 cases v with
 |true=>rw[if_pos rfl];rfl
 |false=>
  rw[if_neg (by simp)]
  by_cases ck:k=4∨k=5
  ·have h1:((k != 4)&&(k != 5))=false:=by rcases ck with rfl|rfl<;>rfl
   rw[h1,if_pos (by rfl),Option.bind_some,decide_eq_true ck]
   cases U7 b with
   |true=>rw[if_neg (by simp)];simp
   |false=>rw[if_pos (by rfl)];rfl
  ·have h1:((k != 4)&&(k != 5))=true:=by simp;omega
   rw[h1,if_neg (by simp),Option.bind_some,if_neg (by simp),decide_eq_false ck]
   simp
theorem zym{k id c:Int}{m:List UInt8}{b:J}(hb:b.ok):jt none ⟨k,id,c,m,b.val⟩=some (wfM k id c m b):=by
 have hj1:∀v:Bool,jn none ⟨k,id,c,m,b.val⟩ v=some (!v&&zps k c&&(!(decide (k=4∨k=5)) || U7 b)&&zcv k m):=by
  intro v
  unfold jn
  simp only[y0n hb]
  cases v with
  |true=>rw[if_pos rfl];rfl
  |false=>
   rw[if_neg (by simp)]
   unfold zps
   by_cases c4:k=4
   ·rw[if_pos c4]
    by_cases cc:1≤c∧c≤99
    ·have:((decide (c<1)) || (decide (c > 99)))=false:=by simp;omega
     rw[this,if_neg (by simp),decide_eq_true cc];simp[c4]
    ·have:((decide (c<1)) || (decide (c > 99)))=true:=by simp only[Bool.or_eq_true,decide_eq_true_eq];omega
     rw[this,if_pos (by simp[c4]),decide_eq_false cc];simp[c4]
   ·rw[if_neg c4,if_neg (by simp[c4])]
    by_cases cc:c=0
    ·simp[cc]
    ·simp[cc,c4]
 unfold jt
 simp only[hj1]
 unfold wfM idB
 by_cases c2:k=2
 ·rw[if_pos c2,if_neg (by simp[c2])]
  by_cases ci:id=0
  ·simp[ci]
  ·simp[ci,c2]
 ·have hk2:(k != 2)=true:=by simpa using c2
  rw[if_neg c2]
  by_cases ci:0≤id∧id≤2147483647
  ·have:((decide (id<0)) || (decide (id > 2147483647)))=false:=by simp;omega
   rw[this,if_neg (by simp),decide_eq_true ci,hk2];rfl
  ·have:((decide (id<0)) || (decide (id > 2147483647)))=true:=by simp only[Bool.or_eq_true,decide_eq_true_eq];omega
   rw[this,if_pos (by simp[c2]),decide_eq_false ci,hk2];rfl
theorem zzb{k id c:Int}{m:List UInt8}{b:J}(hb:b.ok)(hk:¬(k<1∨k > 5)):qa none ⟨k,id,c,m,b.val⟩=some (wfM k id c m b):=by
 have e1:qj none (GJ.mk b.val.fK b.val.fN b.val.fT b.val.fA b.val.fE)=some (U7 b):=zqb hb
 have hid:((decide (id≥0))&&(decide (id≤2147483647)))=decide (0≤id∧id≤2147483647):=by rw[Bool.eq_iff_iff];simp
 have hc0:(c==0)=decide (c=0):=by rw[Bool.eq_iff_iff];simp
 have hi0:(id==0)=decide (id=0):=by rw[Bool.eq_iff_iff];simp
 unfold qa wfM idB zps zcv
 simp only[e1,z88,hid,hc0,hi0]
 have hk':k=1∨k=2∨k=3∨k=4∨k=5:=by omega
 rcases hk' with rfl|rfl|rfl|rfl|rfl
 ·cases decide (0≤id∧id≤2147483647)<;>cases decide (c=0)<;>simp
 ·cases decide (id=0)<;>cases decide (c=0)<;>simp[z5u]
 ·cases decide (0≤id∧id≤2147483647)<;>cases decide (c=0)<;>simp
 ·have hcc:∀x:Bool,(x&&decide (c≥1)&&decide (c≤99))=(x&&decide (1≤c∧c≤99)):=fun x=>by rw[Bool.eq_iff_iff];simp[and_assoc]
  simp only[hcc]
  cases decide (0≤id∧id≤2147483647)<;>cases decide (1≤c∧c≤99)<;>cases vt m 0<;>cases U7 b<;>simp
 ·cases decide (0≤id∧id≤2147483647)<;>cases decide (c=0)<;>cases(m==[])<;>cases U7 b<;>simp
def zah(n:Int):J:=.mk 2 n [] [] []
def zh3(t:List UInt8):J:=.mk 3 0 t [] []
def z9a(ns:List (List UInt8))(es:List J):J:=.mk 5 0 [] ns es
def idT:List UInt8:=[105,100]
def z5k:List UInt8:=[109,101,116,104,111,100]
def z5c:List UInt8:=[112,97,114,97,109,115]
def zny:List UInt8:=[114,101,115,117,108,116]
def zsz:List UInt8:=[101,114,114,111,114]
def y0l:List UInt8:=[99,111,100,101]
def zec:List UInt8:=[109,101,115,115,97,103,101]
def z30(k id c:Int)(m:List UInt8)(b:J):J:=
 if k=1 then z9a [idT,z5k,z5c] [zah id,zh3 m,b]
 else if k=2 then z9a [z5k,z5c] [zh3 m,b]
 else if k=3 then z9a [idT,zny] [zah id,b]
 else if k=4 then z9a [idT,zsz] [zah id,z9a [y0l,zec] [zah c,zh3 m]]
 else z9a [z5k,z5c] [zh3 z5u,z9a [idT] [zah id]]
theorem zmt(k id c:Int)(m:List UInt8)(b:J):(z30 k id c m b).sz≤b.sz+m.length+200:=by
 unfold z30
 repeat' split
 all_goals
  simp only[z9a,zah,zh3,J.sz,J.szL,nsz,idT,z5k,z5c,zny,zsz,y0l,zec,z5u,List.length_cons,List.length_nil]
  omega
theorem zc7{k id c:Int}{m:List UInt8}{b:J}(hb:b.ok):wc none ⟨k,id,c,m,b.val⟩=some (z30 k id c m b).val:=by
 have e1:wl none (GJ.mk b.val.fK b.val.fN b.val.fT b.val.fA b.val.fE)=some b.val:=Wm (d:=b.sz) fun k=>z1k k b hb
 have en:∀n,w4 none n=some (zah n).val:=fun n=>rfl
 have et:∀t,vz none t=some (zh3 t).val:=fun t=>rfl
 have eo:∀ns es,xt none ns (es.map J.raw)=some (z9a ns es).val:=fun ns es=>rfl
 unfold wc z30
 simp only[e1,en,et,Option.bind_some,←Wu,beq_iff_eq]
 by_cases c1:k=1
 ·rw[if_pos c1,if_pos c1,show [(zah id).raw,(zh3 m).raw,b.raw]=[zah id,zh3 m,b].map J.raw from rfl,eo];rfl
 rw[if_neg c1,if_neg c1]
 by_cases c2:k=2
 ·rw[if_pos c2,if_pos c2,show [(zh3 m).raw,b.raw]=[zh3 m,b].map J.raw from rfl,eo];rfl
 rw[if_neg c2,if_neg c2]
 by_cases c3:k=3
 ·rw[if_pos c3,if_pos c3,show [(zah id).raw,b.raw]=[zah id,b].map J.raw from rfl,eo];rfl
 rw[if_neg c3,if_neg c3]
 by_cases c4:k=4
 ·rw[if_pos c4,if_pos c4,show [(zah c).raw,(zh3 m).raw]=[zah c,zh3 m].map J.raw from rfl,eo,Option.bind_some,←Wu]
  rfl
 rw[if_neg c4,if_neg c4,show [(zah id).raw]=[zah id].map J.raw from rfl,eo,Option.bind_some,←Wu]
 rfl
theorem z7y(n:List UInt8)(x:J)(k u:Int)(t:List UInt8)(ns:List (List UInt8))(es:List J)(h1:ns.length≤1000)(h2:es.length≤1000) :
 zd none n x.val (J.mk k u t ns es).val=some (z9a (n::ns) (x::es)).val:=by
 unfold zd
 rw[show(J.mk k u t ns es).val.fA=ns from rfl,show(J.mk k u t ns es).val.fE=es.map J.raw from rfl,←Wu]
 rw[if_pos (by simp only[List.length_map,List.length_append,List.length_cons,List.length_nil];omega),if_pos (by simp only[List.length_map,List.length_append,List.length_cons,List.length_nil];omega)]
 rfl
theorem zp0{k id c:Int}{m:List UInt8}{b:J}(hb:b.ok):yy none ⟨k,id,c,m,b.val⟩=some (z30 k id c m b).val:=by
 have en:∀n,qf none n=some (zah n).val:=fun n=>rfl
 have et:∀t,ji none t=some (zh3 t).val:=fun t=>rfl
 have eb:(GJ.mk b.val.fK b.val.fN b.val.fT b.val.fA b.val.fE)=b.val:=rfl
 have e0:(GJ.mk 0 0 ([]:List UInt8) ([]:List (List UInt8)) ([]:List (List AVal)))=(J.mk 0 0 [] [] []).val:=rfl
 have mo:∀ (n:List UInt8) (x:J) (ns:List (List UInt8)) (es:List J),ns.length≤1000→es.length≤1000→zd none n x.val (z9a ns es).val=some (z9a (n::ns) (x::es)).val:=fun n x ns es h1 h2=>z7y n x _ _ _ ns es h1 h2
 have m0:∀ (n:List UInt8) (x:J),zd none n x.val (J.mk 0 0 [] [] []).val=some (z9a [n] [x]).val:=fun n x=>z7y n x _ _ _ [] [] (by simp) (by simp)
 have m1:∀ (n:List UInt8) (x:J) (a:List UInt8) (y:J),zd none n x.val (z9a [a] [y]).val=some (z9a [n,a] [x,y]).val:=fun n x a y=>mo n x _ _ (by simp) (by simp)
 have m2:∀ (n:List UInt8) (x:J) (a d:List UInt8) (y z:J),zd none n x.val (z9a [a,d] [y,z]).val=some (z9a [n,a,d] [x,y,z]).val:=fun n x a d y z=>mo n x _ _ (by simp) (by simp)
 unfold yy z30
 simp only[en,et,eb,e0,Option.bind_some,beq_iff_eq,m0,m1,m2]
 by_cases c1:k=1
 ·rw[if_pos c1,if_pos c1];rfl
 rw[if_neg c1,if_neg c1]
 by_cases c2:k=2
 ·rw[if_pos c2,if_pos c2];rfl
 rw[if_neg c2,if_neg c2]
 by_cases c3:k=3
 ·rw[if_pos c3,if_pos c3];rfl
 rw[if_neg c3,if_neg c3]
 by_cases c4:k=4
 ·rw[if_pos c4,if_pos c4];rfl
 rw[if_neg c4,if_neg c4]
 rfl
def zf9(k id c:Int)(m:List UInt8)(b:J):J×Int:=
 if k<1∨k > 5 then(nullJ,7) else if wfM k id c m b=true then
  if b.chk≠0 then(nullJ,b.chk) else if(z30 k id c m b).chk≠0 then(nullJ,(z30 k id c m b).chk) else(z30 k id c m b,0)
 else(nullJ,3)
theorem z9v{k id c:Int}{m:List UInt8}{b:J}(hs:b.sz+m.length≤1000000000):vg none ⟨k,id,c,m,b.val⟩=some ((zf9 k id c m b).1.val,(zf9 k id c m b).2):=by
 have hb:b.ok:=by unfold J.ok;omega
 have ho:(z30 k id c m b).ok:=by have:=zmt k id c m b;unfold J.ok;omega
 have e1:jt none (GM.mk k id c m (GJ.mk b.val.fK b.val.fN b.val.fT b.val.fA b.val.fE))=some (wfM k id c m b):=zym hb
 have e2:ju none (GJ.mk b.val.fK b.val.fN b.val.fT b.val.fA b.val.fE)=some b.chk:=z0t hb
 have e3:wc none (GM.mk k id c m (GJ.mk b.val.fK b.val.fN b.val.fT b.val.fA b.val.fE))=some (z30 k id c m b).val:=zc7 hb
 unfold vg zf9
 simp only[e1,e2,e3,z0t ho,Option.bind_some]
 by_cases ck:k<1∨k > 5
 ·rw[if_pos (by simp only[Bool.or_eq_true,decide_eq_true_eq];omega),if_pos ck];rfl
 rw[if_neg (by simp only[Bool.or_eq_true,decide_eq_true_eq];omega),if_neg ck]
 cases wfM k id c m b with
 |false=>rw[if_pos (by rfl),if_neg (by simp)];rfl
 |true=>
  rw[if_neg (by simp),if_pos rfl]
  by_cases c1:b.chk=0
  ·rw[if_neg (show ¬((b.chk != 0)=true) by simp[c1]),if_neg (show ¬(b.chk≠0) by simp[c1])]
   by_cases c2:(z30 k id c m b).chk=0
   ·rw[if_neg (show ¬(((z30 k id c m b).chk != 0)=true) by simp[c2]),if_neg (show ¬((z30 k id c m b).chk≠0) by simp[c2])]
   ·rw[if_pos (show((z30 k id c m b).chk != 0)=true by simp[c2]),if_pos c2];rfl
  ·rw[if_pos (show(b.chk != 0)=true by simp[c1]),if_pos c1];rfl
theorem z6u{k id c:Int}{m:List UInt8}{b:J}(hs:b.sz+m.length≤1000000000):yv none ⟨k,id,c,m,b.val⟩=some ((zf9 k id c m b).1.val,(zf9 k id c m b).2):=by
 have hb:b.ok:=by unfold J.ok;omega
 have ho:(z30 k id c m b).ok:=by have:=zmt k id c m b;unfold J.ok;omega
 have e2:ql none (GJ.mk b.val.fK b.val.fN b.val.fT b.val.fA b.val.fE)=some b.chk:=Uj hb
 have e3:yy none (GM.mk k id c m (GJ.mk b.val.fK b.val.fN b.val.fT b.val.fA b.val.fE))=some (z30 k id c m b).val:=zp0 hb
 unfold yv zf9
 simp only[e2,e3,Uj ho,Option.bind_some]
 by_cases ck:k<1∨k > 5
 ·rw[if_pos (by simp only[Bool.or_eq_true,decide_eq_true_eq];omega),if_pos ck];rfl
 have e1:qa none (GM.mk k id c m (GJ.mk b.val.fK b.val.fN b.val.fT b.val.fA b.val.fE))=some (wfM k id c m b):=zzb hb ck
 rw[if_neg (by simp only[Bool.or_eq_true,decide_eq_true_eq];omega),if_neg ck,e1,Option.bind_some]
 cases wfM k id c m b with
 |false=>rw[if_pos (by rfl),if_neg (by simp)];rfl
 |true=>
  rw[if_neg (by simp),if_pos rfl]
  by_cases c1:b.chk=0
  ·rw[if_neg (show ¬((b.chk != 0)=true) by simp[c1]),if_neg (show ¬(b.chk≠0) by simp[c1])]
   by_cases c2:(z30 k id c m b).chk=0
   ·rw[if_neg (show ¬(((z30 k id c m b).chk != 0)=true) by simp[c2]),if_neg (show ¬((z30 k id c m b).chk≠0) by simp[c2])]
   ·rw[if_pos (show((z30 k id c m b).chk != 0)=true by simp[c2]),if_pos c2];rfl
  ·rw[if_pos (show(b.chk != 0)=true by simp[c1]),if_pos c1];rfl
theorem Yi(x y:Int):wt x y=true↔x=y:=by unfold wt;simp
abbrev Im:=List (Int×Int)
def ks(M:Im):List Int:=M.map (·.1)
theorem zow:∀ {M:Im} {k:Int},k∉ks M→lk wt M k=none
 |[],_,_=>rfl
 |(a,v)::r,k,h=>by
  unfold lk
  have h':k≠a∧k∉ks r:=by simpa[ks] using h
  rw[if_neg (fun e=>h'.1 ((Yi _ _).1 e)),zow h'.2]
theorem zme:∀ {M:Im} {k:Int} {j:Nat},(ks M).Nodup→(ks M)[j]?=some k→ks (md wt M k)=(ks M).take j++(ks M).drop (j+1)
 |[],k,j,_,h=>by simp[ks] at h
 |(a,v)::r,k,j,hn,h=>by
  have hn':a∉ks r∧(ks r).Nodup:=by simpa[ks] using hn
  unfold md
  cases j with
  |zero=>
   have:a=k:=by simpa[ks] using h
   subst this
   rw[if_pos ((Yi _ _).2 rfl)]
   simp[ks]
  |succ j=>
   have h':(ks r)[j]?=some k:=by simpa[ks] using h
   have hk:k∈ks r:=List.mem_of_getElem? h'
   have hne:k≠a:=fun e=>hn'.1 (e▸hk)
   rw[if_neg (fun e=>hne ((Yi _ _).1 e))]
   have ih:=zme hn'.2 h'
   show a::ks (md wt r k)=_
   rw[ih]
   simp[ks]
theorem zzd:∀ {M:Im} {k x:Int},(ks M).Nodup→lk wt (md wt M k) x=if x=k then none else lk wt M x
 |[],k,x,_=>by unfold md lk;simp
 |(a,v)::r,k,x,hn=>by
  have hn':a∉ks r∧(ks r).Nodup:=by simpa[ks] using hn
  unfold md
  by_cases hk:k=a
  ·subst hk
   rw[if_pos ((Yi _ _).2 rfl)]
   by_cases hx:x=k
   ·subst hx;rw[if_pos rfl,zow hn'.1]
   ·rw[if_neg hx]
    conv=>rhs;unfold lk
    rw[if_neg (fun e=>hx ((Yi _ _).1 e))]
  ·rw[if_neg (fun e=>hk ((Yi _ _).1 e))]
   have ih:=zzd (k:=k) (x:=x) hn'.2
   unfold lk
   by_cases hx:x=a
   ·subst hx
    rw[if_pos ((Yi _ _).2 rfl),if_pos ((Yi _ _).2 rfl),if_neg (fun e=>hk e.symm)]
   ·rw[if_neg (fun e=>hx ((Yi _ _).1 e)),if_neg (fun e=>hx ((Yi _ _).1 e)),ih]
theorem z80{l:List Int}{x:Int}(hl:l.length≤1000000):∀ (k i:Nat),i+k=l.length→(∃j,∃h:j<l.length,i≤j∧l[j]=x∧y7 none l x (i:Int)=some (j:Int))∨(x∉l.drop i∧y7 none l x (i:Int)=some (-1))
 |0,i,h=>by
  have:i=l.length:=by omega
  subst this
  refine .inr ⟨by simp,?_⟩
  unfold y7
  rw[xe (x:=some (-1))]
  unfold qb w8
  rw[if_neg (by simp)]
 |k+1,i,h=>by
  have hi:i<l.length:=by omega
  have hb:qb none l x (i:Int)=if x=l[i] then some (.inr (i:Int)) else some (.inl ((i+1:Nat):Int)):=by
   unfold qb
   simp only[Int.toNat_natCast,z5w hi]
   rw[if_pos (by simpa using hi),if_pos (by simp;omega)]
   by_cases c:x=l[i]
   ·rw[if_pos (by simpa using c),if_pos c];rfl
   ·rw[if_neg (by simpa using c),if_neg c,Wi (by omega)]
  by_cases c:x=l[i]
  ·rw[if_pos c] at hb
   refine .inl ⟨i,hi,Nat.le_refl _,c.symm,?_⟩
   unfold y7
   rw[xe (x:=some (i:Int)) hb]
  ·rw[if_neg c] at hb
   have e:y7 none l x (i:Int)=y7 none l x ((i+1:Nat):Int):=by
    unfold y7
    rw[wz hb]
   rcases z80 hl k (i+1) (by omega) with⟨j,hj,h1,h2,h3⟩|⟨h1,h2⟩
   ·exact .inl ⟨j,hj,by omega,h2,e.trans h3⟩
   ·refine .inr ⟨?_,e.trans h2⟩
    rw[List.drop_eq_getElem_cons hi,List.mem_cons]
    rintro(h|h)
    ·exact c h
    ·exact h1 h
theorem y1t{l:List Int}(x:Int)(hl:l.length≤1000000):(∃j,∃h:j<l.length,l[j]=x∧x3 none l x=some (j:Int))∨(x∉l∧x3 none l x=some (-1)):=by
 rcases z80 (x:=x) hl l.length 0 (by omega) with⟨j,hj,_,h2,h3⟩|⟨h1,h2⟩
 ·exact .inl ⟨j,hj,h2,h3⟩
 ·rw[List.drop_zero] at h1;exact .inr ⟨h1,h2⟩
theorem y3i{l:List Int}(x:Int)(hl:l.length≤1000000):y6 none l x=some (decide (x∈l)):=by
 unfold y6
 rcases y1t x hl with⟨j,hj,h1,h2⟩|⟨h1,h2⟩
 ·rw[h2,Option.bind_some,decide_eq_true (by omega),decide_eq_true (by rw[←h1];exact List.getElem_mem _)]
 ·rw[h2,Option.bind_some,decide_eq_false h1];rfl
theorem ze8{l:List Int}(hl:l.length≤1000000):∀ (k i:Nat),i+k=l.length→j4 none l l (i:Int)=some true
 |0,i,h=>by
  unfold j4
  rw[xe (x:=some true)]
  unfold x4 w9
  rw[if_neg (by simp;omega)]
 |k+1,i,h=>by
  have ih:=ze8 hl k (i+1) (by omega)
  unfold j4 at ih ⊢
  rw[wz (s':=((i+1:Nat):Int))]
  ·exact ih
  ·unfold x4
   simp only[List.length_map]
   rw[if_pos (by simp;omega),if_pos (by omega),if_pos (by omega),if_neg (by simp),Wi (by omega)]
theorem eqI{l:List Int}(hl:l.length≤1000000):xw none l l=some true:=by
 unfold xw
 rw[if_neg (by simp)]
 exact ze8 hl l.length 0 (by omega)
theorem eqm{k id c:Int}{m:List UInt8}{j:J}(hj:j.ok):zk none ⟨k,id,c,m,j.val⟩ ⟨k,id,c,m,j.val⟩=some true:=by
 unfold zk
 rw[if_pos (by simp)]
 show Option.bind (yi none j.val j.val) _=_
 rw[y2m hj,Option.bind_some]
 simp
theorem zto(a:Int){b:Int}(hb:0<b)(hb':b≤4611686018427387904):∃v,xm none a b=some v∧0≤v∧v<b:=by
 have h1:=Int.tmod_lt_of_pos a hb
 have h2:-b<a.tmod b:=by
  have h:=Int.tmod_lt_of_pos (-a) hb
  rw[Int.neg_tmod] at h
  omega
 unfold xm wn
 rw[if_pos (by omega)]
 by_cases c:a.tmod b<0
 ·rw[if_pos (decide_eq_true c),zsr (by unfold inR;omega)]
  exact⟨_,rfl,by omega,by omega⟩
 ·rw[if_neg (by simpa using c)]
  exact⟨_,rfl,by omega,by omega⟩
structure Inv(i n:Nat)(P C:List Int)(M:Im):Prop where
 ni:n≤i
 asc:P.Pairwise (· < ·)
 pr:∀x∈P,0≤x∧x<(n:Int)
 cr:∀x∈C,0≤x∧x<(n:Int)
 pl:P.length≤i
 cl:C.length≤i
 keys:ks M=P
 lkm:∀k,lk wt M k=if k∈P then some (if k∈C then 1 else 0) else none
theorem Inv.nd{i n:Nat}{P C:List Int}{M:Im}(h:Inv i n P C M):(ks M).Nodup:=by
 rw[h.keys]
 unfold List.Nodup
 exact h.asc.imp fun {a b} (hab:a<b) (e:a=b)=>by omega
theorem Inv.len{i n:Nat}{P C:List Int}{M:Im}(h:Inv i n P C M):M.length=P.length:=by
 have:=congrArg List.length h.keys
 simpa[ks] using this
theorem Inv.up{i n:Nat}{P C:List Int}{M:Im}(h:Inv i n P C M):Inv (i+1) n P C M:=⟨by have:=h.ni;omega,h.asc,h.pr,h.cr,by have:=h.pl;omega,by have:=h.cl;omega,h.keys,h.lkm⟩
theorem Inv.req{i n:Nat}{P C:List Int}{M:Im}(h:Inv i n P C M):Inv (i+1) (n+1) (P++[(n:Int)]) C (mp wt M (n:Int) 0):=by
 have hn:(n:Int)∉P:=fun hx=>by have:=(h.pr _ hx).2;omega
 refine⟨by have:=h.ni;omega,?_,fun x hx=>?_,fun x hx=>by have:=h.cr x hx;omega,by have:=h.pl;simp;omega,by have:=h.cl;omega,?_,fun k=>?_⟩
 ·rw[List.pairwise_append]
  exact⟨h.asc,by simp,fun a ha b hb=>by rw[List.mem_singleton] at hb;have:=(h.pr a ha).2;omega⟩
 ·rcases List.mem_append.1 hx with hx|hx
  ·have:=h.pr x hx;omega
  ·rw[List.mem_singleton] at hx;omega
 ·unfold ks
  rw[mpK (hq:=Yi)]
  have hk:M.map (·.1)=P:=h.keys
  rw[hk,if_neg hn]
 ·rw[lkM (hq:=Yi),h.lkm]
  by_cases c:(n:Int)=k
  ·subst c
   have hc:(n:Int)∉C:=fun hx=>by have:=(h.cr _ hx).2;omega
   rw[if_pos rfl,if_pos (by simp),if_neg hc]
  ·rw[if_neg c]
   have:k∈P++[(n:Int)]↔k∈P:=by
    rw[List.mem_append,List.mem_singleton]
    exact⟨fun h=>h.resolve_right (fun e=>c e.symm),.inl⟩
   by_cases hp:k∈P
   ·rw[if_pos hp,if_pos (this.2 hp)]
   ·rw[if_neg hp,if_neg (fun h=>hp (this.1 h))]
theorem Inv.can{i n:Nat}{P C:List Int}{M:Im}(h:Inv i n P C M){a:Int}(ha:a∈P):Inv (i+1) n P (C++[a]) (mp wt M a 1):=by
 refine⟨by have:=h.ni;omega,h.asc,h.pr,fun x hx=>?_,by have:=h.pl;omega,by have:=h.cl;simp;omega,?_,fun k=>?_⟩
 ·rcases List.mem_append.1 hx with hx|hx
  ·exact h.cr x hx
  ·rw[List.mem_singleton] at hx;subst hx;exact h.pr _ ha
 ·unfold ks
  rw[mpK (hq:=Yi)]
  have hk:M.map (·.1)=P:=h.keys
  rw[hk,if_pos ha]
 ·rw[lkM (hq:=Yi),h.lkm]
  by_cases c:a=k
  ·subst c
   rw[if_pos rfl,if_pos ha,if_pos (by simp)]
  ·rw[if_neg c]
   have:k∈C++[a]↔k∈C:=by
    rw[List.mem_append,List.mem_singleton]
    exact⟨fun h=>h.resolve_right (fun e=>c e.symm),.inl⟩
   by_cases hp:k∈P
   ·rw[if_pos hp,if_pos hp]
    by_cases hc:k∈C
    ·rw[if_pos hc,if_pos (this.2 hc)]
    ·rw[if_neg hc,if_neg (fun h=>hc (this.1 h))]
   ·rw[if_neg hp,if_neg hp]
theorem Inv.del{i n:Nat}{P C:List Int}{M:Im}(h:Inv i n P C M){j:Nat}(hj:j<P.length):Inv (i+1) n (P.take j++P.drop (j+1)) C (md wt M P[j]):=by
 have hnd:=h.nd
 have hke:ks (md wt M P[j])=P.take j++P.drop (j+1):=by
  have:=zme (k:=P[j]) (j:=j) hnd (by rw[h.keys];exact List.getElem?_eq_getElem hj)
  rw[h.keys] at this
  exact this
 have hsub:(P.take j++P.drop (j+1)).Sublist P:=by
  rw[←List.eraseIdx_eq_take_drop_succ];exact List.eraseIdx_sublist ..
 have hmem:∀x,x∈P.take j++P.drop (j+1)↔x∈P∧x≠P[j]:=fun x=>by
  have:=(mdK (q:=wt) (hq:=Yi) (M:=M) (k:=P[j]) (j:=x) hnd).1
  have h1:(md wt M P[j]).map (·.1)=P.take j++P.drop (j+1):=hke
  have h2:M.map (·.1)=P:=h.keys
  rw[h1,h2] at this
  exact this
 refine⟨by have:=h.ni;omega,h.asc.sublist hsub,fun x hx=>h.pr x (hsub.subset hx),h.cr,by have:=hsub.length_le;have:=h.pl;omega,by have:=h.cl;omega,hke,fun k=>?_⟩
 rw[zzd hnd,h.lkm]
 by_cases c:k=P[j]
 ·rw[if_pos c,if_neg (fun hx=>((hmem k).1 hx).2 c)]
 ·rw[if_neg c]
  by_cases hp:k∈P
  ·rw[if_pos hp,if_pos ((hmem k).2 ⟨hp,c⟩)]
  ·rw[if_neg hp,if_neg (fun hx=>hp ((hmem k).1 hx).1)]
theorem wfI{k:Int}(h:-9223372036854775808≤k∧k≤9223372036854775807):(Lit.int .i64 k).wf=true:=by
 have h1:decide (IntKind.min .i64≤k)=true:=decide_eq_true h.1
 have h2:decide (k≤IntKind.max .i64)=true:=decide_eq_true h.2
 simp only[Lit.wf,h1,h2,Bool.and_self]
theorem y40{i n:Nat}{P C:List Int}{M:Im}(h:Inv i n P C M)(hi:i≤1000)(x:Int):je none x M=some P:=by
 have hl:=h.len
 have hpl:=h.pl
 have hni:=h.ni
 unfold je u6 u3
 have hk:M.map (·.1)=P:=h.keys
 have hnd:=h.nd
 unfold ks at hnd
 have hw:∀k∈M.map (·.1),wfZ k=true:=fun k hk'=>by
  rw[hk] at hk'
  have:=h.pr k hk'
  have hn:(n:Int)≤1000:=by omega
  have h3:-9223372036854775808≤k∧k≤9223372036854775807:=by omega
  exact wfI h3
 rw[Option.bind_some,if_pos ⟨hnd,hw,by omega⟩,Option.bind_some]
 unfold Ja
 rw[hk,List.mergeSort_of_pairwise (h.asc.imp fun {a b} (hab:a<b)=>decide_eq_true (by omega))]
theorem j21{a0:List GM}{a1:List G_Step}{i n:Nat}{P C:List Int}{M:Im}(h:Inv (i+1) n P C M)(hi:i<900) :
 zx none a0 a1 (i:Int) (n:Int) P C (n:Int) M=some (.inl ((n:Int),P,C,((i+1:Nat):Int),(n:Int),M)):=by
 unfold zx
 have:=h.pl
 rw[y40 h (by omega),Option.bind_some,eqI (by omega),Option.bind_some,if_neg (by decide),Wi (by omega)]
theorem zpj:nullJ.sz≤1000:=by unfold nullJ;rw[J.sz.eq_1];simp[nsz,J.szL]
def zm:GM:=⟨0,0,0,[],nullJ.val⟩
theorem y2n:(GM.mk 0 0 0 ([]:List UInt8) (GJ.mk 0 0 ([]:List UInt8) ([]:List (List UInt8)) ([]:List (List AVal))))=zm:=rfl
theorem zce:zk none zm zm=some true:=eqm zfd
def stA(a1:List G_Step)(i:Int):G_Step:=(a1.take (if 30<((a1.map z7).length:Int) then 30 else((a1.map z7).length:Int)).toNat).getD i.toNat default
abbrev St:=Int×(List Int)×(List Int)×Int×Int×Im
def Zk(i:Nat)(r:Option (St ⊕ Bool)):Prop:=∃ (n:Nat) (P C:List Int) (M:Im),r=some (.inl ((n:Int),P,C,((i+1:Nat):Int),(n:Int),M))∧Inv (i+1) n P C M
section
variable {a0:List GM} {a1:List G_Step} {i n:Nat} {P C:List Int} {M:Im}
theorem z1m(h:Inv (i+1) n P C M)(hi:i<30):Zk i (zx none a0 a1 (i:Int) (n:Int) P C (n:Int) M):=⟨n,P,C,M,j21 h (by omega),h⟩
theorem st0(h:Inv i n P C M)(hi:i<30){k id c:Int}{m:List UInt8}{b:J}(hs:b.sz+m.length≤1000000000) :
 Zk i (yr none a0 a1 (n:Int) P C (i:Int) (n:Int) M k id c m b.val.fK b.val.fN b.val.fT b.val.fA b.val.fE (zf9 1 (n:Int) 0 m b).2):=by
 have hb:b.ok:=by unfold J.ok;omega
 have hl:=h.len
 have hpl:=h.pl
 have hni:=h.ni
 have eb:(GJ.mk b.val.fK b.val.fN b.val.fT b.val.fA b.val.fE)=b.val:=rfl
 unfold yr w6
 simp only[eb,y2n]
 rw[zpm hb,Option.bind_some,z9v hs,Option.bind_some]
 simp only
 by_cases he:(zf9 1 (n:Int) 0 m b).2=0
 ·rw[he,if_neg (by decide),if_neg (by simp;omega),Option.bind_some,if_neg (by decide),if_pos (by simp;omega),Wi (by omega)]
  unfold yt
  simp only[eb]
  rw[if_pos (by decide)]
  show Zk i (Option.bind (zk none ⟨1,(n:Int),0,m,b.val⟩ ⟨1,(n:Int),0,m,b.val⟩) _)
  rw[eqm hb,Option.bind_some,if_neg (by decide)]
  exact z1m h.req hi
 ·rw[if_pos (by simpa using he),Option.bind_some,if_pos (by simpa using he)]
  unfold yt
  simp only
  rw[if_pos (by simp)]
  show Zk i (Option.bind (zk none zm zm) _)
  rw[zce,Option.bind_some,if_neg (by simp)]
  exact z1m h.up hi
theorem y42(h:Inv i n P C M)(hi:i<30)(hA:(stA a1 (i:Int)).f_A∉P):Zk i (zl none a0 a1 (n:Int) P (i:Int) (n:Int) M 5 C 0 0):=by
 unfold zl xn
 change Zk i (Option.bind (if(!((lk wt M (stA a1 (i:Int)).f_A).isSome))=true then _ else _) _)
 rw[h.lkm,if_neg hA,if_pos (by decide),Option.bind_some,if_pos (by simp)]
 show Zk i (Option.bind (zk none zm zm) _)
 rw[zce,Option.bind_some,if_neg (by simp)]
 exact z1m h.up hi
theorem y3s(h:Inv i n P C M)(hi:i<30)(hA:(stA a1 (i:Int)).f_A∈P)(hC:(stA a1 (i:Int)).f_A∈C):Zk i (zl none a0 a1 (n:Int) P (i:Int) (n:Int) M 6 C 0 0):=by
 unfold zl xn
 change Zk i (Option.bind (if(!((lk wt M (stA a1 (i:Int)).f_A).isSome))=true then _ else if(((lk wt M (stA a1 (i:Int)).f_A).getD 0) != 0)=true then _ else _) _)
 rw[h.lkm,if_pos hA,if_pos hC,if_neg (by decide),if_pos (by decide),Option.bind_some,if_pos (by simp)]
 show Zk i (Option.bind (zk none zm zm) _)
 rw[zce,Option.bind_some,if_neg (by simp)]
 exact z1m h.up hi
theorem y3j(h:Inv i n P C M)(hi:i<30)(hA:(stA a1 (i:Int)).f_A∈P)(hC:(stA a1 (i:Int)).f_A∉C):Zk i (zl none a0 a1 (n:Int) P (i:Int) (n:Int) M 0 (C++[(stA a1 (i:Int)).f_A]) 5 (stA a1 (i:Int)).f_A):=by
 unfold zl xn
 change Zk i (Option.bind (if(!((lk wt M (stA a1 (i:Int)).f_A).isSome))=true then _ else if(((lk wt M (stA a1 (i:Int)).f_A).getD 0) != 0)=true then _ else some ((GM.mk 5 (stA a1 (i:Int)).f_A 0 ([]:List UInt8) nullJ.val),0,(mp wt M (stA a1 (i:Int)).f_A 1))) _)
 rw[h.lkm,if_pos hA,if_neg hC,if_neg (by decide),if_neg (by decide),Option.bind_some,if_pos (by simp)]
 show Zk i (Option.bind (zk none ⟨5,(stA a1 (i:Int)).f_A,0,[],nullJ.val⟩ ⟨5,(stA a1 (i:Int)).f_A,0,[],nullJ.val⟩) _)
 rw[eqm zfd,Option.bind_some,if_neg (by simp)]
 exact z1m (h.can hA) hi
theorem st2(h:Inv i n P C M)(hi:i<30){k id c:Int}{m:List UInt8}{b:J}(hs:b.sz+m.length≤1000000000) :
 Zk i (if((((zf9 k id c m b).2==0)&&(k != 3))&&(k != 4))=true then zy none a0 a1 (n:Int) P C (i:Int) (n:Int) M k id c m b.val.fK b.val.fN b.val.fT b.val.fA b.val.fE 7
  else zy none a0 a1 (n:Int) P C (i:Int) (n:Int) M k id c m b.val.fK b.val.fN b.val.fT b.val.fA b.val.fE (zf9 k id c m b).2):=by
 have hpl:=h.pl
 have eb:(GJ.mk b.val.fK b.val.fN b.val.fT b.val.fA b.val.fE)=b.val:=rfl
 have hrec:xg none ⟨k,id,c,m,b.val⟩ (n:Int) M=if((zf9 k id c m b).2 != 0)=true then some ((zf9 k id c m b).2,M) else if((k != 3)&&(k != 4))=true then some (7,M) else if(!((lk wt M id).isSome))=true then some (5,M) else some (0,md wt M id):=by
  unfold xg
  simp only[eb]
  rw[z9v hs,Option.bind_some]
 have j20:∀ (r e:Int) (M':Im),xg none ⟨k,id,c,m,b.val⟩ (n:Int) M=some (e,M')→e≠0→Inv (i+1) n P C M'→Zk i (yb none a0 a1 (n:Int) P C (i:Int) (n:Int) M k id c m b.val.fK b.val.fN b.val.fT b.val.fA b.val.fE r e):=fun r e M' h1 h2 h3=>by
  unfold yb
  simp only[eb]
  rw[h1,Option.bind_some,if_neg (by simp),if_neg (by simpa using h2)]
  exact z1m h3 hi
 by_cases he:(zf9 k id c m b).2=0
 ·rw[he] at hrec ⊢
  rw[if_neg (by decide)] at hrec
  by_cases hk:k=3∨k=4
  ·have hk':((k != 3)&&(k != 4))=false:=by rcases hk with rfl|rfl<;>rfl
   rw[hk',if_neg (by decide)] at hrec
   rw[if_neg (by rw[Bool.and_assoc,hk'];decide)]
   unfold zy
   rcases y1t id (l:=P) (by omega) with⟨j,hj,h1,h2⟩|⟨h1,h2⟩
   ·have hid:id∈P:=by rw[←h1];exact List.getElem_mem _
    rw[h.lkm,if_pos hid,if_neg (by simp)] at hrec
    rw[h2,Option.bind_some,if_neg (by simp)]
    unfold yb jy
    simp only[eb]
    rw[hrec,Option.bind_some,if_neg (by simp),if_pos (by decide),Wi (by omega),if_pos (by simp;omega),if_pos (by simp;omega)]
    simp only[Int.toNat_natCast]
    rw[if_pos (by simp;omega),Option.bind_some,if_pos (by simp;omega),←h1]
    exact z1m (h.del hj) hi
   ·rw[h.lkm,if_neg h1,if_pos (by decide)] at hrec
    rw[h2,Option.bind_some,if_pos (by decide)]
    exact j20 _ 5 M hrec (by decide) h.up
  ·have hk':((k != 3)&&(k != 4))=true:=by simp only[Bool.and_eq_true,bne_iff_ne];omega
   rw[hk',if_pos rfl] at hrec
   rw[if_pos (by rw[Bool.and_assoc,hk'];decide)]
   unfold zy
   rcases y1t id (l:=P) (by omega) with⟨j,hj,h1,h2⟩|⟨h1,h2⟩
   ·rw[h2,Option.bind_some,if_neg (by simp)]
    exact j20 _ 7 M hrec (by decide) h.up
   ·rw[h2,Option.bind_some,if_neg (by decide)]
    exact j20 _ 7 M hrec (by decide) h.up
 ·have he':((zf9 k id c m b).2==0)=false:=by simpa using he
  rw[if_pos (by simpa using he)] at hrec
  rw[he',if_neg (by simp)]
  unfold zy
  rcases y1t id (l:=P) (by omega) with⟨j,hj,h1,h2⟩|⟨h1,h2⟩
  ·rw[h2,Option.bind_some,he',if_neg (by simp)]
   exact j20 _ _ M hrec he h.up
  ·rw[h2,Option.bind_some,he',if_neg (by simp)]
   exact j20 _ _ M hrec he h.up
theorem y1f(h:Inv i n P C M)(hi:i<30){k id c:Int}{m:List UInt8}{b:J}(hs:b.sz+m.length≤1000000000) :
 Zk i (yu none a0 a1 (n:Int) P C (i:Int) (n:Int) M k id c m b.val.fK b.val.fN b.val.fT b.val.fA b.val.fE):=by
 have hpl:=h.pl
 have hcl:=h.cl
 have eb:(GJ.mk b.val.fK b.val.fN b.val.fT b.val.fA b.val.fE)=b.val:=rfl
 obtain⟨v,hv,_,_⟩:=zto (stA a1 (i:Int)).f_Do (b:=3) (by decide) (by decide)
 unfold yu
 change Zk i (Option.bind (xm none (stA a1 (i:Int)).f_Do 3) _)
 rw[hv,Option.bind_some]
 by_cases c0:v=0
 ·rw[if_pos (by simpa using c0)]
  simp only[eb]
  rw[z6u hs,Option.bind_some]
  simp only
  rw[if_neg (by simp;omega)]
  exact st0 h hi hs
 ·rw[if_neg (by simpa using c0)]
  by_cases c1:v=1
  ·rw[if_pos (by simpa using c1)]
   change Zk i (Option.bind (y6 none P (stA a1 (i:Int)).f_A) _)
   rw[y3i _ (by omega),Option.bind_some]
   by_cases hA:(stA a1 (i:Int)).f_A∈P
   ·rw[if_neg (by simpa using hA)]
    change Zk i (Option.bind (y6 none C (stA a1 (i:Int)).f_A) _)
    rw[y3i _ (by omega),Option.bind_some]
    by_cases hC:(stA a1 (i:Int)).f_A∈C
    ·rw[if_pos (by simpa using hC)]
     exact y3s h hi hA hC
    ·rw[if_neg (by simpa using hC),if_pos (by simp;omega)]
     exact y3j h hi hA hC
   ·rw[if_pos (by simpa using hA)]
    exact y42 h hi hA
  ·rw[if_neg (by simpa using c1)]
   simp only[eb]
   rw[z6u hs,Option.bind_some]
   exact st2 h hi hs
end
abbrev Ms:=Int×Int×Int×List UInt8×J
def mv(x:Ms):GM:=⟨x.1,x.2.1,x.2.2.1,x.2.2.2.1,x.2.2.2.2.val⟩
theorem zwi{ms:List Ms}{a1:List G_Step}(hml:ms.length≤4611686018427387904)(hms:∀x∈ms,x.2.2.2.2.sz+x.2.2.2.1.length≤1000000000):∀ (f i n:Nat) (P C:List Int) (M:Im),i+f=min 30 a1.length→Inv i n P C M →
 xb none (ms.map mv) a1 (n:Int) P C (i:Int) (n:Int) M=some true:=by
 have hcap:(((a1.take (if 30<((a1.map z7).length:Int) then 30 else((a1.map z7).length:Int)).toNat).map z7).length:Int)=((min 30 a1.length:Nat):Int):=by
  simp only[List.length_map,List.length_take]
  split<;>omega
 intro f
 induction f with
 |zero=>
  intro i n P C M hf h
  unfold xb
  rw[xe (x:=some true)]
  unfold yg j6 xi
  simp only
  rw[hcap,if_neg (by simp;omega)]
  rfl
 |succ f ih=>
  intro i n P C M hf h
  have hi:i<30:=by omega
  have hb:Zk i (yg none (ms.map mv) a1 (n:Int) P C (i:Int) (n:Int) M):=by
   unfold yg
   rw[hcap,if_pos (by simp;omega),if_pos (by omega)]
   by_cases hm:0<ms.length
   ·rw[if_pos (by simpa using hm)]
    change Zk i (Option.bind (xm none (stA a1 (i:Int)).f_A (((ms.map mv).map zw).length:Int)) _)
    obtain⟨v,hv,v0,v1⟩:=zto (stA a1 (i:Int)).f_A (b:=(((ms.map mv).map zw).length:Int)) (by simpa using hm) (by simp;omega)
    rw[hv,Option.bind_some,if_pos ⟨v0,v1⟩]
    have hvl:v.toNat<ms.length:=by simp only[List.length_map] at v1;omega
    have hg:(ms.map mv).getD v.toNat default=mv ms[v.toNat]:=by rw[z5w (by rw[List.length_map];exact hvl),List.getElem_map]
    rw[hg]
    exact y1f h hi (hms _ (List.getElem_mem _))
   ·rw[if_neg (by simpa using hm)]
    exact y1f (b:=nullJ) (m:=[]) h hi (by have:=zpj;simp only[List.length_nil];omega)
  obtain⟨n',P',C',M',h1,h2⟩:=hb
  have:=ih (i+1) n' P' C' M' (by omega) h2
  unfold xb at this ⊢
  rw[wz h1];exact this
theorem y3y{ms:List Ms}{a1:List G_Step}(hml:ms.length≤4611686018427387904)(hms:∀x∈ms,x.2.2.2.2.sz+x.2.2.2.1.length≤1000000000):xu none (ms.map mv) a1=some true:=by
 unfold xu xi kc
 rw[Option.bind_some,if_neg (by decide),Option.bind_some,if_pos (by rw[List.length_map];split<;>omega)]
 exact zwi hml hms (min 30 a1.length) 0 0 [] [] [] (by omega) ⟨Nat.le_refl _,.nil,fun x hx=>absurd hx List.not_mem_nil,fun x hx=>absurd hx List.not_mem_nil,Nat.le_refl _,Nat.le_refl _,rfl,fun k=>rfl⟩
open Go.Fx Go.RowKit
theorem zwd:laidOutB Tryz.prog=true:=by kernel_rfl
theorem c9:Tryz.prog.cellsOf 9=1:=by kernel_rfl
theorem c3:Tryz.prog.cellsOf 3=1:=by kernel_rfl
theorem c30:Tryz.prog.cellsOf 30=1:=by kernel_rfl
theorem c31:Tryz.prog.cellsOf 31=1:=by kernel_rfl
theorem c33:Tryz.prog.cellsOf 33=5:=by kernel_rfl
theorem c35:Tryz.prog.cellsOf 35=9:=by kernel_rfl
theorem rbS(F:Nat):RB Tryz.prog F 9 (List UInt8) za (fun l k=>l.length+1≤k):=RB.string Tryz.underlying9 c9
theorem rbI(F:Nat):RB Tryz.prog F 3 Int (fun x=>[.int .i64 x]) (fun _ _=>True):=
 RB.map (RB.of (F:=F) (RA.int Tryz.underlying3 c3)) (fun x=>x) (fun _=>c3.symm) (fun _ _ _=>⟨trivial,rfl⟩)
theorem zje:∀ns:List (List UInt8),nsz ns=(ns.map fun n=>n.length+1).sum
 |[]=>rfl
 |n::r=>by rw[nsz,zje r];rfl
theorem zoe:∀es:List J,J.szL es=(es.map J.sz).sum
 |[]=>rfl
 |e::r=>by rw[J.szL,zoe r];rfl
theorem rbN:∀F:Nat,RB Tryz.prog F 30 (List (List UInt8)) (fun l=>[.isl 1 (l.map za) false]) (fun l k=>nsz l≤k)
 |0=>RB.zero (fun _=>c30.symm)
 |F+1=>RB.map (RB.slice Tryz.underlying30 c30 (by rw[c9];decide) (rbS F)) (fun x=>x) (fun _=>c30.symm) (fun l k ⟨_,_,ks,h1,h2,h3⟩=>⟨by
  rw[zje]
  have:=z5n (f:=fun n:List UInt8=>n.length+1) h1 h2
  omega,by rw[c9]⟩)
theorem y3g:∀F:Nat,RB Tryz.prog F 33 J (fun j=>z6 j.val) (fun j k=>j.sz≤k)∧RB Tryz.prog F 31 (List J) (fun l=>[.isl 5 ((l.map J.raw).map ze) false]) (fun l k=>J.szL l≤k)
 |0=>⟨RB.zero (fun _=>c33.symm),RB.zero (fun _=>c31.symm)⟩
 |F+1=>by
  obtain⟨ih1,ih2⟩:=y3g F
  refine⟨RB.map (RB.structN Tryz.underlying33 c33 (RG.cons (P:=Tryz.prog) (off:=0) (tot:=4) (m:=1) rfl c3 (rbI F) (RG.cons (P:=Tryz.prog) (off:=1) (tot:=3) (m:=1) rfl c3 (rbI F) (RG.cons (P:=Tryz.prog) (off:=2) (tot:=2) (m:=1) rfl c9 (rbS F) (RG.cons (P:=Tryz.prog) (off:=3) (tot:=1) (m:=1) rfl c30 (rbN F) (RG.cons (P:=Tryz.prog) (off:=4) (tot:=0) (m:=1) rfl c31 ih2 (RG.nil (P:=Tryz.prog) 5)))))))
   (fun x=>J.mk x.1 x.2.1 x.2.2.1 x.2.2.2.1 x.2.2.2.2.1) (fun _=>c33.symm) (fun x k h=>⟨?_,rfl⟩),?_⟩
  ·obtain⟨k0,⟨k1,k2,_,⟨k3,k4,_,⟨k5,k6,h5,⟨k7,k8,h7,⟨k9,k10,h9,_,q5⟩,q4⟩,q3⟩,q2⟩,q1⟩,q0⟩:=h
   rw[J.sz]
   omega
  ·refine RB.map (RB.slice Tryz.underlying31 c31 (by rw[c33];decide) ih1) (fun x=>x) (fun _=>c31.symm) (fun l k ⟨_,_,ks,h1,h2,h3⟩=>⟨?_,?_⟩)
   ·rw[zoe]
    have:=z5n (f:=J.sz) h1 h2
    omega
   ·rw[c33,List.map_map]
    congr 3
    funext j
    exact Wu j
abbrev Msg:=Int×Int×Int×List UInt8×J
theorem y3u(F:Nat):RB Tryz.prog F 35 Msg (fun x=>[.int .i64 x.1,.int .i64 x.2.1,.int .i64 x.2.2.1,.str x.2.2.2.1]++z6 x.2.2.2.2.val) (fun x k=>x.2.2.2.2.sz+x.2.2.2.1.length≤k):=by
 cases F with
 |zero=>exact RB.zero (fun _=>c35.symm)
 |succ F=>
  refine RB.map (RB.structN Tryz.underlying35 c35 (RG.cons (P:=Tryz.prog) (off:=0) (tot:=8) (m:=1) rfl c3 (rbI F) (RG.cons (P:=Tryz.prog) (off:=1) (tot:=7) (m:=1) rfl c3 (rbI F) (RG.cons (P:=Tryz.prog) (off:=2) (tot:=6) (m:=1) rfl c3 (rbI F) (RG.cons (P:=Tryz.prog) (off:=3) (tot:=5) (m:=1) rfl c9 (rbS F) (RG.cons (P:=Tryz.prog) (off:=4) (tot:=0) (m:=5) rfl c33 (y3g F).1 (RG.nil (P:=Tryz.prog) 9)))))))
   (fun x=>(x.1,x.2.1,x.2.2.1,x.2.2.2.1,x.2.2.2.2.1)) (fun _=>c35.symm) (fun x k h=>⟨?_,?_⟩)
  ·obtain⟨k0,⟨k1,k2,_,⟨k3,k4,_,⟨k5,k6,_,⟨k7,k8,h7,⟨k9,k10,h9,_,q5⟩,q4⟩,q3⟩,q2⟩,q1⟩,q0⟩:=h
   simp only
   omega
  ·rfl
theorem zti:∀ {l:List Nat} {x:Nat},x∈l→x≤l.sum
 |y::r,x,h=>by
  rw[List.sum_cons]
  rcases List.mem_cons.1 h with rfl|h
  ·omega
  ·have:=zti h;omega
theorem b35:Tryz.prog.bytesOf 35=120:=by kernel_rfl
theorem c22:Tryz.prog.cellsOf 22=1:=by kernel_rfl
theorem c29:Tryz.prog.cellsOf 29=3:=by kernel_rfl
theorem y3r:Tryz.prog.cellsOf 23=1:=by kernel_rfl
theorem rbM:∀F:Nat,RB Tryz.prog F 22 (List Msg) (fun l=>[.isl 9 ((l.map mv).map zw) false]) (fun l k=>l.length≤4611686018427387904∧∀x∈l,x.2.2.2.2.sz+x.2.2.2.1.length≤k)
 |0=>RB.zero (fun _=>c22.symm)
 |F+1=>RB.map (RB.slice Tryz.underlying22 c22 (by rw[c35];decide) (y3u F)) (fun x=>x) (fun _=>c22.symm) (fun l k ⟨_,hb,ks,h1,h2,h3⟩=>⟨⟨by rw[b35] at hb;unfold reachBytes at hb;omega,fun x hx=>by
  have:=z5n (f:=fun x:Msg=>x.2.2.2.2.sz+x.2.2.2.1.length) h1 h2
  have:=zti (List.mem_map_of_mem (f:=fun x:Msg=>x.2.2.2.2.sz+x.2.2.2.1.length) hx)
  omega⟩,by rw[c35,List.map_map];rfl⟩)
theorem y3q:RVB Tryz.prog 22 (List Msg) (fun l=>.isl 9 ((l.map mv).map zw) false) (fun l k=>l.length≤4611686018427387904∧∀x∈l,x.2.2.2.2.sz+x.2.2.2.1.length≤k):=RVB.slice Tryz.underlying22 rbM
theorem ra3:RA Tryz.prog 3 Int (fun(x:Int)=>[.int .i64 x]) (fun _=>True):=RA.map (RA.int Tryz.underlying3 c3) (fun x=>x) (fun _=>rfl) (fun y=>⟨y,rfl⟩) (fun _ _=>trivial)
theorem y43:RA Tryz.prog 29 G_Step z7 (fun _=>True):=by
 refine RA.map (RA.structN Tryz.underlying29 c29 (RF.cons (P:=Tryz.prog) (off:=0) (tot:=2) (m:=1) rfl c3 ra3 (RF.cons (P:=Tryz.prog) (off:=1) (tot:=1) (m:=1) rfl c3 ra3 (RF.cons (P:=Tryz.prog) (off:=2) (tot:=0) (m:=1) rfl c3 ra3 (RF.nil (P:=Tryz.prog) 3))))) (fun x=>(⟨x.1,x.2.1,x.2.2.1⟩:G_Step)) (fun _=>rfl) (fun y=>⟨(y.f_Do,y.f_A,y.f_B,()),rfl⟩) (fun x h=>trivial)
set_option maxRecDepth 20000 in
theorem y3w:RV Tryz.prog 23 (List G_Step) (fun l=>.isl 3 (l.map z7) false) (fun _=>True):=by
 intro H enc w v d ps base hv hd hw
 obtain⟨x,h1,h2⟩:=RV.slice (P:=Tryz.prog) Tryz.underlying23 y3r (by rw[c29];decide) y43 hv hd hw
 rw[c29] at h2
 exact⟨x,trivial,h2⟩
theorem y2h:RVB Tryz.prog 23 (List G_Step) (fun l=>.isl 3 (l.map z7) false) (fun _ _=>True):=RVB.of (@y3w)
theorem y27:RVsB Tryz.prog [23] (List G_Step×Unit) (fun x=>[.isl 3 (x.1.map z7) false]) (fun _ k=>∃k3 k4,True∧True∧k3+k4≤k):=
 @RVsB.cons _ 23 [] (List G_Step) Unit (fun l=>.isl 3 (l.map z7) false) (fun _=>[]) (fun _ _=>True) (fun _ _=>True) (@y2h) (@RVsB.nil _)
theorem rvs:RVsB Tryz.prog [22,23] (List Msg×List G_Step×Unit) (fun x=>[.isl 9 ((x.1.map mv).map zw) false,.isl 3 (x.2.1.map z7) false]) (fun x k=>∃k1 k2,(x.1.length≤4611686018427387904∧∀y∈x.1,y.2.2.2.2.sz+y.2.2.2.1.length≤k1)∧(∃k3 k4,True∧True∧k3+k4≤k2)∧k1+k2≤k):=
 @RVsB.cons _ 22 [23] (List Msg) (List G_Step×Unit) (fun l=>.isl 9 ((l.map mv).map zw) false) (fun x=>[.isl 3 (x.1.map z7) false]) (fun l k=>l.length≤4611686018427387904∧∀x∈l,x.2.2.2.2.sz+x.2.2.2.1.length≤k) (fun _ k=>∃k3 k4,True∧True∧k3+k4≤k) (@y3q) (@y27)
mutual
theorem zbq{H:Type}:∀d:DataW H,sz d≤Rows.uptoBulk d
 |.lit l=>by cases l<;>simp[sz,Rows.uptoBulk]
 |.nil=>by simp[sz,Rows.uptoBulk]
 |.ptr d=>by have:=zbq d;simp only[sz,Rows.uptoBulk];omega
 |.slice es sp=>by have:=Kd es;have:=Kd sp;simp only[sz,Rows.uptoBulk];omega
 |.agg ds=>by have:=Kd ds;simp only[sz,Rows.uptoBulk];omega
 |.iface _ d=>by have:=zbq d;simp only[sz,Rows.uptoBulk];omega
 |.map es=>by simp[sz,Rows.uptoBulk]
 |.held _=>by simp[sz,Rows.uptoBulk]
theorem Kd{H:Type}:∀ds:List (DataW H),szL ds≤Rows.uptoBulkAll ds
 |[]=>by simp[szL,Rows.uptoBulkAll]
 |d::r=>by have:=zbq d;have:=Kd r;simp only[szL,Rows.uptoBulkAll];omega
end
theorem zf7{H:Type}:∀a b:List (DataW H),Rows.uptoBulkAll a≤Rows.uptoBulkAll (a++b)
 |[],b=>by simp[Rows.uptoBulkAll]
 |d::r,b=>by have:=zf7 r b;simp only[List.cons_append,Rows.uptoBulkAll];omega
theorem zrh{H:Type}{ds gs:List (DataW H)}(h:Rows.uptoSmall H (ds++gs)=true):szL ds≤1048576:=by
 have h1:Rows.uptoBulkAll (ds++gs)≤1048576:=of_decide_eq_true h
 have:=Kd ds
 have:=zf7 ds gs
 omega
theorem gn0:Tryz.prog.globalNamed "unicode/utf8.first"=some 0:=by kernel_rfl
theorem gn1:Tryz.prog.globalNamed "unicode/utf8.acceptRanges"=some 1:=by kernel_rfl
theorem gy0:(Tryz.prog.globals[0]?).map (·.type)=some 127:=by kernel_rfl
theorem gy1:(Tryz.prog.globals[1]?).map (·.type)=some 130:=by kernel_rfl
theorem cc5:Tryz.prog.cellsOf 5=1:=by kernel_rfl
theorem y2t:Tryz.prog.cellsOf 127=256:=by kernel_rfl
theorem zzz:Tryz.prog.cellsOf 129=2:=by kernel_rfl
theorem zx3 {w:World} (h3:Lib.VarReads Tryz.prog w "unicode/utf8.first" Lib.firstData) (h4:Lib.VarReads Tryz.prog w "unicode/utf8.acceptRanges" Lib.acceptData):Lib.Utf8Tabs 0 1 w:=by
 refine⟨fun c hc=>?_,fun i hi=>?_⟩
 ·obtain⟨g,t,cs,fuel,p,hg,hty,hvar,hd⟩:=h3
  obtain rfl:=Option.some.inj (gn0.symm.trans hg)
  obtain rfl:=Option.some.inj (gy0.symm.trans hty)
  have hcs:=Lib.cells_of_tab Tryz.underlying127 Tryz.underlying5 cc5 y2t hd
  rw[World.var?_cell hg hvar c,←Array.getElem?_toList,hcs]
  simp[Lib.firstTab,hc]
 ·obtain⟨g,t,cs,fuel,p,hg,hty,hvar,hd⟩:=h4
  obtain rfl:=Option.some.inj (gn1.symm.trans hg)
  obtain rfl:=Option.some.inj (gy1.symm.trans hty)
  obtain⟨fuel',d,q,hdi,he⟩:=Lib.array_elem Tryz.underlying130 hd i hi
  simp only[List.getElem?_map,List.getElem?_range hi,Option.map_some,Option.some.injEq] at hdi
  subst hdi
  rw[zzz] at he
  have hcs:=Lib.ints_of_struct Tryz.underlying129 (fun j f hj=>by
   match j,hj with
   |0,hj=>simp at hj;subst hj;exact⟨Tryz.underlying5,rfl,cc5⟩
   |1,hj=>simp at hj;subst hj;exact⟨Tryz.underlying5,rfl,cc5⟩
   |j+2,hj=>simp at hj) (by rw[zzz];rfl) he
  have e0:=congrArg (·[0]?) hcs
  have e1:=congrArg (·[1]?) hcs
  simp only[List.getElem?_take,List.getElem?_drop] at e0 e1
  constructor
  ·rw[World.var?_cell hg hvar (2*i),←Array.getElem?_toList]
   simpa[Nat.mul_comm] using e0
  ·rw[World.var?_cell hg hvar (2*i+1),←Array.getElem?_toList]
   simpa[Nat.mul_comm] using e1
theorem y2c:(Rows.laid_unicode_utf8_first:DataW Unit)=Lib.firstData:=by kernel_rfl
theorem y28:(Rows.laid_unicode_utf8_acceptRanges:DataW Unit)=Lib.acceptData:=by kernel_rfl
theorem zv5 {w:World} {l:List (String×DataW Unit)} (hl:(l.all fun x=>x.2.handleName?.isNone)=true) (h1:("unicode/utf8.first",Rows.laid_unicode_utf8_first)∈l) (h2:("unicode/utf8.acceptRanges",Rows.laid_unicode_utf8_acceptRanges)∈l) (h:laidMetH Tryz.prog l w):GlobOk (old w) w:=by
 rw[MakeChecks.laidMetH_plain _ _ _ hl] at h
 have r1:=Lib.laidMet.reads h h1
 have r2:=Lib.laidMet.reads h h2
 rw[y2c] at r1
 rw[y28] at r2
 exact z6r zzu rfl rfl (zx3 r1 r2)
end Go.Proofs.YtlilpmnmedmjaaaGreatDoor
