/-
  The first evaluated expression: the walk down the nodes and the recursion say the same; no condition.
-/
import Derived.Test.YtjkfnbjgpilokaaGreatDoorGenA
import Derived.Test.YtjkfnbjgpilokaaGreatDoorFd
import Derived.Test.YtjkfnbjgpilokaaGreatDoorFc
import Derived.Test.YtjkfnbjgpilokaaGreatDoorRows
import Derived.Lib.LaidU8
import Derived.MakeChecks
import Derived.LaidOnce
open List renaming getElem?_eq_getElem→p2
open Option renaming bind_some→p1
namespace Go.Proofs.YtjkfnbjgpilokaaGreatDoor
open Go.Fx
set_option linter.unusedVariables false
theorem z59(m:Option Nat):yw m=some true:=rfl
theorem Wi{i:Nat}(h:i≤4611686018427387904):W ((i:Int)+1)=((i+1:Nat):Int):=by rw[zk4 (by unfold inR;omega)];omega
theorem z7c{α:Type}[Inhabited α]{l:List α}{i:Nat}(h:i<l.length):l.getD i default=l[i]:=by
 simp[List.getD_eq_getElem?_getD,h]
theorem zdy{α:Type}{f:Nat→Option α}{v:α}{d:Nat}(h:∀k,f k=some v∨(k<d∧f k=none)):zf1 none f=some v:=
 zcw (fun k o hk=>by rcases h k with h'|⟨_,h'⟩
                     ·exact Option.some.inj (hk.symm.trans h')
                     ·rw[h'] at hk;cases hk)
  ⟨d,by rcases h d with h'|⟨h',_⟩
        ·exact h'
        ·omega⟩
inductive Nd where
 |mk (kind value:Int) (text:List UInt8) (st en ns:Int) (kids:List Nd)
def Nd.kind:Nd→Int|.mk k _ _ _ _ _ _=>k
def Nd.value:Nd→Int|.mk _ v _ _ _ _ _=>v
def Nd.text:Nd→List UInt8|.mk _ _ t _ _ _ _=>t
def Nd.st:Nd→Int|.mk _ _ _ s _ _ _=>s
def Nd.en:Nd→Int|.mk _ _ _ _ e _ _=>e
def Nd.ns:Nd→Int|.mk _ _ _ _ _ n _=>n
def Nd.kids:Nd→List Nd|.mk _ _ _ _ _ _ c=>c
mutual
def Nd.raw:Nd→List AVal
 |.mk k v t s e n c=>qd ⟨k,v,t,s,e,n,Nd.rawL c⟩
def Nd.rawL:List Nd→List (List AVal)
 |[]=>[]
 |e::r=>e.raw::Nd.rawL r
end
theorem z65:∀es:List Nd,Nd.rawL es=es.map Nd.raw
 |[]=>rfl
 |e::r=>by unfold Nd.rawL;rw[z65 r];rfl
def Nd.val(n:Nd):G_Node:=⟨n.kind,n.value,n.text,n.st,n.en,n.ns,n.kids.map Nd.raw⟩
theorem z8w(n:Nd):n.raw=qd n.val:=by
 cases n with
 |mk k v t s e x c=>unfold Nd.raw Nd.val;rw[z65];rfl
theorem zin{x y:G_Node}(h:qd x=qd y):x=y:=by
 obtain⟨k,n,t,s,e,ns,es⟩:=x
 obtain⟨k',n',t',s',e',ns',es'⟩:=y
 simp only[qd,List.cons.injEq,AVal.int.injEq,AVal.str.injEq,AVal.isl.injEq,true_and,and_true] at h
 obtain⟨h1,h2,h3,h4,h5,h6,h7⟩:=h
 rw[show(ze:List AVal→List AVal)=id from rfl,List.map_id,List.map_id] at h7
 rw[h1,h2,h3,h4,h5,h6,h7]
theorem zif(n:Nd):xb n.raw=some n.val:=by
 rw[z8w]
 have h:∃x,qd n.val=qd x:=⟨_,rfl⟩
 unfold xb
 rw[dif_pos h]
 congr 1
 exact(zin (Classical.choose_spec h)).symm
theorem zes{n:Nd}{i:Nat}(h:i<n.kids.length):n.val.f_Children.getD i default=(n.kids[i]).raw:=by
 simp[Nd.val,List.getD_eq_getElem?_getD,h]
theorem Yz(n:Nd):(n.val.f_Children.map ze).length=n.kids.length:=by simp[Nd.val]
theorem zgn{n:Nd}{i:Nat}(h:i<n.kids.length):xb (n.val.f_Children.getD i default)=some (n.kids[i]).val:=by rw[zes h,zif]
mutual
def Nd.sz:Nd→Nat
 |.mk _ _ _ _ _ _ c=>1+Nd.szL c
def Nd.szL:List Nd→Nat
 |[]=>0
 |e::r=>e.sz+Nd.szL r
end
theorem zbr:∀ {es:List Nd} {e:Nd},e∈es→e.sz≤Nd.szL es
 |x::r,e,h=>by
  unfold Nd.szL
  rcases List.mem_cons.1 h with rfl|h
  ·omega
  ·have:=zbr h;omega
theorem zhh{n c:Nd}(h:c∈n.kids):c.sz<n.sz:=by
 cases n with
 |mk k v t s e x cs=>have:=zbr (es:=cs) h;rw[Nd.sz.eq_1];omega
theorem z1l{n c:Nd}{i:Nat}(h:n.kids[i]?=some c):c.sz<n.sz:=zhh (List.mem_of_getElem? h)
def ops:List Int:=[17,27,28,29,30,31,32,33,39,40]
theorem z3a{l:List Int}(hl:l.length≤4611686018427387904)(x:Int):∀ (k i:Nat),i+k=l.length →
 ∃r,yp none l x (i:Int)=some r∧(decide (r≥0)=true↔x∈l.drop i)
 |0,i,h=>by
  have:i=l.length:=by omega
  subst this
  refine⟨-1,?_,by simp⟩
  unfold yp
  rw[vw (x:=some (-1)) ?_]
  unfold yh qo
  rw[if_neg (by simp)]
 |k+1,i,h=>by
  have hi:i<l.length:=by omega
  obtain⟨r,ih,ih2⟩:=z3a hl x k (i+1) (by omega)
  have hb:yh none l x (i:Int)=if x=l[i] then some (.inr (i:Int)) else some (.inl ((i+1:Nat):Int)):=by
   unfold yh
   rw[if_pos (by simpa using hi),if_pos (by simpa using hi)]
   simp only[Int.toNat_natCast,z7c hi,Wi (show i≤4611686018427387904 by omega),beq_iff_eq,Option.map_some]
  unfold yp at ih ⊢
  rw[List.drop_eq_getElem_cons hi]
  by_cases hc:x=l[i]
  ·exact⟨(i:Int),vw (x:=some (i:Int)) (by rw[hb,if_pos hc];rfl),by simp[←hc]⟩
  ·refine⟨r,?_,?_⟩
   ·rw[Q3 (s':=((i+1:Nat):Int)) (by rw[hb,if_neg hc]),ih]
   ·rw[ih2,List.mem_cons];simp[hc]
theorem z13(x:Int):yn none x=some (decide (x∈ops)):=by
 unfold yn qa qq
 obtain⟨r,h1,h2⟩:=z3a (l:=ops) (by decide) x _ 0 (Nat.zero_add _)
 rw[List.drop_zero] at h2
 rw[show(([17,27,28,29,30,31,32,33,39,40]:List Int))=ops from rfl,show yp none ops x 0=some r from h1]
 simp only[p1]
 congr 1
 rw[Bool.eq_iff_iff,h2,decide_eq_true_eq]
theorem z35{l:List Int}(hl:l.length≤4611686018427387904)(x:Int):∀ (k i:Nat),i+k=l.length →
 y6 none l x (i:Int)=some (decide (x∈l.drop i))
 |0,i,h=>by
  have:i=l.length:=by omega
  subst this
  unfold y6
  rw[vw (x:=some false) ?_]
  ·simp
  ·unfold zp yl
   rw[if_neg (by simp)]
 |k+1,i,h=>by
  have hi:i<l.length:=by omega
  have ih:=z35 hl x k (i+1) (by omega)
  have hb:zp none l x (i:Int)=if l[i]=x then some (.inr true) else some (.inl ((i+1:Nat):Int)):=by
   unfold zp
   rw[if_pos (by simpa using hi),if_pos (by simpa using hi)]
   simp only[Int.toNat_natCast,z7c hi,Wi (show i≤4611686018427387904 by omega),beq_iff_eq,Option.map_some]
  unfold y6 at ih ⊢
  rw[List.drop_eq_getElem_cons hi]
  by_cases hc:l[i]=x
  ·rw[vw (x:=some true) (by rw[hb,if_pos hc];rfl),hc];simp
  ·rw[Q3 (s':=((i+1:Nat):Int)) (by rw[hb,if_neg hc]),ih]
   congr 1
   rw[Bool.eq_iff_iff,decide_eq_true_eq,decide_eq_true_eq,List.mem_cons]
   exact⟨.inr,fun h=>h.resolve_left fun e=>hc e.symm⟩
theorem zhj(x:Int):zz none ([17,27,28,29,30,31,32,33,39,40]:List Int) x=some (decide (x∈ops)):=by
 have:=z35 (l:=ops) (by decide) x _ 0 (Nat.zero_add _)
 rw[List.drop_zero] at this
 exact this
def hit(n:Nd)(s e:Int):Bool:=((n.st==s)&&(n.en==e))&&decide (n.kind∈ops)
def Ue(n:Nd)(s e:Int):Option Nd:=
 if n.kind=40 then if n.text=[42] then none else n.kids[0]?
 else if n.kind=30 then
  match n.kids[0]? with
  |none=>none
  |some t=>if t.kind=17∧¬(t.st=s∧t.en=e) then n.kids[1]? else some t
 else if n.kind=33 then
  match n.kids[1]? with
  |none=>none
  |some t=>t.kids[0]?
 else none
def pick(n:Nd)(s e:Int):Option Nd:=
 if n.kind=22 then n.kids[2]?
 else if n.kind=26∨n.kind=25∨n.kind=39∨n.kind=31∨n.kind=32∨n.kind=37∨n.kind=35 then n.kids[0]?
 else Ue n s e
def toR:Option Nd→G_Node×Bool
 |none=>(G_Node.mk 0 0 ([]:List UInt8) 0 0 0 ([]:List (List AVal)),false)
 |some c=>(c.val,true)
theorem Kf(n:Nd)(i:Nat):zw none n.val (i:Int)=some (toR n.kids[i]?):=by
 unfold zw
 rw[Yz]
 by_cases h:i<n.kids.length
 ·rw[if_neg (by simpa using h),if_pos (by omega),Int.toNat_natCast,zgn h,p2 h]
  rfl
 ·rw[if_pos (by simpa using h),List.getElem?_eq_none (by omega)]
  rfl
theorem cc0(n:Nd):zw none n.val 0=some (toR n.kids[0]?):=Kf n 0
theorem cc1(n:Nd):zw none n.val 1=some (toR n.kids[1]?):=Kf n 1
theorem cc2(n:Nd):zw none n.val 2=some (toR n.kids[2]?):=Kf n 2
theorem zjj(x:G_Node×Bool):(some ((G_Node.mk x.1.f_Kind x.1.f_Value x.1.f_Text x.1.f_Start x.1.f_End x.1.f_NameStart x.1.f_Children),x.2):Option (G_Node×Bool))=some x:=rfl
theorem zj8(n:Nd)(s e:Int)(v:Bool):zn none n.val s e v=some (toR (if v=true then n.kids[0]? else Ue n s e)):=by
 unfold zn yi
 rw[cc0,cc1]
 simp only[p1,zjj]
 rw[show n.val.f_Kind=n.kind from rfl,show n.val.f_Text=n.text from rfl]
 by_cases hv:v=true
 ·rw[if_pos hv,if_pos hv]
 ·rw[if_neg hv,if_neg hv]
  unfold Ue
  by_cases h40:n.kind=40
  ·rw[if_pos (show(n.kind==40)=true by simpa using h40),if_pos h40]
   by_cases ht:n.text=[42]
   ·rw[if_neg (by simp[ht]),if_pos ht];rfl
   ·rw[if_pos (by simpa using ht),if_neg ht]
  ·rw[if_neg (show ¬(n.kind==40)=true by simpa using h40),if_neg h40]
   by_cases h30:n.kind=30
   ·rw[if_pos (show(n.kind==30)=true by simpa using h30),if_pos h30]
    cases hk:n.kids[0]? with
    |none=>rw[if_neg (by simp[toR])]
    |some t=>
     show(if((true&&(t.kind==17))&&((t.st != s) || (t.en != e)))=true then some (toR n.kids[1]?) else some (toR (some t)))=some (toR (if t.kind=17∧¬(t.st=s∧t.en=e) then n.kids[1]? else some t))
     by_cases hc:t.kind=17∧¬(t.st=s∧t.en=e)
     ·rw[if_pos hc,if_pos]
      simp only[Bool.true_and,Bool.and_eq_true,beq_iff_eq,Bool.or_eq_true,bne_iff_ne,ne_eq]
      refine⟨hc.1,?_⟩
      by_cases h1:t.st=s
      ·exact .inr fun h2=>hc.2 ⟨h1,h2⟩
      ·exact .inl h1
     ·rw[if_neg hc,if_neg]
      simp only[Bool.true_and,Bool.and_eq_true,beq_iff_eq,Bool.or_eq_true,bne_iff_ne,ne_eq]
      rintro⟨h1,h2⟩
      exact hc ⟨h1,fun h3=>by rcases h2 with h2|h2;exact h2 h3.1;exact h2 h3.2⟩
   ·rw[if_neg (show ¬(n.kind==30)=true by simpa using h30),if_neg h30]
    by_cases h33:n.kind=33
    ·rw[if_pos (show(n.kind==33)=true by simpa using h33),if_pos h33]
     cases hk:n.kids[1]? with
     |none=>rw[if_neg (by simp[toR])];rfl
     |some t=>
      rw[if_pos (show(toR (some t)).2=true from rfl)]
      show(zw none t.val 0).bind _=_
      rw[cc0]
      rfl
    ·rw[if_neg (show ¬(n.kind==33)=true by simpa using h33),if_neg h33];rfl
theorem zj7(n:Nd)(s e:Int):yt none n.val s e=some (toR (pick n s e)):=by
 unfold yt pick
 simp only[cc2,zj8,p1,zjj]
 rw[show n.val.f_Kind=n.kind from rfl]
 generalize Ue n s e=B
 generalize n.kids[0]?=A
 generalize n.kids[2]?=C
 generalize n.kind=k
 by_cases h:k=22
 ·subst h;rfl
 ·rw[if_neg (by simpa using h),if_neg h]
  by_cases h1:k=26
  ·subst h1;simp
  ·by_cases h2:k=25
   ·subst h2;simp
   ·by_cases h3:k=39
    ·subst h3;simp
    ·by_cases h4:k=31
     ·subst h4;simp
     ·by_cases h5:k=32
      ·subst h5;simp
      ·by_cases h6:k=37
       ·subst h6;simp
       ·simp[h1,h2,h3,h4,h5,h6]
inductive Fe(s e:Int):Nd→Bool→Prop
 |hit {n:Nd}:hit n s e=true→Fe s e n true
 |stop {n:Nd}:hit n s e=false→pick n s e=none→Fe s e n false
 |step {n c:Nd} {b:Bool}:hit n s e=false→pick n s e=some c→Fe s e c b→Fe s e n b
theorem zcs{n c:Nd}{s e:Int}(h:pick n s e=some c):c.sz<n.sz:=by
 unfold pick Ue at h
 split at h
 ·exact z1l h
 ·split at h
  ·exact z1l h
  ·split at h
   ·split at h
    ·cases h
    ·exact z1l h
   ·split at h
    ·split at h
     ·cases h
     ·rename_i t ht
      split at h
      ·exact z1l h
      ·cases h;exact z1l ht
    ·split at h
     ·split at h
      ·cases h
      ·rename_i t ht
       exact Nat.lt_trans (z1l h) (z1l ht)
     ·cases h
theorem zhd(s e:Int):∀ (k:Nat) (n:Nd),n.sz≤k→∃b,Fe s e n b
 |0,n,h=>by cases n;rw[Nd.sz.eq_1] at h;omega
 |k+1,n,h=>by
  cases hh:hit n s e with
  |true=>exact⟨_,.hit hh⟩
  |false=>
   cases hp:pick n s e with
   |none=>exact⟨_,.stop hh hp⟩
   |some c=>
    obtain⟨b,hb⟩:=zhd s e k c (by have:=zcs hp;omega)
    exact⟨b,.step hh hp hb⟩
theorem zg1(n:Nd)(s e:Int):(if(((n.st==s)&&(n.en==e))==true)=true then yn none n.kind else some default).bind (fun v13=>some (((n.st==s)&&(n.en==e))&&v13))=some (hit n s e):=by
 unfold hit
 by_cases h:((n.st==s)&&(n.en==e))=true
 ·rw[if_pos (by rw[h];rfl),z13];rfl
 ·rw[if_neg (by simpa using h),Bool.not_eq_true] at *
  rw[h];rfl
theorem z60{α β:Type}{x:Option α}{f:α→Bool}{b:Bool}{A B:Option β}(h:x.bind (fun v=>some (f v))=some b):(x.bind fun v=>if f v=true then A else B)=if b=true then A else B:=by
 cases x with
 |none=>cases h
 |some v=>cases h;rfl
def nsv(o:G_Node×Bool):Bool×Int×Int×(List UInt8)×Int×Int×Int×(List (List AVal)):=(o.2,o.1.f_Kind,o.1.f_Value,o.1.f_Text,o.1.f_Start,o.1.f_End,o.1.f_NameStart,o.1.f_Children)
theorem zi0(n:Nd)(s e:Int):y4 none s e true n.kind n.value n.text n.st n.en n.ns (n.kids.map Nd.raw)=if hit n s e=true then some (.inr true) else some (.inl (nsv (toR (pick n s e)))):=by
 unfold y4
 rw[if_pos rfl,z60 (zg1 n s e),show(G_Node.mk n.kind n.value n.text n.st n.en n.ns (n.kids.map Nd.raw))=n.val from rfl,zj7]
 rfl
theorem zjo{s e:Int}{n:Nd}{b:Bool}(h:Fe s e n b):ye none n.val s e=some b:=by
 unfold ye qk
 induction h with
 |hit hh=>exact vw (x:=some true) ((zi0 _ s e).trans (by rw[if_pos hh];rfl))
 |@stop n hh hp=>
  rw[Q3 (s':=nsv (toR none)) ((zi0 n s e).trans (by rw[if_neg (by rw[hh];simp),hp]))]
  exact vw (x:=some false) rfl
 |@step n c b hh hp _ ih=>
  rw[Q3 (s':=nsv (toR (some c))) ((zi0 n s e).trans (by rw[if_neg (by rw[hh];simp),hp]))]
  exact ih
theorem zdk(n:Nd)(s e:Int):(if(((n.st==s)&&(n.en==e))==true)=true then zz none ([17,27,28,29,30,31,32,33,39,40]:List Int) n.kind else some default).bind (fun v13=>some (((n.st==s)&&(n.en==e))&&v13))=some (hit n s e):=by
 unfold hit
 by_cases h:((n.st==s)&&(n.en==e))=true
 ·rw[if_pos (by rw[h];rfl),zhj];rfl
 ·rw[if_neg (by simpa using h),Bool.not_eq_true] at *
  rw[h];rfl
def fin(r:G_Node→Int→Int→Option Bool)(s e:Int):Option Nd→Option Bool
 |none=>some false
 |some c=>r c.val s e
theorem zek(r:G_Node→Int→Int→Option Bool)(n:Nd)(s e:Int)(i:Nat):z6 r none n.val s e (i:Int)=fin r s e n.kids[i]?:=by
 unfold z6
 rw[Yz]
 by_cases h:i<n.kids.length
 ·have hc:((decide ((i:Int)≥0))&&(decide ((i:Int)<(n.kids.length:Int))))=true:=by simpa using h
  rw[hc,if_pos (by simpa using h),if_pos (by rfl),Int.toNat_natCast,zgn h,p1,if_pos (by rfl),p2 h]
  show(r _ s e).bind _=r _ s e
  cases r (n.kids[i]).val s e<;>rfl
 ·have hc:((decide ((i:Int)≥0))&&(decide ((i:Int)<(n.kids.length:Int))))=false:=by simpa using h
  rw[hc,if_pos (by simp),if_neg (by simp),p1,if_neg (by simp),p1,List.getElem?_eq_none (by omega)]
  rfl
theorem zgv(r:G_Node→Int→Int→Option Bool)(n:Nd)(s e:Int):z6 r none n.val s e (-1)=some false:=by
 unfold z6
 have hc:((decide ((-1:Int)≥0))&&(decide ((-1:Int)<((n.val.f_Children.map ze).length:Int))))=false:=by simp
 rw[hc,if_pos (by simp),if_neg (by simp),p1,if_neg (by simp),p1]
 rfl
theorem rr0(r:G_Node→Int→Int→Option Bool)(n:Nd)(s e:Int):z6 r none n.val s e 0=fin r s e n.kids[0]?:=zek r n s e 0
theorem rr1(r:G_Node→Int→Int→Option Bool)(n:Nd)(s e:Int):z6 r none n.val s e 1=fin r s e n.kids[1]?:=zek r n s e 1
theorem rr2(r:G_Node→Int→Int→Option Bool)(n:Nd)(s e:Int):z6 r none n.val s e 2=fin r s e n.kids[2]?:=zek r n s e 2
theorem zj9(r:G_Node→Int→Int→Option Bool)(n:Nd)(s e:Int)(v:Bool):z7 r none n.val s e v=fin r s e (if v=true then n.kids[0]? else Ue n s e):=by
 unfold z7
 rw[rr0,rr1,zgv,Yz,show n.val.f_Kind=n.kind from rfl,show n.val.f_Text=n.text from rfl]
 by_cases hv:v=true
 ·rw[if_pos hv,if_pos hv]
 ·rw[if_neg hv,if_neg hv]
  unfold Ue
  by_cases h40:n.kind=40
  ·rw[if_pos (show(n.kind==40)=true by simpa using h40),if_pos h40]
   by_cases ht:n.text=[42]
   ·rw[if_neg (by simp[ht]),if_pos ht];rfl
   ·rw[if_pos (by simpa using ht),if_neg ht]
  ·rw[if_neg (show ¬(n.kind==40)=true by simpa using h40),if_neg h40]
   by_cases h30:n.kind=30
   ·rw[if_pos (show(n.kind==30)=true by simpa using h30),if_pos h30]
    by_cases hl:0<n.kids.length
    ·have hd:xb (n.val.f_Children.getD ((0:Int).toNat) default)=some (n.kids[0]).val:=zgn hl
     have hg:(decide (((n.kids.length:Nat):Int) > 0))=true:=by simpa using hl
     rw[hg,hd,p2 hl]
     generalize n.kids[0]=t
     rw[if_pos (fun _=>by omega),if_pos (by rfl),p1,if_pos (fun _=>by omega)]
     simp only[Bool.true_and]
     rw[show t.val.f_Kind=t.kind from rfl]
     by_cases hk:t.kind=17
     ·have hk':(t.kind==17)=true:=by simpa using hk
      rw[hk',if_pos (by rfl),p1,if_pos (fun _=>by omega)]
      simp only[Bool.true_and]
      rw[show t.val.f_Start=t.st from rfl]
      by_cases hs:t.st=s
      ·have hs':(t.st==s)=true:=by simpa using hs
       rw[hs',if_pos (by rfl),p1,show t.val.f_End=t.en from rfl]
       by_cases he:t.en=e
       ·have he':(t.en==e)=true:=by simpa using he
        rw[he',if_neg (by simp)]
        show _=fin r s e (if t.kind=17∧¬(t.st=s∧t.en=e) then n.kids[1]? else some t)
        rw[if_neg (by rintro⟨_,h2⟩;exact h2 ⟨hs,he⟩)]
       ·have he':(t.en==e)=false:=by simpa using he
        rw[he',if_pos (by rfl)]
        show _=fin r s e (if t.kind=17∧¬(t.st=s∧t.en=e) then n.kids[1]? else some t)
        rw[if_pos ⟨hk,fun h2=>he h2.2⟩]
      ·have hs':(t.st==s)=false:=by simpa using hs
       rw[hs',if_neg (by simp),p1,if_pos (by rfl)]
       show _=fin r s e (if t.kind=17∧¬(t.st=s∧t.en=e) then n.kids[1]? else some t)
       rw[if_pos ⟨hk,fun h2=>hs h2.1⟩]
     ·have hk':(t.kind==17)=false:=by simpa using hk
      rw[hk',if_neg (by simp),p1,if_pos (fun _=>by omega),if_neg (by simp),p1,if_neg (by simp)]
      show _=fin r s e (if t.kind=17∧¬(t.st=s∧t.en=e) then n.kids[1]? else some t)
      rw[if_neg (fun h2=>hk h2.1)]
    ·have hg:(decide (((n.kids.length:Nat):Int) > 0))=false:=by simpa using hl
     have hnil:n.kids=[]:=List.eq_nil_of_length_eq_zero (by omega)
     rw[hg,if_pos (by simp),if_neg (by simp),p1,if_pos (by simp),if_neg (by simp),p1,if_pos (by simp),if_neg (by simp),p1,if_neg (by simp),hnil]
     rfl
   ·rw[if_neg (show ¬(n.kind==30)=true by simpa using h30),if_neg h30]
    by_cases h33:n.kind=33
    ·rw[if_pos (show(n.kind==33)=true by simpa using h33),if_pos h33]
     by_cases hl:1<n.kids.length
     ·have hd:xb (n.val.f_Children.getD ((1:Int).toNat) default)=some (n.kids[1]).val:=zgn hl
      have hg:(decide (((n.kids.length:Nat):Int) > 1))=true:=decide_eq_true (by omega)
      rw[hg,hd,p2 hl]
      generalize n.kids[1]=t
      rw[if_pos (fun _=>by omega),if_pos (by rfl),p1,Yz]
      simp only[Bool.true_and]
      show _=fin r s e t.kids[0]?
      by_cases ht:0<t.kids.length
      ·have hd2:xb (t.val.f_Children.getD ((0:Int).toNat) default)=some (t.kids[0]).val:=zgn ht
       rw[if_pos (by simpa using ht),if_pos (by omega),p1,Yz,if_pos (by omega),hd2,p1,p2 ht]
       show(r _ s e).bind _=r _ s e
       cases r (t.kids[0]).val s e<;>rfl
      ·rw[if_neg (by simpa using ht),List.getElem?_eq_none (by omega)];rfl
     ·have hg:(decide (((n.kids.length:Nat):Int) > 1))=false:=decide_eq_false (by omega)
      rw[hg,if_pos (by simp),if_neg (by simp),p1,if_neg (by simp),List.getElem?_eq_none (by omega)]
      rfl
    ·rw[if_neg (show ¬(n.kind==33)=true by simpa using h33),if_neg h33];rfl
theorem zhw(r:G_Node→Int→Int→Option Bool)(n:Nd)(s e:Int):zo r none n.val s e=if hit n s e=true then some true else fin r s e (pick n s e):=by
 unfold zo
 rw[show n.val.f_Kind=n.kind from rfl,show n.val.f_Start=n.st from rfl,show n.val.f_End=n.en from rfl,z60 (zdk n s e)]
 simp only[rr2,zj9]
 unfold pick
 generalize Ue n s e=B
 generalize n.kids[0]?=A
 generalize n.kids[2]?=C
 generalize n.kind=k
 congr 1
 by_cases h:k=22
 ·subst h;rfl
 ·rw[if_neg (by simpa using h),if_neg h]
  by_cases h1:k=26
  ·subst h1;simp
  ·by_cases h2:k=25
   ·subst h2;simp
   ·by_cases h3:k=39
    ·subst h3;simp
    ·by_cases h4:k=31
     ·subst h4;simp
     ·by_cases h5:k=32
      ·subst h5;simp
      ·by_cases h6:k=37
       ·subst h6;simp
       ·simp[h1,h2,h3,h4,h5,h6]
theorem zke{s e:Int}{n:Nd}{b:Bool}(h:Fe s e n b):∃d,∀k,zj none k n.val s e=some b∨(k<d∧zj none k n.val s e=none):=by
 induction h with
 |@hit n hh=>
  refine⟨1,fun k=>?_⟩
  cases k with
  |zero=>exact .inr ⟨by omega,rfl⟩
  |succ k=>exact .inl ((zhw _ n s e).trans (by rw[if_pos hh]))
 |@stop n hh hp=>
  refine⟨1,fun k=>?_⟩
  cases k with
  |zero=>exact .inr ⟨by omega,rfl⟩
  |succ k=>exact .inl ((zhw _ n s e).trans (by rw[if_neg (by rw[hh];simp),hp];rfl))
 |@step n c b hh hp _ ih=>
  obtain⟨d,ih⟩:=ih
  refine⟨d+1,fun k=>?_⟩
  cases k with
  |zero=>exact .inr ⟨by omega,rfl⟩
  |succ k=>
   have e1:zj none (k+1) n.val s e=zj none k c.val s e:=(zhw _ n s e).trans (by rw[if_neg (by rw[hh];simp),hp];rfl)
   rw[e1]
   rcases ih k with h|⟨h1,h2⟩
   ·exact .inl h
   ·exact .inr ⟨by omega,h2⟩
theorem zia{s e:Int}{n:Nd}{b:Bool}(h:Fe s e n b):y1 none n.val s e=some b:=by
 have e1:y1 none n.val s e=if hit n s e=true then some true else fin (zq none) s e (pick n s e):=zhw (zq none) n s e
 rw[e1]
 cases h with
 |hit hh=>rw[if_pos hh]
 |stop hh hp=>rw[if_neg (by rw[hh];simp),hp];rfl
 |@step _ c _ hh hp hc=>
  rw[if_neg (by rw[hh];simp),hp]
  obtain⟨d,hd⟩:=zke hc
  exact zdy (d:=d) hd
theorem zk3(n:Nd)(s e:Int):zd none n.val s e=some true:=by
 obtain⟨b,hb⟩:=zhd s e n.sz n (Nat.le_refl _)
 unfold zd
 rw[z59,p1,if_neg (by decide),zjo hb,zia hb,p1,p1]
 simp
open Go.Fx Go.RowKit
theorem c3:Tryz.prog.cellsOf 3=1:=by kernel_rfl
theorem c9:Tryz.prog.cellsOf 9=1:=by kernel_rfl
theorem c43:Tryz.prog.cellsOf 43=1:=by kernel_rfl
theorem c45:Tryz.prog.cellsOf 45=7:=by kernel_rfl
theorem rbI(F:Nat):RB Tryz.prog F 3 Int (fun x=>[.int .i64 x]) (fun _ _=>True):=
 RB.map (RB.of (F:=F) (RA.int Tryz.underlying3 c3)) (fun x=>x) (fun _=>c3.symm) (fun _ _ _=>⟨trivial,rfl⟩)
theorem rbS(F:Nat):RB Tryz.prog F 9 (List UInt8) (fun l=>[.str l]) (fun _ _=>True):=
 RB.map (RB.string (F:=F) Tryz.underlying9 c9) (fun x=>x) (fun _=>c9.symm) (fun _ _ _=>⟨trivial,rfl⟩)
set_option maxRecDepth 20000 in
theorem rbN:∀F:Nat,RB Tryz.prog F 45 Nd (fun n=>qd n.val) (fun _ _=>True)∧RB Tryz.prog F 43 (List Nd) (fun l=>[.isl 7 ((l.map Nd.raw).map ze) false]) (fun _ _=>True)
 |0=>⟨RB.zero (fun _=>c45.symm),RB.zero (fun _=>c43.symm)⟩
 |F+1=>by
  obtain⟨ih1,ih2⟩:=rbN F
  refine⟨RB.map (RB.structN Tryz.underlying45 c45 (RG.cons (P:=Tryz.prog) (off:=0) (tot:=6) (m:=1) rfl c3 (rbI F) (RG.cons (P:=Tryz.prog) (off:=1) (tot:=5) (m:=1) rfl c3 (rbI F) (RG.cons (P:=Tryz.prog) (off:=2) (tot:=4) (m:=1) rfl c9 (rbS F) (RG.cons (P:=Tryz.prog) (off:=3) (tot:=3) (m:=1) rfl c3 (rbI F) (RG.cons (P:=Tryz.prog) (off:=4) (tot:=2) (m:=1) rfl c3 (rbI F) (RG.cons (P:=Tryz.prog) (off:=5) (tot:=1) (m:=1) rfl c3 (rbI F) (RG.cons (P:=Tryz.prog) (off:=6) (tot:=0) (m:=1) rfl c43 ih2 (RG.nil (P:=Tryz.prog) 7)))))))))
   (fun x=>Nd.mk x.1 x.2.1 x.2.2.1 x.2.2.2.1 x.2.2.2.2.1 x.2.2.2.2.2.1 x.2.2.2.2.2.2.1) (fun _=>c45.symm) (fun x k h=>⟨trivial,rfl⟩),?_⟩
  refine RB.map (RB.slice Tryz.underlying43 c43 (by rw[c45];decide) ih1) (fun x=>x) (fun _=>c43.symm) (fun l k _=>⟨trivial,?_⟩)
  rw[c45,List.map_map]
  congr 3
  funext j
  exact z8w j
theorem zjy(F:Nat):RB Tryz.prog F 45 Nd (fun n=>qd n.val) (fun _ _=>True):=(rbN F).1
theorem zka:RVB Tryz.prog 45 Nd (fun n=>.agg (qd n.val)) (fun _ _=>True):=RVB.struct Tryz.underlying45 zjy
def I3(x:Int)(_:Nat):Prop:=IntKind.min .i64≤x∧x≤IntKind.max .i64
theorem rv3:RVB Tryz.prog 3 Int (fun x=>.int .i64 x) I3:=RVB.of (RV.int Tryz.underlying3 c3)
theorem zkd:RVsB Tryz.prog [3] (Int×Unit) (fun x=>[.int .i64 x.1]) (fun x k=>∃k1 k2,I3 x.1 k1∧True∧k1+k2≤k):=
 @RVsB.cons _ 3 [] Int Unit (fun x=>.int .i64 x) (fun _=>[]) I3 (fun _ _=>True) (@rv3) (@RVsB.nil _)
theorem zk9:RVsB Tryz.prog [3,3] (Int×Int×Unit) (fun x=>[.int .i64 x.1,.int .i64 x.2.1]) (fun x k=>∃k1 k2,I3 x.1 k1∧(∃k1' k2',I3 x.2.1 k1'∧True∧k1'+k2'≤k2)∧k1+k2≤k):=
 @RVsB.cons _ 3 [3] Int (Int×Unit) (fun x=>.int .i64 x) (fun x=>[.int .i64 x.1]) I3 (fun x k=>∃k1 k2,I3 x.1 k1∧True∧k1+k2≤k) (@rv3) (@zkd)
theorem zk6:RVsB Tryz.prog [45,3,3] (Nd×Int×Int×Unit) (fun x=>[.agg (qd x.1.val),.int .i64 x.2.1,.int .i64 x.2.2.1]) (fun x k=>∃k1 k2,True∧(∃k1' k2',I3 x.2.1 k1'∧(∃k3 k4,I3 x.2.2.1 k3∧True∧k3+k4≤k2')∧k1'+k2'≤k2)∧k1+k2≤k):=
 @RVsB.cons _ 45 [3,3] Nd (Int×Int×Unit) (fun n=>.agg (qd n.val)) (fun x=>[.int .i64 x.1,.int .i64 x.2.1]) (fun _ _=>True) (fun x k=>∃k1 k2,I3 x.1 k1∧(∃k1' k2',I3 x.2.1 k1'∧True∧k1'+k2'≤k2)∧k1+k2≤k) (@zka) (@zk9)
def spT:List Int:=(List.range 256).map fun c=>if Lib.isSp (UInt8.ofNat c) then 1 else 0
theorem zkb:Uo=zf2 .u8 spT:=by unfold Uo zf2 spT;rw[List.map_map];rfl
theorem zis:(Rows.laid_strings_asciiSpace:DataW Unit)=Lib.tabData .u8 spT:=by kernel_rfl
theorem gn1:Tryz.prog.globalNamed "strings.asciiSpace"=some 0:=by kernel_rfl
theorem gy1:(Tryz.prog.globals[0]?).map (·.type)=some 233:=by kernel_rfl
theorem zj1:∃e,Tryz.prog.underlying 233=some (.array 256 e)∧Tryz.prog.underlying e=some (.int .u8)∧Tryz.prog.cellsOf e=1∧Tryz.prog.cellsOf 233=256:=⟨_,Tryz.underlying233,by kernel_rfl,by kernel_rfl,by kernel_rfl⟩
theorem ziz {w:World} (h:Lib.VarReads Tryz.prog w "strings.asciiSpace" (Lib.tabData .u8 spT)):Lib.TabIs Tryz.prog w "strings.asciiSpace" .u8 spT:=by
 obtain⟨g,t,cs,fuel,p,hg,hty,hvar,hd⟩:=h
 obtain rfl:=Option.some.inj (gn1.symm.trans hg)
 obtain rfl:=Option.some.inj (gy1.symm.trans hty)
 obtain⟨e,h1,h2,h3,h4⟩:=zj1
 have hcs:=Lib.cells_of_tab h1 h2 h3 h4 hd
 unfold Lib.TabIs
 rw[hvar,←hcs]
theorem zd0 {w:World} {l:List (String×DataW Unit)} (hl:(l.all fun x=>x.2.handleName?.isNone)=true) (h1:("strings.asciiSpace",Rows.laid_strings_asciiSpace)∈l) (h:laidMetH Tryz.prog l w):GlobOk (old w) w:=by
 rw[MakeChecks.laidMetH_plain _ _ _ hl] at h
 have r1:=Lib.laidMet.reads h h1
 rw[zis] at r1
 have c1:=zbh gn1 (ziz r1)
 refine⟨fun x hx=>?_,fun g hg=>nomatch hg⟩
 rw[zju,zkb] at hx
 rcases List.mem_cons.1 hx with rfl|hx
 ·exact⟨fun _=>c1.1,c1.2⟩
 ·cases hx
end Go.Proofs.YtjkfnbjgpilokaaGreatDoor
