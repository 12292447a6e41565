/-
  Own text L1 of this claim: what functions of the given program compute, in plain Lean, and the proof; no condition.
-/
import Derived.Test.YtbohjnffcnhgeaaGenC
import Derived.Test.YtbohjnffcnhgeaaFc
open Bool renaming and_eq_true→pH,false_or→pJ
open Int renaming toNat_natCast→p0
open List renaming getElem_mem→p2,drop_eq_getElem_cons→p3,length_map→p5,length_append→p6,drop_zero→p7,replicate→p8,length_singleton→p9,take_succ_eq_append_getElem→pA,mem_cons→pB,mem_or_eq_of_mem_set→pC,length_take→pD,any_eq_true→pE,take_of_length_le→pF,length_set→pG,any_cons→pI,mem_append→pK
open Nat renaming zero_add→p4
open Option renaming bind_some→p1
namespace Go.Proofs.Ytbohjnffcnhgeaa
open Go.Fx
set_option linter.unusedVariables false
theorem z6a:y5 (some 4096)=some true:=by kernel_rfl
theorem Wi{i:Nat}(h:i≤4611686018427387904):W ((i:Int)+1)=((i+1:Nat):Int):=by rw[zyv (by unfold inR;omega)];omega
theorem zf{α:Type}[Inhabited α]{l:List α}{i:Nat}(h:i<l.length):l.getD i default=l[i]:=by
 simp[List.getD_eq_getElem?_getD,h]
def rng(x:Int):Prop:=0≤x∧x<1048576
theorem zv1{a b:Nat}(h:a<1048576):a &&& b<1048576:=Nat.lt_of_le_of_lt Nat.and_le_left h
theorem y18{a b:Nat}(h:a<1048576)(h':b<1048576):a ||| b<1048576:=Nat.or_lt_two_pow (n:=20) h h'
def z0z(x y:Int):Int:=((x.toNat &&& y.toNat:Nat):Int)
def bor(x y:Int):Int:=((x.toNat ||| y.toNat:Nat):Int)
theorem z02{x y:Int}(h:rng x):rng (z0z x y):=by
 unfold rng z0z at *
 have:=zv1 (a:=x.toNat) (b:=y.toNat) (by omega)
 omega
theorem Uk{x y:Int}(h:rng x)(h':rng y):rng (bor x y):=by
 unfold rng bor at *
 have:=y18 (a:=x.toNat) (b:=y.toNat) (by omega) (by omega)
 omega
theorem Qs{x:Int}(h:rng x):(BitVec.ofInt 64 x).toNat=x.toNat:=by
 unfold rng at h
 rw[BitVec.toNat_ofInt]
 have:x % (2 ^ 64:Nat)=x:=Int.emod_eq_of_lt h.1 (by omega)
 rw[this]
theorem z4f{x y:Int}(h:rng x)(h':rng y):y6 .and .i64 x y=z0z x y:=by
 have hr:=z02 (y:=y) h
 unfold y6
 simp only
 have e:((BitVec.ofInt (IntKind.bits .i64) x &&& BitVec.ofInt (IntKind.bits .i64) y).toNat:Int)=z0z x y:=by
  rw[BitVec.toNat_and]
  show(((BitVec.ofInt 64 x).toNat &&& (BitVec.ofInt 64 y).toNat:Nat):Int)=_
  rw[Qs h,Qs h'];rfl
 rw[e]
 exact zyv (by unfold inR;unfold rng at hr;omega)
theorem z0e{x y:Int}(h:rng x)(h':rng y):y6 .or .i64 x y=bor x y:=by
 have hr:=Uk h h'
 unfold y6
 simp only
 have e:((BitVec.ofInt (IntKind.bits .i64) x ||| BitVec.ofInt (IntKind.bits .i64) y).toNat:Int)=bor x y:=by
  rw[BitVec.toNat_or]
  show(((BitVec.ofInt 64 x).toNat ||| (BitVec.ofInt 64 y).toNat:Nat):Int)=_
  rw[Qs h,Qs h'];rfl
 rw[e]
 exact zyv (by unfold inR;unfold rng at hr;omega)
def tb(x:Int)(t:Nat):Bool:=x.toNat.testBit t
theorem z3m(x y:Int)(t:Nat):tb (z0z x y) t=(tb x t&&tb y t):=by simp[tb,z0z]
theorem Kf(x y:Int)(t:Nat):tb (bor x y) t=(tb x t || tb y t):=by simp[tb,bor]
theorem zlo{x y:Int}(h:rng x)(h':rng y)(e:∀t,tb x t=tb y t):x=y:=by
 have:x.toNat=y.toNat:=Nat.eq_of_testBit_eq e
 unfold rng at h h';omega
theorem zzz{x y:Int}(h:rng x):x≤bor x y:=by
 have:x.toNat≤x.toNat ||| y.toNat:=Nat.left_le_or
 unfold bor;unfold rng at h;omega
def Rok(n:Nat)(r:GR):Prop:=rng r.fM∧r.fA.length≤60∧∀k∈r.fA,0≤k∧k<(n:Int)
noncomputable def dvl(s:List Int)(ks:List Int)(a:Int):Int:=ks.foldl (fun a k=>z0z a (s.getD k.toNat default)) a
noncomputable def dv(s:List Int)(r:GR):Int:=dvl s r.fA r.fM
noncomputable def dAl(s:List Int)(l:List GR)(a:Int):Int:=l.foldl (fun a r=>bor a (dv s r)) a
noncomputable def dA(s:List Int)(l:List GR):Int:=dAl s l 0
def Sok(n:Nat)(s:List Int):Prop:=s.length=n∧∀x∈s,rng x
theorem Sok.at{n:Nat}{s:List Int}(h:Sok n s){k:Nat}(hk:k<n):rng (s.getD k default):=by
 have hl:k<s.length:=by rw[h.1];exact hk
 rw[zf hl];exact h.2 _ (p2 hl)
theorem zm0{s:List Int}:∀ (ks:List Int) {a:Int},rng a→rng (dvl s ks a)
 |[],a,h=>h
 |k::r,a,h=>zm0 r (z02 h)
theorem z6g{n:Nat}{s:List Int}{r:GR}(h:Rok n r):rng (dv s r):=zm0 _ h.1
theorem zo6{n:Nat}{s:List Int}:∀ (l:List GR) {a:Int},(∀r∈l,Rok n r)→rng a→rng (dAl s l a)
 |[],a,_,h=>h
 |r::l,a,hr,h=>zo6 l (fun x hx=>hr x (List.mem_cons_of_mem _ hx)) (Uk h (z6g (hr r (List.mem_cons_self ..))))
theorem zux{n:Nat}{s:List Int}{l:List GR}(hr:∀r∈l,Rok n r):rng (dA s l):=zo6 l hr (by unfold rng;omega)
theorem zv4(s:List Int)(t:Nat):∀ (ks:List Int) (a:Int),tb (dvl s ks a) t=(tb a t&&ks.all fun k=>tb (s.getD k.toNat default) t)
 |[],a=>by simp[dvl]
 |k::r,a=>by
  have:=zv4 s t r (z0z a (s.getD k.toNat default))
  unfold dvl at this ⊢
  rw[List.foldl_cons,this,z3m,List.all_cons,Bool.and_assoc]
theorem zus(s:List Int)(t:Nat):∀ (l:List GR) (a:Int),tb (dAl s l a) t=(tb a t || l.any fun r=>tb (dv s r) t)
 |[],a=>by simp[dAl]
 |k::r,a=>by
  have:=zus s t r (bor a (dv s k))
  unfold dAl at this ⊢
  rw[List.foldl_cons,this,Kf,pI,Bool.or_assoc]
theorem zqt(s:List Int)(r:GR)(t:Nat):tb (dv s r) t=(tb r.fM t&&r.fA.all fun k=>tb (s.getD k.toNat default) t):=zv4 s t _ _
theorem zfg(s:List Int)(l:List GR)(t:Nat):tb (dA s l) t=l.any fun r=>tb (dv s r) t:=by
 have:=zus s t l 0
 have e:tb 0 t=false:=by simp[tb]
 rw[e,pJ] at this
 exact this
theorem z49{n:Nat}{s:List Int}(hs:Sok n s){r:GR}(hr:Rok n r):∀ (k i:Nat) (a:Int),i+k=r.fA.length→rng a→uf none r s a (i:Int)=some (dvl s (r.fA.drop i) a)
 |0,i,a,h,ha=>by
  have:i=r.fA.length:=by omega
  subst this
  unfold uf
  rw[zl (x:=some a) ?_]
  ·simp[dvl]
  ·unfold kg Zf
   rw[if_neg (by simp)]
 |k+1,i,a,h,ha=>by
  have hi:i<r.fA.length:=by omega
  have h60:=hr.2.1
  obtain⟨g1,g2⟩:=hr.2.2 _ (p2 hi)
  have hx:=hs.at (k:=r.fA[i].toNat) (by omega)
  have ih:=z49 hs hr k (i+1) (z0z a (s.getD r.fA[i].toNat default)) (by omega) (z02 ha)
  unfold uf at ih ⊢
  rw[p3 hi]
  have e:dvl s (r.fA[i]::r.fA.drop (i+1)) a=dvl s (r.fA.drop (i+1)) (z0z a (s.getD r.fA[i].toNat default)):=rfl
  rw[e,←ih]
  refine zw ?_
  unfold kg
  rw[if_pos (by simpa using hi),if_pos (by simpa using hi)]
  simp only[p0,zf hi]
  rw[if_pos (by rw[p5,hs.1];exact⟨g1,g2⟩),z4f ha hx,Wi (by omega)]
theorem z3v{n:Nat}{s:List Int}(hs:Sok n s){r:GR}(hr:Rok n r):vo none r s=some (dv s r):=by
 have:=z49 hs hr _ 0 r.fM (p4 _) hr.1
 simpa[vo,dv] using this
theorem U7{n:Nat}{s:List Int}(hs:Sok n s){l:List GR}(hl:l.length≤20)(hr:∀r∈l,Rok n r):∀ (k i:Nat) (a:Int),i+k=l.length→rng a→k7 none l s a (i:Int)=some (dAl s (l.drop i) a)
 |0,i,a,h,ha=>by
  have:i=l.length:=by omega
  subst this
  unfold k7
  rw[zl (x:=some a) ?_]
  ·simp[dAl]
  ·unfold w6 uj
   rw[if_neg (by simp)]
 |k+1,i,a,h,ha=>by
  have hi:i<l.length:=by omega
  have hx:=hr _ (p2 hi)
  have ih:=U7 hs hl hr k (i+1) (bor a (dv s l[i])) (by omega) (Uk ha (z6g hx))
  unfold k7 at ih ⊢
  rw[p3 hi]
  have e:dAl s (l[i]::l.drop (i+1)) a=dAl s (l.drop (i+1)) (bor a (dv s l[i])):=rfl
  rw[e,←ih]
  refine zw ?_
  unfold w6
  rw[if_pos (by simpa using hi),if_pos (by simpa using hi)]
  simp only[p0,zf hi]
  have e3:(⟨l[i].fM,l[i].fA⟩:GR)=l[i]:=rfl
  rw[e3,z3v hs hx,p1,z0e ha (z6g hx),Wi (by omega)]
theorem z1t{n:Nat}{s:List Int}(hs:Sok n s){l:List GR}(hl:l.length≤20)(hr:∀r∈l,Rok n r):jl none l s=some (dA s l):=by
 have:=U7 hs hl hr _ 0 0 (p4 _) (by unfold rng;omega)
 simpa[jl,dA] using this
abbrev Yj:=List (List GR)
structure Valid(p:Yj):Prop where
 n60:p.length≤60
 l20:∀l∈p,l.length≤20
 ok:∀l∈p,∀r∈l,Rok p.length r
noncomputable def Fs(p:Yj)(s:List Int):List Int:=p.map (dA s)
theorem z5a{p:Yj}(hv:Valid p)(s:List Int):Sok p.length (Fs p s):=by
 refine⟨by simp[Fs],fun x hx=>?_⟩
 obtain⟨l,hl,rfl⟩:=List.mem_map.1 hx
 exact zux (hv.ok l hl)
theorem z82(n:Nat):Sok n (p8 n 0):=⟨by simp,fun x hx=>by rw[List.eq_of_mem_replicate hx];unfold rng;omega⟩
theorem z4a{p:Yj}{s:List Int}{i:Nat}(h:i<p.length):(Fs p s).getD i default=dA s p[i]:=by
 have:i<(Fs p s).length:=by simpa[Fs] using h
 rw[zf this];simp[Fs]
theorem zim{a b:List Int}(hl:a.length=b.length)(h64:a.length≤4611686018427387904):∀ (k i:Nat),i+k=a.length→jp none a b (i:Int)=some (decide (a.drop i=b.drop i))
 |0,i,h=>by
  have:i=a.length:=by omega
  subst this
  unfold jp
  rw[zl (x:=some true) ?_]
  ·rw[List.drop_length,hl,List.drop_length];rfl
  ·unfold qg vp
   rw[if_neg (by simp)]
 |k+1,i,h=>by
  have hi:i<a.length:=by omega
  have hi':i<b.length:=by omega
  have ih:=zim hl h64 k (i+1) (by omega)
  unfold jp at ih ⊢
  rw[p3 hi,p3 hi']
  have hb:qg none a b (i:Int)=if a[i]=b[i] then some (.inl ((i+1:Nat):Int)) else some (.inr false):=by
   unfold qg
   rw[if_pos (by simpa using hi),if_pos (by simpa using hi),if_pos (by simpa using hi')]
   simp only[p0,zf hi,zf hi']
   by_cases he:a[i]=b[i]
   ·rw[if_neg (by simp[he]),if_pos he,Wi (by omega)]
   ·rw[if_pos (by simpa using he),if_neg he];rfl
  by_cases he:a[i]=b[i]
  ·rw[zw (s':=((i+1:Nat):Int)) (by rw[hb,if_pos he]),ih]
   exact congrArg some (decide_eq_decide.2 (by rw[List.cons.injEq];simp only[he,true_and]))
  ·rw[zl (x:=some false) (by rw[hb,if_neg he];rfl)]
   rw[decide_eq_false (by rw[List.cons.injEq];exact fun h=>he h.1)]
theorem zhc{a b:List Int}(h64:a.length≤4611686018427387904):zq none a b=some (decide (a=b)):=by
 unfold zq
 by_cases hl:a.length=b.length
 ·rw[if_neg (by simp[hl])]
  have:=zim hl h64 _ 0 (p4 _)
  simpa using this
 ·rw[if_pos (by simpa using fun h=>hl (by omega))]
  have:a≠b:=fun h=>hl (by rw[h])
  simp[this]
theorem zzk{a b:List Int}(h64:a.length≤4611686018427387904):Z6 none a b=some (decide (a=b)):=zhc h64
section
variable {p:Yj} (hv:Valid p)
include hv
theorem zaz{v8:Int}{s:List Int}(hs:Sok p.length s):∀ (k i:Nat) (nx:List Int),i+k=p.length→nx.length=p.length→nx.take i=(Fs p s).take i→ug none p v8 s (i:Int) nx=ke none p v8 s (Fs p s)
 |0,i,nx,h,hl,ht=>by
  have:i=p.length:=by omega
  subst this
  have e:nx=Fs p s:=by
   rw[pF (by omega),pF (by rw[(z5a hv s).1];exact Nat.le_refl _)] at ht
   exact ht
  unfold ug
  rw[zl (x:=ke none p v8 s (Fs p s)) ?_]
  unfold kf
  rw[if_neg (by simp),e]
 |k+1,i,nx,h,hl,ht=>by
  have hi:i<p.length:=by omega
  have h60:=hv.n60
  have hF:i<(Fs p s).length:=by rw[(z5a hv s).1];exact hi
  have ih:=zaz hs (v8:=v8) k (i+1) (nx.set i (dA s p[i])) (by omega) (by simpa using hl) (by
   rw[pA (by simpa[hl] using hi),pA hF,List.take_set_of_le (Nat.le_refl i),ht]
   simp[Fs])
  unfold ug at ih ⊢
  rw[←ih]
  refine zw ?_
  unfold kf
  rw[if_pos (by simpa using hi),if_pos (by simpa using hi)]
  simp only[p0,zf hi]
  rw[z1t hs (hv.l20 _ (p2 hi)) (hv.ok _ (p2 hi)),p1,if_pos (by omega),if_pos (by omega),Wi (by omega),p4]
theorem z4v{v8:Int}{s:List Int}(hs:Sok p.length s):kj none p v8 s=if Fs p s=s then some (.inr (v8,0)) else some (.inl (W (v8+1),Fs p s)):=by
 have h60:=hv.n60
 unfold kj
 have hlen:(p.map z6).length=p.length:=by simp
 rw[if_pos (by rw[hlen];omega)]
 have:=zaz hv hs (v8:=v8) p.length 0 (p8 p.length 0) (by omega) (by simp) (by simp)
 rw[show(((0:Nat):Int))=0 from rfl] at this
 rw[hlen,p0,this]
 unfold ke Zg
 rw[zzk (by rw[(z5a hv s).1];omega),p1]
 by_cases he:Fs p s=s
 ·rw[if_pos (by simpa using he),if_pos he];rfl
 ·rw[if_neg (by simpa using he),if_neg he]
theorem zvg{s:List Int}(hs:Sok p.length s){i j:Nat}(hi:i<p.length)(hj:j<p[i].length){nx:List Int}(hl:nx.length=p.length){d0:Int} :
 ∀ (k q:Nat) (d:Int),q+k=p[i][j].fA.length→rng d→rng (nx.getD i default)→wi none p s (i:Int) (j:Int) nx d (q:Int)=some (.inl (((j+1:Nat):Int),nx.set i (bor (nx.getD i default) (dvl s (p[i][j].fA.drop q) d))))
 |0,q,d,h,hd,hn=>by
  have h60:=hv.n60
  have h20:=hv.l20 _ (p2 hi)
  have:q=p[i][j].fA.length:=by omega
  subst this
  unfold wi
  rw[zl (x:=some (.inl (((j+1:Nat):Int),nx.set i (bor (nx.getD i default) d)))) ?_]
  ·rw[List.drop_length];rfl
  ·unfold jj ky u5
   simp only[p0,zf hi,zf hj]
   rw[if_neg (by simp),if_pos (by omega),if_pos (by omega),if_pos (by omega),if_pos (by omega),p4,z0e hn hd,Wi (by omega)]
 |k+1,q,d,h,hd,hn=>by
  have h60:=hv.n60
  have hr:=hv.ok _ (p2 hi) _ (p2 hj)
  have h61:=hr.2.1
  have hq:q<p[i][j].fA.length:=by omega
  obtain⟨g1,g2⟩:=hr.2.2 _ (p2 hq)
  have hx:=hs.at (k:=p[i][j].fA[q].toNat) (by omega)
  have ih:=zvg hs hi hj hl (d0:=d0) k (q+1) (z0z d (s.getD p[i][j].fA[q].toNat default)) (by omega) (z02 hd) hn
  unfold wi at ih ⊢
  rw[p3 hq]
  have e:dvl s (p[i][j].fA[q]::p[i][j].fA.drop (q+1)) d=dvl s (p[i][j].fA.drop (q+1)) (z0z d (s.getD p[i][j].fA[q].toNat default)):=rfl
  rw[e,←ih]
  refine zw ?_
  unfold jj
  simp only[p0,zf hi,zf hj,zf hq]
  have hsl:=hs.1
  rw[if_pos (by simpa using hq),if_pos (by simpa using hq),if_pos (by omega),if_pos (by omega),p4,z4f hd hx,Wi (by omega)]
theorem zol{s:List Int}(hs:Sok p.length s){i:Nat}(hi:i<p.length):∀ (k j:Nat) (nx:List Int),j+k=p[i].length→nx.length=p.length→rng (nx.getD i default)→wh none p s (i:Int) (j:Int) nx=some (.inl (((i+1:Nat):Int),nx.set i (dAl s (p[i].drop j) (nx.getD i default))))
 |0,j,nx,h,hl,hn=>by
  have h60:=hv.n60
  have:j=p[i].length:=by omega
  subst this
  unfold wh
  rw[zl (x:=some (.inl (((i+1:Nat):Int),nx))) ?_]
  ·rw[List.drop_length]
   have:nx.set i (dAl s [] (nx.getD i default))=nx:=by
    have hi':i<nx.length:=by omega
    show nx.set i (nx.getD i default)=nx
    rw[zf hi',List.set_getElem_self]
   rw[this]
  ·unfold ji kz
   simp only[p0,zf hi]
   rw[if_neg (by simp),Wi (by omega)]
 |k+1,j,nx,h,hl,hn=>by
  have h60:=hv.n60
  have hj:j<p[i].length:=by omega
  have hr:=hv.ok _ (p2 hi) _ (p2 hj)
  have hi':i<nx.length:=by omega
  have e0:(nx.set i (bor (nx.getD i default) (dv s p[i][j]))).getD i default=bor (nx.getD i default) (dv s p[i][j]):=by
   rw[zf (by simpa using hi')];simp
  have ih:=zol hs hi k (j+1) (nx.set i (bor (nx.getD i default) (dv s p[i][j]))) (by omega) (by simpa using hl) (by rw[e0];exact Uk hn (z6g hr))
  rw[e0,List.set_set] at ih
  unfold wh at ih ⊢
  rw[p3 hj]
  have e:dAl s (p[i][j]::p[i].drop (j+1)) (nx.getD i default)=dAl s (p[i].drop (j+1)) (bor (nx.getD i default) (dv s p[i][j])):=rfl
  rw[e,←ih]
  refine zw ?_
  unfold ji
  simp only[p0,zf hi,zf hj]
  rw[if_pos (by simpa using hj),if_pos (by simpa using hj)]
  have:=zvg hv hs hi hj hl (d0:=0) _ 0 p[i][j].fM (p4 _) hr.1 hn
  rw[show(((0:Nat):Int))=0 from rfl] at this
  rw[this,p7]
  rfl
theorem zuu{s:List Int}(hs:Sok p.length s):∀ (k i:Nat),i+k=p.length→vn none p s (i:Int) ((Fs p s).take i++p8 k 0)=some (Fs p s)
 |0,i,h=>by
  have:i=p.length:=by omega
  subst this
  unfold vn
  rw[zl (x:=some (Fs p s)) ?_]
  unfold jr kx
  rw[if_neg (by simp),pF (by rw[(z5a hv s).1];exact Nat.le_refl _)]
  simp
 |k+1,i,h=>by
  have h60:=hv.n60
  have hi:i<p.length:=by omega
  have hF:i<(Fs p s).length:=by rw[(z5a hv s).1];exact hi
  have ih:=zuu hs k (i+1) (by omega)
  have hlen:((Fs p s).take i).length=i:=by rw[pD];omega
  have hnx:((Fs p s).take i++p8 (k+1) 0).length=p.length:=by rw[p6,hlen];simp;omega
  have h0:((Fs p s).take i++p8 (k+1) (0:Int)).getD i default=0:=by
   rw[zf (by omega),List.getElem_append_right (by omega)];simp
  have:=zol hv hs hi _ 0 ((Fs p s).take i++p8 (k+1) 0) (p4 _) hnx (by rw[h0];unfold rng;omega)
  rw[h0,p7,show(((0:Nat):Int))=0 from rfl] at this
  unfold vn at ih ⊢
  rw[←ih]
  refine zw ?_
  unfold jr
  rw[if_pos (by simpa using hi),if_pos (by simpa using hi),this,List.set_append_right _ _ (by omega),hlen,Nat.sub_self,List.replicate_succ,List.set_cons_zero,pA hF,List.append_assoc]
  simp[Fs,dA]
theorem zsj{s:List Int}(hs:Sok p.length s):vh none p s=some (Fs p s):=by
 have h60:=hv.n60
 unfold vh
 have hlen:(p.map z6).length=p.length:=by simp
 rw[if_pos (by rw[hlen];omega),hlen,p0]
 have:=zuu hv hs p.length 0 (by omega)
 simpa using this
theorem z3w{v3:Int}{s:List Int}(hs:Sok p.length s):jk none p v3 s=if Fs p s=s then some (.inr (s,v3)) else some (.inl (W (v3+1),Fs p s)):=by
 have h60:=hv.n60
 unfold jk
 rw[zsj hv hs,p1,zhc (by rw[(z5a hv s).1];omega),p1]
 by_cases he:Fs p s=s
 ·rw[if_pos (by simpa using he),if_pos he];rfl
 ·rw[if_neg (by simpa using he),if_neg he]
end
def Sub(x y:Int):Prop:=∀t,tb x t=true→tb y t=true
theorem Sub.le{x y:Int}(hx:rng x)(hy:rng y)(h:Sub x y):x≤y:=by
 have e:bor x y=y:=zlo (Uk hx hy) hy (fun t=>by
  rw[Kf]
  cases hx:tb x t
  ·simp
  ·rw[h t hx];rfl)
 have:=zzz (y:=y) hx
 omega
def Le(n:Nat)(s s':List Int):Prop:=∀i,i<n→Sub (s.getD i default) (s'.getD i default)
theorem Le.refl(n:Nat)(s:List Int):Le n s s:=fun _ _ _ h=>h
theorem Le.trans{n:Nat}{a b c:List Int}(h:Le n a b)(h':Le n b c):Le n a c:=fun i hi t ht=>h' i hi t (h i hi t ht)
theorem Le.antisymm{n:Nat}{a b:List Int}(ha:Sok n a)(hb:Sok n b)(h:Le n a b)(h':Le n b a):a=b:=by
 refine List.ext_getElem (by rw[ha.1,hb.1]) fun i h1 h2=>?_
 have e:=zlo (ha.at (k:=i) (by rw[←ha.1];exact h1)) (hb.at (k:=i) (by rw[←hb.1];exact h2)) (fun t=>by
  have g1:=h i (by rw[←ha.1];exact h1) t
  have g2:=h' i (by rw[←ha.1];exact h1) t
  cases hx:tb (a.getD i default) t<;>cases hy:tb (b.getD i default) t<;>simp_all)
 rwa [zf h1,zf h2] at e
theorem zzq{n:Nat}{s s':List Int}{r:GR}(hr:Rok n r)(h:Le n s s'):Sub (dv s r) (dv s' r):=by
 intro t ht
 rw[zqt] at ht ⊢
 simp only[pH,List.all_eq_true] at ht ⊢
 refine⟨ht.1,fun k hk=>?_⟩
 have:=hr.2.2 k hk
 exact h k.toNat (by omega) t (ht.2 k hk)
theorem zva{n:Nat}{s s':List Int}{l:List GR}(hr:∀r∈l,Rok n r)(h:Le n s s'):Sub (dA s l) (dA s' l):=by
 intro t ht
 rw[zfg] at ht ⊢
 simp only[pE] at ht ⊢
 obtain⟨r,h1,h2⟩:=ht
 exact⟨r,h1,zzq (hr r h1) h t h2⟩
theorem zvr:∀ {s s':List Int},s.length=s'.length→(∀i,i<s.length→s.getD i default≤s'.getD i default)→s.sum≤s'.sum∧(s≠s'→s.sum<s'.sum)
 |[],[],_,_=>by simp
 |[],_::_,h,_=>by simp at h
 |_::_,[],h,_=>by simp at h
 |x::s,y::s',h,hl=>by
  have h0:x≤y:=by simpa using hl 0 (by simp)
  obtain⟨g1,g2⟩:=zvr (s:=s) (s':=s') (by simpa using h) (fun i hi=>by simpa using hl (i+1) (by simpa using hi))
  rw[List.sum_cons,List.sum_cons]
  refine⟨by omega,fun hne=>?_⟩
  by_cases e:s=s'
  ·have:x≠y:=fun e'=>hne (by rw[e,e'])
   omega
  ·have:=g2 e;omega
theorem V2:∀ {s:List Int},(∀x∈s,rng x)→0≤s.sum∧s.sum≤s.length*1048575
 |[],_=>by simp
 |x::s,h=>by
  have h0:=h x (List.mem_cons_self ..)
  obtain⟨g1,g2⟩:=V2 (s:=s) (fun y hy=>h y (List.mem_cons_of_mem _ hy))
  unfold rng at h0
  rw[List.sum_cons,List.length_cons]
  push_cast
  constructor<;>omega
theorem Le.sum{n:Nat}{s s':List Int}(hs:Sok n s)(hs':Sok n s')(h:Le n s s'):s.sum≤s'.sum∧(s≠s'→s.sum<s'.sum):=
 zvr (by rw[hs.1,hs'.1]) (fun i hi=>Sub.le (hs.at (by rw[←hs.1];exact hi)) (hs'.at (by rw[←hs.1];exact hi)) (h i (by rw[←hs.1];exact hi)))
section
variable {p:Yj} (hv:Valid p)
include hv
theorem zqh{s s':List Int}(h:Le p.length s s'):Le p.length (Fs p s) (Fs p s'):=fun i hi=>by
 rw[z4a hi,z4a hi];exact zva (hv.ok _ (p2 hi)) h
theorem z6s:∀ (M:Nat) (s:List Int) (v:Int),Sok p.length s→Le p.length s (Fs p s)→(p.length:Int)*1048575-s.sum≤M→∃S N,wj none p v s=some (S,N)∧ki none p v s=some (N,0)∧Sok p.length S∧Fs p S=S ∧
 ∀X,Le p.length (Fs p X) X→Le p.length s X→Le p.length S X
 |M,s,v,hs,hF,hM=>by
  by_cases he:Fs p s=s
  ·refine⟨s,v,?_,?_,hs,he,fun X _ h=>h⟩
   ·unfold wj
    exact zl (x:=some (s,v)) (by rw[z3w hv hs,if_pos he];rfl)
   ·unfold ki
    exact zl (x:=some (v,0)) (by rw[z4v hv hs,if_pos he];rfl)
  ·have hlt:=(hF.sum hs (z5a hv s)).2 (fun e=>he e.symm)
   have hb:=(V2 (z5a hv s).2).2
   rw[(z5a hv s).1] at hb
   match M,hM with
   |0,hM=>omega
   |M+1,hM=>
    obtain⟨S,N,h1,h2,h3,h4,h5⟩:=z6s M (Fs p s) (W (v+1)) (z5a hv s) (zqh hv hF) (by omega)
    refine⟨S,N,?_,?_,h3,h4,fun X hX hsX=>h5 X hX ((zqh hv hsX).trans hX)⟩
    ·unfold wj at h1 ⊢
     rw[zw (s':=(W (v+1),Fs p s)) (by rw[z3w hv hs,if_neg he]),h1]
    ·unfold ki at h2 ⊢
     rw[zw (s':=(W (v+1),Fs p s)) (by rw[z4v hv hs,if_neg he]),h2]
theorem zero_le(X:List Int):Le p.length (p8 p.length 0) X:=fun i hi t ht=>by
 have _:=hv
 rw[zf (by simpa using hi)] at ht
 simp[tb] at ht
theorem zrb:∃S N,jm none p=some (S,N)∧ki none p 0 (p8 p.length 0)=some (N,0)∧Sok p.length S∧Fs p S=S∧∀X,Le p.length (Fs p X) X→Le p.length S X:=by
 have h60:=hv.n60
 obtain⟨S,N,h1,h2,h3,h4,h5⟩:=z6s hv (p.length*1048575) (p8 p.length 0) 0 (z82 _) (zero_le hv _) (by
  have:=(V2 (z82 p.length).2).1;omega)
 refine⟨S,N,?_,h2,h3,h4,fun X hX=>h5 X hX (zero_le hv X)⟩
 unfold jm
 have hlen:(p.map z6).length=p.length:=by simp
 rw[if_pos (by rw[hlen];omega),hlen,p0,h1]
end
abbrev BB:Nat:=4611686018427387904
theorem zj0{g:GR→Option Bool}{P:GR→Bool}{l:List GR}(hl:l.length≤BB)(hg:∀r∈l,g r=some (P r)):∀ (k i:Nat),i+k=l.length →
 ∃j:Int,xr (fun(s:Unit) (x:GR)=>(g x).map fun o=>(o,())) none l (i:Int) ()=some (j,())∧decide (j≥0)=(l.drop i).any P
 |0,i,h=>by
  have:i=l.length:=by omega
  subst this
  refine⟨-1,?_,by simp⟩
  unfold xr
  rw[zl (x:=some (-1,())) ?_]
  unfold yl
  rw[if_neg (by simp)]
  rfl
 |k+1,i,h=>by
  have hi:i<l.length:=by omega
  obtain⟨j,h1,h2⟩:=zj0 hl hg k (i+1) (by omega)
  unfold xr at h1 ⊢
  rw[p3 hi,pI]
  have hb:yl (fun(s:Unit) (x:GR)=>(g x).map fun o=>(o,())) none l (i:Int) ()=if P l[i]=true then some (.inr ((i:Int),())) else some (.inl (((i+1:Nat):Int),())):=by
   unfold yl
   rw[if_pos (by simpa using hi),if_pos (by simpa using hi)]
   simp only[p0,zf hi]
   have e3:(⟨l[i].fM,l[i].fA⟩:GR)=l[i]:=rfl
   rw[e3,hg _ (p2 hi)]
   simp only[Option.map_some,p1,Wi (show i≤BB by unfold BB at *;omega)]
  by_cases hp:P l[i]=true
  ·exact⟨i,by rw[zl (x:=some ((i:Int),())) (by rw[hb,if_pos hp];rfl)],by simp[hp]⟩
  ·refine⟨j,by rw[zw (s':=(((i+1:Nat):Int),())) (by rw[hb,if_neg hp]),h1],?_⟩
   have:P l[i]=false:=by simpa using hp
   rw[h2,this,pJ]
theorem zze{g:GR→Option Bool}{P:GR→Bool}{l:List GR}(hl:l.length≤BB)(hg:∀r∈l,g r=some (P r)) :
 qi (fun(s:Unit) (x:GR)=>(g x).map fun o=>(o,())) none l ()=some (l.any P,()):=by
 obtain⟨j,h1,h2⟩:=zj0 hl hg _ 0 (p4 _)
 unfold qi jo
 rw[show((0:Int))=((0:Nat):Int) from rfl,h1,p1,show(((0:Nat):Int))=(0:Int) from rfl,h2,p7]
theorem zis{g:Int→Option Bool}{P:Int→Bool}{l:List Int}(hl:l.length≤BB)(hg:∀r∈l,g r=some (P r)):∀ (k i:Nat),i+k=l.length →
 ∃j:Int,wl (fun(s:Unit) (x:Int)=>(g x).map fun o=>(o,())) none l (i:Int) ()=some (j,())∧decide (j≥0)=(l.drop i).any P
 |0,i,h=>by
  have:i=l.length:=by omega
  subst this
  refine⟨-1,?_,by simp⟩
  unfold wl
  rw[zl (x:=some (-1,())) ?_]
  unfold xh
  rw[if_neg (by simp)]
  rfl
 |k+1,i,h=>by
  have hi:i<l.length:=by omega
  obtain⟨j,h1,h2⟩:=zis hl hg k (i+1) (by omega)
  unfold wl at h1 ⊢
  rw[p3 hi,pI]
  have hb:xh (fun(s:Unit) (x:Int)=>(g x).map fun o=>(o,())) none l (i:Int) ()=if P l[i]=true then some (.inr ((i:Int),())) else some (.inl (((i+1:Nat):Int),())):=by
   unfold xh
   rw[if_pos (by simpa using hi),if_pos (by simpa using hi)]
   simp only[p0,zf hi]
   rw[hg _ (p2 hi)]
   simp only[Option.map_some,p1,Wi (show i≤BB by unfold BB at *;omega)]
  by_cases hp:P l[i]=true
  ·exact⟨i,by rw[zl (x:=some ((i:Int),())) (by rw[hb,if_pos hp];rfl)],by simp[hp]⟩
  ·refine⟨j,by rw[zw (s':=(((i+1:Nat):Int),())) (by rw[hb,if_neg hp]),h1],?_⟩
   have:P l[i]=false:=by simpa using hp
   rw[h2,this,pJ]
theorem zzw{g:Int→Option Bool}{P:Int→Bool}{l:List Int}(hl:l.length≤BB)(hg:∀r∈l,g r=some (P r)) :
 jh (fun(s:Unit) (x:Int)=>(g x).map fun o=>(o,())) none l ()=some (l.any P,()):=by
 obtain⟨j,h1,h2⟩:=zis hl hg _ 0 (p4 _)
 unfold jh kr
 rw[show((0:Int))=((0:Nat):Int) from rfl,h1,p1,show(((0:Nat):Int))=(0:Int) from rfl,h2,p7]
def zrw(n:Nat)(k:Int):Bool:=decide (k<0) || decide (k≥(n:Int))
def zfc(n:Nat)(r:GR):Int:=if(decide (r.fM<0) || decide (r.fM > 1048575))=true then 1 else if r.fA.any (zrw n)=true then 3 else 0
noncomputable def z4c(n:Nat):List GR→Int
 |[]=>0
 |r::l=>if zfc n r=0 then z4c n l else zfc n r
noncomputable def zhy(n:Nat):List (List GR)→Int
 |[]=>0
 |l::p=>if z4c n l=0 then zhy n p else z4c n l
def big(l:List GR):Bool:=decide (20<l.length) || l.any fun r=>decide (60<r.fA.length)
noncomputable def z0g(p:Yj):Int:=if(decide (60<p.length) || p.any big)=true then 2 else zhy p.length p
structure Small(p:Yj):Prop where
 n:p.length≤BB
 l:∀l∈p,l.length≤BB
 a:∀l∈p,∀r∈l,r.fA.length≤BB
section
variable {p:Yj} (hS:Small p)
include hS
theorem znp{i:Nat}(hi:i<p.length):∀ (k j:Nat),j+k=p[i].length→ut none p (i:Int) (j:Int)=some (if z4c p.length (p[i].drop j)=0 then .inl ((i+1:Nat):Int) else .inr (z4c p.length (p[i].drop j)))
 |0,j,h=>by
  have hn:=hS.n
  have:j=p[i].length:=by omega
  subst this
  unfold ut
  rw[zl (x:=some (.inl ((i+1:Nat):Int))) ?_]
  ·simp[z4c]
  ·unfold vb Zm
   simp only[p0,zf hi]
   rw[if_neg (by simp),Wi (by unfold BB at hn;omega)]
 |k+1,j,h=>by
  have hl:=hS.l _ (p2 hi)
  have hj:j<p[i].length:=by omega
  have ih:=znp hi k (j+1) (by omega)
  unfold ut at ih ⊢
  rw[p3 hj,z4c]
  have hb:vb none p (i:Int) (j:Int)=if zfc p.length p[i][j]=0 then some (.inl ((j+1:Nat):Int)) else some (.inr (.inr (zfc p.length p[i][j]))):=by
   unfold vb
   simp only[p0,zf hi,zf hj]
   rw[if_pos (by simpa using hj),if_pos (by simpa using hj)]
   unfold zfc
   by_cases h1:(decide (p[i][j].fM<0) || decide (p[i][j].fM > 1048575))=true
   ·rw[if_pos h1,if_pos h1,if_neg (by decide)];rfl
   ·rw[if_neg h1,if_neg h1,zzw (g:=va none p) (P:=zrw p.length) (hS.a _ (p2 hi) _ (p2 hj)) (fun x _=>by unfold va zrw;rw[p5]),p1]
    by_cases h2:p[i][j].fA.any (zrw p.length)=true
    ·rw[if_pos h2,if_pos h2,if_neg (by decide)];rfl
    ·rw[if_neg h2,if_neg h2,if_pos rfl,Wi (by unfold BB at hl;omega)]
  by_cases he:zfc p.length p[i][j]=0
  ·rw[zw (s':=((j+1:Nat):Int)) (by rw[hb,if_pos he]),ih,if_pos he]
  ·rw[zl (x:=some (.inr (zfc p.length p[i][j]))) (by rw[hb,if_neg he];rfl),if_neg he,if_neg he]
theorem zli:∀ (k i:Nat),i+k=p.length→ul none p (i:Int)=some (zhy p.length (p.drop i))
 |0,i,h=>by
  have:i=p.length:=by omega
  subst this
  unfold ul
  rw[zl (x:=some 0) ?_]
  ·simp[zhy]
  ·unfold ve Zp
   rw[if_neg (by simp)]
 |k+1,i,h=>by
  have hi:i<p.length:=by omega
  have ih:=zli k (i+1) (by omega)
  unfold ul at ih ⊢
  rw[p3 hi,zhy]
  have hb:ve none p (i:Int)=if z4c p.length p[i]=0 then some (.inl ((i+1:Nat):Int)) else some (.inr (z4c p.length p[i])):=by
   unfold ve
   rw[if_pos (by simpa using hi),if_pos (by simpa using hi)]
   have:=znp hS hi _ 0 (p4 _)
   rw[show(((0:Nat):Int))=0 from rfl] at this
   rw[this,p7]
   split<;>rfl
  by_cases he:z4c p.length p[i]=0
  ·rw[zw (s':=((i+1:Nat):Int)) (by rw[hb,if_pos he]),ih,if_pos he]
  ·rw[zl (x:=some (z4c p.length p[i])) (by rw[hb,if_neg he];rfl),if_neg he]
theorem zm7:∀ (k i:Nat),i+k=p.length→ux none p (i:Int)=some (if(p.drop i).any big=true then 2 else zhy p.length p)
 |0,i,h=>by
  have:i=p.length:=by omega
  subst this
  unfold ux
  rw[zl (x:=some (zhy p.length p)) ?_]
  ·simp
  ·unfold wz Zo
   rw[if_neg (by simp)]
   have:=zli hS _ 0 (p4 _)
   rw[show(((0:Nat):Int))=0 from rfl] at this
   rw[this,p7]
 |k+1,i,h=>by
  have hn:=hS.n
  have hi:i<p.length:=by omega
  have ih:=zm7 k (i+1) (by omega)
  unfold ux at ih ⊢
  rw[p3 hi,pI]
  have hb:wz none p (i:Int)=if big p[i]=true then some (.inr 2) else some (.inl ((i+1:Nat):Int)):=by
   unfold wz
   rw[if_pos (by simpa using hi),if_pos (by simpa using hi)]
   simp only[p0,zf hi,p5]
   unfold big
   have e20:decide ((p[i].length:Int) > 20)=decide (20<p[i].length):=decide_eq_decide.2 (by omega)
   rw[e20]
   cases h20:decide (20<p[i].length)
   ·rw[if_pos (show(false==false)=true from rfl),zze (g:=vd none) (P:=fun r=>decide (60<r.fA.length)) (hS.l _ (p2 hi)) (fun x _=>by unfold vd;rw[p5];exact congrArg some (decide_eq_decide.2 (by omega))),p1]
    simp only[pJ]
    rw[Wi (by unfold BB at hn;omega)]
    split<;>rfl
   ·simp
  by_cases he:big p[i]=true
  ·rw[zl (x:=some 2) (by rw[hb,if_pos he];rfl)]
   simp[he]
  ·rw[zw (s':=((i+1:Nat):Int)) (by rw[hb,if_neg he]),ih]
   have:big p[i]=false:=by simpa using he
   rw[this,pJ]
theorem z7m:kl none p=some (z0g p):=by
 unfold kl z0g
 rw[p5]
 have e60:decide ((p.length:Int) > 60)=decide (60<p.length):=decide_eq_decide.2 (by omega)
 rw[e60]
 cases h60:decide (60<p.length)
 ·rw[if_neg (by simp)]
  have:=zm7 hS _ 0 (p4 _)
  rw[show(((0:Nat):Int))=0 from rfl] at this
  rw[this,p7,pJ]
 ·simp
theorem zq8{i:Nat}(hi:i<p.length):∀ (k j:Nat) (v:Bool),j+k=p[i].length→j8 none p (i:Int) v (j:Int)=some (.inl (v || (p[i].drop j).any (fun r=>decide (60<r.fA.length)),((i+1:Nat):Int)))
 |0,j,v,h=>by
  have hn:=hS.n
  have:j=p[i].length:=by omega
  subst this
  unfold j8
  rw[zl (x:=some (.inl (v,((i+1:Nat):Int)))) ?_]
  ·simp
  ·unfold x5 wy
   simp only[p0,zf hi]
   rw[if_neg (by simp),Wi (by unfold BB at hn;omega)]
 |k+1,j,v,h=>by
  have hl:=hS.l _ (p2 hi)
  have hj:j<p[i].length:=by omega
  have ih:=zq8 hi k (j+1) (v || decide (60<p[i][j].fA.length)) (by omega)
  unfold j8 at ih ⊢
  rw[p3 hj,pI,←Bool.or_assoc,←ih]
  refine zw ?_
  unfold x5
  simp only[p0,zf hi,zf hj,p5]
  rw[if_pos (by simpa using hj),if_pos (by simpa using hj),Wi (by unfold BB at hl;omega)]
  rw[show decide ((p[i][j].fA.length:Int) > 60)=decide (60<p[i][j].fA.length) from decide_eq_decide.2 (by omega)]
theorem zj4{i j:Nat}(hi:i<p.length)(hj:j<p[i].length):∀ (k q:Nat),q+k=p[i][j].fA.length→xz none p (i:Int) (j:Int) (q:Int)=some (if(p[i][j].fA.drop q).any (zrw p.length)=true then .inr (.inr 3) else .inl ((j+1:Nat):Int))
 |0,q,h=>by
  have hl:=hS.l _ (p2 hi)
  have:q=p[i][j].fA.length:=by omega
  subst this
  unfold xz
  rw[zl (x:=some (.inl ((j+1:Nat):Int))) ?_]
  ·simp
  ·unfold yr wa
   simp only[p0,zf hi,zf hj]
   rw[if_neg (by simp),Wi (by unfold BB at hl;omega)]
 |k+1,q,h=>by
  have ha:=hS.a _ (p2 hi) _ (p2 hj)
  have hq:q<p[i][j].fA.length:=by omega
  have ih:=zj4 hi hj k (q+1) (by omega)
  unfold xz at ih ⊢
  rw[p3 hq,pI]
  have hb:yr none p (i:Int) (j:Int) (q:Int)=if zrw p.length p[i][j].fA[q]=true then some (.inr (.inr (.inr 3))) else some (.inl ((q+1:Nat):Int)):=by
   unfold yr
   simp only[p0,zf hi,zf hj,zf hq,p5]
   rw[if_pos (by simpa using hq),if_pos (by simpa using hq),Wi (by unfold BB at ha;omega)]
   rfl
  by_cases he:zrw p.length p[i][j].fA[q]=true
  ·rw[zl (x:=some (.inr (.inr 3))) (by rw[hb,if_pos he];rfl),he];rfl
  ·rw[zw (s':=((q+1:Nat):Int)) (by rw[hb,if_neg he]),ih]
   have:zrw p.length p[i][j].fA[q]=false:=by simpa using he
   rw[this,pJ]
theorem zhf{i:Nat}(hi:i<p.length):∀ (k j:Nat),j+k=p[i].length→j0 none p (i:Int) (j:Int)=some (if z4c p.length (p[i].drop j)=0 then .inl ((i+1:Nat):Int) else .inr (z4c p.length (p[i].drop j)))
 |0,j,h=>by
  have hn:=hS.n
  have:j=p[i].length:=by omega
  subst this
  unfold j0
  rw[zl (x:=some (.inl ((i+1:Nat):Int))) ?_]
  ·simp[z4c]
  ·unfold yt wb
   simp only[p0,zf hi]
   rw[if_neg (by simp),Wi (by unfold BB at hn;omega)]
 |k+1,j,h=>by
  have hj:j<p[i].length:=by omega
  have ih:=zhf hi k (j+1) (by omega)
  unfold j0 at ih ⊢
  rw[p3 hj,z4c]
  have hb:yt none p (i:Int) (j:Int)=if zfc p.length p[i][j]=0 then some (.inl ((j+1:Nat):Int)) else some (.inr (.inr (zfc p.length p[i][j]))):=by
   unfold yt
   simp only[p0,zf hi,zf hj]
   rw[if_pos (by simpa using hj),if_pos (by simpa using hj)]
   unfold zfc
   have e1:decide (p[i][j].fM≥1048576)=decide (p[i][j].fM > 1048575):=decide_eq_decide.2 (by omega)
   rw[e1]
   by_cases h1:(decide (p[i][j].fM<0) || decide (p[i][j].fM > 1048575))=true
   ·rw[if_pos h1,if_pos h1,if_neg (by decide)];rfl
   ·have:=zj4 hS hi hj _ 0 (p4 _)
    rw[show(((0:Nat):Int))=0 from rfl] at this
    rw[if_neg h1,if_neg h1,this,p7]
    by_cases h2:p[i][j].fA.any (zrw p.length)=true
    ·rw[if_pos h2,if_pos h2,if_neg (by decide)]
    ·rw[if_neg h2,if_neg h2,if_pos rfl]
  by_cases he:zfc p.length p[i][j]=0
  ·rw[zw (s':=((j+1:Nat):Int)) (by rw[hb,if_pos he]),ih,if_pos he]
  ·rw[zl (x:=some (.inr (zfc p.length p[i][j]))) (by rw[hb,if_neg he];rfl),if_neg he,if_neg he]
theorem zh1:∀ (k i:Nat),i+k=p.length→xw none p (i:Int)=some (zhy p.length (p.drop i))
 |0,i,h=>by
  have:i=p.length:=by omega
  subst this
  unfold xw
  rw[zl (x:=some 0) ?_]
  ·simp[zhy]
  ·unfold yx wc
   rw[if_neg (by simp)]
 |k+1,i,h=>by
  have hi:i<p.length:=by omega
  have ih:=zh1 k (i+1) (by omega)
  unfold xw at ih ⊢
  rw[p3 hi,zhy]
  have hb:yx none p (i:Int)=if z4c p.length p[i]=0 then some (.inl ((i+1:Nat):Int)) else some (.inr (z4c p.length p[i])):=by
   unfold yx
   rw[if_pos (by simpa using hi),if_pos (by simpa using hi)]
   have:=zhf hS hi _ 0 (p4 _)
   rw[show(((0:Nat):Int))=0 from rfl] at this
   rw[this,p7]
   split<;>rfl
  by_cases he:z4c p.length p[i]=0
  ·rw[zw (s':=((i+1:Nat):Int)) (by rw[hb,if_pos he]),ih,if_pos he]
  ·rw[zl (x:=some (z4c p.length p[i])) (by rw[hb,if_neg he];rfl),if_neg he]
theorem zql:∀ (k i:Nat) (v:Bool),i+k=p.length→jc none p v (i:Int)=some (if(v || (p.drop i).any big)=true then 2 else zhy p.length p)
 |0,i,v,h=>by
  have:i=p.length:=by omega
  subst this
  unfold jc
  rw[zl (x:=some (if v=true then 2 else zhy p.length p)) ?_]
  ·simp
  ·unfold x9 wv
   rw[if_neg (by simp)]
   have:=zh1 hS _ 0 (p4 _)
   rw[show(((0:Nat):Int))=0 from rfl] at this
   rw[this,p7]
   split<;>rfl
 |k+1,i,v,h=>by
  have hi:i<p.length:=by omega
  have ih:=zql k (i+1) (v || big p[i]) (by omega)
  unfold jc at ih ⊢
  rw[p3 hi,pI,←Bool.or_assoc,←ih]
  refine zw ?_
  unfold x9
  simp only[p0,zf hi,p5]
  rw[if_pos (by simpa using hi),if_pos (by simpa using hi)]
  have:=zq8 hS hi _ 0 (v || decide ((p[i].length:Int) > 20)) (p4 _)
  rw[show(((0:Nat):Int))=0 from rfl] at this
  rw[this,p7]
  have e20:decide ((p[i].length:Int) > 20)=decide (20<p[i].length):=decide_eq_decide.2 (by omega)
  rw[e20,Bool.or_assoc]
  rfl
theorem z3r:qc none p=some (z0g p):=by
 unfold qc z0g
 have:=zql hS _ 0 (decide (60<p.length)) (p4 _)
 rw[show(((0:Nat):Int))=0 from rfl] at this
 rw[p5,show decide ((p.length:Int) > 60)=decide (60<p.length) from decide_eq_decide.2 (by omega),this,p7]
end
theorem zcc{n:Nat}:∀ {l:List GR},z4c n l=0→∀r∈l,zfc n r=0
 |[],_,r,hr=>by cases hr
 |x::l,h,r,hr=>by
  rw[z4c] at h
  by_cases he:zfc n x=0
  ·rw[if_pos he] at h
   rcases pB.1 hr with rfl|hr
   ·exact he
   ·exact zcc h r hr
  ·rw[if_neg he] at h;exact absurd h he
theorem zay{n:Nat}:∀ {p:List (List GR)},zhy n p=0→∀l∈p,z4c n l=0
 |[],_,r,hr=>by cases hr
 |x::l,h,r,hr=>by
  rw[zhy] at h
  by_cases he:z4c n x=0
  ·rw[if_pos he] at h
   rcases pB.1 hr with rfl|hr
   ·exact he
   ·exact zay h r hr
  ·rw[if_neg he] at h;exact absurd h he
theorem z7v{p:Yj}(h:z0g p=0):Valid p:=by
 unfold z0g at h
 split at h
 ·cases h
 ·rename_i hb
  simp only[Bool.or_eq_true,decide_eq_true_eq,pE,not_or,not_exists,not_and] at hb
  obtain⟨h60,hb⟩:=hb
  have hbig:∀l∈p,l.length≤20∧∀r∈l,r.fA.length≤60:=fun l hl=>by
   have:=hb l hl
   unfold big at this
   simp only[Bool.or_eq_true,decide_eq_true_eq,pE,not_or,not_exists,not_and] at this
   exact⟨by omega,fun r hr=>by have:=this.2 r hr;omega⟩
  refine⟨by omega,fun l hl=>(hbig l hl).1,fun l hl r hr=>?_⟩
  have he:=zcc (zay h l hl) r hr
  unfold zfc at he
  split at he
  ·cases he
  ·rename_i h1
   split at he
   ·cases he
   ·rename_i h2
    simp only[Bool.or_eq_true,decide_eq_true_eq,not_or,pE,not_exists,not_and] at h1 h2
    refine⟨by unfold rng;omega,(hbig l hl).2 r hr,fun k hk=>?_⟩
    have:=h2 k hk
    unfold zrw at this
    simp only[Bool.or_eq_true,decide_eq_true_eq,not_or] at this
    omega
theorem zit{l:List Int}{x:Int}(hl:l.length≤BB):∀ (k i:Nat),i+k=l.length→∃j:Int,u7 none l x (i:Int)=some j∧(decide (j≥0)=decide (x∈l.drop i))
 |0,i,h=>by
  have:i=l.length:=by omega
  subst this
  refine⟨-1,?_,by simp⟩
  unfold u7
  rw[zl (x:=some (-1)) ?_]
  unfold jw
  rw[if_neg (by simp)]
  rfl
 |k+1,i,h=>by
  have hi:i<l.length:=by omega
  obtain⟨j,h1,h2⟩:=zit (x:=x) hl k (i+1) (by omega)
  unfold u7 at h1 ⊢
  have hd:=p3 hi
  have hb:jw none l x (i:Int)=if x=l[i] then some (.inr (i:Int)) else some (.inl ((i+1:Nat):Int)):=by
   unfold jw
   rw[if_pos (by simpa using hi),if_pos (by simpa using hi)]
   simp only[p0,zf hi,Wi (show i≤BB by unfold BB at *;omega),beq_iff_eq]
   split<;>rfl
  by_cases h:x=l[i]
  ·exact⟨i,by rw[zl (x:=some (i:Int)) (by rw[hb,if_pos h];rfl)],by rw[hd];simp only[pB,h,true_or];simp⟩
  ·exact⟨j,by rw[zw (s':=((i+1:Nat):Int)) (by rw[hb,if_neg h]),h1],by rw[h2,hd];simp only[pB,h,false_or]⟩
theorem zyx{l:List Int}{x:Int}(hl:l.length≤BB):jv none l x=some (decide (x∈l)):=by
 obtain⟨j,h1,h2⟩:=zit (x:=x) hl _ 0 (p4 _)
 unfold jv Z3
 rw[show((0:Int))=((0:Nat):Int) from rfl,h1,p1,show(((0:Nat):Int))=(0:Int) from rfl,h2,p7]
def Wn(off len:Nat)(l:List Int):List Int:=(l.drop off).take len
theorem zpx{off len:Nat}{l:List Int}(h:off+len≤l.length):(Wn off len l).length=len:=by
 unfold Wn;rw[pD,List.length_drop];omega
theorem y11{off len i:Nat}{l:List Int}(h:off+len≤l.length)(hi:i<len):(Wn off len l)[i]?=l[off+i]?:=by
 unfold Wn;rw[List.getElem?_take_of_lt hi,List.getElem?_drop]
theorem zat{l:List Int}{x:Int}{off len:Nat}(hl:len≤BB)(hw:off+len≤l.length):∀ (k i:Nat),i+k=len→∃j:Int,w9 none off len x l (i:Int)=some j∧(decide (j≥0)=decide (x∈(Wn off len l).drop i))
 |0,i,h=>by
  have:i=len:=by omega
  subst this
  refine⟨-1,?_,by rw[List.drop_eq_nil_of_le (by rw[zpx hw];exact Nat.le_refl _)];simp⟩
  unfold w9
  rw[zl (x:=some (-1)) ?_]
  unfold x3
  rw[if_neg (by simp)]
  rfl
 |k+1,i,h=>by
  have hi:i<len:=by omega
  have hi':i<(Wn off len l).length:=by rw[zpx hw];exact hi
  have hoi:off+i<l.length:=by omega
  obtain⟨j,h1,h2⟩:=zat (x:=x) hl hw k (i+1) (by omega)
  unfold w9 at h1 ⊢
  have hd:=p3 hi'
  have he:(Wn off len l)[i]=l[off+i]:=by
   have:=y11 hw hi
   rw[List.getElem?_eq_getElem hi',List.getElem?_eq_getElem hoi] at this
   simpa using this
  rw[he] at hd
  have hb:x3 none off len x l (i:Int)=if x=l[off+i] then some (.inr (i:Int)) else some (.inl ((i+1:Nat):Int)):=by
   unfold x3
   rw[if_pos (by simpa using hi),if_pos (by simpa using hi)]
   simp only[p0,zf hoi,Wi (show i≤BB by unfold BB at *;omega),beq_iff_eq]
   rw[if_pos hoi]
   split<;>rfl
  by_cases h:x=l[off+i]
  ·exact⟨i,by rw[zl (x:=some (i:Int)) (by rw[hb,if_pos h];rfl)],by rw[hd];simp only[pB,h,true_or];simp⟩
  ·exact⟨j,by rw[zw (s':=((i+1:Nat):Int)) (by rw[hb,if_neg h]),h1],by rw[h2,hd];simp only[pB,h,false_or]⟩
theorem zvy{l:List Int}{x:Int}{off len:Nat}(hl:len≤BB)(hw:off+len≤l.length):qx none off len x l=some (decide (x∈Wn off len l)):=by
 obtain⟨j,h1,h2⟩:=zat (x:=x) hl hw _ 0 (p4 _)
 unfold qx k8
 rw[show((0:Int))=((0:Nat):Int) from rfl,h1,p1,show(((0:Nat):Int))=(0:Int) from rfl,h2,p7]
structure Rd(n i:Nat)(R:List (List Int)):Prop where
 len:R.length=n
 val:∀j,j<n→∀x∈R.getD j default,0≤x∧x<(n:Int)
 sz:∀j,j<n→(R.getD j default).length≤i∨((R.getD j default).length≤i+1∧(i:Int)∈R.getD j default)
def Grow(n:Nat)(R R':List (List Int)):Prop:=∀j,j<n→∀x∈R.getD j default,x∈R'.getD j default
theorem Grow.refl(n:Nat)(R:List (List Int)):Grow n R R:=fun _ _ _ h=>h
theorem Grow.trans{n:Nat}{A B C:List (List Int)}(h:Grow n A B)(h':Grow n B C):Grow n A C:=fun j hj x hx=>h' j hj x (h j hj x hx)
theorem Xg{α:Type}[Inhabited α](l:List α)(i j:Nat)(x:α)(hi:i<l.length):(l.set i x).getD j default=if j=i then x else l.getD j default:=by
 rw[List.getD_eq_getElem?_getD,List.getElem?_set]
 by_cases h:i=j
 ·subst h;simp[hi]
 ·have:¬j=i:=fun e=>h e.symm
  rw[if_neg h,if_neg this,List.getD_eq_getElem?_getD]
section
variable {p:Yj} (hv:Valid p) {a1 a2:List Int}
include hv
theorem zls{i j:Nat}(hi:i<p.length)(hj:j<p[i].length):∀ (k q:Nat) (R:List (List Int)),q+k=p[i][j].fA.length→Rd p.length i R →
 ∃R',y7 none p a1 a2 (i:Int) (j:Int) (q:Int) R=some (.inl (((j+1:Nat):Int),R'))∧Rd p.length i R'∧Grow p.length R R'∧∀x∈p[i][j].fA.drop q,(i:Int)∈R'.getD x.toNat default
 |0,q,R,h,hR=>by
  have h20:=hv.l20 _ (p2 hi)
  have:q=p[i][j].fA.length:=by omega
  subst this
  refine⟨R,?_,hR,Grow.refl _ _,by simp⟩
  unfold y7
  rw[zl (x:=some (.inl (((j+1:Nat):Int),R))) ?_]
  unfold ya jx
  simp only[p0,zf hi,zf hj]
  rw[if_neg (by simp),Wi (by omega)]
 |k+1,q,R,h,hR=>by
  have h60:=hv.n60
  have hr:=hv.ok _ (p2 hi) _ (p2 hj)
  have h61:=hr.2.1
  have hq:q<p[i][j].fA.length:=by omega
  obtain⟨g1,g2⟩:=hr.2.2 _ (p2 hq)
  have hx:p[i][j].fA[q].toNat<p.length:=by omega
  have hxR:p[i][j].fA[q].toNat<R.length:=by rw[hR.len];exact hx
  have hlen:=hR.len
  have hsz:=hR.sz _ hx
  have hrow:(R.getD p[i][j].fA[q].toNat default).length≤61:=by omega
  have hd:=p3 hq
  have hb:ya none p a1 a2 (i:Int) (j:Int) (q:Int) R=if(i:Int)∈R.getD p[i][j].fA[q].toNat default then some (.inl (((q+1:Nat):Int),R)) else some (.inl (((q+1:Nat):Int),R.set p[i][j].fA[q].toNat (R.getD p[i][j].fA[q].toNat default++[(i:Int)]))):=by
   unfold ya xq
   simp only[p0,zf hi,zf hj,zf hq,p4]
   rw[if_pos (by simpa using hq),if_pos (by simpa using hq),if_pos (by omega),if_pos (by omega),zyx (by unfold BB;omega),p1,Wi (by omega)]
   by_cases hm:(i:Int)∈R.getD p[i][j].fA[q].toNat default
   ·rw[if_neg (by rw[decide_eq_true hm];decide),if_pos hm]
   ·rw[if_pos (by rw[decide_eq_false hm];rfl),if_neg hm,if_pos (by omega),if_pos (by omega),if_pos (by rw[p5,p6,p9];omega),if_pos (by omega),if_pos (by omega)]
  unfold y7
  by_cases hm:(i:Int)∈R.getD p[i][j].fA[q].toNat default
  ·obtain⟨R',q1,q2,q3,q4⟩:=zls hi hj k (q+1) R (by omega) hR
   unfold y7 at q1
   refine⟨R',by rw[zw (s':=(((q+1:Nat):Int),R)) (by rw[hb,if_pos hm]),q1],q2,q3,?_⟩
   rw[hd]
   intro x hx'
   rcases pB.1 hx' with rfl|hx'
   ·exact q3 _ hx _ hm
   ·exact q4 x hx'
  ·have hset:=fun y=>Xg R p[i][j].fA[q].toNat y (R.getD p[i][j].fA[q].toNat default++[(i:Int)]) hxR
   have hR2:Rd p.length i (R.set p[i][j].fA[q].toNat (R.getD p[i][j].fA[q].toNat default++[(i:Int)])):=by
    refine⟨by simpa using hlen,fun y hy x hxy=>?_,fun y hy=>?_⟩
    ·rw[hset] at hxy
     split at hxy
     ·rcases pK.1 hxy with h|h
      ·exact hR.val _ hx x h
      ·have:x=(i:Int):=by simpa using h
       subst this;omega
     ·exact hR.val y hy x hxy
    ·rw[hset]
     split
     ·right
      rw[p6]
      refine⟨?_,by simp⟩
      rcases hsz with h|h
      ·rw[p9];omega
      ·exact absurd h.2 hm
     ·exact hR.sz y hy
   have hG:Grow p.length R (R.set p[i][j].fA[q].toNat (R.getD p[i][j].fA[q].toNat default++[(i:Int)])):=by
    intro y hy x hxy
    rw[hset]
    split
    ·rename_i e;subst e;exact List.mem_append_left _ hxy
    ·exact hxy
   obtain⟨R',q1,q2,q3,q4⟩:=zls hi hj k (q+1) _ (by omega) hR2
   unfold y7 at q1
   refine⟨R',by rw[zw (s':=(((q+1:Nat):Int),R.set p[i][j].fA[q].toNat (R.getD p[i][j].fA[q].toNat default++[(i:Int)]))) (by rw[hb,if_neg hm]),q1],q2,hG.trans q3,?_⟩
   rw[hd]
   intro x hx'
   rcases pB.1 hx' with rfl|hx'
   ·exact q3 _ hx _ (by rw[hset,if_pos rfl];simp)
   ·exact q4 x hx'
theorem zpe{i:Nat}(hi:i<p.length):∀ (k j:Nat) (R:List (List Int)),j+k=p[i].length→Rd p.length i R →
 ∃R',qm none p a1 a2 (i:Int) (j:Int) R=some (.inl (((i+1:Nat):Int),R'))∧Rd p.length i R'∧Grow p.length R R'∧∀r∈p[i].drop j,∀x∈r.fA,(i:Int)∈R'.getD x.toNat default
 |0,j,R,h,hR=>by
  have h60:=hv.n60
  have:j=p[i].length:=by omega
  subst this
  refine⟨R,?_,hR,Grow.refl _ _,by simp⟩
  unfold qm
  rw[zl (x:=some (.inl (((i+1:Nat):Int),R))) ?_]
  unfold yv jy
  simp only[p0,zf hi]
  rw[if_neg (by simp),Wi (by omega)]
 |k+1,j,R,h,hR=>by
  have hj:j<p[i].length:=by omega
  obtain⟨R1,q1,q2,q3,q4⟩:=zls hv (a1:=a1) (a2:=a2) hi hj _ 0 R (p4 _) hR
  obtain⟨R2,w1,w2,w3,w4⟩:=zpe hi k (j+1) R1 (by omega) q2
  unfold qm at w1 ⊢
  refine⟨R2,?_,w2,q3.trans w3,?_⟩
  ·rw[zw (s':=(((j+1:Nat):Int),R1)) ?_,w1]
   unfold yv
   simp only[p0,zf hi]
   rw[if_pos (by simpa using hj),if_pos (by simpa using hj)]
   rw[show(((0:Nat):Int))=0 from rfl] at q1
   rw[q1]
  ·rw[p3 hj]
   intro r hr x hx
   rcases pB.1 hr with rfl|hr
   ·have:=(hv.ok _ (p2 hi) _ (p2 hj)).2.2 x hx
    exact w3 _ (by omega) _ (q4 x (by simpa using hx))
   ·exact w4 r hr x hx
theorem zvb:∀ (k i:Nat) (R:List (List Int)),i+k=p.length→R.length=p.length→(∀j,j<p.length→(∀x∈R.getD j default,0≤x∧x<(p.length:Int))∧(R.getD j default).length≤i) →
 ∃R',qw none p a1 a2 (i:Int) R=yu none p a1 a2 R'∧R'.length=p.length∧Grow p.length R R'∧(∀j,j<p.length→(∀x∈R'.getD j default,0≤x∧x<(p.length:Int))∧(R'.getD j default).length≤p.length) ∧
  ∀i',i≤i'→(h:i'<p.length)→∀r∈p[i'],∀x∈r.fA,(i':Int)∈R'.getD x.toNat default
 |0,i,R,h,hl,hR=>by
  have:i=p.length:=by omega
  subst this
  refine⟨R,?_,hl,Grow.refl _ _,hR,fun i' h1 h2=>by omega⟩
  unfold qw
  rw[zl (x:=yu none p a1 a2 R) ?_]
  unfold qb
  rw[if_neg (by simp)]
 |k+1,i,R,h,hl,hR=>by
  have hi:i<p.length:=by omega
  obtain⟨R1,q1,q2,q3,q4⟩:=zpe hv (a1:=a1) (a2:=a2) hi _ 0 R (p4 _) ⟨hl,fun j hj=>(hR j hj).1,fun j hj=>.inl (hR j hj).2⟩
  obtain⟨R2,w1,w2,w3,w4,w5⟩:=zvb k (i+1) R1 (by omega) q2.len (fun j hj=>⟨q2.val j hj,by rcases q2.sz j hj with h|h<;>omega⟩)
  unfold qw at w1 ⊢
  refine⟨R2,?_,w2,q3.trans w3,w4,fun i' h1 h2 r hr x hx=>?_⟩
  ·rw[←w1]
   refine zw ?_
   unfold qb
   rw[if_pos (by simpa using hi),if_pos (by simpa using hi)]
   rw[show(((0:Nat):Int))=0 from rfl] at q1
   rw[q1]
  ·by_cases e:i'=i
   ·subst e
    have:=(hv.ok _ (p2 hi) r hr).2.2 x hx
    exact w3 _ (by omega) _ (q4 r (by simpa using hr) x hx)
   ·exact w5 i' (by omega) h2 r hr x hx
end
theorem zhw(l:List Int):Wn 0 l.length l=l:=by unfold Wn;rw[p7,List.take_length]
theorem z3o{p:Yj}{R:List (List Int)}{o0 x:Nat}{s l0:List Int}{d:Int}{row:List Int}(hx:l0.getD o0 default=(x:Int))(hrow:R.getD x default=row)(hr:row.length≤60) :
 ∀ (k q off len:Nat) (l:List Int),q+k=row.length→off+len≤l.length→len+k≤1099511627776 →
  ∃off' len' l',yg none p R o0 s l0 d off len (q:Int) l=some (.inl (off',len',s.set x (y6 .or .i64 (s.getD x default) d),l'))∧off'+len'≤l'.length∧len'≤len+k∧∀y,y∈Wn off' len' l'↔(y∈Wn off len l∨y∈row.drop q)
 |0,q,off,len,l,h,hw,hb=>by
  have:q=row.length:=by omega
  subst this
  refine⟨off,len,l,?_,hw,by omega,fun y=>by simp⟩
  unfold yg
  rw[zl (x:=some (.inl (off,len,s.set x (y6 .or .i64 (s.getD x default) d),l))) ?_]
  unfold ql
  simp only[Int.toNat_zero,Nat.add_zero,p4,hx,p0,hrow]
  rw[if_neg (by simp)]
 |k+1,q,off,len,l,h,hw,hb=>by
  have hq:q<row.length:=by omega
  have hd:=p3 hq
  have hlen:=zpx hw
  have hB:ql none p R o0 s l0 d off len (q:Int) l=if row[q]∈Wn off len l then some (.inl (off,len,((q+1:Nat):Int),l)) else some (.inl (0,len+1,((q+1:Nat):Int),Wn off len l++[row[q]])):=by
   unfold ql jt
   simp only[Int.toNat_zero,Nat.add_zero,p4,hx,p0,hrow,zf hq]
   rw[if_pos (by simpa using hq),if_pos (by simpa using hq),zvy (by unfold BB;omega) hw,p1,Wi (by omega)]
   by_cases hm:row[q]∈Wn off len l
   ·rw[if_neg (by rw[decide_eq_true hm];decide),if_pos hm]
   ·have e:(l.drop off).take len=Wn off len l:=rfl
    rw[if_pos (by rw[decide_eq_false hm];rfl),if_neg hm,e,if_pos (by rw[p5];exact hw),if_pos (by rw[p5,p6,hlen,p9];omega)]
    rw[p5,p6,hlen,p9]
  unfold yg
  by_cases hm:row[q]∈Wn off len l
  ·obtain⟨off',len',l',g1,g2,g3,g4⟩:=z3o hx hrow hr (p:=p) (s:=s) (d:=d) k (q+1) off len l (by omega) hw (by omega)
   unfold yg at g1
   refine⟨off',len',l',by rw[zw (s':=(off,len,((q+1:Nat):Int),l)) (by rw[hB,if_pos hm]),g1],g2,by omega,fun y=>?_⟩
   rw[g4 y,hd,pB]
   constructor
   ·rintro(h|h)
    ·exact .inl h
    ·exact .inr (.inr h)
   ·rintro(h|rfl|h)
    ·exact .inl h
    ·exact .inl hm
    ·exact .inr h
  ·have hl1:(Wn off len l++[row[q]]).length=len+1:=by rw[p6,hlen,p9]
   obtain⟨off',len',l',g1,g2,g3,g4⟩:=z3o hx hrow hr (p:=p) (s:=s) (d:=d) k (q+1) 0 (len+1) (Wn off len l++[row[q]]) (by omega) (by omega) (by omega)
   unfold yg at g1
   refine⟨off',len',l',by rw[zw (s':=(0,len+1,((q+1:Nat):Int),Wn off len l++[row[q]])) (by rw[hB,if_neg hm]),g1],g2,by omega,fun y=>?_⟩
   have e:Wn 0 (len+1) (Wn off len l++[row[q]])=Wn off len l++[row[q]]:=by rw[←hl1];exact zhw _
   rw[g4 y,e,pK,List.mem_singleton,hd,pB,or_assoc]
theorem zwu{s s':List Int}{l:List GR}(h:∀r∈l,∀k∈r.fA,s'.getD k.toNat default=s.getD k.toNat default):Sub (dA s' l) (dA s l):=by
 intro t ht
 rw[zfg] at ht ⊢
 simp only[pE] at ht ⊢
 obtain⟨r,h1,h2⟩:=ht
 refine⟨r,h1,?_⟩
 rw[zqt] at h2 ⊢
 simp only[pH,List.all_eq_true] at h2 ⊢
 exact⟨h2.1,fun k hk=>by rw[←h r h1 k hk];exact h2.2 k hk⟩
section
variable {p:Yj} (hv:Valid p) {R:List (List Int)} (hRl:R.length=p.length) (hRv:∀j,j<p.length→(∀x∈R.getD j default,0≤x∧x<(p.length:Int))∧(R.getD j default).length≤p.length)
 (hRd:∀i,(h:i<p.length)→∀r∈p[i],∀x∈r.fA,(i:Int)∈R.getD x.toNat default) {S:List Int} (hS:Sok p.length S) (hFS:Fs p S=S) (hleast:∀X,Le p.length (Fs p X) X→Le p.length S X)
include hv hRl hRv hRd hS hFS hleast
theorem zqq:∀ (M off len:Nat) (s l:List Int),((p.length:Int)*1048575-s.sum)*62+len≤M→off+len≤l.length→(len:Int)≤60+61*s.sum→Sok p.length s→Le p.length s S→(∀y∈Wn off len l,0≤y∧y<(p.length:Int)) →
 (∀i,(h:i<p.length)→(i:Int)∉Wn off len l→Sub (dA s p[i]) (s.getD i default))→yw none p R off len s l=some S:=by
 intro M
 induction M with
 |zero=>
  intro off len s l hM hw hb hs hle hP hc
  have hsum:=V2 hs.2
  rw[hs.1] at hsum
  have:len=0:=by omega
  subst this
  have hnil:Wn off 0 l=[]:=by unfold Wn;simp
  have e:s=S:=Le.antisymm hs hS hle (hleast s (fun i hi=>by rw[z4a hi];exact hc i hi (by rw[hnil];simp)))
  unfold yw
  rw[zl (x:=some s) ?_,e]
  unfold zu
  rw[if_neg (by simp)]
 |succ M ih=>
  intro off len s l hM hw hb hs hle hP hc
  have h60:=hv.n60
  have hsum:=V2 hs.2
  rw[hs.1] at hsum
  by_cases h0:len=0
  ·subst h0
   have hnil:Wn off 0 l=[]:=by unfold Wn;simp
   have e:s=S:=Le.antisymm hs hS hle (hleast s (fun i hi=>by rw[z4a hi];exact hc i hi (by rw[hnil];simp)))
   unfold yw
   rw[zl (x:=some s) ?_,e]
   unfold zu
   rw[if_neg (by simp)]
  ·have hol:off<l.length:=by omega
   have hWc:Wn off len l=l[off]::Wn (off+1) (len-1) l:=by
    unfold Wn
    rw[p3 hol]
    obtain⟨m,rfl⟩:∃m,len=m+1:=⟨len-1,by omega⟩
    rfl
   obtain⟨hx0,hx1⟩:=hP l[off] (by rw[hWc];exact List.mem_cons_self ..)
   obtain⟨x,hx⟩:=Int.eq_ofNat_of_zero_le hx0
   have hxn:x<p.length:=by omega
   have hgx:l.getD off default=(x:Int):=by rw[zf hol,hx]
   have hsl:=hs.1
   have hxs:x<s.length:=by omega
   have hsx:=hs.at hxn
   have hdr:=zux (s:=s) (hv.ok _ (p2 hxn))
   have hder:=z1t hs (hv.l20 _ (p2 hxn)) (hv.ok _ (p2 hxn))
   have hsub:∀y,y∈Wn off len l↔(y=(x:Int)∨y∈Wn (off+1) (len-1) l):=fun y=>by rw[hWc,pB,hx]
   have hB:zu none p R off len s l=if bor (s.getD x default) (dA s p[x])=s.getD x default then some (.inl (off+1,len-1,s,l)) else yg none p R off s l (dA s p[x]) (off+1) (len-1) 0 l:=by
    unfold zu
    simp only[Int.toNat_zero,Nat.add_zero,p4,hgx,p0,zf hxn,show(1:Int).toNat=1 from rfl,p5]
    rw[if_pos (by simp;omega),if_pos (by omega),if_pos hol,if_pos (by omega),if_pos (by omega),if_pos hxs,if_pos (by omega),hder,p1,if_pos (by omega),if_pos hxs,z0e hsx hdr]
    by_cases he:bor (s.getD x default) (dA s p[x])=s.getD x default
    ·rw[if_pos (by rw[beq_iff_eq];exact he),if_pos he]
    ·rw[if_neg (by rw[beq_iff_eq];exact he),if_neg he,if_pos (by omega),if_pos hxs,if_pos (by omega),if_pos (by omega)]
   unfold yw at ih ⊢
   by_cases he:bor (s.getD x default) (dA s p[x])=s.getD x default
   ·rw[zw (s':=(off+1,len-1,s,l)) (by rw[hB,if_pos he])]
    refine ih (off+1) (len-1) s l (by omega) (by omega) (by omega) hs hle (fun y hy=>hP y ((hsub y).2 (.inr hy))) (fun i hi hni=>?_)
    by_cases e:i=x
    ·subst e
     intro t ht
     rw[←he,Kf,ht,Bool.or_true]
    ·exact hc i hi (fun hm=>by
      rcases(hsub _).1 hm with h|h
      ·omega
      ·exact hni h)
   ·obtain⟨hr1,hr2⟩:=hRv x hxn
    obtain⟨off',len',l',g1,g2,g3,g4⟩:=z3o (p:=p) (R:=R) (s:=s) (d:=dA s p[x]) hgx rfl (by omega) _ 0 (off+1) (len-1) l (p4 _) (by omega) (by omega)
    rw[show(((0:Nat):Int))=0 from rfl,z0e hsx hdr] at g1
    rw[zw (s':=(off',len',s.set x (bor (s.getD x default) (dA s p[x])),l')) (by rw[hB,if_neg he,g1])]
    have hset:=fun i=>Xg s x i (bor (s.getD x default) (dA s p[x])) hxs
    have hs':Sok p.length (s.set x (bor (s.getD x default) (dA s p[x]))):=⟨by rw[pG];exact hsl,fun y hy=>by
     rcases pC hy with h|h
     ·exact hs.2 y h
     ·rw[h];exact Uk hsx hdr⟩
    have hless:Le p.length s (s.set x (bor (s.getD x default) (dA s p[x]))):=fun i hi t ht=>by
     rw[hset]
     split
     ·rename_i e;subst e;rw[Kf,ht,Bool.true_or]
     ·exact ht
    have hne:s≠s.set x (bor (s.getD x default) (dA s p[x])):=fun e=>he (by
     have:=hset x
     rw[if_pos rfl,←e] at this
     exact this.symm)
    have hlt:=(hless.sum hs hs').2 hne
    have hsum':=V2 hs'.2
    rw[hs'.1] at hsum'
    refine ih off' len' _ l' (by omega) g2 (by omega) hs' ?_ (fun y hy=>?_) (fun i hi hni=>?_)
    ·intro i hi t ht
     rw[hset] at ht
     split at ht
     ·rename_i e
      subst e
      rw[Kf,Bool.or_eq_true] at ht
      rcases ht with ht|ht
      ·exact hle i hi t ht
      ·have:=zva (hv.ok _ (p2 hi)) hle t ht
       rw[←z4a hi,hFS] at this
       exact this
     ·exact hle i hi t ht
    ·rcases(g4 y).1 hy with h|h
     ·exact hP y ((hsub y).2 (.inr h))
     ·exact hr1 y (by rwa [p7] at h)
    ·have hni1:(i:Int)∉Wn (off+1) (len-1) l:=fun h=>hni ((g4 _).2 (.inl h))
     have hni2:(i:Int)∉R.getD x default:=fun h=>hni ((g4 _).2 (.inr (by rwa [p7])))
     have hsame:Sub (dA (s.set x (bor (s.getD x default) (dA s p[x]))) p[i]) (dA s p[i]):=zwu (fun r hr k hk=>by
      rw[hset,if_neg (fun e=>hni2 (by rw[←e];exact hRd i hi r hr k hk))])
     intro t ht
     have h1:=hsame t ht
     rw[hset]
     split
     ·rename_i e
      subst e
      rw[Kf,h1,Bool.or_true]
     ·rename_i e
      exact hc i hi (fun hm=>by
       rcases(hsub _).1 hm with h|h
       ·omega
       ·exact hni1 h) t h1
end
def zkc(n:Nat):List Int:=(List.range n).map fun(i:Nat)=>(i:Int)
theorem z31(n:Nat):(zkc n).length=n:=by simp[zkc]
theorem z60{n:Nat}(hn:n≤60):vz none (n:Int)=some (zkc n):=by
 have key:∀k i,i+k=n→u9 none (n:Int) (i:Int) ((zkc n).take i++p8 k 0)=some (zkc n):=by
  intro k
  induction k with
  |zero=>
   intro i h
   have:i=n:=by omega
   subst this
   unfold u9
   rw[zl (x:=some (zkc i)) ?_]
   unfold vj Z9
   rw[if_neg (by simp),pF (by rw[z31];exact Nat.le_refl _)]
   simp
  |succ k ih=>
   intro i h
   have:=ih (i+1) (by omega)
   unfold u9 at this ⊢
   rw[←this]
   refine zw ?_
   have hi:i<(zkc n).length:=by rw[z31];omega
   have hlen:((zkc n).take i).length=i:=by rw[pD];omega
   have e:((zkc n).take i++p8 (k+1) (0:Int)).length=n:=by rw[p6,hlen,List.length_replicate];omega
   have hat:(zkc n)[i]=(i:Int):=by simp[zkc]
   unfold vj
   simp only[p0,p4]
   rw[if_pos (by simp;omega),if_pos (by omega),if_pos (by omega),Wi (by omega),List.set_append_right _ _ (by omega),hlen,Nat.sub_self,List.replicate_succ,List.set_cons_zero,pA hi,List.append_assoc,hat]
   rfl
 unfold vz
 rw[if_pos (by omega),p0]
 have:=key n 0 (by omega)
 simpa using this
theorem Ju{p:Yj}(hv:Valid p){S s0 pd:List Int}(hS:Sok p.length S)(hFS:Fs p S=S)(hleast:∀X,Le p.length (Fs p X) X→Le p.length S X)(hs0:Sok p.length s0)(hle:Le p.length s0 S)(hpl:pd.length≤60)
 (hP:∀y∈pd,0≤y∧y<(p.length:Int)) (hc:∀i,(h:i<p.length)→(i:Int)∉pd→Sub (dA s0 p[i]) (s0.getD i default)):y8 none p s0 pd=some S:=by
 have h60:=hv.n60
 have hlen:(p.map z6).length=p.length:=by simp
 have hrow:∀j,j<p.length→(p8 p.length ([]:List Int)).getD j default=[]:=fun j hj=>by rw[zf (by simpa using hj)];simp
 obtain⟨R,h1,h2,h3,h4,h5⟩:=zvb hv (a1:=s0) (a2:=pd) p.length 0 (p8 p.length []) (by omega) (by simp) (fun j hj=>by rw[hrow j hj];simp)
 unfold y8
 rw[hlen,if_pos (by omega),p0]
 rw[show(((0:Nat):Int))=0 from rfl] at h1
 rw[h1]
 unfold yu
 have hz:=V2 hs0.2
 have hW:Wn 0 pd.length pd=pd:=zhw pd
 exact zqq hv h2 h4 (fun i hi=>h5 i (Nat.zero_le _) hi) hS hFS hleast ((p.length*1048575)*62+pd.length) 0 pd.length s0 pd (by omega) (by omega) (by omega) hs0 hle (by rw[hW];exact hP) (by rw[hW];exact hc)
theorem y1k:@j9=@xq:=rfl
theorem y0x:@wn=@jx:=rfl
theorem y1b:@wq=@jy:=rfl
theorem y1o:@x7=@ya:=by
 funext m a0 a1 a2 v27 v63 v75 v76
 unfold x7 ya
 simp only[p4,y1k,y0x]
theorem y19:@ww=@y7:=by
 funext m a0 a1 a2 v27 v63 v75 v76
 unfold ww y7
 rw[y1o]
theorem y1h:@xa=@yv:=by
 funext m a0 a1 a2 v27 v63 v64
 unfold xa yv
 simp only[p4,y19,y1b]
theorem y14:@ws=@qm:=by
 funext m a0 a1 a2 v27 v63 v64
 unfold ws qm
 rw[y1h]
theorem y16:@ud=@yg:=rfl
theorem zdn{α:Type}{c d:Prop}[Decidable c][Decidable d]{x:Option α}(h:c→d):(if c then(if d then x else none) else none)=(if c then x else none):=by
 by_cases hc:c
 ·rw[if_pos hc,if_pos hc,if_pos (h hc)]
 ·rw[if_neg hc,if_neg hc]
theorem y0w:@x4=@zu:=by
 funext m a0 v28 v98 v99 v100 v101
 unfold x4 zu
 simp only[p4,y16,p5]
 rw[zdn (c:=0≤v101.getD (v98+(0:Int).toNat) default∧v101.getD (v98+(0:Int).toNat) default<(a0.length:Int)) (by omega)]
theorem y1d:@wx=@yw:=by
 funext m a0 v28 v98 v99 v100 v101
 unfold wx yw
 rw[y0w]
theorem y13:@j6=@yu:=by
 funext m a0 a1 a2 v28
 unfold j6 yu
 rw[y1d]
theorem y26:@xk=@qb:=by
 funext m a0 a1 a2 v27 v28
 unfold xk qb
 simp only[p4,y14,y13,p5]
 rw[zdn (c:=0≤v27∧v27<(a0.length:Int)) (by omega)]
theorem y2j:@vq=@qw:=by
 funext m a0 a1 a2 v27 v28
 unfold vq qw
 rw[y26]
theorem y04:@xi=@y8:=by
 funext m a0 a1 a2
 unfold xi y8
 simp only[y2j,p5]
theorem z4g{l:List Int}(h:l.length*8≤140737488355328):uk none l=some l:=by
 cases l with
 |nil=>rfl
 |cons x r=>
  show ub none (x::r)=_
  unfold ub
  rw[if_pos (by simp),if_pos (by simpa using h),List.nil_append]
theorem zjn{l:List Int}(h:l.length*8≤140737488355328):Y0 none l=some l:=by
 cases l with
 |nil=>rfl
 |cons x r=>
  show vi none (x::r)=_
  unfold vi
  rw[if_pos (by simp),if_pos (by simpa using h),List.nil_append]
section
variable {p:Yj} (hv:Valid p)
include hv
theorem zo7{i:Nat}(hi:i<p.length):∀ (k j:Nat) (R:Yj),j+k=p[i].length→R.length=p.length→R.getD i default=p[i].take j→xt none p (i:Int) (j:Int) R=some (.inl (((i+1:Nat):Int),R.set i p[i]))
 |0,j,R,h,hl,hR=>by
  have h60:=hv.n60
  have:j=p[i].length:=by omega
  subst this
  have hiR:i<R.length:=by omega
  unfold xt
  rw[zl (x:=some (.inl (((i+1:Nat):Int),R))) ?_]
  ·have e:R.set i p[i]=R:=by
    rw[List.take_length,zf hiR] at hR
    rw[←hR,List.set_getElem_self]
   rw[e]
  ·unfold qr vg
   simp only[p0,zf hi]
   rw[if_neg (by simp),Wi (by omega)]
 |k+1,j,R,h,hl,hR=>by
  have h60:=hv.n60
  have h20:=hv.l20 _ (p2 hi)
  have hj:j<p[i].length:=by omega
  have hr:=hv.ok _ (p2 hi) _ (p2 hj)
  have hiR:i<R.length:=by omega
  have hlt:(p[i].take j).length=j:=by rw[pD];omega
  have e3:(⟨p[i][j].fM,p[i][j].fA⟩:GR)=p[i][j]:=rfl
  have ih:=zo7 hi k (j+1) (R.set i (p[i].take j++[p[i][j]])) (by omega) (by simpa using hl) (by
   rw[zf (by simpa using hiR),List.getElem_set_self,pA hj])
  rw[List.set_set] at ih
  unfold xt at ih ⊢
  rw[←ih]
  refine zw ?_
  unfold qr
  simp only[p0,p4,zf hi,zf hj]
  have hr61:=hr.2.1
  rw[hR,if_pos (by simpa using hj),if_pos (by simpa using hj),if_pos hiR,if_pos (by omega),z4g (by omega),p1,e3,if_pos (by rw[p5,p6,hlt,p9];omega),if_pos (by omega),Wi (by omega)]
theorem zv8:∀ (k i:Nat),i+k=p.length→js none p (i:Int) (p.take i++p8 k [])=some p
 |0,i,h=>by
  have:i=p.length:=by omega
  subst this
  unfold js
  rw[zl (x:=some p) ?_]
  unfold qt vl
  rw[if_neg (by simp),List.take_length]
  simp
 |k+1,i,h=>by
  have h60:=hv.n60
  have hi:i<p.length:=by omega
  have ih:=zv8 k (i+1) (by omega)
  have hlen:(p.take i).length=i:=by rw[pD];omega
  have hl:(p.take i++p8 (k+1) ([]:List GR)).length=p.length:=by rw[p6,hlen,List.length_replicate];omega
  have h0:(p.take i++p8 (k+1) ([]:List GR)).getD i default=p[i].take 0:=by
   rw[zf (by omega),List.getElem_append_right (by omega)];simp
  have:=zo7 hv hi _ 0 _ (p4 _) hl h0
  rw[show(((0:Nat):Int))=0 from rfl] at this
  unfold js at ih ⊢
  rw[←ih]
  refine zw ?_
  unfold qt
  rw[if_pos (by simpa using hi),if_pos (by simpa using hi),this,List.set_append_right _ _ (by omega),hlen,Nat.sub_self,List.replicate_succ,List.set_cons_zero,pA hi,List.append_assoc]
  rfl
theorem Ub:xx none p=some p:=by
 have h60:=hv.n60
 unfold xx
 have hlen:(p.map z6).length=p.length:=by simp
 rw[if_pos (by rw[hlen];omega),hlen,p0]
 have:=zv8 hv p.length 0 (by omega)
 simpa using this
end
theorem y29:@k6=@vg:=rfl
theorem y2k:@xu=@qr:=by
 funext m a0 v6 v14 v15
 unfold xu qr
 simp only[p4,y29]
theorem y2d:@vu=@xt:=by
 funext m a0 v6 v14 v15
 unfold vu xt
 rw[y2k]
theorem y2a:@xp=@qt:=by
 funext m a0 v6 v7
 unfold xp qt kb vl
 simp only[p4,y2d,p5]
 rw[zdn (c:=0≤v6∧v6<(a0.length:Int)) (by omega)]
theorem zsk:@qu=@xx:=by
 funext m a0
 unfold qu xx um js
 simp only[y2a,p5]
def bdf(x y:Int):Int:=((x.toNat &&& (x.toNat ^^^ (x.toNat &&& y.toNat)):Nat):Int)
theorem zmb(x y:Int)(t:Nat):tb (bdf x y) t=(tb x t&&!tb y t):=by
 unfold tb bdf
 rw[p0,Nat.testBit_and,Nat.testBit_xor,Nat.testBit_and]
 cases x.toNat.testBit t<;>cases y.toNat.testBit t<;>rfl
theorem z52{x y:Int}(h:rng x):rng (bdf x y):=by
 unfold rng bdf at *
 have:=zv1 (a:=x.toNat) (b:=x.toNat ^^^ (x.toNat &&& y.toNat)) (by omega)
 omega
theorem z2a{x y:Int}(h:rng x)(h':rng y):y6 .andNot .i64 x y=bdf x y:=by
 have hr:=z52 (y:=y) h
 unfold y6
 simp only
 have e:((BitVec.ofInt (IntKind.bits .i64) x &&& ~~~ BitVec.ofInt (IntKind.bits .i64) y).toNat:Int)=bdf x y:=by
  unfold bdf
  congr 1
  refine Nat.eq_of_testBit_eq fun t=>?_
  rw[BitVec.toNat_and,Nat.testBit_and]
  show((BitVec.ofInt 64 x).toNat.testBit t&&(~~~ BitVec.ofInt 64 y).toNat.testBit t)=_
  rw[Qs h,Nat.testBit_and,Nat.testBit_xor,Nat.testBit_and,BitVec.testBit_toNat,BitVec.getLsbD_not,←BitVec.testBit_toNat,Qs h']
  by_cases ht:t<64
  ·rw[decide_eq_true ht]
   cases x.toNat.testBit t<;>cases y.toNat.testBit t<;>rfl
  ·have:x.toNat.testBit t=false:=Nat.testBit_lt_two_pow (Nat.lt_of_lt_of_le (show x.toNat<2 ^ 20 by unfold rng at h;omega) (Nat.pow_le_pow_right (by omega) (by omega)))
   rw[this];rfl
 rw[e]
 exact zyv (by unfold inR;unfold rng at hr;omega)
theorem ztl{x y:Int}(h:bdf x y=0):Sub x y:=by
 intro t ht
 have:=zmb x y t
 rw[h,ht] at this
 have e:tb 0 t=false:=by simp[tb]
 rw[e] at this
 cases hy:tb y t
 ·rw[hy] at this;cases this
 ·rfl
theorem zz5{x y:Int}(hx:rng x)(hy:rng y)(h:bdf x y≠0):bor y (bdf x y)≠y:=by
 intro e
 refine h (zlo (z52 hx) (by unfold rng;omega) fun t=>?_)
 have e0:tb 0 t=false:=by simp[tb]
 rw[e0]
 cases hb:tb (bdf x y) t
 ·rfl
 ·have h1:tb y t=true:=by rw[←e,Kf,hb,Bool.or_true]
  rw[zmb,h1] at hb
  simp at hb
def Clo(p:Yj)(S D:List Int):Prop:=∀i,(h:i<p.length)→∀r∈p[i],∀x∈r.fA,Sub (z0z (dv S r) (D.getD x.toNat default)) (D.getD i default)
theorem zxp{p p':Yj}(hv:Valid p)(hv':Valid p')(hl:p'.length=p.length){A:Nat}(hA:A<p.length){r0:GR}{S S' D:List Int}
 (hsub:∀i,(h:i<p.length)→∀r∈p[i],(∃h':i<p'.length,r∈p'[i])∨(i=A∧r=r0))
 (hS:Sok p.length S) (hFS:Fs p S=S) (hleast:∀X,Le p.length (Fs p X) X→Le p.length S X) (hS':Sok p.length S') (hFS':Fs p' S'=S') (hD:Sok p.length D) (hclo:Clo p S D) (h0:Sub (dv S r0) (D.getD A default)) :
 ∀i,i<p.length→∀t,tb (S.getD i default) t=true→tb (D.getD i default) t=false→tb (S'.getD i default) t=true:=by
 let Y:List Int:=(List.range p.length).map fun i=>z0z (S.getD i default) (bor (S'.getD i default) (D.getD i default))
 have hYat:∀i,i<p.length→Y.getD i default=z0z (S.getD i default) (bor (S'.getD i default) (D.getD i default)):=fun i hi=>by
  rw[zf (by simpa[Y] using hi)];simp[Y]
 have hY:Le p.length (Fs p Y) Y:=by
  intro i hi t ht
  rw[z4a hi,zfg] at ht
  simp only[pE] at ht
  obtain⟨r,hr,ht⟩:=ht
  have hrk:=hv.ok _ (p2 hi) r hr
  rw[zqt] at ht
  simp only[pH,List.all_eq_true] at ht
  obtain⟨hm,hall⟩:=ht
  have hx:∀x∈r.fA,tb (S.getD x.toNat default) t=true∧(tb (S'.getD x.toNat default) t=true∨tb (D.getD x.toNat default) t=true):=fun x hx=>by
   have h1:=hall x hx
   have h2:=hrk.2.2 x hx
   rw[hYat _ (by omega),z3m,Kf] at h1
   simpa using h1
  have hdv:tb (dv S r) t=true:=by
   rw[zqt]
   simp only[pH,List.all_eq_true]
   exact⟨hm,fun x hx'=>(hx x hx').1⟩
  have hSi:tb (S.getD i default) t=true:=by
   have e:(Fs p S).getD i default=dA S p[i]:=z4a hi
   rw[hFS] at e
   rw[e,zfg]
   exact pE.2 ⟨r,hr,hdv⟩
  rw[hYat i hi,z3m,Kf,hSi,Bool.true_and]
  by_cases hex:∃x∈r.fA,tb (D.getD x.toNat default) t=true
  ·obtain⟨x,hx1,hx2⟩:=hex
   have:=hclo i hi r hr x hx1 t (by rw[z3m,hdv,hx2];rfl)
   rw[this,Bool.or_true]
  ·have hno:∀x∈r.fA,tb (S'.getD x.toNat default) t=true:=fun x hx'=>by
    rcases(hx x hx').2 with h|h
    ·exact h
    ·exact absurd ⟨x,hx',h⟩ hex
   rcases hsub i hi r hr with⟨h',hr'⟩|⟨rfl,rfl⟩
   ·have e:(Fs p' S').getD i default=dA S' p'[i]:=z4a h'
    rw[hFS'] at e
    have:tb (dA S' p'[i]) t=true:=by
     rw[zfg]
     refine pE.2 ⟨r,hr',?_⟩
     rw[zqt]
     simp only[pH,List.all_eq_true]
     exact⟨hm,hno⟩
    rw[e,this,Bool.true_or]
   ·rw[h0 t hdv,Bool.or_true]
 intro i hi t ht hd
 have:=hleast Y hY i hi t ht
 rw[hYat i hi,z3m,Kf,ht,hd,Bool.true_and,Bool.or_false] at this
 exact this
theorem Sok.set{n:Nat}{s:List Int}(h:Sok n s)(i:Nat){x:Int}(hx:rng x):Sok n (s.set i x):=⟨by rw[pG];exact h.1,fun y hy=>by
 rcases pC hy with h'|h'
 ·exact h.2 y h'
 ·rw[h'];exact hx⟩
def Post(n:Nat)(P:List Int→Prop)(b:Bool)(D:List Int)(b':Bool)(D':List Int):Prop:=Sok n D'∧Le n D D'∧((D'=D∧b'=b∧P D)∨(b'=true∧D.sum<D'.sum))
theorem Post.trans{n:Nat}{P Q:List Int→Prop}{b b' b'':Bool}{D D' D'':List Int}(h:Post n P b D b' D')(h':Post n Q b' D' b'' D''):Post n (fun D=>P D∧Q D) b D b'' D'':=by
 obtain⟨h1,h2,h3⟩:=h
 obtain⟨k1,k2,k3⟩:=h'
 refine⟨k1,h2.trans k2,?_⟩
 have hs:D'.sum≤D''.sum:=(k2.sum h1 k1).1
 rcases h3 with⟨rfl,rfl,h3⟩|⟨rfl,h3⟩
 ·rcases k3 with⟨rfl,rfl,k3⟩|⟨rfl,k3⟩
  ·exact .inl ⟨rfl,rfl,h3,k3⟩
  ·exact .inr ⟨rfl,k3⟩
 ·rcases k3 with⟨rfl,rfl,k3⟩|⟨rfl,k3⟩
  ·exact .inr ⟨rfl,h3⟩
  ·exact .inr ⟨rfl,by omega⟩
theorem Post.weak{n:Nat}{P Q:List Int→Prop}{b b':Bool}{D D':List Int}(h:Post n P b D b' D')(hPQ:∀D,P D→Q D):Post n Q b D b' D':=
 ⟨h.1,h.2.1,h.2.2.imp (fun⟨a,b,c⟩=>⟨a,b,hPQ _ c⟩) fun h=>h⟩
section
variable {p:Yj} (hv:Valid p) {S:List Int} (hS:Sok p.length S) {a0 a1:Int}
include hv hS
theorem zlf{i j:Nat}(hi:i<p.length)(hj:j<p[i].length):∀ (k q:Nat) (b:Bool) (D:List Int),q+k=p[i][j].fA.length→Sok p.length D →
 ∃b' D',y4 none a0 a1 p S (i:Int) (j:Int) b (q:Int) D=some (.inl (b',((j+1:Nat):Int),D')) ∧
  Post p.length (fun D=>∀x∈p[i][j].fA.drop q,Sub (z0z (dv S p[i][j]) (D.getD x.toNat default)) (D.getD i default)) b D b' D'
 |0,q,b,D,h,hD=>by
  have h20:=hv.l20 _ (p2 hi)
  have:q=p[i][j].fA.length:=by omega
  subst this
  refine⟨b,D,?_,hD,Le.refl _ _,.inl ⟨rfl,rfl,by simp⟩⟩
  unfold y4
  rw[zl (x:=some (.inl (b,((j+1:Nat):Int),D))) ?_]
  unfold y3 jg
  simp only[p0,p4,zf hi,zf hj]
  rw[if_neg (by simp),Wi (by omega)]
 |k+1,q,b,D,h,hD=>by
  have h60:=hv.n60
  have hr:=hv.ok _ (p2 hi) _ (p2 hj)
  have h61:=hr.2.1
  have hq:q<p[i][j].fA.length:=by omega
  obtain⟨g1,g2⟩:=hr.2.2 _ (p2 hq)
  have hDl:=hD.1
  have hx:=hD.at (k:=p[i][j].fA[q].toNat) (by omega)
  have hDi:=hD.at hi
  have hdv:=z6g (s:=S) hr
  have hbn:=z02 (y:=D.getD p[i][j].fA[q].toNat default) hdv
  have hd:=p3 hq
  have e3:(⟨p[i][j].fM,p[i][j].fA⟩:GR)=p[i][j]:=rfl
  have hb:y3 none a0 a1 p S (i:Int) (j:Int) b (q:Int) D =
   if bdf (z0z (dv S p[i][j]) (D.getD p[i][j].fA[q].toNat default)) (D.getD i default)≠0 then some (.inl (true,((q+1:Nat):Int),D.set i (bor (D.getD i default) (bdf (z0z (dv S p[i][j]) (D.getD p[i][j].fA[q].toNat default)) (D.getD i default))))) else some (.inl (b,((q+1:Nat):Int),D)):=by
   unfold y3 qv
   simp only[p0,p4,zf hi,zf hj,zf hq]
   rw[if_pos (by simpa using hq),if_pos (by simpa using hq),if_pos (by omega),if_pos (by omega),if_pos (by omega),if_pos (by omega),e3,z3v hS hr,p1,z4f hdv hx,z2a hbn hDi]
   by_cases hm:bdf (z0z (dv S p[i][j]) (D.getD p[i][j].fA[q].toNat default)) (D.getD i default)=0
   ·rw[if_neg (by rw[hm];decide),if_neg (fun h=>h hm),Wi (by omega)]
   ·rw[if_pos (bne_iff_ne.2 hm),if_pos hm,if_pos (by omega),if_pos (by omega),if_pos (by omega),if_pos (by omega),z0e hDi (z52 hbn),Wi (by omega)]
  unfold y4
  by_cases hm:bdf (z0z (dv S p[i][j]) (D.getD p[i][j].fA[q].toNat default)) (D.getD i default)=0
  ·obtain⟨b',D',q1,q2⟩:=zlf hi hj k (q+1) b D (by omega) hD
   unfold y4 at q1
   refine⟨b',D',by rw[zw (s':=(b,((q+1:Nat):Int),D)) (by rw[hb,if_neg (fun h=>h hm)]),q1],?_⟩
   have h1:Post p.length (fun D=>Sub (z0z (dv S p[i][j]) (D.getD p[i][j].fA[q].toNat default)) (D.getD i default)) b D b D:=⟨hD,Le.refl _ _,.inl ⟨rfl,rfl,ztl hm⟩⟩
   refine(h1.trans q2).weak fun D h x hx=>?_
   rw[hd] at hx
   rcases pB.1 hx with rfl|hx
   ·exact h.1
   ·exact h.2 x hx
  ·have hset:=fun i'=>Xg D i i' (bor (D.getD i default) (bdf (z0z (dv S p[i][j]) (D.getD p[i][j].fA[q].toNat default)) (D.getD i default))) (by omega)
   have hD2:=hD.set i (Uk hDi (z52 (y:=D.getD i default) hbn))
   have hle:Le p.length D (D.set i (bor (D.getD i default) (bdf (z0z (dv S p[i][j]) (D.getD p[i][j].fA[q].toNat default)) (D.getD i default)))):=fun i' hi' t ht=>by
    rw[hset]
    split
    ·rename_i e;subst e;rw[Kf,ht,Bool.true_or]
    ·exact ht
   have hne:D≠D.set i (bor (D.getD i default) (bdf (z0z (dv S p[i][j]) (D.getD p[i][j].fA[q].toNat default)) (D.getD i default))):=fun e=>zz5 hbn hDi hm (by
    have:=hset i
    rw[if_pos rfl,←e] at this
    exact this.symm)
   have hlt:=(hle.sum hD hD2).2 hne
   obtain⟨b',D',q1,q2⟩:=zlf hi hj k (q+1) true _ (by omega) hD2
   unfold y4 at q1
   refine⟨b',D',by rw[zw (s':=(true,((q+1:Nat):Int),D.set i (bor (D.getD i default) (bdf (z0z (dv S p[i][j]) (D.getD p[i][j].fA[q].toNat default)) (D.getD i default))))) (by rw[hb,if_pos hm]),q1],?_⟩
   have h1:Post p.length (fun D=>Sub (z0z (dv S p[i][j]) (D.getD p[i][j].fA[q].toNat default)) (D.getD i default)) b D true _:=⟨hD2,hle,.inr ⟨rfl,hlt⟩⟩
   refine(h1.trans q2).weak fun D h x hx=>?_
   rw[hd] at hx
   rcases pB.1 hx with rfl|hx
   ·exact h.1
   ·exact h.2 x hx
theorem zpi{i:Nat}(hi:i<p.length):∀ (k j:Nat) (b:Bool) (D:List Int),j+k=p[i].length→Sok p.length D →
 ∃b' D',xg none a0 a1 p S (i:Int) b (j:Int) D=some (.inl (b',((i+1:Nat):Int),D')) ∧
  Post p.length (fun D=>∀r∈p[i].drop j,∀x∈r.fA,Sub (z0z (dv S r) (D.getD x.toNat default)) (D.getD i default)) b D b' D'
 |0,j,b,D,h,hD=>by
  have h60:=hv.n60
  have:j=p[i].length:=by omega
  subst this
  refine⟨b,D,?_,hD,Le.refl _ _,.inl ⟨rfl,rfl,by simp⟩⟩
  unfold xg
  rw[zl (x:=some (.inl (b,((i+1:Nat):Int),D))) ?_]
  unfold yz je
  simp only[p0,p4,zf hi]
  rw[if_neg (by simp),Wi (by omega)]
 |k+1,j,b,D,h,hD=>by
  have hj:j<p[i].length:=by omega
  obtain⟨b1,D1,q1,q2⟩:=zlf hv hS (a0:=a0) (a1:=a1) hi hj _ 0 b D (p4 _) hD
  obtain⟨b2,D2,w1,w2⟩:=zpi hi k (j+1) b1 D1 (by omega) q2.1
  unfold xg at w1 ⊢
  refine⟨b2,D2,?_,(q2.trans w2).weak fun D h r hr=>?_⟩
  ·rw[zw (s':=(b1,((j+1:Nat):Int),D1)) ?_,w1]
   unfold yz
   simp only[p0,p4,zf hi]
   rw[if_pos (by simpa using hj),if_pos (by simpa using hj)]
   rw[show(((0:Nat):Int))=0 from rfl] at q1
   rw[q1]
  ·rw[p3 hj] at hr
   rcases pB.1 hr with rfl|hr
   ·exact fun x hx=>h.1 x (by simpa using hx)
   ·exact h.2 r hr
theorem zhq:∀ (k i:Nat) (b:Bool) (D:List Int),i+k=p.length→Sok p.length D →
 ∃b' D',xf none a0 a1 p S b (i:Int) D=some (.inl (b',D')) ∧
  Post p.length (fun D=>∀i',i≤i'→(h:i'<p.length)→∀r∈p[i'],∀x∈r.fA,Sub (z0z (dv S r) (D.getD x.toNat default)) (D.getD i' default)) b D b' D'
 |0,i,b,D,h,hD=>by
  have:i=p.length:=by omega
  subst this
  refine⟨b,D,?_,hD,Le.refl _ _,.inl ⟨rfl,rfl,fun i' h1 h2=>by omega⟩⟩
  unfold xf
  rw[zl (x:=some (.inl (b,D))) ?_]
  unfold yy
  rw[if_neg (by simp)]
 |k+1,i,b,D,h,hD=>by
  have hi:i<p.length:=by omega
  obtain⟨b1,D1,q1,q2⟩:=zpi hv hS (a0:=a0) (a1:=a1) hi _ 0 b D (p4 _) hD
  obtain⟨b2,D2,w1,w2⟩:=zhq k (i+1) b1 D1 (by omega) q2.1
  unfold xf at w1 ⊢
  refine⟨b2,D2,?_,(q2.trans w2).weak fun D h i' h1 h2=>?_⟩
  ·rw[zw (s':=(b1,((i+1:Nat):Int),D1)) ?_,w1]
   unfold yy
   rw[if_pos (by simpa using hi),if_pos (by simpa using hi),if_pos (by simpa using hi)]
   rw[show(((0:Nat):Int))=0 from rfl] at q1
   rw[q1]
  ·by_cases e:i'=i
   ·subst e;exact fun r hr=>h.1 r (by simpa using hr)
   ·exact h.2 i' (by omega) h2
theorem zz7:∀ (M:Nat) (D:List Int),Sok p.length D→(p.length:Int)*1048575-D.sum≤M→∃D',xb none a0 a1 p S true D=yq none a0 a1 p S D'∧Sok p.length D'∧Le p.length D D'∧Clo p S D'
 |M,D,hD,hM=>by
  obtain⟨b',D',q1,q2,q3,q4⟩:=zhq hv hS (a0:=a0) (a1:=a1) p.length 0 false D (by omega) hD
  rw[show(((0:Nat):Int))=0 from rfl] at q1
  have hb1:ye none a0 a1 p S true D=some (.inl (b',D')):=by
   unfold ye
   rw[if_pos rfl,q1]
  rcases q4 with⟨rfl,rfl,q4⟩|⟨rfl,q4⟩
  ·refine⟨D',?_,q2,q3,fun i h=>q4 i (Nat.zero_le _) h⟩
   unfold xb
   rw[zw (s':=(false,D')) hb1,zl (x:=yq none a0 a1 p S D') ?_]
   unfold ye
   rw[if_neg (by simp)]
  ·have hb:=(V2 q2.2).2
   rw[q2.1] at hb
   match M,hM with
   |0,hM=>omega
   |M+1,hM=>
    obtain⟨D2,k1,k2,k3,k4⟩:=zz7 M D' q2 (by omega)
    refine⟨D2,?_,k2,q3.trans k3,k4⟩
    unfold xb at k1 ⊢
    rw[zw (s':=(true,D')) hb1,k1]
end
structure Lst(p:Yj)(S:List Int):Prop where
 ok:Sok p.length S
 fix:Fs p S=S
 least:∀X,Le p.length (Fs p X) X→Le p.length S X
theorem zi0{p:Yj}(hv:Valid p):∃S N,jm none p=some (S,N)∧Lst p S:=by
 obtain⟨S,N,h1,_,h3,h4,h5⟩:=zrb hv
 exact⟨S,N,h1,h3,h4,h5⟩
theorem zxi{p:Yj}{S S':List Int}(h:Lst p S)(h':Lst p S'):S=S':=
 Le.antisymm h.ok h'.ok (h.least S' (by rw[h'.fix];exact Le.refl _ _)) (h'.least S (by rw[h.fix];exact Le.refl _ _))
theorem zms{p:Yj}(hv:Valid p)(A:Nat){row:List GR}(h20:row.length≤20)(hr:∀r∈row,Rok p.length r):Valid (p.set A row):=by
 refine⟨by rw[pG];exact hv.n60,fun l hl=>?_,fun l hl r hrl=>?_⟩
 ·rcases pC hl with h|rfl
  ·exact hv.l20 l h
  ·exact h20
 ·rw[pG]
  rcases pC hl with h|rfl
  ·exact hv.ok l h r hrl
  ·exact hr r hrl
theorem zgc{p:Yj}(hv:Valid p):Small p:=by
 have h60:=hv.n60
 refine⟨by unfold BB;omega,fun l hl=>by have:=hv.l20 l hl;unfold BB;omega,fun l hl r hr=>by have:=(hv.ok l hl r hr).2.1;unfold BB;omega⟩
theorem ztn{p:Yj}(hv:Valid p){S:List Int}(hL:Lst p S):y8 none p (p8 p.length 0) (zkc p.length)=some S:=by
 have h60:=hv.n60
 refine Ju hv hL.ok hL.fix hL.least (z82 _) (zero_le hv S) (by rw[z31];omega) (fun y hy=>?_) (fun i hi hni=>?_)
 ·obtain⟨i,hi,rfl⟩:=List.mem_map.1 hy
  have:=List.mem_range.1 hi
  omega
 ·exact absurd (List.mem_map.2 ⟨i,List.mem_range.2 hi,rfl⟩) hni
section
variable {p:Yj} (hv:Valid p) {S:List Int} (hL:Lst p S)
include hv hL
theorem zwk{A:Int}{r:GR}(h:A<0∨A≥(p.length:Int)):ym none A r p S=some (1,p,S):=by
 have _:=hL
 have _:=hv
 unfold ym
 rw[if_pos (by simpa using h)]
theorem zys{A:Nat}(hA:A<p.length){r:GR}(hr:r.fA.length*8≤140737488355328){p':Yj}(hp:p'=p.set A (p[A]++[r])) :
 ∃S',ym none (A:Int) r p S=some (if z0g p'=0 then(0,p',S') else(z0g p',p,S))∧(z0g p'=0→Lst p' S'):=by
 have h60:=hv.n60
 have h20:=hv.l20 _ (p2 hA)
 have e3:(⟨r.fM,r.fA⟩:GR)=r:=rfl
 have hl':p'.length=p.length:=by rw[hp,pG]
 have hSm:Small p':=by
  have hs:=zgc hv
  refine⟨by rw[hl'];exact hs.n,fun l hl=>?_,fun l hl x hx=>?_⟩
  ·rw[hp] at hl
   rcases pC hl with h|rfl
   ·exact hs.l l h
   ·rw[p6,p9];unfold BB;omega
  ·rw[hp] at hl
   rcases pC hl with h|rfl
   ·exact hs.a l h x hx
   ·rcases pK.1 hx with h|h
    ·exact hs.a _ (p2 hA) x h
    ·have:x=r:=by simpa using h
     subst this;unfold BB;omega
 by_cases hc:z0g p'=0
 ·have hv':=z7v hc
  obtain⟨S',N,_,hL'⟩:=zi0 hv'
  refine⟨S',?_,fun _=>hL'⟩
  have hat:∀i,(h:i<p.length)→i≠A→p'[i]'(by omega)=p[i]:=fun i h hne=>by
   subst hp
   rw[List.getElem_set_ne (fun e=>hne e.symm)]
  have hle:Le p.length S S':=hL.least S' (fun i hi t ht=>by
   have e:(Fs p' S').getD i default=dA S' (p'[i]'(by omega)):=z4a (by omega)
   rw[hL'.fix] at e
   rw[z4a hi] at ht
   rw[e]
   by_cases hi':i=A
   ·subst hi'
    have:p'[i]'(by omega)=p[i]++[r]:=by subst hp;rw[List.getElem_set_self]
    rw[this,zfg,List.any_append]
    rw[zfg] at ht
    rw[ht,Bool.true_or]
   ·rw[hat i hi hi'];exact ht)
  have hpr:y8 none p' S [(A:Int)]=some S':=by
   refine Ju hv' hL'.ok hL'.fix hL'.least (by rw[hl'];exact hL.ok) (by rw[hl'];exact hle) (by simp) (fun y hy=>?_) (fun i hi hni=>?_)
   ·have:y=(A:Int):=by simpa using hy
    subst this;omega
   ·have hne:i≠A:=fun e=>hni (by subst e;simp)
    rw[hat i (by omega) hne]
    have e:(Fs p S).getD i default=dA S p[i]:=z4a (by omega)
    rw[hL.fix] at e
    rw[e];exact fun t h=>h
  unfold ym
  rw[if_neg (by simp;omega),zsk,Ub hv,p1,p0,p4,if_pos hA,if_pos (by omega),z4g hr,p1,e3,zf hA,
   if_pos (by rw[p5,p6,p9];omega),if_pos (by omega),←hp,z7m hSm,p1,hc,if_neg (by decide),y04,hpr,p1,if_pos (by rw[hL'.ok.1,hL.ok.1,hl']),if_pos rfl]
 ·refine⟨[],?_,fun h=>absurd h hc⟩
  unfold ym
  rw[if_neg (by simp;omega),zsk,Ub hv,p1,p0,p4,if_pos hA,if_pos (by omega),z4g hr,p1,e3,zf hA,
   if_pos (by rw[p5,p6,p9];omega),if_pos (by omega),←hp,z7m hSm,p1,if_pos (bne_iff_ne.2 hc),if_neg hc]
theorem zwy{A B:Int}(h:A<0∨A≥(p.length:Int)):zp none A B p S=some (1,p,S):=by
 have _:=hL
 have _:=hv
 unfold zp
 rw[if_pos (by simpa using h)]
theorem zs2{A:Nat}(hA:A<p.length){B:Int}(h:B<0∨B≥(p[A].length:Int)):zp none (A:Int) B p S=some (5,p,S):=by
 have _:=hL
 have _:=hv
 unfold zp
 rw[if_neg (by simp;omega),if_pos (fun _=>by omega),if_pos (fun _=>by omega),p0,p4,zf hA,if_pos (by simpa using h)]
theorem za3{A:Nat}{B:Int}{D:List Int}(hD:Sok p.length D){sd:List Int}(hsl:sd.length=p.length)(hsd:∀i,(h:i<sd.length)→sd[i]=bdf (S.getD i default) (D.getD i default)):∀ (k i:Nat),i+k=p.length →
 xc none (A:Int) B p S D (i:Int) (sd.take i++S.drop i)=yp none (A:Int) B p sd
 |0,i,h=>by
  have hSl:=hL.ok.1
  have:i=p.length:=by omega
  subst this
  unfold xc
  rw[zl (x:=yp none (A:Int) B p sd) ?_]
  unfold qa
  rw[if_neg (by simp[hSl]),pF (by omega),List.drop_of_length_le (by omega),List.append_nil]
 |k+1,i,h=>by
  have h60:=hv.n60
  have hSl:=hL.ok.1
  have hDl:=hD.1
  have hi:i<p.length:=by omega
  have ih:=za3 (A:=A) (B:=B) hD hsl hsd k (i+1) (by omega)
  have hlen:(sd.take i).length=i:=by rw[pD];omega
  have hn:(sd.take i++S.drop i).length=p.length:=by rw[p6,hlen,List.length_drop];omega
  have hat:(sd.take i++S.drop i).getD i default=S.getD i default:=by
   rw[zf (by omega),List.getElem_append_right (by omega),zf (by omega)]
   simp[hlen]
  unfold xc at ih ⊢
  rw[←ih]
  refine zw ?_
  unfold qa
  simp only[p0,p4]
  rw[if_pos (by simp;omega),if_pos (by omega),if_pos (by omega),if_pos (by omega),if_pos (by omega),if_pos (by omega),if_pos (by omega),hat,z2a (hL.ok.at hi) (hD.at hi),Wi (by omega),List.set_append_right _ _ (by omega),hlen,Nat.sub_self,
   p3 (show i<S.length by omega),List.set_cons_zero,pA (by omega),List.append_assoc,hsd i (by omega)]
  rfl
theorem y07{A:Nat}(hA:A<p.length){B:Nat}(hB:B<p[A].length){p':Yj}(hp:p'=p.set A (p[A].take B++p[A].drop (B+1))) :
 ∃S',zp none (A:Int) (B:Int) p S=some (0,p',S')∧Lst p' S'∧Valid p':=by
 have h60:=hv.n60
 have h20:=hv.l20 _ (p2 hA)
 have hr0:=hv.ok _ (p2 hA) _ (p2 hB)
 have hSl:=hL.ok.1
 have hl':p'.length=p.length:=by rw[hp,pG]
 have hv':Valid p':=by
  rw[hp]
  refine zms hv A (by rw[p6,pD,List.length_drop];omega) (fun r hr=>?_)
  rcases pK.1 hr with h|h
  ·exact hv.ok _ (p2 hA) r (List.mem_of_mem_take h)
  ·exact hv.ok _ (p2 hA) r (List.mem_of_mem_drop h)
 obtain⟨S',N,_,hL'⟩:=zi0 hv'
 refine⟨S',?_,hL',hv'⟩
 have hdv:=z6g (s:=S) hr0
 have hz:=z82 p.length
 have hD0:=hz.set A hdv
 have hsum:=V2 hD0.2
 obtain⟨D,k1,k2,k3,k4⟩:=zz7 hv hL.ok (a0:=(A:Int)) (a1:=(B:Int)) (p.length*1048575) _ hD0 (by have:=hsum.1;omega)
 have hDA:Sub (dv S p[A][B]) (D.getD A default):=fun t ht=>by
  refine k3 A hA t ?_
  rw[Xg _ _ _ _ (by rw[hz.1];exact hA),if_pos rfl]
  exact ht
 let sd:List Int:=(List.range p.length).map fun i=>bdf (S.getD i default) (D.getD i default)
 have hsl:sd.length=p.length:=by simp[sd]
 have hsd:∀i,(h:i<sd.length)→sd[i]=bdf (S.getD i default) (D.getD i default):=fun i h=>by simp[sd]
 have hsok:Sok p.length sd:=⟨hsl,fun x hx=>by
  obtain⟨i,hi,rfl⟩:=List.mem_map.1 hx
  exact z52 (hL.ok.at (List.mem_range.1 hi))⟩
 have hleft:=zxp hv hv' hl' hA (r0:=p[A][B]) (fun i hi r hr=>by
  by_cases e:i=A
  ·subst e
   have hrow:p'[i]'(by omega)=p[i].take B++p[i].drop (B+1):=by subst hp;rw[List.getElem_set_self]
   have hsp:p[i]=p[i].take B++(p[i][B]::p[i].drop (B+1)):=by rw[←p3 hB,List.take_append_drop]
   rw[hsp] at hr
   rcases pK.1 hr with h|h
   ·exact .inl ⟨by omega,by rw[hrow];exact List.mem_append_left _ h⟩
   ·rcases pB.1 h with h|h
    ·exact .inr ⟨rfl,h⟩
    ·exact .inl ⟨by omega,by rw[hrow];exact List.mem_append_right _ h⟩
  ·refine .inl ⟨by omega,?_⟩
   have:p'[i]'(by omega)=p[i]:=by subst hp;rw[List.getElem_set_ne (fun h=>e h.symm)]
   rw[this];exact hr) hL.ok hL.fix hL.least (by rw[←hl'];exact hL'.ok) hL'.fix k2 k4 hDA
 have hpr:y8 none p' sd (zkc p'.length)=some S':=by
  refine Ju hv' hL'.ok hL'.fix hL'.least (by rw[hl'];exact hsok) (fun i hi t ht=>?_) (by rw[z31];omega) (fun y hy=>?_) (fun i hi hni=>?_)
  ·rw[zf (by omega),hsd i (by omega),zmb] at ht
   simp only[pH,Bool.not_eq_true'] at ht
   exact hleft i (by omega) t ht.1 ht.2
  ·obtain⟨i,hi,rfl⟩:=List.mem_map.1 hy
   have:=List.mem_range.1 hi
   omega
  ·exact absurd (List.mem_map.2 ⟨i,List.mem_range.2 hi,rfl⟩) hni
 have hrest:=za3 hv hL (A:=A) (B:=(B:Int)) k2 hsl hsd p.length 0 (by omega)
 rw[List.take_zero,p7,List.nil_append,show(((0:Nat):Int))=0 from rfl] at hrest
 have e3:(⟨p[A][B].fM,p[A][B].fA⟩:GR)=p[A][B]:=rfl
 have hdel:kp none (B:Int) ((B+1:Nat):Int) p[A]=some (p[A].take B++p[A].drop (B+1)):=by
  unfold kp y0s
  rw[if_pos (by omega),p0]
 unfold zp
 simp only[p0,p4,zf hA,zf hB,p5]
 rw[if_neg (by simp;omega),if_pos (fun _=>by omega),if_pos (fun _=>hA),if_neg (by simp;omega),if_pos (by omega),if_pos (by omega),if_pos hA,if_pos (by omega),e3,z3v hL.ok hr0,p1,if_pos (by simp;omega),if_pos (by simpa using hA),k1]
 unfold yq
 rw[hrest]
 unfold yp
 rw[zsk,Ub hv,p1,p0,p4,if_pos hA,if_pos (by omega),zf hA,Wi (by omega),hdel,p1,if_pos (by omega),←hp,z60 (by omega),p1,y04,hpr,p1,if_pos (by rw[hL'.ok.1,hsl,hl'])]
end
def zp5(x:Int):Prop:=(IntKind.min .i64≤x∧x≤IntKind.max .i64)
def z92(x:GR):Prop:=(IntKind.min .i64≤x.fM∧x.fM≤IntKind.max .i64)∧(x.fA.length≤maxLen∧x.fA.length*8≤reachBytes∧∀y∈x.fA,zp5 y)
def Va(x:List GR):Prop:=(x.length≤maxLen∧x.length*32≤reachBytes∧∀y∈x,z92 y)
def zdv(x:GS):Prop:=(IntKind.min .i64≤x.fD∧x.fD≤IntKind.max .i64)∧(IntKind.min .i64≤x.fa∧x.fa≤IntKind.max .i64)∧(IntKind.min .i64≤x.fb∧x.fb≤IntKind.max .i64)
def z5e(x:List (List GR)):Prop:=(x.length≤maxLen∧x.length*24≤reachBytes∧∀y∈x,Va y)
def zoc(x:List Int):Prop:=(x.length≤maxLen∧x.length*8≤reachBytes∧∀y∈x,zp5 y)
def zjm(x:List GS):Prop:=(x.length≤maxLen∧x.length*24≤reachBytes∧∀y∈x,zdv y)
def y2p(a0:List (List GR))(a1:List GS)(a2:List GR):Prop:=((a0.length≤maxLen∧a0.length*24≤reachBytes∧∀y∈a0,Va y))∧((a1.length≤maxLen∧a1.length*24≤reachBytes∧∀y∈a1,zdv y))∧((a2.length≤maxLen∧a2.length*32≤reachBytes∧∀y∈a2,z92 y))
theorem zov(a:Int){b:Int}(hb:0<b)(hb':b≤4611686018427387904):∃v,j4 none a b=some v∧0≤v∧v<b:=by
 have h1:=Int.tmod_lt_of_pos a hb
 have h2:-b<a.tmod b:=by
  have h:=Int.tmod_lt_of_pos (-a) hb
  rw[Int.neg_tmod] at h
  omega
 unfold j4 kq
 rw[if_pos (by omega)]
 by_cases c:a.tmod b<0
 ·rw[if_pos (decide_eq_true c),zyv (by unfold inR;omega)]
  exact⟨_,rfl,by omega,by omega⟩
 ·rw[if_neg (by simpa using c)]
  exact⟨_,rfl,by omega,by omega⟩
section
variable {p:Yj} (hv:Valid p)
include hv
theorem zlu{i:Nat}(hi:i<p.length):∀ (k j:Nat),j+k=p[i].length→jd none p p (i:Int) (j:Int)=some (.inl ((i+1:Nat):Int))
 |0,j,h=>by
  have h60:=hv.n60
  have:j=p[i].length:=by omega
  subst this
  unfold jd
  rw[zl (x:=some (.inl ((i+1:Nat):Int))) ?_]
  unfold x8 wu
  simp only[p0,zf hi]
  rw[if_neg (by simp),Wi (by omega)]
 |k+1,j,h=>by
  have h60:=hv.n60
  have h20:=hv.l20 _ (p2 hi)
  have hj:j<p[i].length:=by omega
  have hr:=(hv.ok _ (p2 hi) _ (p2 hj)).2.1
  have ih:=zlu hi k (j+1) (by omega)
  unfold jd at ih ⊢
  rw[←ih]
  refine zw ?_
  have a1:(0:Int)≤(i:Int)∧(i:Int)<((p.map z6).length:Int):=by simpa using hi
  have a2:(0:Int)≤(j:Int)∧(j:Int)<((p[i].map z8).length:Int):=by simpa using hj
  unfold x8
  simp only[p0,zf hi,zf hj]
  rw[if_pos (by simpa using hj),if_pos a1,if_pos a2,if_pos a1,if_pos a2,if_pos (fun _=>a1),if_pos (fun _=>a2),if_pos (fun _=>a1),if_pos (fun _=>a2),if_pos (by simp),zhc (by omega),p1,if_neg (by simp),Wi (by omega)]
theorem zv0:∀ (k i:Nat),i+k=p.length→ja none p p (i:Int)=some true
 |0,i,h=>by
  have:i=p.length:=by omega
  subst this
  unfold ja
  rw[zl (x:=some true) ?_]
  unfold x6 wo
  rw[if_neg (by simp)]
 |k+1,i,h=>by
  have hi:i<p.length:=by omega
  have ih:=zv0 k (i+1) (by omega)
  have h1:=zlu hv hi _ 0 (p4 _)
  rw[show(((0:Nat):Int))=0 from rfl] at h1
  unfold ja at ih ⊢
  rw[←ih]
  refine zw ?_
  have a1:(0:Int)≤(i:Int)∧(i:Int)<((p.map z6).length:Int):=by simpa using hi
  unfold x6
  rw[if_pos (by simpa using hi),if_pos a1,if_pos a1,if_neg (by simp),if_pos a1,h1]
theorem y0z:qz none p p=some true:=by
 unfold qz
 have:=zv0 hv _ 0 (p4 _)
 rw[show(((0:Nat):Int))=0 from rfl] at this
 rw[if_neg (by simp),this]
theorem y1j:xl none p=some p:=by
 have h60:=hv.n60
 unfold xl zye
 rw[if_pos (by omega)]
theorem z8e{S:List Int}(hL:Lst p S){a1:List GS}{a2:List GR}{i:Nat}(hi:i≤100)(w:Int):zz none a1 a2 (i:Int) w w p S p=some (.inl (p,((i+1:Nat):Int),p,S)):=by
 have h60:=hv.n60
 obtain⟨S',N,h1,h2⟩:=zi0 hv
 have e:=zxi h2 hL
 subst e
 have hSl:=hL.ok.1
 unfold zz kc wg zy
 rw[h1,p1,if_pos (by simp),zsk,Ub hv,p1,p1,if_pos (by simp),y0z hv,p1,if_pos (by simp),zjn (by omega),p1,p1,if_pos (by simp),zhc (by omega),p1,if_neg (by simp),Wi (by omega)]
end
def zfs(a1:List GS):List GS:=a1.take (if 15<((a1.map zr).length:Int) then 15 else((a1.map zr).length:Int)).toNat
theorem ztz(a1:List GS):(zfs a1).length≤15:=by
 unfold zfs
 rw[pD,p5]
 split<;>omega
theorem zog{l:List GR}(h:l.length≤100):qo none l=some l:=by
 unfold qo zye
 rw[if_pos (by omega)]
section
variable {a1:List GS} {a2:List GR} (h2:a2.length≤4611686018427387904) (h2r:∀r∈a2,r.fA.length*8≤140737488355328) {i:Nat} (hi:i<(zfs a1).length)
include h2 h2r hi
theorem zs5{p:Yj}{S:List Int}(hv:Valid p)(hL:Lst p S):∃p' S',y9 none a1 a2 p (i:Int) p S=some (.inl (p',((i+1:Nat):Int),p',S'))∧Valid p'∧Lst p' S':=by
 have h15:=ztz a1
 have h60:=hv.n60
 have e:cT a1=zfs a1:=rfl
 unfold y9
 rw[e,if_pos (by simpa using hi),if_pos (by simpa using hi),y1j hv,p1,p0,zf hi]
 have hend:∀w,zz none a1 a2 (i:Int) w w p S p=_:=fun w=>z8e hv hL (by omega) w
 obtain⟨v,hm,_,_⟩:=zov (zfs a1)[i].fD (b:=2) (by decide) (by decide)
 have hlen:(p.map z6).length=p.length:=by simp
 by_cases hA:(zfs a1)[i].fa<0∨(zfs a1)[i].fa≥(p.length:Int)
 ·-- no such set
  rw[if_pos (by rw[hlen];simpa using hA)]
  refine⟨p,S,?_,hv,hL⟩
  unfold yn
  rw[e,p0,zf hi,hm,p1]
  by_cases hD:((v==0)&&(decide (((a2.map z8).length:Int) > 0)))=true
  ·have hp:0<a2.length:=by simp at hD;omega
   obtain⟨u,hu,u0,u1⟩:=zov (zfs a1)[i].fb (b:=((a2.map z8).length:Int)) (by simpa using hp) (by rw[p5];omega)
   rw[if_pos hD,hu,p1,if_pos ⟨u0,u1⟩,zwk hv hL hA,p1,if_neg (by decide)]
   unfold ze
   rw[if_neg (by decide)]
   exact hend 1
  ·rw[if_neg hD,zwy hv hL hA,p1,if_pos (fun h=>by simp at h),if_neg (by simp)]
   unfold y1
   rw[if_neg (by decide)]
   unfold ze
   rw[if_neg (by decide)]
   exact hend 1
 ·have hA0:0≤(zfs a1)[i].fa:=by omega
  obtain⟨A,hAe⟩:=Int.eq_ofNat_of_zero_le hA0
  have hAl:A<p.length:=by omega
  have h20:=hv.l20 _ (p2 hAl)
  rw[if_neg (by rw[hlen];simpa using hA)]
  unfold yn
  rw[e,p0,zf hi,hm,p1,hAe]
  by_cases hD:((v==0)&&(decide (((a2.map z8).length:Int) > 0)))=true
  ·have hp:0<a2.length:=by simp at hD;omega
   obtain⟨u,hu,u0,u1⟩:=zov (zfs a1)[i].fb (b:=((a2.map z8).length:Int)) (by simpa using hp) (by rw[p5];omega)
   rw[p5] at u1
   have hul:u.toNat<a2.length:=by omega
   have e3:(⟨a2[u.toNat].fM,a2[u.toNat].fA⟩:GR)=a2[u.toNat]:=rfl
   obtain⟨S',q1,q2⟩:=zys hv hL hAl (h2r _ (p2 hul)) (p':=p.set A (p[A]++[a2[u.toNat]])) rfl
   have hSm:Small (p.set A (p[A]++[a2[u.toNat]])):=by
    have hs:=zgc hv
    refine⟨by rw[pG];exact hs.n,fun l hl=>?_,fun l hl x hx=>?_⟩
    ·rcases pC hl with h|rfl
     ·exact hs.l l h
     ·rw[p6,p9];unfold BB;omega
    ·rcases pC hl with h|rfl
     ·exact hs.a l h x hx
     ·rcases pK.1 hx with h|h
      ·exact hs.a _ (p2 hAl) x h
      ·have:x=a2[u.toNat]:=by simpa using h
       have h8:=h2r _ (p2 hul)
       rw[this];unfold BB;omega
   rw[if_pos hD,hu,p1,if_pos ⟨u0,by simpa using u1⟩]
   simp only[zf hul,e3]
   rw[q1,p1,if_pos (by decide),if_pos (by omega),p0,p4,if_pos hAl,zf hAl,zog (by omega),p1,if_pos (by rw[p5,p6,p9];omega),if_pos (by omega),if_pos hAl,z3r hSm,p1]
   unfold ze
   by_cases hc:z0g (p.set A (p[A]++[a2[u.toNat]]))=0
   ·have hv':=z7v hc
    refine⟨_,S',?_,hv',q2 hc⟩
    rw[if_pos (by rw[hc];rfl),if_pos hc,hc]
    exact z8e hv' (q2 hc) (by omega) 0
   ·refine⟨p,S,?_,hv,hL⟩
    rw[if_neg (by simpa using hc),if_neg hc]
    exact hend _
  ·rw[if_neg hD]
   by_cases hB:(zfs a1)[i].fb<0∨(zfs a1)[i].fb≥(p[A].length:Int)
   ·refine⟨p,S,?_,hv,hL⟩
    rw[zs2 hv hL hAl hB,p1,if_pos (fun _=>by rw[hlen];omega),p0,zf hAl,if_pos (by simpa using hB)]
    unfold y1
    rw[if_neg (by decide)]
    unfold ze
    rw[if_neg (by decide)]
    exact hend 5
   ·have hB0:0≤(zfs a1)[i].fb:=by omega
    obtain⟨B,hBe⟩:=Int.eq_ofNat_of_zero_le hB0
    have hBl:B<p[A].length:=by omega
    obtain⟨S',q1,q2,q3⟩:=y07 hv hL hAl hBl (p':=p.set A (p[A].take B++p[A].drop (B+1))) rfl
    refine⟨_,S',?_,q3,q2⟩
    rw[hBe,q1,p1,if_pos (fun _=>by rw[hlen];omega),p0,zf hAl,if_neg (by simp;omega)]
    unfold y1
    rw[e,p0,zf hi,hAe,hBe,p0,p0,p4,zf hAl,Wi (by omega),p0,if_pos (by decide),if_pos (by rw[hlen];omega),if_pos (by rw[p5];omega),if_pos (by rw[hlen];omega),if_pos (by rw[p5];omega),zog (by rw[pD];omega),p1,
     if_pos (by rw[p5,p6,pD,List.length_drop];omega),if_pos (by omega),if_pos hAl]
    unfold ze
    rw[if_pos (by decide)]
    exact z8e q3 q2 (by omega) 0
end
theorem zvh{a1:List GS}{a2:List GR}(h2:a2.length≤4611686018427387904)(h2r:∀r∈a2,r.fA.length*8≤140737488355328):∀ (k i:Nat) (p:Yj) (S:List Int),i+k=(zfs a1).length→Valid p→Lst p S→xe none a1 a2 p (i:Int) p S=some true
 |0,i,p,S,h,hv,hL=>by
  have e:cT a1=zfs a1:=rfl
  unfold xe
  rw[zl (x:=some true) ?_]
  unfold y9 jf
  rw[e,if_neg (by simp;omega),z6a]
  rfl
 |k+1,i,p,S,h,hv,hL=>by
  obtain⟨p',S',q1,q2,q3⟩:=zs5 (a1:=a1) h2 h2r (i:=i) (by omega) hv hL
  have ih:=zvh (a1:=a1) h2 h2r k (i+1) p' S' (by omega) q2 q3
  unfold xe at ih ⊢
  rw[zw (s':=(p',((i+1:Nat):Int),p',S')) q1,ih]
theorem y2f{a0:List (List GR)}{a1:List GS}{a2:List GR}(h:y2p a0 a1 a2):xy none a0 a1 a2=some true:=by
 obtain⟨g0,g1,g2⟩:=h
 have hS:Small a0:=by
  obtain⟨h1,h2,h3⟩:=g0
  unfold reachBytes at h2
  refine⟨by unfold BB;omega,fun l hl=>?_,fun l hl r hr=>?_⟩
  ·have:=(h3 l hl).2.1
   unfold reachBytes at this
   unfold BB;omega
  ·have:=((h3 l hl).2.2 r hr).2.2.1
   unfold reachBytes at this
   unfold BB;omega
 have hlen:(a0.map z6).length=a0.length:=by simp
 unfold xy
 rw[z6a,p1,if_neg (by simp)]
 unfold kh Z1
 rw[z7m hS,p1,z3r hS]
 by_cases hc:z0g a0=0
 ·have hv:=z7v hc
  have h60:=hv.n60
  obtain⟨S,N,_,hL⟩:=zi0 hv
  have e1:(z0g a0 != 0)=false:=by simp[hc]
  have hrun:=zvh (a1:=a1) (a2:=a2) (by have:=g2.2.1;unfold reachBytes at this;omega) (fun r hr=>by have:=(g2.2.2 r hr).2.2.1;unfold reachBytes at this;omega) _ 0 a0 S (p4 _) hv hL
  rw[show(((0:Nat):Int))=0 from rfl] at hrun
  rw[e1,hlen,if_neg (by simp),if_pos (by omega),z60 h60,p1,p0,ztn hv hL,p1,if_pos (by rw[hL.ok.1];simp),p1,if_neg (by simp),Ub hv,p1,p1]
  simp only[p1]
  rw[if_neg (by simp[hc]),if_neg (by decide),if_pos (by split<;>omega)]
  exact hrun
 ·have e1:(z0g a0 != 0)=true:=by simpa using hc
  rw[e1]
  simp only[if_true,p1]
  simp[hc]
end Go.Proofs.Ytbohjnffcnhgeaa
