/-
  Own framework.
-/
import Derived.Test.YtejfgjggcoemeaaFxOb
namespace Go.Fx
set_option linter.unusedVariables false
section
variable {P:Program} {κ ι:Type} {ek:κ→AVal} {B:ι→ABlock}
def zc2(r:Nat)(B:ι→ABlock)(s:List (κ×ι)):AHeap:=s.mapIdx fun j p=>((r,j),B p.2)
def zuc(ek:κ→AVal)(r:Nat)(s:List (κ×ι)):ABlock:=.amap (s.mapIdx fun j p=>(ek p.1,.map (r,j)))
def zuy(ek:κ→AVal)(B:ι→ABlock)(s:List (κ×ι)):AHeap:=((1,0),.one [.map (1,1)])::((1,1),zuc ek 2 s)::zc2 2 B s
def zu8(i:Nat)(s:List (κ×ι)):List (κ×Ref):=s.mapIdx fun j p=>(p.1,if j=i then Ref.foc else .oth j)
theorem zoh{r:Nat}{s:List (κ×ι)}:((zc2 r B s).map (·.1)).Nodup:=by
 unfold zc2
 rw[List.Nodup,List.pairwise_iff_getElem]
 intro i j hi hj hij
 simp only[List.getElem_map,List.getElem_mapIdx,ne_eq,Prod.mk.injEq,true_and]
 omega
theorem z98{r:Nat}{s:List (κ×ι)}{x:Id×ABlock}(h:x∈zc2 r B s):∃j p,s[j]?=some p∧x=((r,j),B p.2):=by
 unfold zc2 at h
 obtain⟨q,hq,he⟩:=List.mem_mapIdx.1 h
 exact⟨q,s[q],List.getElem?_eq_getElem hq,he.symm⟩
theorem zdx{r:Nat}{s:List (κ×ι)}{j:Nat}{p:κ×ι}(h:s[j]?=some p):(zc2 r B s).get (r,j)=some (B p.2):=by
 refine Wg zoh ?_
 unfold zc2
 refine List.mem_mapIdx.2 ⟨j,Uy h,?_⟩
 have:=List.getElem?_eq_getElem (Uy h)
 rw[h] at this
 rw[←Option.some.inj this]
theorem z9y{r:Nat}{s:List (κ×ι)}{id:Id}{b:ABlock}(h:(zc2 r B s).get id=some b):id.1=r∧∃p,s[id.2]?=some p∧b=B p.2:=by
 obtain⟨j,p,h1,h2⟩:=z98 (Xy h)
 simp only[Prod.mk.injEq] at h2
 obtain⟨rfl,rfl⟩:=h2
 exact⟨rfl,p,h1,rfl⟩
section
variable (hk:∀x,(ek x).nid=true) (hB:∀x g,(B x).ren g=B x) (hP:∀x p,(B x).inP p=true)
include hk hB hP
omit hk in
def zur(i:Nat)(id:Id):Option Id:=if id.1=0 then(if id.2=0 then some (1,0) else if id.2=1 then some (1,1) else if id.2=2 then some (2,i) else none) else if id.1=1 then(if id.2=i then none else some (2,id.2)) else none
omit hk hB hP in
def zup(x:Id):Bool:=decide (x=(1,0)) || decide (x=(1,1)) || Nat.beq x.1 2
omit hk hB hP in
def zus(ek:κ→AVal)(B:ι→ABlock)(i:Nat)(s:List (κ×ι))(x:ι):AHeap:=[((0,0),.one [.map (0,1)]),((0,1),.amap ((zu8 i s).map (em ek (eR (some (0,2)))))),((0,2),B x)]
def oth(B:ι→ABlock)(i:Nat)(s:List (κ×ι)):AHeap:=(zc2 1 B s).del (1,i)
omit hk hB in
def ztg(s:List (κ×ι)):List (κ×Ref):=s.mapIdx fun j p=>(p.1,.oth j)
def zuk(ek:κ→AVal)(s:List (κ×ι)):AHeap:=[((0,0),.one [.map (0,1)]),((0,1),.amap ((ztg s).map (em ek (eR none))))]
omit hB hP in
def zul(ek:κ→AVal)(B:ι→ABlock)(s:List (κ×ι))(k:κ)(x:ι):AHeap:=
 ((1,0),.one [.map (1,1)])::((1,1),.amap ((s.mapIdx fun j p=>(ek p.1,.map (2,j)))++[(ek k,.map (4,0))]))::((4,0),B x)::zc2 2 B s
omit hk hB hP in
def zux(N:Nat)(H:AHeap)(id:Id):Option Id:=if id=(3,N) then some (4,0) else z84 H id
omit hk hB hP in
end
end
end Go.Fx
