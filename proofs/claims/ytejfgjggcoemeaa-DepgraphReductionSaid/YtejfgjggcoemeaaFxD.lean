/-
  Own framework.
-/
import Derived.Test.YtejfgjggcoemeaaFxC
namespace Go.Fx
set_option linter.unusedVariables false
variable {P:Program}
def Xp(I:Nat→Nat→Prop)(β:Id→Option CLoc)(n:Nat)(w:World)(cs:List AVal)(vs:Array Value):Prop:=
 vs.size=cs.length∧(∀u∈vs.toList,xc u=true)∧∀ (i:Nat) (y:AVal) (u:Value),cs[i]?=some y→vs[i]?=some u→Rep I β n w y u
section
variable {I:Nat→Nat→Prop} {β:Id→Option CLoc} {n:Nat} {H:AHeap} {w:World} {e:Env} {a:Act}
theorem z74{u:Value}(h:xc u=true):Rep I β n w (Q0 u) u:=by
 cases u with
 |agg _=>cases h
 |tuple _=>cases h
 |bool b=>exact .imm _ _ (.bool b)
 |int k m=>exact .imm _ _ (.int k m)
 |string s=>exact .imm _ _ (.str s.data.toList)
 |_=>exact .imm _ _ (.val _ rfl)
theorem z9c:∀ (ks:List (Option Nat)) (l:List AVal),(z72 ks l).length=l.length∧∀ (j:Nat) (y:AVal),(z72 ks l)[j]?=some y→∃x,l[j]?=some x∧(y=x∨(x=.val (.slice none 0 0)∧∃s,y=.isl s [] true))
 |[],l=>⟨by simp[z72],fun j y h=>⟨y,by simpa[z72] using h,.inl rfl⟩⟩
 |k::ks,[]=>⟨by cases k<;>simp[z72],fun j y h=>by cases k<;>simp[z72] at h⟩
 |k::ks,x::r=>by
  obtain⟨h1,h2⟩:=z9c ks r
  have step:∀z:AVal,(z=x∨(x=.val (.slice none 0 0)∧∃s,z=.isl s [] true))→z72 (k::ks) (x::r)=z::z72 ks r→(z72 (k::ks) (x::r)).length=(x::r).length∧∀ (j:Nat) (y:AVal),(z72 (k::ks) (x::r))[j]?=some y→∃x',(x::r)[j]?=some x'∧(y=x'∨(x'=.val (.slice none 0 0)∧∃s,y=.isl s [] true)):=by
   intro z hz e
   rw[e]
   refine⟨by simp[h1],fun j y hy=>?_⟩
   cases j with
   |zero=>simp at hy;subst hy;exact⟨x,rfl,hz⟩
   |succ j=>exact h2 j y (by simpa using hy)
  by_cases hc:∃s,k=some s∧x=.val (.slice none 0 0)
  ·obtain⟨s,rfl,rfl⟩:=hc
   exact step (.isl s [] true) (.inr ⟨rfl,s,rfl⟩) (by simp[z72])
  ·refine step x (.inl rfl) ?_
   rw[z72]
   intro s h3 h4
   exact hc ⟨s,h3,h4⟩
theorem vu{t:TypeId}{z:List AVal}(h:jx P t=some z):∃v i,P.info? t=some i∧i.zero=some v∧i.size=z.length∧(zeroValue t).run P w=.ok v w∧Xp I β n w z v.cells:=by
 unfold jx at h
 split at h
 ·rename_i i hi
  split at h
  ·cases h
  ·rename_i v hz hne
   split at h
   ·rename_i hc
    simp only[Bool.and_eq_true,List.all_eq_true,beq_iff_eq] at hc
    simp only[Option.some.injEq] at h
    subst h
    have hcell:∀u∈v.cells.toList,xc u=true:=by
     intro u hu
     have:=hc.1 u hu
     cases u<;>simp[xc] at this ⊢
    obtain⟨f1,f2⟩:=z9c (zaa P 12 t) (v.cells.toList.map Q0)
    refine⟨v,i,hi,hne,by rw[f1];simp[hc.2],by simp[zeroValue,typeInfo,hi,hne],by rw[f1];simp,hcell,?_⟩
    intro j y u hy hu
    obtain⟨x,hx,hxy⟩:=f2 j y hy
    simp only[List.getElem?_map] at hx
    have hu':v.cells.toList[j]?=some u:=by simpa using hu
    rw[hu'] at hx
    simp at hx
    subst hx
    have hr:=z74 (I:=I) (β:=β) (n:=n) (w:=w) (hcell u (List.mem_of_getElem? hu'))
    rcases hxy with rfl|⟨h3,s,rfl⟩
    ·exact hr
    ·rw[h3] at hr
     cases hr with
     |imm _ _ hr=>cases hr with|val _ _=>exact .imm _ _ (.islNil s true)
   ·cases h
  ·cases h
 ·cases h
theorem z5q(off:Nat):∀ (l:List Value) (k:Nat) (arr:Array Value) (i:Nat),
 ((l.zipIdx k).foldl (fun cs (c,j)=>cs.setIfInBounds (off+j) c) arr)[i]?=if off+k≤i∧i<off+k+l.length∧i<arr.size then l[i-(off+k)]? else arr[i]?
 |[],k,arr,i=>by simp;omega
 |c::l,k,arr,i=>by
  simp only[List.zipIdx_cons,List.foldl_cons]
  rw[z5q off l (k+1)]
  simp only[Array.size_setIfInBounds,List.length_cons]
  by_cases h0:i=off+k
  ·subst h0
   rw[if_neg (by omega)]
   by_cases h1:off+k<arr.size
   ·rw[if_pos ⟨Nat.le_refl _,by omega,h1⟩]
    simp[h1]
   ·rw[if_neg (by omega),Array.getElem?_eq_none (by simp;omega),Array.getElem?_eq_none (by omega)]
  ·by_cases h1:off+k≤i∧i<off+k+(l.length+1)∧i<arr.size
   ·rw[if_pos (by omega),if_pos h1]
    have:i-(off+k)=(i-(off+(k+1)))+1:=by omega
    rw[this,List.getElem?_cons_succ]
   ·rw[if_neg (by omega),if_neg h1,Array.getElem?_setIfInBounds_ne (by omega)]
theorem Wq(off:Nat):∀ (l:List (Value×Nat)) (arr:Array Value),(l.foldl (fun cs (c,j)=>cs.setIfInBounds (off+j) c) arr).size=arr.size
 |[],arr=>rfl
 |_::l,arr=>by simp only[List.foldl_cons];rw[Wq off l];simp
theorem zbr{cs xs:List AVal}{arr vs:Array Value}{off:Nat}(h:Xp I β n w cs arr)(hx:Xp I β n w xs vs)(hl:off+xs.length≤cs.length) :
 Xp I β n w (vn cs off xs) (vs.zipIdx.foldl (fun cs (c,j)=>cs.setIfInBounds (off+j) c) arr):=by
 obtain⟨h1,h2,h3⟩:=h
 obtain⟨g1,g2,g3⟩:=hx
 have e:∀i,(vs.zipIdx.foldl (fun cs (c,j)=>cs.setIfInBounds (off+j) c) arr)[i]?=if off≤i∧i<off+xs.length then vs[i-off]? else arr[i]?:=by
  intro i
  rw[←Array.foldl_toList,Array.toList_zipIdx]
  have:=z5q off vs.toList 0 arr i
  simp only[Nat.add_zero,Array.length_toList,g1] at this
  rw[this]
  by_cases hc:off≤i∧i<off+xs.length
  ·rw[if_pos ⟨hc.1,hc.2,by omega⟩,if_pos hc];simp
  ·rw[if_neg (by omega),if_neg hc]
 refine⟨?_,?_,?_⟩
 ·rw[←Array.foldl_toList,Wq,h1]
  simp[vn];omega
 ·intro u hu
  obtain⟨i,hi⟩:=List.getElem?_of_mem hu
  rw[Array.getElem?_toList,e] at hi
  split at hi
  ·exact g2 u (by rw[←Array.getElem?_toList] at hi;exact List.mem_of_getElem? hi)
  ·exact h2 u (by rw[←Array.getElem?_toList] at hi;exact List.mem_of_getElem? hi)
 ·intro i y u hy hu
  rw[e] at hu
  by_cases hc:off≤i∧i<off+xs.length
  ·rw[if_pos hc] at hu
   refine g3 _ _ _ ?_ hu
   unfold vn at hy
   rw[List.append_assoc,List.getElem?_append_right (by simp;omega),List.getElem?_append_left (by simp;omega)] at hy
   rw[←hy];congr 1;simp;omega
  ·rw[if_neg hc] at hu
   refine h3 _ _ _ ?_ hu
   unfold vn at hy
   by_cases hlt:i<off
   ·rw[List.append_assoc,List.getElem?_append_left (by simp;omega),List.getElem?_take_of_lt hlt] at hy;exact hy
   ·rw[List.getElem?_append_right (by simp;omega),List.getElem?_drop] at hy
    rw[←hy];congr 1;simp;omega
theorem Vj(place:Nat→Option (Nat×Nat)):∀ (ps:List (Nat×Value)) (qs:List (Nat×Nat×AVal)) (cs:List AVal) (arr:Array Value),
 ps.length=qs.length→(∀ (k i off m:Nat) (v:Value) (x:AVal),ps[k]?=some (i,v)→qs[k]?=some (off,m,x)→place i=some (off,m)∧Rep I β n w x v) →
 Xp I β n w cs arr→∀ (side:Prop) (y:AVal),Qe cs qs=.ok side y→side→∃arr' cs',Instr.fill place arr ps=some arr'∧y=.agg cs'∧Xp I β n w cs' arr'∧arr'.size=arr.size
 |[],qs,cs,arr,hl,_,hr,side,y,hb,_=>by
  cases qs with
  |cons _ _=>simp at hl
  |nil=>
   simp only[Qe,XR.ok.injEq] at hb
   exact⟨arr,cs,rfl,hb.2.symm,hr,rfl⟩
 |(i,v)::ps,qs,cs,arr,hl,hp,hr,side,y,hb,hs=>by
  cases qs with
  |nil=>simp at hl
  |cons q qs=>
   obtain⟨off,m,x⟩:=q
   obtain⟨h1,h2⟩:=hp 0 i off m v x rfl rfl
   simp only[Qe] at hb
   cases hc:x.cells? with
   |none=>simp[hc] at hb
   |some xs=>
    cases hrec:Qe (vn cs off xs) qs with
    |bad=>simp[hc,hrec] at hb
    |ok s0 y0=>
     simp only[hc,hrec,XR.ok.injEq] at hb
     obtain⟨rfl,rfl⟩:=hb
     obtain⟨k1,k2,k3⟩:=hs
     have hx:=Ul h2 hc
     have hl2:off+xs.length≤cs.length:=by omega
     have hr':=zbr hr hx hl2
     obtain⟨arr',cs',g1,g2,g3,g4⟩:=Vj place ps qs _ _ (by simpa using hl) (fun k i off m v x a b=>hp (k+1) i off m v x a b) hr' s0 y0 hrec k3
     refine⟨arr',cs',?_,g2,g3,?_⟩
     ·simp only[Instr.fill,h1]
      have:¬(v.cells.size≠m∨arr.size<off+v.cells.size):=by
       have:=hx.1;have:=hr.1;omega
      rw[if_neg (by simpa using this)]
      exact g1
     ·rw[g4,←Array.foldl_toList,Wq]
theorem z1v{α γ:Type}(f:α→Sem γ)(g:α→γ)(l:List α)(h:∀x∈l,(f x).run P w=.ok (g x) w):(l.mapM f).run P w=.ok (l.map g) w:=by
 induction l with
 |nil=>simp
 |cons x l ih=>
  simp only[List.mapM_cons,Sem.run_bind,h x (by simp),Result.andThen_ok,ih (fun y hy=>h y (by simp[hy])),Sem.run_pure,List.map_cons]
theorem zj7{α γ:Type}(f:α→Sem γ)(g:α→γ)(l:Array α)(h:∀x∈l.toList,(f x).run P w=.ok (g x) w):(l.mapM f).run P w=.ok (l.map g) w:=by
 rw[Array.mapM_eq_mapM_toList,Sem.run_map,z1v f g l.toList h,Result.andThen_ok]
 congr 1
 simp[←Array.toList_map]
theorem Xk(l:List (Nat×Nat×LOpd)):(k7 e l).length=l.length:=by
 induction l with
 |nil=>rfl
 |cons x l ih=>obtain⟨_,_,_⟩:=x;simp[k7,ih]
theorem W9(hE:RepEnv I β n w e a){fs:Array Field}:∀ (ps:List (Nat×Operand)) (l:List (Nat×Nat×LOpd)),Zk P fs ps=some l→vd e l →
 ps.length=l.length∧∀ (k i off m:Nat) (v:Value) (x:AVal),(ps.map fun q=>(q.1,a.eval q.2))[k]?=some (i,v)→(k7 e l)[k]?=some (off,m,x) →
  (∃f,fs[i]?=some f∧f.offset=off∧jq P f.type=some m)∧Rep I β n w x v
 |[],l,h,_=>by simp[Zk] at h;subst h;simp
 |(i0,o0)::ps,l,h,hn=>by
  simp only[Zk] at h
  cases hf:fs[i0]? with
  |none=>simp[hf] at h
  |some f=>
  cases hs:jq P f.type with
  |none=>simp[hf,hs] at h
  |some m0=>
  cases hx:yw o0 with
  |none=>simp[hf,hs,hx] at h
  |some x0=>
  cases hr:Zk P fs ps with
  |none=>simp[hf,hs,hx,hr] at h
  |some l0=>
   simp only[hf,hs,hx,hr,Option.some.injEq] at h
   subst h
   simp only[vd] at hn
   obtain⟨ih1,ih2⟩:=W9 hE ps l0 hr hn.2
   refine⟨by simp[ih1],?_⟩
   intro k i off m v x h1 h2
   cases k with
   |zero=>
    simp[k7] at h1 h2
    obtain⟨rfl,rfl⟩:=h1
    obtain⟨rfl,rfl,rfl⟩:=h2
    exact⟨⟨f,hf,rfl,hs⟩,y6 hE hx hn.1⟩
   |succ k=>exact ih2 k i off m v x (by simpa using h1) (by simpa[k7] using h2)
theorem Jj(hE:RepEnv I β n w e a){s:Nat}:∀ (ps:List (Nat×Operand)) (l:List (Nat×Nat×LOpd)),Zp s ps=some l→vd e l →
 ps.length=l.length∧∀ (k i off m:Nat) (v:Value) (x:AVal),(ps.map fun q=>(q.1,a.eval q.2))[k]?=some (i,v)→(k7 e l)[k]?=some (off,m,x) →
  (off=i*s∧m=s)∧Rep I β n w x v
 |[],l,h,_=>by simp[Zp] at h;subst h;simp
 |(i0,o0)::ps,l,h,hn=>by
  simp only[Zp] at h
  cases hx:yw o0 with
  |none=>simp[hx] at h
  |some x0=>
  cases hr:Zp s ps with
  |none=>simp[hx,hr] at h
  |some l0=>
   simp only[hx,hr,Option.some.injEq] at h
   subst h
   simp only[vd] at hn
   obtain⟨ih1,ih2⟩:=Jj hE ps l0 hr hn.2
   refine⟨by simp[ih1],?_⟩
   intro k i off m v x h1 h2
   cases k with
   |zero=>
    simp[k7] at h1 h2
    obtain⟨rfl,rfl⟩:=h1
    obtain⟨rfl,rfl,rfl⟩:=h2
    exact⟨⟨rfl,rfl⟩,y6 hE hx hn.1⟩
   |succ k=>exact ih2 k i off m v x (by simpa using h1) (by simpa[k7] using h2)
theorem z4g{t:TypeId}{fs:Array Field}{parts:Array (Nat×Operand)}{z:List AVal}{l:List (Nat×Nat×LOpd)}(ht:P.underlying t=some (.struct fs))(hz:jx P t=some z)(hl:Zk P fs parts.toList=some l)
 (hall:fs.toList.all (fun f=>(jq P f.type).isSome)=true) (hE:RepEnv I β n w e a) (hn:vd e l) {side:Prop} {y:AVal} (h:Qe z (k7 e l)=.ok side y) (hs:side) :
 ∃r,(Instr.build t (parts.map fun(i,x)=>(i,a.eval x))).run P w=.ok r w∧Rep I β n w y r:=by
 obtain⟨zv,zi,_,_,_,hzv,hzr⟩:=vu (I:=I) (β:=β) (n:=n) (w:=w) hz
 obtain⟨g1,g2⟩:=W9 hE parts.toList l hl hn
 have hm:=zj7 (P:=P) (w:=w) (fun f:Field=>(do pure (f.offset,←sizeOf f.type):Sem (Nat×Nat))) (fun f=>(f.offset,(jq P f.type).getD 0)) fs (by
  intro f hf
  have:=List.all_eq_true.1 hall f hf
  obtain⟨m,hm⟩:=Option.isSome_iff_exists.1 this
  simp[qg hm,hm])
 obtain⟨arr',cs',k1,k2,k3,_⟩:=Vj (I:=I) (β:=β) (n:=n) (w:=w) (fun i=>(fs.map fun f=>(f.offset,(jq P f.type).getD 0))[i]?) (parts.toList.map fun q=>(q.1,a.eval q.2)) (k7 e l) z zv.cells
  (by simp[Xk,←g1]) (by
   intro k i off m v x h1 h2
   obtain⟨⟨f,hf,ho,hsz⟩,hr⟩:=g2 k i off m v x h1 h2
   refine⟨?_,hr⟩
   simp[hf,ho,hsz]) hzr side y h hs
 subst k2
 refine⟨.agg arr',?_,.agg _ _ k3.1 k3.2.1 k3.2.2⟩
 simp only[Instr.build,Sem.run_bind,hzv,Result.andThen_ok,ze ht,hm,Array.toList_map]
 rw[show(parts.toList.map fun(x:Nat×Operand)=>match x with|(i,x)=>(i,a.eval x))=parts.toList.map fun q=>(q.1,a.eval q.2) from rfl,k1]
 rfl
theorem z83{t c:TypeId}{m s:Nat}{parts:Array (Nat×Operand)}{z:List AVal}{l:List (Nat×Nat×LOpd)}(ht:P.underlying t=some (.array m c))(hz:jx P t=some z)(hsz:jq P c=some s)(hl:Zp s parts.toList=some l)
 (hE:RepEnv I β n w e a) (hn:vd e l) {side:Prop} {y:AVal} (h:Qe z (k7 e l)=.ok side y) (hs:side) :
 ∃r,(Instr.build t (parts.map fun(i,x)=>(i,a.eval x))).run P w=.ok r w∧Rep I β n w y r:=by
 obtain⟨zv,zi,_,_,_,hzv,hzr⟩:=vu (I:=I) (β:=β) (n:=n) (w:=w) hz
 obtain⟨g1,g2⟩:=Jj hE parts.toList l hl hn
 obtain⟨arr',cs',k1,k2,k3,_⟩:=Vj (I:=I) (β:=β) (n:=n) (w:=w) (fun i=>some (i*s,s)) (parts.toList.map fun q=>(q.1,a.eval q.2)) (k7 e l) z zv.cells
  (by simp[Xk,←g1]) (by
   intro k i off m v x h1 h2
   obtain⟨⟨rfl,rfl⟩,hr⟩:=g2 k i off m v x h1 h2
   exact⟨rfl,hr⟩) hzr side y h hs
 subst k2
 refine⟨.agg arr',?_,.agg _ _ k3.1 k3.2.1 k3.2.2⟩
 simp only[Instr.build,Sem.run_bind,hzv,Result.andThen_ok,ze ht,qg hsz,Array.toList_map]
 rw[show(parts.toList.map fun(x:Nat×Operand)=>match x with|(i,x)=>(i,a.eval x))=parts.toList.map fun q=>(q.1,a.eval q.2) from rfl,k1]
 rfl
theorem uq(hE:RepEnv I β n w e a):∀ (xs:List Operand) (ys:List LOpd),uo xs=some ys→J2 e ys→(xs.map a.eval).length=(evs e ys).length∧∀ (i:Nat) (y:AVal) (v:Value),(evs e ys)[i]?=some y→(xs.map a.eval)[i]?=some v→Rep I β n w y v
 |[],ys,h,_=>by simp[uo] at h;subst h;simp[evs]
 |x::xs,ys,h,hn=>by
  simp only[uo] at h
  cases hx:yw x with
  |none=>simp[hx] at h
  |some y0=>
  cases hr:uo xs with
  |none=>simp[hx,hr] at h
  |some ys0=>
   simp only[hx,hr,Option.some.injEq] at h
   subst h
   simp only[J2] at hn
   obtain⟨h1,h2⟩:=uq hE xs ys0 hr hn.2
   refine⟨by simpa[evs] using h1,?_⟩
   intro i y v hy hv
   cases i with
   |zero=>simp[evs] at hy hv;subst hy;subst hv;exact y6 hE hx hn.1
   |succ i=>exact h2 i y v (by simpa[evs] using hy) (by simpa using hv)
theorem Wt(m:Bool):∀ (l:List AVal) (vs:List Value) (x y:AVal) (v:Value),vs.length=l.length→(∀ (i:Nat) (y:AVal) (v:Value),l[i]?=some y→vs[i]?=some v→Rep I β n w y v)→Rep I β n w x v →
 ∀side,zjm m x l=.ok side y→side→∃r,(vs.foldlM (if m then Builtin.max2 else Builtin.min2) v).run P w=.ok r w∧Rep I β n w y r
 |[],vs,x,y,v,hl,_,hx,side,h,_=>by
  cases vs with
  |cons _ _=>simp at hl
  |nil=>
   simp only[zjm,XR.ok.injEq] at h
   obtain⟨_,rfl⟩:=h
   exact⟨v,rfl,hx⟩
 |z::l,vs,x,y,v,hl,hr,hx,side,h,hs=>by
  cases vs with
  |nil=>simp at hl
  |cons u vs=>
   cases x<;>cases z<;>simp only[zjm] at h<;>try (cases h;done)
   rename_i k p k' q
   have hu:=(hr 0 _ u rfl rfl).int_inv
   subst hu
   obtain rfl:=hx.int_inv
   cases hrec:zjm m (.int k (if m then(if q > p then q else p) else(if q<p then q else p))) l with
   |bad=>simp[hrec] at h
   |ok s0 y0=>
    simp only[hrec,XR.ok.injEq] at h
    obtain⟨rfl,rfl⟩:=h
    obtain⟨rfl,hs⟩:=hs
    obtain⟨r,h1,h2⟩:=Wt m l vs _ y0 (.int k (if m then(if q > p then q else p) else(if q<p then q else p))) (by simpa using hl) (fun i y v a b=>hr (i+1) y v a b) (.imm _ _ (.int _ _)) s0 hrec hs
    refine⟨r,?_,h2⟩
    rw[List.foldlM_cons,Sem.run_bind,←h1]
    cases m<;>rfl
end
end Go.Fx
