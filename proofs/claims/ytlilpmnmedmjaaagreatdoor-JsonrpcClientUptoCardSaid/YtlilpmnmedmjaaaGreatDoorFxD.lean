/-
  Own framework.
-/
import Derived.Test.YtlilpmnmedmjaaaGreatDoorFxC
namespace Go.Fx
set_option linter.unusedVariables false
variable {P:Program}
def Wd(I:Nat→Nat→Prop)(β:Id→Option CLoc)(n:Nat)(w:World)(cs:List AVal)(vs:Array Value):Prop:=
 vs.size=cs.length∧(∀u∈vs.toList,xp u=true)∧∀ (i:Nat) (y:AVal) (u:Value),cs[i]?=some y→vs[i]?=some u→Rep I β n w y u
section
variable {I:Nat→Nat→Prop} {β:Id→Option CLoc} {n:Nat} {H:AHeap} {w:World} {e:Env} {a:Act}
theorem zc3{u:Value}(h:xp u=true):Rep I β n w (Xy u) u:=by
 cases u with
 |agg _=>cases h
 |tuple _=>cases h
 |bool b=>exact .imm _ _ (.bool b)
 |int k m=>exact .imm _ _ (.int k m)
 |string s=>exact .imm _ _ (.str s.data.toList)
 |_=>exact .imm _ _ (.val _ rfl)
theorem zdc:∀ (ks:List (Option Nat)) (l:List AVal),(zbn ks l).length=l.length∧∀ (j:Nat) (y:AVal),(zbn ks l)[j]?=some y→∃x,l[j]?=some x∧(y=x∨(x=.val (.slice none 0 0)∧∃s,y=.isl s [] true))
 |[],l=>⟨by simp[zbn],fun j y h=>⟨y,by simpa[zbn] using h,.inl rfl⟩⟩
 |k::ks,[]=>⟨by cases k<;>simp[zbn],fun j y h=>by cases k<;>simp[zbn] at h⟩
 |k::ks,x::r=>by
  obtain⟨h1,h2⟩:=zdc ks r
  have y1f:∀z:AVal,(z=x∨(x=.val (.slice none 0 0)∧∃s,z=.isl s [] true))→zbn (k::ks) (x::r)=z::zbn ks r→(zbn (k::ks) (x::r)).length=(x::r).length∧∀ (j:Nat) (y:AVal),(zbn (k::ks) (x::r))[j]?=some y→∃x',(x::r)[j]?=some x'∧(y=x'∨(x'=.val (.slice none 0 0)∧∃s,y=.isl s [] true)):=by
   intro z hz e
   rw[e]
   refine⟨by simp[h1],fun j y hy=>?_⟩
   cases j with
   |zero=>simp at hy;subst hy;exact⟨x,rfl,hz⟩
   |succ j=>exact h2 j y (by simpa using hy)
  by_cases hc:∃s,k=some s∧x=.val (.slice none 0 0)
  ·obtain⟨s,rfl,rfl⟩:=hc
   exact y1f (.isl s [] true) (.inr ⟨rfl,s,rfl⟩) (by simp[zbn])
  ·refine y1f x (.inl rfl) ?_
   rw[zbn]
   intro s h3 h4
   exact hc ⟨s,h3,h4⟩
theorem ui{t:TypeId}{z:List AVal}(h:wa P t=some z):∃v i,P.info? t=some i∧i.zero=some v∧i.size=z.length∧(zeroValue t).run P w=.ok v w∧Wd I β n w z v.cells:=by
 unfold wa at h
 split at h
 ·rename_i i hi
  split at h
  ·cases h
  ·rename_i v hz hne
   split at h
   ·rename_i hc
    simp only[Bool.and_eq_true,List.all_eq_true,beq_iff_eq] at hc
    simp only[Option.some.injEq] at h
    subst h
    have hcell:∀u∈v.cells.toList,xp u=true:=by
     intro u hu
     have:=hc.1 u hu
     cases u<;>simp[xp] at this ⊢
    obtain⟨f1,f2⟩:=zdc (zdg P 12 t) (v.cells.toList.map Xy)
    refine⟨v,i,hi,hne,by rw[f1];simp[hc.2],by simp[zeroValue,typeInfo,hi,hne],by rw[f1];simp,hcell,?_⟩
    intro j y u hy hu
    obtain⟨x,hx,hxy⟩:=f2 j y hy
    simp only[List.getElem?_map] at hx
    have hu':v.cells.toList[j]?=some u:=by simpa using hu
    rw[hu'] at hx
    simp at hx
    subst hx
    have hr:=zc3 (I:=I) (β:=β) (n:=n) (w:=w) (hcell u (List.mem_of_getElem? hu'))
    rcases hxy with rfl|⟨h3,s,rfl⟩
    ·exact hr
    ·rw[h3] at hr
     cases hr with
     |imm _ _ hr=>cases hr with|val _ _=>exact .imm _ _ (.islNil s true)
   ·cases h
  ·cases h
 ·cases h
theorem z78(off:Nat):∀ (l:List Value) (k:Nat) (arr:Array Value) (i:Nat),
 ((l.zipIdx k).foldl (fun cs (c,j)=>cs.setIfInBounds (off+j) c) arr)[i]?=if off+k≤i∧i<off+k+l.length∧i<arr.size then l[i-(off+k)]? else arr[i]?
 |[],k,arr,i=>by simp;omega
 |c::l,k,arr,i=>by
  simp only[List.zipIdx_cons,List.foldl_cons]
  rw[z78 off l (k+1)]
  simp only[Array.size_setIfInBounds,List.length_cons]
  by_cases h0:i=off+k
  ·subst h0
   rw[if_neg (by omega)]
   by_cases h1:off+k<arr.size
   ·rw[if_pos ⟨Nat.le_refl _,by omega,h1⟩]
    simp[h1]
   ·rw[if_neg (by omega),Array.getElem?_eq_none (by simp;omega),Array.getElem?_eq_none (by omega)]
  ·by_cases h1:off+k≤i∧i<off+k+(l.length+1)∧i<arr.size
   ·rw[if_pos (by omega),if_pos h1]
    have:i-(off+k)=(i-(off+(k+1)))+1:=by omega
    rw[this,List.getElem?_cons_succ]
   ·rw[if_neg (by omega),if_neg h1,Array.getElem?_setIfInBounds_ne (by omega)]
theorem Ky(off:Nat):∀ (l:List (Value×Nat)) (arr:Array Value),(l.foldl (fun cs (c,j)=>cs.setIfInBounds (off+j) c) arr).size=arr.size
 |[],arr=>rfl
 |_::l,arr=>by simp only[List.foldl_cons];rw[Ky off l];simp
theorem zg0{cs xs:List AVal}{arr vs:Array Value}{off:Nat}(h:Wd I β n w cs arr)(hx:Wd I β n w xs vs)(hl:off+xs.length≤cs.length) :
 Wd I β n w (kj cs off xs) (vs.zipIdx.foldl (fun cs (c,j)=>cs.setIfInBounds (off+j) c) arr):=by
 obtain⟨h1,h2,h3⟩:=h
 obtain⟨g1,g2,g3⟩:=hx
 have e:∀i,(vs.zipIdx.foldl (fun cs (c,j)=>cs.setIfInBounds (off+j) c) arr)[i]?=if off≤i∧i<off+xs.length then vs[i-off]? else arr[i]?:=by
  intro i
  rw[←Array.foldl_toList,Array.toList_zipIdx]
  have:=z78 off vs.toList 0 arr i
  simp only[Nat.add_zero,Array.length_toList,g1] at this
  rw[this]
  by_cases hc:off≤i∧i<off+xs.length
  ·rw[if_pos ⟨hc.1,hc.2,by omega⟩,if_pos hc];simp
  ·rw[if_neg (by omega),if_neg hc]
 refine⟨?_,?_,?_⟩
 ·rw[←Array.foldl_toList,Ky,h1]
  simp[kj];omega
 ·intro u hu
  obtain⟨i,hi⟩:=List.getElem?_of_mem hu
  rw[Array.getElem?_toList,e] at hi
  split at hi
  ·exact g2 u (by rw[←Array.getElem?_toList] at hi;exact List.mem_of_getElem? hi)
  ·exact h2 u (by rw[←Array.getElem?_toList] at hi;exact List.mem_of_getElem? hi)
 ·intro i y u hy hu
  rw[e] at hu
  by_cases hc:off≤i∧i<off+xs.length
  ·rw[if_pos hc] at hu
   refine g3 _ _ _ ?_ hu
   unfold kj at hy
   rw[List.append_assoc,List.getElem?_append_right (by simp;omega),List.getElem?_append_left (by simp;omega)] at hy
   rw[←hy];congr 1;simp;omega
  ·rw[if_neg hc] at hu
   refine h3 _ _ _ ?_ hu
   unfold kj at hy
   by_cases hlt:i<off
   ·rw[List.append_assoc,List.getElem?_append_left (by simp;omega),List.getElem?_take_of_lt hlt] at hy;exact hy
   ·rw[List.getElem?_append_right (by simp;omega),List.getElem?_drop] at hy
    rw[←hy];congr 1;simp;omega
theorem z0f(place:Nat→Option (Nat×Nat)):∀ (ps:List (Nat×Value)) (qs:List (Nat×Nat×AVal)) (cs:List AVal) (arr:Array Value),
 ps.length=qs.length→(∀ (k i off m:Nat) (v:Value) (x:AVal),ps[k]?=some (i,v)→qs[k]?=some (off,m,x)→place i=some (off,m)∧Rep I β n w x v) →
 Wd I β n w cs arr→∀ (side:Prop) (y:AVal),Q4 cs qs=.ok side y→side→∃arr' cs',Instr.fill place arr ps=some arr'∧y=.agg cs'∧Wd I β n w cs' arr'∧arr'.size=arr.size
 |[],qs,cs,arr,hl,_,hr,side,y,hb,_=>by
  cases qs with
  |cons _ _=>simp at hl
  |nil=>
   simp only[Q4,XR.ok.injEq] at hb
   exact⟨arr,cs,rfl,hb.2.symm,hr,rfl⟩
 |(i,v)::ps,qs,cs,arr,hl,hp,hr,side,y,hb,hs=>by
  cases qs with
  |nil=>simp at hl
  |cons q qs=>
   obtain⟨off,m,x⟩:=q
   obtain⟨h1,h2⟩:=hp 0 i off m v x rfl rfl
   simp only[Q4] at hb
   cases hc:x.cells? with
   |none=>simp[hc] at hb
   |some xs=>
    cases hrec:Q4 (kj cs off xs) qs with
    |bad=>simp[hc,hrec] at hb
    |ok s0 y0=>
     simp only[hc,hrec,XR.ok.injEq] at hb
     obtain⟨rfl,rfl⟩:=hb
     obtain⟨k1,k2,k3⟩:=hs
     have hx:=z18 h2 hc
     have hl2:off+xs.length≤cs.length:=by omega
     have hr':=zg0 hr hx hl2
     obtain⟨arr',cs',g1,g2,g3,g4⟩:=z0f place ps qs _ _ (by simpa using hl) (fun k i off m v x a b=>hp (k+1) i off m v x a b) hr' s0 y0 hrec k3
     refine⟨arr',cs',?_,g2,g3,?_⟩
     ·simp only[Instr.fill,h1]
      have:¬(v.cells.size≠m∨arr.size<off+v.cells.size):=by
       have:=hx.1;have:=hr.1;omega
      rw[if_neg (by simpa using this)]
      exact g1
     ·rw[g4,←Array.foldl_toList,Ky]
theorem z65{α γ:Type}(f:α→Sem γ)(g:α→γ)(l:List α)(h:∀x∈l,(f x).run P w=.ok (g x) w):(l.mapM f).run P w=.ok (l.map g) w:=by
 induction l with
 |nil=>simp
 |cons x l ih=>
  simp only[List.mapM_cons,Sem.run_bind,h x (by simp),Result.andThen_ok,ih (fun y hy=>h y (by simp[hy])),Sem.run_pure,List.map_cons]
theorem zpz{α γ:Type}(f:α→Sem γ)(g:α→γ)(l:Array α)(h:∀x∈l.toList,(f x).run P w=.ok (g x) w):(l.mapM f).run P w=.ok (l.map g) w:=by
 rw[Array.mapM_eq_mapM_toList,Sem.run_map,z65 f g l.toList h,Result.andThen_ok]
 congr 1
 simp[←Array.toList_map]
theorem Wb(l:List (Nat×Nat×LOpd)):(kx e l).length=l.length:=by
 induction l with
 |nil=>rfl
 |cons x l ih=>obtain⟨_,_,_⟩:=x;simp[kx,ih]
theorem K8(hE:RepEnv I β n w e a){fs:Array Field}:∀ (ps:List (Nat×Operand)) (l:List (Nat×Nat×LOpd)),Yu P fs ps=some l→kb e l →
 ps.length=l.length∧∀ (k i off m:Nat) (v:Value) (x:AVal),(ps.map fun q=>(q.1,a.eval q.2))[k]?=some (i,v)→(kx e l)[k]?=some (off,m,x) →
  (∃f,fs[i]?=some f∧f.offset=off∧wj P f.type=some m)∧Rep I β n w x v
 |[],l,h,_=>by simp[Yu] at h;subst h;simp
 |(i0,o0)::ps,l,h,hn=>by
  simp only[Yu] at h
  cases hf:fs[i0]? with
  |none=>simp[hf] at h
  |some f=>
  cases hs:wj P f.type with
  |none=>simp[hf,hs] at h
  |some m0=>
  cases hx:q9 o0 with
  |none=>simp[hf,hs,hx] at h
  |some x0=>
  cases hr:Yu P fs ps with
  |none=>simp[hf,hs,hx,hr] at h
  |some l0=>
   simp only[hf,hs,hx,hr,Option.some.injEq] at h
   subst h
   simp only[kb] at hn
   obtain⟨ih1,ih2⟩:=K8 hE ps l0 hr hn.2
   refine⟨by simp[ih1],?_⟩
   intro k i off m v x h1 h2
   cases k with
   |zero=>
    simp[kx] at h1 h2
    obtain⟨rfl,rfl⟩:=h1
    obtain⟨rfl,rfl,rfl⟩:=h2
    exact⟨⟨f,hf,rfl,hs⟩,ya hE hx hn.1⟩
   |succ k=>exact ih2 k i off m v x (by simpa using h1) (by simpa[kx] using h2)
theorem Ke(hE:RepEnv I β n w e a){s:Nat}:∀ (ps:List (Nat×Operand)) (l:List (Nat×Nat×LOpd)),Ym s ps=some l→kb e l →
 ps.length=l.length∧∀ (k i off m:Nat) (v:Value) (x:AVal),(ps.map fun q=>(q.1,a.eval q.2))[k]?=some (i,v)→(kx e l)[k]?=some (off,m,x) →
  (off=i*s∧m=s)∧Rep I β n w x v
 |[],l,h,_=>by simp[Ym] at h;subst h;simp
 |(i0,o0)::ps,l,h,hn=>by
  simp only[Ym] at h
  cases hx:q9 o0 with
  |none=>simp[hx] at h
  |some x0=>
  cases hr:Ym s ps with
  |none=>simp[hx,hr] at h
  |some l0=>
   simp only[hx,hr,Option.some.injEq] at h
   subst h
   simp only[kb] at hn
   obtain⟨ih1,ih2⟩:=Ke hE ps l0 hr hn.2
   refine⟨by simp[ih1],?_⟩
   intro k i off m v x h1 h2
   cases k with
   |zero=>
    simp[kx] at h1 h2
    obtain⟨rfl,rfl⟩:=h1
    obtain⟨rfl,rfl,rfl⟩:=h2
    exact⟨⟨rfl,rfl⟩,ya hE hx hn.1⟩
   |succ k=>exact ih2 k i off m v x (by simpa using h1) (by simpa[kx] using h2)
theorem z6y{t:TypeId}{fs:Array Field}{parts:Array (Nat×Operand)}{z:List AVal}{l:List (Nat×Nat×LOpd)}(ht:P.underlying t=some (.struct fs))(hz:wa P t=some z)(hl:Yu P fs parts.toList=some l)
 (hall:fs.toList.all (fun f=>(wj P f.type).isSome)=true) (hE:RepEnv I β n w e a) (hn:kb e l) {side:Prop} {y:AVal} (h:Q4 z (kx e l)=.ok side y) (hs:side) :
 ∃r,(Instr.build t (parts.map fun(i,x)=>(i,a.eval x))).run P w=.ok r w∧Rep I β n w y r:=by
 obtain⟨zv,zi,_,_,_,hzv,hzr⟩:=ui (I:=I) (β:=β) (n:=n) (w:=w) hz
 obtain⟨g1,g2⟩:=K8 hE parts.toList l hl hn
 have hm:=zpz (P:=P) (w:=w) (fun f:Field=>(do pure (f.offset,←sizeOf f.type):Sem (Nat×Nat))) (fun f=>(f.offset,(wj P f.type).getD 0)) fs (by
  intro f hf
  have:=List.all_eq_true.1 hall f hf
  obtain⟨m,hm⟩:=Option.isSome_iff_exists.1 this
  simp[x7 hm,hm])
 obtain⟨arr',cs',k1,k2,k3,_⟩:=z0f (I:=I) (β:=β) (n:=n) (w:=w) (fun i=>(fs.map fun f=>(f.offset,(wj P f.type).getD 0))[i]?) (parts.toList.map fun q=>(q.1,a.eval q.2)) (kx e l) z zv.cells
  (by simp[Wb,←g1]) (by
   intro k i off m v x h1 h2
   obtain⟨⟨f,hf,ho,hsz⟩,hr⟩:=g2 k i off m v x h1 h2
   refine⟨?_,hr⟩
   simp[hf,ho,hsz]) hzr side y h hs
 subst k2
 refine⟨.agg arr',?_,.agg _ _ k3.1 k3.2.1 k3.2.2⟩
 simp only[Instr.build,Sem.run_bind,hzv,Result.andThen_ok,zf ht,hm,Array.toList_map]
 rw[show(parts.toList.map fun(x:Nat×Operand)=>match x with|(i,x)=>(i,a.eval x))=parts.toList.map fun q=>(q.1,a.eval q.2) from rfl,k1]
 rfl
theorem zcl{t c:TypeId}{m s:Nat}{parts:Array (Nat×Operand)}{z:List AVal}{l:List (Nat×Nat×LOpd)}(ht:P.underlying t=some (.array m c))(hz:wa P t=some z)(hsz:wj P c=some s)(hl:Ym s parts.toList=some l)
 (hE:RepEnv I β n w e a) (hn:kb e l) {side:Prop} {y:AVal} (h:Q4 z (kx e l)=.ok side y) (hs:side) :
 ∃r,(Instr.build t (parts.map fun(i,x)=>(i,a.eval x))).run P w=.ok r w∧Rep I β n w y r:=by
 obtain⟨zv,zi,_,_,_,hzv,hzr⟩:=ui (I:=I) (β:=β) (n:=n) (w:=w) hz
 obtain⟨g1,g2⟩:=Ke hE parts.toList l hl hn
 obtain⟨arr',cs',k1,k2,k3,_⟩:=z0f (I:=I) (β:=β) (n:=n) (w:=w) (fun i=>some (i*s,s)) (parts.toList.map fun q=>(q.1,a.eval q.2)) (kx e l) z zv.cells
  (by simp[Wb,←g1]) (by
   intro k i off m v x h1 h2
   obtain⟨⟨rfl,rfl⟩,hr⟩:=g2 k i off m v x h1 h2
   exact⟨rfl,hr⟩) hzr side y h hs
 subst k2
 refine⟨.agg arr',?_,.agg _ _ k3.1 k3.2.1 k3.2.2⟩
 simp only[Instr.build,Sem.run_bind,hzv,Result.andThen_ok,zf ht,x7 hsz,Array.toList_map]
 rw[show(parts.toList.map fun(x:Nat×Operand)=>match x with|(i,x)=>(i,a.eval x))=parts.toList.map fun q=>(q.1,a.eval q.2) from rfl,k1]
 rfl
theorem Zr(hE:RepEnv I β n w e a):∀ (xs:List Operand) (ys:List LOpd),Zq xs=some ys→Jh e ys→(xs.map a.eval).length=(evs e ys).length∧∀ (i:Nat) (y:AVal) (v:Value),(evs e ys)[i]?=some y→(xs.map a.eval)[i]?=some v→Rep I β n w y v
 |[],ys,h,_=>by simp[Zq] at h;subst h;simp[evs]
 |x::xs,ys,h,hn=>by
  simp only[Zq] at h
  cases hx:q9 x with
  |none=>simp[hx] at h
  |some y0=>
  cases hr:Zq xs with
  |none=>simp[hx,hr] at h
  |some ys0=>
   simp only[hx,hr,Option.some.injEq] at h
   subst h
   simp only[Jh] at hn
   obtain⟨h1,h2⟩:=Zr hE xs ys0 hr hn.2
   refine⟨by simpa[evs] using h1,?_⟩
   intro i y v hy hv
   cases i with
   |zero=>simp[evs] at hy hv;subst hy;subst hv;exact ya hE hx hn.1
   |succ i=>exact h2 i y v (by simpa[evs] using hy) (by simpa using hv)
theorem Ud(m:Bool):∀ (l:List AVal) (vs:List Value) (x y:AVal) (v:Value),vs.length=l.length→(∀ (i:Nat) (y:AVal) (v:Value),l[i]?=some y→vs[i]?=some v→Rep I β n w y v)→Rep I β n w x v →
 ∀side,zjg m x l=.ok side y→side→∃r,(vs.foldlM (if m then Builtin.max2 else Builtin.min2) v).run P w=.ok r w∧Rep I β n w y r
 |[],vs,x,y,v,hl,_,hx,side,h,_=>by
  cases vs with
  |cons _ _=>simp at hl
  |nil=>
   simp only[zjg,XR.ok.injEq] at h
   obtain⟨_,rfl⟩:=h
   exact⟨v,rfl,hx⟩
 |z::l,vs,x,y,v,hl,hr,hx,side,h,hs=>by
  cases vs with
  |nil=>simp at hl
  |cons u vs=>
   cases x<;>cases z<;>simp only[zjg] at h<;>try (cases h;done)
   rename_i k p k' q
   have hu:=(hr 0 _ u rfl rfl).int_inv
   subst hu
   obtain rfl:=hx.int_inv
   cases hrec:zjg m (.int k (if m then(if q > p then q else p) else(if q<p then q else p))) l with
   |bad=>simp[hrec] at h
   |ok s0 y0=>
    simp only[hrec,XR.ok.injEq] at h
    obtain⟨rfl,rfl⟩:=h
    obtain⟨rfl,hs⟩:=hs
    obtain⟨r,h1,h2⟩:=Ud m l vs _ y0 (.int k (if m then(if q > p then q else p) else(if q<p then q else p))) (by simpa using hl) (fun i y v a b=>hr (i+1) y v a b) (.imm _ _ (.int _ _)) s0 hrec hs
    refine⟨r,?_,h2⟩
    rw[List.foldlM_cons,Sem.run_bind,←h1]
    cases m<;>rfl
end
end Go.Fx
