/-
  Own framework.
-/
import Derived.Test.YtlilpmnmedmjaaaGreatDoorFxY
namespace Go.Fx
set_option linter.unusedVariables false
variable {P:Program}
def zhm(H:AHeap)(s:Nat):AVal→Option (Option Prop×List (List AVal))
 |.isl s' es _=>match Nat.beq s' s with
  |true=>some (none,es)
  |false=>none
 |.osl _ s' es=>match Nat.beq s' s with
  |true=>some (none,es)
  |false=>none
 |.msl b s' off len _=>match H.get b with
  |some (.rows s'' es)=>match Nat.beq s' s&&Nat.beq s'' s with
   |true=>some (some (off+len≤es.length),(es.drop off).take len)
   |false=>none
  |_=>none
 |.val (.slice none 0 0)=>some (none,[])
 |.str l=>match Nat.beq s 1 with
  |true=>some (none,l.map fun c=>[.int .u8 (c.toNat:Int)])
  |false=>none
 |_=>none
theorem z56{H:AHeap}{s:Nat}{x:AVal}{so:Option Prop}{rows:List (List AVal)}(h:zhm H s x=some (so,rows)):∃p,Y2 H s x=some (p,rows)∧(kv so→p):=by
 unfold zhm at h
 unfold Y2
 split at h
 ·split at h<;>simp only[Option.some.injEq,Prod.mk.injEq,reduceCtorEq] at h
  rename_i hb
  obtain⟨rfl,rfl⟩:=h
  exact⟨_,rfl,fun _=>Nat.eq_of_beq_eq_true hb⟩
 ·split at h<;>simp only[Option.some.injEq,Prod.mk.injEq,reduceCtorEq] at h
  rename_i hb
  obtain⟨rfl,rfl⟩:=h
  exact⟨_,rfl,fun _=>Nat.eq_of_beq_eq_true hb⟩
 ·split at h<;>try (cases h;done)
  rename_i hg
  split at h<;>simp only[Option.some.injEq,Prod.mk.injEq,reduceCtorEq] at h
  rename_i hb
  obtain⟨rfl,rfl⟩:=h
  simp only[Bool.and_eq_true] at hb
  simp only[hg]
  exact⟨_,rfl,fun hh=>⟨Nat.eq_of_beq_eq_true hb.1,Nat.eq_of_beq_eq_true hb.2,hh⟩⟩
 ·simp only[Option.some.injEq,Prod.mk.injEq] at h
  obtain⟨rfl,rfl⟩:=h
  exact⟨_,rfl,fun _=>trivial⟩
 ·split at h<;>simp only[Option.some.injEq,Prod.mk.injEq,reduceCtorEq] at h
  rename_i hb
  obtain⟨rfl,rfl⟩:=h
  exact⟨_,rfl,fun _=>Nat.eq_of_beq_eq_true hb⟩
 ·cases h
def z19:List (List AVal)→List (Nat×AVal)→Option (List (List AVal))
 |rows,[]=>some rows
 |rows,(i,x)::r=>match x.cells? with
  |some cs=>match Nat.beq cs.length ((rows.getD i []).length)&&Nat.ble (i+1) rows.length with
   |true=>z19 (rows.set i cs) r
   |false=>none
  |none=>none
theorem z4v:∀ {parts:List (Nat×AVal)} {rows rs:List (List AVal)},z19 rows parts=some rs→∃p,Je rows parts=some (p,rs)∧p
 |[],rows,rs,h=>by simp only[z19,Option.some.injEq] at h;subst h;exact⟨True,rfl,trivial⟩
 |(i,x)::r,rows,rs,h=>by
  simp only[z19] at h
  split at h<;>try (cases h;done)
  rename_i cs hc
  split at h<;>try (cases h;done)
  rename_i hb
  simp only[Bool.and_eq_true] at hb
  obtain⟨p,h1,h2⟩:=z4v h
  simp only[Je,hc,h1]
  exact⟨_,rfl,Nat.eq_of_beq_eq_true hb.1,Nat.le_of_ble_eq_true hb.2,h2⟩
def zrm(s bytes:Nat)(H:AHeap)(n:Nat)(K:AVal→AHeap→Nat→Prop)(x:AVal)(rows2:List (List AVal)):Prop:=
 match x with
 |.val (.slice none 0 0)=>∃es',rows2=es'∧es'.length*bytes≤140737488355328∧K (.osl (n,0) s es') (((n,0),.tok)::H) (n+1)
 |.isl s' es f=>match Nat.beq s' s with
  |true=>∃es',es++rows2=es'∧(f=true∧es'.length*bytes≤140737488355328)∧K (.osl (n,0) s es') (((n,0),.tok)::H) (n+1)
  |false=>False
 |.osl tok s' es=>match Nat.beq s' s,H.get tok with
  |true,some .tok=>∃es',es++rows2=es'∧es'.length*bytes≤140737488355328∧K (.osl (n,0) s es') (((n,0),.tok)::H.del tok) (n+1)
  |_,_=>False
 |_=>False
theorem zep{s bytes:Nat}{H:AHeap}{n:Nat}{K K':AVal→AHeap→Nat→Prop}{x:AVal}{rows2:List (List AVal)}(h:zrm s bytes H n K x rows2)(hk:∀r H n,K r H n→K' r H n):z81 s bytes H n K' x rows2:=by
 unfold zrm at h
 unfold z81
 split at h
 ·obtain⟨es',rfl,h1,h2⟩:=h
  exact⟨h1,hk _ _ _ h2⟩
 ·split at h<;>try (exact h.elim)
  rename_i hb
  obtain⟨es',rfl,⟨h0,h1⟩,h2⟩:=h
  exact⟨Nat.eq_of_beq_eq_true hb,h0,by simpa using h1,hk _ _ _ h2⟩
 ·split at h<;>try (exact h.elim)
  rename_i hb hg
  obtain⟨es',rfl,h1,h2⟩:=h
  exact⟨Nat.eq_of_beq_eq_true hb,hg,by simpa using h1,hk _ _ _ h2⟩
 ·exact h.elim
def y2k(s bytes:Nat)(H:AHeap)(n:Nat)(K:AVal→AHeap→Nat→Prop)(x:AVal)(rows2:List (List AVal)):Prop:=
 match x with
 |.val (.slice none 0 0)=>rows2≠[]∧∃es',rows2=es'∧es'.length*bytes≤140737488355328∧K (.msl (n,0) s 0 es'.length false) (((n,0),.rows s es')::H) (n+1)
 |.isl s' es f=>match Nat.beq s' s with
  |true=>rows2≠[]∧∃es',es++rows2=es'∧(f=true∧es'.length*bytes≤140737488355328)∧K (.msl (n,0) s 0 es'.length false) (((n,0),.rows s es')::H) (n+1)
  |false=>False
 |.msl b s' off len f=>match H.get b with
  |some (.rows s'' es)=>match Nat.beq s' s&&Nat.beq s'' s with
   |true=>(f=true→rows2≠[])∧off+len≤es.length∧∃es',(es.drop off).take len++rows2=es'∧es'.length*bytes≤140737488355328 ∧
    K (.msl (n,0) s 0 es'.length false) (((n,0),.rows s es')::(match f with|true=>H|false=>H.del b)) (n+1)
   |false=>False
  |_=>False
 |_=>False
theorem zxb{s bytes:Nat}{H:AHeap}{n:Nat}{K K':AVal→AHeap→Nat→Prop}{x:AVal}{rows2:List (List AVal)}(h:y2k s bytes H n K x rows2)(hk:∀r H n,K r H n→K' r H n):zpf s bytes H n K' x rows2:=by
 unfold y2k at h
 unfold zpf
 split at h
 ·obtain⟨h0,es',rfl,h1,h2⟩:=h
  exact⟨fun h=>absurd h h0,fun _=>⟨h1,hk _ _ _ h2⟩⟩
 ·split at h<;>try (exact h.elim)
  rename_i hb
  obtain⟨hne,es',rfl,⟨h0,h1⟩,h2⟩:=h
  exact⟨Nat.eq_of_beq_eq_true hb,fun h=>absurd h hne,fun _=>⟨h0,by simpa using h1,by simpa using hk _ _ _ h2⟩⟩
 ·split at h<;>try (exact h.elim)
  rename_i hg
  split at h<;>try (exact h.elim)
  rename_i hb
  simp only[Bool.and_eq_true] at hb
  obtain⟨hne,hl,es',rfl,h1,h2⟩:=h
  simp only[hg]
  rename_i off len f _ _ es _
  have e:((es.drop off).take len).length=len:=List.length_take_of_le (by simp only[List.length_drop];omega)
  refine⟨Nat.eq_of_beq_eq_true hb.1,Nat.eq_of_beq_eq_true hb.2,hl,fun hf h=>absurd h (hne hf),fun _=>?_⟩
  rw[List.length_append,e] at h1 h2
  refine⟨h1,hk _ _ _ ?_⟩
  cases f<;>simpa using h2
 ·exact h.elim
def zxr(P:Program)(e:Env)(H:AHeap)(n:Nat)(K:AVal→AHeap→Nat→Prop):LOp→Prop
 |.alloc zs=>K (.ptr (n,0) 0 0) (((n,0),.one zs)::H) (n+1)
 |.allocB T el=>K (.ptr (n,0) 0 0) (((n,0),.bld T (n,1))::((n,1),.buf el [])::H) (n+1)
 |.allocR s zs=>∃es',Jl s (zs.length / s) zs=es'∧K (.ptr (n,0) 0 0) (((n,0),.rows s es')::H) (n+1)
 |.box x=>match (x.ev e).cells? with
  |some cs=>Vt (x.needY e) (K (.ptr (n,0) 0 0) (((n,0),.one cs)::H) (n+1))
  |none=>False
 |.mkSl vm s zs len parts=>match z19 (List.replicate len zs) (evI e parts),Nat.beq zs.length s with
  |some rows,true=>match vm with
   |true=>match uc rows with
    |some rows'=>Vt (z48 e parts) (K (.isl s (rows'.map (wm zs)) true) H n)
    |none=>False
   |false=>Vt (z48 e parts) (K (.msl (n,0) s 0 len true) (((n,0),.rows s (rows.map (wm zs)))::H) (n+1))
  |_,_=>False
 |.store m a x=>match a.ev e,(x.ev e).cells? with
  |.ptr b i off,some cs=>match H.get b with
   |some (.rows s es)=>Vt (X7 (a.needY e) (x.needY e)) (∃es',es.set i (kj (es.getD i []) off cs)=es'∧(cs.length=m∧i<es.length∧off+m≤s)∧K .any (H.set b (.rows s es')) n)
   |some (.one rs)=>match i,Nat.beq cs.length m&&Nat.ble (off+m) rs.length with
    |0,true=>Vt (X7 (a.needY e) (x.needY e)) (K .any (H.set b (.one (kj rs off cs))) n)
    |_,_=>False
   |_=>False
  |_,_=>False
 |.conv (.s2b vm) x=>match x.ev e with
  |.str l=>match vm with
   |true=>Vt (x.needY e) (∃es',(l.map fun c=>[AVal.int .u8 (c.toNat:Int)])=es'∧K (.isl 1 es' false) H n)
   |false=>Vt (x.needY e) (K (.msl (n,0) 1 0 l.length false) (((n,0),.rows 1 (l.map fun c=>[.int .u8 (c.toNat:Int)]))::H) (n+1))
  |_=>False
 |.conv .b2s x=>match x.ev e,zhm H 1 (x.ev e) with
  |.str _,_=>False
  |_,some (so,rows)=>Vt (X7 (x.needY e) so) (∃l:List UInt8,rows.map Ue=l∧(∀r∈rows,∃m,r=[.int .u8 m])∧K (.str l) H n)
  |_,none=>False
 |.mkslice vm s bytes zs l c=>match l.ev e,c.ev e with
  |.int .i64 l',.int .i64 c'=>match vm with
   |true=>Vt (X7 (l.needY e) (c.needY e)) ((l'=0∧l'≤c'∧c'*bytes≤140737488355328)∧K (.osl (n,0) s []) (((n,0),.tok)::H) (n+1))
   |false=>Vt (X7 (l.needY e) (c.needY e)) (∃es' fl,(List.replicate l'.toNat (wm zs zs)=es'∨List.replicate l'.toNat zs=es')∧decide (c'=l')=fl∧(0≤l'∧l'≤c'∧c'*bytes≤140737488355328)∧K (.msl (n,0) s 0 es'.length fl) (((n,0),.rows s es')::H) (n+1))
  |_,_=>False
 |.call f args=>Vt (Vg e args) (ACalls P f (evs e args) H n K)
 |.callv x args=>match x.ev e with
  |.fn f first caps=>Vt (X7 (x.needY e) (Vg e args)) (ACallsC P f first (evs e args) caps H n K)
  |_=>False
 |.app vm s bytes x y=>match zhm H s (y.ev e) with
  |some (so,rows2)=>match vm with
   |true=>match y.ev e with
    |.msl _ _ _ _ _=>Vt (X7 (x.needY e) (X7 (y.needY e) so)) (∃rows2',uc rows2=some rows2'∧zrm s bytes H n K (x.ev e) rows2')
    |_=>Vt (X7 (x.needY e) (X7 (y.needY e) so)) (zrm s bytes H n K (x.ev e) rows2)
   |false=>Vt (X7 (x.needY e) (X7 (y.needY e) so)) (y2k s bytes H n K (x.ev e) rows2)
  |none=>False
 |.copy s x y=>match x.ev e,zhm H s (y.ev e) with
  |.msl b s' off len _,some (so,rows2)=>match H.get b with
   |some (.rows s'' es)=>match Nat.beq s' s&&Nat.beq s'' s with
    |true=>Vt (X7 (x.needY e) (X7 (y.needY e) so)) (∃es',es.take off++rows2.take len++es.drop (off+min rows2.length len)=es'∧off+len≤es.length ∧
     K (.int .i64 ((min rows2.length len:Nat):Int)) (H.set b (.rows s es')) n)
    |false=>False
   |_=>False
  |_,_=>False
 |.mkmap none=>K (.map (n,0)) (((n,0),.amap [])::H) (n+1)
 |.mset ks ka g zs m k x=>match m.ev e,zxu g zs (x.ev e) with
  |.map b,some y=>match H.get b,Jb ks ka (k.ev e) with
   |some (.amap es),true=>Vt (X7 (m.needY e) (X7 (k.needY e) (x.needY e))) (∃es',zie ks (k.ev e) y es=some es'∧K .any (H.set b (.amap es')) n)
   |_,_=>False
  |_,_=>False
 |.mdel ks ka m k=>match m.ev e with
  |.map b=>match H.get b,Jb ks ka (k.ev e) with
   |some (.amap es),true=>Vt (X7 (m.needY e) (k.needY e)) (∃es',z29 ks (k.ev e) es=some es'∧K .any (H.set b (.amap es')) n)
   |_,_=>False
  |_=>False
 |.range x=>match x.ev e with
  |.map b=>match H.get b with
   |some (.amap es)=>Vt (x.needY e) (∀ (arr:Array MapEntry) (ck:Nat),K (.ptr (n,0) 0 0) (((n,0),.itr (some b) arr ck [])::H.set b (.rmap es arr ck)) (n+1))
   |_=>False
  |.val (.map none)=>Vt (x.needY e) (K (.ptr (n,0) 0 0) (((n,0),.itr none #[] 0 [])::H) (n+1))
  |_=>False
 |.next x=>match x.ev e with
  |.ptr i 0 0=>match H.get i with
   |some (.itr none _ _ _)=>Vt (x.needY e) (K (.tup [.bool false]) H n)
   |some (.itr (some b) arr ck seen)=>match H.get b with
    |some (.rmap es arr' ck')=>Vt (x.needY e) ((arr'=arr∧ck'=ck)∧((∀j,j<es.length→j∈seen)→K (.tup [.bool false]) H n) ∧
     (∀j,j<es.length→j∉seen→K (.tup [.bool true,.any,.any]) (H.set i (.itr (some b) arr ck (j::seen))) n))
    |_=>False
   |_=>False
  |_=>False
 |.entry x=>match x.ev e with
  |.ptr i 0 0=>match H.get i with
   |some (.itr (some b) arr ck (j::seen))=>match H.get b with
    |some (.rmap es arr' ck')=>Vt (x.needY e) ((arr'=arr∧ck'=ck)∧∃p,es[j]?=some p∧K (.tup [p.1,p.2]) H n)
    |_=>False
   |_=>False
  |_=>False
 |_=>False
theorem z69{e:Env}{H:AHeap}{n:Nat}{K K':AVal→AHeap→Nat→Prop}{op:LOp}(h:zxr P e H n K op)(hk:∀r H n,K r H n→K' r H n):ky P e H n K' op:=by
 have h2:∀ {x y:LOpd},kv (X7 (x.needY e) (y.needY e))→x.need e∧y.need e:=fun h=>by rw[jk,zu,zu] at h;exact h
 cases op<;>simp only[zxr] at h<;>try (exact h.elim)
 case alloc zs=>exact hk _ _ _ h
 case allocR s zs=>obtain⟨es',rfl,h⟩:=h;exact hk _ _ _ h
 case allocB T el=>exact hk _ _ _ h
 case box x=>
  simp only[ky]
  split at h<;>try (exact h.elim)
  rename_i cs hc
  rw[jl,zu] at h
  simp only[hc]
  exact⟨h.1,hk _ _ _ h.2⟩
 case mkSl vm s zs len parts=>
  simp only[ky]
  split at h<;>try (exact h.elim)
  rename_i rows hr hb
  obtain⟨p,h1,h1'⟩:=z4v hr
  have hb:=Nat.eq_of_beq_eq_true hb
  simp only[h1]
  cases vm with
  |true=>
   simp only at h ⊢
   split at h<;>try (exact h.elim)
   rename_i rows' hi
   rw[jl,Kt] at h
   simp only[hi]
   exact⟨hb,h.1,h1',hk _ _ _ h.2⟩
  |false=>
   simp only at h ⊢
   rw[jl,Kt] at h
   exact⟨hb,h.1,h1',_,.inl rfl,hk _ _ _ h.2⟩
 case store m a x=>
  simp only[ky]
  split at h<;>try (exact h.elim)
  rename_i b i off cs ha hc
  simp only[ha,hc]
  split at h
  ·rename_i s es hg
   simp only[hg]
   rw[jl] at h
   obtain⟨hn,es',rfl,⟨k1,k2,k3⟩,k4⟩:=h
   exact⟨(h2 hn).1,(h2 hn).2,k1,k2,k3,hk _ _ _ k4⟩
  ·rename_i rs hg
   simp only[hg]
   split at h<;>try (exact h.elim)
   rename_i hb
   simp only[Bool.and_eq_true] at hb
   rw[jl] at h
   exact⟨(h2 h.1).1,(h2 h.1).2,Nat.eq_of_beq_eq_true hb.1,rfl,Nat.le_of_ble_eq_true hb.2,hk _ _ _ h.2⟩
  ·exact h.elim
 case conv k x=>
  cases k<;>simp only at h<;>try (exact h.elim)
  case s2b vm=>
   simp only[ky]
   split at h<;>try (exact h.elim)
   rename_i l hl
   simp only[hl]
   cases vm with
   |false=>simp only at h ⊢;rw[jl,zu] at h;exact⟨h.1,hk _ _ _ h.2⟩
   |true=>
    simp only at h ⊢
    rw[jl,zu] at h
    obtain⟨h1,es',rfl,h2⟩:=h
    exact⟨h1,hk _ _ _ h2⟩
  case b2s=>
   simp only[ky]
   split at h<;>try (exact h.elim)
   rename_i so rows hr hns
   obtain⟨p,h1,h1'⟩:=z56 hr
   simp only[h1]
   rw[jl,jk,zu] at h
   obtain⟨⟨k1,k2⟩,l,rfl,k4,k3⟩:=h
   exact⟨k1,fun l' hl'=>hns l' hl',h1' k2,k4,hk _ _ _ k3⟩
 case mkslice vm s bytes zs l c=>
  simp only[ky]
  split at h<;>try (exact h.elim)
  rename_i l' c' hl hc
  simp only[hl,hc]
  cases vm with
  |true=>
   simp only at h ⊢
   rw[jl] at h
   obtain⟨hn,⟨k1,k2,k3⟩,k4⟩:=h
   exact⟨(h2 hn).1,(h2 hn).2,k1,k2,k3,hk _ _ _ k4⟩
  |false=>
   simp only at h ⊢
   rw[jl] at h
   obtain⟨hn,es',fl,hes,rfl,⟨k1,k2,k3⟩,k4⟩:=h
   have hlen:es'.length=l'.toNat:=by rcases hes with rfl|rfl<;>simp
   rw[hlen] at k4
   exact⟨(h2 hn).1,(h2 hn).2,k1,k2,k3,es',hes.imp Eq.symm Eq.symm,hk _ _ _ k4⟩
 case mkmap r=>
  cases r with
  |none=>exact hk _ _ _ h
  |some x=>exact h.elim
 case range x=>
  simp only[ky]
  split at h
  ·rename_i b hx
   simp only[hx]
   split at h<;>try (exact h.elim)
   rename_i es hg
   simp only[hg]
   rw[jl,zu] at h
   exact⟨h.1,fun arr ck=>hk _ _ _ (h.2 arr ck)⟩
  ·rename_i hx
   simp only[hx]
   rw[jl,zu] at h
   exact⟨h.1,hk _ _ _ h.2⟩
  ·exact h.elim
 case next x=>
  simp only[ky]
  split at h<;>try (exact h.elim)
  rename_i i hx
  simp only[hx]
  split at h
  ·rename_i hg
   simp only[hg]
   rw[jl,zu] at h
   exact⟨h.1,hk _ _ _ h.2⟩
  ·rename_i hg
   simp only[hg]
   split at h<;>try (exact h.elim)
   rename_i hb
   simp only[hb]
   rw[jl,zu] at h
   obtain⟨h1,⟨h2,h3⟩,h4,h5⟩:=h
   exact⟨h1,h2,h3,fun q=>hk _ _ _ (h4 q),fun j q1 q2=>hk _ _ _ (h5 j q1 q2)⟩
  ·exact h.elim
 case entry x=>
  simp only[ky]
  split at h<;>try (exact h.elim)
  rename_i i hx
  simp only[hx]
  split at h<;>try (exact h.elim)
  rename_i hg
  simp only[hg]
  split at h<;>try (exact h.elim)
  rename_i hb
  simp only[hb]
  rw[jl,zu] at h
  obtain⟨h1,⟨h2,h3⟩,p,h4,h5⟩:=h
  exact⟨h1,h2,h3,p,h4,hk _ _ _ h5⟩
 case mset ks ka g zs m k x=>
  simp only[ky]
  split at h<;>try (exact h.elim)
  rename_i b y hm hy
  simp only[hm,hy]
  split at h<;>try (exact h.elim)
  rename_i es hg hok
  simp only[hg]
  rw[jl,jk,jk,zu,zu,zu] at h
  obtain⟨⟨h1,h2',h3⟩,es',h4,h5⟩:=h
  simp only[h4]
  exact⟨h1,h2',h3,hok,hk _ _ _ h5⟩
 case mdel ks ka m k=>
  simp only[ky]
  split at h<;>try (exact h.elim)
  rename_i b hm
  simp only[hm]
  split at h<;>try (exact h.elim)
  rename_i es hg hok
  simp only[hg]
  rw[jl,jk,zu,zu] at h
  obtain⟨⟨h1,h2'⟩,es',h4,h5⟩:=h
  simp only[h4]
  exact⟨h1,h2',hok,hk _ _ _ h5⟩
 case call f args=>
  rw[jl,Yd] at h
  exact⟨h.1,h.2.mono hk⟩
 case callv x args=>
  simp only[ky]
  split at h<;>try (exact h.elim)
  rename_i f first caps hx
  rw[jl,jk,zu,Yd] at h
  simp only[hx]
  exact⟨h.1.1,h.1.2,h.2.mono hk⟩
 case app vm s bytes x y=>
  simp only[ky]
  split at h<;>try (exact h.elim)
  rename_i so rows2 hr
  obtain⟨p,h1,h1'⟩:=z56 hr
  simp only[h1]
  cases vm with
  |true=>
   simp only at h ⊢
   split at h
   ·rename_i hy
    rw[jl,jk,jk,zu,zu] at h
    obtain⟨⟨k1,k2,k3⟩,rows2',k4,k5⟩:=h
    have:z06 (y.ev e) rows2=some rows2':=by rw[hy];exact k4
    simp only[this]
    exact⟨k1,k2,h1' k3,zep k5 hk⟩
   ·rename_i hy
    rw[jl,jk,jk,zu,zu] at h
    obtain⟨⟨k1,k2,k3⟩,k5⟩:=h
    have:z06 (y.ev e) rows2=some rows2:=by
     unfold z06
     split
     ·rename_i h;exact absurd h (hy _ _ _ _ _)
     ·rfl
    simp only[this]
    exact⟨k1,k2,h1' k3,zep k5 hk⟩
  |false=>
   simp only at h ⊢
   rw[jl,jk,jk,zu,zu] at h
   obtain⟨⟨k1,k2,k3⟩,k5⟩:=h
   exact⟨k1,k2,h1' k3,zxb k5 hk⟩
 case copy s x y=>
  simp only[ky]
  split at h<;>try (exact h.elim)
  rename_i b s' off len f so rows2 hx hr
  obtain⟨p,h1,h1'⟩:=z56 hr
  simp only[hx,h1]
  split at h<;>try (exact h.elim)
  rename_i s'' es hg
  simp only[hg]
  split at h<;>try (exact h.elim)
  rename_i hb
  simp only[Bool.and_eq_true] at hb
  rw[jl,jk,jk,zu,zu] at h
  obtain⟨⟨k1,k2,k3⟩,es',rfl,k4,k5⟩:=h
  exact⟨k1,k2,h1' k3,Nat.eq_of_beq_eq_true hb.1,Nat.eq_of_beq_eq_true hb.2,k4,hk _ _ _ k5⟩
def zpg(P:Program):List LOper→(Env→AHeap→Nat→Prop)→Env→AHeap→Nat→Prop
 |[],R,e,H,n=>R e H n
 |⟨d,op,none⟩::os,R,e,H,n=>match ws op with
  |true=>(z31 e H op).run (fun v=>zpg P os R (e.put d v) H n)
  |false=>zxr P e H n (fun r H' n'=>zpg P os R (e.put d r) H' n') op
 |⟨d,op,some (g,want)⟩::os,R,e,H,n=>match Z4 (e.get g) want with
  |some p=>match ws op with
   |true=>(z31 e H op).runG p (fun v=>zpg P os R (e.put d v) H n)
   |false=>Uo p H n (fun K=>zxr P e H n K op) (fun r H' n'=>zpg P os R (e.put d r) H' n')
  |none=>False
theorem z1y{p:Bool}{H:AHeap}{n:Nat}{E E':(AVal→AHeap→Nat→Prop)→Prop}{K K':AVal→AHeap→Nat→Prop}(h:Uo p H n E K)(hE:∀ {K K':AVal→AHeap→Nat→Prop},E K→(∀r H n,K r H n→K' r H n)→E' K')(hk:∀r H n,K r H n→K' r H n):Uo p H n E' K':=by
 rcases h with⟨R,h1,h2⟩|⟨h1,h2⟩
 ·exact .inl ⟨R,fun hp=>hE (h1 hp) (fun _ _ _ h=>h),hk _ _ _ h2⟩
 ·exact .inr ⟨fun hp=>hE (h1 hp) hk,fun hp=>by obtain⟨u,h3,h4⟩:=h2 hp;exact⟨u,h3,hk _ _ _ h4⟩⟩
def y3e(x:XR)(p:Bool)(K:AVal→Prop):Prop:=match x with
 |.ok side v=>(∃u,(p=true→side∧v=u)∧K (.cnd p u))∨(p=false∧K (.tup []))
 |.bad=>p=false∧K (.tup [])
theorem Ub{r:YR}{x:XR}(h:r.Of x){p:Bool}{K:AVal→Prop}(hk:r.runG p K):y3e x p K:=by
 have other:(p=false∧K (.tup []))→y3e x p K:=fun h'=>by
  cases x with
  |ok s v=>exact .inr h'
  |bad=>exact h'
 cases r with
 |ok s v=>
  obtain⟨side,rfl,hs⟩:=h
  cases s with
  |none=>exact .inl ⟨v,fun _=>⟨hs trivial,rfl⟩,hk⟩
  |some q=>exact .inl ⟨v,fun hp=>⟨hs (hk.1 hp),rfl⟩,hk.2⟩
 |row es i s f=>
  obtain⟨side,rfl,hs⟩:=h
  obtain⟨r,h1,h2⟩:=hk
  refine .inl ⟨f r,fun hp=>?_,h2⟩
  obtain⟨rfl,h3⟩:=h1 hp
  exact⟨hs h3,rfl⟩
 |pick v0 s=>
  obtain⟨side,rfl,hs⟩:=h
  obtain⟨v,h1,h2⟩:=hk
  refine .inl ⟨v,fun hp=>?_,h2⟩
  obtain⟨rfl,h3⟩:=h1 hp
  exact⟨hs h3,rfl⟩
 |fork j len s f=>exact other hk
 |bad=>exact other hk
theorem Jd{R:Env→AHeap→Nat→Prop}:∀ (os:List LOper) {e:Env} {H:AHeap} {n:Nat},zpg P os R e H n→Ju P os R e H n
 |[],e,H,n,h=>h
 |⟨d,op,none⟩::os,e,H,n,h=>by
  simp only[zpg] at h
  simp only[Ju]
  split at h
  ·rename_i hp
   obtain⟨side,v,h1,h2,h3⟩:=(Q8 e H op).run h
   simp only[hp,h1]
   exact⟨h2,Jd os h3⟩
  ·rename_i hp
   simp only[hp]
   exact z69 h (fun r H' n' h=>Jd os h)
 |⟨d,op,some (g,want)⟩::os,e,H,n,h=>by
  simp only[zpg] at h
  simp only[Ju]
  split at h<;>try (exact h.elim)
  rename_i p hg
  simp only[hg]
  split at h
  ·rename_i hp
   simp only[hp]
   have:=Ub (Q8 e H op) h
   cases hx:w5 e H op with
   |ok side v=>
    rw[hx] at this
    rcases this with⟨u,h1,h2⟩|⟨h1,h2⟩
    ·exact .inl ⟨u,h1,Jd os h2⟩
    ·exact .inr ⟨h1,Jd os h2⟩
   |bad=>
    rw[hx] at this
    exact⟨this.1,Jd os this.2⟩
  ·rename_i hp
   simp only[hp]
   exact z1y h (fun h hk=>z69 h hk) (fun r H' n' h=>Jd os h)
def yqs:List LOper→(Env→AHeap→Nat→Prop)→Env→AHeap→Nat→Prop
 |[],R,e,H,n=>R e H n
 |⟨d,op,none⟩::os,R,e,H,n=>(z31 e H op).run (fun v=>yqs os R (e.put d v) H n)
 |⟨d,op,some (g,want)⟩::os,R,e,H,n=>match Z4 (e.get g) want with
  |some p=>(z31 e H op).runG p (fun v=>yqs os R (e.put d v) H n)
  |none=>False
theorem z77{R:Env→AHeap→Nat→Prop}:∀ (os:List LOper) {e:Env} {H:AHeap} {n:Nat},yqs os R e H n→xqs os R e H n
 |[],e,H,n,h=>h
 |⟨d,op,none⟩::os,e,H,n,h=>by
  simp only[yqs] at h
  simp only[xqs]
  obtain⟨side,v,h1,h2,h3⟩:=(Q8 e H op).run h
  simp only[h1]
  exact⟨h2,z77 os h3⟩
 |⟨d,op,some (g,want)⟩::os,e,H,n,h=>by
  simp only[yqs] at h
  simp only[xqs]
  split at h<;>try (exact h.elim)
  rename_i p hg
  simp only[hg]
  have:=Ub (Q8 e H op) h
  cases hx:w5 e H op with
  |ok side v=>
   rw[hx] at this
   rcases this with⟨u,h1,h2⟩|⟨h1,h2⟩
   ·exact .inl ⟨u,h1,z77 os h2⟩
   ·exact .inr ⟨h1,z77 os h2⟩
  |bad=>
   rw[hx] at this
   exact⟨this.1,z77 os this.2⟩
def zwy(e:Env)(H:AHeap)(lo:LOper)(K:AVal→Prop):Prop:=
 match lo.guard with
 |none=>(z31 e H lo.op).run K
 |some (g,want)=>match Z4 (e.get g) want with
  |some p=>(z31 e H lo.op).runG p K
  |none=>False
theorem zpt{e:Env}{H:AHeap}{lo:LOper}{K:AVal→Prop}(h:zwy e H lo K):∃v,(Xp e H lo).gives v∧K v:=by
 unfold zwy at h
 unfold Xp
 split at h
 ·rename_i hg
  simp only[hg]
  obtain⟨side,v,h1,h2,h3⟩:=(Q8 _ _ _).run h
  rw[h1]
  exact⟨v,⟨h2,.inl rfl⟩,h3⟩
 ·rename_i g want hgu
  simp only[hgu]
  split at h<;>try (exact h.elim)
  rename_i p hg
  simp only[hg]
  have:=Ub (Q8 e H lo.op) h
  cases hx:w5 e H lo.op with
  |ok side v=>
   rw[hx] at this
   rcases this with⟨u,h1,h2⟩|⟨h1,h2⟩
   ·exact⟨.cnd p u,⟨fun hp=>(h1 hp).1,.inr (.inr ⟨p,v,u,rfl,rfl,fun hp=>(h1 hp).2⟩)⟩,h2⟩
   ·subst h1
    exact⟨.tup [],⟨(fun hp=>by cases hp),.inr (.inl ⟨.inr ⟨v,rfl⟩,.inl rfl⟩)⟩,h2⟩
  |bad=>
   rw[hx] at this
   exact⟨.tup [],⟨this.1,.inl rfl⟩,this.2⟩
def YR.gives(r:YR)(v:AVal):Prop:=match r with
 |.ok s u=>Vt s (u=v)
 |.row es i s f=>s∧f (es.getD i [])=v
 |.pick u s=>s∧u=v
 |_=>False
theorem YR.Of.gives{r:YR}{x:XR}(h:r.Of x){v:AVal}(hg:r.gives v):∃side,x=.ok side v∧side:=by
 cases r with
 |ok s u=>
  obtain⟨side,rfl,hs⟩:=h
  rw[YR.gives,jl] at hg
  obtain⟨h1,rfl⟩:=hg
  exact⟨side,rfl,hs h1⟩
 |row es i s f=>
  obtain⟨side,rfl,hs⟩:=h
  obtain⟨h1,rfl⟩:=hg
  exact⟨side,rfl,hs h1⟩
 |pick u s=>
  obtain⟨side,rfl,hs⟩:=h
  obtain⟨h1,rfl⟩:=hg
  exact⟨side,rfl,hs h1⟩
 |fork j len s f=>exact hg.elim
 |bad=>exact hg.elim
def zaz(e:Env)(H:AHeap)(lo:LOper)(v:AVal):Prop:=
 match lo.guard with
 |none=>(z31 e H lo.op).gives v
 |some (g,want)=>match Z4 (e.get g) want,v with
  |some p,.cnd q u=>q=p∧(p=true→(z31 e H lo.op).gives u)
  |_,_=>False
theorem zhb{e:Env}{H:AHeap}{lo:LOper}{v:AVal}(h:zaz e H lo v):(Xp e H lo).gives v:=by
 unfold zaz at h
 unfold Xp
 split at h
 ·rename_i hg
  simp only[hg]
  obtain⟨side,h1,h2⟩:=(Q8 _ _ _).gives h
  rw[h1]
  exact⟨h2,.inl rfl⟩
 ·rename_i g want hgu
  simp only[hgu]
  split at h<;>try (exact h.elim)
  rename_i p q u hg
  simp only[hg]
  obtain⟨rfl,h⟩:=h
  cases q with
  |true=>
   obtain⟨side,h1,h2⟩:=(Q8 _ _ _).gives (h rfl)
   rw[h1]
   exact⟨fun _=>h2,.inl rfl⟩
  |false=>
   cases w5 e H lo.op with
   |ok side x=>exact⟨(fun hp=>by cases hp),.inr (.inl ⟨.inr ⟨x,rfl⟩,.inr ⟨u,rfl⟩⟩)⟩
   |bad=>exact⟨rfl,.inr (.inl ⟨.inl rfl,.inr ⟨u,rfl⟩⟩)⟩
def z7c(loose:List Nat)(H:AHeap)(q:Prop):List (Nat×LOper×Env×AVal)→Prop
 |[]=>q
 |x::r=>match loose.contains x.1 with
  |true=>zaz x.2.2.1 H x.2.1 x.2.2.2∧z7c loose H q r
  |false=>z7c loose H q r
theorem z1d{loose:List Nat}{H:AHeap}{q:Prop}:∀ {done:List (Nat×LOper×Env×AVal)},z7c loose H q done→(∀x∈done,x.1∈loose→(Xp x.2.2.1 H x.2.1).gives x.2.2.2)∧q
 |[],h=>⟨fun x hx=>absurd hx (List.not_mem_nil),h⟩
 |y::r,h=>by
  unfold z7c at h
  split at h
  ·obtain⟨h1,h2⟩:=h
   obtain⟨h3,h4⟩:=z1d h2
   refine⟨fun x hx hl=>?_,h4⟩
   rcases List.mem_cons.1 hx with rfl|hx
   ·exact zhb h1
   ·exact h3 x hx hl
  ·rename_i hc
   obtain⟨h3,h4⟩:=z1d h
   refine⟨fun x hx hl=>?_,h4⟩
   rcases List.mem_cons.1 hx with rfl|hx
   ·rw[List.contains_iff_mem.2 hl] at hc;cases hc
   ·exact h3 x hx hl
def zur(P:Program)(e:Env)(H:AHeap)(n:Nat)(K:AVal→AHeap→Nat→Prop)(lo:LOper):Prop:=
 match lo.guard with
 |none=>zxr P e H n K lo.op
 |some (g,want)=>match Z4 (e.get g) want with
  |some p=>Uo p H n (fun K=>zxr P e H n K lo.op) K
  |none=>False
theorem zq8{e:Env}{H:AHeap}{n:Nat}{K K':AVal→AHeap→Nat→Prop}{lo:LOper}(h:zur P e H n K lo)(hk:∀r H n,K r H n→K' r H n):z07 P e H n K' lo:=by
 unfold zur at h
 unfold z07
 split at h
 ·rename_i hg;simp only[hg];exact z69 h hk
 ·rename_i g want hg
  simp only[hg]
  split at h
  ·rename_i p hp;simp only[hp];exact z1y h (fun h hk=>z69 h hk) hk
  ·exact h.elim
def zyl(b:Bool)(x:Nat×LOper×Env×AVal)(done:List (Nat×LOper×Env×AVal)):List (Nat×LOper×Env×AVal):=match b with
 |true=>x::done
 |false=>done
def yd(P:Program):List DItem→Nat→List (Nat×LOper×Env×AVal)→(Env→AHeap→Nat→Prop)→Env→AHeap→Nat→Prop
 |[],_,_,R,e,H,n=>R e H n
 |it::rest,p,done,R,e,H,n=>
  match ws it.lo.op with
  |true=>zwy (it.lo.sees e) H it.lo (fun v=>yd P rest (p+1) (zyl (Zc it.lo.op) (p,it.lo,it.lo.sees e,v) done) R (e.put it.lo.dst v) H n)
  |false=>zur P (it.lo.sees e) H n (fun v H' n'=>z7c it.loose H' (yd P rest (p+1) done R (e.put it.lo.dst v) H' n') done) it.lo
theorem zrb{R:Env→AHeap→Nat→Prop}:∀ (items:List DItem) {p:Nat} {done:List (Nat×LOper×Env×AVal)} {e:Env} {H:AHeap} {n:Nat},yd P items p done R e H n→xd P items p done R e H n
 |[],p,done,e,H,n,h=>h
 |it::rest,p,done,e,H,n,h=>by
  unfold yd at h
  unfold xd
  split at h
  ·rename_i hp
   obtain⟨v,h2,h3⟩:=zpt h
   simp only[hp]
   refine⟨v,h2,zrb rest ?_⟩
   cases hl:Zc it.lo.op<;>rw[hl] at h3<;>simpa[zyl] using h3
  ·rename_i hp
   simp only[hp]
   exact zq8 h (fun r H' n' hh=>by
    obtain⟨h1,h2⟩:=z1d hh
    exact⟨h1,zrb rest h2⟩)
def zaw(P:Program)(N:Lay)(n0:Nat):LCode→(Exit→Env→AHeap→Nat→Prop)→Env→AHeap→Nat→Prop
 |.skip,Q,e,H,n=>Q .normal e H n
 |.region ops,Q,e,H,n=>zpg P ops (Q .normal) e H n
 |.quiet ops,Q,e,H,n=>yqs ops (Q .normal) e H n
 |.draw items,Q,e,H,n=>yd P items 0 [] (Q .normal) e H n
 |.draw2 a b items,Q,e,H,n=>yd P items 0 [] (fun e H n=>z87 (a.ev e) (b.ev e)∧Q .normal e H n) e H n
 |.seq a b,Q,e,H,n=>zaw P N n0 a (fun ex e H n=>match ex with|.normal=>zaw P N n0 b Q e H n|ex=>Q ex e H n) e H n
 |.cond c a b,Q,e,H,n=>match c.ev e with
  |.bool v=>Vt (c.needY e) ((v=true→zaw P N n0 a Q e H n)∧(v=false→zaw P N n0 b Q e H n))
  |_=>False
 |.block id c,Q,e,H,n=>zaw P N n0 c (fun ex e H n=>match ex with|.exit i=>(match Nat.beq i id with|true=>Q .normal e H n|false=>Q (.exit i) e H n)|ex=>Q ex e H n) e H n
 |.loop c,Q,e,H,n=>LWp P N n0 (.loop c) Q e H n
 |.rng g ps a b,Q,e,H,n=>LWp P N n0 (.rng g ps a b) Q e H n
 |.dfr f t,Q,e,H,n=>zgg P f∧Q .normal (e.put (some t) .any) H n
 |.exit id,Q,e,H,n=>Q (.exit id) e H n
 |.ret,Q,e,H,n=>Q .ret e H n
theorem J3{N:Lay}{n0:Nat}{a b:LCode}{Q:Exit→Env→AHeap→Nat→Prop}{e:Env}{H:AHeap}{n:Nat}(h:LWp P N n0 a (fun ex e H n=>match ex with|.normal=>LWp P N n0 b Q e H n|ex=>Q ex e H n) e H n):LWp P N n0 (.seq a b) Q e H n:=by
 intro c hc ro hro I0 β0 H0 w0 I β w aa hX hI hE hN hD QQ hQ
 cases c with
 |seq x y=>
  simp only[y1] at hc
  split at hc<;>try (cases hc;done)
  rename_i x' y' hx hy
  simp only[Option.some.injEq,LCode.seq.injEq] at hc
  obtain⟨rfl,rfl⟩:=hc
  refine wpIn_seq (h x hx ro hro I0 β0 H0 w0 I β w aa hX hI hE hN hD _ ?_)
  intro ex e' H' n' I' β' w' a' g1 g2 g3 g4 g5 g6
  cases ex with
  |normal=>exact g1 y hy ro hro I0 β0 H0 w0 I' β' w' a' g6 g2 g3 g4 g5 QQ hQ
  |_=>exact hQ _ _ _ _ _ _ _ _ g1 g2 g3 g4 g5 g6
 |skip=>simp[y1] at hc
 |region id ops draw=>simp only[y1] at hc;split at hc<;>(try split at hc)<;>(try split at hc)<;>(try split at hc)<;>(try split at hc)<;>(first|(simp at hc;done)|(rcases ub hc with⟨_,h⟩|⟨_,_,_,h⟩<;>cases h))
 |cond c a b=>simp only[y1] at hc;split at hc<;>simp at hc
 |block id c=>simp[y1] at hc
 |loop c=>simp[y1] at hc
 |exit id=>simp[y1] at hc
 |ret=>simp[y1] at hc
 |rangeFunc g ps x y=>simp only[y1] at hc;split at hc<;>simp at hc
 |_=>cases hc
theorem Xe{N:Lay}{n0 id:Nat}{a:LCode}{Q:Exit→Env→AHeap→Nat→Prop}{e:Env}{H:AHeap}{n:Nat}(h:LWp P N n0 a (fun ex e H n=>match ex with|.exit i=>if i=id then Q .normal e H n else Q (.exit i) e H n|ex=>Q ex e H n) e H n):LWp P N n0 (.block id a) Q e H n:=by
 intro c hc ro hro I0 β0 H0 w0 I β w aa hX hI hE hN hD QQ hQ
 cases c with
 |block id' x=>
  simp only[y1,Option.map_eq_some_iff] at hc
  obtain⟨x',hx,hc⟩:=hc
  simp only[LCode.block.injEq] at hc
  obtain⟨rfl,rfl⟩:=hc
  refine wpIn_block (h x hx ro hro I0 β0 H0 w0 I β w aa hX hI hE hN hD _ ?_)
  intro ex e' H' n' I' β' w' a' g1 g2 g3 g4 g5 g6
  cases ex with
  |exit i=>
   simp only at g1
   simp only[Exit.inBlock]
   split at g1
   ·rename_i hi;rw[if_pos hi];exact hQ _ _ _ _ _ _ _ _ g1 g2 g3 g4 g5 g6
   ·rename_i hi;rw[if_neg hi];exact hQ _ _ _ _ _ _ _ _ g1 g2 g3 g4 g5 g6
  |_=>exact hQ _ _ _ _ _ _ _ _ g1 g2 g3 g4 g5 g6
 |skip=>simp[y1] at hc
 |region id ops draw=>simp only[y1] at hc;split at hc<;>(try split at hc)<;>(try split at hc)<;>(try split at hc)<;>(try split at hc)<;>(first|(simp at hc;done)|(rcases ub hc with⟨_,h⟩|⟨_,_,_,h⟩<;>cases h))
 |seq a b=>simp only[y1] at hc;split at hc<;>simp at hc
 |cond c a b=>simp only[y1] at hc;split at hc<;>simp at hc
 |loop c=>simp[y1] at hc
 |exit id=>simp[y1] at hc
 |ret=>simp[y1] at hc
 |rangeFunc g ps x y=>simp only[y1] at hc;split at hc<;>simp at hc
 |_=>cases hc
theorem Q9{N:Lay}{n0:Nat}{c:LOpd}{a b:LCode}{v:Bool}{Q:Exit→Env→AHeap→Nat→Prop}{e:Env}{H:AHeap}{n:Nat}(hv:c.ev e=.bool v)(hn:c.need e)(h1:v=true→LWp P N n0 a Q e H n)(h2:v=false→LWp P N n0 b Q e H n):LWp P N n0 (.cond c a b) Q e H n:=by
 intro cc hc ro hro I0 β0 H0 w0 I β w aa hX hI hE hN hD QQ hQ
 cases cc with
 |cond cx x y=>
  simp only[y1] at hc
  split at hc<;>try (cases hc;done)
  rename_i c' x' y' hcx hx hy
  simp only[Option.some.injEq,LCode.cond.injEq] at hc
  obtain⟨rfl,rfl,rfl⟩:=hc
  have hr:=ya hE hcx hn
  rw[hv] at hr
  exact wpIn_cond_split hr.bool_inv (fun hv=>h1 hv x hx ro hro I0 β0 H0 w0 I β w aa hX hI hE hN hD QQ hQ) (fun hv=>h2 hv y hy ro hro I0 β0 H0 w0 I β w aa hX hI hE hN hD QQ hQ)
 |skip=>simp[y1] at hc
 |region id ops draw=>simp only[y1] at hc;split at hc<;>(try split at hc)<;>(try split at hc)<;>(try split at hc)<;>(try split at hc)<;>(first|(simp at hc;done)|(rcases ub hc with⟨_,h⟩|⟨_,_,_,h⟩<;>cases h))
 |seq a b=>simp only[y1] at hc;split at hc<;>simp at hc
 |block id c=>simp[y1] at hc
 |loop c=>simp[y1] at hc
 |exit id=>simp[y1] at hc
 |ret=>simp[y1] at hc
 |rangeFunc g ps x y=>simp only[y1] at hc;split at hc<;>simp at hc
 |_=>cases hc
theorem Za{N:Lay}{n0:Nat}:∀ (lc:LCode) {Q:Exit→Env→AHeap→Nat→Prop} {e:Env} {H:AHeap} {n:Nat},zaw P N n0 lc Q e H n→LWp P N n0 lc Q e H n
 |.skip,Q,e,H,n,h=>yx .skip Q e H n h
 |.region ops,Q,e,H,n,h=>yx (.region ops) Q e H n (Jd ops h)
 |.quiet ops,Q,e,H,n,h=>yx (.quiet ops) Q e H n (z77 ops h)
 |.draw items,Q,e,H,n,h=>yx (.draw items) Q e H n (zrb items h)
 |.draw2 a b items,Q,e,H,n,h=>yx (.draw2 a b items) Q e H n (zrb items h)
 |.seq a b,Q,e,H,n,h=>by
  refine J3 ((Za a h).mono fun ex e H n hx=>?_)
  cases ex with
  |normal=>exact Za b hx
  |_=>exact hx
 |.cond c a b,Q,e,H,n,h=>by
  unfold zaw at h
  split at h<;>try (exact h.elim)
  rename_i v hv
  rw[jl,zu] at h
  exact Q9 hv h.1 (fun hh=>Za a (h.2.1 hh)) (fun hh=>Za b (h.2.2 hh))
 |.block id c,Q,e,H,n,h=>by
  refine Xe ((Za c h).mono fun ex e H n hx=>?_)
  cases ex with
  |exit i=>
   simp only at hx ⊢
   split at hx
   ·rename_i hi;rw[if_pos (Nat.eq_of_beq_eq_true hi)];exact hx
   ·rename_i hi;rw[if_neg (Nat.ne_of_beq_eq_false hi)];exact hx
  |_=>exact hx
 |.loop c,Q,e,H,n,h=>h
 |.rng g ps a b,Q,e,H,n,h=>h
 |.dfr f t,Q,e,H,n,h=>yx (.dfr f t) Q e H n h
 |.exit id,Q,e,H,n,h=>yx (.exit id) Q e H n h
 |.ret,Q,e,H,n,h=>yx .ret Q e H n h
end Go.Fx
