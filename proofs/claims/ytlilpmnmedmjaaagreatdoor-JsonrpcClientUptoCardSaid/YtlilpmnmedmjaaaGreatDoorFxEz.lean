/-
  Own framework.
-/
import Derived.Test.YtlilpmnmedmjaaaGreatDoorFxEx
import Derived.Test.YtlilpmnmedmjaaaGreatDoorFxBd
namespace Go.Fx
set_option linter.unusedVariables false
variable {D:Id→Option ABlock} {P:Program} {N:Lay}
theorem z7g:∀ (l:List AVal) (k:Nat) (E0 E:Ev),zam k l E0=some E→∀t,E.g t=if k≤t∧t<k+l.length then(l[t-k]?).getD .any else E0.g t
 |[],k,E0,E,h,t=>by
  simp only[zam,Option.some.injEq] at h
  subst h
  rw[if_neg (by simp)]
 |x::l,k,E0,E,h,t=>by
  unfold zam at h
  split at h<;>try (cases h;done)
  rename_i E1 h1
  rw[z7g l (k+1) E1 E h t]
  have h1g:E1.g t=if t=k then x else E0.g t:=by
   simp only[Ev.p] at h1
   unfold Ev.g
   rw[Tr.put_get _ _ _ _ _ h1]
   by_cases ht:t=k
   ·rw[if_pos ht,if_pos ht]
   ·rw[if_neg ht,if_neg ht]
  rw[h1g]
  by_cases ht:t=k
  ·subst ht
   rw[if_neg (by omega),if_pos rfl,if_pos (by simp)]
   simp
  ·rw[if_neg ht]
   by_cases h2:k+1≤t∧t<k+1+l.length
   ·rw[if_pos h2,if_pos (by simp only[List.length_cons];omega)]
    have:t-k=(t-(k+1))+1:=by omega
    rw[this,List.getElem?_cons_succ]
   ·rw[if_neg h2,if_neg (by simp only[List.length_cons];omega)]
theorem zqs{args:List AVal}{E:Ev}(h:zam 0 args .nil=some E):EnR (ye 0 args) E:=by
 intro t
 rw[z7g _ _ _ _ h t,V2]
 rw[if_pos (Nat.zero_le _)]
 by_cases ht:t<args.length
 ·rw[if_pos ⟨Nat.zero_le _,by omega⟩]
 ·rw[if_neg (by omega),List.getElem?_eq_none (by omega)];rfl
variable {e:Env} {H:AHeap} {n:Nat} {S S':Sh}
theorem zvq{E:Ev}(hE:EnR e E)(hs:StR D H n S){r:LRes}{v:AVal}(h:zwe E S.t.at r=some v):XOk (zxt e H r) v:=by
 replace h:=zjy hs.le h
 cases r with
 |t i=>
  simp only[zwe] at h
  rw[hE.get] at h
  obtain⟨h1,h2⟩:=y5 h
  exact⟨_,by simp only[zxt];exact congrArg _ h1,h2⟩
 |cell i ag m=>
  simp only[zwe] at h
  rw[hE.get] at h
  split at h<;>try (cases h;done)
  rename_i a ha
  obtain⟨h1,h2⟩:=y5 ha
  have h3:=Kf h
  simp only[zxt]
  have h1':(e.get i).strip=a:=h1
  rw[h1']
  exact h3.and h2
theorem z5r{E:Ev}(hE:EnR e E)(hs:StR D H n S):∀ {rs:List LRes} {l:List AVal} {k:List AVal→Prop},zga E S.t.at rs=some l→k l→z5d e H rs k
 |[],l,k,h,hk=>by simp only[zga,Option.some.injEq] at h;subst h;exact hk
 |r::rs,l,k,h,hk=>by
  unfold zga at h
  split at h<;>try (cases h;done)
  rename_i v hv
  split at h<;>simp only[Option.some.injEq,reduceCtorEq] at h
  rename_i l' hl
  subst h
  obtain⟨s,h1,h2⟩:=zvq hE hs hv
  unfold z5d
  rw[h1]
  exact⟨h2,z5r hE hs hl hk⟩
theorem zu1{res:List LRes}{x:Cs}{v:AVal}(h:y1o res x=some (v,S')):∃y,x=some y∧∀ex e H n,KX D y ex e H n→Zz res (KS D v S') ex e H n:=by
 unfold y1o at h
 split at h
 ·split at h<;>simp only[Option.some.injEq,Prod.mk.injEq,reduceCtorEq] at h
  rename_i l hl
  obtain⟨rfl,rfl⟩:=h
  refine⟨_,rfl,?_⟩
  rintro ex e H n ⟨rfl,hE,hs⟩
  exact z5r hE hs hl ⟨rfl,hs⟩
 ·split at h<;>simp only[Option.some.injEq,Prod.mk.injEq,reduceCtorEq] at h
  rename_i l hl
  obtain⟨rfl,rfl⟩:=h
  refine⟨_,rfl,?_⟩
  rintro ex e H n ⟨rfl,hE,hs⟩
  exact z5r hE hs hl ⟨rfl,hs⟩
 ·cases h
def z7t(P:Program)(F:Nat→Option LFn):Prop:=∀f fn,F f=some fn→(∃bm,wb P bm f=some fn)∧uk P f∧Xh P fn.lay.n fn.body
def J8(P:Program)(X:Nat→List AVal→Sh→Option Rs):Prop:=
 ∀ (f:Nat) as S r S',X f as S=some (some (r,S'))→∀ {D:Id→Option ABlock} H n,StR D H n S→ACalls P (.func f) as H n (KS D r S')
variable {F:Nat→Option LFn} {X:Nat→List AVal→Sh→Option Rs} {B:Nat→Option (Bool×Nat)}
theorem zuh(hB:z9e P B)(m:Nat)(hC:∀j,j<m→z1j P (ev F X B j).1∧zel P (ev F X B j).2):zel P (ev F X B m).2:=by
 intro c E S x h D N n0 e H n hi hE hs
 refine z7h (ι:=Nat×Ev×Sh×Env×AHeap×Nat) (fun y=>y.1≤m∧(ev F X B y.1).2 c y.2.1 y.2.2.1=some x∧EnR y.2.2.2.1 y.2.1∧StR D y.2.2.2.2.1 y.2.2.2.2.2 y.2.2.1) (fun y=>y.2.2.2.1) (fun y=>y.2.2.2.2.1) (fun y=>y.2.2.2.2.2) (fun y=>y.1) ?_ (m,E,S,e,H,n) ⟨Nat.le_refl _,h,hE,hs⟩
 rintro⟨k,E,S,e,H,n⟩ ⟨hk,h,hE,hs⟩
 simp only at hk h hE hs ⊢
 cases k with
 |zero=>cases h
 |succ j=>
  have h:(match Y5 (ev F X B j).1 (ev F X B j).2 B c E S with
   |some (.normal,e,S)=>(ev F X B j).2 c e S
   |x=>x)=some x:=h
  obtain⟨hc,hl⟩:=hC j (by omega)
  split at h
  ·rename_i E1 S1 h1
   refine(ug hc hl hB c N n0 h1 hi hE hs).mono ?_
   rintro ex e' H' n' ⟨rfl,hE',hs'⟩
   exact⟨(j,E1,S1,e',H',n'),⟨by simp only;omega,h,hE',hs'⟩,Nat.lt_succ_self _,rfl,rfl,rfl⟩
  ·rename_i hne
   refine(ug hc hl hB c N n0 h hi hE hs).mono ?_
   rintro ex e' H' n' ⟨rfl,hE',hs'⟩
   obtain⟨ex,E1,S1⟩:=x
   cases ex with
   |normal=>exact absurd h (hne _ _)
   |_=>exact⟨rfl,hE',hs'⟩
theorem zri(hF:z7t P F)(hX:J8 P X)(hB:z9e P B):∀m,z1j P (ev F X B m).1∧zel P (ev F X B m).2:=by
 intro m
 induction m using Nat.strongRecOn with
 |ind m ih=>
  refine⟨?_,zuh hB m ih⟩
  cases m with
  |zero=>intro f as S r S' h;cases h
  |succ j=>
   intro f as S r S' h D H n hs
   obtain⟨hc,hl⟩:=ih j (Nat.lt_succ_self _)
   have h:(match X f as S with
    |some r=>r
    |none=>match F f with
     |some fn=>match Nat.ble as.length fn.lay.n with
      |true=>match zam 0 as .nil with
       |some e=>y1o fn.res (Y5 (ev F X B j).1 (ev F X B j).2 B fn.body e S)
       |none=>none
      |false=>none
     |none=>none)=some (r,S'):=h
   split at h
   ·rename_i hx
    rw[h] at hx
    exact hX f as S r S' hx H n hs
   ·split at h<;>try (cases h;done)
    rename_i fn hfn
    split at h<;>try (cases h;done)
    rename_i hlen
    split at h<;>try (cases h;done)
    rename_i E hE
    obtain⟨⟨bm,h1⟩,h2,h3⟩:=hF f fn hfn
    obtain⟨y,hy,hfin⟩:=zu1 h
    exact ACalls.ofFnW h1 h2 (jz.1 hlen) ((ug hc hl hB fn.body fn.lay n hy h3 (zqs hE) hs).mono hfin)
theorem StR.empty:StR (fun _=>none) [] 0 ⟨.nil,0⟩:=⟨rfl,fun id b h=>(by
 simp only[Tr.at] at h
 split at h
 ·cases h
 ·cases h),fun id b h=>by cases h⟩
theorem zv6(hF:z7t P F)(hX:J8 P X)(hB:z9e P B){m f:Nat}{as:List AVal}{R:AVal}(hR:R.nid=true)(h:((ev F X B m).1 f as ⟨.nil,0⟩).map (·.1)=some R):PFn P f as R:=by
 cases hx:(ev F X B m).1 f as ⟨.nil,0⟩ with
 |none=>rw[hx] at h;cases h
 |some y=>
  obtain⟨r,S'⟩:=y
  rw[hx] at h
  simp only[Option.map_some,Option.some.injEq] at h
  subst h
  have hc:=(zri hF hX hB m).1 f as _ _ _ hx [] 0 StR.empty
  refine⟨hR,0,(hc.mono fun r' H' n' hk=>?_).fin⟩
  obtain⟨rfl,hs⟩:=hk
  exact⟨fun _=>false,fun _=>none,⟨fun i j k h=>(by cases h),fun i k h=>(by cases h),fun i h=>absurd h (Nat.not_lt_zero _),fun i k _ h=>(by cases h),Nat.le_refl _⟩,.same _ (hR),fun id blk h=>by cases h⟩
def noB:Nat→Option (Bool×Nat):=fun _=>none
theorem y1e:z9e P noB:=fun f ag s h=>by cases h
theorem y0c(hF:z7t P F)(hX:J8 P X){m f:Nat}{as:List AVal}{R:AVal}(hR:R.nid=true)(h:((ev F X noB m).1 f as ⟨.nil,0⟩).map (·.1)=some R):PFn P f as R:=zv6 hF hX y1e hR h
variable {P:Program}
def z1l(l:List Nat):Option LFn→Option LFn
 |some fn=>match Qj l fn.lay.n fn.body with
  |true=>some fn
  |false=>none
 |none=>none
theorem z85{l:List Nat}(hl:∀f∈l,zgg P f){o:Option LFn}{fn:LFn}(h:z1l l o=some fn):o=some fn∧Xh P fn.lay.n fn.body:=by
 cases o with
 |none=>cases h
 |some g=>
  simp only[z1l] at h
  split at h<;>try (cases h;done)
  rename_i hc
  cases h
  exact⟨rfl,Zj hl hc⟩
def mkF(P:Program)(f:Nat):Option LFn:=match P.funcs[f]? with
 |some fn=>match fn.body.isSome&&!(fn.name=="runtime.NumGoroutine") with
  |true=>z1l [] (wb P (List.range fn.ntmps) f)
  |false=>none
 |none=>none
theorem zy4:z7t P (mkF P):=by
 intro f fn h
 unfold mkF at h
 split at h<;>try (cases h;done)
 rename_i g hg
 split at h<;>try (cases h;done)
 rename_i hb
 simp only[Bool.and_eq_true,Bool.not_eq_true'] at hb
 obtain⟨h,hi⟩:=z85 (P:=P) (fun f h=>by cases h) h
 exact⟨⟨_,h⟩,⟨g,hg,hb.1,hb.2⟩,hi⟩
def noX:Nat→List AVal→Sh→Option Rs:=fun _ _ _=>none
def y2b(fw fs:Nat)(T e:TypeId)(f:Nat)(as:List AVal)(S:Sh):Option Rs:=
 match Nat.beq f fw with
 |true=>match as with
  |[.ptr b 0 0,.str s]=>match S.t.at b with
   |some (.bld T' g)=>match S.t.at g with
    |some (.buf e' bs)=>match Nat.beq T' T&&Nat.beq e' e&&Nat.ble (bs.length+s.length) 140737488355328 with
     |true=>match S.upd b (.bld T (S.n,0)) with
      |some S1=>match S1.cut g with
       |some S2=>some (Qv (.tup [.int .i64 (s.length:Int),.val .nilIface]) (S2.new (.buf e (bs++s))))
       |none=>some none
      |none=>some none
     |false=>some none
    |_=>some none
   |_=>some none
  |_=>some none
 |false=>match Nat.beq f fs with
  |true=>match as with
   |[.ptr b 0 0]=>match S.t.at b with
    |some (.bld T' g)=>match S.t.at g with
     |some (.buf e' bs)=>match Nat.beq T' T&&Nat.beq e' e&&Nat.ble bs.length 9223372036854775807 with
      |true=>some (some (.str bs,S))
      |false=>some none
     |_=>some none
    |_=>some none
   |_=>some none
  |false=>none
theorem zwh{fw fs:Nat}{T e tb ts:TypeId}(hW:BWrite P fw T e tb ts)(hS:BStr P fs T e):J8 P (y2b fw fs T e):=by
 intro f as S r S' h D H n hs
 unfold y2b at h
 split at h
 ·rename_i hf
  have hf:=qr.1 hf
  subst hf
  split at h<;>try (cases h;done)
  rename_i b s
  split at h<;>try (cases h;done)
  rename_i T' g hb
  split at h<;>try (cases h;done)
  rename_i e' bs hg
  split at h<;>try (cases h;done)
  rename_i hc
  simp only[Bool.and_eq_true,qr,jz] at hc
  obtain⟨⟨rfl,rfl⟩,hlen⟩:=hc
  split at h<;>try (cases h;done)
  rename_i S1 h1
  split at h<;>try (cases h;done)
  rename_i S2 h2
  simp only[Option.some.injEq] at h
  obtain⟨rfl,hw⟩:=vo h
  have r1:=hs.upd hb h1
  obtain⟨gc,hgc⟩:=Sh.upd_at h1 hg
  have r2:=r1.cut hgc h2
  have r3:=r2.new hw
  replace hb:=hs.h _ _ hb
  replace hg:=hs.h _ _ hg
  rw[←hs.n] at r3
  exact zl3 hW hb hg hlen ⟨rfl,r3⟩
 ·split at h<;>try (cases h;done)
  rename_i hf
  have hf:=qr.1 hf
  subst hf
  split at h<;>try (cases h;done)
  rename_i b
  split at h<;>try (cases h;done)
  rename_i T' g hb
  split at h<;>try (cases h;done)
  rename_i e' bs hg
  split at h<;>try (cases h;done)
  rename_i hc
  simp only[Bool.and_eq_true,qr,jz] at hc
  obtain⟨⟨rfl,rfl⟩,hlen⟩:=hc
  simp only[Option.some.injEq,Prod.mk.injEq] at h
  obtain⟨rfl,rfl⟩:=h
  replace hb:=hs.h _ _ hb
  replace hg:=hs.h _ _ hg
  exact zgr hS hb hg hlen ⟨rfl,hs⟩
end Go.Fx
