/-
  Own framework.
-/
import Derived.Test.YtejfgjggcoemeaaFxM
namespace Go.Fx
set_option linter.unusedVariables false
variable {P:Program}
def PFn(P:Program)(f:FuncId)(args:List AVal)(R:AVal):Prop:=R.nid=true∧∃m,ACalls P f args [] 0 (ub m R [])
theorem Inv.give{I:Nat→Nat→Prop}{β:Id→Option CLoc}{n:Nat}{H:AHeap}{w:World}{F:Id→Bool}(hI:Inv I β n H w):Inv (Uz I β F H w) (fun _=>none) 0 [] w:=
 { blocks:=fun id blk h=>by simp[AHeap.get] at h
   inj:=fun i j c d b k h=>by simp at h
   own:=fun i c b k h=>by simp at h
   imm:=fun b k h=>by
    rcases h with h|⟨_,h⟩
    ·exact hI.imm b k h
    ·exact h
   fresh:=fun id _=>rfl
   glob:=hI.glob.mono (fun _ _ h=>.inl h) (fun _ _ _=>rfl) (SameSz.refl _) }
theorem zoa{I:Nat→Nat→Prop}{β:Id→Option CLoc}{n:Nat}{H:AHeap}{w:World}{F:Id→Bool}(hI:Inv I β n H w){x y:AVal}(h:Vw F H (fun _=>none) 0 x y){v:Value}(hr:Rep I β n w x v):Rep (Uz I β F H w) (fun _=>none) 0 w y v:=by
 have hρ:RhoOk 0 0 F H (fun _=>none):=⟨fun i j k h=>(by cases h),fun i k h=>(by cases h),fun i h=>absurd h (Nat.not_lt_zero _),fun i k _ h=>(by cases h),Nat.le_refl _⟩
 have:=V0 (n:=0) (L:=[]) hI hρ h hr
 have e:z1a β F (fun _=>none) 0 0 []=fun _=>none:=by
  funext id
  simp[z1a,AHeap.get]
 rw[e] at this
 exact this
theorem PFn.use{f:FuncId}{args args0:List AVal}{R:AVal}(h:PFn P f args0 R){F:Id→Bool}{H:AHeap}{n:Nat}{K:AVal→AHeap→Nat→Prop}(ha:ArgsTo F H (fun _=>none) 0 args args0)(hF:∀x,F x=true→H.get x≠none)
 (hk:K R (AHeap.without F H) n):ACalls P f args H n K:=by
 obtain⟨hR,m,h⟩:=h
 refine⟨h.1,fun I β w vs hI hl hr=>?_⟩
 obtain⟨ha1,ha2⟩:=ha.get
 refine(h.2 _ _ w vs (hI.give (F:=F)) (by rw[hl,ha1]) (fun i y v hy hv=>?_)).mono ?_
 ·have hlt:i<args.length:=by rw[ha1];exact Qu hy
  exact zoa hI (ha2 i args[i] y (List.getElem?_eq_getElem hlt) hy) (hr i _ v (List.getElem?_eq_getElem hlt) hv)
 ·rintro ee w' ⟨r,v,H1,n1,I',β',he,⟨rfl,rfl,rfl⟩,hI',hr',hx⟩
  have hcell:∀b q u,w.cell? ⟨b,q,none⟩=some u→w'.cell? ⟨b,q,none⟩=some u:=fun b q u hu=>hx.cells b q u hu (fun i c hi=>by cases hi)
  have himm:∀b q,I b q→I' b q:=fun b q hb=>hx.imm b q (.inl hb)
  have hcI:∀b q,I b q→w'.cell? ⟨b,q,none⟩=w.cell? ⟨b,q,none⟩:=fun b q hb=>by
   obtain⟨u,hu⟩:=hI.imm b q hb
   rw[hu];exact hcell b q u hu
  let β3:Id→Option CLoc:=fun j=>if F j then none else β j
  have b3:∀ {j c},β3 j=some c→F j=false∧β j=some c:=by
   intro j c hj
   simp only[β3] at hj
   split at hj
   ·cases hj
   ·rename_i hF';exact⟨by simpa using hF',hj⟩
  refine⟨_,v,_,_,I',β3,he,hk,?_,Qt (fun _ _ h=>h) _ hR hr',?_⟩
  ·refine⟨fun id blk hb=>?_,fun i j c d b q hi hj hc hd=>hI.inj i j c d b q (b3 hi).2 (b3 hj).2 hc hd,fun i c b q hi hc=>?_,hI'.imm,fun id hid=>?_,hI'.glob⟩
   ·rw[AHeap.get_without] at hb
    split at hb<;>try (cases hb;done)
    rename_i hFid
    obtain⟨c,hc,hB⟩:=hI.blocks id blk hb
    refine⟨c,by simp only[β3];rw[if_neg hFid];exact hc,hB.mono' himm hcI (Nat.le_refl n) (fun id d _ hd=>(b3 hd).2) (fun arr el fr hh=>by
     obtain⟨arr',fr',k1,k2,k3⟩:=hx.shape _ arr el fr hh
     refine⟨arr',fr',k1,k2,k3.imp (fun h=>h) fun g k hk=>?_⟩
     obtain⟨i,d,e1,_⟩:=g k hk
     cases e1) (fun b q u _ hu=>hcell b q u hu) (fun es ck _ hm=>hx.maps _ es ck hm (fun i c hi=>by cases hi))⟩
   ·obtain⟨hFi,hi⟩:=b3 hi
    obtain⟨g1,g2⟩:=hI.own i c b q hi hc
    refine⟨fun hbq=>?_,Nat.lt_of_lt_of_le g2 hx.size⟩
    by_cases hin:Uz I β F H w b q
    ·rcases hin with h|⟨⟨id,d,e1,e2,e3,e4⟩,_⟩
     ·exact g1 h
     ·have:=hI.inj id i d c b q e2 hi e4 hc
      subst this
      rw[e1] at hFi;cases hFi
    ·obtain⟨i0,c0,e1,_⟩:=hx.immNew b q hbq hin g2
     cases e1
   ·simp only[β3]
    split
    ·rfl
    ·exact hI.fresh id hid
  ·refine⟨hx.os,hx.tape,hx.output,hx.size,fun b hb _=>hx.frame b hb (fun i c q hi=>by cases hi),fun b q u hu _=>hcell b q u hu,fun b arr el fr hb=>(by
    obtain⟨arr',fr',k1,k2,k3⟩:=hx.shape b arr el fr hb
    refine⟨arr',fr',k1,k2,k3.imp (fun h=>h) fun g k hk=>?_⟩
    obtain⟨i,d,e1,_⟩:=g k hk
    cases e1),fun b es ck hm _=>hx.maps b es ck hm (fun i c hi=>by cases hi),himm,fun b q hb hnb hlt=>?_,fun j hj=>?_,fun j c b q hj hc hq=>?_,fun j hj hg=>?_,Nat.le_refl n⟩
   ·by_cases hin:Uz I β F H w b q
    ·rcases hin with h|⟨⟨id,d,e1,e2,e3,e4⟩,_⟩
     ·exact absurd h hnb
     ·exact⟨id,d,e2,e4,e3⟩
    ·obtain⟨i0,c0,e1,_⟩:=hx.immNew b q hb hin hlt
     cases e1
   ·simp only[β3]
    split
    ·rename_i hFj;exact .inr ⟨rfl,hF j hFj⟩
    ·exact .inl rfl
   ·have:=(b3 hc).2
    rw[hI.fresh j hj] at this
    cases this
   ·rw[AHeap.get_without] at hg
    split at hg
    ·exact absurd rfl hg
    ·exact hg
def AVal.flat:AVal→Bool
 |.bool _|.int _ _|.str _|.val _=>true
 |.tup cs=>flatL cs
 |.agg cs=>flatL cs
 |_=>false
where flatL:List AVal→Bool
 |[]=>true
 |x::r=>x.flat&&flatL r
mutual
theorem zlj{I I2:Nat→Nat→Prop}{β β2:Id→Option CLoc}{n n2:Nat}{w w2:World}:∀ (x:AVal),x.flat=true→∀ {v:Value},Rep I β n w x v→Rep I2 β2 n2 w2 x v
 |.bool b,_,v,hr=>by rw[hr.bool_inv];exact .imm _ _ (.bool b)
 |.int k m,_,v,hr=>by rw[hr.int_inv];exact .imm _ _ (.int k m)
 |.str l,_,v,hr=>by rw[hr.str_inv];exact .imm _ _ (.str l)
 |.val u,_,v,hr=>by
  cases hr with
  |imm _ _ h=>cases h with|val _ h=>exact .imm _ _ (.val u h)
 |.tup cs,hn,v,hr=>by
  have:∃vs,v=.tuple vs∧vs.size=cs.length∧∀ (i:Nat) (y:AVal) (u:Value),cs[i]?=some y→vs[i]?=some u→Rep I β n w y u:=by
   cases hr with
   |tup _ vs h1 h2=>exact⟨vs,rfl,h1,h2⟩
   |imm _ _ hx=>
    cases hx with
    |tup _ vs h1 h2=>exact⟨vs,rfl,h1,fun i y u hy hu=>.imm _ _ (h2 i y u hy hu)⟩
  obtain⟨vs,rfl,h1,h3⟩:=this
  exact .tup cs vs h1 (fun i x v hx hv=>Ka cs hn x (List.mem_of_getElem? hx) (h3 i x v hx hv))
 |.agg cs,hn,v,hr=>by
  obtain⟨vs,rfl,h1,h2,h3⟩:=hr.agg_inv
  exact .agg cs vs h1 h2 (fun i x v hx hv=>Ka cs hn x (List.mem_of_getElem? hx) (h3 i x v hx hv))
theorem Ka{I I2:Nat→Nat→Prop}{β β2:Id→Option CLoc}{n n2:Nat}{w w2:World}:∀ (cs:List AVal),AVal.flat.flatL cs=true→∀x∈cs,∀ {v:Value},Rep I β n w x v→Rep I2 β2 n2 w2 x v
 |[],_,x,hx,v,hr=>by cases hx
 |y::r,hn,x,hx,v,hr=>by
  simp only[AVal.flat.flatL,Bool.and_eq_true] at hn
  rcases List.mem_cons.1 hx with e|hx
  ·rw[e] at hr ⊢;exact zlj y hn.1 hr
  ·exact Ka r hn.2 x hx hr
end
def wa(R:AVal):AVal→AHeap→Nat→Prop:=fun r H' _=>R.nid=true∧Vw (fun _=>true) H' (fun _=>none) 0 r R
theorem PFn.ofFnW{f:FuncId}{bm:List Nat}{L:LFn}(hL:vi P bm f=some L)(hok:Z6 P f){args:List AVal}(hlen:args.length≤L.lay.n){R:AVal}(hR:R.nid=true)
 (h:LWp P L.lay 0 L.body (Yb L.res (wa R)) (yy 0 args) [] 0):PFn P f args R:=by
 refine⟨hR,0,ACalls.fin ((ACalls.ofFnW hL hok hlen h).mono ?_)⟩
 rintro r H' n' ⟨_,hv⟩
 exact⟨fun _=>true,fun _=>none,⟨fun i j k h=>(by cases h),fun i k h=>(by cases h),fun i h=>absurd h (Nat.not_lt_zero _),fun i k _ h=>(by cases h),Nat.le_refl _⟩,hv,fun _ _ h=>by simp[AHeap.get] at h⟩
end Go.Fx
