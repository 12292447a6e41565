/-
  Own framework.
-/
import Derived.Test.YtlilpmnmedmjaaaGreatDoorFxS
import Derived.WalkKit
import Derived.ProofKit
import Derived.OpenShut
import Derived.SizedLaws
namespace Go.Fx
set_option linter.unusedVariables false
def z1s(I:Nat→Nat→Prop)(w:World)(as:List AVal)(cs:List Value):Prop:=
 cs.length=as.length∧(∀v∈cs,xp v=true)∧∀ (i:Nat) (a:AVal) (v:Value),as[i]?=some a→cs[i]?=some v→RepI I w a v
def old(w:World):Nat→Nat→Prop:=fun b k=>∃v,w.cell? ⟨b,k,none⟩=some v
structure RA(P:Program)(t:TypeId)(α:Type)(e:α→List AVal)(ok:α→Prop):Prop where
 size:∀x,(e x).length=P.cellsOf t
 reads:∀ {H:Type} {enc:TypeId×Value→H} {w:World} {fuel:Nat} {cs:List Value} {d:DataW H} {ps:List MemPlace},DataW.trod enc P w 0 (fun _=>true) true fuel t cs=some (d,ps)→(∀n∈d.weights P t,n≤reachBytes)→∃x,ok x∧z1s (old w) w (e x) cs
variable {P:Program}
theorem RA.map{t:TypeId}{α γ:Type}{e:α→List AVal}{ok:α→Prop}(h:RA P t α e ok)(g:α→γ){e':γ→List AVal}{ok':γ→Prop}(he:∀x,e' (g x)=e x)(hg:∀y,∃x,y=g x)(hok:∀x,ok x→ok' (g x)):RA P t γ e' ok':=
 ⟨fun y=>by obtain⟨x,rfl⟩:=hg y;rw[he];exact h.size x,fun h1 h2=>by
  obtain⟨x,h3,h4⟩:=h.reads h1 h2
  exact⟨g x,hok x h3,by rw[he];exact h4⟩⟩
theorem Zw{I:Nat→Nat→Prop}{w:World}{a:AVal}{v:Value}(h:RepI I w a v)(hc:xp v=true):z1s I w [a] [v]:=by
 refine⟨rfl,by simpa using hc,fun i x u hx hu=>?_⟩
 cases i with
 |zero=>simp at hx hu;subst hx;subst hu;exact h
 |succ i=>simp at hx
theorem RA.bool{t:TypeId}(ht:P.underlying t=some .bool)(hs:P.cellsOf t=1):RA P t Bool (fun b=>[.bool b]) (fun _=>True):=by
 refine⟨fun _=>hs.symm,fun {H enc w fuel cs d ps} h _=>?_⟩
 cases fuel with
 |zero=>cases h
 |succ fuel=>
  unfold DataW.trod at h
  simp only[ht] at h
  split at h<;>try (simp at *;done)
  rename_i b _
  exact⟨b,trivial,Zw (.bool b) rfl⟩
theorem RA.int{t:TypeId}{k:IntKind}(ht:P.underlying t=some (.int k))(hs:P.cellsOf t=1):RA P t Int (fun n=>[.int k n]) (fun n=>k.min≤n∧n≤k.max):=by
 refine⟨fun _=>hs.symm,fun {H enc w fuel cs d ps} h _=>?_⟩
 cases fuel with
 |zero=>cases h
 |succ fuel=>
  unfold DataW.trod at h
  rcases cs with _|⟨v,_|⟨v2,r⟩⟩
  ·simp[ht] at h
  ·cases v<;>simp only[ht] at h<;>try (cases h;done)
   rename_i k2 m
   split at h<;>try (cases h;done)
   rename_i hk
   obtain⟨rfl,hwf⟩:=hk
   simp only[Lit.wf,Bool.and_eq_true,decide_eq_true_eq] at hwf
   exact⟨m,hwf,Zw (.int _ m) rfl⟩
  ·simp[ht] at h
theorem RA.string{t:TypeId}(ht:P.underlying t=some .string)(hs:P.cellsOf t=1):RA P t (List UInt8) (fun l=>[.str l]) (fun l=>l.length≤reachBytes):=by
 refine⟨fun _=>hs.symm,fun {H enc w fuel cs d ps} h hw=>?_⟩
 cases fuel with
 |zero=>cases h
 |succ fuel=>
  unfold DataW.trod at h
  simp only[ht] at h
  split at h<;>try (simp at *;done)
  rename_i s _
  split at h<;>try (cases h;done)
  simp only[Option.some.injEq,Prod.mk.injEq] at h
  obtain⟨rfl,_⟩:=h
  refine⟨s.data.toList,?_,Zw ?_ rfl⟩
  ·exact hw _ (by simp[DataW.weights])
  ·exact .str s.data.toList
theorem X0{α γ:Type}{f:α→Option γ}:∀ {l:List α} {r:List γ},l.mapM f=some r→r.length=l.length∧∀ (i:Nat) (a:α) (b:γ),l[i]?=some a→r[i]?=some b→f a=some b
 |[],r,h=>by simp at h;subst h;simp
 |a::l,r,h=>by
  rw[List.mapM_cons] at h
  cases hf:f a with
  |none=>rw[hf] at h;cases h
  |some b=>
   cases hr:l.mapM f with
   |none=>rw[hf,hr] at h;cases h
   |some r'=>
    rw[hf,hr] at h
    simp at h
    subst h
    obtain⟨h1,h2⟩:=X0 hr
    refine⟨by simp[h1],fun i x y hx hy=>?_⟩
    cases i with
    |zero=>simp at hx hy;subst hx;subst hy;exact hf
    |succ i=>exact h2 i x y (by simpa using hx) (by simpa using hy)
theorem cells?_get {w:World} {a:Addr} {n:Nat} {cs:List Value} (h:w.cells? 0 a n=some cs):cs.length=n∧∀j v,cs[j]?=some v→w.cell? (a.add j)=some v:=by
 unfold World.cells? at h
 rw[if_pos (Nat.zero_le _)] at h
 obtain⟨h1,h2⟩:=X0 h
 refine⟨by simpa using h1,fun j v hj=>?_⟩
 have hlt:j<n:=by
  rcases Nat.lt_or_ge j n with h|h
  ·exact h
  ·rw[List.getElem?_eq_none (by rw[h1];simpa using h)] at hj;cases hj
 exact h2 j j v (List.getElem?_range hlt) hj
theorem Qu{H:Type}{P:Program}{e:TypeId}:∀ {l:List (DataW H)} {d:DataW H},d∈l→∀n∈d.weights P e,n∈DataW.weightsAll P e l
 |x::l,d,hd,n,hn=>by
  simp only[DataW.weightsAll,List.mem_append]
  rcases List.mem_cons.1 hd with rfl|h
  ·exact .inl hn
  ·exact .inr (Qu h n hn)
theorem Ws{α:Type}(p:Nat→α→Prop):∀ (n:Nat),(∀i,i<n→∃x,p i x)→∃l:List α,l.length=n∧∀i x,l[i]?=some x→p i x
 |0,_=>⟨[],rfl,fun i x h=>by simp at h⟩
 |n+1,h=>by
  obtain⟨l,h1,h2⟩:=Ws p n (fun i hi=>h i (by omega))
  obtain⟨x,hx⟩:=h n (by omega)
  refine⟨l++[x],by simp[h1],fun i y hy=>?_⟩
  rw[List.getElem?_append] at hy
  split at hy
  ·exact h2 i y hy
  ·rename_i hge
   rw[h1] at hge hy
   cases hi:i-n with
   |zero=>rw[hi] at hy;simp at hy;subst hy;have:i=n:=by omega
          subst this;exact hx
   |succ k=>rw[hi] at hy;simp at hy
theorem RA.slice{t c:TypeId}{α:Type}{e:α→List AVal}{ok:α→Prop}(ht:P.underlying t=some (.slice c))(hs:P.cellsOf t=1)(hc:0<P.cellsOf c)(h:RA P c α e ok) :
 RA P t (List α) (fun l=>[.isl (P.cellsOf c) (l.map e) false]) (fun l=>l.length≤maxLen∧l.length*P.bytesOf c≤reachBytes∧∀x∈l,ok x):=by
 refine⟨fun _=>hs.symm,fun {H enc w fuel cs d ps} hd hw=>?_⟩
 cases fuel with
 |zero=>cases hd
 |succ fuel=>
  unfold DataW.trod at hd
  rcases cs with _|⟨v,_|⟨v2,r⟩⟩
  ·simp[ht] at hd
  ·cases v<;>simp only[ht] at hd<;>try (cases hd;done)
   rename_i ad len cap
   cases ad with
   |none=>
    rcases len with _|len<;>rcases cap with _|cap<;>simp only at hd<;>try (cases hd;done)
    exact⟨[],⟨Nat.zero_le _,by simp,by simp⟩,Zw (.islNil _ _) rfl⟩
   |some ad=>
    simp only at hd
    split at hd<;>try (cases hd;done)
    rename_i hcond
    obtain⟨_,hlc,hcm⟩:=hcond
    cases hel:(List.range len).mapM (fun i=>(w.cells? 0 (ad.add (i*P.cellsOf c)) (P.cellsOf c)).bind (DataW.trod enc P w 0 (fun _=>true) true fuel c)) with
    |none=>rw[hel] at hd;cases hd
    |some elems=>
     rw[hel] at hd
     simp only[Option.bind_some,if_true,Option.map_eq_some_iff,Prod.mk.injEq] at hd
     obtain⟨rest,hrest,hd1,_⟩:=hd
     obtain⟨k1,k2⟩:=X0 hel
     obtain⟨k3,_⟩:=X0 hrest
     subst hd1
     have hw1:(elems.length+rest.length)*P.bytesOf c≤reachBytes:=by
      have:=hw ((elems.length+rest.length)*P.bytesOf c) (by simp[DataW.weights,ht])
      exact this
     have hle:len*P.bytesOf c≤reachBytes:=by
      have:len*P.bytesOf c≤(elems.length+rest.length)*P.bytesOf c:=Nat.mul_le_mul_right _ (by rw[k1];simp)
      omega
     -- every element reads
     have each:∀i,i<len→∃x,ok x∧∃cs',w.cells? 0 (ad.add (i*P.cellsOf c)) (P.cellsOf c)=some cs'∧z1s (old w) w (e x) cs':=by
      intro i hi
      have hli:i<elems.length:=by rw[k1];simpa using hi
      have hget:=k2 i i elems[i] (List.getElem?_range hi) (List.getElem?_eq_getElem hli)
      cases hcs:w.cells? 0 (ad.add (i*P.cellsOf c)) (P.cellsOf c) with
      |none=>rw[hcs] at hget;cases hget
      |some cs'=>
       rw[hcs] at hget
       simp only[Option.bind_some] at hget
       obtain⟨x,hx1,hx2⟩:=h.reads (d:=elems[i].1) (ps:=elems[i].2) hget (fun m hm=>hw m (by
        simp only[DataW.weights,ht,List.mem_cons,List.mem_append]
        exact .inr (.inl (Qu (List.mem_map_of_mem (List.getElem_mem hli)) m hm))))
       exact⟨x,hx1,cs',rfl,hx2⟩
     obtain⟨l,hl1,hl2⟩:=Ws (fun i x=>ok x∧∃cs',w.cells? 0 (ad.add (i*P.cellsOf c)) (P.cellsOf c)=some cs'∧z1s (old w) w (e x) cs') len each
     subst hl1
     refine⟨l,⟨by omega,hle,fun x hx=>?_⟩,Zw ?_ rfl⟩
     ·obtain⟨i,hi⟩:=List.getElem?_of_mem hx
      exact(hl2 i x hi).1
     ·by_cases h0:l=[]
      ·subst h0
       exact .islEmpty _ _ _ _ (fun h=>by cases h)
      ·have hpos:0<l.length:=List.length_pos_iff.2 h0
       -- the block
       obtain⟨_,cs0,hcs0,hcell0⟩:=hl2 0 l[0] (List.getElem?_eq_getElem hpos)
       obtain⟨hn0,hg0⟩:=cells?_get hcs0
       have hc0:=hg0 0 cs0[0] (List.getElem?_eq_getElem (by omega))
       have hsp:=World.cell?_spot hc0
       obtain⟨b,o,sp⟩:=ad
       have hsp:sp=none:=by simpa[Addr.add] using hsp
       subst hsp
       have hb:b<w.heap.size:=by
        have:=World.block_lt_of_cell? _ _ hc0
        rwa [j5,j5] at this
       let vf:Nat→Nat→Value:=fun i j=>((w.cells? 0 ((⟨b,o,none⟩:Addr).add (i*P.cellsOf c)) (P.cellsOf c)).getD []).getD j default
       have key:∀i r j x,(l.map e)[i]?=some r→r[j]?=some x→w.cell? ⟨b,o+i*P.cellsOf c+j,none⟩=some (vf i j)∧xp (vf i j)=true∧RepI (old w) w x (vf i j):=by
        intro i r j x hr hx
        rw[List.getElem?_map] at hr
        cases hli:l[i]? with
        |none=>rw[hli] at hr;cases hr
        |some y=>
         rw[hli] at hr
         simp only[Option.map_some,Option.some.injEq] at hr
         subst hr
         obtain⟨_,cs',hcs',hl3,hl4,hl5⟩:=hl2 i y hli
         obtain⟨hn,hg⟩:=cells?_get hcs'
         have hj:j<cs'.length:=by
          rw[hl3]
          rcases Nat.lt_or_ge j (e y).length with h|h
          ·exact h
          ·rw[List.getElem?_eq_none h] at hx;cases hx
         have hv:vf i j=cs'[j]:=by simp only[vf,hcs',Option.getD_some,List.getD_eq_getElem?_getD,List.getElem?_eq_getElem hj]
         have:=hg j cs'[j] (List.getElem?_eq_getElem hj)
         rw[j5,j5] at this
         rw[hv]
         exact⟨this,hl4 _ (List.getElem_mem hj),hl5 j x _ hx (List.getElem?_eq_getElem hj)⟩
       have:=RepI.isl (I:=old w) (w:=w) (P.cellsOf c) (l.map e) false b o cap vf (fun i r j x h1 h2=>⟨_,(key i r j x h1 h2).1⟩) (by simpa using hlc) (fun h=>by cases h)
        (fun i r hr=>by
         rw[List.getElem?_map] at hr
         cases hli:l[i]? with
         |none=>rw[hli] at hr;cases hr
         |some y=>rw[hli] at hr;simp at hr;rw[←hr];exact h.size y)
        (fun i r j x h1 h2=>(key i r j x h1 h2).1) (fun i r j x h1 h2=>(key i r j x h1 h2).2.1) (fun i r j x h1 h2=>(key i r j x h1 h2).2.2)
       simpa using this
  ·simp[ht] at hd
structure RF(P:Program)(fs:List Field)(off tot:Nat)(α:Type)(e:α→List AVal)(ok:α→Prop):Prop where
 size:∀x,(e x).length=tot
 reads:∀ {H:Type} {enc:TypeId×Value→H} {w:World} {fuel:Nat} {cs:List Value} {xs:List (DataW H×List MemPlace)},fs.mapM (fun f=>DataW.trod enc P w 0 (fun _=>true) true fuel f.type ((cs.drop f.offset).take (P.cellsOf f.type)))=some xs →
  (∀n∈DataW.weightsEach P (fs.map (·.type)) (xs.map (·.1)),n≤reachBytes)→∃x,ok x∧z1s (old w) w (e x) ((cs.drop off).take tot)
theorem RF.nil(off:Nat):RF P [] off 0 Unit (fun _=>[]) (fun _=>True):=
 ⟨fun _=>rfl,fun _ _=>⟨(),trivial,by simp[z1s]⟩⟩
theorem RF.cons{f:Field}{fs:List Field}{off tot m:Nat}{α γ:Type}{e:α→List AVal}{ok:α→Prop}{e':γ→List AVal}{ok':γ→Prop}(ho:f.offset=off)(hm:P.cellsOf f.type=m)(h:RA P f.type α e ok)(h':RF P fs (off+m) tot γ e' ok') :
 RF P (f::fs) off (m+tot) (α×γ) (fun x=>e x.1++e' x.2) (fun x=>ok x.1∧ok' x.2):=by
 refine⟨fun x=>by rw[List.length_append,h.size,h'.size,hm],fun {H enc w fuel cs xs} hd hw=>?_⟩
 rw[List.mapM_cons] at hd
 cases h1:DataW.trod enc P w 0 (fun _=>true) true fuel f.type ((cs.drop f.offset).take (P.cellsOf f.type)) with
 |none=>rw[h1] at hd;cases hd
 |some y=>
  rw[h1] at hd
  cases h2:fs.mapM (fun f=>DataW.trod enc P w 0 (fun _=>true) true fuel f.type ((cs.drop f.offset).take (P.cellsOf f.type))) with
  |none=>rw[h2] at hd;cases hd
  |some ys=>
   rw[h2] at hd
   simp at hd
   subst hd
   simp only[List.map_cons,DataW.weightsEach,List.mem_append] at hw
   obtain⟨x,hx1,hx2,hx3,hx4⟩:=h.reads (d:=y.1) (ps:=y.2) h1 (fun n hn=>hw n (.inl hn))
   obtain⟨z,hz1,hz2,hz3,hz4⟩:=h'.reads h2 (fun n hn=>hw n (.inr hn))
   refine⟨(x,z),⟨hx1,hz1⟩,?_⟩
   subst ho
   have e1:(cs.drop f.offset).take (m+tot)=(cs.drop f.offset).take m++(cs.drop (f.offset+m)).take tot:=by
    rw[List.take_add,List.drop_drop]
   rw[e1]
   rw[hm] at hx2 hx3 hx4
   refine⟨by simp only[List.length_append,hx2,hz2],fun v hv=>?_,fun i a v ha hv=>?_⟩
   ·rcases List.mem_append.1 hv with h|h
    ·exact hx3 v h
    ·exact hz3 v h
   ·rw[List.getElem?_append] at ha hv
    rw[hx2] at hv
    split at ha
    ·rename_i hlt
     rw[if_pos hlt] at hv
     exact hx4 i a v ha hv
    ·rename_i hlt
     rw[if_neg hlt] at hv
     exact hz4 _ a v ha hv
theorem RA.struct{t:TypeId}{fs:Array Field}{α:Type}{e:α→List AVal}{ok:α→Prop}(ht:P.underlying t=some (.struct fs))(h:RF P fs.toList 0 (P.cellsOf t) α e ok):RA P t α e ok:=by
 refine⟨h.size,fun {H enc w fuel cs d ps} hd hw=>?_⟩
 cases fuel with
 |zero=>cases hd
 |succ fuel=>
  unfold DataW.trod at hd
  have hd:(if cs.length=P.cellsOf t then(fs.toList.mapM fun f=>DataW.trod enc P w 0 (fun _=>true) true fuel f.type ((cs.drop f.offset).take (P.cellsOf f.type))).map (fun xs=>(DataW.agg (xs.map (·.1)),xs.flatMap (·.2))) else none)=some (d,ps):=by
   rw[ht] at hd
   rcases cs with _|⟨v,_|⟨v2,r⟩⟩<;>simpa using hd
  split at hd<;>try (cases hd;done)
  rename_i hlen
  simp only[Option.map_eq_some_iff,Prod.mk.injEq] at hd
  obtain⟨xs,hxs,rfl,_⟩:=hd
  obtain⟨x,hx1,hx2⟩:=h.reads hxs (fun n hn=>hw n (by simp only[DataW.weights,ht];exact hn))
  refine⟨x,hx1,?_⟩
  rw[List.drop_zero,←hlen,List.take_length] at hx2
  exact hx2
theorem RA.structN{t:TypeId}{fs:Array Field}{m:Nat}{α:Type}{e:α→List AVal}{ok:α→Prop}(ht:P.underlying t=some (.struct fs))(hm:P.cellsOf t=m)(h:RF P fs.toList 0 m α e ok):RA P t α e ok:=by
 subst hm
 exact RA.struct ht h
theorem RA.arg{t:TypeId}{α:Type}{e:α→List AVal}{ok:α→Prop}(h:RA P t α e ok){H:Type}{enc:TypeId×Value→H}{w:World}{v:Value}{d:DataW H}{ps:List MemPlace}(hv:xp v=true)
 (hd:DataW.Trod enc P w 0 (fun _=>true) true t v d ps) (hw:∀n∈d.weights P t,n≤reachBytes):∃x a,ok x∧e x=[a]∧RepI (old w) w a v:=by
 obtain⟨fuel,hd⟩:=hd
 obtain⟨x,h1,h2,h3,h4⟩:=h.reads hd hw
 rw[Ve hv] at h2 h4
 have:(e x).length=1:=by rw[←h2];rfl
 obtain⟨a,ha⟩:=List.length_eq_one_iff.1 this
 exact⟨x,a,h1,ha,h4 0 a v (by rw[ha];rfl) rfl⟩
end Go.Fx
