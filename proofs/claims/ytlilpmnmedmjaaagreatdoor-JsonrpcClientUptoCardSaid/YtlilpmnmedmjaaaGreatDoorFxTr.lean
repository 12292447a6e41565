/-
  Own framework.
-/
import Derived.Test.YtlilpmnmedmjaaaGreatDoorFxT
namespace Go.Fx
set_option linter.unusedVariables false
mutual
def sz{H:Type}:DataW H→Nat
 |.lit (.string bytes)=>bytes.length+1
 |.lit _=>1
 |.nil=>1
 |.ptr d=>sz d+1
 |.slice es sp=>szL es+szL sp+1
 |.agg ds=>szL ds+1
 |.iface _ d=>sz d+1
 |.map _=>1
 |.held _=>1
def szL{H:Type}:List (DataW H)→Nat
 |[]=>0
 |d::r=>sz d+szL r
end
theorem zsq{H:Type}:∀ (l:List (DataW H×List MemPlace)),szL (l.map (·.1))=(l.map fun z=>sz z.1).sum
 |[]=>rfl
 |x::l=>by simp only[List.map_cons,szL,List.sum_cons,zsq l]
structure RB(P:Program)(F:Nat)(t:TypeId)(α:Type)(e:α→List AVal)(ok:α→Nat→Prop):Prop where
 size:∀x,(e x).length=P.cellsOf t
 reads:∀ {H:Type} {enc:TypeId×Value→H} {w:World} {fuel:Nat} {cs:List Value} {d:DataW H} {ps:List MemPlace},fuel≤F→DataW.trod enc P w 0 (fun _=>true) true fuel t cs=some (d,ps)→(∀n∈d.weights P t,n≤reachBytes)→∃x,ok x (sz d)∧z1s (old w) w (e x) cs
variable {P:Program}
theorem RB.of{F:Nat}{t:TypeId}{α:Type}{e:α→List AVal}{ok:α→Prop}(h:RA P t α e ok):RB P F t α e (fun x _=>ok x):=
 ⟨h.size,fun _ hd hw=>h.reads hd hw⟩
theorem RB.string{F:Nat}{t:TypeId}(ht:P.underlying t=some .string)(hs:P.cellsOf t=1):RB P F t (List UInt8) (fun l=>[.str l]) (fun l k=>l.length+1≤k):=by
 refine⟨fun _=>hs.symm,fun {H enc w fuel cs d ps} _ h hw=>?_⟩
 cases fuel with
 |zero=>cases h
 |succ fuel=>
  unfold DataW.trod at h
  simp only[ht] at h
  split at h<;>try (simp at *;done)
  rename_i s _
  split at h<;>try (cases h;done)
  simp only[Option.some.injEq,Prod.mk.injEq] at h
  obtain⟨rfl,_⟩:=h
  refine⟨s.data.toList,?_,Zw ?_ rfl⟩
  ·simp[sz]
  ·exact .str s.data.toList
theorem RB.map{F:Nat}{t:TypeId}{α γ:Type}{e:α→List AVal}{ok:α→Nat→Prop}(h:RB P F t α e ok)(g:α→γ){e':γ→List AVal}{ok':γ→Nat→Prop}(hs:∀x,(e' x).length=P.cellsOf t)(hg:∀x k,ok x k→ok' (g x) k∧e' (g x)=e x):RB P F t γ e' ok':=
 ⟨hs,fun hF hd hw=>by
  obtain⟨x,h1,h2⟩:=h.reads hF hd hw
  obtain⟨h3,h4⟩:=hg x _ h1
  exact⟨g x,h3,by rw[h4];exact h2⟩⟩
theorem RB.zero{t:TypeId}{α:Type}{e:α→List AVal}{ok:α→Nat→Prop}(hs:∀x,(e x).length=P.cellsOf t):RB P 0 t α e ok:=
 ⟨hs,fun hF hd _=>by
  obtain rfl:=Nat.le_zero.1 hF
  cases hd⟩
def OkL{α:Type}(b:Nat)(ok:α→Nat→Prop)(l:List α)(k:Nat):Prop:=
 l.length≤maxLen∧l.length*b≤reachBytes∧∃ks:List Nat,ks.length=l.length∧(∀ (i:Nat) (x:α) (m:Nat),l[i]?=some x→ks[i]?=some m→ok x m)∧ks.sum≤k
theorem RB.slice{F:Nat}{t c:TypeId}{α:Type}{e:α→List AVal}{ok:α→Nat→Prop}(ht:P.underlying t=some (.slice c))(hs:P.cellsOf t=1)(hc:0<P.cellsOf c)(h:RB P F c α e ok) :
 RB P (F+1) t (List α) (fun l=>[.isl (P.cellsOf c) (l.map e) false]) (OkL (P.bytesOf c) ok):=by
 refine⟨fun _=>hs.symm,fun {H enc w fuel cs d ps} hF hd hw=>?_⟩
 cases fuel with
 |zero=>cases hd
 |succ fuel=>
  unfold DataW.trod at hd
  rcases cs with _|⟨v,_|⟨v2,r⟩⟩
  ·simp[ht] at hd
  ·cases v<;>simp only[ht] at hd<;>try (cases hd;done)
   rename_i ad len cap
   cases ad with
   |none=>
    rcases len with _|len<;>rcases cap with _|cap<;>simp only at hd<;>try (cases hd;done)
    exact⟨[],⟨Nat.zero_le _,by simp,[],rfl,by simp,Nat.zero_le _⟩,Zw (.islNil _ _) rfl⟩
   |some ad=>
    simp only at hd
    split at hd<;>try (cases hd;done)
    rename_i hcond
    obtain⟨_,hlc,hcm⟩:=hcond
    cases hel:(List.range len).mapM (fun i=>(w.cells? 0 (ad.add (i*P.cellsOf c)) (P.cellsOf c)).bind (DataW.trod enc P w 0 (fun _=>true) true fuel c)) with
    |none=>rw[hel] at hd;cases hd
    |some elems=>
     rw[hel] at hd
     simp only[Option.bind_some,if_true,Option.map_eq_some_iff,Prod.mk.injEq] at hd
     obtain⟨rest,hrest,hd1,_⟩:=hd
     obtain⟨k1,k2⟩:=X0 hel
     obtain⟨k3,_⟩:=X0 hrest
     subst hd1
     have hw1:(elems.length+rest.length)*P.bytesOf c≤reachBytes:=by
      have:=hw ((elems.length+rest.length)*P.bytesOf c) (by simp[DataW.weights,ht])
      exact this
     have hle:len*P.bytesOf c≤reachBytes:=by
      have:len*P.bytesOf c≤(elems.length+rest.length)*P.bytesOf c:=Nat.mul_le_mul_right _ (by rw[k1];simp)
      omega
     -- every element reads
     have each:∀i,i<len→∃x,ok x ((elems.map fun z=>sz z.1).getD i 0)∧∃cs',w.cells? 0 (ad.add (i*P.cellsOf c)) (P.cellsOf c)=some cs'∧z1s (old w) w (e x) cs':=by
      intro i hi
      have hli:i<elems.length:=by rw[k1];simpa using hi
      have hget:=k2 i i elems[i] (List.getElem?_range hi) (List.getElem?_eq_getElem hli)
      cases hcs:w.cells? 0 (ad.add (i*P.cellsOf c)) (P.cellsOf c) with
      |none=>rw[hcs] at hget;cases hget
      |some cs'=>
       rw[hcs] at hget
       simp only[Option.bind_some] at hget
       obtain⟨x,hx1,hx2⟩:=h.reads (d:=elems[i].1) (ps:=elems[i].2) (by omega) hget (fun m hm=>hw m (by
        simp only[DataW.weights,ht,List.mem_cons,List.mem_append]
        exact .inr (.inl (Qu (List.mem_map_of_mem (List.getElem_mem hli)) m hm))))
       refine⟨x,?_,cs',rfl,hx2⟩
       rw[List.getD_eq_getElem?_getD,List.getElem?_map,List.getElem?_eq_getElem hli];exact hx1
     obtain⟨l,hl1,hl2⟩:=Ws (fun i x=>ok x ((elems.map fun z=>sz z.1).getD i 0)∧∃cs',w.cells? 0 (ad.add (i*P.cellsOf c)) (P.cellsOf c)=some cs'∧z1s (old w) w (e x) cs') len each
     subst hl1
     have hel':elems.length=l.length:=by simpa using k1
     refine⟨l,⟨by omega,hle,elems.map fun z=>sz z.1,by simp[hel'],fun i x k hx hk=>?_,?_⟩,Zw ?_ rfl⟩
     ·have:=(hl2 i x hx).1
      rwa [List.getD_eq_getElem?_getD,hk] at this
     ·rw[←zsq]
      simp only[sz]
      omega
     ·by_cases h0:l=[]
      ·subst h0
       exact .islEmpty _ _ _ _ (fun h=>by cases h)
      ·have hpos:0<l.length:=List.length_pos_iff.2 h0
       -- the block
       obtain⟨_,cs0,hcs0,hcell0⟩:=hl2 0 l[0] (List.getElem?_eq_getElem hpos)
       obtain⟨hn0,hg0⟩:=cells?_get hcs0
       have hc0:=hg0 0 cs0[0] (List.getElem?_eq_getElem (by omega))
       have hsp:=World.cell?_spot hc0
       obtain⟨b,o,sp⟩:=ad
       have hsp:sp=none:=by simpa[Addr.add] using hsp
       subst hsp
       have hb:b<w.heap.size:=by
        have:=World.block_lt_of_cell? _ _ hc0
        rwa [j5,j5] at this
       let vf:Nat→Nat→Value:=fun i j=>((w.cells? 0 ((⟨b,o,none⟩:Addr).add (i*P.cellsOf c)) (P.cellsOf c)).getD []).getD j default
       have key:∀i r j x,(l.map e)[i]?=some r→r[j]?=some x→w.cell? ⟨b,o+i*P.cellsOf c+j,none⟩=some (vf i j)∧xp (vf i j)=true∧RepI (old w) w x (vf i j):=by
        intro i r j x hr hx
        rw[List.getElem?_map] at hr
        cases hli:l[i]? with
        |none=>rw[hli] at hr;cases hr
        |some y=>
         rw[hli] at hr
         simp only[Option.map_some,Option.some.injEq] at hr
         subst hr
         obtain⟨_,cs',hcs',hl3,hl4,hl5⟩:=hl2 i y hli
         obtain⟨hn,hg⟩:=cells?_get hcs'
         have hj:j<cs'.length:=by
          rw[hl3]
          rcases Nat.lt_or_ge j (e y).length with h|h
          ·exact h
          ·rw[List.getElem?_eq_none h] at hx;cases hx
         have hv:vf i j=cs'[j]:=by simp only[vf,hcs',Option.getD_some,List.getD_eq_getElem?_getD,List.getElem?_eq_getElem hj]
         have:=hg j cs'[j] (List.getElem?_eq_getElem hj)
         rw[j5,j5] at this
         rw[hv]
         exact⟨this,hl4 _ (List.getElem_mem hj),hl5 j x _ hx (List.getElem?_eq_getElem hj)⟩
       have:=RepI.isl (I:=old w) (w:=w) (P.cellsOf c) (l.map e) false b o cap vf (fun i r j x h1 h2=>⟨_,(key i r j x h1 h2).1⟩) (by simpa using hlc) (fun h=>by cases h)
        (fun i r hr=>by
         rw[List.getElem?_map] at hr
         cases hli:l[i]? with
         |none=>rw[hli] at hr;cases hr
         |some y=>rw[hli] at hr;simp at hr;rw[←hr];exact h.size y)
        (fun i r j x h1 h2=>(key i r j x h1 h2).1) (fun i r j x h1 h2=>(key i r j x h1 h2).2.1) (fun i r j x h1 h2=>(key i r j x h1 h2).2.2)
       simpa using this
  ·simp[ht] at hd
structure RG(P:Program)(F:Nat)(fs:List Field)(off tot:Nat)(α:Type)(e:α→List AVal)(ok:α→Nat→Prop):Prop where
 size:∀x,(e x).length=tot
 reads:∀ {H:Type} {enc:TypeId×Value→H} {w:World} {fuel:Nat} {cs:List Value} {xs:List (DataW H×List MemPlace)},fuel≤F→fs.mapM (fun f=>DataW.trod enc P w 0 (fun _=>true) true fuel f.type ((cs.drop f.offset).take (P.cellsOf f.type)))=some xs →
  (∀n∈DataW.weightsEach P (fs.map (·.type)) (xs.map (·.1)),n≤reachBytes)→∃x,ok x (szL (xs.map (·.1)))∧z1s (old w) w (e x) ((cs.drop off).take tot)
theorem RG.nil{F:Nat}(off:Nat):RG P F [] off 0 Unit (fun _=>[]) (fun _ _=>True):=
 ⟨fun _=>rfl,fun _ _ _=>⟨(),trivial,by simp[z1s]⟩⟩
theorem RG.cons{F:Nat}{f:Field}{fs:List Field}{off tot m:Nat}{α γ:Type}{e:α→List AVal}{ok:α→Nat→Prop}{e':γ→List AVal}{ok':γ→Nat→Prop}(ho:f.offset=off)(hm:P.cellsOf f.type=m)(h:RB P F f.type α e ok)(h':RG P F fs (off+m) tot γ e' ok') :
 RG P F (f::fs) off (m+tot) (α×γ) (fun x=>e x.1++e' x.2) (fun x k=>∃k1 k2,ok x.1 k1∧ok' x.2 k2∧k1+k2≤k):=by
 refine⟨fun x=>by rw[List.length_append,h.size,h'.size,hm],fun {H enc w fuel cs xs} hF hd hw=>?_⟩
 rw[List.mapM_cons] at hd
 cases h1:DataW.trod enc P w 0 (fun _=>true) true fuel f.type ((cs.drop f.offset).take (P.cellsOf f.type)) with
 |none=>rw[h1] at hd;cases hd
 |some y=>
  rw[h1] at hd
  cases h2:fs.mapM (fun f=>DataW.trod enc P w 0 (fun _=>true) true fuel f.type ((cs.drop f.offset).take (P.cellsOf f.type))) with
  |none=>rw[h2] at hd;cases hd
  |some ys=>
   rw[h2] at hd
   simp at hd
   subst hd
   simp only[List.map_cons,DataW.weightsEach,List.mem_append] at hw
   obtain⟨x,hx1,hx2,hx3,hx4⟩:=h.reads (d:=y.1) (ps:=y.2) hF h1 (fun n hn=>hw n (.inl hn))
   obtain⟨z,hz1,hz2,hz3,hz4⟩:=h'.reads hF h2 (fun n hn=>hw n (.inr hn))
   refine⟨(x,z),⟨_,_,hx1,hz1,by simp only[List.map_cons,szL];exact Nat.le_refl _⟩,?_⟩
   subst ho
   have e1:(cs.drop f.offset).take (m+tot)=(cs.drop f.offset).take m++(cs.drop (f.offset+m)).take tot:=by
    rw[List.take_add,List.drop_drop]
   rw[e1]
   rw[hm] at hx2 hx3 hx4
   refine⟨by simp only[List.length_append,hx2,hz2],fun v hv=>?_,fun i a v ha hv=>?_⟩
   ·rcases List.mem_append.1 hv with h|h
    ·exact hx3 v h
    ·exact hz3 v h
   ·rw[List.getElem?_append] at ha hv
    rw[hx2] at hv
    split at ha
    ·rename_i hlt
     rw[if_pos hlt] at hv
     exact hx4 i a v ha hv
    ·rename_i hlt
     rw[if_neg hlt] at hv
     exact hz4 _ a v ha hv
theorem RB.struct{F:Nat}{t:TypeId}{fs:Array Field}{α:Type}{e:α→List AVal}{ok:α→Nat→Prop}(ht:P.underlying t=some (.struct fs))(h:RG P F fs.toList 0 (P.cellsOf t) α e ok):RB P (F+1) t α e (fun x k=>∃k0,ok x k0∧k0+1≤k):=by
 refine⟨h.size,fun {H enc w fuel cs d ps} hF hd hw=>?_⟩
 cases fuel with
 |zero=>cases hd
 |succ fuel=>
  unfold DataW.trod at hd
  have hd:(if cs.length=P.cellsOf t then(fs.toList.mapM fun f=>DataW.trod enc P w 0 (fun _=>true) true fuel f.type ((cs.drop f.offset).take (P.cellsOf f.type))).map (fun xs=>(DataW.agg (xs.map (·.1)),xs.flatMap (·.2))) else none)=some (d,ps):=by
   rw[ht] at hd
   rcases cs with _|⟨v,_|⟨v2,r⟩⟩<;>simpa using hd
  split at hd<;>try (cases hd;done)
  rename_i hlen
  simp only[Option.map_eq_some_iff,Prod.mk.injEq] at hd
  obtain⟨xs,hxs,rfl,_⟩:=hd
  obtain⟨x,hx1,hx2⟩:=h.reads (by omega) hxs (fun n hn=>hw n (by simp only[DataW.weights,ht];exact hn))
  refine⟨x,⟨_,hx1,by simp only[sz];omega⟩,?_⟩
  rw[List.drop_zero,←hlen,List.take_length] at hx2
  exact hx2
theorem RB.structN{F:Nat}{t:TypeId}{fs:Array Field}{m:Nat}{α:Type}{e:α→List AVal}{ok:α→Nat→Prop}(ht:P.underlying t=some (.struct fs))(hm:P.cellsOf t=m)(h:RG P F fs.toList 0 m α e ok):RB P (F+1) t α e (fun x k=>∃k0,ok x k0∧k0+1≤k):=by
 subst hm
 exact RB.struct ht h
theorem z5n{α:Type}{f:α→Nat}:∀ {l:List α} {ks:List Nat},ks.length=l.length→(∀ (i:Nat) (x:α) (m:Nat),l[i]?=some x→ks[i]?=some m→f x≤m)→(l.map f).sum≤ks.sum
 |[],_,_,_=>Nat.zero_le _
 |x::l,[],h,_=>by cases h
 |x::l,k::ks,h,h1=>by
  have h2:=h1 0 x k rfl rfl
  have h3:=z5n (f:=f) (l:=l) (ks:=ks) (by simpa using h) (fun i y m hy hm=>h1 (i+1) y m (by simpa using hy) (by simpa using hm))
  simp only[List.map_cons,List.sum_cons]
  omega
end Go.Fx
