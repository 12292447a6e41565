/-
  Own framework.
-/
import Derived.Test.YtlilpmnmedmjaaaGreatDoorFxMr
import Derived.Shelf.SlIterI.Sorted
import Derived.Lib.SlKeysI
import Derived.Maps.Keyed
import Derived.WideShapes
import Derived.WideKeyElems
namespace Go.Fx
open Go.Shelf Go.RowKit Go.Sort Go.Proofs Go.Maps
open Go.WideShapes (sorted_perm)
open Go.WideElems (Fit rd rg)
set_option linter.unusedVariables false
def wfZ(k:Int):Bool:=(Lit.int .i64 k).wf
def Ja{α:Type}(M:List (Int×α)):List Int:=(M.map (·.1)).mergeSort (fun x y=>decide (x≤y))
section
variable {P:Program} {I:Nat→Nat→Prop} {β:Id→Option CLoc} {n:Nat} {H:AHeap} {w w':World}
theorem z2d{ρ:Ren}(L:SlLaysZI.n7 P ρ){f g:FuncId}(hf:ρ.f 7=f)(hg:ρ.f 10=g)(hok:uk P f){es:List (AVal×AVal)} :
 ACalls P f [.map (0,0)] [((0,0),.amap es)] 3 (kg 4 (.fn (.func g) [] [.ptr (3,0) 0 0]) [((3,0),.mbox (0,0)),((0,0),.amap es)]):=by
 subst hf hg
 refine⟨hok,fun I β w vs hI hlen hr=>?_⟩
 match vs,hlen with
 |[v0],_=>
 obtain⟨c,hc,h1,h2,arr,ck,h3,h4⟩:=hI.blocks (0,0) _ rfl
 obtain⟨r,rfl,hr0⟩:∃r,v0=.map (some r)∧∀c,β (0,0)=some c→r=c.blk:=by
  have hs0:=hr 0 _ _ rfl rfl
  cases hs0 with
  |imm _ _ h=>cases h
  |map _ r _ g=>exact⟨r,rfl,g⟩
 have hrc:=hr0 c hc
 subst hrc
 show Calls P (ρ.f 7) #[.map (some c.blk)] w _
 refine(callsIn_wide.1 (AnyZI.keys_in L Fence.wide 5 trivial rfl (some c.blk) w)).mono ?_
 rintro e w' ⟨rfl,rfl⟩
 have hnew:(w.alloc (.cells #[.map (some c.blk)] (ρ.t 23))).cell? ⟨w.heap.size,0,none⟩=some (.map (some c.blk)):=by
  have hp:Pushed w (w.alloc (.cells #[.map (some c.blk)] (ρ.t 23))) (.cells #[.map (some c.blk)] (ρ.t 23)):=⟨rfl,⟨rfl,fun _=>Nat.le_refl _⟩,rfl,rfl⟩
  rw[hp.cell];rfl
 obtain⟨k1,k2⟩:=Kq hI (o:=.cells #[.map (some c.blk)] (ρ.t 23)) (blk:=.mbox (0,0)) ⟨rfl,Nat.one_pos,rfl,c.blk,hnew,Nat.lt_of_lt_of_le (by decide:0<3) (Nat.le_succ 3),c.blk,rfl,fun d hd=>by
  rw[zz _ _ (by decide),hc] at hd;simp only[Option.some.injEq] at hd;rw[hd]⟩
 refine⟨_,_,_,_,I,_,rfl,⟨rfl,rfl,rfl⟩,k1,.fn _ _ _ _ _ rfl rfl (fun i x v h=>by simp at h) (fun i x v h h'=>?_),k2⟩
 match i with
 |0=>
  simp only[List.getElem?_cons_zero,Option.some.injEq] at h
  simp at h'
  subst h;subst h'
  refine .ptr _ _ _ _ (by decide) (fun d hd=>?_)
  rw[xz] at hd;simp only[Option.some.injEq] at hd;subst hd;rfl
 |i+1=>simp at h
theorem zyr{P:Program}{k:TypeId}(hk:P.underlying k=some (.int .i64)){x:MapEntry}{s:Int}(hx:x.key=.int .i64 s)(hs:(Lit.int .i64 s).wf=true) :
 rd (H:=Unit) P k (fun _=>some (.nil,[])) x=some (.int .i64 s,.nil):=by
 unfold rd
 rw[hx,keyOf_int_mk hk hs]
 rfl
theorem Vs(hkd:Vl=false){ρ ρk:Ren}(Ls:SlLaysZI.n6 P ρ)(Lk:SlLaysZI.n10 P ρk)(hsort:∀m,AnyZI.SortsIn P ρ Fence.wide m)
 (e9:∀args w,(callFunc (ρ.f 9) args).run P w=.ok (.enter (ρ.f 9) args) w) (eg:∀args w,(callFunc (ρk.f 10) args).run P w=.ok (.enter (ρk.f 10) args) w)
 {f g:FuncId} (hf:ρ.f 6=f) (hg:ρk.f 10=g) {K:TypeId} (hK:ρk.t 26=K) (hKs:P.underlying K=some (.int .i64)) (hok:uk P f)
 {a b:Id} {H:AHeap} (ha:H.get a=some (.mbox b)) {α:Type} {M:List (Int×α)} {ev:α→AVal} (hb:H.get b=some (.amap (M.map (em (fun k=>.int .i64 k) ev)))) {n:Nat}
 (hn:(M.map (·.1)).Nodup) (hl:∀k∈M.map (·.1),wfZ k=true) (hs:M.length*8≤140737488355328) :
 ACalls P f [.fn (.func g) [] [.ptr a 0 0]] H n (kg n (.isl 1 ((Ja M).map fun k=>[.int .i64 k]) false) H):=by
 subst hf hg hK
 refine⟨hok,fun I β w vs hI hlen hr=>?_⟩
 match vs,hlen with
 |[v0],_=>
 obtain⟨c,hc,h1,h2,h0,r,h3,hbn,r',hr',h4⟩:=hI.blocks a _ ha
 simp only[Option.some.injEq] at hr'
 subst hr'
 obtain⟨d,hd,d1,d2,arr,ck,d3,d4⟩:=hI.blocks b _ hb
 have hrd:=h4 d hd
 subst hrd
 have hv0:v0=.func (.func (ρk.f 10)) #[] #[.pointer (some ⟨c.blk,0,none⟩)]:=by
  have hf:=hr 0 _ _ rfl rfl
  cases hf with
  |imm _ _ h=>
   cases h with
   |fn _ _ _ fs cs q1 q2 q3 q4=>
    have:cs[0]?=some (cs[0]'(by simp at q2;omega)):=Array.getElem?_eq_getElem _
    have:=q4 0 _ _ rfl this
    cases this
  |fn _ _ _ fs cs q1 q2 q3 q4=>
   have hz:fs=#[]:=Array.eq_empty_of_size_eq_zero q1
   have hl1:cs.size=1:=q2
   have hp:=q4 0 _ _ rfl (Array.getElem?_eq_getElem (by omega))
   subst hz
   cases hcs:cs[0]'(by omega) with
   |pointer ad=>
    rw[hcs] at hp
    cases hp with
    |imm _ _ h=>cases h
    |ptr _ _ _ ad' _ g=>
     have:=g c hc
     subst this
     have:cs=#[.pointer (some ⟨c.blk,0,none⟩)]:=by
      refine Array.ext (by simpa using hl1) fun i hi1 hi2=>?_
      have:i=0:=by omega
      subst this
      rw[hcs,h0];simp
     rw[this]
   |_=>rw[hcs] at hp;cases hp;rename_i h;cases h
 subst hv0
 have hkeys:∀ (i:Nat) (e:MapEntry),arr[i]?=some e→∃p,M[i]?=some p∧e.key=.int .i64 p.1:=fun i e he=>by
  have hi:i<M.length:=by
   have h5:=d4.len
   rw[List.length_map] at h5
   rcases Nat.lt_or_ge i arr.size with h'|h'
   ·omega
   ·rw[Array.getElem?_eq_none h'] at he;cases he
  refine⟨M[i],List.getElem?_eq_getElem hi,?_⟩
  have:=(d4.ent i (.int .i64 M[i].1) (ev M[i].2) e (by rw[List.getElem?_map,List.getElem?_eq_getElem hi];rfl) he).1
  generalize e.key=q at this
  cases this
  rfl
 have hlenA:arr.size=M.length:=by rw[d4.len,List.length_map]
 have hkl:arr.toList.map (·.key)=(M.map (·.1)).map fun k=>Value.int .i64 k:=by
  refine List.ext_getElem? fun i=>?_
  rw[List.getElem?_map,List.map_map,List.getElem?_map,Array.getElem?_toList]
  cases he:arr[i]? with
  |none=>
   have:M.length≤i:=by
    rcases Nat.lt_or_ge i arr.size with h'|h'
    ·rw[Array.getElem?_eq_getElem h'] at he;cases he
    ·omega
   rw[List.getElem?_eq_none this];rfl
  |some e=>
   obtain⟨p,hp,hq⟩:=hkeys i e he
   rw[hp,Option.map_some,Option.map_some,hq]
   rfl
 have hrdE:∀x∈arr.toList,∃k∈M.map (·.1),x.key=.int .i64 k:=fun x hx=>by
  obtain⟨i,hi⟩:=List.getElem?_of_mem hx
  rw[Array.getElem?_toList] at hi
  obtain⟨p,hp,hq⟩:=hkeys i x hi
  exact⟨p.1,List.mem_map.2 ⟨p,List.mem_of_getElem? hp,rfl⟩,hq⟩
 have hstr:∀x∈arr.toList,∃k∈M.map (·.1),x.key=.int .i64 k∧rd (H:=Unit) P (ρk.t 26) (fun _=>some (.nil,[])) x=some (.int .i64 k,.nil):=fun x hx=>by
  obtain⟨k,hk,hq⟩:=hrdE x hx
  exact⟨k,hk,hq,zyr hKs hq (hl k hk)⟩
 have hinj:Function.Injective (fun k:Int=>Value.int .i64 k):=fun x y h=>by simpa using h
 have hown:w.ownsMap P (ρk.t 26) (fun _=>some (.nil,[])) d.blk M.length (DataW.map ((arr.toList.map (rg (H:=Unit) P (ρk.t 26) (fun _=>some (.nil,[])))).foldr DataW.insert [])):=by
  refine⟨arr,ck,d3,⟨?_,⟨?_,?_,?_⟩,?_⟩,Nat.le_of_eq hlenA,rfl⟩
  ·unfold maxLen;omega
  ·intro x hx
   obtain⟨i,hi⟩:=List.getElem?_of_mem hx
   rw[Array.getElem?_toList] at hi
   exact d4.clk i x hi
  ·refine List.pairwise_map.2 (List.pairwise_iff_getElem.2 fun i j hi hj hij=>?_)
   have:=d4.born i j _ _ hij (Array.getElem?_eq_getElem (by simpa using hi)) (Array.getElem?_eq_getElem (by simpa using hj))
   simp only[Array.getElem_toList]
   omega
  ·rw[hkl]
   exact hn.map _ (fun x y h e=>h (hinj e))
  ·intro x hx
   obtain⟨k,_,_,h⟩:=hstr x hx
   exact⟨_,h⟩
 have hsk:(intKeys (DataW.map ((arr.toList.map (rg (H:=Unit) P (ρk.t 26) (fun _=>some (.nil,[])))).foldr DataW.insert []))).Perm (M.map (·.1)):=by
  unfold intKeys
  refine((sorted_perm _).map _).trans (List.Perm.of_eq ?_)
  rw[List.map_map]
  have h6:arr.toList.map (fun x=>intOf (rg (H:=Unit) P (ρk.t 26) (fun _=>some (.nil,[])) x).1)=(arr.toList.map (·.key)).map fun v=>match v with|.int _ a=>a|_=>0:=by
   rw[List.map_map]
   refine List.map_congr_left fun x hx=>?_
   obtain⟨k,_,hq,h⟩:=hstr x hx
   simp only[Function.comp,rg,h,hq]
   rfl
  refine h6.trans ?_
  rw[hkl,List.map_map]
  conv=>rhs;rw[←List.map_id (M.map (·.1))]
  rfl
 have hsize:Maps.size (DataW.map ((arr.toList.map (rg (H:=Unit) P (ρk.t 26) (fun _=>some (.nil,[])))).foldr DataW.insert []))=M.length:=by
  have:=hsk.length_eq
  unfold intKeys at this
  rw[List.length_map,List.length_map] at this
  simpa[Maps.size] using this
 have hclt:c.blk<w.heap.size:=uf h3
 have hseq:SeqGives Fence.wide 2 P (ρk.f 10) #[.pointer (some ⟨c.blk,0,none⟩)] encZ (fun ss=>ss.Perm (intKeys (DataW.map ((arr.toList.map (rg (H:=Unit) P (ρk.t 26) (fun _=>some (.nil,[])))).foldr DataW.insert [])))) (Maps.size (DataW.map ((arr.toList.map (rg (H:=Unit) P (ρk.t 26) (fun _=>some (.nil,[])))).foldr DataW.insert []))) w:=
  AnyZI.keys_gives Lk Fence.wide 2 trivial rfl (by omega) c.blk d.blk M.length _ w hclt h3 hown
 show Calls P (ρ.f 6) #[.func (.func (ρk.f 10)) #[] #[.pointer (some ⟨c.blk,0,none⟩)]] w _
 refine(callsIn_wide.1 (AnyZI.sorted_in Ls Fence.wide 5 trivial trivial trivial trivial rfl (by omega) (hsort _) e9 (ρk.f 10) _ trivial eg _ _ (by rw[hsize];unfold maxLen;omega) (by rw[hsize];exact hs) w hseq)).mono ?_
 rintro e w' ⟨v,ss,rfl,hp,hrow,hnil,hbel⟩
 have hss:ss.mergeSort (fun x y=>decide (x≤y))=Ja M:=by
  refine List.Perm.eq_of_pairwise (le:=fun x y:Int=>decide (x≤y)=true) ?_ ?_ ?_ ?_
  ·intro x y _ _ h1 h2
   simp only[decide_eq_true_eq] at h1 h2
   exact Int.le_antisymm h1 h2
  ·exact List.pairwise_mergeSort (fun x y z h1 h2=>by simp only[decide_eq_true_eq] at *;exact Int.le_trans h1 h2) (fun x y=>by simp only[Bool.or_eq_true,decide_eq_true_eq];exact Int.le_total x y) _
  ·exact List.pairwise_mergeSort (fun x y z h1 h2=>by simp only[decide_eq_true_eq] at *;exact Int.le_trans h1 h2) (fun x y=>by simp only[Bool.or_eq_true,decide_eq_true_eq];exact Int.le_total x y) _
  ·exact(List.mergeSort_perm _ _).trans ((hp.trans hsk).trans (List.mergeSort_perm _ _).symm)
 have hlen2:ss.length=M.length:=by rw[(hp.trans hsk).length_eq,List.length_map]
 rw[hss] at hrow
 have hkl2:(Ja M).length=M.length:=by unfold Ja;rw[(List.mergeSort_perm _ _).length_eq,List.length_map]
 obtain⟨q1,q2⟩:=hrow
 have hchg:Chg w w' fun _ _=>False:=by
  have hb':∀b,b<w.heap.size→w'.heap[b]?=w.heap[b]?:=hbel.block
  have hlt:∀b (o:Obj),w.heap[b]?=some o→b<w.heap.size:=fun b o h=>by
   rcases Nat.lt_or_ge b w.heap.size with h'|h'
   ·exact h'
   ·rw[Array.getElem?_eq_none h'] at h;cases h
  exact⟨hbel.os,⟨hbel.tape,fun h=>by rw[hkd] at h;cases h⟩,hbel.output,hbel.size,fun b hb _=>hb' b hb,fun b k hb _=>cell?_of_heap (hb' b hb),fun b arr el fr h=>⟨arr,by rw[hb' b (hlt b _ h)];exact h,rfl⟩,fun b o ho h _=>by rw[hb' b (hlt b o h)];exact h⟩
 rcases q2 with⟨rfl,hz⟩|⟨gb,cap,cur,rfl,g1,g2,g3,g4,g5,g6⟩
 ·obtain⟨k1,k2⟩:=kw (I':=I) (β':=β) (n':=n) (H':=H) hI hchg (Nat.le_refl n) (fun _ _ h=>h.elim) (fun _ _ h=>h) (fun _ _ h h'=>absurd h h') (fun id hid=>.inl rfl)
   (fun id d b' k hid hd _=>by rw[hI.fresh id hid] at hd;cases hd) hI.fresh (fun i j d d' b' k hi hj h h' _=>hI.inj i j d d' b' k hi hj h h') (fun _ _ _ _ _ _ h=>h) (fun _ _ h=>h) (fun id blk h=>.inl ⟨h,rfl,fun _ _ _ _ _ h=>h⟩)
  have:Ja M=[]:=List.eq_nil_of_length_eq_zero (by omega)
  rw[this]
  exact⟨_,_,_,_,I,β,rfl,⟨rfl,rfl,rfl⟩,k1,.imm _ _ (.islNil 1 false),k2⟩
 ·simp only[Nat.mul_one] at g5 g6
  have hcell:∀k (x:Int),(Ja M)[k]?=some x→w'.cell? ⟨gb,k,none⟩=some (.int .i64 x):=fun k x hx=>by
   unfold World.cell?
   simp only[g2]
   have hk:k<(Ja M).length:=by
    rcases Nat.lt_or_ge k (Ja M).length with h'|h'
    ·exact h'
    ·rw[List.getElem?_eq_none h'] at hx;cases hx
   have:(cur.toList.take ss.length)[k]?=some (encZ x):=by rw[g6,List.getElem?_map,hx];rfl
   rw[List.getElem?_take] at this
   split at this
   ·rw[Array.getElem?_toList] at this
    simpa[encZ] using this
   ·cases this
  obtain⟨k1,k2⟩:=kw (I':=fun b' k=>I b' k∨(b'=gb∧k<(Ja M).length)) (β':=β) (n':=n) (H':=H) hI hchg (Nat.le_refl n) (fun _ _ h=>h.elim) (fun _ _ h=>.inl h)
   (fun b' k h h'=>by
    rcases h with h|⟨rfl,hk⟩
    ·exact absurd h h'
    ·exact⟨⟨_,hcell k _ (List.getElem?_eq_getElem hk)⟩,.inl g1⟩) (fun id hid=>.inl rfl)
   (fun id d b' k hid hd _=>by rw[hI.fresh id hid] at hd;cases hd) hI.fresh (fun i j d d' b' k hi hj h h' _=>hI.inj i j d d' b' k hi hj h h')
   (fun i c' b' k hi hk h=>by
    rcases h with h|⟨rfl,_⟩
    ·exact h
    ·exact absurd (hI.own i c' _ k hi hk).2 (by omega)) (fun _ _ h=>h) (fun id blk h=>.inl ⟨h,rfl,fun _ _ _ _ _ h=>h⟩)
  refine⟨_,_,_,_,_,β,rfl,⟨rfl,rfl,rfl⟩,k1,.imm _ _ ?_,k2⟩
  have hrow2:∀ (i:Nat) (r:List AVal),((Ja M).map fun k=>[AVal.int .i64 k])[i]?=some r→∃x,(Ja M)[i]?=some x∧r=[.int .i64 x]:=fun i r h=>by
   rw[List.getElem?_map] at h
   obtain⟨x,hx,rfl⟩:=Option.map_eq_some_iff.1 h
   exact⟨x,hx,rfl⟩
  have:=RepI.isl (I:=fun b' k=>I b' k∨(b'=gb∧k<(Ja M).length)) (w:=w') 1 ((Ja M).map fun k=>[AVal.int .i64 k]) false gb 0 cap (fun i _=>.int .i64 ((Ja M).getD i 0)) (fun i r j x hi hj=>by
   obtain⟨y,hy,rfl⟩:=hrow2 i r hi
   match j with
   |0=>
    refine .inr ⟨rfl,?_⟩
    rcases Nat.lt_or_ge i (Ja M).length with h'|h'
    ·omega
    ·rw[List.getElem?_eq_none h'] at hy;cases hy
   |j+1=>simp at hj) (by rw[List.length_map];omega) (fun h=>by cases h) (fun i r hi=>by obtain⟨y,hy,rfl⟩:=hrow2 i r hi;rfl) (fun i r j x hi hj=>by
   obtain⟨y,hy,rfl⟩:=hrow2 i r hi
   match j with
   |0=>
    rw[show 0+i*1+0=i by omega,hcell i y hy,List.getD_eq_getElem?_getD,hy]
    rfl
   |j+1=>simp at hj) (fun i r j x hi hj=>rfl) (fun i r j x hi hj=>by
   obtain⟨y,hy,rfl⟩:=hrow2 i r hi
   match j with
   |0=>
    simp only[List.getElem?_cons_zero,Option.some.injEq] at hj
    subst hj
    rw[List.getD_eq_getElem?_getD,hy]
    exact .int .i64 y
   |j+1=>simp at hj)
  have e:(Ja M).length=ss.length:=by omega
  rw[List.length_map,e] at this
  rw[e]
  exact this
end
end Go.Fx
