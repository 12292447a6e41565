/-
  What can be reached along the edges: the program's search gives it, sorted; no condition but the lists' lengths.
-/
import Derived.Test.YtejfgjggcoemeaaLa
namespace Go.Proofs.Ytejfgjggcoemeaa
open Go.Fx Go.Sort
set_option linter.unusedVariables false
inductive Reach(R:K→K→Prop):K→K→Prop
 |one {a b:K}:R a b→Reach R a b
 |step {a b c:K}:R a b→Reach R b c→Reach R a c
theorem Reach.snoc{R:K→K→Prop}{a b c:K}(h:Reach R a b)(hc:R b c):Reach R a c:=by
 induction h with
 |one h=>exact .step h (.one hc)
 |step h _ ih=>exact .step h (ih hc)
theorem Reach.trans{R:K→K→Prop}{a b c:K}(h:Reach R a b)(hc:Reach R b c):Reach R a c:=by
 induction h with
 |one h=>exact .step h hc
 |step h _ ih=>exact .step h (ih hc)
theorem Reach.mono{R R':K→K→Prop}(hR:∀a b,R a b→R' a b){a b:K}(h:Reach R a b):Reach R' a b:=by
 induction h with
 |one h=>exact .one (hR _ _ h)
 |step h _ ih=>exact .step (hR _ _ h) ih
theorem Reach.last{R:K→K→Prop}{a c:K}(h:Reach R a c):∃b,R b c:=by
 induction h with
 |one h=>exact⟨_,h⟩
 |step _ _ ih=>exact ih
theorem Reach.closed{R:K→K→Prop}{S:K→Prop}{a x:K}(h:Reach R a x)(h0:∀b,R a b→S b)(h1:∀b c,S b→R b c→S c):S x:=by
 have key:∀b y,Reach R b y→(∀c,R b c→S c)→S y:=by
  intro b y hb
  induction hb with
  |one h=>exact fun hs=>hs _ h
  |step h _ ih=>exact fun hs=>ih (fun c hc=>h1 _ c (hs _ h) hc)
 exact key a x h h0
def adj(rev:Bool)(es:List G_QEdge)(a b:K):Prop:=∃e∈es,src rev e=a∧dst rev e=b
def IsReach(rev:Bool)(es:List G_QEdge)(k:K)(l:List K):Prop:=Srt l∧∀x,x∈l↔Reach (adj rev es) k x
theorem IsReach.unique{rev:Bool}{es:List G_QEdge}{k:K}{l m:List K}(h:IsReach rev es k l)(h':IsReach rev es k m):l=m:=z6x h.1 h'.1 fun x=>(h.2 x).trans (h'.2 x).symm
theorem Jw:∀ {a b:List K},a.Nodup→(∀x∈a,x∈b)→a.length≤b.length
 |[],_,_,_=>Nat.zero_le _
 |x::a,b,h,hs=>by
  have h':=List.nodup_cons.1 h
  have hx:x∈b:=hs x (List.mem_cons_self ..)
  have:=Jw (b:=b.erase x) h'.2 fun y hy=>(List.mem_erase_of_ne (fun e=>h'.1 (by rw[←e];exact hy))).2 (hs y (List.mem_cons_of_mem _ hy))
  rw[List.length_erase_of_mem hx] at this
  have hp:=List.length_pos_of_mem hx
  simp only[List.length_cons];omega
theorem zic{l:List K}(hn:l.Nodup):Srt (Zy z67 l)∧(∀x,x∈Zy z67 l↔x∈l):=by
 obtain⟨h1,h2⟩:=z1e swo l
 have hn':(Zy z67 l).Nodup:=h1.nodup_iff.2 hn
 refine⟨?_,fun x=>h1.mem_iff⟩
 have:=List.pairwise_and_iff.2 ⟨h2,hn'⟩
 refine this.imp fun {a b} ⟨g1,g2⟩=>?_
 rw[z1j,decide_eq_false_iff_not] at g1
 rcases zeh a b with h|h|h
 ·exact h
 ·exact absurd h g2
 ·exact absurd h g1
structure Dfs(rev:Bool)(es:List G_QEdge)(key:K)(res:List K)(seen:List (K×Int))(P:List K):Prop where
 nd:res.Nodup
 sn:∀k,(lk zd seen k).getD 0≠0↔k∈res
 r1:∀x∈res,Reach (adj rev es) key x
 r2:∀x∈P,Reach (adj rev es) key x
 c0:∀y,adj rev es key y→y∈res∨y∈P
 c1:∀z∈res,∀y,adj rev es z y→y∈res∨y∈P
theorem z0p{rev:Bool}{es:List G_QEdge}{ks:List K}{M:Gm}(h:Graph rev es ks M)(a b:K):b∈nx M a↔adj rev es a b:=h.nmem a b
theorem X0{rev:Bool}{es:List G_QEdge}{key:K}{res:List K}(hn:res.Nodup)(h:∀x∈res,Reach (adj rev es) key x):res.length≤es.length:=by
 have:=Jw (b:=es.map (dst rev)) hn fun x hx=>by
  obtain⟨b,e,he,_,hd⟩:=(h x hx).last
  exact List.mem_map.2 ⟨e,he,hd⟩
 simpa using this
theorem zjp{rev:Bool}{es:List G_QEdge}{ks:List K}{M:Gm}(hg:Graph rev es ks M)(hl:es.length≤400){key:K}:∀ (m:Nat) (res:List K) (seen:List (K×Int)) (st:List K) (v:Nat),
 (es.length-res.length)*(es.length+1)+v≤m→v≤st.length→st.length≤1000000000→Dfs rev es key res seen (st.take v)→v+(es.length-res.length)*(es.length+1)≤1000000 →
 ∃l,yr none ks M v res seen st=some l∧IsReach rev es key l:=by
 intro m
 induction m with
 |zero=>
  intro res seen st v hm hv hst hd hb
  have hv0:v=0:=by omega
  subst hv0
  have hlen:=X0 hd.nd hd.r1
  obtain⟨s1,s2⟩:=zic hd.nd
  refine⟨Zy z67 res,?_,s1,fun x=>?_⟩
  ·unfold yr
   rw[yv (x:=some (Zy z67 res))]
   unfold y8 xg ji
   rw[if_neg (by simp),if_pos ⟨swo,by dsimp only;omega⟩,Option.bind_some,if_pos (Qo swo res)]
  ·rw[s2]
   refine⟨hd.r1 x,fun h=>?_⟩
   rcases h.closed (S:=fun y=>y∈res) (fun b hb=>by simpa using hd.c0 b hb) (fun b c hb hc=>by simpa using hd.c1 b hb c hc) with h'
   exact h'
 |succ m ih=>
  intro res seen st v hm hv hst hd hb
  by_cases hv0:v=0
  ·subst hv0
   have hlen:=X0 hd.nd hd.r1
   obtain⟨s1,s2⟩:=zic hd.nd
   refine⟨Zy z67 res,?_,s1,fun x=>?_⟩
   ·unfold yr
    rw[yv (x:=some (Zy z67 res))]
    unfold y8 xg ji
    rw[if_neg (by simp),if_pos ⟨swo,by dsimp only;omega⟩,Option.bind_some,if_pos (Qo swo res)]
   ·rw[s2]
    refine⟨hd.r1 x,fun h=>?_⟩
    exact h.closed (S:=fun y=>y∈res) (fun b hb=>by simpa using hd.c0 b hb) (fun b c hb hc=>by simpa using hd.c1 b hb c hc)
  ·obtain⟨i,rfl⟩:∃i,v=i+1:=⟨v-1,by omega⟩
   have hi:i<st.length:=by omega
   have htk:st.take (i+1)=st.take i++[st[i]]:=by rw[List.take_add_one,List.getElem?_eq_getElem hi];rfl
   rw[htk] at hd
   have w:W ((((i+1:Nat):Nat):Int)-1)=(i:Int):=by rw[Wn (by omega) (by omega)];omega
   have hk:Reach (adj rev es) key st[i]:=hd.r2 _ (List.mem_append.2 (.inr (List.mem_singleton.2 rfl)))
   by_cases hs:st[i]∈res
   ·obtain⟨l,h1,h2⟩:=ih res seen st i (by omega) (by omega) hst ⟨hd.nd,hd.sn,hd.r1,fun x hx=>hd.r2 x (List.mem_append.2 (.inl hx)),fun y hy=>by
     rcases hd.c0 y hy with h|h
     ·exact .inl h
     ·rcases List.mem_append.1 h with h|h
      ·exact .inr h
      ·rw[List.mem_singleton] at h;subst h;exact .inl hs,fun z hz y hy=>by
     rcases hd.c1 z hz y hy with h|h
     ·exact .inl h
     ·rcases List.mem_append.1 h with h|h
      ·exact .inr h
      ·rw[List.mem_singleton] at h;subst h;exact .inl hs⟩ (by omega)
    refine⟨l,?_,h2⟩
    unfold yr at h1 ⊢
    rw[qw (s':=(i,res,seen,st))]
    ·exact h1
    ·unfold y8
     simp only[w,Int.toNat_natCast,Nat.zero_add,u9,wo hi]
     rw[if_pos (by simp),if_pos (by omega),if_pos hi,if_pos (by omega),if_pos (by have:=(hd.sn st[i]).2 hs;simpa using this)]
   ·obtain⟨k,hkk⟩:∃k,k=st[i]:=⟨_,rfl⟩
    have hnl:=hg.nlen k
    have hnd:(res++[k]).Nodup:=by
     rw[List.nodup_append]
     exact⟨hd.nd,by simp,fun a ha b hb=>by rw[List.mem_singleton] at hb;subst hb;subst hkk;exact fun e=>hs (e▸ha)⟩
    have hr1:∀x∈res++[k],Reach (adj rev es) key x:=fun x hx=>by
     rcases List.mem_append.1 hx with hx|hx
     ·exact hd.r1 x hx
     ·rw[List.mem_singleton] at hx;subst hx;subst hkk;exact hk
    have hlen:=X0 hnd hr1
    simp only[List.length_append,List.length_singleton] at hlen
    have hmul:(es.length-res.length)*(es.length+1)=(es.length-(res.length+1))*(es.length+1)+(es.length+1):=by
     have:es.length-res.length=(es.length-(res.length+1))+1:=by omega
     rw[this,Nat.add_mul,Nat.one_mul]
    have hst':(st.take i++nx M k).length=i+(nx M k).length:=by rw[List.length_append,List.length_take];omega
    obtain⟨l,h1,h2⟩:=ih (res++[k]) (mp zd seen k 1) (st.take i++nx M k) (st.take i++nx M k).length (by simp only[List.length_append,List.length_singleton] at hst' ⊢;omega) (Nat.le_refl _) (by omega)
     (by
      rw[List.take_length]
      refine⟨hnd,fun j=>?_,hr1,fun x hx=>?_,fun y hy=>?_,fun z hz y hy=>?_⟩
      ·rw[lkM (hq:=zdm)]
       by_cases hj:k=j
       ·subst hj;rw[if_pos rfl];simp
       ·rw[if_neg hj,hd.sn,List.mem_append,List.mem_singleton]
        exact⟨.inl,fun h=>h.resolve_right (fun e=>hj e.symm)⟩
      ·rcases List.mem_append.1 hx with hx|hx
       ·exact hd.r2 x (List.mem_append.2 (.inl hx))
       ·exact(hkk▸hk:Reach (adj rev es) key k).snoc ((z0p hg k x).1 hx)
      ·rcases hd.c0 y hy with h|h
       ·exact .inl (by simp[h])
       ·rcases List.mem_append.1 h with h|h
        ·exact .inr (by simp[h])
        ·rw[List.mem_singleton] at h;exact .inl (by simp[h,hkk])
      ·rcases List.mem_append.1 hz with hz|hz
       ·rcases hd.c1 z hz y hy with h|h
        ·exact .inl (by simp[h])
        ·rcases List.mem_append.1 h with h|h
         ·exact .inr (by simp[h])
         ·rw[List.mem_singleton] at h;exact .inl (by simp[h,hkk])
       ·rw[List.mem_singleton] at hz
        rw[hz] at hy
        exact .inr (List.mem_append.2 (.inr ((z0p hg k y).2 hy))))
     (by simp only[List.length_append,List.length_singleton] at hst' ⊢;omega)
    refine⟨l,?_,h2⟩
    unfold yr at h1 ⊢
    rw[qw (s':=((st.take i++nx M k).length,res++[k],mp zd seen k 1,st.take i++nx M k))]
    ·exact h1
    ·unfold y8
     simp only[w,Int.toNat_natCast,Nat.zero_add,u9,wo hi,←hkk,List.drop_zero]
     have hsn:¬(((lk zd seen k).getD 0 != 0)=true):=by
      have:=fun h=>hs (hkk▸(hd.sn k).1 h)
      simpa using this
     rw[if_pos (by simp),if_pos (by omega),if_pos hi,if_pos (by omega),if_neg hsn,if_pos (by simp;omega),if_pos (by simp;omega)]
     unfold nx at hst' hnl ⊢
     rw[if_pos (by rw[List.length_map];omega),List.length_map]
theorem Qr{rev:Bool}{es:List G_QEdge}{ks:List K}{M:Gm}(hg:Graph rev es ks M)(hl:es.length≤400)(key:K):∃l,zp none key ks M=some l∧IsReach rev es key l:=by
 have hnl:=hg.nlen key
 have hm:es.length*(es.length+1)≤400*401:=Nat.mul_le_mul hl (by omega)
 unfold zp vj zse
 show ∃l,Option.bind (if(nx M key).length*24≤140737488355328 then some (nx M key) else none) _=some l∧_
 rw[if_pos (by omega),Option.bind_some]
 refine zjp hg hl _ [] [] (nx M key) (nx M key).length (Nat.le_refl _) (Nat.le_refl _) (by omega) ?_ (by simp only[List.length_nil,Nat.sub_zero];omega)
 rw[List.take_length]
 exact⟨by simp,fun k=>by simp[lk],fun x hx=>absurd hx (List.not_mem_nil),fun x hx=>.one ((z0p hg key x).1 hx),fun y hy=>.inr ((z0p hg key y).2 hy),fun z hz=>absurd hz (List.not_mem_nil)⟩
theorem U0{es:List G_QEdge}(hl:es.length≤400)(key:K):∃l,xb none es key=some l∧IsReach false es key l:=by
 obtain⟨ks,M,h1,hg⟩:=Jb (rev:=false) hl
 obtain⟨l,h2,h3⟩:=Qr hg hl key
 refine⟨l,?_,h3⟩
 unfold xb
 rw[h1,Option.bind_some]
 show(zp none key ks M).bind _=_
 rw[h2];rfl
theorem z1t{es:List G_QEdge}(hl:es.length≤400)(key:K):∃l,jb none es key=some l∧IsReach true es key l:=by
 obtain⟨ks,M,h1,hg⟩:=Jb (rev:=true) hl
 obtain⟨l,h2,h3⟩:=Qr hg hl key
 refine⟨l,?_,h3⟩
 unfold jb
 rw[h1,Option.bind_some]
 show(zp none key ks M).bind _=_
 rw[h2];rfl
end Go.Proofs.Ytejfgjggcoemeaa
