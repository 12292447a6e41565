/-
  DepgraphReduction: an edge is struck where its end can be reached by another edge; the program and the reference keep the same edges; no condition.
-/
import Derived.Test.YtejfgjggcoemeaaLd
namespace Go.Proofs.Ytejfgjggcoemeaa
open Go.Fx Go.Sort
set_option linter.unusedVariables false
abbrev Ed:=G_QEdge
theorem z7i(x:Ed):G_QEdge.mk x.f_From x.f_To=x:=rfl
theorem zq4{x y:Ed}(h1:x.f_From=y.f_From)(h2:x.f_To=y.f_To):x=y:=by
 cases x;cases y;simp only at h1 h2;subst h1;subst h2;rfl
instance:DecidableEq Ed:=fun x y=>if h:x.f_From=y.f_From∧x.f_To=y.f_To then isTrue (zq4 h.1 h.2) else isFalse (fun e=>h (by subst e;exact⟨rfl,rfl⟩))
theorem zt5(x y:Ed):((x.f_From.f_Kind==y.f_From.f_Kind)&&((x.f_From.f_A==y.f_From.f_A)&&((x.f_From.f_B==y.f_From.f_B)&&((x.f_To.f_Kind==y.f_To.f_Kind)&&((x.f_To.f_A==y.f_To.f_A)&&((x.f_To.f_B==y.f_To.f_B)&&true))))))=true↔x=y:=by
 have h1:=zna x.f_From y.f_From
 have h2:=zna x.f_To y.f_To
 have e:x=y↔x.f_From=y.f_From∧x.f_To=y.f_To:=⟨fun h=>by subst h;exact⟨rfl,rfl⟩,fun h=>zq4 h.1 h.2⟩
 rw[e,←h1,←h2]
 simp only[Bool.and_eq_true,Bool.and_true]
 constructor
 ·rintro⟨a,b,c,d⟩;exact⟨⟨a,b,c⟩,d⟩
 ·rintro⟨⟨a,b,c⟩,d⟩;exact⟨a,b,c,d⟩
theorem z4q{l:List G_QEdge}{x:G_QEdge}(hl:l.length≤1000000):∀ (k i:Nat),i+k=l.length→∃r:Int,ye none l x (i:Int)=some r∧(0≤r↔x∈l.drop i)
 |0,i,h=>by
  have:i=l.length:=by omega
  subst this
  refine⟨-1,?_,by simp⟩
  unfold ye
  rw[yv (x:=some (-1))]
  unfold zr xi
  rw[if_neg (by simp)]
 |k+1,i,h=>by
  have hi:i<l.length:=by omega
  have hb:zr none l x (i:Int)=if x=l[i] then some (.inr (i:Int)) else some (.inl ((i+1:Nat):Int)):=by
   unfold zr
   simp only[Int.toNat_natCast,wo hi]
   rw[if_pos (by simpa using hi),if_pos (by simp;omega)]
   by_cases c:x=l[i]
   ·rw[if_pos ((zt5 _ _).2 c),if_pos c];rfl
   ·rw[if_neg (fun h=>c ((zt5 _ _).1 h)),if_neg c,Wi (by omega)]
  rw[List.drop_eq_getElem_cons hi]
  by_cases c:x=l[i]
  ·rw[if_pos c] at hb
   refine⟨i,?_,⟨fun _=>by rw[c];exact List.mem_cons_self ..,fun _=>by omega⟩⟩
   unfold ye
   rw[yv (x:=some (i:Int)) hb]
  ·rw[if_neg c] at hb
   obtain⟨r,h1,h2⟩:=z4q hl k (i+1) (by omega)
   refine⟨r,?_,?_⟩
   ·unfold ye at h1 ⊢
    rw[qw hb];exact h1
   ·rw[h2,List.mem_cons]
    exact⟨.inr,fun h=>h.resolve_left c⟩
theorem Wz{l:List G_QEdge}{x:G_QEdge}(hl:l.length≤1000000):yg none l x=some (decide (x∈l)):=by
 obtain⟨r,h1,h2⟩:=z4q (x:=x) hl l.length 0 (by omega)
 unfold yg x4
 simp only[u9,z7i]
 rw[show(0:Int)=((0:Nat):Int) from rfl,h1,Option.bind_some]
 congr 1
 rw[Bool.eq_iff_iff,decide_eq_true_eq,decide_eq_true_eq]
 rw[List.drop_zero] at h2
 exact h2
theorem Ur{l:List G_QEdge}(hl:l.length≤1000000):∀ (k i:Nat),i+k=l.length→qh none l l (i:Int)=some true
 |0,i,h=>by
  unfold qh
  rw[yv (x:=some true)]
  unfold yb xj
  rw[if_neg (by simp;omega)]
 |k+1,i,h=>by
  have ih:=Ur hl k (i+1) (by omega)
  unfold qh at ih ⊢
  rw[qw (s':=((i+1:Nat):Int))]
  ·exact ih
  ·unfold yb
   simp only[List.length_map,Int.toNat_natCast]
   rw[if_pos (by simp;omega),if_pos (by omega),if_pos (by omega),if_neg (by rw[(zt5 _ _).2 rfl];decide),Wi (by omega)]
theorem zif{l:List G_QEdge}(hl:l.length≤1000000):q9 none l l=some true:=by
 unfold q9
 rw[if_neg (by simp)]
 exact Ur hl l.length 0 (by omega)
theorem z35{l:List Ed}{x:Ed}(hl:l.length≤1000000):j8 none l x=some (decide (x∈l)):=Wz hl
theorem z59{l:List K}{x:K}(hl:l.length≤1000000):xa none l x=some (decide (x∈l)):=Q1 hl
open Classical in
noncomputable def red(es:List Ed)(e:Ed):Bool:=decide (∃k,adj false es e.f_From k∧Rc es k e.f_To)
theorem zee{es:List Ed}{e:Ed}:red es e=true↔∃k,adj false es e.f_From k∧Rc es k e.f_To:=by
 classical
 unfold red
 exact @decide_eq_true_iff _ _
noncomputable def rd(es:List Ed):List Ed→List Ed→List Ed
 |[],o=>o
 |e::r,o=>rd es r (if(!red es e&&!decide (e∈o))=true then o++[e] else o)
theorem zml{es:List Ed}:∀ (l o:List Ed),(rd es l o).length≤o.length+l.length
 |[],o=>Nat.le_refl _
 |e::r,o=>by
  unfold rd
  have:=zml (es:=es) r (if(!red es e&&!decide (e∈o))=true then o++[e] else o)
  split
  ·rename_i h
   rw[if_pos h,List.length_append,List.length_singleton] at this
   rw[List.length_cons];omega
  ·rename_i h
   rw[if_neg h] at this
   rw[List.length_cons];omega
structure Below(es:List Ed)(D:List K)(B:Gm):Prop where
 rc:∀j∈D,IsReach false es j (nx B j)
 ln:∀j,(nx B j).length≤es.length
theorem z8r{es:List Ed}{ks:List K}{M:Gm}(hg:Graph false es ks M)(hl:es.length≤400):∀ (n i:Nat) (B:Gm),i+n=ks.length→Below es (ks.take i) B →
 ∃B',qm none es (ks,M) (i:Int) B=qk none es (ks,M) B'∧Below es ks B'
 |0,i,B,h,hb=>by
  have:i=ks.length:=by omega
  subst this
  rw[List.take_length] at hb
  refine⟨B,?_,hb⟩
  unfold qm
  refine yv ?_
  unfold yl
  rw[if_neg (by simp)]
 |n+1,i,B,h,hb=>by
  have hi:i<ks.length:=by omega
  have hkl:=hg.klen
  obtain⟨l,h1,h2⟩:=Qr hg hl ks[i]
  obtain⟨B',g1,g2⟩:=z8r hg hl n (i+1) (mp zd B ks[i] l) (by omega) ⟨fun j hj=>by
   rw[zd7]
   by_cases c:ks[i]=j
   ·rw[if_pos c,←c];exact h2
   ·rw[if_neg c]
    rw[List.take_add_one,List.getElem?_eq_getElem hi] at hj
    rcases List.mem_append.1 hj with hj|hj
    ·exact hb.rc j hj
    ·rw[Option.toList_some,List.mem_singleton] at hj;exact absurd hj.symm c,fun j=>by
   rw[zd7]
   split
   ·exact J8 h2
   ·exact hb.ln j⟩
  refine⟨B',?_,g2⟩
  unfold qm at g1 ⊢
  rw[qw (s':=(((i+1:Nat):Int),mp zd B ks[i] l))]
  ·exact g1
  ·unfold yl
   simp only[Int.toNat_natCast,wo hi,u9]
   rw[if_pos (by simpa using hi),if_pos (by simp;omega),h1,Option.bind_some,Wi (by omega)]
theorem zo4{ks:List K}{g:Unit→K→Option (Bool×Unit)}{p:K→Bool}(hgp:∀x,g () x=some (p x,()))(hl:ks.length≤1000000):yn g none ks ()=some (ks.any p,()):=by
 unfold yn zw
 show Option.bind (zc g none ks ((0:Nat):Int) ()) _=_
 rcases Ko (ks:=ks) (g:=g) (p:=p) hgp hl ks.length 0 (by omega) with⟨j,hj,_,h2,h3⟩|⟨h2,h3⟩
 ·rw[h2,Option.bind_some]
  rw[List.drop_zero] at h3
  obtain⟨h4,h5⟩:=z6g h3
  have:ks.any p=true:=List.any_eq_true.2 ⟨_,h4,h5⟩
  rw[this]
  congr 2
 ·rw[h2,Option.bind_some]
  rw[List.drop_zero] at h3
  have:ks.any p=false:=by
   rw[List.any_eq_false]
   exact fun x hx=>List.find?_eq_none.1 h3 x hx
  rw[this]
  rfl
theorem zry{es:List Ed}{ks:List K}{M B:Gm}(hg:Graph false es ks M)(hb:Below es ks B)(e:Ed):(nx M e.f_From).any (fun x=>decide (e.f_To∈nx B x))=red es e:=by
 rw[Bool.eq_iff_iff,List.any_eq_true,zee]
 constructor
 ·rintro⟨x,hx,h⟩
  rw[decide_eq_true_eq] at h
  have ha:=(z0p hg _ _).1 hx
  have hk:x∈ks:=by
   obtain⟨e',he',_,h2⟩:=ha
   exact(hg.mem x).2 ⟨e',he',.inr h2.symm⟩
  exact⟨x,ha,((hb.rc x hk).2 _).1 h⟩
 ·rintro⟨x,ha,h⟩
  have hk:x∈ks:=by
   obtain⟨e',he',_,h2⟩:=ha
   exact(hg.mem x).2 ⟨e',he',.inr h2.symm⟩
  exact⟨x,(z0p hg _ _).2 ha,decide_eq_true (((hb.rc x hk).2 _).2 h)⟩
theorem zj9{es:List Ed}{ks:List K}{M B:Gm}(hg:Graph false es ks M)(hl:es.length≤400)(hbl:Below es ks B):∀ (n i:Nat) (o:List Ed),i+n=es.length→o.length≤i →
 qo none es (ks,M) B o (i:Int)=some (rd es (es.drop i) o,0):=by
 have cap:(if 400<((es.map z6).length:Int) then 400 else((es.map z6).length:Int)).toNat=es.length:=by rw[List.length_map,if_neg (by omega)];omega
 intro n
 induction n with
 |zero=>
  intro i o h ho
  have:i=es.length:=by omega
  subst this
  unfold qo
  rw[yv (x:=some (o,0)),List.drop_length]
  ·rfl
  ·unfold y3 xu
   simp only[cap,List.take_length]
   rw[if_neg (by simp)]
 |succ n ih=>
  intro i o h ho
  have hi:i<es.length:=by omega
  have hb:y3 none es (ks,M) B o (i:Int)=some (.inl (if(!red es es[i]&&!decide (es[i]∈o))=true then o++[es[i]] else o,((i+1:Nat):Int))):=by
   have hcf:=zo4 (ks:=nx M es[i].f_From) (g:=fun(s:Unit) (x:K)=>(zn none es[i].f_From.f_Kind es[i].f_From.f_A es[i].f_From.f_B es[i].f_To.f_Kind es[i].f_To.f_A es[i].f_To.f_B B x).map fun o=>(o,())) (p:=fun x=>decide (es[i].f_To∈nx B x)) (fun x=>by
    have:=hbl.ln x
    show(zn none _ _ _ _ _ _ B x).map _=_
    unfold zn
    show Option.map _ (Option.bind (xa none (nx B x) es[i].f_To) _)=_
    rw[z59 (by omega)]
    rfl) (by have:=hg.nlen es[i].f_From;omega)
   rw[zry hg hbl] at hcf
   unfold y3 qj
   simp only[cap,List.take_length,Int.toNat_natCast,wo hi,u9,z7i]
   rw[if_pos (by simpa using hi),if_pos (by simp;omega)]
   unfold nx at hcf
   rw[hcf,Option.bind_some,z35 (by omega),Wi (by omega)]
   cases red es es[i] with
   |true=>rfl
   |false=>
    by_cases c:es[i]∈o
    ·rw[decide_eq_true c];rfl
    ·rw[decide_eq_false c,if_pos (by decide),Option.bind_some,if_pos (by decide),if_pos (by simp;omega),if_pos (by decide)]
  have ih':=ih (i+1) (if(!red es es[i]&&!decide (es[i]∈o))=true then o++[es[i]] else o) (by omega) (by split<;>first|(simp only[List.length_append,List.length_singleton];omega)|omega)
  rw[List.drop_eq_getElem_cons hi]
  unfold rd
  unfold qo at ih' ⊢
  rw[qw hb];exact ih'
def hit(es:List Ed)(e e':Ed):Prop:=e'.f_From=e.f_From∧e'.f_To≠e.f_To∧Rc es e'.f_To e.f_To
theorem z9j{es:List Ed}(hl:es.length≤400){o:List Ed}{i:Nat}(hi:i<es.length):∀ (n j:Nat) (b:Bool),j+n=es.length →
 ∃b',xv none es o (i:Int) b (j:Int)=xx none es o (i:Int) b'∧(b'=true↔b=true∨∃e'∈es.drop j,hit es es[i] e')
 |0,j,b,h=>by
  have:j=es.length:=by omega
  subst this
  refine⟨b,?_,by simp⟩
  unfold xv
  refine yv ?_
  unfold yx
  rw[if_neg (by simp)]
 |n+1,j,b,h=>by
  have hj:j<es.length:=by omega
  obtain⟨l,h1,h2⟩:=Qd hl es[j].f_To
  have hll:=J8 h2
  have hb:∃b1,yx none es o (i:Int) b (j:Int)=some (.inl (b1,((j+1:Nat):Int)))∧(b1=true↔b=true∨hit es es[i] es[j]):=by
   unfold yx
   simp only[Int.toNat_natCast,wo hi,wo hj,u9,eqK,h1]
   rw[if_pos (by simpa using hj),if_pos (by simp;omega),Wi (by omega)]
   unfold hit
   have h2i:=h2.2 es[i].f_To
   change es[i].f_To∈l↔Rc es es[j].f_To es[i].f_To at h2i
   rw[←h2i]
   cases b with
   |true=>exact⟨true,rfl,by simp⟩
   |false=>
    by_cases c1:es[j].f_From=es[i].f_From
    ·by_cases c2:es[j].f_To=es[i].f_To
     ·rw[if_neg (by simp[c2]),Option.bind_some,if_neg (by simp[c2]),Option.bind_some]
      exact⟨_,rfl,by simp[c2]⟩
     ·rw[if_pos (by simp[c1,c2]),Option.bind_some,if_pos (by simp[c1,c2]),Q1 (by omega),Option.bind_some]
      exact⟨_,rfl,by simp[c1,c2]⟩
    ·rw[if_neg (by simp[c1]),Option.bind_some,if_neg (by simp[c1]),Option.bind_some]
     exact⟨_,rfl,by simp[c1]⟩
  obtain⟨b1,hb1,hb2⟩:=hb
  obtain⟨b',g1,g2⟩:=z9j (o:=o) hl hi n (j+1) b1 (by omega)
  refine⟨b',?_,?_⟩
  ·unfold xv at g1 ⊢
   rw[qw hb1];exact g1
  ·rw[g2,hb2,List.drop_eq_getElem_cons hj]
   constructor
   ·rintro((h|h)|⟨e',he',h⟩)
    ·exact .inl h
    ·exact .inr ⟨_,List.mem_cons_self ..,h⟩
    ·exact .inr ⟨e',List.mem_cons_of_mem _ he',h⟩
   ·rintro(h|⟨e',he',h⟩)
    ·exact .inl (.inl h)
    ·rcases List.mem_cons.1 he' with rfl|he'
     ·exact .inl (.inr h)
     ·exact .inr ⟨e',he',h⟩
theorem z54{es:List Ed}(hl:es.length≤400)(ha:∀k,¬Rc es k k):∀ (n i:Nat) (o:List Ed),i+n=es.length→o.length≤i→xq none es o (i:Int)=some (rd es (es.drop i) o)
 |0,i,o,h,ho=>by
  have:i=es.length:=by omega
  subst this
  unfold xq
  rw[yv (x:=some o),List.drop_length]
  ·rfl
  ·unfold q8 jv
   rw[if_neg (by simp)]
 |n+1,i,o,h,ho=>by
  have hi:i<es.length:=by omega
  have hb:q8 none es o (i:Int)=some (.inl (if(!red es es[i]&&!decide (es[i]∈o))=true then o++[es[i]] else o,((i+1:Nat):Int))):=by
   obtain⟨b,g1,g2⟩:=z9j (o:=o) hl hi es.length 0 false (by omega)
   have hbr:b=red es es[i]:=by
    rw[Bool.eq_iff_iff,g2,zee,List.drop_zero]
    constructor
    ·rintro(h|⟨e',he',h1,_,h3⟩)
     ·cases h
     ·exact⟨e'.f_To,⟨e',he',h1,rfl⟩,h3⟩
    ·rintro⟨k,⟨e',he',h1,h2⟩,h3⟩
     have h2':e'.f_To=k:=h2
     subst h2'
     exact .inr ⟨e',he',h1,fun e=>ha _ (by rw[e] at h3;exact h3),h3⟩
   unfold q8
   rw[if_pos (by simpa using hi),if_pos (by simp;omega)]
   refine g1.trans ?_
   rw[hbr]
   unfold xx xp
   simp only[Int.toNat_natCast,wo hi,u9,z7i]
   rw[Wz (by omega),Wi (by omega)]
   cases red es es[i] with
   |true=>rfl
   |false=>
    by_cases c:es[i]∈o
    ·rw[decide_eq_true c];rfl
    ·rw[decide_eq_false c,if_pos (by decide),Option.bind_some,if_pos (by decide),if_pos (by simp;omega),if_pos (by decide)]
  have ih':=z54 hl ha n (i+1) (if(!red es es[i]&&!decide (es[i]∈o))=true then o++[es[i]] else o) (by omega) (by split<;>first|(simp only[List.length_append,List.length_singleton];omega)|omega)
  rw[List.drop_eq_getElem_cons hi]
  unfold rd
  unfold xq at ih' ⊢
  rw[qw hb];exact ih'
theorem ztx(c n:Nat):(if(c:Int)<(n:Int) then(c:Int) else(n:Int))=((min c n:Nat):Int):=by split<;>omega
theorem zu5{a0:List Ed}:yp none a0=some true:=by
 obtain⟨es,hes⟩:∃es,es=a0.take (min 20 a0.length):=⟨_,rfl⟩
 have hl:es.length≤20:=by rw[hes,List.length_take];omega
 obtain⟨ks,M,hn,hg⟩:=Jb (es:=es) (rev:=false) (by omega)
 have hkl:=hg.klen
 obtain⟨b,hc,hb⟩:=zf0 hg (by omega)
 have ht:=zrw hg hn (by omega)
 have ec:(if(20:Int)<(a0.length:Int) then(20:Int) else(a0.length:Int))=((min 20 a0.length:Nat):Int):=ztx 20 _
 unfold yp
 rw[zax]
 simp only[Option.bind_some,List.length_map,ec,Int.toNat_natCast,←hes,hc]
 rw[if_neg (by decide),if_pos (by omega)]
 cases b with
 |true=>
  obtain⟨k,hk⟩:=hb.1 rfl
  have hT:zx none es=some ([],8):=by
   unfold zx
   rw[ht,zb3 hg hk]
   rfl
  rw[hT]
  rfl
 |false=>
  have ha:∀k,¬Rc es k k:=fun k hk=>by have:=hb.2 ⟨k,hk⟩;cases this
  obtain⟨P,hP⟩:=U3 hg (by omega) ha ks.length [] (by simp) .nil (fun x hx=>by cases hx)
  obtain⟨B,b1,b2⟩:=z8r hg (by omega) ks.length 0 [] (by omega) ⟨fun j hj=>absurd hj (by rw[List.take_zero];exact List.not_mem_nil),fun j=>by simp[nx,lk]⟩
  have hT:zx none es=some (rd es es [],0):=by
   unfold zx
   rw[ht,hP,Option.bind_some,if_neg (by simp),hn,Option.bind_some]
   refine Eq.trans b1 ?_
   unfold qk
   rw[if_pos (by rw[List.length_map];split<;>omega)]
   have:=zj9 hg (by omega) b2 es.length 0 [] (by omega) (by simp)
   rwa [List.drop_zero] at this
  have hR:jp none es=some (rd es es []):=by
   have:=z54 (by omega) ha es.length 0 [] (by omega) (by simp)
   rwa [List.drop_zero] at this
  have hrl:=zml (es:=es) es []
  rw[hT,hR]
  simp only[Option.bind_some]
  rw[if_neg (by decide),if_pos (by decide),Option.bind_some,if_pos (by decide),zif (by simp only[List.length_nil] at hrl;omega)]
  rfl
end Go.Proofs.Ytejfgjggcoemeaa
