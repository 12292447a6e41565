/-
  Edits of a text, and of a module: what validation and application give; no condition.
-/
import Derived.Test.YtjkfnbjgpilokaaGreatDoorGenA
import Derived.Test.YtjkfnbjgpilokaaGreatDoorFd
import Derived.Test.YtjkfnbjgpilokaaGreatDoorRows
import Derived.Lib.LaidU8
import Derived.MakeChecks
import Derived.LaidOnce
open Int renaming toNat_natCast→p2
open List renaming drop_eq_getElem_cons→p3,length_append→p4,length_map→p9,length_take→pA,length_singleton→pB,append_assoc→pC,drop_zero→pD,length_cons→pE,length_drop→pF
open Option renaming bind_some→p1
namespace Go.Proofs.YtjkfnbjgpilokaaGreatDoor
open Go.Fx
set_option linter.unusedVariables false
theorem zbw(m:Option Nat):xk m=some true:=rfl
theorem Wi{i:Nat}(h:i≤4611686018427387904):W ((i:Int)+1)=((i+1:Nat):Int):=by rw[zp0 (by unfold inR;omega)];omega
theorem vi{α:Type}[Inhabited α]{l:List α}{i:Nat}(h:i<l.length):l.getD i default=l[i]:=by
 simp[List.getD_eq_getElem?_getD,h]
def dl(e:G_TextEdit):Int:=(e.f_NewText.length:Int)-(e.f_End-e.f_Start)
def Sz(es:List G_TextEdit):Prop:=∀e∈es,e.f_NewText.length≤140737488355328
def V(n:Int):Int→Int→List G_TextEdit→Int
 |p,L,[]=>if L > 2000 then 2 else 0
 |p,L,e::r=>if e.f_Start≤p∨e.f_End<e.f_Start∨e.f_End > n then 3 else V n e.f_End (W (L+dl e)) r
def VE(src:List UInt8)(es:List G_TextEdit):Int:=if src.length > 2000∨es.length > 50 then 2 else V src.length (-1) src.length es
theorem z91{a0:List UInt8}{a1:List G_TextEdit}(hl:a1.length≤50):∀ (k i:Nat) (p L:Int),i+k=a1.length→
 xt none a0 a1 p L (i:Int)=some (V a0.length p L (a1.drop i))
 |0,i,p,L,h=>by
  have:i=a1.length:=by omega
  subst this
  unfold xt
  rw[qb (x:=some (V a0.length p L [])) ?_]
  ·rw[List.drop_length]
  ·unfold qq
   rw[if_neg (by simp)]
   unfold jz V
   by_cases h:L > 2000<;>simp[h]
 |k+1,i,p,L,h=>by
  have hi:i<a1.length:=by omega
  have ih:=z91 (a0:=a0) hl k (i+1)
  unfold xt at ih ⊢
  rw[p3 hi]
  have e1:=Wi (show i≤4611686018427387904 by omega)
  have hb:qq none a0 a1 p L (i:Int)=if a1[i].f_Start≤p∨a1[i].f_End<a1[i].f_Start∨a1[i].f_End > (a0.length:Int) then some (.inr 3) else some (.inl (a1[i].f_End,W (L+dl a1[i]),((i+1:Nat):Int))):=by
   unfold qq
   rw[if_pos (by simpa using hi),if_pos (by simpa using hi)]
   simp only[p2,vi hi,e1]
   by_cases hc:a1[i].f_Start≤p∨a1[i].f_End<a1[i].f_Start∨a1[i].f_End > (a0.length:Int)
   ·rw[if_pos (by simp;omega),if_pos hc];rfl
   ·rw[if_neg (by simp;omega),if_neg hc]
    rw[zsr,zte]
    rfl
  rw[V]
  by_cases hc:a1[i].f_Start≤p∨a1[i].f_End<a1[i].f_Start∨a1[i].f_End > (a0.length:Int)
  ·rw[qb (x:=some 3) (by rw[hb,if_pos hc];rfl),if_pos hc]
  ·rw[xu (s':=(a1[i].f_End,W (L+dl a1[i]),((i+1:Nat):Int))) (by rw[hb,if_neg hc]),if_neg hc]
   exact ih _ _ (by omega)
theorem z78(a0:List UInt8)(a1:List G_TextEdit):xw none a0 a1=some (VE a0 a1):=by
 unfold xw VE
 by_cases h:a0.length > 2000∨a1.length > 50
 ·rw[if_pos (by simp;omega),if_pos h]
 ·rw[if_neg (by simp;omega),if_neg h]
  exact z91 (by omega) a1.length 0 _ _ (by omega)
def U8(a1:List G_TextEdit):Nat→Int
 |0=>-1
 |i+1=>(a1.getD i default).f_End
theorem z5b{a0:List UInt8}{a1:List G_TextEdit}(hl:a1.length≤50):∀ (k i:Nat) (L:Int),i+k=a1.length→-1≤U8 a1 i →
 yx none a0 a1 L (i:Int)=some (V a0.length (U8 a1 i) L (a1.drop i))
 |0,i,L,h,h1=>by
  have:i=a1.length:=by omega
  subst this
  unfold yx
  rw[qb (x:=some (V a0.length (U8 a1 a1.length) L [])) ?_]
  ·rw[List.drop_length]
  ·unfold y1
   rw[if_neg (by simp)]
   unfold qz V
   by_cases h:L > 2000<;>simp[h]
 |k+1,i,L,h,h1=>by
  have hi:i<a1.length:=by omega
  have ih:=z5b (a0:=a0) hl k (i+1)
  unfold yx at ih ⊢
  rw[p3 hi]
  have e1:=Wi (show i≤4611686018427387904 by omega)
  have hp:U8 a1 (i+1)=a1[i].f_End:=by
   show(a1.getD i default).f_End=_
   rw[vi hi]
  have hj:zx none a0 a1 L (i:Int) (U8 a1 i)=if a1[i].f_Start≤U8 a1 i∨a1[i].f_End<a1[i].f_Start∨a1[i].f_End > (a0.length:Int) then some (.inr 3) else some (.inl (W (L+dl a1[i]),((i+1:Nat):Int))):=by
   unfold zx
   rw[if_pos (by simpa using hi)]
   simp only[p2,vi hi,e1]
   by_cases hc:a1[i].f_Start≤U8 a1 i∨a1[i].f_End<a1[i].f_Start∨a1[i].f_End > (a0.length:Int)
   ·rw[if_pos (by simp;omega),if_pos hc];rfl
   ·rw[if_neg (by simp;omega),if_neg hc]
    rw[zxe,zwt]
    unfold dl
    congr 4
    omega
  have hb:y1 none a0 a1 L (i:Int)=zx none a0 a1 L (i:Int) (U8 a1 i):=by
   unfold y1
   rw[if_pos (by simpa using hi)]
   cases i with
   |zero=>rw[if_neg (by simp)];rfl
   |succ j=>
    have e2:W (((j+1:Nat):Int)-1)=(j:Int):=by rw[zp0 (by unfold inR;omega)];omega
    rw[if_pos (by first|(simp;done)|(simp;omega)),e2,if_pos (by first|(simp;done)|(simp;omega))]
    rfl
  rw[V]
  by_cases hc:a1[i].f_Start≤U8 a1 i∨a1[i].f_End<a1[i].f_Start∨a1[i].f_End > (a0.length:Int)
  ·rw[qb (x:=some 3) (by rw[hb,hj,if_pos hc];rfl),if_pos hc]
  ·rw[xu (s':=(W (L+dl a1[i]),((i+1:Nat):Int))) (by rw[hb,hj,if_neg hc]),if_neg hc]
   rw[←hp]
   exact ih _ (by omega) (by omega)
theorem z4w(a0:List UInt8)(a1:List G_TextEdit):yk none a0 a1=some (VE a0 a1):=by
 unfold yk VE
 by_cases h:a0.length > 2000∨a1.length > 50
 ·rw[if_pos (by simp;omega),if_pos h]
 ·rw[if_neg (by simp;omega),if_neg h]
  have:=z5b (a0:=a0) (a1:=a1) (by omega) a1.length 0 a0.length (by omega) (by simp[U8])
  simpa[U8] using this
def Ok(n:Int):Int→List G_TextEdit→Prop
 |_,[]=>True
 |p,e::r=>p<e.f_Start∧e.f_Start≤e.f_End∧e.f_End≤n∧Ok n e.f_End r
def D:List G_TextEdit→Int
 |[]=>0
 |e::r=>dl e+D r
def Ln:List G_TextEdit→Int
 |[]=>0
 |e::r=>(e.f_NewText.length:Int)+Ln r
theorem Sz.tail{e:G_TextEdit}{r:List G_TextEdit}(h:Sz (e::r)):Sz r:=fun x hx=>h x (List.mem_cons_of_mem _ hx)
theorem Sz.drop{es:List G_TextEdit}(h:Sz es)(i:Nat):Sz (es.drop i):=fun x hx=>h x (List.mem_of_mem_drop hx)
theorem zuw{es:List G_TextEdit}(h:Sz es):Ln es≤(es.length:Int)*140737488355328:=by
 induction es with
 |nil=>simp[Ln]
 |cons e r ih=>
  have h1:=ih h.tail
  have h2:=h e (List.mem_cons_self ..)
  simp only[Ln,pE]
  omega
theorem znf:∀ (es:List G_TextEdit),0≤Ln es
 |[]=>by simp[Ln]
 |e::r=>by have:=znf r;simp only[Ln];omega
theorem zya{n:Int}(hn:n≤2000)(es:List G_TextEdit):∀ (p L:Int),-1≤p→Ln es+L≤4611686018427387904→-4611686018427387904+2000*(es.length:Int)≤L→V n p L es=0→Ok n p es∧L+D es≤2000:=by
 induction es with
 |nil=>
  intro p L h1 h2 h3 h4
  refine⟨trivial,?_⟩
  unfold V at h4
  split at h4
  ·cases h4
  ·simp only[D];omega
 |cons e r ih=>
  intro p L h1 h2 h3 h4
  unfold V at h4
  split at h4
  ·cases h4
  ·rename_i hc
   have hp:=znf r
   simp only[Ln,pE] at h2 h3
   have hw:W (L+dl e)=L+dl e:=zp0 (by unfold inR dl;omega)
   rw[hw] at h4
   obtain⟨g1,g2⟩:=ih e.f_End (L+dl e) (by omega) (by unfold dl;omega) (by unfold dl;omega) h4
   exact⟨⟨by omega,by omega,by omega,g1⟩,by simp only[D];omega⟩
theorem zgl{n:Int}(hn:n≤2000):∀ (es:List G_TextEdit) (p:Int),-1≤p→Ok n p es→D es≤Ln es
 |[],p,_,_=>by simp[D,Ln]
 |e::r,p,hp,h=>by
  obtain⟨h1,h2,h3,h4⟩:=h
  have:=zgl hn r e.f_End (by omega) h4
  simp only[D,Ln];unfold dl;omega
theorem Ok.drop{n:Int}:∀ (es:List G_TextEdit) (p:Int),-1≤p→Ok n p es→∀i,∃p',-1≤p'∧Ok n p' (es.drop i)
 |es,p,hp,h,0=>⟨p,hp,h⟩
 |[],p,hp,h,i+1=>⟨p,hp,trivial⟩
 |e::r,p,hp,h,i+1=>Ok.drop r e.f_End (by have:=h.1;have:=h.2.1;omega) h.2.2.2 i
theorem Ok.take{n:Int}:∀ (es:List G_TextEdit) (p:Int) (i:Nat),Ok n p es→(hi:i<es.length)→p<es[i].f_Start∧Ok (es[i].f_Start) p (es.take i)
 |[],p,i,h,hi=>by simp at hi
 |e::r,p,0,h,hi=>⟨h.1,trivial⟩
 |e::r,p,i+1,h,hi=>by
  obtain⟨h1,h2,h3,h4⟩:=h
  obtain⟨g1,g2⟩:=Ok.take r e.f_End i h4 (by simpa using hi)
  refine⟨?_,?_⟩
  ·simp only[List.getElem_cons_succ];omega
  ·simp only[List.getElem_cons_succ,List.take_succ_cons]
   exact⟨h1,h2,by omega,g2⟩
theorem Ok.at{n:Int}:∀ (es:List G_TextEdit) (p:Int) (i:Nat),-1≤p→Ok n p es→(hi:i<es.length)→0≤es[i].f_Start∧es[i].f_Start≤es[i].f_End∧es[i].f_End≤n∧Ok n es[i].f_End (es.drop (i+1))
 |[],p,i,hp,h,hi=>by simp at hi
 |e::r,p,0,hp,h,hi=>⟨by have:=h.1;simp only[List.getElem_cons_zero];omega,h.2.1,h.2.2.1,h.2.2.2⟩
 |e::r,p,i+1,hp,h,hi=>by
  have:=Ok.at r e.f_End i (by have:=h.1;have:=h.2.1;omega) h.2.2.2 (by simpa using hi)
  simpa using this
def A(src:List UInt8):Nat→List G_TextEdit→List UInt8
 |off,[]=>src.drop off
 |off,e::r=>(src.take e.f_Start.toNat).drop off++(e.f_NewText++A src e.f_End.toNat r)
theorem zlm{src:List UInt8}:∀ (es:List G_TextEdit) (off:Nat) (p:Int),Ok src.length p es→(off:Int)≤p+1→off≤src.length→((A src off es).length:Int)=src.length-off+D es
 |[],off,p,h,h1,h2=>by simp only[A,D,pF];omega
 |e::r,off,p,h,h1,h2=>by
  obtain⟨g1,g2,g3,g4⟩:=h
  have:=zlm r e.f_End.toNat e.f_End g4 (by omega) (by omega)
  simp only[A,D,p4,pF,pA]
  unfold dl
  omega
theorem zpy{src:List UInt8}:∀ (es:List G_TextEdit) (E:Nat) (p:Int),Ok src.length p es→(E:Int)≤p+1→E≤src.length→A src 0 es=src.take E++A src E es
 |[],E,p,_,_,_=>by simp only[A,pD,List.take_append_drop]
 |e::r,E,p,h,h1,h2=>by
  obtain⟨g1,g2,g3,g4⟩:=h
  simp only[A,pD]
  rw[←pC (src.take E)]
  congr 1
  have:(src.take e.f_Start.toNat).take E=src.take E:=by rw[List.take_take];congr 1;omega
  rw[←this,List.take_append_drop]
theorem zg4{a0:List UInt8}{a1:List G_TextEdit}(hn:a0.length≤2000)(hl:a1.length≤50):∀ (k i off:Nat) (p:Int) (acc:List UInt8),i+k=a1.length→-1≤p→Ok a0.length p (a1.drop i)→(off:Int)≤p+1→off≤a0.length →
 acc.length+(A a0 off (a1.drop i)).length≤2000→jv none a0 a1 (off:Int) (i:Int) acc=some (acc++A a0 off (a1.drop i),0)
 |0,i,off,p,acc,h,hp,h1,h2,h3,h4=>by
  have:i=a1.length:=by omega
  subst this
  rw[List.drop_length] at h4 ⊢
  simp only[A] at h4 ⊢
  unfold jv
  rw[qb (x:=some (acc++a0.drop off,0)) ?_]
  unfold xv
  rw[if_neg (by simp)]
  unfold wj
  dsimp only
  rw[List.take_length,p2,if_pos (by omega),if_pos (by omega),if_pos (by rw[p4];omega)]
 |k+1,i,off,p,acc,h,hp,h1,h2,h3,h4=>by
  have hi:i<a1.length:=by omega
  have ih:=zg4 hn hl k (i+1)
  rw[p3 hi] at h1 h4 ⊢
  obtain⟨g1,g2,g3,g4⟩:=h1
  have e1:=Wi (show i≤4611686018427387904 by omega)
  simp only[A,p4] at h4
  unfold jv at ih ⊢
  rw[xu (s':=(a1[i].f_End,((i+1:Nat):Int),acc++((a0.take a1[i].f_Start.toNat).drop off++a1[i].f_NewText))) ?_]
  ·have:=ih a1[i].f_End.toNat a1[i].f_End (acc++((a0.take a1[i].f_Start.toNat).drop off++a1[i].f_NewText)) (by omega) (by omega) g4 (by omega) (by omega) (by simp only[p4];omega)
   rw[show((a1[i].f_End.toNat:Nat):Int)=a1[i].f_End by omega] at this
   rw[this]
   simp only[A,pC]
  ·unfold xv
   rw[if_pos (by simpa using hi),if_pos (by simpa using hi)]
   simp only[p2,vi hi,e1]
   rw[if_pos (by omega),if_pos (by omega),if_pos (by simp only[p4];omega)]
theorem ziu{src:List UInt8}{es:List G_TextEdit}(hz:Sz es)(hn:src.length≤2000)(hl:es.length≤50)(hok:Ok src.length (-1) es):∀ (i:Nat),i≤es.length →
 qo none es (A src 0 (es.drop i)) ((i:Int)-1)=some (A src 0 es)
 |0,_=>by
  unfold qo
  rw[qb (x:=some (A src 0 es)) ?_]
  unfold yl
  rw[if_neg (by simp)]
  rfl
 |i+1,h=>by
  have hi:i<es.length:=by omega
  have ih:=ziu hz hn hl hok i (by omega)
  obtain⟨g1,g2,g3,g4⟩:=Ok.at es (-1) i (by omega) hok hi
  have hlen:=zlm (es.drop (i+1)) 0 es[i].f_End g4 (by omega) (by omega)
  have hD:=zgl (by omega) (es.drop (i+1)) es[i].f_End (by omega) g4
  have hL:=zuw (hz.drop (i+1))
  have hz1:=hz es[i] (List.getElem_mem hi)
  have hdl:(es.drop (i+1)).length≤50:=by rw[pF];omega
  have hsp:=zpy (es.drop (i+1)) es[i].f_End.toNat es[i].f_End g4 (by omega) (by omega)
  have hv1:(A src 0 (es.drop (i+1))).take es[i].f_Start.toNat=src.take es[i].f_Start.toNat:=by
   rw[hsp,List.take_append_of_le_length (by rw[pA];omega),List.take_take];congr 1;omega
  have hv2:(A src 0 (es.drop (i+1))).drop es[i].f_End.toNat=A src es[i].f_End.toNat (es.drop (i+1)):=by
   rw[hsp,List.drop_append_of_le_length (by rw[pA];omega)]
   rw[List.drop_of_length_le (by rw[pA];omega)];rfl
  have hge:es[i].f_End.toNat≤(A src 0 (es.drop (i+1))).length:=by
   rw[hsp,p4,pA];omega
  unfold qo at ih ⊢
  rw[xu (s':=(A src 0 (es.drop i),((i:Int)-1))) ?_]
  ·exact ih
  ·have e1:(((i+1:Nat):Int)-1)=(i:Int):=by omega
   have e2:W ((i:Int)-1)=(i:Int)-1:=zp0 (by unfold inR;omega)
   unfold yl
   simp only[e1]
   rw[if_pos (by simp),if_pos (by simpa using hi)]
   simp only[p2,vi hi,e2]
   rw[if_pos (by omega),if_pos (by simpa using hi),hv1,if_pos (by simp only[pF,pA];omega),if_pos (by simpa using hi),if_pos (by omega),List.take_length,hv2]
   have hl2:((A src es[i].f_End.toNat (es.drop (i+1))).length:Int)≤2000+50*140737488355328:=by
    have:=zlm (es.drop (i+1)) es[i].f_End.toNat es[i].f_End g4 (by omega) (by omega)
    omega
   rw[if_pos (by simp only[pF,pA,p4];omega),p3 hi]
   simp only[A,pC]
theorem zin{src:List UInt8}{es:List G_TextEdit}(hz:Sz es)(hn:src.length≤2000)(hl:es.length≤50)(hok:Ok src.length (-1) es):qf none src es=some (A src 0 es):=by
 have:=ziu hz hn hl hok es.length (Nat.le_refl _)
 unfold qf
 rw[p9,zp0 (by unfold inR;omega)]
 rw[List.drop_length] at this
 simpa[A] using this
theorem zaw{a0:List UInt8}{a1:List G_TextEdit}(hz:Sz a1)(h:VE a0 a1=0):a0.length≤2000∧a1.length≤50∧Ok a0.length (-1) a1∧(a0.length:Int)+D a1≤2000:=by
 unfold VE at h
 split at h
 ·cases h
 ·rename_i hc
  have hL:=zuw hz
  obtain⟨g1,g2⟩:=zya (n:=(a0.length:Int)) (by omega) a1 (-1) a0.length (by omega) (by omega) (by omega) h
  exact⟨by omega,by omega,g1,g2⟩
theorem zm9{a0:List UInt8}{a1:List G_TextEdit}(hz:Sz a1):w6 none a0 a1=some (if VE a0 a1=0 then(A a0 0 a1,0) else([],VE a0 a1)):=by
 unfold w6
 rw[z78]
 simp only[p1]
 by_cases h:VE a0 a1=0
 ·obtain⟨h1,h2,h3,h4⟩:=zaw hz h
  have hlen:=zlm a1 0 (-1) h3 (by omega) (by omega)
  rw[if_neg (by simp[h]),if_pos h]
  have:=zg4 h1 h2 a1.length 0 0 (-1) [] (by omega) (by omega) h3 (by omega) (by omega) (by simp only[pD,List.length_nil];omega)
  simpa using this
 ·rw[if_pos (by simpa using h),if_neg h]
abbrev BB:Nat:=4611686018427387904
abbrev TEs:=List G_TextEdit
abbrev FEs:=List G_FileEdit
def ems(q:Int):FEs→TEs
 |[]=>[]
 |e::r=>if e.f_Module=q then e.f_TextEdit::ems q r else ems q r
theorem zi1(q:Int):∀l:FEs,(ems q l).length≤l.length
 |[]=>Nat.le_refl _
 |e::r=>by
  have:=zi1 q r
  rw[ems]
  split
  ·simp only[pE];omega
  ·simp only[pE];omega
theorem z2e{l:FEs}(hl:l.length*32≤140737488355328){q:Int}:∀ (k i:Nat) (v:TEs),i+k=l.length→v.length≤i →
 zy none l q v (i:Int)=some (v++ems q (l.drop i))
 |0,i,v,h,hv=>by
  have:i=l.length:=by omega
  subst this
  unfold zy
  rw[qb (x:=some v) ?_]
  ·simp[ems]
  ·unfold zz qx
   rw[if_neg (by simp)]
 |k+1,i,v,h,hv=>by
  have hi:i<l.length:=by omega
  have e3:(⟨l[i].f_TextEdit.f_Start,l[i].f_TextEdit.f_End,l[i].f_TextEdit.f_NewText⟩:G_TextEdit)=l[i].f_TextEdit:=rfl
  have hb:zz none l q v (i:Int)=if l[i].f_Module=q then some (.inl (v++[l[i].f_TextEdit],((i+1:Nat):Int))) else some (.inl (v,((i+1:Nat):Int))):=by
   unfold zz yv
   rw[if_pos (by simpa using hi),if_pos (by simpa using hi)]
   simp only[p2,vi hi,Wi (show i≤BB by unfold BB;omega),e3]
   by_cases hq:l[i].f_Module=q
   ·rw[if_pos (by simpa using hq),if_pos hq,if_pos (by simpa using hi),if_pos (by rw[p9,p4,pB];omega)]
   ·rw[if_neg (by simpa using hq),if_neg hq]
  unfold zy
  rw[p3 hi,ems]
  by_cases hq:l[i].f_Module=q
  ·have ih:=z2e hl (q:=q) k (i+1) (v++[l[i].f_TextEdit]) (by omega) (by rw[p4,pB];omega)
   unfold zy at ih
   rw[xu (s':=(v++[l[i].f_TextEdit],((i+1:Nat):Int))) (by rw[hb,if_pos hq]),ih,if_pos hq,pC]
   rfl
  ·have ih:=z2e hl (q:=q) k (i+1) v (by omega) (by omega)
   unfold zy at ih
   rw[xu (s':=(v,((i+1:Nat):Int))) (by rw[hb,if_neg hq]),ih,if_neg hq]
theorem zn7{l:FEs}(hl:l.length*32≤140737488355328){q:Int}:y8 none l q=some (ems q l):=by
 unfold y8
 have:=z2e hl (q:=q) _ 0 [] (Nat.zero_add _) (Nat.le_refl _)
 simpa using this
theorem z3u{c:Int→Option Bool}(hc:∀x,∃b,c x=some b){l:List UInt8}(hl:l.length≤BB):∀ (k i:Nat),i+k=l.length →
 ∃r:Int,wz (fun(s:Unit) (x:Int)=>(c x).map fun o=>(o,())) none l (i:Int) ()=some (r,())∧0≤r∧r≤(l.length:Int)
 |0,i,h=>by
  refine⟨(i:Int),?_,by omega,by omega⟩
  unfold wz
  refine qb (x:=some ((i:Int),())) ?_
  unfold ju
  have hn:decide ((i:Int)<(l.length:Int))=false:=decide_eq_false (by omega)
  rw[hn,if_pos (by simp),if_neg (by simp)]
  unfold wc ww
  rw[if_neg (by simp)]
 |k+1,i,h=>by
  have hi:i<l.length:=by omega
  obtain⟨r,ih,h1,h2⟩:=z3u hc hl k (i+1) (by omega)
  obtain⟨b,hb⟩:=hc (((l.getD (i:Int).toNat 0).toNat:Nat):Int)
  have hd:decide ((i:Int)<(l.length:Int))=true:=decide_eq_true (by omega)
  have hbb:ju (fun(s:Unit) (x:Int)=>(c x).map fun o=>(o,())) none l (i:Int) ()=if b=true then some (.inl (((i+1:Nat):Int),())) else some (.inr ((i:Int),())):=by
   unfold ju
   rw[hd,if_pos (fun _=>by omega),if_pos (by rfl)]
   simp only[hb,Option.map_some,p1,Bool.true_and]
   unfold wc ww
   rw[Wi (show i≤4611686018427387904 by unfold BB at hl;omega)]
   rfl
  unfold wz at ih ⊢
  cases b with
  |true=>exact⟨r,by rw[xu (s':=(((i+1:Nat):Int),())) (hbb.trans (if_pos rfl)),ih],h1,h2⟩
  |false=>exact⟨(i:Int),qb (x:=some ((i:Int),())) (hbb.trans (if_neg (by simp))),by omega,by omega⟩
theorem V9{c:Int→Option Bool}(hc:∀x,∃b,c x=some b){l:List UInt8}(hl:l.length≤BB)(i:Nat)(hi:i≤l.length) :
 ∃r:Int,x3 (fun(s:Unit) (x:Int)=>(c x).map fun o=>(o,())) none l (i:Int) ()=some (r,())∧0≤r∧r≤(l.length:Int):=
 z3u hc hl (l.length-i) i (by omega)
theorem z4q{l:List (List UInt8)}(hl:l.length≤BB)(x:List UInt8):∀ (k i:Nat),i+k=l.length→∃r,qv none l x (i:Int)=some r
 |0,i,h=>by
  refine⟨-1,?_⟩
  unfold qv
  refine qb (x:=some (-1)) ?_
  unfold yz j9
  rw[if_neg (by simp;omega)]
 |k+1,i,h=>by
  have hi:i<l.length:=by omega
  obtain⟨r,ih⟩:=z4q hl x k (i+1) (by omega)
  have hb:yz none l x (i:Int)=if(x==l[i])=true then some (.inr (i:Int)) else some (.inl ((i+1:Nat):Int)):=by
   unfold yz
   rw[if_pos (by simpa using hi),if_pos (by simpa using hi)]
   simp only[p2,vi hi,Wi (show i≤4611686018427387904 by unfold BB at hl;omega),Option.map_some]
  unfold qv at ih ⊢
  by_cases hc:(x==l[i])=true
  ·exact⟨(i:Int),qb (x:=some (i:Int)) (hb.trans (by rw[if_pos hc];rfl))⟩
  ·exact⟨r,by rw[xu (s':=((i+1:Nat):Int)) (hb.trans (if_neg hc)),ih]⟩
theorem zn4{l:List (List UInt8)}(hl:l.length≤BB)(x:List UInt8):∃b,yh none l x=some b:=by
 unfold yh j8
 obtain⟨r,h⟩:=z4q hl x l.length 0 (by omega)
 exact⟨decide (r≥0),by rw[show qv none l x 0=some r from h];rfl⟩
theorem W3{l:List UInt8}(hl:l.length≤BB)(h0:1≤l.length):∀ (k i:Nat),l.length≤i+k→∃r,x5 none l (i:Int)=some r
 |0,i,h=>by
  obtain⟨r,hr,_⟩:=V9 (c:=yr none) (fun x=>⟨_,rfl⟩) hl 1 h0
  refine⟨(r,108),?_⟩
  unfold x5
  refine qb (x:=some (r,108)) ?_
  unfold x4 j5
  have hd:decide ((i:Int)<(l.length:Int))=false:=decide_eq_false (by omega)
  rw[hd,if_pos (by simp),if_neg (by simp),show x3 (fun(s:Unit) (x:Int)=>(yr none x).map fun o=>(o,())) none l 1 ()=some (r,()) from hr]
  rfl
 |k+1,i,h=>by
  by_cases hi:i<l.length
  ·have hd:decide ((i:Int)<(l.length:Int))=true:=decide_eq_true (by omega)
   have e1:=Wi (show i≤4611686018427387904 by unfold BB at hl;omega)
   have hst:∀ {x:Option (Int ⊕ (Int×Int))},x4 none l (i:Int)=x→((∃r,x=some (.inr r))∨x=some (.inl ((i+1:Nat):Int))∨x=some (.inl ((i+2:Nat):Int)))→∃r,x5 none l (i:Int)=some r:=by
    intro x hx hh
    unfold x5
    rcases hh with⟨r,rfl⟩|rfl|rfl
    ·exact⟨r,qb (x:=some r) hx⟩
    ·obtain⟨r,hr⟩:=W3 hl h0 k (i+1) (by omega)
     exact⟨r,by rw[xu hx];exact hr⟩
    ·obtain⟨r,hr⟩:=W3 hl h0 k (i+2) (by omega)
     exact⟨r,by rw[xu hx];exact hr⟩
   refine hst rfl ?_
   unfold x4
   rw[hd,if_pos (fun _=>by omega),e1]
   generalize (((l.getD (i:Int).toNat 0).toNat:Nat):Int)=y
   by_cases hy:y=10
   ·rw[if_neg (by simp[hy])]
    obtain⟨r,hr,_⟩:=V9 (c:=yr none) (fun x=>⟨_,rfl⟩) hl 1 h0
    refine .inl ⟨(r,108),?_⟩
    unfold j5
    rw[show x3 (fun(s:Unit) (x:Int)=>(yr none x).map fun o=>(o,())) none l 1 ()=some (r,()) from hr]
    rfl
   ·rw[if_pos (by simpa using hy),if_pos (by omega)]
    by_cases hq:y=34
    ·rw[if_pos (by simpa using hq)]
     exact .inl ⟨_,rfl⟩
    ·rw[if_neg (by simpa using hq),if_pos (by omega)]
     have hg:((((y==92)&&(decide (((i+1:Nat):Int)<(l.length:Int))))==true)=true→(0:Int)≤((i+1:Nat):Int)∧((i+1:Nat):Int)<(l.length:Int)):=by
      intro hh
      simp only[beq_true,Bool.and_eq_true,decide_eq_true_eq] at hh
      omega
     rw[if_pos hg]
     by_cases hc:((((y==92)&&(decide (((i+1:Nat):Int)<(l.length:Int))))&&((((l.getD (((i+1:Nat):Int)).toNat 0).toNat:Nat):Int) != 10)))=true
     ·rw[if_pos hc]
      unfold xi
      rw[Wi (show i+1≤4611686018427387904 by unfold BB at hl;omega)]
      exact .inr (.inr rfl)
     ·rw[if_neg hc]
      unfold xi
      rw[e1]
      exact .inr (.inl rfl)
  ·exact W3 hl h0 0 i (by omega)
theorem zx4(a b:List UInt8):∃r,xx none a b=some r:=by
 unfold xx xm
 rw[if_pos (fun hh=>by simp only[beq_true,decide_eq_true_eq] at hh;omega)]
 exact⟨_,rfl⟩
theorem zmq{l:List UInt8}(hl:l.length≤BB)(h0:1≤l.length):∃r,vh none l=some r:=by
 unfold vh
 rw[if_pos (by omega)]
 generalize (((l.getD (0:Int).toNat 0).toNat:Nat):Int)=y
 have hsp:wu none y=some (decide (Go.Lib.indexByte [32,9,10,13] y.toNat.toUInt8≥0)):=rfl
 rw[hsp,p1]
 split
 ·obtain⟨r,hr,_⟩:=V9 (c:=jh none) (fun x=>⟨_,rfl⟩) hl 0 (by omega)
  exact⟨_,by rw[show x3 (fun(s:Unit) (x:Int)=>(jh none x).map fun o=>(o,())) none l 0 ()=some (r,()) from hr];rfl⟩
 ·obtain⟨p,hp⟩:=zx4 l [47,47]
  rw[hp,p1]
  split
  ·obtain⟨r,hr,_⟩:=V9 (c:=jf none) (fun x=>⟨_,rfl⟩) hl 0 (by omega)
   exact⟨_,by rw[show x3 (fun(s:Unit) (x:Int)=>(jf none x).map fun o=>(o,())) none l 0 ()=some (r,()) from hr];rfl⟩
  ·rw[show jg none y=some _ from rfl,p1]
   split
   ·have hc:∀x,∃b,xe none x=some b:=by
     intro x
     unfold xe
     rw[show jg none x=some _ from rfl,p1]
     split
     ·rw[show jt none x=some _ from rfl,p1];exact⟨_,rfl⟩
     ·exact⟨_,rfl⟩
    obtain⟨r,hr,h1,h2⟩:=V9 (c:=xe none) hc hl 0 (by omega)
    rw[show x3 (fun(s:Unit) (x:Int)=>(xe none x).map fun o=>(o,())) none l 0 ()=some (r,()) from hr,p1,if_pos ⟨h1,h2⟩,show uf none=some kwL from rfl,p1]
    obtain⟨b,hb⟩:=zn4 (l:=kwL) (by decide) ((l.take r.toNat).drop 0)
    rw[hb,p1]
    split
    ·exact⟨_,rfl⟩
    ·exact⟨_,rfl⟩
   ·rw[show jt none y=some _ from rfl,p1]
    split
    ·obtain⟨r,hr,_⟩:=V9 (c:=jd none) (fun x=>⟨_,rfl⟩) hl 0 (by omega)
     exact⟨_,by rw[show x3 (fun(s:Unit) (x:Int)=>(jd none x).map fun o=>(o,())) none l 0 ()=some (r,()) from hr];rfl⟩
    ·split
     ·obtain⟨r,hr⟩:=W3 hl h0 l.length 1 (by omega)
      unfold w8
      exact⟨_,by rw[show x5 none l 1=some r from hr];rfl⟩
     ·rw[if_pos (fun hh=>by simp only[beq_true,decide_eq_true_eq] at hh;omega)]
      have hx:∃b:List (List UInt8),(if((decide ((l.length:Int) > 1))==true)=true then vj none else some default)=some b∧b.length≤BB:=by
       split
       ·exact⟨tpL,rfl,by decide⟩
       ·exact⟨[],rfl,by decide⟩
      obtain⟨v12,hv12,hl12⟩:=hx
      rw[hv12,p1]
      have hy:∃b:Bool,(if((decide ((l.length:Int) > 1))==true)=true then yh none v12 ((l.take (2:Int).toNat).drop 0) else some default)=some b:=by
       split
       ·exact zn4 hl12 _
       ·exact⟨_,rfl⟩
      obtain⟨v13,hv13⟩:=hy
      rw[hv13,p1]
      split
      ·exact⟨_,rfl⟩
      ·rw[show jr none ([40,41,123,125,91,93,60,62,44,59,58,46,61,43,45,42,47,33,38,124]:List UInt8) y=some _ from rfl,p1]
       split
       ·exact⟨_,rfl⟩
       ·exact⟨_,rfl⟩
theorem zpf(l:List UInt8):∃b,xq none l=some b:=by
 unfold xq
 by_cases h:l.length=0∨l.length > 30
 ·rw[if_pos (by simp only[Bool.or_eq_true,beq_iff_eq,decide_eq_true_eq];omega)]
  exact⟨_,rfl⟩
 ·rw[if_neg (by simp only[Bool.or_eq_true,beq_iff_eq,decide_eq_true_eq];omega)]
  obtain⟨r,hr⟩:=zmq (l:=l) (by unfold BB;omega) (by omega)
  exact⟨_,by rw[hr];rfl⟩
theorem za7{c:G_Module→Option Bool}(hc:∀x,∃b,c x=some b){l:List G_Module}(hl:l.length≤BB):∀ (k i:Nat),i+k=l.length →
 ∃r:Int,yw (fun(s:Unit) (x:G_Module)=>(c x).map fun o=>(o,())) none l (i:Int) ()=some (r,())
 |0,i,h=>by
  refine⟨-1,?_⟩
  unfold yw
  refine qb (x:=some (-1,())) ?_
  unfold zw qy
  rw[if_neg (by simp;omega)]
 |k+1,i,h=>by
  have hi:i<l.length:=by omega
  obtain⟨r,ih⟩:=za7 hc hl k (i+1) (by omega)
  obtain⟨b,hb⟩:=hc l[i]
  have e3:(⟨l[i].f_Name,l[i].f_Source⟩:G_Module)=l[i]:=rfl
  have hbb:zw (fun(s:Unit) (x:G_Module)=>(c x).map fun o=>(o,())) none l (i:Int) ()=if b=true then some (.inr ((i:Int),())) else some (.inl (((i+1:Nat):Int),())):=by
   unfold zw
   rw[if_pos (by simpa using hi),if_pos (by simpa using hi)]
   simp only[p2,vi hi,Wi (show i≤4611686018427387904 by unfold BB at hl;omega),e3,hb,Option.map_some,p1]
  unfold yw at ih ⊢
  cases b with
  |true=>exact⟨(i:Int),qb (x:=some ((i:Int),())) (hbb.trans (if_pos rfl))⟩
  |false=>exact⟨r,by rw[xu (s':=(((i+1:Nat):Int),())) (hbb.trans (if_neg (by simp))),ih]⟩
theorem zn8{c:G_Module→Option Bool}(hc:∀x,∃b,c x=some b){l:List G_Module}(hl:l.length≤BB):∃r:Int,ym (fun(s:Unit) (x:G_Module)=>(c x).map fun o=>(o,())) none l ()=some (r,()):=
 za7 hc hl l.length 0 (by omega)
theorem znt{c:G_Module→Option Bool}(hc:∀x,∃b,c x=some b){l:List G_Module}(hl:l.length≤BB):∃r:Bool,zp (fun(s:Unit) (x:G_Module)=>(c x).map fun o=>(o,())) none l ()=some (r,()):=by
 unfold zp
 obtain⟨r,hr⟩:=zn8 hc hl
 exact⟨_,by rw[hr];rfl⟩
theorem zgf{l:List G_Module}(hl:l.length≤BB):∀ (k i:Nat),i+k=l.length→∃r,xn none l (i:Int)=some r
 |0,i,h=>by
  refine⟨0,?_⟩
  unfold xn
  refine qb (x:=some 0) ?_
  unfold qi jl
  rw[if_neg (by simp;omega)]
 |k+1,i,h=>by
  have hi:i<l.length:=by omega
  obtain⟨r,ih⟩:=zgf hl k (i+1) (by omega)
  obtain⟨q,hq⟩:=zn8 (c:=xc none l[i].f_Name) (fun x=>⟨_,rfl⟩) (l:=l.take i) (by rw[pA];omega)
  have hb:qi none l (i:Int)=if(decide (q≥0))=true then some (.inr 6) else some (.inl ((i+1:Nat):Int)):=by
   unfold qi
   rw[if_pos (by simpa using hi),if_pos (by simpa using hi),if_pos (by rw[p9];omega)]
   unfold jx
   simp only[p2,vi hi,Wi (show i≤4611686018427387904 by unfold BB at hl;omega),hq,p1,Option.map_some]
  unfold xn at ih ⊢
  by_cases hc:(decide (q≥0))=true
  ·exact⟨6,qb (x:=some 6) (hb.trans (by rw[if_pos hc];rfl))⟩
  ·exact⟨r,by rw[xu (s':=((i+1:Nat):Int)) (hb.trans (if_neg hc)),ih]⟩
theorem zoi{l:List G_Module}(hl:l.length≤BB):∃r,yb none l=some r:=by
 unfold yb
 have h1:∃b:Bool×Unit,(if((decide (((l.map z6).length:Int) > 8))==false)=true then zp (fun(s:Unit) (x:G_Module)=>(qj none x).map fun o=>(o,())) none l () else some default)=some b:=by
  split
  ·obtain⟨r,hr⟩:=znt (c:=qj none) (fun x=>⟨_,rfl⟩) hl
   exact⟨_,hr⟩
  ·exact⟨_,rfl⟩
 obtain⟨b,hb⟩:=h1
 rw[hb,p1]
 split
 ·exact⟨_,rfl⟩
 ·obtain⟨r,hr⟩:=znt (c:=qk none) (fun x=>by obtain⟨b,hb⟩:=zpf x.f_Name;exact⟨_,by unfold qk;rw[hb];rfl⟩) hl
  rw[hr,p1]
  split
  ·exact⟨_,rfl⟩
  ·exact zgf hl l.length 0 (by omega)
noncomputable def wv(l:List G_Module):Int:=(yb none l).getD 0
theorem zl1{l:List G_Module}(hl:l.length≤BB):yb none l=some (wv l):=by
 obtain⟨r,hr⟩:=zoi hl
 unfold wv
 rw[hr];rfl
abbrev MDs:=List G_Module
theorem zi5(q:Int)(e:G_FileEdit):∀l:FEs,ems q (l++[e])=if e.f_Module=q then ems q l++[e.f_TextEdit] else ems q l
 |[]=>by
  by_cases h:e.f_Module=q
  ·simp[ems,h]
  ·simp[ems,h]
 |x::r=>by
  have ih:=zi5 q e r
  rw[List.cons_append,ems,ih,ems]
  by_cases h:e.f_Module=q
  ·rw[if_pos h,if_pos h]
   split<;>simp
  ·rw[if_neg h,if_neg h]
def okB(n:Int):Int→FEs→Bool
 |_,[]=>true
 |p,e::r=>if e.f_Module<p∨e.f_Module≥n then false else okB n e.f_Module r
def gr(n:Nat)(l:FEs):List TEs:=(List.range n).map fun(j:Nat)=>ems (j:Int) l
theorem zeb(n:Nat)(l:FEs):(gr n l).length=n:=by simp[gr]
theorem zqs{n:Nat}{l:FEs}{i:Nat}(h:i<n):(gr n l).getD i default=ems (i:Int) l:=by
 simp[gr,List.getD_eq_getElem?_getD,h]
theorem zv1{n:Nat}{l:FEs}{e:G_FileEdit}{q:Nat}(hq:e.f_Module=(q:Int))(h:q<n):(gr n l).set q ((gr n l).getD q default++[e.f_TextEdit])=gr n (l++[e]):=by
 rw[zqs h]
 refine List.ext_getElem (by simp[gr]) fun i h1 h2=>?_
 rw[zeb] at h2
 rw[List.getElem_set]
 simp only[gr,List.getElem_map,List.getElem_range,zi5]
 by_cases hi:q=i
 ·subst hi
  rw[if_pos rfl,if_pos hq]
 ·rw[if_neg hi,if_neg (by omega)]
theorem zfi{ms:MDs}(hn:ms.length≤BB){l:FEs}(hl:l.length*32≤140737488355328):∀ (k i:Nat) (p:Int),i+k=l.length→0≤p →
 qw none ms l p (i:Int) (gr ms.length (l.take i))=some (if okB ms.length p (l.drop i)=true then(gr ms.length l,true) else([],false))
 |0,i,p,h,hp=>by
  have:i=l.length:=by omega
  subst this
  unfold qw
  rw[qb (x:=some (gr ms.length (l.take l.length),true)) ?_]
  ·simp[okB]
  ·unfold yy jb
   rw[if_neg (by simp)]
 |k+1,i,p,h,hp=>by
  have hi:i<l.length:=by omega
  have e3:(⟨l[i].f_TextEdit.f_Start,l[i].f_TextEdit.f_End,l[i].f_TextEdit.f_NewText⟩:G_TextEdit)=l[i].f_TextEdit:=rfl
  rw[p3 hi,okB]
  unfold qw
  by_cases hc:l[i].f_Module<p∨l[i].f_Module≥(ms.length:Int)
  ·rw[if_pos hc,if_neg (by simp)]
   refine qb (x:=some ([],false)) ?_
   unfold yy
   rw[if_pos (by simpa using hi),if_pos (by simpa using hi)]
   simp only[p2,vi hi,p9]
   rw[if_pos (by simpa using hc)]
  ·rw[if_neg hc]
   obtain⟨q,hq⟩:∃q:Nat,l[i].f_Module=(q:Int):=⟨l[i].f_Module.toNat,by omega⟩
   have hqn:q<ms.length:=by omega
   have ih:=zfi hn hl k (i+1) l[i].f_Module (by omega) (by omega)
   unfold qw at ih
   rw[List.take_succ_eq_append_getElem hi,←zv1 hq hqn] at ih
   rw[xu (s':=(l[i].f_Module,((i+1:Nat):Int),(gr ms.length (l.take i)).set q ((gr ms.length (l.take i)).getD q default++[l[i].f_TextEdit]))) ?_]
   ·exact ih
   ·have hlen:=zi1 (q:Int) (l.take i)
    rw[pA] at hlen
    unfold yy
    rw[if_pos (by simpa using hi),if_pos (by simpa using hi)]
    simp only[p2,vi hi,p9]
    rw[if_neg (by simpa using hc)]
    simp only[e3,hq,p2,Nat.zero_add,zeb,Wi (show i≤4611686018427387904 by omega)]
    rw[zqs hqn,if_pos (by omega),if_pos hqn,if_pos (by rw[p4,pB];omega),if_pos (by omega),if_pos hqn]
theorem zu6(n:Nat):List.replicate n ([]:TEs)=gr n []:=by
 refine List.ext_getElem (by simp[gr]) fun i h1 h2=>by simp[gr,ems]
theorem zwk{ms:MDs}(hn:ms.length*32≤140737488355328){l:FEs}(hl:l.length*32≤140737488355328) :
 xj none ms l=some (if okB ms.length 0 l=true then(gr ms.length l,true) else([],false)):=by
 unfold xj
 rw[p9,if_pos (by omega),p2,zu6]
 exact zfi (by unfold BB;omega) hl l.length 0 0 (by omega) (by omega)
def fe(l:FEs):MDs→Nat→Int
 |[],_=>0
 |m::r,i=>if VE m.f_Source (ems (i:Int) l)=0 then fe l r (i+1) else VE m.f_Source (ems (i:Int) l)
theorem z98{ms:MDs}(hn:ms.length≤BB){l:FEs}(hl:l.length*32≤140737488355328):∀ (k i:Nat),i+k=ms.length →
 y4 none ms l (i:Int)=some (fe l (ms.drop i) i)
 |0,i,h=>by
  have:i=ms.length:=by omega
  subst this
  unfold y4
  rw[qb (x:=some 0) ?_]
  ·simp[fe]
  ·unfold zm qd
   rw[if_neg (by simp)]
 |k+1,i,h=>by
  have hi:i<ms.length:=by omega
  have ih:=z98 hn hl k (i+1) (by omega)
  have hb:zm none ms l (i:Int)=if VE ms[i].f_Source (ems (i:Int) l)=0 then some (.inl ((i+1:Nat):Int)) else some (.inr (VE ms[i].f_Source (ems (i:Int) l))):=by
   unfold zm
   rw[if_pos (by simpa using hi),if_pos (by simpa using hi)]
   simp only[p2,vi hi,zn7 hl,z4w,p1,Wi (show i≤4611686018427387904 by unfold BB at hn;omega)]
   by_cases hv:VE ms[i].f_Source (ems (i:Int) l)=0
   ·rw[if_neg (by simp[hv]),if_pos hv]
   ·rw[if_pos (by simpa using hv),if_neg hv];rfl
  unfold y4 at ih ⊢
  rw[p3 hi,fe]
  by_cases hv:VE ms[i].f_Source (ems (i:Int) l)=0
  ·rw[if_pos hv,xu (s':=((i+1:Nat):Int)) (hb.trans (if_pos hv)),ih]
  ·rw[if_neg hv]
   exact qb (x:=some (VE ms[i].f_Source (ems (i:Int) l))) (hb.trans (if_neg hv))
def z0b(l:FEs):Nat→Int
 |0=>0
 |i+1=>(l.getD i default).f_Module
theorem zas{ms:MDs}{l:FEs}(hl:l.length*32≤140737488355328):∀ (k i:Nat),i+k=l.length→0≤z0b l i →
 zn none ms l (i:Int)=if okB ms.length (z0b l i) (l.drop i)=true then y3 none ms l else some 3
 |0,i,h,hp=>by
  have:i=l.length:=by omega
  subst this
  unfold zn
  rw[qb (x:=y3 none ms l) ?_]
  ·simp[okB]
  ·unfold zo
   rw[if_neg (by simp)]
 |k+1,i,h,hp=>by
  have hi:i<l.length:=by omega
  have hcond:(((decide (l[i].f_Module<0)) || (decide (l[i].f_Module≥(ms.length:Int)))) || ((decide ((i:Int) > 0))&&(decide (l[i].f_Module<(l.getD ((W ((i:Int)-1)).toNat) default).f_Module))))=true↔(l[i].f_Module<z0b l i∨l[i].f_Module≥(ms.length:Int)):=by
   cases i with
   |zero=>
    rw[show z0b l 0=0 from rfl]
    simp
   |succ j=>
    have e2:W (((j+1:Nat):Int)-1)=(j:Int):=by rw[zp0 (by unfold inR;omega)];omega
    have hp':0≤(l.getD j default).f_Module:=hp
    rw[e2,show z0b l (j+1)=(l.getD j default).f_Module from rfl,p2]
    simp only[Bool.or_eq_true,Bool.and_eq_true,decide_eq_true_eq]
    omega
  have hb:zo none ms l (i:Int)=if l[i].f_Module<z0b l i∨l[i].f_Module≥(ms.length:Int) then some (.inr 3) else some (.inl ((i+1:Nat):Int)):=by
   unfold zo
   have hw:i≠0→W ((i:Int)-1)=(i:Int)-1:=fun _=>zp0 (by unfold inR;omega)
   rw[if_pos (by simpa using hi),if_pos (by simpa using hi),if_pos (fun _=>by rw[p9];omega),if_pos (fun _=>by rw[p9];omega),if_pos (fun hh=>by
    simp only[Bool.and_eq_true,beq_iff_eq,beq_true,decide_eq_true_eq] at hh
    rw[p9,hw (by omega)];omega)]
   simp only[p2,vi hi,p9,Wi (show i≤4611686018427387904 by omega)]
   by_cases hc:l[i].f_Module<z0b l i∨l[i].f_Module≥(ms.length:Int)
   ·rw[if_pos (hcond.2 hc),if_pos hc];rfl
   ·rw[if_neg (fun hh=>hc (hcond.1 hh)),if_neg hc]
  unfold zn
  rw[p3 hi,okB]
  by_cases hc:l[i].f_Module<z0b l i∨l[i].f_Module≥(ms.length:Int)
  ·rw[if_pos hc,if_neg (by simp)]
   exact qb (x:=some 3) (hb.trans (if_pos hc))
  ·rw[if_neg hc,xu (s':=((i+1:Nat):Int)) (hb.trans (if_neg hc))]
   have e4:z0b l (i+1)=l[i].f_Module:=by
    show(l.getD i default).f_Module=_
    rw[vi hi]
   have ih:=zas (ms:=ms) hl k (i+1) (by omega) (by rw[e4];omega)
   rw[e4] at ih
   unfold zn at ih
   exact ih
theorem zxc{ms:MDs}(hn:ms.length≤BB){l:FEs}(hl:l.length*32≤140737488355328):y7 none ms l=some (if okB ms.length 0 l=true then fe l ms 0 else 3):=by
 unfold y7
 have h1:=zas (ms:=ms) hl l.length 0 (by omega) (by simp[z0b])
 rw[pD,show z0b l 0=0 from rfl] at h1
 rw[show zn none ms l 0=_ from h1]
 have h2:=z98 hn hl ms.length 0 (by omega)
 rw[pD] at h2
 unfold y3
 rw[show y4 none ms l 0=_ from h2]
 split<;>rfl
def out(l:FEs):MDs→Nat→MDs
 |[],_=>[]
 |m::r,i=>⟨m.f_Name,A m.f_Source 0 (ems (i:Int) l)⟩::out l r (i+1)
theorem z2f(l:FEs):∀ (ms:MDs) (i:Nat),(out l ms i).length=ms.length
 |[],_=>rfl
 |m::r,i=>by rw[out,pE,pE,z2f l r]
theorem zva{l:FEs}(h:∀e∈l,e.f_TextEdit.f_NewText.length≤140737488355328)(q:Int):Sz (ems q l):=by
 intro x hx
 induction l with
 |nil=>simp[ems] at hx
 |cons e r ih=>
  rw[ems] at hx
  have ih':=ih (fun y hy=>h y (List.mem_cons_of_mem _ hy))
  split at hx
  ·rcases List.mem_cons.1 hx with rfl|hx
   ·exact h e (List.mem_cons_self ..)
   ·exact ih' hx
  ·exact ih' hx
theorem zaf{ms:MDs}(hn:ms.length≤BB){l:FEs}(hz:∀q,Sz (ems q l)):∀ (k i:Nat) (acc:MDs),i+k=ms.length→acc.length=i →
 qg none ms (gr ms.length l,true) (i:Int) (acc++ms.drop i)=if fe l (ms.drop i) i=0 then qh none (acc++out l (ms.drop i) i) else some ([],fe l (ms.drop i) i)
 |0,i,acc,h,ha=>by
  have:i=ms.length:=by omega
  subst this
  unfold qg
  rw[List.drop_length,qb (x:=qh none (acc++[])) ?_]
  ·simp[fe,out]
  ·unfold yj
   rw[if_neg (by simp)]
 |k+1,i,acc,h,ha=>by
  have hi:i<ms.length:=by omega
  have ih:=zaf hn hz k (i+1) (acc++[⟨ms[i].f_Name,A ms[i].f_Source 0 (ems (i:Int) l)⟩]) (by omega) (by rw[p4,pB];omega)
  have hset:(acc++ms.drop i).set i ⟨ms[i].f_Name,A ms[i].f_Source 0 (ems (i:Int) l)⟩=(acc++[⟨ms[i].f_Name,A ms[i].f_Source 0 (ems (i:Int) l)⟩])++ms.drop (i+1):=by
   rw[p3 hi,List.set_append_right _ _ (by omega),ha,Nat.sub_self,List.set_cons_zero,pC]
   rfl
  have hat:(acc++ms.drop i).getD i default=ms[i]:=by
   rw[p3 hi,List.getD_eq_getElem?_getD,List.getElem?_append_right (by omega),ha,Nat.sub_self]
   rfl
  have hl2:(acc++ms.drop i).length=ms.length:=by rw[p4,pF];omega
  have hb:yj none ms (gr ms.length l,true) (i:Int) (acc++ms.drop i)=if VE ms[i].f_Source (ems (i:Int) l)=0 then some (.inl (((i+1:Nat):Int),(acc++[⟨ms[i].f_Name,A ms[i].f_Source 0 (ems (i:Int) l)⟩])++ms.drop (i+1))) else some (.inr ([],VE ms[i].f_Source (ems (i:Int) l))):=by
   unfold yj
   rw[if_pos (by simpa using hi),if_pos (by simpa using hi),if_pos (by rw[p9];show _∧(i:Int)<((gr ms.length l).length:Int);rw[zeb];omega)]
   simp only[p2,vi hi,zqs hi,zm9 (hz _),p1,Wi (show i≤4611686018427387904 by unfold BB at hn;omega),Nat.zero_add,hl2]
   by_cases hv:VE ms[i].f_Source (ems (i:Int) l)=0
   ·rw[if_pos hv,if_neg (by simp),if_pos (by omega),if_pos hi,if_pos hv,hat,hset]
   ·rw[if_neg hv,if_pos (by simpa using hv),if_neg hv];rfl
  unfold qg at ih ⊢
  have hd:=p3 hi
  by_cases hv:VE ms[i].f_Source (ems (i:Int) l)=0
  ·rw[xu (s':=(((i+1:Nat):Int),(acc++[⟨ms[i].f_Name,A ms[i].f_Source 0 (ems (i:Int) l)⟩])++ms.drop (i+1))) (hb.trans (if_pos hv)),ih,hd,fe,if_pos hv,out,pC]
   rfl
  ·rw[hd,fe,if_neg hv,if_neg hv,←hd]
   exact qb (x:=some ([],VE ms[i].f_Source (ems (i:Int) l))) (hb.trans (if_neg hv))
theorem zpj{ms:MDs}(hn:ms.length*32≤140737488355328){l:FEs}(hl:l.length*32≤140737488355328)(hz:∀q,Sz (ems q l)) :
 x9 none ms l=some (if wv ms=0 then(if okB ms.length 0 l=true then(if fe l ms 0=0 then(if wv (out l ms 0)=0 then(out l ms 0,0) else([],wv (out l ms 0))) else([],fe l ms 0)) else([],3)) else([],wv ms)):=by
 have hB:ms.length≤BB:=by unfold BB;omega
 unfold x9
 rw[zl1 hB,p1]
 by_cases h0:wv ms=0
 ·rw[if_neg (by simp[h0]),if_pos h0,zwk hn hl,p1]
  by_cases h1:okB ms.length 0 l=true
  ·rw[if_pos h1,if_neg (by simp),if_pos h1]
   unfold w5
   rw[show zto 32 ms=some ms from by unfold zto;rw[if_pos hn],p1]
   have h:=zaf hB hz ms.length 0 [] (by omega) rfl
   rw[pD,List.nil_append,List.nil_append] at h
   rw[show qg none ms (gr ms.length l,true) 0 ms=_ from h]
   by_cases h2:fe l ms 0=0
   ·rw[if_pos h2,if_pos h2]
    unfold qh
    rw[zl1 (by rw[z2f];exact hB),p1]
    by_cases h3:wv (out l ms 0)=0
    ·rw[if_neg (by simp[h3]),if_pos h3]
    ·rw[if_pos (by simpa using h3),if_neg h3]
   ·rw[if_neg h2,if_neg h2]
  ·rw[if_neg h1,if_pos (by simp),if_neg h1]
 ·rw[if_pos (by simpa using h0),if_neg h0]
theorem zii{ms:MDs}(hn:ms.length*32≤140737488355328){l:FEs}(hl:l.length*32≤140737488355328)(hz:∀q,Sz (ems q l)):∀ (k i:Nat) (acc:MDs),i+k=ms.length→acc.length=i→fe l (ms.drop i) i=0 →
 yp none ms l acc (i:Int)=some (acc++out l (ms.drop i) i)
 |0,i,acc,h,ha,hf=>by
  have:i=ms.length:=by omega
  subst this
  unfold yp
  rw[qb (x:=some acc) ?_]
  ·simp[out]
  ·unfold y6 qu
   rw[if_neg (by simp)]
 |k+1,i,acc,h,ha,hf=>by
  have hi:i<ms.length:=by omega
  have hd:=p3 hi
  rw[hd,fe] at hf
  by_cases hv:VE ms[i].f_Source (ems (i:Int) l)=0
  ·rw[if_pos hv] at hf
   obtain⟨g1,g2,g3,g4⟩:=zaw (hz _) hv
   have ih:=zii hn hl hz k (i+1) (acc++[⟨ms[i].f_Name,A ms[i].f_Source 0 (ems (i:Int) l)⟩]) (by omega) (by rw[p4,pB];omega) hf
   unfold yp at ih ⊢
   rw[xu (s':=(acc++[⟨ms[i].f_Name,A ms[i].f_Source 0 (ems (i:Int) l)⟩],((i+1:Nat):Int))) ?_,ih,hd,out,pC]
   ·rfl
   ·unfold y6
    rw[if_pos (by simpa using hi),if_pos (by simpa using hi),if_pos (by simpa using hi)]
    simp only[p2,vi hi,zn7 hl,zin (hz _) g1 g2 g3,p1,Wi (show i≤4611686018427387904 by omega)]
    rw[if_pos (by rw[p9,p4,pB];omega)]
  ·rw[if_neg hv] at hf
   exact absurd hf hv
theorem zxb{ms:MDs}(hn:ms.length*32≤140737488355328){l:FEs}(hl:l.length*32≤140737488355328)(hz:∀q,Sz (ems q l))(hf:fe l ms 0=0):qe none ms l=some (out l ms 0):=by
 have h:=zii hn hl hz ms.length 0 [] (by omega) rfl (by rw[pD];exact hf)
 rw[pD,List.nil_append] at h
 exact h
theorem ze4{l:MDs}(hl:l.length≤BB):∀ (k i:Nat),i+k=l.length→qa none l l (i:Int)=some true
 |0,i,h=>by
  have:i=l.length:=by omega
  subst this
  unfold qa
  refine qb (x:=some true) ?_
  unfold yg x8
  rw[if_neg (by simp)]
 |k+1,i,h=>by
  have hi:i<l.length:=by omega
  have ih:=ze4 hl k (i+1) (by omega)
  unfold qa at ih ⊢
  rw[xu (s':=((i+1:Nat):Int)) ?_,ih]
  unfold yg
  rw[if_pos (by simpa using hi),if_pos (by simpa using hi),if_pos (by simpa using hi),if_neg (by simp),Wi (show i≤4611686018427387904 by unfold BB at hl;omega)]
theorem zw5{l:MDs}(hl:l.length≤BB):yt none l l=some true:=by
 unfold yt
 rw[if_neg (by simp)]
 exact ze4 hl l.length 0 (by omega)
theorem zi3{w:MDs}(hw:w.length≤BB)(e:Int):zb none (w,e) w e=some true:=by
 unfold zb
 rw[zw5 hw,p1]
 simp
theorem zyf{ms:MDs}(hn:ms.length*32≤140737488355328){l:FEs}(hl:l.length*32≤140737488355328)(hz:∀q,Sz (ems q l)):zd none ms l=some true:=by
 have hB:ms.length≤BB:=by unfold BB;omega
 have h0l:([]:MDs).length≤BB:=by simp
 unfold zd
 rw[zbw,p1,if_neg (by decide),zpj hn hl hz,p1,zl1 hB,p1]
 unfold zf
 by_cases h0:wv ms=0
 ·rw[if_pos (show(wv ms==0)=true by simpa using h0),if_pos h0,zxc hB hl,p1]
  by_cases h1:okB ms.length 0 l=true
  ·rw[if_pos h1,if_pos h1]
   by_cases h2:fe l ms 0=0
   ·rw[if_pos (show(fe l ms 0==0)=true by simpa using h2),if_pos h2,zxb hn hl hz h2,p1,zl1 (by rw[z2f];exact hB),p1]
    by_cases h3:wv (out l ms 0)=0
    ·rw[if_neg (by simp[h3]),if_pos h3,h3]
     exact zi3 (by rw[z2f];exact hB) _
    ·rw[if_pos (by simpa using h3),if_neg h3]
     exact zi3 h0l _
   ·rw[if_neg (show ¬(fe l ms 0==0)=true by simpa using h2),if_neg h2]
    exact zi3 h0l _
  ·rw[if_neg h1,if_neg h1,if_neg (by decide)]
   exact zi3 h0l _
 ·rw[if_neg (show ¬(wv ms==0)=true by simpa using h0),if_neg h0,if_neg (show ¬(wv ms==0)=true by simpa using h0)]
  exact zi3 h0l _
open Go.Fx Go.RowKit
def U2(x:G_Module):Prop:=x.f_Name.length≤reachBytes∧x.f_Source.length≤reachBytes
def Uw(x:G_TextEdit):Prop:=(IntKind.min .i64≤x.f_Start∧x.f_Start≤IntKind.max .i64)∧(IntKind.min .i64≤x.f_End∧x.f_End≤IntKind.max .i64)∧x.f_NewText.length≤reachBytes
def Jc(x:G_FileEdit):Prop:=(IntKind.min .i64≤x.f_Module∧x.f_Module≤IntKind.max .i64)∧Uw x.f_TextEdit
def z4t(x:List G_Module):Prop:=(x.length≤maxLen∧x.length*32≤reachBytes∧∀y∈x,U2 y)
def ztc(x:List UInt8):Prop:=x.length≤reachBytes
def z0p(x:List G_FileEdit):Prop:=(x.length≤maxLen∧x.length*40≤reachBytes∧∀y∈x,Jc y)
def zt5(x:Int):Prop:=(IntKind.min .i64≤x∧x≤IntKind.max .i64)
def zy7(a0:List G_Module)(a1:List G_FileEdit):Prop:=((a0.length≤maxLen∧a0.length*32≤reachBytes∧∀y∈a0,U2 y))∧((a1.length≤maxLen∧a1.length*40≤reachBytes∧∀y∈a1,Jc y))
def spT:List Int:=(List.range 256).map fun c=>if Lib.isSp (UInt8.ofNat c) then 1 else 0
theorem zy3:z3p=zs0 .u8 spT:=by unfold z3p zs0 spT;rw[List.map_map];rfl
theorem zwu:(Rows.laid_strings_asciiSpace:DataW Unit)=Lib.tabData .u8 spT:=by kernel_rfl
theorem gn1:Tryz.prog.globalNamed "strings.asciiSpace"=some 0:=by kernel_rfl
theorem gy1:(Tryz.prog.globals[0]?).map (·.type)=some 233:=by kernel_rfl
theorem zxf:∃e,Tryz.prog.underlying 233=some (.array 256 e)∧Tryz.prog.underlying e=some (.int .u8)∧Tryz.prog.cellsOf e=1∧Tryz.prog.cellsOf 233=256:=⟨_,Tryz.underlying233,by kernel_rfl,by kernel_rfl,by kernel_rfl⟩
theorem zwq {w:World} (h:Lib.VarReads Tryz.prog w "strings.asciiSpace" (Lib.tabData .u8 spT)):Lib.TabIs Tryz.prog w "strings.asciiSpace" .u8 spT:=by
 obtain⟨g,t,cs,fuel,p,hg,hty,hvar,hd⟩:=h
 obtain rfl:=Option.some.inj (gn1.symm.trans hg)
 obtain rfl:=Option.some.inj (gy1.symm.trans hty)
 obtain⟨e,h1,h2,h3,h4⟩:=zxf
 have hcs:=Lib.cells_of_tab h1 h2 h3 h4 hd
 unfold Lib.TabIs
 rw[hvar,←hcs]
theorem zro {w:World} {l:List (String×DataW Unit)} (hl:(l.all fun x=>x.2.handleName?.isNone)=true) (h1:("strings.asciiSpace",Rows.laid_strings_asciiSpace)∈l) (h:laidMetH Tryz.prog l w):GlobOk (old w) w:=by
 rw[MakeChecks.laidMetH_plain _ _ _ hl] at h
 have r1:=Lib.laidMet.reads h h1
 rw[zwu] at r1
 have c1:=zkc gn1 (zwq r1)
 refine⟨fun x hx=>?_,fun g hg=>nomatch hg⟩
 rw[zxv,zy3] at hx
 rcases List.mem_cons.1 hx with rfl|hx
 ·exact⟨fun _=>c1.1,c1.2⟩
 ·cases hx
theorem zy5{a0:List G_Module}{a1:List G_FileEdit}(h:zy7 a0 a1):zd none a0 a1=some true:=by
 obtain⟨g0,g1⟩:=h
 have h0:=g0.2.1
 have h1:=g1.2.1
 have h2:∀e∈a1,e.f_TextEdit.f_NewText.length≤140737488355328:=fun e he=>by
  have:=(g1.2.2 e he).2.2.2
  unfold reachBytes at this;omega
 unfold reachBytes at h0 h1
 exact zyf (by omega) (by omega) (fun q=>zva h2 q)
end Go.Proofs.YtjkfnbjgpilokaaGreatDoor
