/-
  Own text L1 of this claim: what functions of the given program compute, in plain Lean, and the proof; no condition.
-/
import Derived.Test.YtjkfnbjgpilokaaGreatDoorGenA
import Derived.Test.YtjkfnbjgpilokaaGreatDoorFd
import Derived.Test.YtjkfnbjgpilokaaGreatDoorFc
import Derived.Test.YtjkfnbjgpilokaaGreatDoorRows
import Derived.Lib.LaidU8
import Derived.MakeChecks
import Derived.LaidOnce
open Bool renaming and_eq_true→pC
open Int renaming toNat_natCast→p9
open Go.IntKind renaming min→p3,max→p4
open List renaming drop_eq_getElem_cons→p1,length_map→pB,drop_zero→pD
open Nat renaming zero_add→pA
open Option renaming bind_some→p2
namespace Go.Proofs.YtjkfnbjgpilokaaGreatDoor
open Go.Fx
set_option linter.unusedVariables false
theorem z86(m:Option Nat):qz m=some true:=rfl
theorem Wi{i:Nat}(h:i≤4611686018427387904):W ((i:Int)+1)=((i+1:Nat):Int):=by rw[zjs (by unfold inR;omega)];omega
theorem we{α:Type}[Inhabited α]{l:List α}{i:Nat}(h:i<l.length):l.getD i default=l[i]:=by
 simp[List.getD_eq_getElem?_getD,h]
abbrev BB:Nat:=4611686018427387904
abbrev TEs:=List G_TextEdit
def vE:Int→TEs→Int
 |_,[]=>0
 |p,e::r=>if e.f_Start≤p∨e.f_End<e.f_Start then 3 else vE e.f_End r
theorem z5v{l:TEs}(hl:l.length≤BB):∀ (k i:Nat) (p:Int),i+k=l.length→xe none l p (i:Int)=some (vE p (l.drop i))
 |0,i,p,h=>by
  have:i=l.length:=by omega
  subst this
  unfold xe
  rw[qt (x:=some 0) ?_]
  ·simp[vE]
  ·unfold qr xx
   rw[if_neg (by simp)]
 |k+1,i,p,h=>by
  have hi:i<l.length:=by omega
  have ih:=z5v hl k (i+1) l[i].f_End (by omega)
  unfold xe at ih ⊢
  rw[p1 hi]
  have hb:qr none l p (i:Int)=if l[i].f_Start≤p∨l[i].f_End<l[i].f_Start then some (.inr 3) else some (.inl (l[i].f_End,((i+1:Nat):Int))):=by
   unfold qr
   rw[if_pos (by simpa using hi),if_pos (by simpa using hi)]
   simp only[p9,we hi,Wi (show i≤BB by unfold BB at *;omega),Bool.or_eq_true,decide_eq_true_eq]
   split<;>rfl
  by_cases hc:l[i].f_Start≤p∨l[i].f_End<l[i].f_Start
  ·rw[qt (x:=some 3) (by rw[hb,if_pos hc];rfl),vE,if_pos hc]
  ·rw[xz (s':=(l[i].f_End,((i+1:Nat):Int))) (by rw[hb,if_neg hc]),ih,vE,if_neg hc]
def vA(l:TEs):Int:=if 50<l.length then 2 else vE (-1) l
theorem zkl{l:TEs}(hl:l.length≤BB):xl none l=some (vA l):=by
 unfold xl vA
 by_cases h:50<l.length
 ·rw[if_pos (by simp;omega),if_pos h]
 ·rw[if_neg (by simp;omega),if_neg h]
  have:=z5v hl _ 0 (-1) (pA _)
  simpa using this
def Vi(l:TEs)(i:Nat):Int:=if i=0 then -1 else(l.getD (i-1) default).f_End
theorem z6x{l:TEs}(hl:l.length≤BB):∀ (k i:Nat),i+k=l.length→-1≤Vi l i→y7 none l (i:Int)=some (vE (Vi l i) (l.drop i))
 |0,i,h,hp=>by
  have:i=l.length:=by omega
  subst this
  unfold y7
  rw[qt (x:=some 0) ?_]
  ·simp[vE]
  ·unfold zy qj
   rw[if_neg (by simp)]
 |k+1,i,h,hp=>by
  have hi:i<l.length:=by omega
  rw[p1 hi,vE]
  have a1:(0:Int)≤(i:Int)∧(i:Int)<((l.map z6).length:Int):=by simpa using hi
  have hW:(i:Int) > 0→W ((i:Int)-1)=((i-1:Nat):Int):=fun h0=>by rw[zjs (by unfold inR;unfold BB at hl;omega)];omega
  have hb:zy none l (i:Int)=if l[i].f_Start≤Vi l i∨l[i].f_End<l[i].f_Start then some (.inr 3) else some (.inl ((i+1:Nat):Int)):=by
   unfold zy
   rw[if_pos (by simpa using hi),if_pos a1]
   simp only[p9,we hi,Wi (show i≤BB by unfold BB at *;omega)]
   rw[if_pos (fun _=>a1),if_pos (fun _=>a1),if_pos (fun _=>a1),if_pos (fun hx=>?_)]
   ·have hcond:(((decide (l[i].f_Start<0)) || (decide (l[i].f_End<l[i].f_Start))) || ((decide ((i:Int) > 0))&&(decide (l[i].f_Start≤(l.getD ((W ((i:Int)-1)).toNat) default).f_End))))=decide (l[i].f_Start≤Vi l i∨l[i].f_End<l[i].f_Start):=by
     rw[Bool.eq_iff_iff]
     simp only[Bool.or_eq_true,pC,decide_eq_true_eq]
     by_cases h0:i=0
     ·subst h0
      have e:Vi l 0=-1:=rfl
      rw[e]
      constructor
      ·rintro((h|h)|h)
       ·exact .inl (by omega)
       ·exact .inr h
       ·exact absurd h.1 (by omega)
      ·rintro(h|h)
       ·exact .inl (.inl (by omega))
       ·exact .inl (.inr h)
     ·rw[hW (by omega),p9]
      have e:Vi l i=(l.getD (i-1) default).f_End:=if_neg h0
      rw[←e]
      constructor
      ·rintro((h|h)|h)
       ·exact .inl (by omega)
       ·exact .inr h
       ·exact .inl h.2
      ·rintro(h|h)
       ·exact .inr ⟨by omega,h⟩
       ·exact .inl (.inr h)
    rw[hcond]
    simp only[decide_eq_true_eq]
    split<;>rfl
   ·simp only[pC,beq_iff_eq,decide_eq_true_eq] at hx
    rw[hW hx.2,pB];omega
  unfold y7
  by_cases hc:l[i].f_Start≤Vi l i∨l[i].f_End<l[i].f_Start
  ·rw[qt (x:=some 3) (by rw[hb,if_pos hc];rfl),if_pos hc]
  ·have e:Vi l (i+1)=l[i].f_End:=by
    unfold Vi
    rw[if_neg (by omega),Nat.add_sub_cancel,we hi]
   have ih:=z6x hl k (i+1) (by omega) (by rw[e];omega)
   rw[e] at ih
   unfold y7 at ih
   rw[xz (s':=((i+1:Nat):Int)) (by rw[hb,if_neg hc]),ih,if_neg hc]
theorem zjw{l:TEs}(hl:l.length≤BB):yn none l=some (vA l):=by
 unfold yn vA
 by_cases h:50<l.length
 ·rw[if_pos (by simp;omega),if_pos h]
 ·rw[if_neg (by simp;omega),if_neg h]
  have:=z6x hl _ 0 (pA _) (by unfold Vi;simp)
  simpa[Vi] using this
def mo(x:Int):Int→TEs→Int
 |s,[]=>x+s
 |s,e::r=>if e.f_End≤x then mo x (s+((e.f_NewText.length:Int)-(e.f_End-e.f_Start))) r else if e.f_Start<x then e.f_Start+s+(e.f_NewText.length:Int) else x+s
def rm(x:Int):TEs→Int
 |[]=>x
 |e::r=>if e.f_Start<x∧x<e.f_End then e.f_Start+(e.f_NewText.length:Int) else if e.f_End≤x then rm x r+(e.f_NewText.length:Int)+e.f_Start-e.f_End else rm x r
theorem z9o{x:Int}:∀ {l:TEs} {p:Int},vE p l=0→x≤p→rm x l=x
 |[],_,_,_=>rfl
 |e::r,p,h,hp=>by
  rw[vE] at h
  split at h
  ·cases h
  ·rename_i hc
   rw[rm,if_neg (by omega),if_neg (by omega)]
   exact z9o h (by omega)
theorem zko{x:Int}:∀ {l:TEs} {p s:Int},vE p l=0→mo x s l=s+rm x l
 |[],_,s,_=>by rw[mo,rm];omega
 |e::r,p,s,h=>by
  rw[vE] at h
  split at h
  ·cases h
  ·rename_i hc
   rw[mo,rm]
   by_cases h1:e.f_End≤x
   ·rw[if_pos h1,if_neg (by omega),if_pos h1,zko h];omega
   ·rw[if_neg h1]
    by_cases h2:e.f_Start<x
    ·rw[if_pos h2,if_pos ⟨h2,by omega⟩];omega
    ·rw[if_neg h2,if_neg (by omega),if_neg h1,z9o h (by omega)];omega
theorem z6c{l:TEs}(hl:l.length≤BB){x:Int}:∀ (k i:Nat) (s:Int),i+k=l.length→x9 none l x true (W s) (i:Int)=some (W (mo x s (l.drop i)))
 |0,i,s,h=>by
  have:i=l.length:=by omega
  subst this
  unfold x9
  rw[qt (x:=some (W (x+s))) ?_]
  ·simp[mo]
  ·unfold qk xt
   rw[if_neg (by simp)]
   simp only[zao]
 |k+1,i,s,h=>by
  have hi:i<l.length:=by omega
  have ih:=z6c hl (x:=x) k (i+1) (s+((l[i].f_NewText.length:Int)-(l[i].f_End-l[i].f_Start))) (by omega)
  unfold x9 at ih ⊢
  rw[p1 hi,mo]
  have hb:qk none l x true (W s) (i:Int)=if l[i].f_End≤x then some (.inl (W (s+((l[i].f_NewText.length:Int)-(l[i].f_End-l[i].f_Start))),((i+1:Nat):Int))) else if l[i].f_Start<x then some (.inr (W (l[i].f_Start+s+(l[i].f_NewText.length:Int)))) else some (.inr (W (x+s))):=by
   unfold qk
   rw[if_pos (by simpa using hi),if_pos (by simpa using hi)]
   have hj:∀b:Bool,qw none l x true (W s) (i:Int) b=if b=true then some (.inl (W (s+((l[i].f_NewText.length:Int)-(l[i].f_End-l[i].f_Start))),((i+1:Nat):Int))) else if l[i].f_Start<x then some (.inr (W (l[i].f_Start+s+(l[i].f_NewText.length:Int)))) else some (.inr (W (x+s))):=fun b=>by
    unfold qw
    simp only[p9,we hi,Wi (show i≤BB by unfold BB at *;omega),zkp,zao,zka,Bool.and_true,decide_eq_true_eq]
    cases b
    ·simp only[Bool.false_eq_true,if_false]
     split<;>rfl
    ·rfl
   simp only[hj,p9,we hi,decide_eq_true_eq,Bool.or_true,Bool.and_true,beq_iff_eq]
   by_cases h1:l[i].f_End<x
   ·rw[if_pos h1,if_pos h1,if_pos (by omega)]
   ·rw[if_neg h1]
    by_cases h2:l[i].f_End=x
    ·rw[if_pos h2,if_pos (show l[i].f_End≤x by omega)]
    ·rw[if_neg h2,if_neg (show ¬l[i].f_End≤x by omega)]
  by_cases h1:l[i].f_End≤x
  ·rw[xz (s':=(W (s+((l[i].f_NewText.length:Int)-(l[i].f_End-l[i].f_Start))),((i+1:Nat):Int))) (by rw[hb,if_pos h1]),ih,if_pos h1]
  ·rw[if_neg h1]
   by_cases h2:l[i].f_Start<x
   ·rw[qt (x:=some (W (l[i].f_Start+s+(l[i].f_NewText.length:Int)))) (by rw[hb,if_neg h1,if_pos h2];rfl),if_pos h2]
   ·rw[qt (x:=some (W (x+s))) (by rw[hb,if_neg h1,if_neg h2];rfl),if_neg h2]
theorem zk9{l:TEs}(hl:l.length≤BB){x:Int}:xb none l x true=some (W (mo x 0 l)):=by
 unfold xb
 have:=z6c hl (x:=x) _ 0 0 (pA _)
 rw[show W 0=0 from by decide,pD] at this
 exact this
theorem z6k{l:TEs}(hl:l.length≤BB){x:Int}:∀ (i:Nat) (v:Int),i≤l.length→v=rm x (l.drop i)→qf none l x true (W v) ((i:Int)-1)=some (W (rm x l))
 |0,v,_,hv=>by
  unfold qf
  rw[qt (x:=some (W v)) ?_]
  ·rw[hv,pD]
  ·unfold yb qy
   rw[if_neg (by simp)]
 |i+1,v,hi,hv=>by
  have hi':i<l.length:=by omega
  have ei:((i+1:Nat):Int)-1=(i:Int):=by omega
  rw[ei]
  have hW:W ((i:Int)-1)=(i:Int)-1:=zjs (by unfold inR;unfold BB at hl;omega)
  have ih:=fun v' h=>z6k hl (x:=x) i v' (by omega) h
  rw[p1 hi'] at ih
  unfold qf at ih ⊢
  have hb:yb none l x true (W v) (i:Int)=some (.inl (W (rm x (l[i]::l.drop (i+1))),(i:Int)-1)):=by
   unfold yb y9
   rw[if_pos (by simp),if_pos (by simpa using hi')]
   simp only[p9,we hi',hW,zkp,zlx,Bool.or_true,Bool.and_true,pC,Bool.or_eq_true,decide_eq_true_eq,beq_iff_eq,if_true]
   rw[rm,←hv]
   by_cases h1:l[i].f_Start<x∧x<l[i].f_End
   ·rw[if_pos h1,if_pos h1]
   ·rw[if_neg (fun h=>h1 h),if_neg h1]
    by_cases h2:l[i].f_End≤x
    ·rw[if_pos (by omega),if_pos h2]
    ·rw[if_neg (by omega),if_neg h2]
  rw[xz (s':=(W (rm x (l[i]::l.drop (i+1))),(i:Int)-1)) hb]
  exact ih _ rfl
theorem zc7{l:TEs}(hl:l.length≤BB){x:Int}(hx:W x=x):qc none l x true=some (W (rm x l)):=by
 unfold qc
 have:=z6k hl (x:=x) l.length x (Nat.le_refl _) (by rw[List.drop_length];rfl)
 rw[hx] at this
 rw[pB,zjs (by unfold inR;unfold BB at hl;omega)]
 exact this
abbrev FEs:=List G_FileEdit
def ems(q:Int):FEs→TEs
 |[]=>[]
 |e::r=>if e.f_Module=q then e.f_TextEdit::ems q r else ems q r
theorem z3z(q:Int):∀l:FEs,(ems q l).length≤l.length
 |[]=>Nat.le_refl _
 |e::r=>by
  have:=z3z q r
  rw[ems]
  split
  ·simp only[List.length_cons];omega
  ·simp only[List.length_cons];omega
def ins(x:Int)(t:G_TextEdit):Bool:=((decide (t.f_Start<x))&&(decide (x<t.f_End))) || (((t.f_Start==x)&&(decide (x<t.f_End)))&&(t.f_NewText==([]:List UInt8)))
theorem z05{l:FEs}(hl:l.length*32≤140737488355328){q x:Int}:∀ (k i:Nat) (v:TEs),i+k=l.length→v.length≤i →
 yg none l q x v (i:Int)=if(ems q (l.drop i)).any (ins x)=true then some (0,0,false) else yi none q x (v++ems q (l.drop i))
 |0,i,v,h,hv=>by
  have:i=l.length:=by omega
  subst this
  unfold yg
  rw[qt (x:=yi none q x v) ?_]
  ·simp[ems]
  ·unfold yh
   rw[if_neg (by simp)]
 |k+1,i,v,h,hv=>by
  have hi:i<l.length:=by omega
  have e3:(⟨l[i].f_TextEdit.f_Start,l[i].f_TextEdit.f_End,l[i].f_TextEdit.f_NewText⟩:G_TextEdit)=l[i].f_TextEdit:=rfl
  have hb:yh none l q x v (i:Int)=if l[i].f_Module=q then(if ins x l[i].f_TextEdit=true then some (.inr (0,0,false)) else some (.inl (v++[l[i].f_TextEdit],((i+1:Nat):Int)))) else some (.inl (v,((i+1:Nat):Int))):=by
   unfold yh ql
   rw[if_pos (by simpa using hi),if_pos (by simpa using hi)]
   simp only[p9,we hi,Wi (show i≤BB by unfold BB;omega),e3]
   by_cases hq:l[i].f_Module=q
   ·rw[if_neg (by simp[hq]),if_pos hq]
    by_cases hx:ins x l[i].f_TextEdit=true
    ·rw[if_pos (by exact hx),if_pos hx];rfl
    ·rw[if_neg (by exact hx),if_neg hx,if_pos (by rw[pB,List.length_append,List.length_singleton];omega)]
   ·rw[if_pos (by simpa using hq),if_neg hq]
  unfold yg
  rw[p1 hi,ems]
  by_cases hq:l[i].f_Module=q
  ·rw[if_pos hq] at hb
   rw[if_pos hq,List.any_cons]
   by_cases hx:ins x l[i].f_TextEdit=true
   ·rw[qt (x:=some (0,0,false)) (by rw[hb,if_pos hx];rfl),hx,Bool.true_or,if_pos rfl]
   ·have ih:=z05 hl (q:=q) (x:=x) k (i+1) (v++[l[i].f_TextEdit]) (by omega) (by rw[List.length_append,List.length_singleton];omega)
    unfold yg at ih
    rw[xz (s':=(v++[l[i].f_TextEdit],((i+1:Nat):Int))) (by rw[hb,if_neg hx]),ih]
    have:ins x l[i].f_TextEdit=false:=by simpa using hx
    rw[this,Bool.false_or,List.append_assoc]
    rfl
  ·have ih:=z05 hl (q:=q) (x:=x) k (i+1) v (by omega) (by omega)
   unfold yg at ih
   rw[if_neg hq] at hb
   rw[xz (s':=(v,((i+1:Nat):Int))) hb,ih,if_neg hq]
theorem z0n{l:FEs}(hl:l.length*32≤140737488355328){q:Int}:∀ (k i:Nat) (v:TEs),i+k=l.length→v.length≤i →
 zz none l q v (i:Int)=some (v++ems q (l.drop i))
 |0,i,v,h,hv=>by
  have:i=l.length:=by omega
  subst this
  unfold zz
  rw[qt (x:=some v) ?_]
  ·simp[ems]
  ·unfold zw qg
   rw[if_neg (by simp)]
 |k+1,i,v,h,hv=>by
  have hi:i<l.length:=by omega
  have e3:(⟨l[i].f_TextEdit.f_Start,l[i].f_TextEdit.f_End,l[i].f_TextEdit.f_NewText⟩:G_TextEdit)=l[i].f_TextEdit:=rfl
  have hb:zw none l q v (i:Int)=if l[i].f_Module=q then some (.inl (v++[l[i].f_TextEdit],((i+1:Nat):Int))) else some (.inl (v,((i+1:Nat):Int))):=by
   unfold zw yr
   rw[if_pos (by simpa using hi),if_pos (by simpa using hi)]
   simp only[p9,we hi,Wi (show i≤BB by unfold BB;omega),e3]
   by_cases hq:l[i].f_Module=q
   ·rw[if_pos (by simpa using hq),if_pos hq,if_pos (by simpa using hi),if_pos (by rw[pB,List.length_append,List.length_singleton];omega)]
   ·rw[if_neg (by simpa using hq),if_neg hq]
  unfold zz
  rw[p1 hi,ems]
  by_cases hq:l[i].f_Module=q
  ·have ih:=z0n hl (q:=q) k (i+1) (v++[l[i].f_TextEdit]) (by omega) (by rw[List.length_append,List.length_singleton];omega)
   unfold zz at ih
   rw[xz (s':=(v++[l[i].f_TextEdit],((i+1:Nat):Int))) (by rw[hb,if_pos hq]),ih,if_pos hq,List.append_assoc]
   rfl
  ·have ih:=z0n hl (q:=q) k (i+1) v (by omega) (by omega)
   unfold zz at ih
   rw[xz (s':=(v,((i+1:Nat):Int))) (by rw[hb,if_neg hq]),ih,if_neg hq]
theorem zkh{l:FEs}(hl:l.length*32≤140737488355328){q:Int}:ym none l q=some (ems q l):=by
 unfold ym
 have:=z0n hl (q:=q) _ 0 [] (pA _) (Nat.le_refl _)
 simpa using this
theorem z6e{v:TEs}(hv:v.length≤BB){q x:Int}:∀ (k i:Nat),i+k=v.length →
 yj none q x v (i:Int)=if(v.drop i).any (ins x)=true then some (0,0,false) else zn none q x v
 |0,i,h=>by
  have:i=v.length:=by omega
  subst this
  unfold yj
  rw[qt (x:=zn none q x v) ?_]
  ·simp
  ·unfold zp
   rw[if_neg (by simp)]
 |k+1,i,h=>by
  have hi:i<v.length:=by omega
  have ih:=z6e hv (q:=q) (x:=x) k (i+1) (by omega)
  have hb:zp none q x v (i:Int)=if ins x v[i]=true then some (.inr (0,0,false)) else some (.inl ((i+1:Nat):Int)):=by
   unfold zp
   rw[if_pos (by simpa using hi),if_pos (by simpa using hi)]
   simp only[p9,we hi,Wi (show i≤BB by unfold BB at *;omega)]
   by_cases hx:ins x v[i]=true
   ·rw[if_pos (by exact hx),if_pos hx];rfl
   ·rw[if_neg (by exact hx),if_neg hx]
  unfold yj at ih ⊢
  rw[p1 hi,List.any_cons]
  by_cases hx:ins x v[i]=true
  ·rw[qt (x:=some (0,0,false)) (by rw[hb,if_pos hx];rfl),hx,Bool.true_or,if_pos rfl]
  ·have:ins x v[i]=false:=by simpa using hx
   rw[xz (s':=((i+1:Nat):Int)) (by rw[hb,if_neg hx]),ih,this,Bool.false_or]
def npE(q x:Int)(v:TEs):Int×Int×Bool:=if v.any (ins x)=true then(0,0,false) else if x<0∨vA v≠0 then(0,0,false) else(q,W (rm x v),true)
theorem zgr{v:TEs}(h:vA v=0):vE (-1) v=0:=by
 unfold vA at h
 split at h
 ·cases h
 ·exact h
theorem zfg{v:TEs}(hv:v.length≤BB){q x:Int}:yi none q x v=some (if x<0∨vA v≠0 then(0,0,false) else(q,W (rm x v),true)):=by
 unfold yi va jh
 rw[zkl hv,p2]
 by_cases h0:vA v=0
 ·by_cases hx:x<0
  ·rw[if_pos (by simp[h0,hx]),if_pos (by decide),p2,if_pos (by decide),if_pos (.inl hx)]
  ·rw[if_neg (by simp[hx]),if_neg (by simp[h0]),zk9 hv,p2,p2,if_neg (by simp),if_neg (fun h=>by rcases h with h|h;exact hx h;exact h h0),zko (zgr h0),Int.zero_add]
 ·rw[if_neg (by simp[h0]),if_pos (by simpa using h0),p2,if_pos (by simpa using h0),if_pos (.inr h0)]
theorem zgl{v:TEs}(hv:v.length≤BB){q x:Int}(hW:W x=x):zn none q x v=some (if x<0∨vA v≠0 then(0,0,false) else(q,W (rm x v),true)):=by
 unfold zn
 by_cases hx:x<0
 ·rw[if_neg (by simp[hx])]
  simp only[p2]
  rw[if_pos (by simp[hx]),if_pos (.inl hx)]
 ·rw[if_pos (by simp;omega),zjw hv,p2]
  by_cases h0:vA v=0
  ·rw[if_neg (by simp[h0];omega),zc7 hv hW,p2,if_neg (fun h=>by rcases h with h|h;exact hx h;exact h h0)]
  ·rw[if_pos (by simp[h0]),if_pos (.inr h0)]
def mvF(q x:Int):List G_MovedRange→Option (Int×Int×Bool)
 |[]=>none
 |e::r=>if e.f_Module=q∧e.f_Start≤x∧x<e.f_End then some (if e.f_NewModule<0 then(0,0,false) else(e.f_NewModule,W (e.f_NewStart+x-e.f_Start),true)) else mvF q x r
theorem z6a{l:FEs}{ms:List G_MovedRange}(hm:ms.length≤BB){q x:Int}:∀ (k i:Nat),i+k=ms.length→qo none l ms q x (i:Int)=(match mvF q x (ms.drop i) with
 |some r=>some r
 |none=>yv none l q x)
 |0,i,h=>by
  have:i=ms.length:=by omega
  subst this
  unfold qo
  rw[qt (x:=yv none l q x) ?_]
  ·rw[List.drop_length];rfl
  ·unfold ye
   rw[if_neg (by simp)]
 |k+1,i,h=>by
  have hi:i<ms.length:=by omega
  have ih:=z6a (l:=l) hm (q:=q) (x:=x) k (i+1) (by omega)
  have hb:ye none l ms q x (i:Int)=if ms[i].f_Module=q∧ms[i].f_Start≤x∧x<ms[i].f_End then some (.inr (if ms[i].f_NewModule<0 then(0,0,false) else(ms[i].f_NewModule,W (ms[i].f_NewStart+x-ms[i].f_Start),true))) else some (.inl ((i+1:Nat):Int)):=by
   unfold ye
   rw[if_pos (by simpa using hi),if_pos (by simpa using hi)]
   simp only[p9,we hi,Wi (show i≤BB by unfold BB at *;omega),zlx,pC,beq_iff_eq,decide_eq_true_eq,and_assoc]
   split
   ·split<;>rfl
   ·rfl
  unfold qo at ih ⊢
  rw[p1 hi,mvF]
  by_cases hc:ms[i].f_Module=q∧ms[i].f_Start≤x∧x<ms[i].f_End
  ·rw[qt (x:=some (if ms[i].f_NewModule<0 then(0,0,false) else(ms[i].f_NewModule,W (ms[i].f_NewStart+x-ms[i].f_Start),true))) (by rw[hb,if_pos hc];rfl),if_pos hc]
  ·rw[xz (s':=((i+1:Nat):Int)) (by rw[hb,if_neg hc]),ih,if_neg hc]
theorem z70{l:FEs}{ms:List G_MovedRange}(hm:ms.length≤BB){q x:Int}:∀ (k i:Nat),i+k=ms.length→yk none l ms q x (i:Int)=(match mvF q x (ms.drop i) with
 |some r=>some r
 |none=>y4 none l q x)
 |0,i,h=>by
  have:i=ms.length:=by omega
  subst this
  unfold yk
  rw[qt (x:=y4 none l q x) ?_]
  ·rw[List.drop_length];rfl
  ·unfold zo
   rw[if_neg (by simp)]
 |k+1,i,h=>by
  have hi:i<ms.length:=by omega
  have ih:=z70 (l:=l) hm (q:=q) (x:=x) k (i+1) (by omega)
  have hb:zo none l ms q x (i:Int)=if ms[i].f_Module=q∧ms[i].f_Start≤x∧x<ms[i].f_End then some (.inr (if ms[i].f_NewModule<0 then(0,0,false) else(ms[i].f_NewModule,W (ms[i].f_NewStart+x-ms[i].f_Start),true))) else some (.inl ((i+1:Nat):Int)):=by
   have ew:ms[i].f_NewStart+(x-ms[i].f_Start)=ms[i].f_NewStart+x-ms[i].f_Start:=by omega
   unfold zo
   rw[if_pos (by simpa using hi),if_pos (by simpa using hi)]
   simp only[p9,we hi,Wi (show i≤BB by unfold BB at *;omega),zao,ew,pC,beq_iff_eq,decide_eq_true_eq,and_assoc,ge_iff_le]
   split
   ·split<;>rfl
   ·rfl
  unfold yk at ih ⊢
  rw[p1 hi,mvF]
  by_cases hc:ms[i].f_Module=q∧ms[i].f_Start≤x∧x<ms[i].f_End
  ·rw[qt (x:=some (if ms[i].f_NewModule<0 then(0,0,false) else(ms[i].f_NewModule,W (ms[i].f_NewStart+x-ms[i].f_Start),true))) (by rw[hb,if_pos hc];rfl),if_pos hc]
  ·rw[xz (s':=((i+1:Nat):Int)) (by rw[hb,if_neg hc]),ih,if_neg hc]
def npR(l:FEs)(ms:List G_MovedRange)(q x:Int):Int×Int×Bool:=match mvF q x ms with
 |some r=>r
 |none=>npE q x (ems q l)
theorem zl3{l:FEs}(hl:l.length*32≤140737488355328){ms:List G_MovedRange}(hm:ms.length≤BB){q x:Int}:yu none l ms q x=some (npR l ms q x):=by
 unfold yu npR
 have h1:=z6a (l:=l) hm (q:=q) (x:=x) _ 0 (pA _)
 rw[pD,show(((0:Nat):Int))=0 from rfl] at h1
 rw[h1]
 split
 ·rfl
 ·unfold yv npE
  have h2:=z05 hl (q:=q) (x:=x) _ 0 [] (pA _) (Nat.le_refl _)
  rw[pD,show(((0:Nat):Int))=0 from rfl,List.nil_append,zfg (by have:=z3z q l;unfold BB;omega)] at h2
  rw[h2]
  split<;>rfl
theorem zjn{l:FEs}(hl:l.length*32≤140737488355328){ms:List G_MovedRange}(hm:ms.length≤BB){q x:Int}(hW:W x=x):y3 none l ms q x=some (npR l ms q x):=by
 unfold y3 npR
 have h1:=z70 (l:=l) hm (q:=q) (x:=x) _ 0 (pA _)
 rw[pD,show(((0:Nat):Int))=0 from rfl] at h1
 rw[h1]
 split
 ·rfl
 ·have hb:(ems q l).length≤BB:=by have:=z3z q l;unfold BB;omega
  unfold y4 npE
  have h2:=z6e hb (q:=q) (x:=x) _ 0 (pA _)
  rw[pD,show(((0:Nat):Int))=0 from rfl,zgl hb hW] at h2
  rw[zkh hl,p2,h2]
  split<;>rfl
def fnd(q x:Int):List G_Symbol→Int→Int
 |[],_=>-1
 |s::r,i=>if s.f_Module=q∧s.f_Start=x then i else fnd q x r (i+1)
theorem zd6{l:List G_Symbol}(hl:l.length≤BB){q x:Int}:∀ (k i:Nat),i+k=l.length →
 yt (fun(s:Unit) (y:G_Symbol)=>(zu none q x y).map fun o=>(o,())) none l (i:Int) ()=some (fnd q x (l.drop i) (i:Int),())
 |0,i,h=>by
  have:i=l.length:=by omega
  subst this
  unfold yt
  rw[qt (x:=some (-1,())) ?_]
  ·simp[fnd]
  ·unfold zx qh
   rw[if_neg (by simp)]
 |k+1,i,h=>by
  have hi:i<l.length:=by omega
  have ih:=zd6 hl (q:=q) (x:=x) k (i+1) (by omega)
  have e3:(⟨l[i].f_Kind,l[i].f_Module,l[i].f_Start,l[i].f_Parent,l[i].f_Name,l[i].f_Public⟩:G_Symbol)=l[i]:=rfl
  have hb:zx (fun(s:Unit) (y:G_Symbol)=>(zu none q x y).map fun o=>(o,())) none l (i:Int) ()=if l[i].f_Module=q∧l[i].f_Start=x then some (.inr ((i:Int),())) else some (.inl (((i+1:Nat):Int),())):=by
   unfold zx zu
   rw[if_pos (by simpa using hi),if_pos (by simpa using hi)]
   simp only[p9,we hi,Wi (show i≤BB by unfold BB at *;omega),Option.map_some,p2,pC,beq_iff_eq]
  unfold yt at ih ⊢
  rw[p1 hi,fnd]
  by_cases hc:l[i].f_Module=q∧l[i].f_Start=x
  ·rw[qt (x:=some ((i:Int),())) (by rw[hb,if_pos hc];rfl),if_pos hc]
  ·rw[xz (s':=(((i+1:Nat):Int),())) (by rw[hb,if_neg hc]),ih,if_neg hc]
   rfl
theorem zbz{a:G_Resolution}(hl:a.f_Symbols.length≤BB){q x:Int}:∀ (k i:Nat),i+k=a.f_Symbols.length →
 y5 none a q x (i:Int)=some (fnd q x (a.f_Symbols.drop i) (i:Int))
 |0,i,h=>by
  have:i=a.f_Symbols.length:=by omega
  subst this
  unfold y5
  rw[qt (x:=some (-1)) ?_]
  ·simp[fnd]
  ·unfold zk yp
   rw[if_neg (by simp)]
 |k+1,i,h=>by
  have hi:i<a.f_Symbols.length:=by omega
  have ih:=zbz hl (q:=q) (x:=x) k (i+1) (by omega)
  have hb:zk none a q x (i:Int)=if a.f_Symbols[i].f_Module=q∧a.f_Symbols[i].f_Start=x then some (.inr (i:Int)) else some (.inl ((i+1:Nat):Int)):=by
   unfold zk
   rw[if_pos (by simpa using hi),if_pos (by simpa using hi),if_pos (fun _=>by simpa using hi)]
   simp only[p9,we hi,Wi (show i≤BB by unfold BB at *;omega),pC,beq_iff_eq]
   split<;>rfl
  unfold y5 at ih ⊢
  rw[p1 hi,fnd]
  by_cases hc:a.f_Symbols[i].f_Module=q∧a.f_Symbols[i].f_Start=x
  ·rw[qt (x:=some (i:Int)) (by rw[hb,if_pos hc];rfl),if_pos hc]
  ·rw[xz (s':=((i+1:Nat):Int)) (by rw[hb,if_neg hc]),ih,if_neg hc]
   rfl
theorem zkb{a:G_Resolution}(hl:a.f_Symbols.length≤BB){q x:Int}:yl none a q x=some (fnd q x a.f_Symbols 0):=by
 unfold yl yz
 have:=zd6 hl (q:=q) (x:=x) _ 0 (pA _)
 rw[pD,show(((0:Nat):Int))=0 from rfl] at this
 rw[this];rfl
theorem zkd{a:G_Resolution}(hl:a.f_Symbols.length≤BB){q x:Int}:zq none a q x=some (fnd q x a.f_Symbols 0):=by
 unfold zq
 have:=zbz hl (q:=q) (x:=x) _ 0 (pA _)
 rw[pD,show(((0:Nat):Int))=0 from rfl] at this
 exact this
def csp(b a:G_Resolution)(l:FEs)(ms:List G_MovedRange)(y:Int)(s:G_Symbol):Int:=
 if s.f_Kind=15 then if y≥(a.f_Symbols.length:Int) then -1 else y
 else if s.f_Kind=1 then fnd s.f_Module s.f_Start a.f_Symbols 0
 else if(npR l ms s.f_Module s.f_Start).2.2=false then -1 else fnd (npR l ms s.f_Module s.f_Start).1 (npR l ms s.f_Module s.f_Start).2.1 a.f_Symbols 0
def csq(b a:G_Resolution)(l:FEs)(ms:List G_MovedRange)(y:Int):Int:=
 if y<0∨y≥(b.f_Symbols.length:Int) then -1 else csp b a l ms y (b.f_Symbols.getD y.toNat default)
theorem cA{b a:G_Resolution}(ha:a.f_Symbols.length≤BB){l:FEs}(hl:l.length*32≤140737488355328){ms:List G_MovedRange}(hm:ms.length≤BB)(y:Int) :
 yx none b a l ms y=some (csq b a l ms y):=by
 unfold yx csq
 rw[pB,pB]
 generalize b.f_Symbols.getD y.toNat default=s
 by_cases h0:y<0∨y≥(b.f_Symbols.length:Int)
 ·rw[if_pos h0,if_pos (by simpa using h0)]
 ·rw[if_neg h0,if_neg (show ¬(decide (y<0) || decide (y≥(b.f_Symbols.length:Int)))=true by simpa using h0),if_pos (show(0:Int)≤y∧y<(b.f_Symbols.length:Int) by omega)]
  unfold csp
  by_cases h15:s.f_Kind=15
  ·rw[if_pos (show(s.f_Kind==15)=true by simpa using h15),if_pos h15]
   by_cases hz:y≥(a.f_Symbols.length:Int)
   ·rw[if_pos (show decide (y≥(a.f_Symbols.length:Int))=true from decide_eq_true hz),if_pos hz]
   ·rw[if_neg (show ¬decide (y≥(a.f_Symbols.length:Int))=true by simpa using hz),if_neg hz]
  ·rw[if_neg (show ¬(s.f_Kind==15)=true by simpa using h15),if_neg h15]
   by_cases h1:s.f_Kind=1
   ·rw[if_pos (show(s.f_Kind==1)=true by simpa using h1),if_pos h1,zkb ha]
   ·rw[if_neg (show ¬(s.f_Kind==1)=true by simpa using h1),if_neg h1,zl3 hl hm,p2]
    cases hv:(npR l ms s.f_Module s.f_Start).2.2
    ·rw[if_pos (show(!false)=true from rfl),if_pos rfl]
    ·rw[if_neg (by simp),if_neg (by simp),zkb ha]
theorem cB{b a:G_Resolution}(ha:a.f_Symbols.length≤BB){l:FEs}(hl:l.length*32≤140737488355328){ms:List G_MovedRange}(hm:ms.length≤BB)(hW:∀s∈b.f_Symbols,W s.f_Start=s.f_Start)(y:Int) :
 y1 none b a l ms y=some (csq b a l ms y):=by
 unfold y1 csq
 rw[pB,pB]
 by_cases h0:y<0∨y≥(b.f_Symbols.length:Int)
 ·rw[if_pos h0,if_pos (by simpa using h0)]
 ·have hyl:y.toNat<b.f_Symbols.length:=by omega
  have hW':W (b.f_Symbols.getD y.toNat default).f_Start=(b.f_Symbols.getD y.toNat default).f_Start:=by
   rw[we hyl];exact hW _ (List.getElem_mem hyl)
  generalize b.f_Symbols.getD y.toNat default=s at hW' ⊢
  rw[if_neg h0,if_neg (show ¬(decide (y<0) || decide (y≥(b.f_Symbols.length:Int)))=true by simpa using h0),if_pos (show(0:Int)≤y∧y<(b.f_Symbols.length:Int) by omega)]
  unfold csp
  by_cases h15:s.f_Kind=15
  ·rw[if_pos (show(s.f_Kind==15)=true by simpa using h15),if_pos h15]
   by_cases hz:y≥(a.f_Symbols.length:Int)
   ·rw[if_neg (show ¬decide (y<(a.f_Symbols.length:Int))=true by simpa using hz),if_pos hz]
   ·rw[if_pos (show decide (y<(a.f_Symbols.length:Int))=true by simpa using hz),if_neg hz]
  ·rw[if_neg (show ¬(s.f_Kind==15)=true by simpa using h15),if_neg h15]
   by_cases h1:s.f_Kind=1
   ·rw[if_neg (show ¬(s.f_Kind != 1)=true by simp[h1]),if_pos h1,zkd ha]
   ·rw[if_pos (show(s.f_Kind != 1)=true by simpa using h1),if_neg h1,zjn hl hm hW',p2]
    cases hv:(npR l ms s.f_Module s.f_Start).2.2
    ·rw[if_pos (show(!false)=true from rfl),if_pos rfl]
    ·rw[if_neg (by simp),if_neg (by simp),zkd ha]
open Go.Fx Go.RowKit
def V6(x:G_Symbol):Prop:=(p3 .i64≤x.f_Kind∧x.f_Kind≤p4 .i64)∧(p3 .i64≤x.f_Module∧x.f_Module≤p4 .i64)∧(p3 .i64≤x.f_Start∧x.f_Start≤p4 .i64)∧(p3 .i64≤x.f_Parent∧x.f_Parent≤p4 .i64)∧x.f_Name.length≤reachBytes∧True
def Zi(x:G_Reference):Prop:=(p3 .i64≤x.f_Module∧x.f_Module≤p4 .i64)∧(p3 .i64≤x.f_Start∧x.f_Start≤p4 .i64)∧(p3 .i64≤x.f_Symbol∧x.f_Symbol≤p4 .i64)
def Z0(x:G_Diagnostic):Prop:=(p3 .i64≤x.f_Code∧x.f_Code≤p4 .i64)∧(p3 .i64≤x.f_Module∧x.f_Module≤p4 .i64)∧(p3 .i64≤x.f_Start∧x.f_Start≤p4 .i64)∧(p3 .i64≤x.f_End∧x.f_End≤p4 .i64)∧x.f_Name.length≤reachBytes
def vw(x:G_Resolution):Prop:=(x.f_Symbols.length≤maxLen∧x.f_Symbols.length*56≤reachBytes∧∀y∈x.f_Symbols,V6 y)∧(x.f_References.length≤maxLen∧x.f_References.length*24≤reachBytes∧∀y∈x.f_References,Zi y)∧(x.f_Diagnostics.length≤maxLen∧x.f_Diagnostics.length*48≤reachBytes∧∀y∈x.f_Diagnostics,Z0 y)
def V0(x:G_TextEdit):Prop:=(p3 .i64≤x.f_Start∧x.f_Start≤p4 .i64)∧(p3 .i64≤x.f_End∧x.f_End≤p4 .i64)∧x.f_NewText.length≤reachBytes
def Yw(x:G_FileEdit):Prop:=(p3 .i64≤x.f_Module∧x.f_Module≤p4 .i64)∧V0 x.f_TextEdit
def Z6(x:G_MovedRange):Prop:=(p3 .i64≤x.f_Module∧x.f_Module≤p4 .i64)∧(p3 .i64≤x.f_Start∧x.f_Start≤p4 .i64)∧(p3 .i64≤x.f_End∧x.f_End≤p4 .i64)∧(p3 .i64≤x.f_NewModule∧x.f_NewModule≤p4 .i64)∧(p3 .i64≤x.f_NewStart∧x.f_NewStart≤p4 .i64)
def z2v(x:List G_Symbol):Prop:=(x.length≤maxLen∧x.length*56≤reachBytes∧∀y∈x,V6 y)
def zjq(x:Int):Prop:=(p3 .i64≤x∧x≤p4 .i64)
def zkz(x:List UInt8):Prop:=x.length≤reachBytes
def zgi(x:Bool):Prop:=True
def Vq(x:List G_Reference):Prop:=(x.length≤maxLen∧x.length*24≤reachBytes∧∀y∈x,Zi y)
def Jw(x:List G_Diagnostic):Prop:=(x.length≤maxLen∧x.length*48≤reachBytes∧∀y∈x,Z0 y)
def Kg(x:List G_FileEdit):Prop:=(x.length≤maxLen∧x.length*40≤reachBytes∧∀y∈x,Yw y)
def W0(x:List G_MovedRange):Prop:=(x.length≤maxLen∧x.length*40≤reachBytes∧∀y∈x,Z6 y)
def zov(a0:G_Resolution)(a1:G_Resolution)(a2:List G_FileEdit)(a3:List G_MovedRange)(a4:Int)(a5:Int)(a6:Int):Prop:=(vw a0)∧(vw a1)∧((a2.length≤maxLen∧a2.length*40≤reachBytes∧∀y∈a2,Yw y))∧((a3.length≤maxLen∧a3.length*40≤reachBytes∧∀y∈a3,Z6 y))∧((p3 .i64≤a4∧a4≤p4 .i64))∧((p3 .i64≤a5∧a5≤p4 .i64))∧((p3 .i64≤a6∧a6≤p4 .i64))
def spT:List Int:=(List.range 256).map fun c=>if Lib.isSp (UInt8.ofNat c) then 1 else 0
theorem zow:z2m=zj9 .u8 spT:=by unfold z2m zj9 spT;rw[List.map_map];rfl
theorem zmn:(Rows.laid_strings_asciiSpace:DataW Unit)=Lib.tabData .u8 spT:=by kernel_rfl
theorem gn1:Tryz.prog.globalNamed "strings.asciiSpace"=some 0:=by kernel_rfl
theorem gy1:(Tryz.prog.globals[0]?).map (·.type)=some 233:=by kernel_rfl
theorem zmx:∃e,Tryz.prog.underlying 233=some (.array 256 e)∧Tryz.prog.underlying e=some (.int .u8)∧Tryz.prog.cellsOf e=1∧Tryz.prog.cellsOf 233=256:=⟨_,Tryz.underlying233,by kernel_rfl,by kernel_rfl,by kernel_rfl⟩
theorem znr {w:World} (h:Lib.VarReads Tryz.prog w "strings.asciiSpace" (Lib.tabData .u8 spT)):Lib.TabIs Tryz.prog w "strings.asciiSpace" .u8 spT:=by
 obtain⟨g,t,cs,fuel,p,hg,hty,hvar,hd⟩:=h
 obtain rfl:=Option.some.inj (gn1.symm.trans hg)
 obtain rfl:=Option.some.inj (gy1.symm.trans hty)
 obtain⟨e,h1,h2,h3,h4⟩:=zmx
 have hcs:=Lib.cells_of_tab h1 h2 h3 h4 hd
 unfold Lib.TabIs
 rw[hvar,←hcs]
theorem zho {w:World} {l:List (String×DataW Unit)} (hl:(l.all fun x=>x.2.handleName?.isNone)=true) (h1:("strings.asciiSpace",Rows.laid_strings_asciiSpace)∈l) (h:laidMetH Tryz.prog l w):GlobOk (old w) w:=by
 rw[MakeChecks.laidMetH_plain _ _ _ hl] at h
 have r1:=Lib.laidMet.reads h h1
 rw[zmn] at r1
 have c1:=zde gn1 (znr r1)
 refine⟨fun x hx=>?_,fun g hg=>nomatch hg⟩
 rw[zny,zow] at hx
 rcases List.mem_cons.1 hx with rfl|hx
 ·exact⟨fun _=>c1.1,c1.2⟩
 ·cases hx
theorem zoh{a0 a1:G_Resolution}{a2:List G_FileEdit}{a3:List G_MovedRange}{a4 a5 a6:Int}(h:zov a0 a1 a2 a3 a4 a5 a6):zf none a0 a1 a2 a3 a4 a5 a6=some true:=by
 obtain⟨g0,g1,g2,g3,_,g5,_⟩:=h
 have hl:a2.length*32≤140737488355328:=by have:=g2.2.1;unfold reachBytes at this;omega
 have hm:a3.length≤BB:=by have:=g3.2.1;unfold reachBytes at this;unfold BB;omega
 have ha:a1.f_Symbols.length≤BB:=by have:=g1.1.2.1;unfold reachBytes at this;unfold BB;omega
 have hr:∀ {x:Int},p3 .i64≤x∧x≤p4 .i64→W x=x:=fun h=>zjs h
 have h1:=cA (b:=a0) ha hl hm a6
 have h2:=cB (b:=a0) ha hl hm (fun s hs=>hr (g0.1.2.2 s hs).2.2.1) a6
 unfold zf
 rw[z86,p2,if_neg (by decide),zl3 hl hm,zjn hl hm (hr g5),p2,p2]
 simp only[beq_self_eq_true,Bool.and_true,if_true]
 rw[h1,h2,p2,p2]
 simp
end Go.Proofs.YtjkfnbjgpilokaaGreatDoor
