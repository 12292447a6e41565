/-
  Own framework.
-/
import Derived.Test.YtlilpmnmedmjaaaGreatDoorFxLb
import Derived.Shelf.Unicode.ValidAny
import Derived.Lib.LaidTab
namespace Go.Fx
open Go.Shelf Go.RowKit Go.Lib Go.Sort Go.Proofs
set_option linter.unusedVariables false
theorem zho{w w':World}(hk:Vl=false)(h:Below w.heap.size w w'):Chg w w' fun _ _=>False:=by
 refine⟨h.os,⟨h.tape,fun hh=>by rw[hk] at hh;cases hh⟩,h.output,h.size,fun b hb _=>h.block b hb,fun b k hb _=>cell?_of_heap (h.block b hb),fun b arr el fr hh=>⟨arr,?_,rfl⟩,fun b o ho hh _=>?_⟩
 all_goals
  have hlt:b<w.heap.size:=by
   rcases Nat.lt_or_ge b w.heap.size with h'|h'
   ·exact h'
   ·rw[Array.getElem?_eq_none h'] at hh;cases hh
  rw[h.block b hlt];exact hh
theorem PFn.libG{P:Program}{f:FuncId}{args:List AVal}{R:AVal}(hok:uk P f)(ha:args.all z16=true)(hR:z16 R=true)
 (h:∀I w,GlobOk I w→Calls P f (args.map zs6).toArray w fun e w'=>e=.returned (zs6 R)∧Chg w w' fun _ _=>False):PFn P f args R:=by
 refine⟨zf8 hR,0,hok,fun I β w vs hI hl hr=>?_⟩
 have hvs:vs=args.map zs6:=by
  refine List.ext_getElem (by rw[List.length_map];exact hl) fun i h1 h2=>?_
  have h3:i<args.length:=by omega
  have:=hr i args[i] vs[i] (List.getElem?_eq_getElem h3) (List.getElem?_eq_getElem h1)
  rw[List.getElem_map]
  exact zeu (List.all_eq_true.1 ha _ (List.getElem_mem h3)) this
 subst hvs
 refine(h I w hI.glob).mono ?_
 rintro e w' ⟨rfl,hc⟩
 obtain⟨g1,g2⟩:=zf1 hI hc
 exact⟨R,_,[],0,I,β,rfl,⟨rfl,rfl,rfl⟩,g1,.imm _ _ (zyb hR),g2⟩
def Um:List Value:=(List.range 256).map fun c=>.int .u8 (firstT c)
def J2:List Value:=(List.range 32).map fun j=>.int .u8 (if j % 2=0 then accLo (j / 2) else accHi (j / 2))
theorem z02{g3 g4:Nat}(h3:(g3,Um)∈GL)(h4:(g4,J2)∈GL){I:Nat→Nat→Prop}{w:World}(h:GlobOk I w):Lib.Utf8Tabs g3 g4 w:=by
 refine⟨fun c hc=>((h.1 _ h3).2 c _ (by simp[Um,hc])).2,fun i hi=>⟨((h.1 _ h4).2 (2*i) _ ?_).2,((h.1 _ h4).2 (2*i+1) _ ?_).2⟩⟩
 ·have h1:2*i<32:=by omega
  simp only[J2,List.getElem?_map,List.getElem?_range h1,Option.map_some]
  rw[if_pos (by omega),show 2*i / 2=i by omega]
 ·have h1:2*i+1<32:=by omega
  simp only[J2,List.getElem?_map,List.getElem?_range h1,Option.map_some]
  rw[if_neg (by omega),show(2*i+1) / 2=i by omega]
theorem z6c{g3 g4:Nat}{w:World}(h:Lib.Utf8Tabs g3 g4 w):∀x∈[(g3,Um),(g4,J2)],∀ (i:Nat) (v:Value),x.2[i]?=some v→(∃v,w.cell? ⟨x.1,i,none⟩=some v)∧w.cell? ⟨x.1,i,none⟩=some v:=by
 intro x hx i v hv
 rcases List.mem_cons.1 hx with rfl|hx
 ·have hi:i<256:=by
   rcases Nat.lt_or_ge i 256 with h'|h'
   ·exact h'
   ·rw[List.getElem?_eq_none (by simp[Um];exact h')] at hv;cases hv
  have hv:v=.int .u8 (firstT i):=by
   simp only[Um,List.getElem?_map,List.getElem?_range hi,Option.map_some,Option.some.injEq] at hv
   exact hv.symm
  subst hv
  exact⟨⟨_,h.1 i hi⟩,h.1 i hi⟩
 ·simp only[List.mem_singleton] at hx
  subst hx
  have hi:i<32:=by
   rcases Nat.lt_or_ge i 32 with h'|h'
   ·exact h'
   ·rw[List.getElem?_eq_none (by simp[J2];exact h')] at hv;cases hv
  simp only[J2,List.getElem?_map,List.getElem?_range hi,Option.map_some,Option.some.injEq] at hv
  have h2:=h.2 (i / 2) (by omega)
  by_cases he:i % 2=0
  ·rw[if_pos he] at hv
   subst hv
   have:i=2*(i / 2):=by omega
   have h3:=h2.1
   rw[←this] at h3
   exact⟨⟨_,h3⟩,h3⟩
  ·rw[if_neg he] at hv
   subst hv
   have:i=2*(i / 2)+1:=by omega
   have h3:=h2.2
   rw[←this] at h3
   exact⟨⟨_,h3⟩,h3⟩
theorem z6r{g3 g4:Nat}(hGL:GL=[(g3,Um),(g4,J2)])(hGS:GLS=[])(hGA:GA=[]){w:World}(h:Lib.Utf8Tabs g3 g4 w):GlobOk (fun b k=>∃v,w.cell? ⟨b,k,none⟩=some v) w:=by
 refine⟨fun x hx=>?_,fun g hg=>by rw[hGA] at hg;cases hg⟩
 rw[hGL] at hx
 refine⟨fun hm=>?_,fun i v hv=>z6c h x hx i v hv⟩
 rw[hGS] at hm;cases hm
def y47(k:IntKind)(zs:List Int):List Value:=zs.map fun z=>.int k z
theorem z9d{P:Program}{ρ:Ren}(L:Lays.n196 P ρ)(hk:Vl=false){f:FuncId}(hf:ρ.f 196=f)(hok:uk P f)(h3:(ρ.g 3,Um)∈GL)(h4:(ρ.g 4,J2)∈GL){s:List UInt8}(hs:s.length≤9223372036854775807) :
 PFn P f [.str s] (.bool (Lib.validD s)):=by
 subst hf
 refine PFn.libG hok rfl rfl fun I w hg=>?_
 refine(Any.utf8_ValidString L ⟨⟨s⟩⟩ w (by simpa[ByteArray.size] using hs) (z02 h3 h4 hg)).mono ?_
 rintro e w' ⟨rfl,hb⟩
 exact⟨rfl,zho hk hb⟩
end Go.Fx
