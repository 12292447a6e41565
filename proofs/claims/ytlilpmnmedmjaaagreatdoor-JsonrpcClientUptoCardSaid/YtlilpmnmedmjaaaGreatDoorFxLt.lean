/-
  Own framework.
-/
import Derived.Test.YtlilpmnmedmjaaaGreatDoorFxP
import Derived.Test.YtlilpmnmedmjaaaGreatDoorFxN
namespace Go.Fx
set_option linter.unusedVariables false
theorem Wi{i:Nat}(h:i≤4611686018427387904):W ((i:Int)+1)=((i+1:Nat):Int):=by rw[zsr (by unfold inR;omega)];omega
theorem z5w{α:Type}[Inhabited α]{l:List α}{i:Nat}(h:i<l.length):l.getD i default=l[i]:=by
 simp[List.getD_eq_getElem?_getD,h]
def y3d(x:List UInt8)(l:List (List UInt8)):List (List UInt8):=l.takeWhile fun y=>decide (y<x)
def y3v(x:List UInt8)(l:List (List UInt8)):List (List UInt8):=l.dropWhile fun y=>decide (y<x)
def y3l(l:List (List UInt8))(x:List UInt8):List (List UInt8):=match y3v x l with
 |[]=>y3d x l++[x]
 |y::r=>if y=x then l else y3d x l++(x::y::r)
def y3o(l:List (List UInt8)):List (List UInt8):=l.foldl y3l []
theorem mdK{κ ν:Type}{q:κ→κ→Bool}{hq:∀x y,q x y=true↔x=y}{M:List (κ×ν)}{k j:κ}(hn:(M.map (·.1)).Nodup):(j∈(md q M k).map (·.1)↔j∈M.map (·.1)∧j≠k)∧((md q M k).map (·.1)).Nodup∧(md q M k).length≤M.length:=by
 induction M with
 |nil=>simp[md]
 |cons e M ih=>
  obtain⟨k',v'⟩:=e
  simp only[List.map_cons,List.nodup_cons] at hn
  obtain⟨i1,i2,i3⟩:=ih hn.2
  have i0:∀x,x∈(md q M k).map (·.1)→x∈M.map (·.1):=by
   have:List.Sublist (md q M k) M:=by
    clear ih hn i1 i2 i3
    induction M with
    |nil=>exact .slnil
    |cons e M ih=>
     obtain⟨k'',v''⟩:=e
     unfold md
     split
     ·exact List.sublist_cons_self ..
     ·exact ih.cons_cons _
   exact fun x hx=>(this.map _).subset hx
  unfold md
  by_cases h:k=k'
  ·subst h
   rw[if_pos ((hq _ _).2 rfl)]
   refine⟨?_,hn.2,by simp⟩
   simp only[List.map_cons,List.mem_cons]
   constructor
   ·intro hj;exact⟨.inr hj,fun e=>hn.1 (e▸hj)⟩
   ·rintro⟨rfl|hj,hne⟩
    ·exact absurd rfl hne
    ·exact hj
  ·rw[if_neg (fun e=>h ((hq _ _).1 e))]
   refine⟨?_,?_,by simp only[List.length_cons];omega⟩
   ·simp only[List.map_cons,List.mem_cons,i1]
    constructor
    ·rintro(rfl|⟨hj,hne⟩)
     ·exact⟨.inl rfl,fun e=>h e.symm⟩
     ·exact⟨.inr hj,hne⟩
    ·rintro⟨rfl|hj,hne⟩
     ·exact .inl rfl
     ·exact .inr ⟨hj,hne⟩
   ·simp only[List.map_cons,List.nodup_cons]
    exact⟨fun hx=>hn.1 (i0 _ hx),i2⟩
section
variable {κ ν:Type} [DecidableEq κ] {q:κ→κ→Bool}
theorem mpK{hq:∀x y,q x y=true↔x=y}{M:List (κ×ν)}{k:κ}{v:ν}:(mp q M k v).map (·.1)=if k∈M.map (·.1) then M.map (·.1) else M.map (·.1)++[k]:=by
 induction M with
 |nil=>simp[mp]
 |cons e M ih=>
  obtain⟨k',v'⟩:=e
  unfold mp
  by_cases hk:k=k'
  ·subst hk
   rw[if_pos ((hq _ _).2 rfl)]
   simp
  ·rw[if_neg (fun h=>hk ((hq _ _).1 h))]
   simp only[List.map_cons,ih,List.mem_cons,hk,false_or]
   split<;>rfl
theorem lkM{hq:∀x y,q x y=true↔x=y}{M:List (κ×ν)}{k j:κ}{v:ν}:lk q (mp q M k v) j=if k=j then some v else lk q M j:=by
 induction M with
 |nil=>
  simp only[mp,lk,hq]
  by_cases h:k=j
  ·subst h;simp
  ·rw[if_neg (fun e=>h e.symm),if_neg h]
 |cons e M ih=>
  obtain⟨k',v'⟩:=e
  unfold mp
  by_cases hk:k=k'
  ·subst hk
   rw[if_pos ((hq _ _).2 rfl)]
   simp only[lk,hq]
   by_cases h:k=j
   ·subst h;simp
   ·rw[if_neg (fun e=>h e.symm),if_neg h,if_neg (fun e=>h e.symm)]
  ·rw[if_neg (fun h=>hk ((hq _ _).1 h))]
   simp only[lk,hq,ih]
   by_cases h:j=k'
   ·subst h;rw[if_pos rfl,if_pos rfl,if_neg hk]
   ·rw[if_neg h,if_neg h]
end
end Go.Fx
