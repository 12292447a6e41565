/-
  Own framework.
-/
import Derived.Test.YtejfgjggcoemeaaFxP
import Derived.Test.YtejfgjggcoemeaaFxN
namespace Go.Fx
set_option linter.unusedVariables false
theorem Wi{i:Nat}(h:i≤4611686018427387904):W ((i:Int)+1)=((i+1:Nat):Int):=by rw[zsd (by unfold inR;omega)];omega
theorem wo{α:Type}[Inhabited α]{l:List α}{i:Nat}(h:i<l.length):l.getD i default=l[i]:=by
 simp[List.getD_eq_getElem?_getD,h]
def ztr(x:List UInt8)(l:List (List UInt8)):List (List UInt8):=l.takeWhile fun y=>decide (y<x)
def ztv(x:List UInt8)(l:List (List UInt8)):List (List UInt8):=l.dropWhile fun y=>decide (y<x)
def zu9(l:List (List UInt8))(x:List UInt8):List (List UInt8):=match ztv x l with
 |[]=>ztr x l++[x]
 |y::r=>if y=x then l else ztr x l++(x::y::r)
def zu7(l:List (List UInt8)):List (List UInt8):=l.foldl zu9 []
section
variable {κ ν:Type} [DecidableEq κ] {q:κ→κ→Bool}
theorem lkM{hq:∀x y,q x y=true↔x=y}{M:List (κ×ν)}{k j:κ}{v:ν}:lk q (mp q M k v) j=if k=j then some v else lk q M j:=by
 induction M with
 |nil=>
  simp only[mp,lk,hq]
  by_cases h:k=j
  ·subst h;simp
  ·rw[if_neg (fun e=>h e.symm),if_neg h]
 |cons e M ih=>
  obtain⟨k',v'⟩:=e
  unfold mp
  by_cases hk:k=k'
  ·subst hk
   rw[if_pos ((hq _ _).2 rfl)]
   simp only[lk,hq]
   by_cases h:k=j
   ·subst h;simp
   ·rw[if_neg (fun e=>h e.symm),if_neg h,if_neg (fun e=>h e.symm)]
  ·rw[if_neg (fun h=>hk ((hq _ _).1 h))]
   simp only[lk,hq,ih]
   by_cases h:j=k'
   ·subst h;rw[if_pos rfl,if_pos rfl,if_neg hk]
   ·rw[if_neg h,if_neg h]
end
end Go.Fx
