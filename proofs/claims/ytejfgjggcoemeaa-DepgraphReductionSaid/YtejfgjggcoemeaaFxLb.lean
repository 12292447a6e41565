/-
  Own framework.
-/
import Derived.Test.YtejfgjggcoemeaaFxMr
import Derived.Shelf.Small.Strs
import Derived.Sort.Grow
namespace Go.Fx
open Go.Shelf Go.RowKit Go.Lib Go.Sort Go.Proofs
set_option linter.unusedVariables false
def ziy:AVal→Value
 |.bool b=>.bool b
 |.int k n=>.int k n
 |.str l=>.string ⟨⟨l⟩⟩
 |_=>.nilFunc
def z56:AVal→Bool
 |.bool _=>true
 |.int _ _=>true
 |.str _=>true
 |_=>false
section
variable {I:Nat→Nat→Prop} {β:Id→Option CLoc} {n:Nat} {H:AHeap} {w w':World}
theorem zkb{x:AVal}(h:z56 x=true){v:Value}(hr:Rep I β n w x v):v=ziy x:=by
 cases x with
 |bool b=>exact hr.bool_inv
 |int k m=>exact hr.int_inv
 |str l=>exact hr.str_inv
 |_=>cases h
theorem zs8{x:AVal}(h:z56 x=true):RepI I w x (ziy x):=by
 cases x with
 |bool b=>exact .bool b
 |int k m=>exact .int k m
 |str l=>exact .str l
 |_=>cases h
theorem z5z{x:AVal}(h:z56 x=true):xc (ziy x)=true:=by
 cases x with
 |bool b=>rfl
 |int k m=>rfl
 |str l=>rfl
 |_=>cases h
end
end Go.Fx
