/-
  Own framework.
-/
import Derived.Test.YtlilpmnmedmjaaaGreatDoorFxS
namespace Go.Fx
set_option linter.unusedVariables false
def inR(x:Int):Prop:=-9223372036854775808≤x∧x≤9223372036854775807
theorem zsr{x:Int}(h:inR x):W x=x:=z09 h.1 h.2
theorem z5l{σ ρ:Type}(b:σ→Option (σ ⊕ ρ))(s:σ):Y1 none b s=match b s with
 |none=>none
 |some (.inl s')=>Y1 none b s'
 |some (.inr r)=>some r:=zr1 b s
theorem wz{σ ρ:Type}{b:σ→Option (σ ⊕ ρ)}{s s':σ}(h:b s=some (.inl s')):Y1 none b s=Y1 none b s':=by rw[z5l,h]
theorem xe{σ ρ:Type}{b:σ→Option (σ ⊕ ρ)}{s:σ}{x:Option ρ}(h:b s=x.map .inr):Y1 none b s=x:=by rw[z5l,h];cases x<;>rfl
end Go.Fx
