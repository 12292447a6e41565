/-
  Own framework.
-/
import Derived.Test.YtejfgjggcoemeaaFxS
namespace Go.Fx
set_option linter.unusedVariables false
def inR(x:Int):Prop:=-9223372036854775808≤x∧x≤9223372036854775807
theorem zsd{x:Int}(h:inR x):W x=x:=wrap_i64 h.1 h.2
theorem zac{σ ρ:Type}(b:σ→Option (σ ⊕ ρ))(s:σ):ky none b s=match b s with
 |none=>none
 |some (.inl s')=>ky none b s'
 |some (.inr r)=>some r:=zl2 b s
theorem qw{σ ρ:Type}{b:σ→Option (σ ⊕ ρ)}{s s':σ}(h:b s=some (.inl s')):ky none b s=ky none b s':=by rw[zac,h]
theorem yv{σ ρ:Type}{b:σ→Option (σ ⊕ ρ)}{s:σ}{x:Option ρ}(h:b s=x.map .inr):ky none b s=x:=by rw[zac,h];cases x<;>rfl
end Go.Fx
