/-
  Own framework.
-/
import Derived.Test.YtejfgjggcoemeaaFxMr
namespace Go.Fx
set_option linter.unusedVariables false
inductive Ref where
 |nil
 |foc
 |oth (j:Nat)
instance:DecidableEq Ref:=fun a b=>match a,b with
 |.nil,.nil=>isTrue rfl
 |.foc,.foc=>isTrue rfl
 |.oth i,.oth j=>if h:i=j then isTrue (by rw[h]) else isFalse (fun e=>h (Ref.oth.inj e))
 |.nil,.foc=>isFalse (fun e=>Ref.noConfusion e)
 |.nil,.oth _=>isFalse (fun e=>Ref.noConfusion e)
 |.foc,.nil=>isFalse (fun e=>Ref.noConfusion e)
 |.foc,.oth _=>isFalse (fun e=>Ref.noConfusion e)
 |.oth _,.nil=>isFalse (fun e=>Ref.noConfusion e)
 |.oth _,.foc=>isFalse (fun e=>Ref.noConfusion e)
instance:Inhabited Ref:=⟨.nil⟩
def eR(f:Option Id):Ref→AVal
 |.nil=>.val (.map none)
 |.foc=>match f with
  |some i=>.map i
  |none=>.val (.map none)
 |.oth j=>.map (1,j)
def zud{κ:Type}(l:List (κ×Ref)):Bool:=l.all fun p=>decide (p.2≠.foc)
section
variable {F:Id→Bool} {H:AHeap} {ρ:Id→Option Id} {n:Nat} {κ:Type} {ek:κ→AVal}
end
section
variable {κ:Type} {ks:List CK} {ek:κ→AVal} {q:κ→κ→Bool} {k:κ} {l:List (κ×Ref)}
end
end Go.Fx
