/-
  Own text Ok of this claim: what functions of the given program compute, in plain Lean, and the proof; no condition.
-/
import Derived.Test.YtejfgjggcoemeaaGenC
namespace Go.Proofs.Ytejfgjggcoemeaa
open Go.Fx
set_option linter.unusedVariables false
def z87(x:G_QKey):Prop:=(IntKind.min .i64≤x.f_Kind∧x.f_Kind≤IntKind.max .i64)∧(IntKind.min .i64≤x.f_A∧x.f_A≤IntKind.max .i64)∧(IntKind.min .i64≤x.f_B∧x.f_B≤IntKind.max .i64)
def z23(x:G_QEdge):Prop:=z87 x.f_From∧z87 x.f_To
def z79(x:List G_QEdge):Prop:=(x.length≤maxLen∧x.length*48≤reachBytes∧∀y∈x,z23 y)
def zsb(x:Int):Prop:=(IntKind.min .i64≤x∧x≤IntKind.max .i64)
def zty(a0:List G_QEdge):Prop:=((a0.length≤maxLen∧a0.length*48≤reachBytes∧∀y∈a0,z23 y))
end Go.Proofs.Ytejfgjggcoemeaa
