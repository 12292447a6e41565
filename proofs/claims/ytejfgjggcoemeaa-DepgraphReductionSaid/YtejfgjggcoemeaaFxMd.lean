/-
  Own framework.
-/
import Derived.Test.YtejfgjggcoemeaaFxMc
import Derived.Test.YtejfgjggcoemeaaFxU
/-! slices.Clone at an empty slice -/
namespace Go.Fx
open Go
section
variable {P:Program} {I:Nat→Nat→Prop} {β:Id→Option CLoc} {n:Nat} {H:AHeap} {w:World}
theorem zbq{t c:TypeId}(h:P.underlying t=some (.slice c))(a:Addr)(k q:Nat)(xo yo:Operand)(w:World) :
 (do eqGuard .eql t xo yo (.slice (some a) k q) (.slice none 0 0);binOp .eql t (.slice (some a) k q) (.slice none 0 0):Sem Value).run P w=.ok (.bool false) w:=by
 have h1:(eqGuard .eql t xo yo (.slice (some a) k q) (.slice none 0 0)).run P w=.ok () w:=rfl
 have h2:binOp .eql t (.slice (some a) k q) (.slice none 0 0)=(do pure (.bool (←Op.equal t (.slice (some a) k q) (.slice none 0 0))):Sem Value):=rfl
 have h3:(Op.equal t (.slice (some a) k q) (.slice none 0 0)).run P w=.ok false w:=Q3 h 9999 _ _ _ _ _
 rw[Sem.run_bind,h1,Result.andThen_ok,h2,Sem.run_bind,h3,Result.andThen_ok]
 rfl
theorem z7b{t c:TypeId}(h:P.underlying t=some (.slice c))(xo yo:Operand)(w:World) :
 (do eqGuard .eql t xo yo (.slice none 0 0) (.slice none 0 0);binOp .eql t (.slice none 0 0) (.slice none 0 0):Sem Value).run P w=.ok (.bool true) w:=by
 have h1:(eqGuard .eql t xo yo (.slice none 0 0) (.slice none 0 0)).run P w=.ok () w:=rfl
 have h2:binOp .eql t (.slice none 0 0) (.slice none 0 0)=(do pure (.bool (←Op.equal t (.slice none 0 0) (.slice none 0 0))):Sem Value):=rfl
 have h3:(Op.equal t (.slice none 0 0) (.slice none 0 0)).run P w=.ok true w:=Zd h 9999 _ _ _ _ _
 rw[Sem.run_bind,h1,Result.andThen_ok,h2,Sem.run_bind,h3,Result.andThen_ok]
 rfl
def zm5(fn:Func)(t:TypeId):Prop:=∃ (tB t0 t1 t2 t3 t4 t5 t6:TypeId) (p1 p2 p3 p4 p5 p6 p7 p8:String) (a1 a2 a3 a4 a5 a6 a7 a8:Array Edge) (i0 i1 i2 i3:Nat),
 fn.ntmps=8∧fn.results=#[.tmp 2] ∧
  fn.body=some (.seq (.region i0 #[⟨some 2,.assign (.const (.slice none 0 0)),t0,p1,a1,none⟩] false)
   (.seq (.seq (.region i1 #[⟨some 3,.move (.tmp 0),t1,p2,a2,none⟩,⟨some 4,.binOp .eql t (.tmp 3) (.const (.slice none 0 0)) t,tB,p3,a3,none⟩] false)
    (.cond (.tmp 4) (.seq (.region i2 #[⟨some 2,.assign (.const (.slice none 0 0)),t2,p4,a4,none⟩] false) .ret) .skip))
   (.seq (.region i3 #[⟨some 5,.buildSlice t 0 #[],t3,p5,a5,none⟩,⟨some 6,.move (.tmp 0),t4,p6,a6,none⟩,⟨some 7,.call { callee:=.builtin .append,args:=#[.tmp 5,.tmp 6],argTypes:=#[t,t] },t5,p7,a7,none⟩,⟨some 2,.assign (.tmp 7),t6,p8,a8,none⟩] false) .ret)))
end
noncomputable def zun{α:Type}(m:Option Nat)(f:Nat→Option α):Option α:=match m with
 |some k=>f k
 |none=>open Classical in if h:∃k,(f k).isSome=true then f (Classical.choose h) else none
end Go.Fx
