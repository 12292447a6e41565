/-
  Own text Eb of this claim: what functions of the given program compute, in plain Lean, and the proof; no condition.
-/
import Derived.Test.YtjkfnbjgpilokaaGreatDoorChecked
import Derived.Test.YtjkfnbjgpilokaaGreatDoorFd
import Derived.Test.YtjkfnbjgpilokaaGreatDoorLib
import Derived.Test.YtjkfnbjgpilokaaGreatDoorBd
import Derived.KernelRfl
namespace Go.Proofs.YtjkfnbjgpilokaaGreatDoor
open Go.Fx
set_option maxRecDepth 100000
abbrev N0:AVal:=.val (.slice none 0 0)
abbrev S0:AVal:=.str []
abbrev I(n:Nat):AVal:=.int .i64 (.ofNat n)
abbrev J(n:Nat):AVal:=.int .i64 (-(n:Int))
theorem zxv:GL=[(0,z3p)]:=by kernel_rfl
theorem zy6(s:List UInt8)(c:Int):PFn Tryz.prog 104 [.str s,.int .u8 c] (.int .i64 (Lib.indexByte s c.toNat.toUInt8)):=
 z5m Tryz.l104 rfl ⟨_,Tryz.func104,by kernel_rfl,by kernel_rfl⟩ s c
theorem zy9{s:List UInt8}(hs:s.length<4294967281)(ha:s.all (fun b=>decide (b.toNat<128))=true){H:AHeap}{n:Nat}{K:AVal→AHeap→Nat→Prop}(hk:K (.msl (n,0) 1 0 (Lib.fields s).length true) (((n,0),.rows 1 ((Lib.fields s).map fun l=>[.str l]))::H) (n+1)):ACalls Tryz.prog 149 [.str s] H n K:=
 z68 Tryz.l149 (by kernel_rfl) rfl ⟨_,Tryz.func149,by kernel_rfl,by kernel_rfl⟩ (by rw[zxv];exact .head _) hs ha hk
noncomputable def fm:Nat→Option LFn:=zw0 Tryz.prog [] [(149,[26,50,64,88]),(159,[7,53,58]),(290,[48,51]),(6,[11]),(16,[11])]
theorem kz:za6 Tryz.prog fm:=zoo (fun f h=>by cases h)
noncomputable def xs0:Nat→List AVal→Sh→Option Rs:=orX (zfb 104) (orX (z6r 149) (zxm 60 61 124 5))
theorem wg:j7 Tryz.prog xs0:=wi (zeq zy6) (wi (zbo zy9) (zoz Q8 zhg))
def bk(f:Nat):Option (Bool×Nat):=match Nat.beq f 250 with
 |true=>some (false,1)
 |false=>none
theorem u7:z4m Tryz.prog bk:=by
 intro f ag s h
 unfold bk at h
 split at h
 ·rename_i hf
  obtain rfl:=Nat.eq_of_beq_eq_true hf
  cases h
  exact⟨List.range 19,⟨2,⟨19,List.range 19,false⟩,Kd false 1,[]⟩,by kernel_rfl,⟨_,Tryz.func250,by kernel_rfl,by kernel_rfl⟩,by decide,rfl,rfl⟩
 ·cases h
noncomputable def fsL(l:List (Nat×List Go.Fx.Id))(n:Nat):List Go.Fx.Id:=match l.find? (fun x=>Nat.beq x.1 n) with|some x=>x.2|none=>[]
end Go.Proofs.YtjkfnbjgpilokaaGreatDoor
