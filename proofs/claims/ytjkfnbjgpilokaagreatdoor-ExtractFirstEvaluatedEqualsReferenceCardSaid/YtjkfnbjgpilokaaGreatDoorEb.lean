/-
  Own text Eb of this claim: what functions of the given program compute, in plain Lean, and the proof; no condition.
-/
import Derived.Test.YtjkfnbjgpilokaaGreatDoorChecked
import Derived.Test.YtjkfnbjgpilokaaGreatDoorFd
import Derived.Test.YtjkfnbjgpilokaaGreatDoorLib
import Derived.Test.YtjkfnbjgpilokaaGreatDoorBd
import Derived.KernelRfl
namespace Go.Proofs.YtjkfnbjgpilokaaGreatDoor
open Go.Fx
set_option maxRecDepth 100000
abbrev N0:AVal:=.val (.slice none 0 0)
abbrev S0:AVal:=.str []
abbrev I(n:Nat):AVal:=.int .i64 (.ofNat n)
abbrev J(n:Nat):AVal:=.int .i64 (-(n:Int))
theorem zju:GL=[(0,Uo)]:=by kernel_rfl
theorem zk2(s:List UInt8)(c:Int):PFn Tryz.prog 104 [.str s,.int .u8 c] (.int .i64 (Lib.indexByte s c.toNat.toUInt8)):=
 z9e Tryz.l104 rfl ⟨_,Tryz.func104,by kernel_rfl,by kernel_rfl⟩ s c
theorem zk8{s:List UInt8}(hs:s.length<4294967281)(ha:s.all (fun b=>decide (b.toNat<128))=true){H:AHeap}{n:Nat}{K:AVal→AHeap→Nat→Prop}(hk:K (.msl (n,0) 1 0 (Lib.fields s).length true) (((n,0),.rows 1 ((Lib.fields s).map fun l=>[.str l]))::H) (n+1)):ACalls Tryz.prog 149 [.str s] H n K:=
 Uu Tryz.l149 (by kernel_rfl) rfl ⟨_,Tryz.func149,by kernel_rfl,by kernel_rfl⟩ (by rw[zju];exact .head _) hs ha hk
noncomputable def fm:Nat→Option LFn:=zj4 Tryz.prog [] [(149,[26,50,64,88]),(159,[7,53,58]),(290,[48,51]),(6,[11]),(16,[11])]
theorem u7:z48 Tryz.prog fm:=zdx (fun f h=>by cases h)
noncomputable def xs0:Nat→List AVal→Sh→Option Rs:=orX (z7e 104) (orX (z1t 149) (zjg 60 61 124 5))
theorem jb:qr Tryz.prog xs0:=xp (z80 zk2) (xp (z4x zk8) (zcn Ur zde))
def bk(f:Nat):Option (Bool×Nat):=match Nat.beq f 250 with
 |true=>some (false,1)
 |false=>none
theorem kz:Us Tryz.prog bk:=by
 intro f ag s h
 unfold bk at h
 split at h
 ·rename_i hf
  obtain rfl:=Nat.eq_of_beq_eq_true hf
  cases h
  exact⟨List.range 19,⟨2,⟨19,List.range 19,false⟩,Xx false 1,[]⟩,by kernel_rfl,⟨_,Tryz.func250,by kernel_rfl,by kernel_rfl⟩,by decide,rfl,rfl⟩
 ·cases h
noncomputable def fsL(l:List (Nat×List Go.Fx.Id))(n:Nat):List Go.Fx.Id:=match l.find? (fun x=>Nat.beq x.1 n) with|some x=>x.2|none=>[]
end Go.Proofs.YtjkfnbjgpilokaaGreatDoor
