/-
  What strings.Builder's methods do in a world; no condition.
-/
import Derived.Test.YtjkfnbjgpilokaaGreatDoorChecked
import Derived.Test.YtjkfnbjgpilokaaGreatDoorFd
import Derived.WalkKit
import Derived.ProofKit
import Derived.Lib.Builder
import Derived.Lib.UnsafeStr
import Derived.Lib.AppendStr
import Derived.Laws.Externs
set_option linter.unusedVariables false
namespace Go.Proofs.YtjkfnbjgpilokaaGreatDoor
open Go.RowKit
theorem z03{P:Program}{ops:Array Oper}{rest:List Oper}{o:Oper}{a:Act}{w w':World}{v':Value}{Q:Exit→Act→World→Prop}(hgd:o.guard=none)(sl x:Operand)(t u:TypeId)
 (ho:o.op=.call { callee:=.builtin .append,args:=#[sl,x],argTypes:=#[t,u] }) (hr:(Builtin.append_ #[t,u] o.type #[a.eval sl,a.eval x]).run P w=.ok v' w')
 (h:wpList P ops Q rest (a.put o.dst v') w'):wpList P ops Q (o::rest) a w:=by
 refine wpList_plain hgd fun K hK=>?_
 unfold Oper.wp execOp
 simp only[ho,resolve,invoke,builtin,Sem.run_bind,Sem.run_pure,Result.andThen_ok,List.map_toArray,List.map_cons,List.map_nil,hr]
 exact hK _ _ h
set_option maxHeartbeats 1000000 in
set_option maxRecDepth 100000 in
theorem z0u(b:Nat)(w:World)(h0:w.cell? ⟨b,0,none⟩=some (.pointer (some ⟨b,0,none⟩))) :
 Calls Tryz.prog 93 #[.pointer (some ⟨b,0,none⟩)] w fun e w'=>e=.returned (.tuple #[])∧w'=w:=by
 obtain⟨j,hj⟩:∃j,Tryz.prog.info? 124=some j:=⟨_,rfl⟩
 go_enter Tryz.func93,Tryz.ntmps93
 go_wp2
 rw[Lib.run_neq_ptr_same w _ Tryz.underlying121 hj]
 go_wp2
 go_end0
 exact⟨rfl,rfl⟩
set_option maxHeartbeats 1000000 in
set_option maxRecDepth 100000 in
theorem z0f(b:Nat)(w:World)(h0:w.cell? ⟨b,0,none⟩=some (.pointer none))(hsh:w.shape? b=some (124,2))(hfz:w.frozen? ⟨b,0,none⟩=false) :
 Calls Tryz.prog 93 #[.pointer (some ⟨b,0,none⟩)] w fun e w'=>e=.returned (.tuple #[])∧w'=w.setCell ⟨b,0,none⟩ (.pointer (some ⟨b,0,none⟩)):=by
 obtain⟨j,hj⟩:∃j,Tryz.prog.info? 124=some j:=⟨_,rfl⟩
 have hjs:j.size=2:=by cases hj;rfl
 go_enter Tryz.func93,Tryz.ntmps93
 go_wp2
 rw[Lib.run_to_unsafe w ⟨b,0,none⟩ Tryz.underlying121 Tryz.underlying199 hj (by rw[hjs];decide) hsh (Nat.zero_lt_succ 1)]
 simp only[Result.andThen]
 rw[Oper.upon_value]
 go_wp2
 rw[run_callFunc_extern Tryz.func147 (by kernel_rfl) (by kernel_rfl) (by kernel_rfl) (e:=Extern.AbiNoEscape.same) (by kernel_rfl)]
 rw[Lib.run_noEscape]
 simp only[Result.andThen]
 rw[Oper.upon_value]
 go_wp2
 rw[Lib.run_from_unsafe w ⟨b,0,none⟩ Tryz.underlying199 Tryz.underlying121 hj hsh (by kernel_rfl)]
 simp only[Result.andThen]
 rw[Oper.upon_value]
 go_wp2
 go_end0
 exact⟨rfl,rfl⟩
set_option maxHeartbeats 1000000 in
set_option maxRecDepth 100000 in
theorem Xm(b:Nat)(s:ByteArray)(v v2:Value)(w w2:World)(hb:w.heap[b]?=some (.cells #[.pointer (some ⟨b,0,none⟩),v] 124 (0,0)))
 (hrun:(Builtin.append_ #[122,9] 122 #[v,.string s]).run Tryz.prog w=.ok v2 w2) (hv2:∃a l c,v2=.slice a l c) (hb2:w2.heap[b]?=some (.cells #[.pointer (some ⟨b,0,none⟩),v] 124 (0,0))) :
 Calls Tryz.prog 60 #[.pointer (some ⟨b,0,none⟩),.string s] w fun e w'=>e=.returned (.tuple #[.int .i64 s.size,.nilIface])∧w'=w2.setCell ⟨b,1,none⟩ v2:=by
 obtain⟨a,l,c,rfl⟩:=hv2
 have c0:w.cell? ⟨b,0,none⟩=some (.pointer (some ⟨b,0,none⟩)):=by rw[Lib.cell_of_heap hb];rfl
 have c1:w.cell? ⟨b,1,none⟩=some v:=by rw[Lib.cell_of_heap hb];rfl
 have d1:w2.cell? ⟨b,1,none⟩=some v:=by rw[Lib.cell_of_heap hb2];rfl
 have f1:w2.frozen? ⟨b,1,none⟩=false:=Lib.frozen_of_heap hb2 1
 go_enter Tryz.func60,Tryz.ntmps60
 go_wp2_with (go_at_call 93;refine(z0u b _ c0).mono ?_)
 rintro e w1 ⟨rfl,rfl⟩
 go_wp2_with (at_builtin;refine z03 rfl _ _ 122 9 rfl hrun ?_)
 go_wp2
 go_ret2
 exact⟨rfl,rfl⟩
set_option maxHeartbeats 1000000 in
set_option maxRecDepth 100000 in
theorem Qz(b:Nat)(s:ByteArray)(v v2:Value)(w w2:World)(hb:w.heap[b]?=some (.cells #[.pointer none,v] 124 (0,0)))
 (hrun:(Builtin.append_ #[122,9] 122 #[v,.string s]).run Tryz.prog (w.setCell ⟨b,0,none⟩ (.pointer (some ⟨b,0,none⟩)))=.ok v2 w2) (hv2:∃a l c,v2=.slice a l c) (hb2:w2.heap[b]?=some (.cells #[.pointer (some ⟨b,0,none⟩),v] 124 (0,0))) :
 Calls Tryz.prog 60 #[.pointer (some ⟨b,0,none⟩),.string s] w fun e w'=>e=.returned (.tuple #[.int .i64 s.size,.nilIface])∧w'=w2.setCell ⟨b,1,none⟩ v2:=by
 obtain⟨a,l,c,rfl⟩:=hv2
 have c0:w.cell? ⟨b,0,none⟩=some (.pointer none):=by rw[Lib.cell_of_heap hb];rfl
 have c1:w.cell? ⟨b,1,none⟩=some v:=by rw[Lib.cell_of_heap hb];rfl
 have c1':(w.setCell ⟨b,0,none⟩ (.pointer (some ⟨b,0,none⟩))).cell? ⟨b,1,none⟩=some v:=by rw[World.cell?_setCell_other _ _ _ _ (by simp)];exact c1
 have d1:w2.cell? ⟨b,1,none⟩=some v:=by rw[Lib.cell_of_heap hb2];rfl
 have f1:w2.frozen? ⟨b,1,none⟩=false:=Lib.frozen_of_heap hb2 1
 go_enter Tryz.func60,Tryz.ntmps60
 go_wp2_with (go_at_call 93;refine(z0f b _ c0 (by simp[World.shape?,hb]) (Lib.frozen_of_heap hb 0)).mono ?_)
 rintro e w1 ⟨rfl,rfl⟩
 go_wp2_with (at_builtin;refine z03 rfl _ _ 122 9 rfl hrun ?_)
 go_wp2
 go_ret2
 exact⟨rfl,rfl⟩
theorem Q8:Fx.BWrite Tryz.prog 60 124 5 122 9 where
 ok:=⟨_,Tryz.func60,by kernel_rfl,by kernel_rfl⟩
 ht:=Tryz.underlying122
 hu:=Tryz.underlying9
 hz:=⟨[.int .u8 0],by kernel_rfl⟩
 hsz:=by kernel_rfl
 hby:=by kernel_rfl
 used:=Xm
 fresh:=Qz
set_option maxHeartbeats 1000000 in
set_option maxRecDepth 100000 in
theorem z0m(b:Nat)(p:Value)(w:World)(hb:w.heap[b]?=some (.cells #[p,.slice none 0 0] 124 (0,0))) :
 Calls Tryz.prog 61 #[.pointer (some ⟨b,0,none⟩)] w fun e w'=>e=.returned (.string ⟨#[]⟩)∧w'=w.drew:=by
 have c1:w.drew.cell? ⟨b,1,none⟩=some (.slice none 0 0):=by
  have:w.drew.heap[b]?=some (.cells #[p,.slice none 0 0] 124 (0,0)):=hb
  rw[Lib.cell_of_heap this];rfl
 have hSD:(Builtin.unsafeSliceData_ #[122] 157 #[.slice none 0 0]).run Tryz.prog w.drew=.ok (.pointer none) w.drew:=rfl
 have hUS:(Builtin.unsafeString_ #[157,3] 9 #[.pointer none,.int .i64 0]).run Tryz.prog w.drew=.ok (.string ⟨#[]⟩) w.drew:=Lib.run_unsafeString_none _ _ _ _ _
 go_enter Tryz.func61,Tryz.ntmps61
 go_wp2
 go_region
 all_goals (go_wp2;go_ret;exact⟨rfl,rfl⟩)
set_option maxHeartbeats 1000000 in
set_option maxRecDepth 100000 in
theorem Kr(b g cap:Nat)(p:Value)(w:World)(hb:w.heap[b]?=some (.cells #[p,.slice (some ⟨g,0,none⟩) 0 cap] 124 (0,0)))(hcap:cap≠0) :
 Calls Tryz.prog 61 #[.pointer (some ⟨b,0,none⟩)] w fun e w'=>e=.returned (.string ⟨#[]⟩)∧w'=w.drew:=by
 have c1:w.drew.cell? ⟨b,1,none⟩=some (.slice (some ⟨g,0,none⟩) 0 cap):=by
  have:w.drew.heap[b]?=some (.cells #[p,.slice (some ⟨g,0,none⟩) 0 cap] 124 (0,0)):=hb
  rw[Lib.cell_of_heap this];rfl
 have hSD:(Builtin.unsafeSliceData_ #[122] 157 #[.slice (some ⟨g,0,none⟩) 0 cap]).run Tryz.prog w.drew=.ok (.pointer (some ⟨g,0,none⟩)) w.drew:=Lib.run_unsafeSliceData_row _ _ _ _ _ _ hcap
 have hUS:(Builtin.unsafeString_ #[157,3] 9 #[.pointer (some ⟨g,0,none⟩),.int .i64 0]).run Tryz.prog w.drew=.ok (.string ⟨#[]⟩) w.drew:=Lib.run_unsafeString_none _ _ _ _ _
 go_enter Tryz.func61,Tryz.ntmps61
 go_wp2
 go_region
 all_goals (go_wp2;go_ret;exact⟨rfl,rfl⟩)
set_option maxHeartbeats 1000000 in
set_option maxRecDepth 100000 in
theorem z0i(b g cap:Nat)(l:List UInt8)(p:Value)(w:World)(cur:Array Value)(fr:Nat×Nat)(hb:w.heap[b]?=some (.cells #[p,.slice (some ⟨g,0,none⟩) l.length cap] 124 (0,0)))(h0:l≠[])(hcap:cap≠0)(hcur:l.length≤cur.size)(h63:l.length≤9223372036854775807)(hg:w.heap[g]?=some (.cells cur 5 fr))(hcell:∀ (j:Nat) (x:UInt8),l[j]?=some x→cur[j]?=some (Value.int .u8 (x.toNat:Int))) :
 Calls Tryz.prog 61 #[.pointer (some ⟨b,0,none⟩)] w fun e w'=>e=.returned (.string ⟨l.toArray⟩)∧w'=w.drew.freeze ⟨g,0,none⟩ l.length:=by
 have c1:w.drew.cell? ⟨b,1,none⟩=some (.slice (some ⟨g,0,none⟩) l.length cap):=by
  have:w.drew.heap[b]?=some (.cells #[p,.slice (some ⟨g,0,none⟩) l.length cap] 124 (0,0)):=hb
  rw[Lib.cell_of_heap this];rfl
 have hSD:(Builtin.unsafeSliceData_ #[122] 157 #[.slice (some ⟨g,0,none⟩) l.length cap]).run Tryz.prog w.drew=.ok (.pointer (some ⟨g,0,none⟩)) w.drew:=Lib.run_unsafeSliceData_row _ _ _ _ _ _ hcap
 have hUS:(Builtin.unsafeString_ #[157,3] 9 #[.pointer (some ⟨g,0,none⟩),.int .i64 l.length]).run Tryz.prog w.drew=.ok (.string ⟨l.toArray⟩) (w.drew.freeze ⟨g,0,none⟩ l.length):=by
  refine Lib.run_unsafeString_row w.drew 157 3 9 5 Tryz.underlying157 (by kernel_rfl) g cur.size (by have hg':w.drew.heap[g]?=some (.cells cur 5 fr):=hg;simp[World.shape?,hg']) l h0 hcur h63 ?_
  intro j x hx
  have hg':w.drew.heap[g]?=some (.cells cur 5 fr):=hg
  have ha:(⟨g,0,none⟩:Addr).add j=⟨g,j,none⟩:=by simp[Addr.add];exact fun h=>h.symm
  rw[ha,Lib.cell_of_heap hg'];exact hcell j x hx
 go_enter Tryz.func61,Tryz.ntmps61
 go_wp2
 go_region
 all_goals (go_wp2;go_ret;exact⟨rfl,rfl⟩)
theorem zhg:Fx.BStr Tryz.prog 61 124 5 where
 ok:=⟨_,Tryz.func61,by kernel_rfl,by kernel_rfl⟩
 nil:=z0m
 zero:=Kr
 full:=z0i
end Go.Proofs.YtjkfnbjgpilokaaGreatDoor
