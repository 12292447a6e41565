/-
  Own framework.
-/
import Derived.Test.YtejfgjggcoemeaaFxDe
namespace Go.Fx
open Go.Shelf Go.Proofs
set_option linter.unusedVariables false
variable {P:Program} {ρ:Ren} {α:Type}
def zsn(b:Nat)(l:List α)(i:Int)(vs:List α):Option (List α):=match vs with
 |[x]=>if 0≤i∧i.toNat≤l.length∧(l.length+1)*b≤140737488355328 then some (l.take i.toNat++x::l.drop i.toNat) else none
 |_=>none
theorem z7x{s b:Nat}{zs:List AVal}(e:α→List AVal)(he:∀x,(e x).length=s)(L:InsL P ρ)(hz:jx P (ρ.t 9)=some zs)(hsz:jq P (ρ.t 9)=some s)(hby:Yn P (ρ.t 9)=some b)(hs:0<s)(hs1:s≠1)(hb:0<b)(hok:Z6 P (ρ.f 22)){f:FuncId}(hf:ρ.f 22=f)
 {l vs o:List α} {i:Int} (h:zsn b l i vs=some o) (fl fv:Bool) :
 ACalls P f [.msl (0,0) s 0 l.length fl,.int .i64 i,.isl s (vs.map e) fv] [((0,0),.rows s (l.map e))] 3 (ub 4 (.msl (3,0) s 0 o.length false) [((3,0),.rows s (o.map e))]):=by
 unfold zsn at h
 split at h
 ·rename_i x
  split at h
  ·rename_i hc
   obtain⟨h1,h2,h3⟩:=hc
   simp only[Option.some.injEq] at h
   subst h
   obtain⟨k,rfl⟩:=Int.eq_ofNat_of_zero_le h1
   have:=zb6 L hz hsz hby hs hs1 hb hok hf (es:=l.map e) (row:=e x) (i:=k) (he x) (by simpa using h2) (by simpa using h3) fl fv
   have e1:(l.take k++x::l.drop k).length=l.length+1:=by
    have:k≤l.length:=by simpa using h2
    simp;omega
   simp only[Int.toNat_natCast,e1]
   simpa only[List.map_append,List.map_cons,List.map_take,List.map_drop,List.length_map,List.map_nil] using this
  ·cases h
 ·cases h
def zuu(l:List α)(i j:Int):Option (List α):=if 0≤i∧j=i+1∧i.toNat<l.length∧l.length<4611686018427387904 then some (l.take i.toNat++l.drop (i.toNat+1)) else none
def zse(b:Nat)(l:List α):Option (List α):=if l.length*b≤140737488355328 then some l else none
theorem z7m{f:FuncId}{fn:Func}{t c:TypeId}{s b:Nat}{zs:List AVal}(e:α→List AVal)(hok:Z6 P f)(hfn:P.funcs[f]?=some fn)(hS:zm5 fn t)(ht:P.underlying t=some (.slice c))(hz:jx P c=some zs)(hsz:jq P c=some s)(hby:Yn P c=some b)(hs:0<s)(hb:0<b)(hzs:zs.length=s)
 {l o:List α} (h:zse b l=some o) (fv:Bool):ACalls P f [.isl s (l.map e) fv] [] 3 (ub 4 (.msl (3,0) s 0 o.length false) [((3,0),.rows s (o.map e))]):=by
 unfold zse at h
 split at h
 ·rename_i hc
  simp only[Option.some.injEq] at h
  subst h
  simpa only[List.length_map] using zbm hok hfn hS ht hz hsz hby hs hb hzs (es:=l.map e) (by simpa using hc) fv
 ·cases h
end Go.Fx
