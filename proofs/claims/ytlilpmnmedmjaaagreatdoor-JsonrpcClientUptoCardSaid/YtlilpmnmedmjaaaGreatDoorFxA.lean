/-
  Own framework.
-/
import Derived.Calls
import Derived.Deep.Quiet
import Derived.Laws.World
import Derived.Laws.Sem
import Derived.Laws.Strings
import Derived.Laws.StructEq
namespace Go.Fx
set_option linter.unusedVariables false
abbrev Id:=Nat×Nat
inductive AVal where
 |any
 |bool (b:Bool)
 |int (k:IntKind) (n:Int)
 |str (l:List UInt8)
 |val (v:Value)
 |agg (cs:List AVal)
 |tup (cs:List AVal)
 |isl (s:Nat) (es:List (List AVal)) (full:Bool)
 |iptr (s:Nat) (es:List (List AVal)) (i off:Nat)
 |osl (tok:Id) (s:Nat) (es:List (List AVal))
 |ptr (b:Id) (i off:Nat)
 |msl (b:Id) (s off len:Nat) (full:Bool)
 |map (b:Id)
 |optp (b:Id)
 |fn (f:Fn) (first caps:List AVal)
 |ifc (t:TypeId) (v:AVal)
 |cnd (p:Bool) (x:AVal)
instance:Inhabited AVal:=⟨.any⟩
inductive ABlock where
 |rows (s:Nat) (es:List (List AVal))
 |one (cs:List AVal)
 |amap (es:List (AVal×AVal))
 |tok
 |bld (T:TypeId) (g:Id)
 |buf (e:TypeId) (bs:List UInt8)
 |lrec (l:Nat) (r:Loop) (e:List (Nat×AVal))
 |rmap (es:List (AVal×AVal)) (arr:Array MapEntry) (ck:Nat)
 |itr (m:Option Id) (arr:Array MapEntry) (ck:Nat) (seen:List Nat)
 |mbox (b:Id)
abbrev Env:=List (Nat×AVal)
abbrev AHeap:=List (Id×ABlock)
def Env.get:Env→Nat→AVal
 |[],_=>.any
 |(k,v)::r,t=>if k=t then v else Env.get r t
def Env.put(e:Env)(d:Option Nat)(v:AVal):Env:=
 match d with
 |some d=>(d,v)::e
 |none=>e
def AHeap.get:AHeap→Id→Option ABlock
 |[],_=>none
 |(k,v)::r,t=>if k=t then some v else AHeap.get r t
def AHeap.set:AHeap→Id→ABlock→AHeap
 |[],_,_=>[]
 |(k,v)::r,t,b=>if k=t then(k,b)::r else(k,v)::AHeap.set r t b
def AHeap.del:AHeap→Id→AHeap
 |[],_=>[]
 |(k,v)::r,t=>if k=t then AHeap.del r t else(k,v)::AHeap.del r t
inductive LOpd where
 |t (i:Nat)
 |c (v:AVal)
inductive CK where
 |bool|int|str
inductive EqK where
 |bool|ptr|slice|map|func|other|ifc|fnc
 |agg (ks:List CK)
inductive ConvK where
 |int (k:IntKind)|s2b (vm:Bool)|b2s|same
inductive LOp where
 |mv (x:LOpd)
 |pick (c a b:LOpd)
 |alloc (zs:List AVal)
 |allocR (s:Nat) (zs:List AVal)
 |allocB (T e:TypeId)
 |box (x:LOpd)
 |build (zs:List AVal) (parts:List (Nat×Nat×LOpd))
 |mkSl (vm:Bool) (s:Nat) (zs:List AVal) (len:Nat) (parts:List (Nat×LOpd))
 |load (agg:Bool) (n:Nat) (a:LOpd)
 |store (n:Nat) (a x:LOpd)
 |nilck (x:LOpd)
 |bin (op:BinOp) (x y:LOpd)
 |eq (neg:Bool) (k:EqK) (x y:LOpd)
 |un (op:UnOp) (x:LOpd)
 |conv (k:ConvK) (x:LOpd)
 |mkfn (f:Fn) (first caps:List LOpd)
 |mkslice (vm:Bool) (s bytes:Nat) (zs:List AVal) (l c:LOpd)
 |slStr (x:LOpd) (lo hi:Option LOpd)
 |slSl (s:Nat) (x:LOpd) (lo hi mx:Option LOpd)
 |slAr (n s:Nat) (x:LOpd)
 |faddr (off:Nat) (x:LOpd)
 |field (agg:Bool) (n off:Nat) (x:LOpd)
 |iaddr (s:Nat) (x i:LOpd)
 |iaddrA (len s:Nat) (x i:LOpd)
 |iaddrR (len s:Nat) (x i:LOpd)
 |idxS (x i:LOpd)
 |idxA (len s:Nat) (agg:Bool) (x i:LOpd)
 |ext (k:Nat) (x:LOpd)
 |call (f:FuncId) (args:List LOpd)
 |callv (x:LOpd) (args:List LOpd)
 |len (st:Bool) (x:LOpd)
 |app (vm:Bool) (s bytes:Nat) (x y:LOpd)
 |copy (s:Nat) (x y:LOpd)
 |mnx (isMax:Bool) (args:List LOpd)
 |mkmap (r:Option LOpd)
 |mlook (ks:List CK) (ka agg ok:Bool) (zs:List AVal) (x k:LOpd)
 |mset (ks:List CK) (ka agg:Bool) (zs:List AVal) (m k x:LOpd)
 |mdel (ks:List CK) (ka:Bool) (m k:LOpd)
 |mlen (x:LOpd)
 |range (x:LOpd)
 |next (x:LOpd)
 |entry (x:LOpd)
 |bad
structure LOper where
 dst:Option Nat
 op:LOp
 guard:Option (Nat×Bool):=none
def LOpd.tmps:LOpd→List Nat
 |.t i=>[i]
 |.c _=>[]
def zcn:Option LOpd→List Nat
 |none=>[]
 |some x=>x.tmps
def LOp.tmps:LOp→List Nat
 |.mv x=>x.tmps
 |.pick c a b=>c.tmps++a.tmps++b.tmps
 |.alloc _=>[]
 |.allocR _ _=>[]
 |.allocB _ _=>[]
 |.box x=>x.tmps
 |.build _ parts=>parts.flatMap fun p=>p.2.2.tmps
 |.mkSl _ _ _ _ parts=>parts.flatMap fun p=>p.2.tmps
 |.load _ _ a=>a.tmps
 |.store _ a x=>a.tmps++x.tmps
 |.nilck x=>x.tmps
 |.bin _ x y=>x.tmps++y.tmps
 |.eq _ _ x y=>x.tmps++y.tmps
 |.un _ x=>x.tmps
 |.conv _ x=>x.tmps
 |.mkfn _ a c=>a.flatMap LOpd.tmps++c.flatMap LOpd.tmps
 |.mkslice _ _ _ _ l c=>l.tmps++c.tmps
 |.slStr x lo hi=>x.tmps++zcn lo++zcn hi
 |.slSl _ x lo hi mx=>x.tmps++zcn lo++zcn hi++zcn mx
 |.slAr _ _ x=>x.tmps
 |.faddr _ x=>x.tmps
 |.field _ _ _ x=>x.tmps
 |.iaddr _ x i=>x.tmps++i.tmps
 |.iaddrA _ _ x i=>x.tmps++i.tmps
 |.iaddrR _ _ x i=>x.tmps++i.tmps
 |.idxS x i=>x.tmps++i.tmps
 |.idxA _ _ _ x i=>x.tmps++i.tmps
 |.ext _ x=>x.tmps
 |.call _ a=>a.flatMap LOpd.tmps
 |.callv x a=>x.tmps++a.flatMap LOpd.tmps
 |.len _ x=>x.tmps
 |.app _ _ _ x y=>x.tmps++y.tmps
 |.copy _ x y=>x.tmps++y.tmps
 |.mnx _ a=>a.flatMap LOpd.tmps
 |.mkmap r=>zcn r
 |.mlook _ _ _ _ _ x k=>x.tmps++k.tmps
 |.mset _ _ _ _ m k x=>m.tmps++k.tmps++x.tmps
 |.mdel _ _ m k=>m.tmps++k.tmps
 |.mlen x=>x.tmps
 |.range x=>x.tmps
 |.next x=>x.tmps
 |.entry x=>x.tmps
 |.bad=>[]
def LOper.looks(lo:LOper):List Nat:=lo.op.tmps++(match lo.guard with|some (g,_)=>[g]|none=>[])
def Zc:LOp→Bool
 |.load .. => true
 |.mlook .. => true
 |.mlen .. => true
 |.iaddrR .. => true
 |.slAr .. => true
 |_=>false
structure DItem where
 lo:LOper
 loose:List Nat
structure Lay where
 n:Nat
 bm:List Nat
 rd:Bool
inductive LCode where
 |skip
 |region (ops:List LOper)
 |quiet (ops:List LOper)
 |draw (items:List DItem)
 |draw2 (a b:LOpd) (items:List DItem)
 |seq (a b:LCode)
 |cond (c:LOpd) (a b:LCode)
 |block (id:Nat) (c:LCode)
 |loop (c:LCode)
 |rng (g:LOpd) (ps:List Nat) (a b:LCode)
 |dfr (f t:Nat)
 |exit (id:Nat)
 |ret
def Xy:Value→AVal
 |.bool b=>.bool b
 |.int k n=>.int k n
 |.string s=>.str s.data.toList
 |v=>.val v
def q9:Operand→Option LOpd
 |.tmp t=>some (.t t)
 |.const (.agg vs)=>if vs.toList.all (fun v=>match v with|.agg _=>false|.tuple _=>false|_=>true) then some (.c (.agg (vs.toList.map Xy))) else none
 |.const (.tuple _)=>none
 |.const v=>some (.c (Xy v))
 |.func f=>some (.c (.fn (.func f) [] []))
 |.global _=>none
def Zq:List Operand→Option (List LOpd)
 |[]=>some []
 |x::r=>match q9 x,Zq r with
  |some a,some b=>some (a::b)
  |_,_=>none
def ke:Option Operand→Option (Option LOpd)
 |none=>some none
 |some x=>(q9 x).map some
def zdg(P:Program):Nat→TypeId→List (Option Nat)
 |0,_=>[]
 |d+1,t=>match P.underlying t with
  |some (.slice e)=>[(P.info? e).map (·.size)]
  |some (.struct fs)=>(fs.toList.map fun f=>zdg P d f.type).flatten
  |some (.array n e)=>(List.replicate n (zdg P d e)).flatten
  |_=>[none]
def zbn:List (Option Nat)→List AVal→List AVal
 |some s::ks,.val (.slice none 0 0)::r=>.isl s [] true::zbn ks r
 |_::ks,x::r=>x::zbn ks r
 |[],r=>r
 |_::_,[]=>[]
def wa(P:Program)(t:TypeId):Option (List AVal):=
 match P.info? t with
 |some i=>match i.zero with
  |some (.tuple _)=>none
  |some v=>if v.cells.toList.all (fun x=>match x with|.agg _=>false|.tuple _=>false|_=>true)&&(v.cells.size==i.size) then some (zbn (zdg P 12 t) (v.cells.toList.map Xy)) else none
  |none=>none
 |none=>none
def y1p(P:Program)(t:TypeId):Option TypeId:=
 match P.underlying t,P.info? t with
 |some (.struct fs),some i=>match fs.toList,i.zero,wa P t with
  |[f0,f1],some v,some _=>match P.underlying f0.type,P.underlying f1.type,v.cells.toList with
   |some (.pointer u),some (.slice c),[.pointer none,.slice none 0 0]=>match P.underlying c with
    |some (.int .u8)=>if u==t then some c else none
    |_=>none
   |_,_,_=>none
  |_,_,_=>none
 |_,_=>none
def W5(P:Program)(t:TypeId):Option Bool:=
 match P.underlying t with
 |some (.struct _)=>some true
 |some (.array _ _)=>some true
 |some _=>some false
 |none=>none
def wj(P:Program)(t:TypeId):Option Nat:=(P.info? t).map (·.size)
def X8(P:Program)(t:TypeId):Option Nat:=(P.info? t).map (·.bytes)
def eqFields(P:Program)(rec:TypeId→Option (List CK)):Nat→List Field→Option (List CK)
 |_,[]=>some []
 |off,f::r=>if f.name=="_" || f.offset != off then none else match rec f.type,W5 P f.type,wj P f.type with
  |some l,some g,some m=>if l.length==m&&(g || m==1) then(eqFields P rec (off+m) r).map (l++·) else none
  |_,_,_=>none
def Z3(P:Program):Nat→TypeId→Option (List CK)
 |0,_=>none
 |d+1,t=>match P.underlying t with
  |some .bool=>some [.bool]
  |some (.int _)=>some [.int]
  |some .string=>some [.str]
  |some (.struct fs)=>if P.stoodInHeld t then none else eqFields P (Z3 P d) 0 fs.toList
  |_=>none
def Xl(P:Program)(t:TypeId):EqK:=
 match P.underlying t with
 |some .bool=>.bool
 |some (.pointer _)=>.ptr
 |some (.slice _)=>.slice
 |some (.map _ _)=>.map
 |some (.func _ _ _)=>.func
 |some (.struct _)=>match Z3 P 50 t with
  |some ks=>if P.eqGuardType P.depth t then .func else .agg ks
  |none=>.func
 |some (.array _ _)=>.func
 |some (.interface _)=>.func
 |_=>.other
def z3q(P:Program)(t:TypeId)(y:Operand):EqK:=
 match y with
 |.const .nilIface=>(match P.underlying t with|some (.interface _)=>.ifc|_=>Xl P t)
 |.const .nilFunc=>(match P.underlying t with|some (.func _ _ _)=>.fnc|_=>Xl P t)
 |_=>Xl P t
def z2w(P:Program)(vm:Bool)(src dst:TypeId):Option ConvK:=
 match P.underlying src,P.underlying dst with
 |some (.int _),some (.int k)=>some (.int k)
 |some .string,some .string=>some .same
 |some .string,some (.slice e)=>match P.underlying e with
  |some (.int .u8)=>some (.s2b vm)
  |_=>none
 |some (.slice e),some .string=>match P.underlying e with
  |some (.int .u8)=>some .b2s
  |_=>none
 |_,_=>none
def Yu(P:Program)(fs:Array Field):List (Nat×Operand)→Option (List (Nat×Nat×LOpd))
 |[]=>some []
 |(i,x)::r=>match fs[i]? with
  |some f=>match wj P f.type,q9 x,Yu P fs r with
   |some n,some a,some l=>some ((f.offset,n,a)::l)
   |_,_,_=>none
  |none=>none
def Ym(s:Nat):List (Nat×Operand)→Option (List (Nat×Nat×LOpd))
 |[]=>some []
 |(i,x)::r=>match q9 x,Ym s r with
  |some a,some l=>some ((i*s,s,a)::l)
  |_,_=>none
def Yq:List (Nat×Operand)→Option (List (Nat×LOpd))
 |[]=>some []
 |(i,x)::r=>match q9 x,Yq r with
  |some a,some l=>some ((i,a)::l)
  |_,_=>none
def Kv(P:Program)(vm:Bool)(c:Call):Option LOp:=
 match c.callee with
 |.value (.func f)=>match P.funcs[f]? with
  |some fn=>if fn.body.isSome&&!(fn.name=="runtime.NumGoroutine") then(Zq c.args.toList).map (LOp.call f) else none
  |none=>none
 |.value x=>match q9 x,Zq c.args.toList with
  |some a,some l=>some (.callv a l)
  |_,_=>none
 |.invoke _ _=>none
 |.builtin .len=>match c.args.toList,c.argTypes.toList with
  |[x],[t]=>match P.underlying t with
   |some .string=>(q9 x).map (LOp.len true)
   |some (.slice _)=>(q9 x).map (LOp.len false)
   |some (.map _ _)=>(q9 x).map LOp.mlen
   |_=>none
  |_,_=>none
 |.builtin .append=>match c.args.toList,c.argTypes.toList with
  |[x,y],[t,u]=>match P.underlying t,P.underlying u with
   |some (.slice e),some (.slice _)=>match wj P e,X8 P e,q9 x,q9 y with
    |some s,some b,some x,some y=>if 0<s&&0<b&&(wa P e).isSome then some (.app vm s b x y) else none
    |_,_,_,_=>none
   |some (.slice e),some .string=>match wj P e,X8 P e,q9 x,q9 y with
    |some s,some b,some x,some y=>if 0<s&&0<b&&(wa P e).isSome then some (.app vm s b x y) else none
    |_,_,_,_=>none
   |_,_=>none
  |_,_=>none
 |.builtin .copy=>match c.args.toList,c.argTypes.toList with
  |[x,y],[t,_]=>match P.underlying t with
   |some (.slice e)=>match wj P e,q9 x,q9 y with
    |some s,some x,some y=>if 0<s then some (.copy s x y) else none
    |_,_,_=>none
   |_=>none
  |_,_=>none
 |.builtin .delete=>match c.args.toList,c.argTypes.toList with
  |[x,y],[t,_]=>match P.underlying t with
   |some (.map kt _)=>match Z3 P 50 kt,W5 P kt,q9 x,q9 y with
    |some ks,some ka,some x,some y=>some (.mdel ks ka x y)
    |_,_,_,_=>none
   |_=>none
  |_,_=>none
 |.builtin .max=>(Zq c.args.toList).map (LOp.mnx true)
 |.builtin .min=>(Zq c.args.toList).map (LOp.mnx false)
 |.builtin _=>none
def z5x(P:Program)(t:TypeId):Option Bool:=match P.info? t with
 |some i=>match i.zero with
  |some (.agg _)=>some true
  |some _=>some false
  |none=>none
 |none=>none
def Ul(P:Program)(t:TypeId)(m k x:Operand):Option LOp:=match P.underlying t with
 |some (.map kt et)=>match Z3 P 50 kt,W5 P kt,W5 P et,wa P et with
  |some ks,some ka,some g,some zs=>if g || zs.length==1 then(match q9 m,q9 k,q9 x with
   |some m,some k,some x=>some (.mset ks ka g zs m k x)
   |_,_,_=>none) else none
  |_,_,_,_=>none
 |_=>none
def y1j(P:Program)(t:TypeId):Bool:=match P.info? t with
 |some i=>match i.zero with
  |some (.slice none 0 0)=>true
  |_=>false
 |none=>false
def xq(P:Program)(vm:Bool):Op→Option LOp
 |.move x=>(q9 x).map .mv
 |.assign x=>(q9 x).map .mv
 |.pick c a b=>match q9 c,q9 a,q9 b with
  |some c,some a,some b=>some (.pick c a b)
  |_,_,_=>none
 |.alloc e=>match vm,P.underlying e with
  |false,some (.array _ c)=>match wa P e,wj P c with
   |some z,some s=>if 0<s&&z.length % s==0 then some (.allocR s z) else none
   |_,_=>none
  |false,some (.struct _)=>match y1p P e,wa P e with
   |some c,_=>some (.allocB e c)
   |none,some z=>some (.alloc z)
   |none,none=>none
  |_,_=>(wa P e).map .alloc
 |.box _ x=>(q9 x).map .box
 |.build t parts=>match P.underlying t with
  |some (.struct fs)=>match wa P t,Yu P fs parts.toList with
   |some z,some l=>if fs.toList.all (fun f=>(wj P f.type).isSome) then some (.build z l) else none
   |_,_=>none
  |some (.array _ e)=>match wa P t,wj P e with
   |some z,some s=>(Ym s parts.toList).map (.build z)
   |_,_=>none
  |_=>none
 |.buildSlice t len parts=>match P.underlying t with
  |some (.slice e)=>match wa P e,wj P e,Yq parts.toList with
   |some z,some s,some l=>if 0<s&&len*s≤16777216 then some (.mkSl vm s z len l) else none
   |_,_,_=>none
  |_=>none
 |.load t a=>match W5 P t,wj P t,q9 a with
  |some g,some n,some a=>if g || n==1 then some (.load g n a) else none
  |_,_,_=>none
 |.store t a x=>match wj P t,q9 a,q9 x with
  |some n,some a,some x=>some (.store n a x)
  |_,_,_=>none
 |.nilCheck x=>(q9 x).map .nilck
 |.binOp op t x y _=>match q9 x,q9 y with
  |some a,some b=>match op,z3q P t y with
   |.eql,.other=>some (.bin .eql a b)
   |.neq,.other=>some (.bin .neq a b)
   |.eql,k=>some (.eq false k a b)
   |.neq,k=>some (.eq true k a b)
   |op,_=>some (.bin op a b)
  |_,_=>none
 |.unOp op _ x=>(q9 x).map (.un op)
 |.convert s d x=>match z2w P vm s d,q9 x with
  |some k,some a=>some (.conv k a)
  |_,_=>none
 |.makeFunc f first caps=>match Zq first.toList,Zq caps.toList with
  |some a,some b=>some (.mkfn f a b)
  |_,_=>none
 |.makeSlice t l c=>match P.underlying t with
  |some (.slice e)=>match wa P e,wj P e,X8 P e,q9 l,q9 c with
   |some z,some s,some b,some l,some c=>if 0<s&&0<b then some (.mkslice vm s b z l c) else none
   |_,_,_,_,_=>none
  |_=>none
 |.slice t x lo hi mx=>match q9 x,ke lo,ke hi,ke mx with
  |some x,some lo,some hi,some mx=>match P.underlying t,mx with
   |some .string,none=>some (.slStr x lo hi)
   |some (.slice e),mx=>if mx.isSome&&hi.isNone then none else(wj P e).map fun s=>.slSl s x lo hi mx
   |some (.array n e),none=>if lo.isNone&&hi.isNone then(wj P e).map fun s=>.slAr n s x else none
   |_,_=>none
  |_,_,_,_=>none
 |.fieldAddr t x i=>match P.underlying t with
  |some (.struct fs)=>match fs[i]? with
   |some f=>match wj P f.type,q9 x with
    |some n,some a=>if n==0 then none else some (.faddr f.offset a)
    |_,_=>none
   |none=>none
  |_=>none
 |.field t x i=>match P.underlying t with
  |some (.struct fs)=>match fs[i]? with
   |some f=>match W5 P f.type,wj P f.type,q9 x with
    |some g,some n,some a=>if g || n==1 then some (.field g n f.offset a) else none
    |_,_,_=>none
   |none=>none
  |_=>none
 |.indexAddr t x i=>match P.underlying t,q9 x,q9 i with
  |some (.slice e),some x,some i=>(wj P e).map fun s=>.iaddr s x i
  |some (.array n e),some x,some i=>(wj P e).map fun s=>if vm then .iaddrA n s x i else .iaddrR n s x i
  |_,_,_=>none
 |.index t x i=>match P.underlying t,q9 x,q9 i with
  |some .string,some x,some i=>some (.idxS x i)
  |some (.array n e),some x,some i=>match W5 P e,wj P e with
   |some g,some s=>if g || s==1 then some (.idxA n s g x i) else none
   |_,_=>none
  |_,_,_=>none
 |.extract x k=>(q9 x).map (.ext k)
 |.makeMap _ r=>match r with
  |none=>some (.mkmap none)
  |some _=>none
 |.lookup t x i ok=>match P.underlying t with
  |some (.map kt et)=>match Z3 P 50 kt,W5 P kt,W5 P et,wa P et,z5x P et,q9 x,q9 i with
   |some ks,some ka,some g,some zs,some zg,some x,some i=>if zg==g&&(g || zs.length==1) then some (.mlook ks ka g ok (if !vm&&!g&&y1j P et then [.val (.slice none 0 0)] else zs) x i) else none
   |_,_,_,_,_,_,_=>none
  |_=>none
 |.mapUpdate t m k x=>Ul P t m k x
 |.insert t m k x=>Ul P t m k x
 |.range t x=>match P.underlying t with
  |some (.map _ _)=>(q9 x).map .range
  |_=>none
 |.next x s=>match s with
  |false=>(q9 x).map .next
  |true=>none
 |.entry x=>(q9 x).map .entry
 |.call c=>Kv P vm c
 |_=>none
def Lay.vm(N:Lay)(d:Option Nat):Bool:=match d with
 |some d=>!N.bm.contains d
 |none=>true
def Yy(P:Program)(N:Lay)(ops:Array Oper)(o:Oper):Option LOper:=
 match (match o.dst with|some d=>decide (d<N.n)|none=>true),o.guard with
 |false,_=>none
 |true,none=>some { dst:=o.dst,op:=(xq P (N.vm o.dst) o.op).getD .bad }
 |true,some (j,want)=>match (ops[j]?).bind (·.dst) with
  |some g=>if g<N.n then some { dst:=o.dst,op:=(xq P (N.vm o.dst) o.op).getD .bad,guard:=some (g,want) } else none
  |none=>none
def W7(P:Program)(N:Lay)(ops:Array Oper):List Oper→Option (List LOper)
 |[]=>some []
 |o::r=>match Yy P N ops o,W7 P N ops r with
  |some a,some l=>some (a::l)
  |_,_=>none
def ws:LOp→Bool
 |.alloc _|.allocR ..|.allocB ..|.box _|.mkSl ..|.store ..|.conv (.s2b _) _|.conv .b2s _|.mkslice ..|.call ..|.callv ..|.app ..|.copy ..|.mkmap _|.mset ..|.mdel ..|.range _|.next _|.entry _|.bad=>false
 |_=>true
def Zd(ops:Array Oper)(j:Nat):List Nat:=match ops[j]? with
 |some o=>(o.after.toList.filter (Region.binds .any)).map (·.on)
 |none=>[]
def z9t(acc:List (Nat×List Nat))(j:Nat):List Nat:=match acc.find? (fun x=>x.1==j) with
 |some x=>x.2
 |none=>[]
def zp8(l:LOper):Bool:=match l.op,l.guard,l.dst with
 |.alloc _,none,some _=>true
 |_,_,_=>false
def z4m(l:LOper):Bool:=match l.op with
 |.mkSl true _ _ _ _=>true
 |_=>false
def zbe(l:LOper):Bool:=match l.op,l.guard,l.dst with
 |.store _ _ _,none,none=>true
 |_,_,_=>false
def zcx(ops:Array Oper)(los:List LOper):Nat→List (Nat×List Nat)→List (Nat×List Nat)
 |0,acc=>acc
 |fuel+1,acc=>
  let ready:=(List.range ops.size).filter fun j=>!(acc.any fun x=>x.1==j)&&(Zd ops j).all fun d=>acc.any fun x=>x.1==d
  let pick:=match ready.find? (fun j=>ws (los.getD j ⟨none,.bad,none⟩).op) with
   |some j=>some j
   |none=>match ready.find? (fun j=>z4m (los.getD j ⟨none,.bad,none⟩)) with
    |some j=>some j
    |none=>match ready.find? (fun j=>!zp8 (los.getD j ⟨none,.bad,none⟩)) with
     |some j=>some j
     |none=>ready.head?
  match pick with
  |some j=>zcx ops los fuel (acc++[(j,(Zd ops j++(Zd ops j).flatMap (z9t acc)).eraseDups)])
  |none=>acc
def vr:LOper:=⟨none,.bad,none⟩
def z6a(sw:Bool)(m:Nat)(los:List LOper)(i j:Nat)(pre:List Nat)(loose:List Nat)(p:Nat):Bool:=
 let li:=los.getD i vr
 let lj:=los.getD j vr
 let fr:=pre.contains i
 !(i==j)&&(fr || (match lj.dst with|some d=>!li.looks.contains d|none=>true))&&(fr || (match li.dst with|some d=>!lj.looks.contains d|none=>true)) &&
 (match li.dst,lj.dst with|some a,some b=>!(a==b)|_,_=>true)&&(ws li.op || z4m li || fr || zp8 lj || (sw&&Nat.beq (p+2) m&&zbe li&&zbe lj))&&(ws lj.op || z4m lj || !Zc li.op || fr || loose.contains p)
def zl4(sw:Bool)(ops:Array Oper)(los:List LOper)(acc:List (Nat×List Nat))(loose:List (List Nat)):Bool:=
 acc.length==ops.size&&los.length==ops.size&&(List.range ops.size).all (fun i=>acc.any fun x=>x.1==i)&&(acc.map (·.1)).all (fun i=>decide (i<ops.size)) &&
 (List.range ops.size).all (fun p=>(Zd ops (acc.getD p (0,[])).1).all fun d=>(acc.take p).any fun x=>x.1==d) &&
 (List.range ops.size).all (fun p=>(z9t acc (acc.getD p (0,[])).1).all fun i=>(Zd ops (acc.getD p (0,[])).1).contains i || (Zd ops (acc.getD p (0,[])).1).any fun d=>(z9t acc d).contains i) &&
 (!sw || (List.range ops.size).all (fun x=>!(Nat.ble (x+3) ops.size&&Zc (los.getD (acc.getD x (0,[])).1 vr).op) || ((z9t acc (acc.getD (ops.size-1) (0,[])).1).contains (acc.getD x (0,[])).1&&(z9t acc (acc.getD (ops.size-2) (0,[])).1).contains (acc.getD x (0,[])).1))) &&
 (List.range ops.size).all (fun q=>(List.range q).all fun p=>z6a sw ops.size los (acc.getD p (0,[])).1 (acc.getD q (0,[])).1 (z9t acc (acc.getD q (0,[])).1) (loose.getD q []) p)
def z96(los:List LOper)(acc:List (Nat×List Nat)):List (List Nat):=
 (List.range acc.length).map fun q=>if ws (los.getD (acc.getD q (0,[])).1 vr).op || z4m (los.getD (acc.getD q (0,[])).1 vr) then [] else(List.range q).filter fun p=>Zc (los.getD (acc.getD p (0,[])).1 vr).op&&!(z9t acc (acc.getD q (0,[])).1).contains (acc.getD p (0,[])).1
def Jq(sw:Bool)(ops:Array Oper)(los:List LOper):Option (List DItem):=
 let acc:=zcx ops los ops.size []
 let loose:=z96 los acc
 if zl4 sw ops los acc loose then some ((List.range acc.length).map fun p=>⟨los.getD (acc.getD p (0,[])).1 vr,loose.getD p []⟩) else none
def U3(ops:Array Oper)(los:List LOper):Option LCode:=
 match Jq true ops los with
 |some items=>match items[ops.size-2]?,items[ops.size-1]? with
  |some i1,some i2=>match i1.lo.op,i2.lo.op with
   |.store _ a _,.store _ b _=>if Nat.ble 2 ops.size then some (.draw2 a b items) else none
   |_,_=>none
  |_,_=>none
 |none=>none
def z0a(ops:Array Oper)(los:List LOper):Option LCode:=
 match Jq false ops los with
 |some items=>some (.draw items)
 |none=>U3 ops los
def W6:Code→Bool
 |.seq a b=>W6 a || W6 b
 |.cond _ a b=>W6 a || W6 b
 |.block _ c=>W6 c
 |.loop c=>W6 c
 |.rangeFunc _ _ _ _=>true
 |_=>false
def zpd(N:Lay):Lay:=⟨N.n,N.bm,true⟩
def zqz(N:Lay)(draw:Bool)(ops:Array Oper):Option (Nat×Nat):=
 match N.rd,draw,ops.toList with
 |false,false,[o1,o2]=>match o1.dst,o1.op,o1.guard,o2.dst,o2.op,o2.guard with
  |some t,.makeFunc (.func f) fs _,none,none,.defer c,none=>match c.callee with
   |.value (.tmp t')=>if fs.size==0&&c.args.size==0&&t'==t&&Nat.blt t N.n then some (f,t) else none
   |_=>none
  |_,_,_,_,_,_=>none
 |_,_,_=>none
def y1(P:Program)(N:Lay):Code→Option LCode
 |.skip=>some .skip
 |.region _ ops draw=>match zqz N draw ops with
  |some x=>some (.dfr x.1 x.2)
  |none=>match W7 P N ops ops.toList with
  |some los=>if draw then(if P.follows .mixedOrders then(if !N.rd&&(Region.lexB .any ops&&los.all (fun l=>ws l.op)) then some (.quiet los) else z0a ops los) else none) else some (.region los)
  |none=>none
 |.seq a b=>match y1 P N a,y1 P N b with
  |some a,some b=>some (.seq a b)
  |_,_=>none
 |.cond c a b=>match q9 c,y1 P N a,y1 P N b with
  |some c,some a,some b=>some (.cond c a b)
  |_,_,_=>none
 |.block id c=>(y1 P N c).map (.block id)
 |.loop c=>(y1 P N c).map .loop
 |.rangeFunc g ps a b=>match N.rd,q9 g,y1 P (zpd N) a,y1 P (zpd N) b with
  |false,some g,some a,some b=>some (.rng g ps.toList a b)
  |_,_,_,_=>none
 |.exit id=>some (.exit id)
 |.ret=>some .ret
 |_=>none
inductive LRes where
 |t (i:Nat)
 |cell (i:Nat) (agg:Bool) (n:Nat)
structure LFn where
 nargs:Nat
 lay:Lay
 body:LCode
 res:List LRes
def z1i(P:Program):List ResultVar→Option (List LRes)
 |[]=>some []
 |.tmp t::r=>(z1i P r).map (.t t::·)
 |.cell a t::r=>match W5 P t,wj P t,z1i P r with
  |some g,some n,some l=>if g || n==1 then some (.cell a g n::l) else none
  |_,_,_=>none
def wb(P:Program)(bm:List Nat)(f:FuncId):Option LFn:=
 match P.funcs[f]? with
 |some fn=>match fn.body with
  |some c=>match y1 P ⟨fn.ntmps,bm,false⟩ c,z1i P fn.results.toList with
   |some lc,some r=>some { nargs:=fn.params.size+fn.nfree,lay:=⟨fn.ntmps,bm,false⟩,body:=lc,res:=r }
   |_,_=>none
  |none=>none
 |none=>none
def AVal.strip:AVal→AVal
 |.cnd _ x=>x
 |x=>x
def AVal.rd:AVal→AVal
 |.osl _ s es=>.isl s es false
 |x=>x
def AVal.imm:AVal→Option AVal
 |.bool b=>some (.bool b)
 |.int k n=>some (.int k n)
 |.str l=>some (.str l)
 |.val v=>some (.val v)
 |.isl s es f=>some (.isl s es f)
 |.iptr s es i off=>some (.iptr s es i off)
 |.osl _ s es=>some (.isl s es false)
 |.agg cs=>(immL cs).map .agg
 |.tup cs=>(immL cs).map .tup
 |.fn f a c=>match immL a,immL c with
  |some a,some c=>some (.fn f a c)
  |_,_=>none
 |.ifc t v=>v.imm.map (.ifc t)
 |_=>none
where immL:List AVal→Option (List AVal)
 |[]=>some []
 |x::r=>match x.imm,immL r with
  |some y,some l=>some (y::l)
  |_,_=>none
def uc:List (List AVal)→Option (List (List AVal))
 |[]=>some []
 |r::rs=>match AVal.imm.immL r,uc rs with
  |some y,some l=>some (y::l)
  |_,_=>none
def J7:AVal→AVal→AVal
 |.isl s _ _,.val (.slice none 0 0)=>.isl s [] false
 |.isl _ _ _,.isl s es _=>.isl s es false
 |_,x=>x
def wm:List AVal→List AVal→List AVal
 |z::zs,x::r=>J7 z x::wm zs r
 |[],r=>r
 |_::_,[]=>[]
def AVal.need:AVal→Prop
 |.cnd p _=>p=true
 |_=>True
def LOpd.ev(e:Env):LOpd→AVal
 |.t i=>(e.get i).strip
 |.c v=>v
def LOpd.need(e:Env):LOpd→Prop
 |.t i=>(e.get i).need
 |.c _=>True
def evs(e:Env):List LOpd→List AVal
 |[]=>[]
 |x::r=>x.ev e::evs e r
def Jh(e:Env):List LOpd→Prop
 |[]=>True
 |x::r=>x.need e∧Jh e r
def AVal.cells?:AVal→Option (List AVal)
 |.any=>none
 |.cnd _ _=>none
 |.agg cs=>some cs
 |.tup _=>none
 |.val (.agg _)=>none
 |.val (.tuple _)=>none
 |x=>some [x]
inductive XR where
 |ok (side:Prop) (v:AVal)
 |bad
def V8(op:BinOp)(k:IntKind)(x y:Int):Int:=
 let a:=BitVec.ofInt k.bits x
 let b:=BitVec.ofInt k.bits y
 match op with
 |.and=>k.wrap (a &&& b).toNat
 |.or=>k.wrap (a ||| b).toNat
 |.xor=>k.wrap (a ^^^ b).toNat
 |_=>k.wrap (a &&& ~~~b).toNat
def zku(op:BinOp):AVal→AVal→XR
 |.int k a,.int k' b=>match op with
  |.add=>.ok (k=k') (.int k (k.wrap (a+b)))
  |.sub=>.ok (k=k') (.int k (k.wrap (a-b)))
  |.mul=>.ok (k=k') (.int k (k.wrap (a*b)))
  |.quo=>.ok (k=k'∧b≠0) (.int k (k.wrap (a.tdiv b)))
  |.rem=>.ok (k=k'∧b≠0) (.int k (a.tmod b))
  |.and=>.ok (k=k') (.int k (V8 .and k a b))
  |.or=>.ok (k=k') (.int k (V8 .or k a b))
  |.xor=>.ok (k=k') (.int k (V8 .xor k a b))
  |.andNot=>.ok (k=k') (.int k (V8 .andNot k a b))
  |.shl=>.ok (0≤b) (.int k (k.wrap (a*2 ^ (min b.toNat k.bits))))
  |.shr=>.ok (0≤b) (.int k (a.fdiv (2 ^ (min b.toNat k.bits))))
  |.eql=>.ok (k=k') (.bool (a==b))
  |.neq=>.ok (k=k') (.bool (a != b))
  |.lss=>.ok (k=k') (.bool (decide (a<b)))
  |.leq=>.ok (k=k') (.bool (decide (a≤b)))
  |.gtr=>.ok (k=k') (.bool (decide (a > b)))
  |.geq=>.ok (k=k') (.bool (decide (a≥b)))
 |.str a,.str b=>match op with
  |.add=>.ok (((a.length+b.length:Nat):Int)≤9223372036854775807) (.str (a++b))
  |.eql=>.ok True (.bool (a==b))
  |.neq=>.ok True (.bool (!(a==b)))
  |.lss=>.ok True (.bool (Op.bytesLess a b))
  |.leq=>.ok True (.bool (Op.bytesLess a b || a==b))
  |.gtr=>.ok True (.bool (!(Op.bytesLess a b || a==b)))
  |.geq=>.ok True (.bool (!(Op.bytesLess a b)))
  |_=>.bad
 |_,_=>.bad
def xun(op:UnOp):AVal→XR
 |.bool b=>match op with
  |.not=>.ok True (.bool (!b))
  |_=>.bad
 |.int k n=>match op with
  |.neg=>.ok True (.int k (k.wrap (0-n)))
  |.xor=>.ok True (.int k (V8 .xor k (if k.signed then -1 else k.max) n))
  |_=>.bad
 |_=>.bad
def zqw:AVal→AVal→XR
 |.val (.pointer none),.val (.pointer none)=>.ok True (.bool true)
 |.val (.pointer none),.ptr _ _ _=>.ok True (.bool false)
 |.ptr _ _ _,.val (.pointer none)=>.ok True (.bool false)
 |.val (.pointer none),.iptr _ _ _ _=>.ok True (.bool false)
 |.iptr _ _ _ _,.val (.pointer none)=>.ok True (.bool false)
 |_,_=>.bad
def Ua:AVal→AVal→XR
 |.val (.slice none 0 0),.val (.slice none 0 0)=>.ok True (.bool true)
 |.val (.slice none 0 0),.msl _ _ _ len _=>.ok (len≠0) (.bool false)
 |.msl _ _ _ len _,.val (.slice none 0 0)=>.ok (len≠0) (.bool false)
 |.val (.slice none 0 0),.isl _ es _=>.ok (es≠[]) (.bool false)
 |.isl _ es _,.val (.slice none 0 0)=>.ok (es≠[]) (.bool false)
 |_,_=>.bad
def z0s:AVal→AVal→XR
 |.val (.map none),.val (.map none)=>.ok True (.bool true)
 |.val (.map none),.map _=>.ok True (.bool false)
 |.map _,.val (.map none)=>.ok True (.bool false)
 |_,_=>.bad
def Q7:CK→AVal→AVal→Option Bool
 |.int,.int k a,.int k' b=>if k=k' then some (a==b) else none
 |.str,.str a,.str b=>some (a==b)
 |.bool,.bool a,.bool b=>some (a==b)
 |_,_,_=>none
def yz:List CK→List AVal→List AVal→Option Bool
 |[],[],[]=>some true
 |k::ks,x::xs,y::ys=>match Q7 k x y,yz ks xs ys with
  |some a,some b=>some (a&&b)
  |_,_=>none
 |_,_,_=>none
def zo7(ks:List CK):AVal→AVal→XR
 |.agg cs,.agg ds=>match yz ks cs ds with
  |some b=>.ok True (.bool b)
  |none=>.bad
 |_,_=>.bad
def z7u:AVal→AVal→XR
 |.val .nilIface,.val .nilIface=>.ok True (.bool true)
 |.ifc _ _,.val .nilIface=>.ok True (.bool false)
 |_,_=>.bad
def za5:AVal→AVal→XR
 |.val .nilFunc,.val .nilFunc=>.ok True (.bool true)
 |.fn _ _ _,.val .nilFunc=>.ok True (.bool false)
 |_,_=>.bad
def ziq(k:EqK)(x y:AVal):XR:=
 match k with
 |.bool=>match x,y with
  |.bool a,.bool b=>.ok True (.bool (a==b))
  |_,_=>.bad
 |.ptr=>zqw x y
 |.slice=>Ua x.rd y.rd
 |.map=>z0s x y
 |.agg ks=>zo7 ks x y
 |.ifc=>z7u x y
 |.fnc=>za5 x y
 |_=>.bad
def XR.neg:XR→XR
 |.ok s (.bool b)=>.ok s (.bool (!b))
 |_=>.bad
def xeq(neg:Bool)(k:EqK)(x y:AVal):XR:=if neg then(ziq k x y).neg else ziq k x y
def xh(agg:Bool)(n off:Nat)(r:List AVal):AVal:=
 if agg then .agg ((r.drop off).take n) else r.getD off .any
def z05(agg:Bool)(n:Nat)(H:AHeap):AVal→XR
 |.iptr s es i off=>.ok (i<es.length∧off+n≤s) (xh agg n off (es.getD i []))
 |.ptr b i off=>match H.get b with
  |some (.rows s es)=>.ok (i<es.length∧off+n≤s) (xh agg n off (es.getD i []))
  |some (.one cs)=>.ok (i=0∧off+n≤cs.length) (xh agg n off cs)
  |_=>.bad
 |_=>.bad
def z3p(off:Nat):AVal→XR
 |.iptr s es i o=>.ok True (.iptr s es i (o+off))
 |.ptr b i o=>.ok True (.ptr b i (o+off))
 |_=>.bad
def z4s(agg:Bool)(n off:Nat):AVal→XR
 |.agg cs=>.ok (off+n≤cs.length) (xh agg n off cs)
 |_=>.bad
def z1x(s:Nat):AVal→AVal→XR
 |.isl s' es _,.int _ j=>.ok (s=s'∧0≤j∧j<(es.length:Int)) (.iptr s' es j.toNat 0)
 |.msl b s' off len _,.int _ j=>.ok (s=s'∧0≤j∧j<(len:Int)) (.ptr b (off+j.toNat) 0)
 |_,_=>.bad
def z1b(len s:Nat):AVal→AVal→XR
 |.iptr s' es i o,.int _ j=>.ok (0≤j∧j<(len:Int)) (.iptr s' es i (o+j.toNat * s))
 |.ptr b i o,.int _ j=>.ok (0≤j∧j<(len:Int)) (.ptr b i (o+j.toNat * s))
 |_,_=>.bad
def Wq(len s:Nat)(H:AHeap):AVal→AVal→XR
 |.ptr b i 0,.int _ j=>match H.get b with
  |some (.rows s' _)=>.ok (s=s'∧0≤j∧j<(len:Int)) (.ptr b (i+j.toNat) 0)
  |_=>.bad
 |_,_=>.bad
def zhe(len s:Nat)(H:AHeap):AVal→XR
 |.ptr b i 0=>match H.get b with
  |some (.rows s' es)=>.ok (s=s'∧i+len≤es.length) (.msl b s i len true)
  |_=>.bad
 |_=>.bad
def Jl(s:Nat):Nat→List AVal→List (List AVal)
 |0,_=>[]
 |k+1,l=>l.take s::Jl s k (l.drop s)
def zlc:AVal→AVal→XR
 |.str l,.int _ j=>.ok (0≤j∧j<(l.length:Int)) (.int .u8 ((l.getD j.toNat 0).toNat:Int))
 |_,_=>.bad
def zmr(len s:Nat)(agg:Bool):AVal→AVal→XR
 |.agg cs,.int _ j=>.ok (0≤j∧j<(len:Int)∧(j.toNat * s)+s≤cs.length) (xh agg s (j.toNat * s) cs)
 |_,_=>.bad
def zxx(k:Nat):AVal→XR
 |.tup cs=>.ok (k<cs.length) (cs.getD k .any)
 |_=>.bad
def zgt:AVal→XR
 |.str l=>.ok True (.int .i64 (l.length:Int))
 |_=>.bad
def zct:AVal→XR
 |.isl _ es _=>.ok True (.int .i64 (es.length:Int))
 |.msl _ _ _ len _=>.ok True (.int .i64 (len:Int))
 |.val (.slice none 0 0)=>.ok True (.int .i64 0)
 |_=>.bad
def z43:AVal→XR
 |.iptr s es i o=>.ok True (.iptr s es i o)
 |.ptr b i o=>.ok True (.ptr b i o)
 |.fn (.func f) a c=>.ok True (.fn (.func f) a c)
 |_=>.bad
def js(e:Env)(dflt:Nat):Option LOpd→Option Int
 |none=>some dflt
 |some x=>match x.ev e with
  |.int _ j=>some j
  |_=>none
def z39(e:Env):Option LOpd→Option (Option Int)
 |none=>none
 |some m=>some (js e 0 (some m))
def Y0(e:Env):Option LOpd→Prop
 |none=>True
 |some x=>x.need e
def z3k(lo hi:Nat→Option Int):AVal→XR
 |.str l=>match lo 0,hi l.length with
  |some a,some b=>.ok (0≤a∧a≤b∧b≤(l.length:Int)) (.str ((l.take b.toNat).drop a.toNat))
  |_,_=>.bad
 |_=>.bad
def z52(s:Nat)(lo hi:Nat→Option Int)(mx:Option (Option Int)):AVal→XR
 |.isl s' es f=>match lo 0,hi es.length,mx with
  |some a,some b,none=>.ok (s=s'∧0≤a∧a≤b∧b≤(es.length:Int)) (.isl s' ((es.take b.toNat).drop a.toNat) (f&&decide (b=(es.length:Int))))
  |some a,some b,some (some m)=>.ok (s=s'∧0≤a∧a≤b∧b≤m∧m≤(es.length:Int)) (.isl s' ((es.take b.toNat).drop a.toNat) (decide (m=b)))
  |_,_,_=>.bad
 |.msl id s' off len f=>match lo 0,hi len,mx with
  |some a,some b,none=>.ok (s=s'∧0≤a∧a≤b∧b≤(len:Int)) (.msl id s' (off+a.toNat) (b.toNat-a.toNat) (f&&decide (b=(len:Int))))
  |some a,some b,some (some m)=>.ok (s=s'∧0≤a∧a≤b∧b≤m∧m≤(len:Int)) (.msl id s' (off+a.toNat) (b.toNat-a.toNat) (decide (m=b)))
  |_,_,_=>.bad
 |.val (.slice none 0 0)=>match lo 0,hi 0,mx with
  |some a,some b,none=>.ok (a=0∧b=0) (.val (.slice none 0 0))
  |_,_,_=>.bad
 |_=>.bad
def zk5(s:Nat)(lo hi:Nat→Option Int)(mx:Option (Option Int))(keep:Bool):AVal→XR
 |.osl tok s' es=>match keep with
  |true=>match lo 0 with
   |some a=>.ok (s=s'∧0≤a∧a≤(es.length:Int)) (.osl tok s' (es.drop a.toNat))
   |none=>.bad
  |false=>z52 s lo hi mx (.isl s' es false)
 |x=>z52 s lo hi mx x
def zx2:Bool→AVal→AVal→AVal
 |true,a,_=>a
 |false,_,b=>b
def zpq(na nb:Prop):AVal→AVal→AVal→XR
 |.bool c,a,b=>.ok ((c=true→na)∧(c=false→nb)) (zx2 c a b)
 |_,_,_=>.bad
def kj(r:List AVal)(off:Nat)(cs:List AVal):List AVal:=r.take off++cs++r.drop (off+cs.length)
def Q4(cells:List AVal):List (Nat×Nat×AVal)→XR
 |[]=>.ok True (.agg cells)
 |(off,n,x)::r=>match x.cells? with
  |some cs=>match Q4 (kj cells off cs) r with
   |.ok side v=>.ok (cs.length=n∧off+n≤cells.length∧side) v
   |.bad=>.bad
  |none=>.bad
def kx(e:Env):List (Nat×Nat×LOpd)→List (Nat×Nat×AVal)
 |[]=>[]
 |(o,n,x)::r=>(o,n,x.ev e)::kx e r
def kb(e:Env):List (Nat×Nat×LOpd)→Prop
 |[]=>True
 |(_,_,x)::r=>x.need e∧kb e r
def zjg(isMax:Bool):AVal→List AVal→XR
 |v,[]=>.ok True v
 |.int k a,.int k' b::r=>match zjg isMax (.int k (if isMax then(if b > a then b else a) else(if b<a then b else a))) r with
  |.ok s v=>.ok (k=k'∧s) v
  |.bad=>.bad
 |_,_=>.bad
def zkn(isMax:Bool):List AVal→XR
 |.int k a::r=>zjg isMax (.int k a) r
 |_=>.bad
def xv:AVal→List AVal
 |.agg cs=>cs
 |x=>[x]
def uw:AVal→Bool
 |.agg _=>true
 |_=>false
def Jb(ks:List CK)(ka:Bool)(k:AVal):Bool:=(match ka,uw k with|true,true=>true|false,false=>true|_,_=>false)&&(yz ks (xv k) (xv k)).isSome
def X6(ks:List CK)(k k':AVal):Option Bool:=match uw k,uw k' with
 |true,true=>yz ks (xv k) (xv k')
 |false,false=>yz ks (xv k) (xv k')
 |_,_=>none
def V9(ks:List CK)(k:AVal):List (AVal×AVal)→Option (Option AVal)
 |[]=>some none
 |(k',x)::r=>match X6 ks k k' with
  |some true=>some (some x)
  |some false=>V9 ks k r
  |none=>none
def zie(ks:List CK)(k x:AVal):List (AVal×AVal)→Option (List (AVal×AVal))
 |[]=>some [(k,x)]
 |(k',y)::r=>match X6 ks k k' with
  |some true=>some ((k,x)::r)
  |some false=>(zie ks k x r).map ((k',y)::·)
  |none=>none
def z29(ks:List CK)(k:AVal):List (AVal×AVal)→Option (List (AVal×AVal))
 |[]=>some []
 |(k',y)::r=>match X6 ks k k' with
  |some true=>some r
  |some false=>(z29 ks k r).map ((k',y)::·)
  |none=>none
def z5g(g:Bool)(zs:List AVal):AVal:=if g then .agg (wm zs zs) else J7 (zs.getD 0 .any) (zs.getD 0 .any)
def zhg(g ok:Bool)(zs:List AVal)(r:Option AVal):AVal:=
 let v:=r.getD (z5g g zs)
 if ok then .tup [v,.bool r.isSome] else v
def zxu(g:Bool)(zs:List AVal)(x:AVal):Option AVal:=match g,x.imm with
 |true,some (.agg cs)=>some (.agg (wm zs cs))
 |false,some y=>(match y with|.agg _=>none|.tup _=>none|y=>some (J7 (zs.getD 0 .any) y))
 |false,none=>(match x with|.map b=>some (.map b)|.ptr b i off=>some (.ptr b i off)|.msl b s off len f=>some (.msl b s off len f)|_=>none)
 |_,_=>none
def z01(ks:List CK)(ka g ok:Bool)(zs:List AVal)(H:AHeap)(k:AVal):AVal→XR
 |.val (.map none)=>if Jb ks ka k then .ok True (zhg g ok zs none) else .bad
 |.map b=>match H.get b with
  |some (.amap es)=>if Jb ks ka k then .ok ((V9 ks k es).isSome=true) (zhg g ok zs ((V9 ks k es).getD none)) else .bad
  |_=>.bad
 |_=>.bad
def zcr(H:AHeap):AVal→XR
 |.val (.map none)=>.ok True (.int .i64 0)
 |.map b=>match H.get b with
  |some (.amap es)=>.ok True (.int .i64 (es.length:Int))
  |_=>.bad
 |_=>.bad
def XR.and(p:Prop):XR→XR
 |.ok s v=>.ok (p∧s) v
 |.bad=>.bad
def w5(e:Env)(H:AHeap):LOp→XR
 |.mv x=>.ok (x.need e) (x.ev e)
 |.pick c a b=>(zpq (a.need e) (b.need e) (c.ev e) (a.ev e) (b.ev e)).and (c.need e)
 |.build zs parts=>(Q4 zs (kx e parts)).and (kb e parts)
 |.load g n a=>(z05 g n H (a.ev e)).and (a.need e)
 |.nilck x=>(z43 (x.ev e)).and (x.need e)
 |.bin op x y=>(zku op (x.ev e) (y.ev e)).and (x.need e∧y.need e)
 |.eq neg k x y=>(xeq neg k (x.ev e) (y.ev e)).and (x.need e∧y.need e)
 |.un op x=>(xun op (x.ev e)).and (x.need e)
 |.conv (.int k) x=>match x.ev e with
  |.int _ n=>.ok (x.need e) (.int k (k.wrap n))
  |_=>.bad
 |.conv .same x=>match x.ev e with
  |.str l=>.ok (x.need e) (.str l)
  |_=>.bad
 |.mkfn f a c=>.ok (Jh e a∧Jh e c) (.fn f (evs e a) (evs e c))
 |.slStr x lo hi=>(z3k (fun d=>js e d lo) (fun d=>js e d hi) (x.ev e)).and (x.need e∧Y0 e lo∧Y0 e hi)
 |.slSl s x lo hi mx=>(zk5 s (fun d=>js e d lo) (fun d=>js e d hi) (z39 e mx) (hi.isNone&&mx.isNone) (x.ev e)).and (x.need e∧Y0 e lo∧Y0 e hi∧Y0 e mx)
 |.slAr n s x=>(zhe n s H (x.ev e)).and (x.need e)
 |.faddr off x=>(z3p off (x.ev e)).and (x.need e)
 |.field g n off x=>(z4s g n off (x.ev e)).and (x.need e)
 |.iaddr s x i=>(z1x s (x.ev e).rd (i.ev e)).and (x.need e∧i.need e)
 |.iaddrA n s x i=>(z1b n s (x.ev e) (i.ev e)).and (x.need e∧i.need e)
 |.iaddrR n s x i=>(Wq n s H (x.ev e) (i.ev e)).and (x.need e∧i.need e)
 |.idxS x i=>(zlc (x.ev e) (i.ev e)).and (x.need e∧i.need e)
 |.idxA n s g x i=>(zmr n s g (x.ev e) (i.ev e)).and (x.need e∧i.need e)
 |.ext k x=>(zxx k (x.ev e)).and (x.need e)
 |.len true x=>(zgt (x.ev e)).and (x.need e)
 |.len false x=>(zct (x.ev e).rd).and (x.need e)
 |.mnx m args=>(zkn m (evs e args)).and (Jh e args)
 |.mlook ks ka g ok zs x k=>(z01 ks ka g ok zs H (k.ev e) (x.ev e)).and (x.need e∧k.need e)
 |.mlen x=>(zcr H (x.ev e)).and (x.need e)
 |_=>.bad
end Go.Fx
