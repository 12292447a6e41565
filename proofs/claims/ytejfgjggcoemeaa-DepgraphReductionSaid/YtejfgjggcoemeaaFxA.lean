/-
  Own framework.
-/
import Derived.Calls
import Derived.Deep.Quiet
import Derived.Laws.World
import Derived.Laws.Sem
import Derived.Laws.Strings
import Derived.Laws.StructEq
namespace Go.Fx
set_option linter.unusedVariables false
abbrev Id:=Nat×Nat
inductive AVal where
 |any
 |bool (b:Bool)
 |int (k:IntKind) (n:Int)
 |str (l:List UInt8)
 |val (v:Value)
 |agg (cs:List AVal)
 |tup (cs:List AVal)
 |isl (s:Nat) (es:List (List AVal)) (full:Bool)
 |iptr (s:Nat) (es:List (List AVal)) (i off:Nat)
 |osl (tok:Id) (s:Nat) (es:List (List AVal))
 |ptr (b:Id) (i off:Nat)
 |msl (b:Id) (s off len:Nat) (full:Bool)
 |map (b:Id)
 |optp (b:Id)
 |fn (f:Fn) (first caps:List AVal)
 |ifc (t:TypeId) (v:AVal)
 |cnd (p:Bool) (x:AVal)
instance:Inhabited AVal:=⟨.any⟩
inductive ABlock where
 |rows (s:Nat) (es:List (List AVal))
 |one (cs:List AVal)
 |amap (es:List (AVal×AVal))
 |tok
 |bld (T:TypeId) (g:Id)
 |buf (e:TypeId) (bs:List UInt8)
 |lrec (l:Nat) (r:Loop) (e:List (Nat×AVal))
 |rmap (es:List (AVal×AVal)) (arr:Array MapEntry) (ck:Nat)
 |itr (m:Option Id) (arr:Array MapEntry) (ck:Nat) (seen:List Nat)
 |mbox (b:Id)
abbrev Env:=List (Nat×AVal)
abbrev AHeap:=List (Id×ABlock)
def Env.get:Env→Nat→AVal
 |[],_=>.any
 |(k,v)::r,t=>if k=t then v else Env.get r t
def Env.put(e:Env)(d:Option Nat)(v:AVal):Env:=
 match d with
 |some d=>(d,v)::e
 |none=>e
def AHeap.get:AHeap→Id→Option ABlock
 |[],_=>none
 |(k,v)::r,t=>if k=t then some v else AHeap.get r t
def AHeap.set:AHeap→Id→ABlock→AHeap
 |[],_,_=>[]
 |(k,v)::r,t,b=>if k=t then(k,b)::r else(k,v)::AHeap.set r t b
def AHeap.del:AHeap→Id→AHeap
 |[],_=>[]
 |(k,v)::r,t=>if k=t then AHeap.del r t else(k,v)::AHeap.del r t
inductive LOpd where
 |t (i:Nat)
 |c (v:AVal)
inductive CK where
 |bool|int|str
inductive EqK where
 |bool|ptr|slice|map|func|other|ifc|fnc
 |agg (ks:List CK)
inductive ConvK where
 |int (k:IntKind)|s2b (vm:Bool)|b2s|same
inductive LOp where
 |mv (x:LOpd)
 |pick (c a b:LOpd)
 |alloc (zs:List AVal)
 |allocR (s:Nat) (zs:List AVal)
 |allocB (T e:TypeId)
 |box (x:LOpd)
 |build (zs:List AVal) (parts:List (Nat×Nat×LOpd))
 |mkSl (vm:Bool) (s:Nat) (zs:List AVal) (len:Nat) (parts:List (Nat×LOpd))
 |load (agg:Bool) (n:Nat) (a:LOpd)
 |store (n:Nat) (a x:LOpd)
 |nilck (x:LOpd)
 |bin (op:BinOp) (x y:LOpd)
 |eq (neg:Bool) (k:EqK) (x y:LOpd)
 |un (op:UnOp) (x:LOpd)
 |conv (k:ConvK) (x:LOpd)
 |mkfn (f:Fn) (first caps:List LOpd)
 |mkslice (vm:Bool) (s bytes:Nat) (zs:List AVal) (l c:LOpd)
 |slStr (x:LOpd) (lo hi:Option LOpd)
 |slSl (s:Nat) (x:LOpd) (lo hi mx:Option LOpd)
 |slAr (n s:Nat) (x:LOpd)
 |faddr (off:Nat) (x:LOpd)
 |field (agg:Bool) (n off:Nat) (x:LOpd)
 |iaddr (s:Nat) (x i:LOpd)
 |iaddrA (len s:Nat) (x i:LOpd)
 |iaddrR (len s:Nat) (x i:LOpd)
 |idxS (x i:LOpd)
 |idxA (len s:Nat) (agg:Bool) (x i:LOpd)
 |ext (k:Nat) (x:LOpd)
 |call (f:FuncId) (args:List LOpd)
 |callv (x:LOpd) (args:List LOpd)
 |len (st:Bool) (x:LOpd)
 |app (vm:Bool) (s bytes:Nat) (x y:LOpd)
 |copy (s:Nat) (x y:LOpd)
 |mnx (isMax:Bool) (args:List LOpd)
 |mkmap (r:Option LOpd)
 |mlook (ks:List CK) (ka agg ok:Bool) (zs:List AVal) (x k:LOpd)
 |mset (ks:List CK) (ka agg:Bool) (zs:List AVal) (m k x:LOpd)
 |mdel (ks:List CK) (ka:Bool) (m k:LOpd)
 |mlen (x:LOpd)
 |range (x:LOpd)
 |next (x:LOpd)
 |entry (x:LOpd)
 |bad
structure LOper where
 dst:Option Nat
 op:LOp
 guard:Option (Nat×Bool):=none
def LOpd.tmps:LOpd→List Nat
 |.t i=>[i]
 |.c _=>[]
def z7g:Option LOpd→List Nat
 |none=>[]
 |some x=>x.tmps
def LOp.tmps:LOp→List Nat
 |.mv x=>x.tmps
 |.pick c a b=>c.tmps++a.tmps++b.tmps
 |.alloc _=>[]
 |.allocR _ _=>[]
 |.allocB _ _=>[]
 |.box x=>x.tmps
 |.build _ parts=>parts.flatMap fun p=>p.2.2.tmps
 |.mkSl _ _ _ _ parts=>parts.flatMap fun p=>p.2.tmps
 |.load _ _ a=>a.tmps
 |.store _ a x=>a.tmps++x.tmps
 |.nilck x=>x.tmps
 |.bin _ x y=>x.tmps++y.tmps
 |.eq _ _ x y=>x.tmps++y.tmps
 |.un _ x=>x.tmps
 |.conv _ x=>x.tmps
 |.mkfn _ a c=>a.flatMap LOpd.tmps++c.flatMap LOpd.tmps
 |.mkslice _ _ _ _ l c=>l.tmps++c.tmps
 |.slStr x lo hi=>x.tmps++z7g lo++z7g hi
 |.slSl _ x lo hi mx=>x.tmps++z7g lo++z7g hi++z7g mx
 |.slAr _ _ x=>x.tmps
 |.faddr _ x=>x.tmps
 |.field _ _ _ x=>x.tmps
 |.iaddr _ x i=>x.tmps++i.tmps
 |.iaddrA _ _ x i=>x.tmps++i.tmps
 |.iaddrR _ _ x i=>x.tmps++i.tmps
 |.idxS x i=>x.tmps++i.tmps
 |.idxA _ _ _ x i=>x.tmps++i.tmps
 |.ext _ x=>x.tmps
 |.call _ a=>a.flatMap LOpd.tmps
 |.callv x a=>x.tmps++a.flatMap LOpd.tmps
 |.len _ x=>x.tmps
 |.app _ _ _ x y=>x.tmps++y.tmps
 |.copy _ x y=>x.tmps++y.tmps
 |.mnx _ a=>a.flatMap LOpd.tmps
 |.mkmap r=>z7g r
 |.mlook _ _ _ _ _ x k=>x.tmps++k.tmps
 |.mset _ _ _ _ m k x=>m.tmps++k.tmps++x.tmps
 |.mdel _ _ m k=>m.tmps++k.tmps
 |.mlen x=>x.tmps
 |.range x=>x.tmps
 |.next x=>x.tmps
 |.entry x=>x.tmps
 |.bad=>[]
def LOper.looks(lo:LOper):List Nat:=lo.op.tmps++(match lo.guard with|some (g,_)=>[g]|none=>[])
def um:LOp→Bool
 |.load .. => true
 |.mlook .. => true
 |.mlen .. => true
 |.iaddrR .. => true
 |.slAr .. => true
 |_=>false
structure DItem where
 lo:LOper
 loose:List Nat
structure Lay where
 n:Nat
 bm:List Nat
 rd:Bool
inductive LCode where
 |skip
 |region (ops:List LOper)
 |quiet (ops:List LOper)
 |draw (items:List DItem)
 |draw2 (a b:LOpd) (items:List DItem)
 |seq (a b:LCode)
 |cond (c:LOpd) (a b:LCode)
 |block (id:Nat) (c:LCode)
 |loop (c:LCode)
 |rng (g:LOpd) (ps:List Nat) (a b:LCode)
 |dfr (f t:Nat)
 |exit (id:Nat)
 |ret
def Q0:Value→AVal
 |.bool b=>.bool b
 |.int k n=>.int k n
 |.string s=>.str s.data.toList
 |v=>.val v
def yw:Operand→Option LOpd
 |.tmp t=>some (.t t)
 |.const (.agg vs)=>if vs.toList.all (fun v=>match v with|.agg _=>false|.tuple _=>false|_=>true) then some (.c (.agg (vs.toList.map Q0))) else none
 |.const (.tuple _)=>none
 |.const v=>some (.c (Q0 v))
 |.func f=>some (.c (.fn (.func f) [] []))
 |.global _=>none
def uo:List Operand→Option (List LOpd)
 |[]=>some []
 |x::r=>match yw x,uo r with
  |some a,some b=>some (a::b)
  |_,_=>none
def wx:Option Operand→Option (Option LOpd)
 |none=>some none
 |some x=>(yw x).map some
def zaa(P:Program):Nat→TypeId→List (Option Nat)
 |0,_=>[]
 |d+1,t=>match P.underlying t with
  |some (.slice e)=>[(P.info? e).map (·.size)]
  |some (.struct fs)=>(fs.toList.map fun f=>zaa P d f.type).flatten
  |some (.array n e)=>(List.replicate n (zaa P d e)).flatten
  |_=>[none]
def z72:List (Option Nat)→List AVal→List AVal
 |some s::ks,.val (.slice none 0 0)::r=>.isl s [] true::z72 ks r
 |_::ks,x::r=>x::z72 ks r
 |[],r=>r
 |_::_,[]=>[]
def jx(P:Program)(t:TypeId):Option (List AVal):=
 match P.info? t with
 |some i=>match i.zero with
  |some (.tuple _)=>none
  |some v=>if v.cells.toList.all (fun x=>match x with|.agg _=>false|.tuple _=>false|_=>true)&&(v.cells.size==i.size) then some (z72 (zaa P 12 t) (v.cells.toList.map Q0)) else none
  |none=>none
 |none=>none
def zsh(P:Program)(t:TypeId):Option TypeId:=
 match P.underlying t,P.info? t with
 |some (.struct fs),some i=>match fs.toList,i.zero,jx P t with
  |[f0,f1],some v,some _=>match P.underlying f0.type,P.underlying f1.type,v.cells.toList with
   |some (.pointer u),some (.slice c),[.pointer none,.slice none 0 0]=>match P.underlying c with
    |some (.int .u8)=>if u==t then some c else none
    |_=>none
   |_,_,_=>none
  |_,_,_=>none
 |_,_=>none
def Xc(P:Program)(t:TypeId):Option Bool:=
 match P.underlying t with
 |some (.struct _)=>some true
 |some (.array _ _)=>some true
 |some _=>some false
 |none=>none
def jq(P:Program)(t:TypeId):Option Nat:=(P.info? t).map (·.size)
def Yn(P:Program)(t:TypeId):Option Nat:=(P.info? t).map (·.bytes)
def eqFields(P:Program)(rec:TypeId→Option (List CK)):Nat→List Field→Option (List CK)
 |_,[]=>some []
 |off,f::r=>if f.name=="_" || f.offset != off then none else match rec f.type,Xc P f.type,jq P f.type with
  |some l,some g,some m=>if l.length==m&&(g || m==1) then(eqFields P rec (off+m) r).map (l++·) else none
  |_,_,_=>none
def u6(P:Program):Nat→TypeId→Option (List CK)
 |0,_=>none
 |d+1,t=>match P.underlying t with
  |some .bool=>some [.bool]
  |some (.int _)=>some [.int]
  |some .string=>some [.str]
  |some (.struct fs)=>if P.stoodInHeld t then none else eqFields P (u6 P d) 0 fs.toList
  |_=>none
def Q9(P:Program)(t:TypeId):EqK:=
 match P.underlying t with
 |some .bool=>.bool
 |some (.pointer _)=>.ptr
 |some (.slice _)=>.slice
 |some (.map _ _)=>.map
 |some (.func _ _ _)=>.func
 |some (.struct _)=>match u6 P 50 t with
  |some ks=>if P.eqGuardType P.depth t then .func else .agg ks
  |none=>.func
 |some (.array _ _)=>.func
 |some (.interface _)=>.func
 |_=>.other
def z09(P:Program)(t:TypeId)(y:Operand):EqK:=
 match y with
 |.const .nilIface=>(match P.underlying t with|some (.interface _)=>.ifc|_=>Q9 P t)
 |.const .nilFunc=>(match P.underlying t with|some (.func _ _ _)=>.fnc|_=>Q9 P t)
 |_=>Q9 P t
def U4(P:Program)(vm:Bool)(src dst:TypeId):Option ConvK:=
 match P.underlying src,P.underlying dst with
 |some (.int _),some (.int k)=>some (.int k)
 |some .string,some .string=>some .same
 |some .string,some (.slice e)=>match P.underlying e with
  |some (.int .u8)=>some (.s2b vm)
  |_=>none
 |some (.slice e),some .string=>match P.underlying e with
  |some (.int .u8)=>some .b2s
  |_=>none
 |_,_=>none
def Zk(P:Program)(fs:Array Field):List (Nat×Operand)→Option (List (Nat×Nat×LOpd))
 |[]=>some []
 |(i,x)::r=>match fs[i]? with
  |some f=>match jq P f.type,yw x,Zk P fs r with
   |some n,some a,some l=>some ((f.offset,n,a)::l)
   |_,_,_=>none
  |none=>none
def Zp(s:Nat):List (Nat×Operand)→Option (List (Nat×Nat×LOpd))
 |[]=>some []
 |(i,x)::r=>match yw x,Zp s r with
  |some a,some l=>some ((i*s,s,a)::l)
  |_,_=>none
def Zv:List (Nat×Operand)→Option (List (Nat×LOpd))
 |[]=>some []
 |(i,x)::r=>match yw x,Zv r with
  |some a,some l=>some ((i,a)::l)
  |_,_=>none
def Wv(P:Program)(vm:Bool)(c:Call):Option LOp:=
 match c.callee with
 |.value (.func f)=>match P.funcs[f]? with
  |some fn=>if fn.body.isSome&&!(fn.name=="runtime.NumGoroutine") then(uo c.args.toList).map (LOp.call f) else none
  |none=>none
 |.value x=>match yw x,uo c.args.toList with
  |some a,some l=>some (.callv a l)
  |_,_=>none
 |.invoke _ _=>none
 |.builtin .len=>match c.args.toList,c.argTypes.toList with
  |[x],[t]=>match P.underlying t with
   |some .string=>(yw x).map (LOp.len true)
   |some (.slice _)=>(yw x).map (LOp.len false)
   |some (.map _ _)=>(yw x).map LOp.mlen
   |_=>none
  |_,_=>none
 |.builtin .append=>match c.args.toList,c.argTypes.toList with
  |[x,y],[t,u]=>match P.underlying t,P.underlying u with
   |some (.slice e),some (.slice _)=>match jq P e,Yn P e,yw x,yw y with
    |some s,some b,some x,some y=>if 0<s&&0<b&&(jx P e).isSome then some (.app vm s b x y) else none
    |_,_,_,_=>none
   |some (.slice e),some .string=>match jq P e,Yn P e,yw x,yw y with
    |some s,some b,some x,some y=>if 0<s&&0<b&&(jx P e).isSome then some (.app vm s b x y) else none
    |_,_,_,_=>none
   |_,_=>none
  |_,_=>none
 |.builtin .copy=>match c.args.toList,c.argTypes.toList with
  |[x,y],[t,_]=>match P.underlying t with
   |some (.slice e)=>match jq P e,yw x,yw y with
    |some s,some x,some y=>if 0<s then some (.copy s x y) else none
    |_,_,_=>none
   |_=>none
  |_,_=>none
 |.builtin .delete=>match c.args.toList,c.argTypes.toList with
  |[x,y],[t,_]=>match P.underlying t with
   |some (.map kt _)=>match u6 P 50 kt,Xc P kt,yw x,yw y with
    |some ks,some ka,some x,some y=>some (.mdel ks ka x y)
    |_,_,_,_=>none
   |_=>none
  |_,_=>none
 |.builtin .max=>(uo c.args.toList).map (LOp.mnx true)
 |.builtin .min=>(uo c.args.toList).map (LOp.mnx false)
 |.builtin _=>none
def z1q(P:Program)(t:TypeId):Option Bool:=match P.info? t with
 |some i=>match i.zero with
  |some (.agg _)=>some true
  |some _=>some false
  |none=>none
 |none=>none
def Vb(P:Program)(t:TypeId)(m k x:Operand):Option LOp:=match P.underlying t with
 |some (.map kt et)=>match u6 P 50 kt,Xc P kt,Xc P et,jx P et with
  |some ks,some ka,some g,some zs=>if g || zs.length==1 then(match yw m,yw k,yw x with
   |some m,some k,some x=>some (.mset ks ka g zs m k x)
   |_,_,_=>none) else none
  |_,_,_,_=>none
 |_=>none
def zsk(P:Program)(t:TypeId):Bool:=match P.info? t with
 |some i=>match i.zero with
  |some (.slice none 0 0)=>true
  |_=>false
 |none=>false
def xe(P:Program)(vm:Bool):Op→Option LOp
 |.move x=>(yw x).map .mv
 |.assign x=>(yw x).map .mv
 |.pick c a b=>match yw c,yw a,yw b with
  |some c,some a,some b=>some (.pick c a b)
  |_,_,_=>none
 |.alloc e=>match vm,P.underlying e with
  |false,some (.array _ c)=>match jx P e,jq P c with
   |some z,some s=>if 0<s&&z.length % s==0 then some (.allocR s z) else none
   |_,_=>none
  |false,some (.struct _)=>match zsh P e,jx P e with
   |some c,_=>some (.allocB e c)
   |none,some z=>some (.alloc z)
   |none,none=>none
  |_,_=>(jx P e).map .alloc
 |.box _ x=>(yw x).map .box
 |.build t parts=>match P.underlying t with
  |some (.struct fs)=>match jx P t,Zk P fs parts.toList with
   |some z,some l=>if fs.toList.all (fun f=>(jq P f.type).isSome) then some (.build z l) else none
   |_,_=>none
  |some (.array _ e)=>match jx P t,jq P e with
   |some z,some s=>(Zp s parts.toList).map (.build z)
   |_,_=>none
  |_=>none
 |.buildSlice t len parts=>match P.underlying t with
  |some (.slice e)=>match jx P e,jq P e,Zv parts.toList with
   |some z,some s,some l=>if 0<s&&len*s≤16777216 then some (.mkSl vm s z len l) else none
   |_,_,_=>none
  |_=>none
 |.load t a=>match Xc P t,jq P t,yw a with
  |some g,some n,some a=>if g || n==1 then some (.load g n a) else none
  |_,_,_=>none
 |.store t a x=>match jq P t,yw a,yw x with
  |some n,some a,some x=>some (.store n a x)
  |_,_,_=>none
 |.nilCheck x=>(yw x).map .nilck
 |.binOp op t x y _=>match yw x,yw y with
  |some a,some b=>match op,z09 P t y with
   |.eql,.other=>some (.bin .eql a b)
   |.neq,.other=>some (.bin .neq a b)
   |.eql,k=>some (.eq false k a b)
   |.neq,k=>some (.eq true k a b)
   |op,_=>some (.bin op a b)
  |_,_=>none
 |.unOp op _ x=>(yw x).map (.un op)
 |.convert s d x=>match U4 P vm s d,yw x with
  |some k,some a=>some (.conv k a)
  |_,_=>none
 |.makeFunc f first caps=>match uo first.toList,uo caps.toList with
  |some a,some b=>some (.mkfn f a b)
  |_,_=>none
 |.makeSlice t l c=>match P.underlying t with
  |some (.slice e)=>match jx P e,jq P e,Yn P e,yw l,yw c with
   |some z,some s,some b,some l,some c=>if 0<s&&0<b then some (.mkslice vm s b z l c) else none
   |_,_,_,_,_=>none
  |_=>none
 |.slice t x lo hi mx=>match yw x,wx lo,wx hi,wx mx with
  |some x,some lo,some hi,some mx=>match P.underlying t,mx with
   |some .string,none=>some (.slStr x lo hi)
   |some (.slice e),mx=>if mx.isSome&&hi.isNone then none else(jq P e).map fun s=>.slSl s x lo hi mx
   |some (.array n e),none=>if lo.isNone&&hi.isNone then(jq P e).map fun s=>.slAr n s x else none
   |_,_=>none
  |_,_,_,_=>none
 |.fieldAddr t x i=>match P.underlying t with
  |some (.struct fs)=>match fs[i]? with
   |some f=>match jq P f.type,yw x with
    |some n,some a=>if n==0 then none else some (.faddr f.offset a)
    |_,_=>none
   |none=>none
  |_=>none
 |.field t x i=>match P.underlying t with
  |some (.struct fs)=>match fs[i]? with
   |some f=>match Xc P f.type,jq P f.type,yw x with
    |some g,some n,some a=>if g || n==1 then some (.field g n f.offset a) else none
    |_,_,_=>none
   |none=>none
  |_=>none
 |.indexAddr t x i=>match P.underlying t,yw x,yw i with
  |some (.slice e),some x,some i=>(jq P e).map fun s=>.iaddr s x i
  |some (.array n e),some x,some i=>(jq P e).map fun s=>if vm then .iaddrA n s x i else .iaddrR n s x i
  |_,_,_=>none
 |.index t x i=>match P.underlying t,yw x,yw i with
  |some .string,some x,some i=>some (.idxS x i)
  |some (.array n e),some x,some i=>match Xc P e,jq P e with
   |some g,some s=>if g || s==1 then some (.idxA n s g x i) else none
   |_,_=>none
  |_,_,_=>none
 |.extract x k=>(yw x).map (.ext k)
 |.makeMap _ r=>match r with
  |none=>some (.mkmap none)
  |some _=>none
 |.lookup t x i ok=>match P.underlying t with
  |some (.map kt et)=>match u6 P 50 kt,Xc P kt,Xc P et,jx P et,z1q P et,yw x,yw i with
   |some ks,some ka,some g,some zs,some zg,some x,some i=>if zg==g&&(g || zs.length==1) then some (.mlook ks ka g ok (if !vm&&!g&&zsk P et then [.val (.slice none 0 0)] else zs) x i) else none
   |_,_,_,_,_,_,_=>none
  |_=>none
 |.mapUpdate t m k x=>Vb P t m k x
 |.insert t m k x=>Vb P t m k x
 |.range t x=>match P.underlying t with
  |some (.map _ _)=>(yw x).map .range
  |_=>none
 |.next x s=>match s with
  |false=>(yw x).map .next
  |true=>none
 |.entry x=>(yw x).map .entry
 |.call c=>Wv P vm c
 |_=>none
def Lay.vm(N:Lay)(d:Option Nat):Bool:=match d with
 |some d=>!N.bm.contains d
 |none=>true
def Zw(P:Program)(N:Lay)(ops:Array Oper)(o:Oper):Option LOper:=
 match (match o.dst with|some d=>decide (d<N.n)|none=>true),o.guard with
 |false,_=>none
 |true,none=>some { dst:=o.dst,op:=(xe P (N.vm o.dst) o.op).getD .bad }
 |true,some (j,want)=>match (ops[j]?).bind (·.dst) with
  |some g=>if g<N.n then some { dst:=o.dst,op:=(xe P (N.vm o.dst) o.op).getD .bad,guard:=some (g,want) } else none
  |none=>none
def Xf(P:Program)(N:Lay)(ops:Array Oper):List Oper→Option (List LOper)
 |[]=>some []
 |o::r=>match Zw P N ops o,Xf P N ops r with
  |some a,some l=>some (a::l)
  |_,_=>none
def vo:LOp→Bool
 |.alloc _|.allocR ..|.allocB ..|.box _|.mkSl ..|.store ..|.conv (.s2b _) _|.conv .b2s _|.mkslice ..|.call ..|.callv ..|.app ..|.copy ..|.mkmap _|.mset ..|.mdel ..|.range _|.next _|.entry _|.bad=>false
 |_=>true
def uk(ops:Array Oper)(j:Nat):List Nat:=match ops[j]? with
 |some o=>(o.after.toList.filter (Region.binds .any)).map (·.on)
 |none=>[]
def z3q(acc:List (Nat×List Nat))(j:Nat):List Nat:=match acc.find? (fun x=>x.1==j) with
 |some x=>x.2
 |none=>[]
def zcz(l:LOper):Bool:=match l.op,l.guard,l.dst with
 |.alloc _,none,some _=>true
 |_,_,_=>false
def z0c(l:LOper):Bool:=match l.op with
 |.mkSl true _ _ _ _=>true
 |_=>false
def z86(l:LOper):Bool:=match l.op,l.guard,l.dst with
 |.store _ _ _,none,none=>true
 |_,_,_=>false
def z6w(ops:Array Oper)(los:List LOper):Nat→List (Nat×List Nat)→List (Nat×List Nat)
 |0,acc=>acc
 |fuel+1,acc=>
  let ready:=(List.range ops.size).filter fun j=>!(acc.any fun x=>x.1==j)&&(uk ops j).all fun d=>acc.any fun x=>x.1==d
  let pick:=match ready.find? (fun j=>vo (los.getD j ⟨none,.bad,none⟩).op) with
   |some j=>some j
   |none=>match ready.find? (fun j=>z0c (los.getD j ⟨none,.bad,none⟩)) with
    |some j=>some j
    |none=>match ready.find? (fun j=>!zcz (los.getD j ⟨none,.bad,none⟩)) with
     |some j=>some j
     |none=>ready.head?
  match pick with
  |some j=>z6w ops los fuel (acc++[(j,(uk ops j++(uk ops j).flatMap (z3q acc)).eraseDups)])
  |none=>acc
def wn:LOper:=⟨none,.bad,none⟩
def z2m(sw:Bool)(m:Nat)(los:List LOper)(i j:Nat)(pre:List Nat)(loose:List Nat)(p:Nat):Bool:=
 let li:=los.getD i wn
 let lj:=los.getD j wn
 let fr:=pre.contains i
 !(i==j)&&(fr || (match lj.dst with|some d=>!li.looks.contains d|none=>true))&&(fr || (match li.dst with|some d=>!lj.looks.contains d|none=>true)) &&
 (match li.dst,lj.dst with|some a,some b=>!(a==b)|_,_=>true)&&(vo li.op || z0c li || fr || zcz lj || (sw&&Nat.beq (p+2) m&&z86 li&&z86 lj))&&(vo lj.op || z0c lj || !um li.op || fr || loose.contains p)
def ze3(sw:Bool)(ops:Array Oper)(los:List LOper)(acc:List (Nat×List Nat))(loose:List (List Nat)):Bool:=
 acc.length==ops.size&&los.length==ops.size&&(List.range ops.size).all (fun i=>acc.any fun x=>x.1==i)&&(acc.map (·.1)).all (fun i=>decide (i<ops.size)) &&
 (List.range ops.size).all (fun p=>(uk ops (acc.getD p (0,[])).1).all fun d=>(acc.take p).any fun x=>x.1==d) &&
 (List.range ops.size).all (fun p=>(z3q acc (acc.getD p (0,[])).1).all fun i=>(uk ops (acc.getD p (0,[])).1).contains i || (uk ops (acc.getD p (0,[])).1).any fun d=>(z3q acc d).contains i) &&
 (!sw || (List.range ops.size).all (fun x=>!(Nat.ble (x+3) ops.size&&um (los.getD (acc.getD x (0,[])).1 wn).op) || ((z3q acc (acc.getD (ops.size-1) (0,[])).1).contains (acc.getD x (0,[])).1&&(z3q acc (acc.getD (ops.size-2) (0,[])).1).contains (acc.getD x (0,[])).1))) &&
 (List.range ops.size).all (fun q=>(List.range q).all fun p=>z2m sw ops.size los (acc.getD p (0,[])).1 (acc.getD q (0,[])).1 (z3q acc (acc.getD q (0,[])).1) (loose.getD q []) p)
def z5u(los:List LOper)(acc:List (Nat×List Nat)):List (List Nat):=
 (List.range acc.length).map fun q=>if vo (los.getD (acc.getD q (0,[])).1 wn).op || z0c (los.getD (acc.getD q (0,[])).1 wn) then [] else(List.range q).filter fun p=>um (los.getD (acc.getD p (0,[])).1 wn).op&&!(z3q acc (acc.getD q (0,[])).1).contains (acc.getD p (0,[])).1
def Qm(sw:Bool)(ops:Array Oper)(los:List LOper):Option (List DItem):=
 let acc:=z6w ops los ops.size []
 let loose:=z5u los acc
 if ze3 sw ops los acc loose then some ((List.range acc.length).map fun p=>⟨los.getD (acc.getD p (0,[])).1 wn,loose.getD p []⟩) else none
def Ws(ops:Array Oper)(los:List LOper):Option LCode:=
 match Qm true ops los with
 |some items=>match items[ops.size-2]?,items[ops.size-1]? with
  |some i1,some i2=>match i1.lo.op,i2.lo.op with
   |.store _ a _,.store _ b _=>if Nat.ble 2 ops.size then some (.draw2 a b items) else none
   |_,_=>none
  |_,_=>none
 |none=>none
def Vm(ops:Array Oper)(los:List LOper):Option LCode:=
 match Qm false ops los with
 |some items=>some (.draw items)
 |none=>Ws ops los
def Xa:Code→Bool
 |.seq a b=>Xa a || Xa b
 |.cond _ a b=>Xa a || Xa b
 |.block _ c=>Xa c
 |.loop c=>Xa c
 |.rangeFunc _ _ _ _=>true
 |_=>false
def zrr(N:Lay):Lay:=⟨N.n,N.bm,true⟩
def zl8(N:Lay)(draw:Bool)(ops:Array Oper):Option (Nat×Nat):=
 match N.rd,draw,ops.toList with
 |false,false,[o1,o2]=>match o1.dst,o1.op,o1.guard,o2.dst,o2.op,o2.guard with
  |some t,.makeFunc (.func f) fs _,none,none,.defer c,none=>match c.callee with
   |.value (.tmp t')=>if fs.size==0&&c.args.size==0&&t'==t&&Nat.blt t N.n then some (f,t) else none
   |_=>none
  |_,_,_,_,_,_=>none
 |_,_,_=>none
def ya(P:Program)(N:Lay):Code→Option LCode
 |.skip=>some .skip
 |.region _ ops draw=>match zl8 N draw ops with
  |some x=>some (.dfr x.1 x.2)
  |none=>match Xf P N ops ops.toList with
  |some los=>if draw then(if P.follows .mixedOrders then(if !N.rd&&(Region.lexB .any ops&&los.all (fun l=>vo l.op)) then some (.quiet los) else Vm ops los) else none) else some (.region los)
  |none=>none
 |.seq a b=>match ya P N a,ya P N b with
  |some a,some b=>some (.seq a b)
  |_,_=>none
 |.cond c a b=>match yw c,ya P N a,ya P N b with
  |some c,some a,some b=>some (.cond c a b)
  |_,_,_=>none
 |.block id c=>(ya P N c).map (.block id)
 |.loop c=>(ya P N c).map .loop
 |.rangeFunc g ps a b=>match N.rd,yw g,ya P (zrr N) a,ya P (zrr N) b with
  |false,some g,some a,some b=>some (.rng g ps.toList a b)
  |_,_,_,_=>none
 |.exit id=>some (.exit id)
 |.ret=>some .ret
 |_=>none
inductive LRes where
 |t (i:Nat)
 |cell (i:Nat) (agg:Bool) (n:Nat)
structure LFn where
 nargs:Nat
 lay:Lay
 body:LCode
 res:List LRes
def Uo(P:Program):List ResultVar→Option (List LRes)
 |[]=>some []
 |.tmp t::r=>(Uo P r).map (.t t::·)
 |.cell a t::r=>match Xc P t,jq P t,Uo P r with
  |some g,some n,some l=>if g || n==1 then some (.cell a g n::l) else none
  |_,_,_=>none
def vi(P:Program)(bm:List Nat)(f:FuncId):Option LFn:=
 match P.funcs[f]? with
 |some fn=>match fn.body with
  |some c=>match ya P ⟨fn.ntmps,bm,false⟩ c,Uo P fn.results.toList with
   |some lc,some r=>some { nargs:=fn.params.size+fn.nfree,lay:=⟨fn.ntmps,bm,false⟩,body:=lc,res:=r }
   |_,_=>none
  |none=>none
 |none=>none
def AVal.strip:AVal→AVal
 |.cnd _ x=>x
 |x=>x
def AVal.rd:AVal→AVal
 |.osl _ s es=>.isl s es false
 |x=>x
def AVal.imm:AVal→Option AVal
 |.bool b=>some (.bool b)
 |.int k n=>some (.int k n)
 |.str l=>some (.str l)
 |.val v=>some (.val v)
 |.isl s es f=>some (.isl s es f)
 |.iptr s es i off=>some (.iptr s es i off)
 |.osl _ s es=>some (.isl s es false)
 |.agg cs=>(immL cs).map .agg
 |.tup cs=>(immL cs).map .tup
 |.fn f a c=>match immL a,immL c with
  |some a,some c=>some (.fn f a c)
  |_,_=>none
 |.ifc t v=>v.imm.map (.ifc t)
 |_=>none
where immL:List AVal→Option (List AVal)
 |[]=>some []
 |x::r=>match x.imm,immL r with
  |some y,some l=>some (y::l)
  |_,_=>none
def kj:List (List AVal)→Option (List (List AVal))
 |[]=>some []
 |r::rs=>match AVal.imm.immL r,kj rs with
  |some y,some l=>some (y::l)
  |_,_=>none
def Qg:AVal→AVal→AVal
 |.isl s _ _,.val (.slice none 0 0)=>.isl s [] false
 |.isl _ _ _,.isl s es _=>.isl s es false
 |_,x=>x
def wg:List AVal→List AVal→List AVal
 |z::zs,x::r=>Qg z x::wg zs r
 |[],r=>r
 |_::_,[]=>[]
def AVal.need:AVal→Prop
 |.cnd p _=>p=true
 |_=>True
def LOpd.ev(e:Env):LOpd→AVal
 |.t i=>(e.get i).strip
 |.c v=>v
def LOpd.need(e:Env):LOpd→Prop
 |.t i=>(e.get i).need
 |.c _=>True
def evs(e:Env):List LOpd→List AVal
 |[]=>[]
 |x::r=>x.ev e::evs e r
def J2(e:Env):List LOpd→Prop
 |[]=>True
 |x::r=>x.need e∧J2 e r
def AVal.cells?:AVal→Option (List AVal)
 |.any=>none
 |.cnd _ _=>none
 |.agg cs=>some cs
 |.tup _=>none
 |.val (.agg _)=>none
 |.val (.tuple _)=>none
 |x=>some [x]
inductive XR where
 |ok (side:Prop) (v:AVal)
 |bad
def z00(op:BinOp)(k:IntKind)(x y:Int):Int:=
 let a:=BitVec.ofInt k.bits x
 let b:=BitVec.ofInt k.bits y
 match op with
 |.and=>k.wrap (a &&& b).toNat
 |.or=>k.wrap (a ||| b).toNat
 |.xor=>k.wrap (a ^^^ b).toNat
 |_=>k.wrap (a &&& ~~~b).toNat
def zs0(op:BinOp):AVal→AVal→XR
 |.int k a,.int k' b=>match op with
  |.add=>.ok (k=k') (.int k (k.wrap (a+b)))
  |.sub=>.ok (k=k') (.int k (k.wrap (a-b)))
  |.mul=>.ok (k=k') (.int k (k.wrap (a*b)))
  |.quo=>.ok (k=k'∧b≠0) (.int k (k.wrap (a.tdiv b)))
  |.rem=>.ok (k=k'∧b≠0) (.int k (a.tmod b))
  |.and=>.ok (k=k') (.int k (z00 .and k a b))
  |.or=>.ok (k=k') (.int k (z00 .or k a b))
  |.xor=>.ok (k=k') (.int k (z00 .xor k a b))
  |.andNot=>.ok (k=k') (.int k (z00 .andNot k a b))
  |.shl=>.ok (0≤b) (.int k (k.wrap (a*2 ^ (min b.toNat k.bits))))
  |.shr=>.ok (0≤b) (.int k (a.fdiv (2 ^ (min b.toNat k.bits))))
  |.eql=>.ok (k=k') (.bool (a==b))
  |.neq=>.ok (k=k') (.bool (a != b))
  |.lss=>.ok (k=k') (.bool (decide (a<b)))
  |.leq=>.ok (k=k') (.bool (decide (a≤b)))
  |.gtr=>.ok (k=k') (.bool (decide (a > b)))
  |.geq=>.ok (k=k') (.bool (decide (a≥b)))
 |.str a,.str b=>match op with
  |.add=>.ok (((a.length+b.length:Nat):Int)≤9223372036854775807) (.str (a++b))
  |.eql=>.ok True (.bool (a==b))
  |.neq=>.ok True (.bool (!(a==b)))
  |.lss=>.ok True (.bool (Op.bytesLess a b))
  |.leq=>.ok True (.bool (Op.bytesLess a b || a==b))
  |.gtr=>.ok True (.bool (!(Op.bytesLess a b || a==b)))
  |.geq=>.ok True (.bool (!(Op.bytesLess a b)))
  |_=>.bad
 |_,_=>.bad
def xun(op:UnOp):AVal→XR
 |.bool b=>match op with
  |.not=>.ok True (.bool (!b))
  |_=>.bad
 |.int k n=>match op with
  |.neg=>.ok True (.int k (k.wrap (0-n)))
  |.xor=>.ok True (.int k (z00 .xor k (if k.signed then -1 else k.max) n))
  |_=>.bad
 |_=>.bad
def zjr:AVal→AVal→XR
 |.val (.pointer none),.val (.pointer none)=>.ok True (.bool true)
 |.val (.pointer none),.ptr _ _ _=>.ok True (.bool false)
 |.ptr _ _ _,.val (.pointer none)=>.ok True (.bool false)
 |.val (.pointer none),.iptr _ _ _ _=>.ok True (.bool false)
 |.iptr _ _ _ _,.val (.pointer none)=>.ok True (.bool false)
 |_,_=>.bad
def Vz:AVal→AVal→XR
 |.val (.slice none 0 0),.val (.slice none 0 0)=>.ok True (.bool true)
 |.val (.slice none 0 0),.msl _ _ _ len _=>.ok (len≠0) (.bool false)
 |.msl _ _ _ len _,.val (.slice none 0 0)=>.ok (len≠0) (.bool false)
 |.val (.slice none 0 0),.isl _ es _=>.ok (es≠[]) (.bool false)
 |.isl _ es _,.val (.slice none 0 0)=>.ok (es≠[]) (.bool false)
 |_,_=>.bad
def Vn:AVal→AVal→XR
 |.val (.map none),.val (.map none)=>.ok True (.bool true)
 |.val (.map none),.map _=>.ok True (.bool false)
 |.map _,.val (.map none)=>.ok True (.bool false)
 |_,_=>.bad
def Xo:CK→AVal→AVal→Option Bool
 |.int,.int k a,.int k' b=>if k=k' then some (a==b) else none
 |.str,.str a,.str b=>some (a==b)
 |.bool,.bool a,.bool b=>some (a==b)
 |_,_,_=>none
def qc:List CK→List AVal→List AVal→Option Bool
 |[],[],[]=>some true
 |k::ks,x::xs,y::ys=>match Xo k x y,qc ks xs ys with
  |some a,some b=>some (a&&b)
  |_,_=>none
 |_,_,_=>none
def zl6(ks:List CK):AVal→AVal→XR
 |.agg cs,.agg ds=>match qc ks cs ds with
  |some b=>.ok True (.bool b)
  |none=>.bad
 |_,_=>.bad
def z3f:AVal→AVal→XR
 |.val .nilIface,.val .nilIface=>.ok True (.bool true)
 |.ifc _ _,.val .nilIface=>.ok True (.bool false)
 |_,_=>.bad
def z5a:AVal→AVal→XR
 |.val .nilFunc,.val .nilFunc=>.ok True (.bool true)
 |.fn _ _ _,.val .nilFunc=>.ok True (.bool false)
 |_,_=>.bad
def zlb(k:EqK)(x y:AVal):XR:=
 match k with
 |.bool=>match x,y with
  |.bool a,.bool b=>.ok True (.bool (a==b))
  |_,_=>.bad
 |.ptr=>zjr x y
 |.slice=>Vz x.rd y.rd
 |.map=>Vn x y
 |.agg ks=>zl6 ks x y
 |.ifc=>z3f x y
 |.fnc=>z5a x y
 |_=>.bad
def XR.neg:XR→XR
 |.ok s (.bool b)=>.ok s (.bool (!b))
 |_=>.bad
def xeq(neg:Bool)(k:EqK)(x y:AVal):XR:=if neg then(zlb k x y).neg else zlb k x y
def j4(agg:Bool)(n off:Nat)(r:List AVal):AVal:=
 if agg then .agg ((r.drop off).take n) else r.getD off .any
def z7z(agg:Bool)(n:Nat)(H:AHeap):AVal→XR
 |.iptr s es i off=>.ok (i<es.length∧off+n≤s) (j4 agg n off (es.getD i []))
 |.ptr b i off=>match H.get b with
  |some (.rows s es)=>.ok (i<es.length∧off+n≤s) (j4 agg n off (es.getD i []))
  |some (.one cs)=>.ok (i=0∧off+n≤cs.length) (j4 agg n off cs)
  |_=>.bad
 |_=>.bad
def z5n(off:Nat):AVal→XR
 |.iptr s es i o=>.ok True (.iptr s es i (o+off))
 |.ptr b i o=>.ok True (.ptr b i (o+off))
 |_=>.bad
def z3u(agg:Bool)(n off:Nat):AVal→XR
 |.agg cs=>.ok (off+n≤cs.length) (j4 agg n off cs)
 |_=>.bad
def z5p(s:Nat):AVal→AVal→XR
 |.isl s' es _,.int _ j=>.ok (s=s'∧0≤j∧j<(es.length:Int)) (.iptr s' es j.toNat 0)
 |.msl b s' off len _,.int _ j=>.ok (s=s'∧0≤j∧j<(len:Int)) (.ptr b (off+j.toNat) 0)
 |_,_=>.bad
def z2q(len s:Nat):AVal→AVal→XR
 |.iptr s' es i o,.int _ j=>.ok (0≤j∧j<(len:Int)) (.iptr s' es i (o+j.toNat * s))
 |.ptr b i o,.int _ j=>.ok (0≤j∧j<(len:Int)) (.ptr b i (o+j.toNat * s))
 |_,_=>.bad
def Kw(len s:Nat)(H:AHeap):AVal→AVal→XR
 |.ptr b i 0,.int _ j=>match H.get b with
  |some (.rows s' _)=>.ok (s=s'∧0≤j∧j<(len:Int)) (.ptr b (i+j.toNat) 0)
  |_=>.bad
 |_,_=>.bad
def zjx(len s:Nat)(H:AHeap):AVal→XR
 |.ptr b i 0=>match H.get b with
  |some (.rows s' es)=>.ok (s=s'∧i+len≤es.length) (.msl b s i len true)
  |_=>.bad
 |_=>.bad
def Xl(s:Nat):Nat→List AVal→List (List AVal)
 |0,_=>[]
 |k+1,l=>l.take s::Xl s k (l.drop s)
def zkg:AVal→AVal→XR
 |.str l,.int _ j=>.ok (0≤j∧j<(l.length:Int)) (.int .u8 ((l.getD j.toNat 0).toNat:Int))
 |_,_=>.bad
def zkj(len s:Nat)(agg:Bool):AVal→AVal→XR
 |.agg cs,.int _ j=>.ok (0≤j∧j<(len:Int)∧(j.toNat * s)+s≤cs.length) (j4 agg s (j.toNat * s) cs)
 |_,_=>.bad
def zqe(k:Nat):AVal→XR
 |.tup cs=>.ok (k<cs.length) (cs.getD k .any)
 |_=>.bad
def zh2:AVal→XR
 |.str l=>.ok True (.int .i64 (l.length:Int))
 |_=>.bad
def zfx:AVal→XR
 |.isl _ es _=>.ok True (.int .i64 (es.length:Int))
 |.msl _ _ _ len _=>.ok True (.int .i64 (len:Int))
 |.val (.slice none 0 0)=>.ok True (.int .i64 0)
 |_=>.bad
def z52:AVal→XR
 |.iptr s es i o=>.ok True (.iptr s es i o)
 |.ptr b i o=>.ok True (.ptr b i o)
 |.fn (.func f) a c=>.ok True (.fn (.func f) a c)
 |_=>.bad
def w5(e:Env)(dflt:Nat):Option LOpd→Option Int
 |none=>some dflt
 |some x=>match x.ev e with
  |.int _ j=>some j
  |_=>none
def z7k(e:Env):Option LOpd→Option (Option Int)
 |none=>none
 |some m=>some (w5 e 0 (some m))
def Qb(e:Env):Option LOpd→Prop
 |none=>True
 |some x=>x.need e
def z9n(lo hi:Nat→Option Int):AVal→XR
 |.str l=>match lo 0,hi l.length with
  |some a,some b=>.ok (0≤a∧a≤b∧b≤(l.length:Int)) (.str ((l.take b.toNat).drop a.toNat))
  |_,_=>.bad
 |_=>.bad
def zlm(s:Nat)(lo hi:Nat→Option Int)(mx:Option (Option Int)):AVal→XR
 |.isl s' es f=>match lo 0,hi es.length,mx with
  |some a,some b,none=>.ok (s=s'∧0≤a∧a≤b∧b≤(es.length:Int)) (.isl s' ((es.take b.toNat).drop a.toNat) (f&&decide (b=(es.length:Int))))
  |some a,some b,some (some m)=>.ok (s=s'∧0≤a∧a≤b∧b≤m∧m≤(es.length:Int)) (.isl s' ((es.take b.toNat).drop a.toNat) (decide (m=b)))
  |_,_,_=>.bad
 |.msl id s' off len f=>match lo 0,hi len,mx with
  |some a,some b,none=>.ok (s=s'∧0≤a∧a≤b∧b≤(len:Int)) (.msl id s' (off+a.toNat) (b.toNat-a.toNat) (f&&decide (b=(len:Int))))
  |some a,some b,some (some m)=>.ok (s=s'∧0≤a∧a≤b∧b≤m∧m≤(len:Int)) (.msl id s' (off+a.toNat) (b.toNat-a.toNat) (decide (m=b)))
  |_,_,_=>.bad
 |.val (.slice none 0 0)=>match lo 0,hi 0,mx with
  |some a,some b,none=>.ok (a=0∧b=0) (.val (.slice none 0 0))
  |_,_,_=>.bad
 |_=>.bad
def zs1(s:Nat)(lo hi:Nat→Option Int)(mx:Option (Option Int))(keep:Bool):AVal→XR
 |.osl tok s' es=>match keep with
  |true=>match lo 0 with
   |some a=>.ok (s=s'∧0≤a∧a≤(es.length:Int)) (.osl tok s' (es.drop a.toNat))
   |none=>.bad
  |false=>zlm s lo hi mx (.isl s' es false)
 |x=>zlm s lo hi mx x
def zn5:Bool→AVal→AVal→AVal
 |true,a,_=>a
 |false,_,b=>b
def zjw(na nb:Prop):AVal→AVal→AVal→XR
 |.bool c,a,b=>.ok ((c=true→na)∧(c=false→nb)) (zn5 c a b)
 |_,_,_=>.bad
def vn(r:List AVal)(off:Nat)(cs:List AVal):List AVal:=r.take off++cs++r.drop (off+cs.length)
def Qe(cells:List AVal):List (Nat×Nat×AVal)→XR
 |[]=>.ok True (.agg cells)
 |(off,n,x)::r=>match x.cells? with
  |some cs=>match Qe (vn cells off cs) r with
   |.ok side v=>.ok (cs.length=n∧off+n≤cells.length∧side) v
   |.bad=>.bad
  |none=>.bad
def k7(e:Env):List (Nat×Nat×LOpd)→List (Nat×Nat×AVal)
 |[]=>[]
 |(o,n,x)::r=>(o,n,x.ev e)::k7 e r
def vd(e:Env):List (Nat×Nat×LOpd)→Prop
 |[]=>True
 |(_,_,x)::r=>x.need e∧vd e r
def zjm(isMax:Bool):AVal→List AVal→XR
 |v,[]=>.ok True v
 |.int k a,.int k' b::r=>match zjm isMax (.int k (if isMax then(if b > a then b else a) else(if b<a then b else a))) r with
  |.ok s v=>.ok (k=k'∧s) v
  |.bad=>.bad
 |_,_=>.bad
def zli(isMax:Bool):List AVal→XR
 |.int k a::r=>zjm isMax (.int k a) r
 |_=>.bad
def w7:AVal→List AVal
 |.agg cs=>cs
 |x=>[x]
def ul:AVal→Bool
 |.agg _=>true
 |_=>false
def J5(ks:List CK)(ka:Bool)(k:AVal):Bool:=(match ka,ul k with|true,true=>true|false,false=>true|_,_=>false)&&(qc ks (w7 k) (w7 k)).isSome
def Y6(ks:List CK)(k k':AVal):Option Bool:=match ul k,ul k' with
 |true,true=>qc ks (w7 k) (w7 k')
 |false,false=>qc ks (w7 k) (w7 k')
 |_,_=>none
def Yg(ks:List CK)(k:AVal):List (AVal×AVal)→Option (Option AVal)
 |[]=>some none
 |(k',x)::r=>match Y6 ks k k' with
  |some true=>some (some x)
  |some false=>Yg ks k r
  |none=>none
def zc0(ks:List CK)(k x:AVal):List (AVal×AVal)→Option (List (AVal×AVal))
 |[]=>some [(k,x)]
 |(k',y)::r=>match Y6 ks k k' with
  |some true=>some ((k,x)::r)
  |some false=>(zc0 ks k x r).map ((k',y)::·)
  |none=>none
def z85(ks:List CK)(k:AVal):List (AVal×AVal)→Option (List (AVal×AVal))
 |[]=>some []
 |(k',y)::r=>match Y6 ks k k' with
  |some true=>some r
  |some false=>(z85 ks k r).map ((k',y)::·)
  |none=>none
def z2s(g:Bool)(zs:List AVal):AVal:=if g then .agg (wg zs zs) else Qg (zs.getD 0 .any) (zs.getD 0 .any)
def zj2(g ok:Bool)(zs:List AVal)(r:Option AVal):AVal:=
 let v:=r.getD (z2s g zs)
 if ok then .tup [v,.bool r.isSome] else v
def zri(g:Bool)(zs:List AVal)(x:AVal):Option AVal:=match g,x.imm with
 |true,some (.agg cs)=>some (.agg (wg zs cs))
 |false,some y=>(match y with|.agg _=>none|.tup _=>none|y=>some (Qg (zs.getD 0 .any) y))
 |false,none=>(match x with|.map b=>some (.map b)|.ptr b i off=>some (.ptr b i off)|.msl b s off len f=>some (.msl b s off len f)|_=>none)
 |_,_=>none
def z4z(ks:List CK)(ka g ok:Bool)(zs:List AVal)(H:AHeap)(k:AVal):AVal→XR
 |.val (.map none)=>if J5 ks ka k then .ok True (zj2 g ok zs none) else .bad
 |.map b=>match H.get b with
  |some (.amap es)=>if J5 ks ka k then .ok ((Yg ks k es).isSome=true) (zj2 g ok zs ((Yg ks k es).getD none)) else .bad
  |_=>.bad
 |_=>.bad
def zfp(H:AHeap):AVal→XR
 |.val (.map none)=>.ok True (.int .i64 0)
 |.map b=>match H.get b with
  |some (.amap es)=>.ok True (.int .i64 (es.length:Int))
  |_=>.bad
 |_=>.bad
def XR.and(p:Prop):XR→XR
 |.ok s v=>.ok (p∧s) v
 |.bad=>.bad
def wi(e:Env)(H:AHeap):LOp→XR
 |.mv x=>.ok (x.need e) (x.ev e)
 |.pick c a b=>(zjw (a.need e) (b.need e) (c.ev e) (a.ev e) (b.ev e)).and (c.need e)
 |.build zs parts=>(Qe zs (k7 e parts)).and (vd e parts)
 |.load g n a=>(z7z g n H (a.ev e)).and (a.need e)
 |.nilck x=>(z52 (x.ev e)).and (x.need e)
 |.bin op x y=>(zs0 op (x.ev e) (y.ev e)).and (x.need e∧y.need e)
 |.eq neg k x y=>(xeq neg k (x.ev e) (y.ev e)).and (x.need e∧y.need e)
 |.un op x=>(xun op (x.ev e)).and (x.need e)
 |.conv (.int k) x=>match x.ev e with
  |.int _ n=>.ok (x.need e) (.int k (k.wrap n))
  |_=>.bad
 |.conv .same x=>match x.ev e with
  |.str l=>.ok (x.need e) (.str l)
  |_=>.bad
 |.mkfn f a c=>.ok (J2 e a∧J2 e c) (.fn f (evs e a) (evs e c))
 |.slStr x lo hi=>(z9n (fun d=>w5 e d lo) (fun d=>w5 e d hi) (x.ev e)).and (x.need e∧Qb e lo∧Qb e hi)
 |.slSl s x lo hi mx=>(zs1 s (fun d=>w5 e d lo) (fun d=>w5 e d hi) (z7k e mx) (hi.isNone&&mx.isNone) (x.ev e)).and (x.need e∧Qb e lo∧Qb e hi∧Qb e mx)
 |.slAr n s x=>(zjx n s H (x.ev e)).and (x.need e)
 |.faddr off x=>(z5n off (x.ev e)).and (x.need e)
 |.field g n off x=>(z3u g n off (x.ev e)).and (x.need e)
 |.iaddr s x i=>(z5p s (x.ev e).rd (i.ev e)).and (x.need e∧i.need e)
 |.iaddrA n s x i=>(z2q n s (x.ev e) (i.ev e)).and (x.need e∧i.need e)
 |.iaddrR n s x i=>(Kw n s H (x.ev e) (i.ev e)).and (x.need e∧i.need e)
 |.idxS x i=>(zkg (x.ev e) (i.ev e)).and (x.need e∧i.need e)
 |.idxA n s g x i=>(zkj n s g (x.ev e) (i.ev e)).and (x.need e∧i.need e)
 |.ext k x=>(zqe k (x.ev e)).and (x.need e)
 |.len true x=>(zh2 (x.ev e)).and (x.need e)
 |.len false x=>(zfx (x.ev e).rd).and (x.need e)
 |.mnx m args=>(zli m (evs e args)).and (J2 e args)
 |.mlook ks ka g ok zs x k=>(z4z ks ka g ok zs H (k.ev e) (x.ev e)).and (x.need e∧k.need e)
 |.mlen x=>(zfp H (x.ev e)).and (x.need e)
 |_=>.bad
end Go.Fx
