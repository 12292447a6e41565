/-
  Own framework.
-/
import Derived.Calls
import Derived.Deep.Quiet
import Derived.Laws.World
import Derived.Laws.Sem
import Derived.Laws.Strings
import Derived.Laws.StructEq
import Derived.MapKept
import Derived.Laws.BytesString
import Derived.RangeFuncSeq
set_option linter.unusedVariables false
set_option linter.unusedSimpArgs false
open Array renaming getElem?_eq_none→pA,getElem?_eq_getElem→pB,getElem?_toList→pF,toList_map→pR
open Bool renaming false_eq_true→p7,and_eq_true→pC
open Go.Instr renaming sliceBounds→pJ,indexAt→pO,sliceAt→pP,sureAddr→pX,checkKey→pZ
open List renaming getElem?_eq_getElem→p4,getElem?_eq_none→p9,getD_eq_getElem?_getD→pD,length_eq_one_iff→pE,getElem?_take_of_lt→pG,getElem?_drop→pH,range→pI,getD_cons_zero→pQ,getElem?_map→pU,getElem?_cons_zero→pW
open Nat renaming le_refl→p6,lt_or_ge→p8,add_assoc→pK,add_mul→pL,mul_le_mul_right→pN,lt_of_lt_of_le→pS,add_zero→pY
open Option renaming map_eq_some_iff→p3,map_some→pM
open Option.some renaming injEq→p0
open Prod.mk renaming injEq→pT
open Go.Result renaming andThen_ok→p1
open Go.Sem renaming run_bind→p2,run_pure→p5
open Go.World renaming cell?→pV
namespace Go.Fx
abbrev Id:=Nat×Nat
inductive AVal where
 |any
 |bool (b:Bool)
 |int (k:IntKind) (n:Int)
 |str (l:List UInt8)
 |val (v:Value)
 |agg (cs:List AVal)
 |tup (cs:List AVal)
 |isl (s:Nat) (es:List (List AVal)) (full:Bool)
 |iptr (s:Nat) (es:List (List AVal)) (i off:Nat)
 |osl (tok:Id) (s:Nat) (es:List (List AVal))
 |ptr (b:Id) (i off:Nat)
 |msl (b:Id) (s off len:Nat) (full:Bool)
 |map (b:Id)
 |optp (b:Id)
 |fn (f:Fn) (first caps:List AVal)
 |ifc (t:TypeId) (v:AVal)
 |cnd (p:Bool) (x:AVal)
instance:Inhabited AVal:=⟨.any⟩
inductive ABlock where
 |rows (s:Nat) (es:List (List AVal))
 |one (cs:List AVal)
 |amap (es:List (AVal×AVal))
 |tok
 |bld (T:TypeId) (g:Id)
 |buf (e:TypeId) (bs:List UInt8)
 |lrec (l:Nat) (r:Loop) (e:List (Nat×AVal))
 |rmap (es:List (AVal×AVal)) (arr:Array MapEntry) (ck:Nat)
 |itr (m:Option Id) (arr:Array MapEntry) (ck:Nat) (seen:List Nat)
 |mbox (b:Id)
abbrev Env:=List (Nat×AVal)
abbrev AHeap:=List (Id×ABlock)
def Env.get:Env→Nat→AVal
 |[],_=>.any
 |(k,v)::r,t=>if k=t then v else Env.get r t
def Env.put(e:Env)(d:Option Nat)(v:AVal):Env:=
 match d with
 |some d=>(d,v)::e
 |none=>e
def AHeap.get:AHeap→Id→Option ABlock
 |[],_=>none
 |(k,v)::r,t=>if k=t then some v else AHeap.get r t
def AHeap.set:AHeap→Id→ABlock→AHeap
 |[],_,_=>[]
 |(k,v)::r,t,b=>if k=t then(k,b)::r else(k,v)::AHeap.set r t b
def AHeap.del:AHeap→Id→AHeap
 |[],_=>[]
 |(k,v)::r,t=>if k=t then AHeap.del r t else(k,v)::AHeap.del r t
inductive LOpd where
 |t (i:Nat)
 |c (v:AVal)
inductive CK where
 |bool|int|str
inductive EqK where
 |bool|ptr|slice|map|func|other|ifc|fnc
 |agg (ks:List CK)
inductive ConvK where
 |int (k:IntKind)|s2b (vm:Bool)|b2s|same
inductive LOp where
 |mv (x:LOpd)
 |pick (c a b:LOpd)
 |alloc (zs:List AVal)
 |allocR (s:Nat) (zs:List AVal)
 |allocB (T e:TypeId)
 |box (x:LOpd)
 |build (zs:List AVal) (parts:List (Nat×Nat×LOpd))
 |mkSl (vm:Bool) (s:Nat) (zs:List AVal) (len:Nat) (parts:List (Nat×LOpd))
 |load (agg:Bool) (n:Nat) (a:LOpd)
 |store (n:Nat) (a x:LOpd)
 |nilck (x:LOpd)
 |bin (op:BinOp) (x y:LOpd)
 |eq (neg:Bool) (k:EqK) (x y:LOpd)
 |un (op:UnOp) (x:LOpd)
 |conv (k:ConvK) (x:LOpd)
 |mkfn (f:Fn) (first caps:List LOpd)
 |mkslice (vm:Bool) (s bytes:Nat) (zs:List AVal) (l c:LOpd)
 |slStr (x:LOpd) (lo hi:Option LOpd)
 |slSl (s:Nat) (x:LOpd) (lo hi mx:Option LOpd)
 |slAr (n s:Nat) (x:LOpd)
 |faddr (off:Nat) (x:LOpd)
 |field (agg:Bool) (n off:Nat) (x:LOpd)
 |iaddr (s:Nat) (x i:LOpd)
 |iaddrA (len s:Nat) (x i:LOpd)
 |iaddrR (len s:Nat) (x i:LOpd)
 |idxS (x i:LOpd)
 |idxA (len s:Nat) (agg:Bool) (x i:LOpd)
 |ext (k:Nat) (x:LOpd)
 |call (f:FuncId) (args:List LOpd)
 |callv (x:LOpd) (args:List LOpd)
 |len (st:Bool) (x:LOpd)
 |app (vm:Bool) (s bytes:Nat) (x y:LOpd)
 |copy (s:Nat) (x y:LOpd)
 |mnx (isMax:Bool) (args:List LOpd)
 |mkmap (r:Option LOpd)
 |mlook (ks:List CK) (ka agg ok:Bool) (zs:List AVal) (x k:LOpd)
 |mset (ks:List CK) (ka agg:Bool) (zs:List AVal) (m k x:LOpd)
 |mdel (ks:List CK) (ka:Bool) (m k:LOpd)
 |mlen (x:LOpd)
 |range (x:LOpd)
 |next (x:LOpd)
 |entry (x:LOpd)
 |bad
structure LOper where
 dst:Option Nat
 op:LOp
 guard:Option (Nat×Bool):=none
def LOpd.tmps:LOpd→List Nat
 |.t i=>[i]
 |.c _=>[]
def z8f:Option LOpd→List Nat
 |none=>[]
 |some x=>x.tmps
def LOp.tmps:LOp→List Nat
 |.mv x=>x.tmps
 |.pick c a b=>c.tmps++a.tmps++b.tmps
 |.alloc _=>[]
 |.allocR _ _=>[]
 |.allocB _ _=>[]
 |.box x=>x.tmps
 |.build _ parts=>parts.flatMap fun p=>p.2.2.tmps
 |.mkSl _ _ _ _ parts=>parts.flatMap fun p=>p.2.tmps
 |.load _ _ a=>a.tmps
 |.store _ a x=>a.tmps++x.tmps
 |.nilck x=>x.tmps
 |.bin _ x y=>x.tmps++y.tmps
 |.eq _ _ x y=>x.tmps++y.tmps
 |.un _ x=>x.tmps
 |.conv _ x=>x.tmps
 |.mkfn _ a c=>a.flatMap LOpd.tmps++c.flatMap LOpd.tmps
 |.mkslice _ _ _ _ l c=>l.tmps++c.tmps
 |.slStr x lo hi=>x.tmps++z8f lo++z8f hi
 |.slSl _ x lo hi mx=>x.tmps++z8f lo++z8f hi++z8f mx
 |.slAr _ _ x=>x.tmps
 |.faddr _ x=>x.tmps
 |.field _ _ _ x=>x.tmps
 |.iaddr _ x i=>x.tmps++i.tmps
 |.iaddrA _ _ x i=>x.tmps++i.tmps
 |.iaddrR _ _ x i=>x.tmps++i.tmps
 |.idxS x i=>x.tmps++i.tmps
 |.idxA _ _ _ x i=>x.tmps++i.tmps
 |.ext _ x=>x.tmps
 |.call _ a=>a.flatMap LOpd.tmps
 |.callv x a=>x.tmps++a.flatMap LOpd.tmps
 |.len _ x=>x.tmps
 |.app _ _ _ x y=>x.tmps++y.tmps
 |.copy _ x y=>x.tmps++y.tmps
 |.mnx _ a=>a.flatMap LOpd.tmps
 |.mkmap r=>z8f r
 |.mlook _ _ _ _ _ x k=>x.tmps++k.tmps
 |.mset _ _ _ _ m k x=>m.tmps++k.tmps++x.tmps
 |.mdel _ _ m k=>m.tmps++k.tmps
 |.mlen x=>x.tmps
 |.range x=>x.tmps
 |.next x=>x.tmps
 |.entry x=>x.tmps
 |.bad=>[]
def LOper.looks(lo:LOper):List Nat:=lo.op.tmps++(match lo.guard with|some (g,_)=>[g]|none=>[])
def kw:LOp→Bool
 |.load .. => true
 |.mlook .. => true
 |.mlen .. => true
 |.iaddrR .. => true
 |.slAr .. => true
 |_=>false
structure DItem where
 lo:LOper
 loose:List Nat
structure Lay where
 n:Nat
 bm:List Nat
 rd:Bool
inductive LCode where
 |skip
 |region (ops:List LOper)
 |quiet (ops:List LOper)
 |draw (items:List DItem)
 |draw2 (a b:LOpd) (items:List DItem)
 |seq (a b:LCode)
 |cond (c:LOpd) (a b:LCode)
 |block (id:Nat) (c:LCode)
 |loop (c:LCode)
 |rng (g:LOpd) (ps:List Nat) (a b:LCode)
 |dfr (f t:Nat)
 |exit (id:Nat)
 |ret
def Yp:Value→AVal
 |.bool b=>.bool b
 |.int k n=>.int k n
 |.string s=>.str s.data.toList
 |v=>.val v
def ye:Operand→Option LOpd
 |.tmp t=>some (.t t)
 |.const (.agg vs)=>if vs.toList.all (fun v=>match v with|.agg _=>false|.tuple _=>false|_=>true) then some (.c (.agg (vs.toList.map Yp))) else none
 |.const (.tuple _)=>none
 |.const v=>some (.c (Yp v))
 |.func f=>some (.c (.fn (.func f) [] []))
 |.global _=>none
def u4:List Operand→Option (List LOpd)
 |[]=>some []
 |x::r=>match ye x,u4 r with
  |some a,some b=>some (a::b)
  |_,_=>none
def js:Option Operand→Option (Option LOpd)
 |none=>some none
 |some x=>(ye x).map some
def zam(P:Program):Nat→TypeId→List (Option Nat)
 |0,_=>[]
 |d+1,t=>match P.underlying t with
  |some (.slice e)=>[(P.info? e).map (·.size)]
  |some (.struct fs)=>(fs.toList.map fun f=>zam P d f.type).flatten
  |some (.array n e)=>(List.replicate n (zam P d e)).flatten
  |_=>[none]
def z7k:List (Option Nat)→List AVal→List AVal
 |some s::ks,.val (.slice none 0 0)::r=>.isl s [] true::z7k ks r
 |_::ks,x::r=>x::z7k ks r
 |[],r=>r
 |_::_,[]=>[]
def xf(P:Program)(t:TypeId):Option (List AVal):=
 match P.info? t with
 |some i=>match i.zero with
  |some (.tuple _)=>none
  |some v=>if v.cells.toList.all (fun x=>match x with|.agg _=>false|.tuple _=>false|_=>true)&&(v.cells.size==i.size) then some (z7k (zam P 12 t) (v.cells.toList.map Yp)) else none
  |none=>none
 |none=>none
def zvu(P:Program)(t:TypeId):Option TypeId:=
 match P.underlying t,P.info? t with
 |some (.struct fs),some i=>match fs.toList,i.zero,xf P t with
  |[f0,f1],some v,some _=>match P.underlying f0.type,P.underlying f1.type,v.cells.toList with
   |some (.pointer u),some (.slice c),[.pointer none,.slice none 0 0]=>match P.underlying c with
    |some (.int .u8)=>if u==t then some c else none
    |_=>none
   |_,_,_=>none
  |_,_,_=>none
 |_,_=>none
def Xb(P:Program)(t:TypeId):Option Bool:=
 match P.underlying t with
 |some (.struct _)=>some true
 |some (.array _ _)=>some true
 |some _=>some false
 |none=>none
def xl(P:Program)(t:TypeId):Option Nat:=(P.info? t).map (·.size)
def Zk(P:Program)(t:TypeId):Option Nat:=(P.info? t).map (·.bytes)
def eqFields(P:Program)(rec:TypeId→Option (List CK)):Nat→List Field→Option (List CK)
 |_,[]=>some []
 |off,f::r=>if f.name=="_" || f.offset != off then none else match rec f.type,Xb P f.type,xl P f.type with
  |some l,some g,some m=>if l.length==m&&(g || m==1) then(eqFields P rec (off+m) r).map (l++·) else none
  |_,_,_=>none
def kf(P:Program):Nat→TypeId→Option (List CK)
 |0,_=>none
 |d+1,t=>match P.underlying t with
  |some .bool=>some [.bool]
  |some (.int _)=>some [.int]
  |some .string=>some [.str]
  |some (.struct fs)=>if P.stoodInHeld t then none else eqFields P (kf P d) 0 fs.toList
  |_=>none
def Yw(P:Program)(t:TypeId):EqK:=
 match P.underlying t with
 |some .bool=>.bool
 |some (.pointer _)=>.ptr
 |some (.slice _)=>.slice
 |some (.map _ _)=>.map
 |some (.func _ _ _)=>.func
 |some (.struct _)=>match kf P 50 t with
  |some ks=>if P.eqGuardType P.depth t then .func else .agg ks
  |none=>.func
 |some (.array _ _)=>.func
 |some (.interface _)=>.func
 |_=>.other
def z14(P:Program)(t:TypeId)(y:Operand):EqK:=
 match y with
 |.const .nilIface=>(match P.underlying t with|some (.interface _)=>.ifc|_=>Yw P t)
 |.const .nilFunc=>(match P.underlying t with|some (.func _ _ _)=>.fnc|_=>Yw P t)
 |_=>Yw P t
def Uk(P:Program)(vm:Bool)(src dst:TypeId):Option ConvK:=
 match P.underlying src,P.underlying dst with
 |some (.int _),some (.int k)=>some (.int k)
 |some .string,some .string=>some .same
 |some .string,some (.slice e)=>match P.underlying e with
  |some (.int .u8)=>some (.s2b vm)
  |_=>none
 |some (.slice e),some .string=>match P.underlying e with
  |some (.int .u8)=>some .b2s
  |_=>none
 |_,_=>none
def Z9(P:Program)(fs:Array Field):List (Nat×Operand)→Option (List (Nat×Nat×LOpd))
 |[]=>some []
 |(i,x)::r=>match fs[i]? with
  |some f=>match xl P f.type,ye x,Z9 P fs r with
   |some n,some a,some l=>some ((f.offset,n,a)::l)
   |_,_,_=>none
  |none=>none
def Z8(s:Nat):List (Nat×Operand)→Option (List (Nat×Nat×LOpd))
 |[]=>some []
 |(i,x)::r=>match ye x,Z8 s r with
  |some a,some l=>some ((i*s,s,a)::l)
  |_,_=>none
def Ze:List (Nat×Operand)→Option (List (Nat×LOpd))
 |[]=>some []
 |(i,x)::r=>match ye x,Ze r with
  |some a,some l=>some ((i,a)::l)
  |_,_=>none
def Wm(P:Program)(vm:Bool)(c:Call):Option LOp:=
 match c.callee with
 |.value (.func f)=>match P.funcs[f]? with
  |some fn=>if fn.body.isSome&&!(fn.name=="runtime.NumGoroutine") then(u4 c.args.toList).map (LOp.call f) else none
  |none=>none
 |.value x=>match ye x,u4 c.args.toList with
  |some a,some l=>some (.callv a l)
  |_,_=>none
 |.invoke _ _=>none
 |.builtin .len=>match c.args.toList,c.argTypes.toList with
  |[x],[t]=>match P.underlying t with
   |some .string=>(ye x).map (LOp.len true)
   |some (.slice _)=>(ye x).map (LOp.len false)
   |some (.map _ _)=>(ye x).map LOp.mlen
   |_=>none
  |_,_=>none
 |.builtin .append=>match c.args.toList,c.argTypes.toList with
  |[x,y],[t,u]=>match P.underlying t,P.underlying u with
   |some (.slice e),some (.slice _)=>match xl P e,Zk P e,ye x,ye y with
    |some s,some b,some x,some y=>if 0<s&&0<b&&(xf P e).isSome then some (.app vm s b x y) else none
    |_,_,_,_=>none
   |some (.slice e),some .string=>match xl P e,Zk P e,ye x,ye y with
    |some s,some b,some x,some y=>if 0<s&&0<b&&(xf P e).isSome then some (.app vm s b x y) else none
    |_,_,_,_=>none
   |_,_=>none
  |_,_=>none
 |.builtin .copy=>match c.args.toList,c.argTypes.toList with
  |[x,y],[t,_]=>match P.underlying t with
   |some (.slice e)=>match xl P e,ye x,ye y with
    |some s,some x,some y=>if 0<s then some (.copy s x y) else none
    |_,_,_=>none
   |_=>none
  |_,_=>none
 |.builtin .delete=>match c.args.toList,c.argTypes.toList with
  |[x,y],[t,_]=>match P.underlying t with
   |some (.map kt _)=>match kf P 50 kt,Xb P kt,ye x,ye y with
    |some ks,some ka,some x,some y=>some (.mdel ks ka x y)
    |_,_,_,_=>none
   |_=>none
  |_,_=>none
 |.builtin .max=>(u4 c.args.toList).map (LOp.mnx true)
 |.builtin .min=>(u4 c.args.toList).map (LOp.mnx false)
 |.builtin _=>none
def z33(P:Program)(t:TypeId):Option Bool:=match P.info? t with
 |some i=>match i.zero with
  |some (.agg _)=>some true
  |some _=>some false
  |none=>none
 |none=>none
def Ve(P:Program)(t:TypeId)(m k x:Operand):Option LOp:=match P.underlying t with
 |some (.map kt et)=>match kf P 50 kt,Xb P kt,Xb P et,xf P et with
  |some ks,some ka,some g,some zs=>if g || zs.length==1 then(match ye m,ye k,ye x with
   |some m,some k,some x=>some (.mset ks ka g zs m k x)
   |_,_,_=>none) else none
  |_,_,_,_=>none
 |_=>none
def zvi(P:Program)(t:TypeId):Bool:=match P.info? t with
 |some i=>match i.zero with
  |some (.slice none 0 0)=>true
  |_=>false
 |none=>false
def ql(P:Program)(vm:Bool):Op→Option LOp
 |.move x=>(ye x).map .mv
 |.assign x=>(ye x).map .mv
 |.pick c a b=>match ye c,ye a,ye b with
  |some c,some a,some b=>some (.pick c a b)
  |_,_,_=>none
 |.alloc e=>match vm,P.underlying e with
  |false,some (.array _ c)=>match xf P e,xl P c with
   |some z,some s=>if 0<s&&z.length % s==0 then some (.allocR s z) else none
   |_,_=>none
  |false,some (.struct _)=>match zvu P e,xf P e with
   |some c,_=>some (.allocB e c)
   |none,some z=>some (.alloc z)
   |none,none=>none
  |_,_=>(xf P e).map .alloc
 |.box _ x=>(ye x).map .box
 |.build t parts=>match P.underlying t with
  |some (.struct fs)=>match xf P t,Z9 P fs parts.toList with
   |some z,some l=>if fs.toList.all (fun f=>(xl P f.type).isSome) then some (.build z l) else none
   |_,_=>none
  |some (.array _ e)=>match xf P t,xl P e with
   |some z,some s=>(Z8 s parts.toList).map (.build z)
   |_,_=>none
  |_=>none
 |.buildSlice t len parts=>match P.underlying t with
  |some (.slice e)=>match xf P e,xl P e,Ze parts.toList with
   |some z,some s,some l=>if 0<s&&len*s≤16777216 then some (.mkSl vm s z len l) else none
   |_,_,_=>none
  |_=>none
 |.load t a=>match Xb P t,xl P t,ye a with
  |some g,some n,some a=>if g || n==1 then some (.load g n a) else none
  |_,_,_=>none
 |.store t a x=>match xl P t,ye a,ye x with
  |some n,some a,some x=>some (.store n a x)
  |_,_,_=>none
 |.nilCheck x=>(ye x).map .nilck
 |.binOp op t x y _=>match ye x,ye y with
  |some a,some b=>match op,z14 P t y with
   |.eql,.other=>some (.bin .eql a b)
   |.neq,.other=>some (.bin .neq a b)
   |.eql,k=>some (.eq false k a b)
   |.neq,k=>some (.eq true k a b)
   |op,_=>some (.bin op a b)
  |_,_=>none
 |.unOp op _ x=>(ye x).map (.un op)
 |.convert s d x=>match Uk P vm s d,ye x with
  |some k,some a=>some (.conv k a)
  |_,_=>none
 |.makeFunc f first caps=>match u4 first.toList,u4 caps.toList with
  |some a,some b=>some (.mkfn f a b)
  |_,_=>none
 |.makeSlice t l c=>match P.underlying t with
  |some (.slice e)=>match xf P e,xl P e,Zk P e,ye l,ye c with
   |some z,some s,some b,some l,some c=>if 0<s&&0<b then some (.mkslice vm s b z l c) else none
   |_,_,_,_,_=>none
  |_=>none
 |.slice t x lo hi mx=>match ye x,js lo,js hi,js mx with
  |some x,some lo,some hi,some mx=>match P.underlying t,mx with
   |some .string,none=>some (.slStr x lo hi)
   |some (.slice e),mx=>if mx.isSome&&hi.isNone then none else(xl P e).map fun s=>.slSl s x lo hi mx
   |some (.array n e),none=>if lo.isNone&&hi.isNone then(xl P e).map fun s=>.slAr n s x else none
   |_,_=>none
  |_,_,_,_=>none
 |.fieldAddr t x i=>match P.underlying t with
  |some (.struct fs)=>match fs[i]? with
   |some f=>match xl P f.type,ye x with
    |some n,some a=>if n==0 then none else some (.faddr f.offset a)
    |_,_=>none
   |none=>none
  |_=>none
 |.field t x i=>match P.underlying t with
  |some (.struct fs)=>match fs[i]? with
   |some f=>match Xb P f.type,xl P f.type,ye x with
    |some g,some n,some a=>if g || n==1 then some (.field g n f.offset a) else none
    |_,_,_=>none
   |none=>none
  |_=>none
 |.indexAddr t x i=>match P.underlying t,ye x,ye i with
  |some (.slice e),some x,some i=>(xl P e).map fun s=>.iaddr s x i
  |some (.array n e),some x,some i=>(xl P e).map fun s=>if vm then .iaddrA n s x i else .iaddrR n s x i
  |_,_,_=>none
 |.index t x i=>match P.underlying t,ye x,ye i with
  |some .string,some x,some i=>some (.idxS x i)
  |some (.array n e),some x,some i=>match Xb P e,xl P e with
   |some g,some s=>if g || s==1 then some (.idxA n s g x i) else none
   |_,_=>none
  |_,_,_=>none
 |.extract x k=>(ye x).map (.ext k)
 |.makeMap _ r=>match r with
  |none=>some (.mkmap none)
  |some _=>none
 |.lookup t x i ok=>match P.underlying t with
  |some (.map kt et)=>match kf P 50 kt,Xb P kt,Xb P et,xf P et,z33 P et,ye x,ye i with
   |some ks,some ka,some g,some zs,some zg,some x,some i=>if zg==g&&(g || zs.length==1) then some (.mlook ks ka g ok (if !vm&&!g&&zvi P et then [.val (.slice none 0 0)] else zs) x i) else none
   |_,_,_,_,_,_,_=>none
  |_=>none
 |.mapUpdate t m k x=>Ve P t m k x
 |.insert t m k x=>Ve P t m k x
 |.range t x=>match P.underlying t with
  |some (.map _ _)=>(ye x).map .range
  |_=>none
 |.next x s=>match s with
  |false=>(ye x).map .next
  |true=>none
 |.entry x=>(ye x).map .entry
 |.call c=>Wm P vm c
 |_=>none
def Lay.vm(N:Lay)(d:Option Nat):Bool:=match d with
 |some d=>!N.bm.contains d
 |none=>true
def Zd(P:Program)(N:Lay)(ops:Array Oper)(o:Oper):Option LOper:=
 match (match o.dst with|some d=>decide (d<N.n)|none=>true),o.guard with
 |false,_=>none
 |true,none=>some { dst:=o.dst,op:=(ql P (N.vm o.dst) o.op).getD .bad }
 |true,some (j,want)=>match (ops[j]?).bind (·.dst) with
  |some g=>if g<N.n then some { dst:=o.dst,op:=(ql P (N.vm o.dst) o.op).getD .bad,guard:=some (g,want) } else none
  |none=>none
def Xk(P:Program)(N:Lay)(ops:Array Oper):List Oper→Option (List LOper)
 |[]=>some []
 |o::r=>match Zd P N ops o,Xk P N ops r with
  |some a,some l=>some (a::l)
  |_,_=>none
def xy:LOp→Bool
 |.alloc _|.allocR ..|.allocB ..|.box _|.mkSl ..|.store ..|.conv (.s2b _) _|.conv .b2s _|.mkslice ..|.call ..|.callv ..|.app ..|.copy ..|.mkmap _|.mset ..|.mdel ..|.range _|.next _|.entry _|.bad=>false
 |_=>true
def ki(ops:Array Oper)(j:Nat):List Nat:=match ops[j]? with
 |some o=>(o.after.toList.filter (Region.binds .any)).map (·.on)
 |none=>[]
def z3w(acc:List (Nat×List Nat))(j:Nat):List Nat:=match acc.find? (fun x=>x.1==j) with
 |some x=>x.2
 |none=>[]
def zf2(l:LOper):Bool:=match l.op,l.guard,l.dst with
 |.alloc _,none,some _=>true
 |_,_,_=>false
def z1d(l:LOper):Bool:=match l.op with
 |.mkSl true _ _ _ _=>true
 |_=>false
def z7r(l:LOper):Bool:=match l.op,l.guard,l.dst with
 |.store _ _ _,none,none=>true
 |_,_,_=>false
def z70(ops:Array Oper)(los:List LOper):Nat→List (Nat×List Nat)→List (Nat×List Nat)
 |0,acc=>acc
 |fuel+1,acc=>
  let ready:=(pI ops.size).filter fun j=>!(acc.any fun x=>x.1==j)&&(ki ops j).all fun d=>acc.any fun x=>x.1==d
  let pick:=match ready.find? (fun j=>xy (los.getD j ⟨none,.bad,none⟩).op) with
   |some j=>some j
   |none=>match ready.find? (fun j=>z1d (los.getD j ⟨none,.bad,none⟩)) with
    |some j=>some j
    |none=>match ready.find? (fun j=>!zf2 (los.getD j ⟨none,.bad,none⟩)) with
     |some j=>some j
     |none=>ready.head?
  match pick with
  |some j=>z70 ops los fuel (acc++[(j,(ki ops j++(ki ops j).flatMap (z3w acc)).eraseDups)])
  |none=>acc
def jm:LOper:=⟨none,.bad,none⟩
def z3j(sw:Bool)(m:Nat)(los:List LOper)(i j:Nat)(pre:List Nat)(loose:List Nat)(p:Nat):Bool:=
 let li:=los.getD i jm
 let lj:=los.getD j jm
 let fr:=pre.contains i
 !(i==j)&&(fr || (match lj.dst with|some d=>!li.looks.contains d|none=>true))&&(fr || (match li.dst with|some d=>!lj.looks.contains d|none=>true)) &&
 (match li.dst,lj.dst with|some a,some b=>!(a==b)|_,_=>true)&&(xy li.op || z1d li || fr || zf2 lj || (sw&&Nat.beq (p+2) m&&z7r li&&z7r lj))&&(xy lj.op || z1d lj || !kw li.op || fr || loose.contains p)
def zhe(sw:Bool)(ops:Array Oper)(los:List LOper)(acc:List (Nat×List Nat))(loose:List (List Nat)):Bool:=
 acc.length==ops.size&&los.length==ops.size&&(pI ops.size).all (fun i=>acc.any fun x=>x.1==i)&&(acc.map (·.1)).all (fun i=>decide (i<ops.size)) &&
 (pI ops.size).all (fun p=>(ki ops (acc.getD p (0,[])).1).all fun d=>(acc.take p).any fun x=>x.1==d) &&
 (pI ops.size).all (fun p=>(z3w acc (acc.getD p (0,[])).1).all fun i=>(ki ops (acc.getD p (0,[])).1).contains i || (ki ops (acc.getD p (0,[])).1).any fun d=>(z3w acc d).contains i) &&
 (!sw || (pI ops.size).all (fun x=>!(Nat.ble (x+3) ops.size&&kw (los.getD (acc.getD x (0,[])).1 jm).op) || ((z3w acc (acc.getD (ops.size-1) (0,[])).1).contains (acc.getD x (0,[])).1&&(z3w acc (acc.getD (ops.size-2) (0,[])).1).contains (acc.getD x (0,[])).1))) &&
 (pI ops.size).all (fun q=>(pI q).all fun p=>z3j sw ops.size los (acc.getD p (0,[])).1 (acc.getD q (0,[])).1 (z3w acc (acc.getD q (0,[])).1) (loose.getD q []) p)
def z4r(los:List LOper)(acc:List (Nat×List Nat)):List (List Nat):=
 (pI acc.length).map fun q=>if xy (los.getD (acc.getD q (0,[])).1 jm).op || z1d (los.getD (acc.getD q (0,[])).1 jm) then [] else(pI q).filter fun p=>kw (los.getD (acc.getD p (0,[])).1 jm).op&&!(z3w acc (acc.getD q (0,[])).1).contains (acc.getD p (0,[])).1
def Qr(sw:Bool)(ops:Array Oper)(los:List LOper):Option (List DItem):=
 let acc:=z70 ops los ops.size []
 let loose:=z4r los acc
 if zhe sw ops los acc loose then some ((pI acc.length).map fun p=>⟨los.getD (acc.getD p (0,[])).1 jm,loose.getD p []⟩) else none
def V2(ops:Array Oper)(los:List LOper):Option LCode:=
 match Qr true ops los with
 |some items=>match items[ops.size-2]?,items[ops.size-1]? with
  |some i1,some i2=>match i1.lo.op,i2.lo.op with
   |.store _ a _,.store _ b _=>if Nat.ble 2 ops.size then some (.draw2 a b items) else none
   |_,_=>none
  |_,_=>none
 |none=>none
def K9(ops:Array Oper)(los:List LOper):Option LCode:=
 match Qr false ops los with
 |some items=>some (.draw items)
 |none=>V2 ops los
def Xc:Code→Bool
 |.seq a b=>Xc a || Xc b
 |.cond _ a b=>Xc a || Xc b
 |.block _ c=>Xc c
 |.loop c=>Xc c
 |.rangeFunc _ _ _ _=>true
 |_=>false
def zjm(N:Lay):Lay:=⟨N.n,N.bm,true⟩
def zju(N:Lay)(draw:Bool)(ops:Array Oper):Option (Nat×Nat):=
 match N.rd,draw,ops.toList with
 |false,false,[o1,o2]=>match o1.dst,o1.op,o1.guard,o2.dst,o2.op,o2.guard with
  |some t,.makeFunc (.func f) fs _,none,none,.defer c,none=>match c.callee with
   |.value (.tmp t')=>if fs.size==0&&c.args.size==0&&t'==t&&Nat.blt t N.n then some (f,t) else none
   |_=>none
  |_,_,_,_,_,_=>none
 |_,_,_=>none
def zj(P:Program)(N:Lay):Code→Option LCode
 |.skip=>some .skip
 |.region _ ops draw=>match zju N draw ops with
  |some x=>some (.dfr x.1 x.2)
  |none=>match Xk P N ops ops.toList with
  |some los=>if draw then(if P.follows .mixedOrders then(if !N.rd&&(Region.lexB .any ops&&los.all (fun l=>xy l.op)) then some (.quiet los) else K9 ops los) else none) else some (.region los)
  |none=>none
 |.seq a b=>match zj P N a,zj P N b with
  |some a,some b=>some (.seq a b)
  |_,_=>none
 |.cond c a b=>match ye c,zj P N a,zj P N b with
  |some c,some a,some b=>some (.cond c a b)
  |_,_,_=>none
 |.block id c=>(zj P N c).map (.block id)
 |.loop c=>(zj P N c).map .loop
 |.rangeFunc g ps a b=>match N.rd,ye g,zj P (zjm N) a,zj P (zjm N) b with
  |false,some g,some a,some b=>some (.rng g ps.toList a b)
  |_,_,_,_=>none
 |.exit id=>some (.exit id)
 |.ret=>some .ret
 |_=>none
inductive LRes where
 |t (i:Nat)
 |cell (i:Nat) (agg:Bool) (n:Nat)
structure LFn where
 nargs:Nat
 lay:Lay
 body:LCode
 res:List LRes
def z09(P:Program):List ResultVar→Option (List LRes)
 |[]=>some []
 |.tmp t::r=>(z09 P r).map (.t t::·)
 |.cell a t::r=>match Xb P t,xl P t,z09 P r with
  |some g,some n,some l=>if g || n==1 then some (.cell a g n::l) else none
  |_,_,_=>none
def w4(P:Program)(bm:List Nat)(f:FuncId):Option LFn:=
 match P.funcs[f]? with
 |some fn=>match fn.body with
  |some c=>match zj P ⟨fn.ntmps,bm,false⟩ c,z09 P fn.results.toList with
   |some lc,some r=>some { nargs:=fn.params.size+fn.nfree,lay:=⟨fn.ntmps,bm,false⟩,body:=lc,res:=r }
   |_,_=>none
  |none=>none
 |none=>none
def AVal.strip:AVal→AVal
 |.cnd _ x=>x
 |x=>x
def AVal.rd:AVal→AVal
 |.osl _ s es=>.isl s es false
 |x=>x
def AVal.imm:AVal→Option AVal
 |.bool b=>some (.bool b)
 |.int k n=>some (.int k n)
 |.str l=>some (.str l)
 |.val v=>some (.val v)
 |.isl s es f=>some (.isl s es f)
 |.iptr s es i off=>some (.iptr s es i off)
 |.osl _ s es=>some (.isl s es false)
 |.agg cs=>(immL cs).map .agg
 |.tup cs=>(immL cs).map .tup
 |.fn f a c=>match immL a,immL c with
  |some a,some c=>some (.fn f a c)
  |_,_=>none
 |.ifc t v=>v.imm.map (.ifc t)
 |_=>none
where immL:List AVal→Option (List AVal)
 |[]=>some []
 |x::r=>match x.imm,immL r with
  |some y,some l=>some (y::l)
  |_,_=>none
def wq:List (List AVal)→Option (List (List AVal))
 |[]=>some []
 |r::rs=>match AVal.imm.immL r,wq rs with
  |some y,some l=>some (y::l)
  |_,_=>none
def Yy:AVal→AVal→AVal
 |.isl s _ _,.val (.slice none 0 0)=>.isl s [] false
 |.isl _ _ _,.isl s es _=>.isl s es false
 |_,x=>x
def xz:List AVal→List AVal→List AVal
 |z::zs,x::r=>Yy z x::xz zs r
 |[],r=>r
 |_::_,[]=>[]
def AVal.need:AVal→Prop
 |.cnd p _=>p=true
 |_=>True
def LOpd.ev(e:Env):LOpd→AVal
 |.t i=>(e.get i).strip
 |.c v=>v
def LOpd.need(e:Env):LOpd→Prop
 |.t i=>(e.get i).need
 |.c _=>True
def evs(e:Env):List LOpd→List AVal
 |[]=>[]
 |x::r=>x.ev e::evs e r
def Q3(e:Env):List LOpd→Prop
 |[]=>True
 |x::r=>x.need e∧Q3 e r
def AVal.cells?:AVal→Option (List AVal)
 |.any=>none
 |.cnd _ _=>none
 |.agg cs=>some cs
 |.tup _=>none
 |.val (.agg _)=>none
 |.val (.tuple _)=>none
 |x=>some [x]
inductive XR where
 |ok (side:Prop) (v:AVal)
 |bad
def Xz(op:BinOp)(k:IntKind)(x y:Int):Int:=
 let a:=BitVec.ofInt k.bits x
 let b:=BitVec.ofInt k.bits y
 match op with
 |.and=>k.wrap (a &&& b).toNat
 |.or=>k.wrap (a ||| b).toNat
 |.xor=>k.wrap (a ^^^ b).toNat
 |_=>k.wrap (a &&& ~~~b).toNat
def zi8(op:BinOp):AVal→AVal→XR
 |.int k a,.int k' b=>match op with
  |.add=>.ok (k=k') (.int k (k.wrap (a+b)))
  |.sub=>.ok (k=k') (.int k (k.wrap (a-b)))
  |.mul=>.ok (k=k') (.int k (k.wrap (a*b)))
  |.quo=>.ok (k=k'∧b≠0) (.int k (k.wrap (a.tdiv b)))
  |.rem=>.ok (k=k'∧b≠0) (.int k (a.tmod b))
  |.and=>.ok (k=k') (.int k (Xz .and k a b))
  |.or=>.ok (k=k') (.int k (Xz .or k a b))
  |.xor=>.ok (k=k') (.int k (Xz .xor k a b))
  |.andNot=>.ok (k=k') (.int k (Xz .andNot k a b))
  |.shl=>.ok (0≤b) (.int k (k.wrap (a*2 ^ (min b.toNat k.bits))))
  |.shr=>.ok (0≤b) (.int k (a.fdiv (2 ^ (min b.toNat k.bits))))
  |.eql=>.ok (k=k') (.bool (a==b))
  |.neq=>.ok (k=k') (.bool (a != b))
  |.lss=>.ok (k=k') (.bool (decide (a<b)))
  |.leq=>.ok (k=k') (.bool (decide (a≤b)))
  |.gtr=>.ok (k=k') (.bool (decide (a > b)))
  |.geq=>.ok (k=k') (.bool (decide (a≥b)))
 |.str a,.str b=>match op with
  |.add=>.ok (((a.length+b.length:Nat):Int)≤9223372036854775807) (.str (a++b))
  |.eql=>.ok True (.bool (a==b))
  |.neq=>.ok True (.bool (!(a==b)))
  |.lss=>.ok True (.bool (Op.bytesLess a b))
  |.leq=>.ok True (.bool (Op.bytesLess a b || a==b))
  |.gtr=>.ok True (.bool (!(Op.bytesLess a b || a==b)))
  |.geq=>.ok True (.bool (!(Op.bytesLess a b)))
  |_=>.bad
 |_,_=>.bad
def xun(op:UnOp):AVal→XR
 |.bool b=>match op with
  |.not=>.ok True (.bool (!b))
  |_=>.bad
 |.int k n=>match op with
  |.neg=>.ok True (.int k (k.wrap (0-n)))
  |.xor=>.ok True (.int k (Xz .xor k (if k.signed then -1 else k.max) n))
  |_=>.bad
 |_=>.bad
def zmx:AVal→AVal→XR
 |.val (.pointer none),.val (.pointer none)=>.ok True (.bool true)
 |.val (.pointer none),.ptr _ _ _=>.ok True (.bool false)
 |.ptr _ _ _,.val (.pointer none)=>.ok True (.bool false)
 |.val (.pointer none),.iptr _ _ _ _=>.ok True (.bool false)
 |.iptr _ _ _ _,.val (.pointer none)=>.ok True (.bool false)
 |_,_=>.bad
def Wo:AVal→AVal→XR
 |.val (.slice none 0 0),.val (.slice none 0 0)=>.ok True (.bool true)
 |.val (.slice none 0 0),.msl _ _ _ len _=>.ok (len≠0) (.bool false)
 |.msl _ _ _ len _,.val (.slice none 0 0)=>.ok (len≠0) (.bool false)
 |.val (.slice none 0 0),.isl _ es _=>.ok (es≠[]) (.bool false)
 |.isl _ es _,.val (.slice none 0 0)=>.ok (es≠[]) (.bool false)
 |_,_=>.bad
def Kg:AVal→AVal→XR
 |.val (.map none),.val (.map none)=>.ok True (.bool true)
 |.val (.map none),.map _=>.ok True (.bool false)
 |.map _,.val (.map none)=>.ok True (.bool false)
 |_,_=>.bad
def Zp:CK→AVal→AVal→Option Bool
 |.int,.int k a,.int k' b=>if k=k' then some (a==b) else none
 |.str,.str a,.str b=>some (a==b)
 |.bool,.bool a,.bool b=>some (a==b)
 |_,_,_=>none
def ya:List CK→List AVal→List AVal→Option Bool
 |[],[],[]=>some true
 |k::ks,x::xs,y::ys=>match Zp k x y,ya ks xs ys with
  |some a,some b=>some (a&&b)
  |_,_=>none
 |_,_,_=>none
def zeg(ks:List CK):AVal→AVal→XR
 |.agg cs,.agg ds=>match ya ks cs ds with
  |some b=>.ok True (.bool b)
  |none=>.bad
 |_,_=>.bad
def z6e:AVal→AVal→XR
 |.val .nilIface,.val .nilIface=>.ok True (.bool true)
 |.ifc _ _,.val .nilIface=>.ok True (.bool false)
 |_,_=>.bad
def z4s:AVal→AVal→XR
 |.val .nilFunc,.val .nilFunc=>.ok True (.bool true)
 |.fn _ _ _,.val .nilFunc=>.ok True (.bool false)
 |_,_=>.bad
def zf3(k:EqK)(x y:AVal):XR:=
 match k with
 |.bool=>match x,y with
  |.bool a,.bool b=>.ok True (.bool (a==b))
  |_,_=>.bad
 |.ptr=>zmx x y
 |.slice=>Wo x.rd y.rd
 |.map=>Kg x y
 |.agg ks=>zeg ks x y
 |.ifc=>z6e x y
 |.fnc=>z4s x y
 |_=>.bad
def XR.neg:XR→XR
 |.ok s (.bool b)=>.ok s (.bool (!b))
 |_=>.bad
def xeq(neg:Bool)(k:EqK)(x y:AVal):XR:=if neg then(zf3 k x y).neg else zf3 k x y
def yn(agg:Bool)(n off:Nat)(r:List AVal):AVal:=
 if agg then .agg ((r.drop off).take n) else r.getD off .any
def Vx(agg:Bool)(n:Nat)(H:AHeap):AVal→XR
 |.iptr s es i off=>.ok (i<es.length∧off+n≤s) (yn agg n off (es.getD i []))
 |.ptr b i off=>match H.get b with
  |some (.rows s es)=>.ok (i<es.length∧off+n≤s) (yn agg n off (es.getD i []))
  |some (.one cs)=>.ok (i=0∧off+n≤cs.length) (yn agg n off cs)
  |_=>.bad
 |_=>.bad
def z1n(off:Nat):AVal→XR
 |.iptr s es i o=>.ok True (.iptr s es i (o+off))
 |.ptr b i o=>.ok True (.ptr b i (o+off))
 |_=>.bad
def z0y(agg:Bool)(n off:Nat):AVal→XR
 |.agg cs=>.ok (off+n≤cs.length) (yn agg n off cs)
 |_=>.bad
def Ub(s:Nat):AVal→AVal→XR
 |.isl s' es _,.int _ j=>.ok (s=s'∧0≤j∧j<(es.length:Int)) (.iptr s' es j.toNat 0)
 |.msl b s' off len _,.int _ j=>.ok (s=s'∧0≤j∧j<(len:Int)) (.ptr b (off+j.toNat) 0)
 |_,_=>.bad
def Uu(len s:Nat):AVal→AVal→XR
 |.iptr s' es i o,.int _ j=>.ok (0≤j∧j<(len:Int)) (.iptr s' es i (o+j.toNat * s))
 |.ptr b i o,.int _ j=>.ok (0≤j∧j<(len:Int)) (.ptr b i (o+j.toNat * s))
 |_,_=>.bad
def Jg(len s:Nat)(H:AHeap):AVal→AVal→XR
 |.ptr b i 0,.int _ j=>match H.get b with
  |some (.rows s' _)=>.ok (s=s'∧0≤j∧j<(len:Int)) (.ptr b (i+j.toNat) 0)
  |_=>.bad
 |_,_=>.bad
def zcp(len s:Nat)(H:AHeap):AVal→XR
 |.ptr b i 0=>match H.get b with
  |some (.rows s' es)=>.ok (s=s'∧i+len≤es.length) (.msl b s i len true)
  |_=>.bad
 |_=>.bad
def Qx(s:Nat):Nat→List AVal→List (List AVal)
 |0,_=>[]
 |k+1,l=>l.take s::Qx s k (l.drop s)
def zh6:AVal→AVal→XR
 |.str l,.int _ j=>.ok (0≤j∧j<(l.length:Int)) (.int .u8 ((l.getD j.toNat 0).toNat:Int))
 |_,_=>.bad
def zf6(len s:Nat)(agg:Bool):AVal→AVal→XR
 |.agg cs,.int _ j=>.ok (0≤j∧j<(len:Int)∧(j.toNat * s)+s≤cs.length) (yn agg s (j.toNat * s) cs)
 |_,_=>.bad
def zrv(k:Nat):AVal→XR
 |.tup cs=>.ok (k<cs.length) (cs.getD k .any)
 |_=>.bad
def zc5:AVal→XR
 |.str l=>.ok True (.int .i64 (l.length:Int))
 |_=>.bad
def z6y:AVal→XR
 |.isl _ es _=>.ok True (.int .i64 (es.length:Int))
 |.msl _ _ _ len _=>.ok True (.int .i64 (len:Int))
 |.val (.slice none 0 0)=>.ok True (.int .i64 0)
 |_=>.bad
def z1s:AVal→XR
 |.iptr s es i o=>.ok True (.iptr s es i o)
 |.ptr b i o=>.ok True (.ptr b i o)
 |.fn (.func f) a c=>.ok True (.fn (.func f) a c)
 |_=>.bad
def xb(e:Env)(dflt:Nat):Option LOpd→Option Int
 |none=>some dflt
 |some x=>match x.ev e with
  |.int _ j=>some j
  |_=>none
def z0r(e:Env):Option LOpd→Option (Option Int)
 |none=>none
 |some m=>some (xb e 0 (some m))
def ud(e:Env):Option LOpd→Prop
 |none=>True
 |some x=>x.need e
def z1i(lo hi:Nat→Option Int):AVal→XR
 |.str l=>match lo 0,hi l.length with
  |some a,some b=>.ok (0≤a∧a≤b∧b≤(l.length:Int)) (.str ((l.take b.toNat).drop a.toNat))
  |_,_=>.bad
 |_=>.bad
def z2a(s:Nat)(lo hi:Nat→Option Int)(mx:Option (Option Int)):AVal→XR
 |.isl s' es f=>match lo 0,hi es.length,mx with
  |some a,some b,none=>.ok (s=s'∧0≤a∧a≤b∧b≤(es.length:Int)) (.isl s' ((es.take b.toNat).drop a.toNat) (f&&decide (b=(es.length:Int))))
  |some a,some b,some (some m)=>.ok (s=s'∧0≤a∧a≤b∧b≤m∧m≤(es.length:Int)) (.isl s' ((es.take b.toNat).drop a.toNat) (decide (m=b)))
  |_,_,_=>.bad
 |.msl id s' off len f=>match lo 0,hi len,mx with
  |some a,some b,none=>.ok (s=s'∧0≤a∧a≤b∧b≤(len:Int)) (.msl id s' (off+a.toNat) (b.toNat-a.toNat) (f&&decide (b=(len:Int))))
  |some a,some b,some (some m)=>.ok (s=s'∧0≤a∧a≤b∧b≤m∧m≤(len:Int)) (.msl id s' (off+a.toNat) (b.toNat-a.toNat) (decide (m=b)))
  |_,_,_=>.bad
 |.val (.slice none 0 0)=>match lo 0,hi 0,mx with
  |some a,some b,none=>.ok (a=0∧b=0) (.val (.slice none 0 0))
  |_,_,_=>.bad
 |_=>.bad
def zgy(s:Nat)(lo hi:Nat→Option Int)(mx:Option (Option Int))(keep:Bool):AVal→XR
 |.osl tok s' es=>match keep with
  |true=>match lo 0 with
   |some a=>.ok (s=s'∧0≤a∧a≤(es.length:Int)) (.osl tok s' (es.drop a.toNat))
   |none=>.bad
  |false=>z2a s lo hi mx (.isl s' es false)
 |x=>z2a s lo hi mx x
def zpi:Bool→AVal→AVal→AVal
 |true,a,_=>a
 |false,_,b=>b
def zlq(na nb:Prop):AVal→AVal→AVal→XR
 |.bool c,a,b=>.ok ((c=true→na)∧(c=false→nb)) (zpi c a b)
 |_,_,_=>.bad
def jp(r:List AVal)(off:Nat)(cs:List AVal):List AVal:=r.take off++cs++r.drop (off+cs.length)
def Zq(cells:List AVal):List (Nat×Nat×AVal)→XR
 |[]=>.ok True (.agg cells)
 |(off,n,x)::r=>match x.cells? with
  |some cs=>match Zq (jp cells off cs) r with
   |.ok side v=>.ok (cs.length=n∧off+n≤cells.length∧side) v
   |.bad=>.bad
  |none=>.bad
def wb(e:Env):List (Nat×Nat×LOpd)→List (Nat×Nat×AVal)
 |[]=>[]
 |(o,n,x)::r=>(o,n,x.ev e)::wb e r
def jy(e:Env):List (Nat×Nat×LOpd)→Prop
 |[]=>True
 |(_,_,x)::r=>x.need e∧jy e r
def zg8(isMax:Bool):AVal→List AVal→XR
 |v,[]=>.ok True v
 |.int k a,.int k' b::r=>match zg8 isMax (.int k (if isMax then(if b > a then b else a) else(if b<a then b else a))) r with
  |.ok s v=>.ok (k=k'∧s) v
  |.bad=>.bad
 |_,_=>.bad
def zeo(isMax:Bool):List AVal→XR
 |.int k a::r=>zg8 isMax (.int k a) r
 |_=>.bad
def qp:AVal→List AVal
 |.agg cs=>cs
 |x=>[x]
def vo:AVal→Bool
 |.agg _=>true
 |_=>false
def Qv(ks:List CK)(ka:Bool)(k:AVal):Bool:=(match ka,vo k with|true,true=>true|false,false=>true|_,_=>false)&&(ya ks (qp k) (qp k)).isSome
def Vy(ks:List CK)(k k':AVal):Option Bool:=match vo k,vo k' with
 |true,true=>ya ks (qp k) (qp k')
 |false,false=>ya ks (qp k) (qp k')
 |_,_=>none
def z0t(ks:List CK)(k:AVal):List (AVal×AVal)→Option (Option AVal)
 |[]=>some none
 |(k',x)::r=>match Vy ks k k' with
  |some true=>some (some x)
  |some false=>z0t ks k r
  |none=>none
def zkv(ks:List CK)(k x:AVal):List (AVal×AVal)→Option (List (AVal×AVal))
 |[]=>some [(k,x)]
 |(k',y)::r=>match Vy ks k k' with
  |some true=>some ((k,x)::r)
  |some false=>(zkv ks k x r).map ((k',y)::·)
  |none=>none
def z30(ks:List CK)(k:AVal):List (AVal×AVal)→Option (List (AVal×AVal))
 |[]=>some []
 |(k',y)::r=>match Vy ks k k' with
  |some true=>some r
  |some false=>(z30 ks k r).map ((k',y)::·)
  |none=>none
def z6t(g:Bool)(zs:List AVal):AVal:=if g then .agg (xz zs zs) else Yy (zs.getD 0 .any) (zs.getD 0 .any)
def zn9(g ok:Bool)(zs:List AVal)(r:Option AVal):AVal:=
 let v:=r.getD (z6t g zs)
 if ok then .tup [v,.bool r.isSome] else v
def zru(g:Bool)(zs:List AVal)(x:AVal):Option AVal:=match g,x.imm with
 |true,some (.agg cs)=>some (.agg (xz zs cs))
 |false,some y=>(match y with|.agg _=>none|.tup _=>none|y=>some (Yy (zs.getD 0 .any) y))
 |false,none=>(match x with|.map b=>some (.map b)|.ptr b i off=>some (.ptr b i off)|.msl b s off len f=>some (.msl b s off len f)|_=>none)
 |_,_=>none
def Vk(ks:List CK)(ka g ok:Bool)(zs:List AVal)(H:AHeap)(k:AVal):AVal→XR
 |.val (.map none)=>if Qv ks ka k then .ok True (zn9 g ok zs none) else .bad
 |.map b=>match H.get b with
  |some (.amap es)=>if Qv ks ka k then .ok ((z0t ks k es).isSome=true) (zn9 g ok zs ((z0t ks k es).getD none)) else .bad
  |_=>.bad
 |_=>.bad
def z8h(H:AHeap):AVal→XR
 |.val (.map none)=>.ok True (.int .i64 0)
 |.map b=>match H.get b with
  |some (.amap es)=>.ok True (.int .i64 (es.length:Int))
  |_=>.bad
 |_=>.bad
def XR.and(p:Prop):XR→XR
 |.ok s v=>.ok (p∧s) v
 |.bad=>.bad
def xh(e:Env)(H:AHeap):LOp→XR
 |.mv x=>.ok (x.need e) (x.ev e)
 |.pick c a b=>(zlq (a.need e) (b.need e) (c.ev e) (a.ev e) (b.ev e)).and (c.need e)
 |.build zs parts=>(Zq zs (wb e parts)).and (jy e parts)
 |.load g n a=>(Vx g n H (a.ev e)).and (a.need e)
 |.nilck x=>(z1s (x.ev e)).and (x.need e)
 |.bin op x y=>(zi8 op (x.ev e) (y.ev e)).and (x.need e∧y.need e)
 |.eq neg k x y=>(xeq neg k (x.ev e) (y.ev e)).and (x.need e∧y.need e)
 |.un op x=>(xun op (x.ev e)).and (x.need e)
 |.conv (.int k) x=>match x.ev e with
  |.int _ n=>.ok (x.need e) (.int k (k.wrap n))
  |_=>.bad
 |.conv .same x=>match x.ev e with
  |.str l=>.ok (x.need e) (.str l)
  |_=>.bad
 |.mkfn f a c=>.ok (Q3 e a∧Q3 e c) (.fn f (evs e a) (evs e c))
 |.slStr x lo hi=>(z1i (fun d=>xb e d lo) (fun d=>xb e d hi) (x.ev e)).and (x.need e∧ud e lo∧ud e hi)
 |.slSl s x lo hi mx=>(zgy s (fun d=>xb e d lo) (fun d=>xb e d hi) (z0r e mx) (hi.isNone&&mx.isNone) (x.ev e)).and (x.need e∧ud e lo∧ud e hi∧ud e mx)
 |.slAr n s x=>(zcp n s H (x.ev e)).and (x.need e)
 |.faddr off x=>(z1n off (x.ev e)).and (x.need e)
 |.field g n off x=>(z0y g n off (x.ev e)).and (x.need e)
 |.iaddr s x i=>(Ub s (x.ev e).rd (i.ev e)).and (x.need e∧i.need e)
 |.iaddrA n s x i=>(Uu n s (x.ev e) (i.ev e)).and (x.need e∧i.need e)
 |.iaddrR n s x i=>(Jg n s H (x.ev e) (i.ev e)).and (x.need e∧i.need e)
 |.idxS x i=>(zh6 (x.ev e) (i.ev e)).and (x.need e∧i.need e)
 |.idxA n s g x i=>(zf6 n s g (x.ev e) (i.ev e)).and (x.need e∧i.need e)
 |.ext k x=>(zrv k (x.ev e)).and (x.need e)
 |.len true x=>(zc5 (x.ev e)).and (x.need e)
 |.len false x=>(z6y (x.ev e).rd).and (x.need e)
 |.mnx m args=>(zeo m (evs e args)).and (Q3 e args)
 |.mlook ks ka g ok zs x k=>(Vk ks ka g ok zs H (k.ev e) (x.ev e)).and (x.need e∧k.need e)
 |.mlen x=>(z8h H (x.ev e)).and (x.need e)
 |_=>.bad
end Go.Fx
namespace Go.Fx
def qm:Value→Bool
 |.agg _=>false
 |.tuple _=>false
 |_=>true
def zcu:Obj→Bool
 |.map _ _=>true
 |.loop _=>true
 |.mapIter .. => true
 |_=>false
structure CLoc where
 blk:Nat
 lo:Nat
 size:Nat
 base:Nat
 s:Nat
def CLoc.has(c:CLoc)(b k:Nat):Prop:=c.blk=b∧c.lo≤k∧k<c.size
inductive RepI(I:Nat→Nat→Prop)(w:World):AVal→Value→Prop
 |bool (b:Bool):RepI I w (.bool b) (.bool b)
 |int (k:IntKind) (n:Int):RepI I w (.int k n) (.int k n)
 |str (l:List UInt8):RepI I w (.str l) (.string ⟨⟨l⟩⟩)
 |val (v:Value):qm v=true→RepI I w (.val v) v
 |agg (cs:List AVal) (vs:Array Value):vs.size=cs.length→(∀v∈vs.toList,qm v=true)→(∀ (i:Nat) (x:AVal) (v:Value),cs[i]?=some x→vs[i]?=some v→RepI I w x v)→RepI I w (.agg cs) (.agg vs)
 |tup (cs:List AVal) (vs:Array Value):vs.size=cs.length→(∀ (i:Nat) (x:AVal) (v:Value),cs[i]?=some x→vs[i]?=some v→RepI I w x v)→RepI I w (.tup cs) (.tuple vs)
 |islNil (s:Nat) (f:Bool):RepI I w (.isl s [] f) (.slice none 0 0)
 |islEmpty (s:Nat) (f:Bool) (a:Addr) (cap:Nat):(f=true→cap=0)→RepI I w (.isl s [] f) (.slice (some a) 0 cap)
 |isl (s:Nat) (es:List (List AVal)) (f:Bool) (b o cap:Nat) (vf:Nat→Nat→Value):(∀ (i:Nat) (r:List AVal) (j:Nat) (x:AVal),es[i]?=some r→r[j]?=some x→I b (o+i*s+j))→es.length≤cap→(f=true→cap=es.length) →
  (∀ (i:Nat) (r:List AVal),es[i]?=some r→r.length=s) →
  (∀ (i:Nat) (r:List AVal) (j:Nat) (x:AVal),es[i]?=some r→r[j]?=some x→w.cell? ⟨b,o+i*s+j,none⟩=some (vf i j)) →
  (∀ (i:Nat) (r:List AVal) (j:Nat) (x:AVal),es[i]?=some r→r[j]?=some x→qm (vf i j)=true) →
  (∀ (i:Nat) (r:List AVal) (j:Nat) (x:AVal),es[i]?=some r→r[j]?=some x→RepI I w x (vf i j)) →
  RepI I w (.isl s es f) (.slice (some ⟨b,o,none⟩) es.length cap)
 |iptr (s:Nat) (es:List (List AVal)) (b o i0 off:Nat) (vf:Nat→Nat→Value):(∀ (i:Nat) (r:List AVal) (j:Nat) (x:AVal),es[i]?=some r→r[j]?=some x→I b (o+i*s+j)) →
  (∀ (i:Nat) (r:List AVal),es[i]?=some r→r.length=s) →
  (∀ (i:Nat) (r:List AVal) (j:Nat) (x:AVal),es[i]?=some r→r[j]?=some x→w.cell? ⟨b,o+i*s+j,none⟩=some (vf i j)) →
  (∀ (i:Nat) (r:List AVal) (j:Nat) (x:AVal),es[i]?=some r→r[j]?=some x→qm (vf i j)=true) →
  (∀ (i:Nat) (r:List AVal) (j:Nat) (x:AVal),es[i]?=some r→r[j]?=some x→RepI I w x (vf i j)) →
  RepI I w (.iptr s es i0 off) (.pointer (some ⟨b,o+i0*s+off,none⟩))
 |fn (f:Fn) (first caps:List AVal) (fs cs:Array Value):fs.size=first.length→cs.size=caps.length →
  (∀ (i:Nat) (x:AVal) (v:Value),first[i]?=some x→fs[i]?=some v→RepI I w x v)→(∀ (i:Nat) (x:AVal) (v:Value),caps[i]?=some x→cs[i]?=some v→RepI I w x v)→RepI I w (.fn f first caps) (.func f fs cs)
 |ifc (t:TypeId) (x:AVal) (v:Value):RepI I w x v→RepI I w (.ifc t x) (.iface t v)
inductive Rep(I:Nat→Nat→Prop)(β:Id→Option CLoc)(n:Nat)(w:World):AVal→Value→Prop
 |any (v:Value):Rep I β n w .any v
 |imm (x:AVal) (v:Value):RepI I w x v→Rep I β n w x v
 |agg (cs:List AVal) (vs:Array Value):vs.size=cs.length→(∀v∈vs.toList,qm v=true)→(∀ (i:Nat) (x:AVal) (v:Value),cs[i]?=some x→vs[i]?=some v→Rep I β n w x v)→Rep I β n w (.agg cs) (.agg vs)
 |tup (cs:List AVal) (vs:Array Value):vs.size=cs.length→(∀ (i:Nat) (x:AVal) (v:Value),cs[i]?=some x→vs[i]?=some v→Rep I β n w x v)→Rep I β n w (.tup cs) (.tuple vs)
 |fn (f:Fn) (first caps:List AVal) (fs cs:Array Value):fs.size=first.length→cs.size=caps.length →
  (∀ (i:Nat) (x:AVal) (v:Value),first[i]?=some x→fs[i]?=some v→Rep I β n w x v)→(∀ (i:Nat) (x:AVal) (v:Value),caps[i]?=some x→cs[i]?=some v→Rep I β n w x v)→Rep I β n w (.fn f first caps) (.func f fs cs)
 |ifc (t:TypeId) (x:AVal) (v:Value):Rep I β n w x v→Rep I β n w (.ifc t x) (.iface t v)
 |osl (tok:Id) (s:Nat) (es:List (List AVal)) (v:Value):tok.1<n→RepI I w (.isl s es false) v →
  (∀c,β tok=some c→∀a cap,v=.slice (some a) es.length cap→cap=es.length∨(a.spot=none∧a.block=c.blk∧a.off+es.length*s=c.lo∧a.off+cap*s≤c.size))→Rep I β n w (.osl tok s es) v
 |ptr (b:Id) (i off:Nat) (a:Addr):b.1<n→(∀c,β b=some c→a=⟨c.blk,c.base+i*c.s+off,none⟩)→Rep I β n w (.ptr b i off) (.pointer (some a))
 |msl (b:Id) (s off len:Nat) (f:Bool) (a:Option Addr) (cap:Nat):b.1<n→len≤cap∧(a=none→cap=0)→(f=true→cap=len) →
  (∀c,β b=some c→c.s=s∧(cap≠0→a=some ⟨c.blk,c.base+off*s,none⟩∧c.base+(off+cap)*s≤c.size))→Rep I β n w (.msl b s off len f) (.slice a len cap)
 |map (b:Id) (r:Nat):b.1<n→(∀c,β b=some c→r=c.blk)→Rep I β n w (.map b) (.map (some r))
 |optp (b:Id) (a:Option Addr):b.1<n→(∀c,β b=some c→a=none∨a=some ⟨c.blk,c.base,none⟩)→Rep I β n w (.optp b) (.pointer a)
 |cnd (p:Bool) (x:AVal) (v:Value):(p=true→Rep I β n w x v)→(p=false→v=undef)→Rep I β n w (.cnd p x) v
structure MapIn(I:Nat→Nat→Prop)(β:Id→Option CLoc)(n:Nat)(w:World)(es:List (AVal×AVal))(arr:Array MapEntry)(ck:Nat):Prop where
 len:arr.size=es.length
 ent:∀ (i:Nat) (k x:AVal) (e:MapEntry),es[i]?=some (k,x)→arr[i]?=some e→RepI I w k e.key∧Rep I β n w x e.val
 born:∀ (i j:Nat) (e e':MapEntry),i<j→arr[i]?=some e→arr[j]?=some e'→e.born<e'.born
 clk:∀ (i:Nat) (e:MapEntry),arr[i]?=some e→e.born<ck
def Zr(arr:Array MapEntry)(seen:List Nat):Array Nat:=(seen.reverse.map fun j=>match arr[j]? with|some e=>e.born|none=>0).toArray
def z1r(m:Option Nat)(arr:Array MapEntry)(ck:Nat)(seen:List Nat):Obj:=.mapIter m ck (Zr arr seen) ck
def ItrOf(β:Id→Option CLoc)(n:Nat):Option Id→Option Nat→Prop
 |none,m=>m=none
 |some b,m=>b.1<n∧∃k,m=some k∧∀d,β b=some d→k=d.blk
def EndOk(s:Nat)(arr:Array Value)(fr:Nat×Nat):Prop:=s≠1→(decide (fr.1≤arr.size)&&decide (arr.size<fr.2))=false
theorem EndOk.of{s s':Nat}{arr arr':Array Value}{fr:Nat×Nat}(h:EndOk s arr fr)(hs:s'=s)(ha:arr'.size=arr.size):EndOk s' arr' fr:=by subst hs;intro h1;rw[ha];exact h h1
theorem EndOk.zero{s:Nat}{arr:Array Value}:EndOk s arr (0,0):=fun _=>by simp
theorem EndOk.one{arr:Array Value}{fr:Nat×Nat}:EndOk 1 arr fr:=fun h=>absurd rfl h
def RepB(I:Nat→Nat→Prop)(β:Id→Option CLoc)(n:Nat)(w:World)(c:CLoc):ABlock→Prop
 |.rows s es=>c.s=s∧((∃arr e fr,w.heap[c.blk]?=some (.cells arr e fr)∧c.size≤arr.size∧(c.lo<c.size→c.lo=0∧c.size=arr.size∧EndOk c.s arr fr))∨c.lo=0∧c.size=0∧es=[])∧(∀k,c.lo≤k→k<c.size→w.frozen? ⟨c.blk,k,none⟩=false) ∧
  c.lo≤c.base∧c.base+es.length*s≤c.size∧(∀ (i:Nat) (r:List AVal),es[i]?=some r→r.length=s) ∧
  (∀ (i:Nat) (r:List AVal) (j:Nat) (x:AVal),es[i]?=some r→r[j]?=some x→∃v,w.cell? ⟨c.blk,c.base+i*s+j,none⟩=some v∧qm v=true∧Rep I β n w x v)
 |.one cs=>c.s=cs.length∧((∃arr e fr,w.heap[c.blk]?=some (.cells arr e fr)∧c.size≤arr.size∧(c.lo<c.size→c.lo=0∧c.size=arr.size∧EndOk c.s arr fr))∨c.lo=0∧c.size=0∧[cs]=[])∧(∀k,c.lo≤k→k<c.size→w.frozen? ⟨c.blk,k,none⟩=false) ∧
  c.lo≤c.base∧c.base+[cs].length*cs.length≤c.size∧(∀ (i:Nat) (r:List AVal),[cs][i]?=some r→r.length=cs.length) ∧
  (∀ (i:Nat) (r:List AVal) (j:Nat) (x:AVal),[cs][i]?=some r→r[j]?=some x→∃v,w.cell? ⟨c.blk,c.base+i*cs.length+j,none⟩=some v∧qm v=true∧Rep I β n w x v)
 |.amap es=>c.lo=0∧0<c.size∧∃arr ck,w.heap[c.blk]?=some (.map arr ck)∧MapIn I β n w es arr ck
 |.bld T g=>c.lo=0∧c.base=0∧c.size=2∧g.1<n∧∃p v,w.heap[c.blk]?=some (.cells #[p,v] T (0,0))∧(p=.pointer none∨p=.pointer (some ⟨c.blk,0,none⟩)) ∧
  (∀d,β g=some d→(d.size=0∧v=.slice none 0 0)∨(0<d.size∧v=.slice (some ⟨d.blk,0,none⟩) d.s d.size))
 |.buf e bs=>c.lo=0∧c.s=bs.length∧((c.size=0∧bs=[])∨(0<c.size∧∃arr fr,w.heap[c.blk]?=some (.cells arr e fr)∧c.size=arr.size∧bs.length≤arr.size∧(fr.1=fr.2∨fr.2≤bs.length) ∧
  ∀ (i:Nat) (x:UInt8),bs[i]?=some x→arr[i]?=some (.int .u8 (x.toNat:Int))))
 |.lrec l r e=>c.lo=0∧0<c.size∧c.blk=l∧w.heap[c.blk]?=some (.loop r)∧∀t,Rep I β n w (Env.get e t) (r.tmps.getD t undef)
 |.rmap es arr ck=>c.lo=0∧0<c.size∧w.heap[c.blk]?=some (.map arr ck)∧MapIn I β n w es arr ck
 |.itr m arr ck seen=>c.lo=0∧0<c.size∧(c.base=0∧∀j∈seen,j<arr.size)∧∃k,w.heap[c.blk]?=some (z1r k arr ck seen)∧ItrOf β n m k
 |.mbox b=>c.lo=0∧0<c.size∧c.base=0∧∃k,w.cell? ⟨c.blk,0,none⟩=some (.map (some k))∧ItrOf β n (some b) (some k)
 |.tok=>(∀k,c.lo≤k→k<c.size→(∃v,w.cell? ⟨c.blk,k,none⟩=some v)∧w.frozen? ⟨c.blk,k,none⟩=false)
theorem wl{I:Nat→Nat→Prop}{β:Id→Option CLoc}{n:Nat}{w:World}{c:CLoc}{cs:List AVal}:RepB I β n w c (.one cs)↔RepB I β n w c (.rows cs.length [cs]):=Iff.rfl
theorem ItrOf.mono{β β':Id→Option CLoc}{n n':Nat}{g:Id→Id}{m:Option Id}{k:Option Nat}(hn:∀id:Id,id.1<n→m=some id→(g id).1<n')(hβ:∀ (id:Id) c,id.1<n→m=some id→β' (g id)=some c→β id=some c)(h:ItrOf β n m k):ItrOf β' n' (m.map g) k:=by
 cases m with
 |none=>exact h
 |some b=>
  obtain⟨h1,q,h2,h3⟩:=h
  exact⟨hn b h1 rfl,q,h2,fun d hd=>h3 d (hβ b d h1 rfl hd)⟩
def GL:List (Nat×List Value):=[(0,((pI 256).map fun c=>.int .u8 (if c==9 || c==10 || c==11 || c==12 || c==13 || c==32 then 1 else 0)))]
def GLS:List Nat:=[]
def GA:List Nat:=[]
def GlobOk(I:Nat→Nat→Prop)(w:World):Prop:=(∀x∈GL,(x.1∈GLS→∃arr el fr,w.heap[x.1]?=some (.cells arr el fr)∧arr.size=x.2.length)∧∀ (i:Nat) (v:Value),x.2[i]?=some v→I x.1 i∧w.cell? ⟨x.1,i,none⟩=some v) ∧
 ∀g∈GA,∃m:Int,I g 0∧w.cell? ⟨g,0,none⟩=some (.int .i64 m)
def SameSz(w w':World):Prop:=∀ (b:Nat) (arr:Array Value) (el:TypeId) (fr:Nat×Nat),w.heap[b]?=some (.cells arr el fr)→∃arr' fr',w'.heap[b]?=some (.cells arr' el fr')∧arr'.size=arr.size
theorem GlobOk.mono{I I':Nat→Nat→Prop}{w w':World}(h:GlobOk I w)(hI:∀b k,I b k→I' b k)(hw:∀b k,I b k→w'.cell? ⟨b,k,none⟩=w.cell? ⟨b,k,none⟩)(hs:SameSz w w'):GlobOk I' w':=⟨fun x hx=>by
 obtain⟨h3,h4⟩:=h.1 x hx
 refine⟨fun hm=>?_,fun i v hv=>?_⟩
 ·obtain⟨arr,el,fr,h1,h2⟩:=h3 hm
  obtain⟨arr',fr',k1,k2⟩:=hs _ _ _ _ h1
  exact⟨arr',el,fr',k1,by rw[k2,h2]⟩
 obtain⟨h1,h2⟩:=h4 i v hv
 exact⟨hI _ _ h1,by rw[hw _ _ h1];exact h2⟩,fun g hg=>by
 obtain⟨m,h1,h2⟩:=h.2 g hg
 exact⟨m,hI _ _ h1,by rw[hw _ _ h1];exact h2⟩⟩
theorem SameSz.refl(w:World):SameSz w w:=fun _ arr _ fr h=>⟨arr,fr,h,rfl⟩
structure Inv(I:Nat→Nat→Prop)(β:Id→Option CLoc)(n:Nat)(H:AHeap)(w:World):Prop where
 blocks:∀id blk,H.get id=some blk→∃c,β id=some c∧RepB I β n w c blk
 inj:∀i j c d b k,β i=some c→β j=some d→c.has b k→d.has b k→i=j
 own:∀i c b k,β i=some c→c.has b k→¬I b k∧b<w.heap.size
 imm:∀b k,I b k→∃v,w.cell? ⟨b,k,none⟩=some v
 fresh:∀id:Id,n≤id.1→β id=none
 glob:GlobOk I w
def zfv:Bool:=false
structure TapeOk(w w':World):Prop where
 eq:w'.tape=w.tape
 le:zfv=true→w.drawn≤w'.drawn
theorem TapeOk.trans{w w' w'':World}(b:TapeOk w' w'')(a:TapeOk w w'):TapeOk w w'':=⟨b.eq.trans a.eq,fun h=>Nat.le_trans (a.le h) (b.le h)⟩
structure Ext(I:Nat→Nat→Prop)(β:Id→Option CLoc)(n:Nat)(H:AHeap)(w:World)(I':Nat→Nat→Prop)(β':Id→Option CLoc)(n':Nat)(H':AHeap)(w':World):Prop where
 os:w'.os=w.os
 tape:TapeOk w w'
 output:w'.output=w.output
 size:w.heap.size≤w'.heap.size
 frame:∀b,b<w.heap.size→(∀id c k,β id=some c→H.get id≠none→¬c.has b k)→w'.heap[b]?=w.heap[b]?
 cells:∀b k v,w.cell? ⟨b,k,none⟩=some v→(∀id c,β id=some c→H.get id≠none→¬c.has b k)→w'.cell? ⟨b,k,none⟩=some v
 shape:∀ (b:Nat) (arr:Array Value) (el:TypeId) (fr:Nat×Nat),w.heap[b]?=some (.cells arr el fr)→∃arr' fr',w'.heap[b]?=some (.cells arr' el fr')∧arr'.size=arr.size∧(fr'=fr∨∀k,k<arr.size→∃id c,β id=some c∧H.get id≠none∧c.has b k)
 maps:∀ (b:Nat) (o:Obj) (ho:zcu o=true),w.heap[b]?=some o→(∀id c,β id=some c→H.get id≠none→¬c.has b 0)→w'.heap[b]?=some o
 imm:∀b k,I b k→I' b k
 immNew:∀b k,I' b k→¬I b k→b<w.heap.size→∃id c,β id=some c∧c.has b k∧H.get id≠none
 old:∀id:Id,id.1<n→β' id=β id∨(β' id=none∧H.get id≠none)
 new:∀ (id:Id) c b k,n≤id.1→β' id=some c→c.has b k→w.heap.size≤b∨∃i0 c0,β i0=some c0∧c0.has b k∧H.get i0≠none
 dom:∀id:Id,id.1<n→H'.get id≠none→H.get id≠none
 le:n≤n'
theorem Ext.refl(I:Nat→Nat→Prop)(β:Id→Option CLoc)(n:Nat)(H:AHeap)(w:World)(hf:∀id:Id,n≤id.1→β id=none):Ext I β n H w I β n H w where
 os:=rfl
 tape:=⟨rfl,fun _=>p6 _⟩
 output:=rfl
 size:=p6 _
 frame:=fun _ _ _=>rfl
 cells:=fun _ _ _ h _=>h
 shape:=fun _ arr _ fr h=>⟨arr,fr,h,rfl,.inl rfl⟩
 maps:=fun _ _ _ h _=>h
 imm:=fun _ _ h=>h
 immNew:=fun _ _ h h'=>absurd h h'
 old:=fun _ _=>.inl rfl
 new:=fun id c b k h e=>by rw[hf id h] at e;cases e
 dom:=fun _ _ h=>h
 le:=p6 _
theorem ve{w:World}{b k:Nat}{v:Value}(h:w.cell? ⟨b,k,none⟩=some v):b<w.heap.size:=World.block_lt_of_cell? _ _ h
theorem Ext.trans{I I' I'':Nat→Nat→Prop}{β β' β'':Id→Option CLoc}{n n' n'':Nat}{H H' H'':AHeap}{w w' w'':World}
 (a:Ext I β n H w I' β' n' H' w') (b:Ext I' β' n' H' w' I'' β'' n'' H'' w''):Ext I β n H w I'' β'' n'' H'' w'':=by
 have own:∀id c b k,β' id=some c→H'.get id≠none→c.has b k→b<w.heap.size→∃i0 c0,β i0=some c0∧c0.has b k∧H.get i0≠none:=by
  intro id c b k he hg hk hlt
  by_cases hid:id.1<n
  ·rcases a.old id hid with h|⟨h,_⟩
   ·exact⟨id,c,h▸he,hk,a.dom id hid hg⟩
   ·rw[h] at he;cases he
  ·rcases a.new id c b k (by omega) he hk with h|h
   ·omega
   ·exact h
 refine⟨b.os.trans a.os,b.tape.trans a.tape,b.output.trans a.output,Nat.le_trans a.size b.size,?_,?_,?_,?_,fun x k h=>b.imm x k (a.imm x k h),?_,?_,?_,fun id h hg=>a.dom id h (b.dom id (by have:=a.le;omega) hg),Nat.le_trans a.le b.le⟩
 ·intro x hx hn
  rw[b.frame x (by have:=a.size;omega) ?_,a.frame x hx hn]
  intro id c k he hg hk
  obtain⟨i0,c0,h1,h2,h3⟩:=own id c x k he hg hk hx
  exact hn i0 c0 k h1 h3 h2
 ·intro x k v hv hn
  refine b.cells x k v (a.cells x k v hv hn) ?_
  intro id c he hg hk
  obtain⟨i0,c0,h1,h2,h3⟩:=own id c x k he hg hk (ve hv)
  exact hn i0 c0 h1 h3 h2
 ·intro x arr el fr h
  obtain⟨arr',fr',h1,h2,h5⟩:=a.shape x arr el fr h
  obtain⟨arr'',fr'',h3,h4,h6⟩:=b.shape x arr' el fr' h1
  refine⟨arr'',fr'',h3,h4.trans h2,?_⟩
  have hlt:x<w.heap.size:=by
   rcases p8 x w.heap.size with h'|h'
   ·exact h'
   ·rw[pA h'] at h;cases h
  rcases h6 with h6|h6
  ·rcases h5 with h5|h5
   ·exact .inl (h6.trans h5)
   ·exact .inr h5
  ·refine .inr fun k hk=>?_
   obtain⟨id,c,e1,e2,e3⟩:=h6 k (by omega)
   obtain⟨i0,c0,g1,g2,g3⟩:=own id c x k e1 e2 e3 hlt
   exact⟨i0,c0,g1,g3,g2⟩
 ·intro x es ck h hn
  refine b.maps x es ck (a.maps x es ck h hn) ?_
  intro id c he hg hk
  have hlt:x<w.heap.size:=by
   rcases p8 x w.heap.size with h'|h'
   ·exact h'
   ·rw[pA h'] at h;cases h
  obtain⟨i0,c0,h1,h2,h3⟩:=own id c x 0 he hg hk hlt
  exact hn i0 c0 h1 h3 h2
 ·intro x k h hn hx
  by_cases hi:I' x k
  ·exact a.immNew x k hi hn hx
  ·obtain⟨id,c,h1,h2,h3⟩:=b.immNew x k h hi (by have:=a.size;omega)
   exact own id c x k h1 h3 h2 hx
 ·intro id hid
  rcases b.old id (by have:=a.le;omega) with h|⟨h,hg⟩
  ·rcases a.old id hid with g|⟨g,gg⟩
   ·exact .inl (h.trans g)
   ·exact .inr ⟨h.trans g,gg⟩
  ·exact .inr ⟨h,a.dom id hid hg⟩
 ·intro id c x k hid he hk
  by_cases hn:id.1<n'
  ·rcases b.old id hn with h|⟨h,_⟩
   ·exact a.new id c x k hid (h▸he) hk
   ·rw[h] at he;cases he
  ·rcases b.new id c x k (by omega) he hk with h|⟨i1,c1,h1,h2,h3⟩
   ·have:=a.size;omega
   ·by_cases hlt:x<w.heap.size
    ·exact .inr (own i1 c1 x k h1 h3 h2 hlt)
    ·exact .inl (by omega)
theorem cell?_of_heap {w w':World} {b o:Nat} (h:w'.heap[b]?=w.heap[b]?):w'.cell? ⟨b,o,none⟩=w.cell? ⟨b,o,none⟩:=by
 unfold pV;simp only[h]
theorem RepI.mono{I I':Nat→Nat→Prop}{w w':World}(hI:∀b k,I b k→I' b k)(hw:∀b k,I b k→w'.cell? ⟨b,k,none⟩=w.cell? ⟨b,k,none⟩){x:AVal}{v:Value}(h:RepI I w x v):RepI I' w' x v:=by
 induction h with
 |bool b=>exact .bool b
 |int k n=>exact .int k n
 |str l=>exact .str l
 |val v h=>exact .val v h
 |agg cs vs h1 h2 _ ih=>exact .agg cs vs h1 h2 ih
 |tup cs vs h1 _ ih=>exact .tup cs vs h1 ih
 |islNil s f=>exact .islNil s f
 |islEmpty s f a cap h=>exact .islEmpty s f a cap h
 |isl s es f b o cap vf h1 h2 h3 h4 h5 h6 _ ih=>exact .isl s es f b o cap vf (fun i r j x hi hj=>hI _ _ (h1 i r j x hi hj)) h2 h3 h4 (fun i r j x hi hj=>(hw _ _ (h1 i r j x hi hj)).trans (h5 i r j x hi hj)) h6 ih
 |iptr s es b o i0 off vf h1 h4 h5 h6 _ ih=>exact .iptr s es b o i0 off vf (fun i r j x hi hj=>hI _ _ (h1 i r j x hi hj)) h4 (fun i r j x hi hj=>(hw _ _ (h1 i r j x hi hj)).trans (h5 i r j x hi hj)) h6 ih
 |fn f a c fs cs h1 h2 _ _ ih1 ih2=>exact .fn f a c fs cs h1 h2 ih1 ih2
 |ifc t x v _ ih=>exact .ifc t x v ih
theorem Rep.mono'{I I':Nat→Nat→Prop}{β β':Id→Option CLoc}{n n':Nat}{w w':World}(hI:∀b k,I b k→I' b k)(hw:∀b k,I b k→w'.cell? ⟨b,k,none⟩=w.cell? ⟨b,k,none⟩)
 (hn:n≤n') (hβ:∀ (id:Id) c,id.1<n→β' id=some c→β id=some c) {x:AVal} {v:Value} (h:Rep I β n w x v):Rep I' β' n' w' x v:=by
 induction h with
 |any v=>exact .any v
 |imm x v h=>exact .imm x v (h.mono hI hw)
 |agg cs vs h1 h2 _ ih=>exact .agg cs vs h1 h2 ih
 |tup cs vs h1 _ ih=>exact .tup cs vs h1 ih
 |fn f a c fs cs h1 h2 _ _ ih1 ih2=>exact .fn f a c fs cs h1 h2 ih1 ih2
 |ifc t x v _ ih=>exact .ifc t x v ih
 |osl tok s es v h1 h2 h3=>exact .osl tok s es v (by omega) (h2.mono hI hw) (fun c hc=>h3 c (hβ tok c h1 hc))
 |ptr b i off a hb h=>exact .ptr b i off a (by omega) (fun c hc=>h c (hβ b c hb hc))
 |msl b s off len f a cap hb h1 h2 h3=>exact .msl b s off len f a cap (by omega) h1 h2 (fun c hc=>h3 c (hβ b c hb hc))
 |map b r hb h=>exact .map b r (by omega) (fun c hc=>h c (hβ b c hb hc))
 |optp b a hb h=>exact .optp b a (by omega) (fun c hc=>h c (hβ b c hb hc))
 |cnd p x v _ h ih=>exact .cnd p x v ih h
section
variable {I I':Nat→Nat→Prop} {β β':Id→Option CLoc} {n n':Nat} {H H':AHeap} {w w':World}
theorem Ext.heapI(e:Ext I β n H w I' β' n' H' w')(i:Inv I β n H w):∀b k,I b k→w'.cell? ⟨b,k,none⟩=w.cell? ⟨b,k,none⟩:=by
 intro b k hb
 obtain⟨v,hv⟩:=i.imm b k hb
 rw[hv]
 exact e.cells b k v hv (fun id c hc _ hk=>(i.own id c b k hc hk).1 hb)
theorem Ext.back(e:Ext I β n H w I' β' n' H' w'):∀ (id:Id) c,id.1<n→β' id=some c→β id=some c:=by
 intro id c hid h
 rcases e.old id hid with g|⟨g,_⟩
 ·exact g▸h
 ·rw[g] at h;cases h
theorem Rep.mono(e:Ext I β n H w I' β' n' H' w')(i:Inv I β n H w){x:AVal}{v:Value}(h:Rep I β n w x v):Rep I' β' n' w' x v:=
 h.mono' e.imm (e.heapI i) e.le e.back
end
def RepEnv(I:Nat→Nat→Prop)(β:Id→Option CLoc)(n:Nat)(w:World)(e:Env)(a:Act):Prop:=∀t,Rep I β n w (e.get t) (a.tmps.getD t undef)
theorem Env.get_put_same(e:Env)(d:Nat)(v:AVal):(e.put (some d) v).get d=v:=by simp[Env.put,Env.get]
theorem Env.get_put_other(e:Env){d t:Nat}(v:AVal)(h:d≠t):(e.put (some d) v).get t=e.get t:=by simp[Env.put,Env.get,h]
theorem RepEnv.put{I:Nat→Nat→Prop}{β:Id→Option CLoc}{n:Nat}{w:World}{e:Env}{a:Act}(h:RepEnv I β n w e a){d:Option Nat}{x:AVal}{v:Value}
 (hd:∀t,d=some t→t<a.tmps.size) (hx:Rep I β n w x v):RepEnv I β n w (e.put d x) (a.put d v):=by
 intro t
 cases d with
 |none=>exact h t
 |some d=>
  by_cases hdt:d=t
  ·subst hdt
   rw[Env.get_put_same]
   have:(a.put (some d) v).tmps.getD d undef=v:=by
    have:=hd d rfl
    simp[Act.put,this]
   rw[this];exact hx
  ·rw[Env.get_put_other _ _ hdt]
   have:(a.put (some d) v).tmps.getD t undef=a.tmps.getD t undef:=by
    simp[Act.put,Array.getD_eq_getD_getElem?,Array.getElem?_setIfInBounds_ne hdt]
   rw[this];exact h t
theorem Act.put_size(a:Act)(d:Option Nat)(v:Value):(a.put d v).tmps.size=a.tmps.size:=by
 cases d<;>simp[Act.put]
theorem Act.put_defers(a:Act)(d:Option Nat)(v:Value):(a.put d v).defers=a.defers:=by
 cases d<;>simp[Act.put]
theorem Rep.strip{I:Nat→Nat→Prop}{β:Id→Option CLoc}{n:Nat}{w:World}{x:AVal}{v:Value}(h:Rep I β n w x v)(hn:x.need):Rep I β n w x.strip v:=by
 cases x with
 |cnd p y=>
  cases h with
  |imm _ _ h=>cases h
  |cnd _ _ _ h _=>exact h hn
 |_=>exact h
theorem zu{I:Nat→Nat→Prop}{β:Id→Option CLoc}{n:Nat}{w:World}{e:Env}{a:Act}(h:RepEnv I β n w e a){x:Operand}{y:LOpd}(hl:ye x=some y)(hn:y.need e) :
 Rep I β n w (y.ev e) (a.eval x):=by
 cases x with
 |tmp t=>simp[ye] at hl;subst hl;exact(h t).strip hn
 |const v=>
  cases v with
  |agg vs=>
   simp only[ye] at hl
   split at hl<;>try (cases hl;done)
   rename_i hc
   simp only[p0] at hl
   subst hl
   rw[List.all_eq_true] at hc
   refine .imm _ _ (.agg _ vs (by simp) (fun v hv=>?_) (fun i x v hx hv=>?_))
   ·have:=hc v hv
    cases v<;>simp_all [qm]
   ·rw[pU] at hx
    rw[pF,hv] at hx
    simp only[pM,p0] at hx
    subst hx
    have:=hc v (List.mem_of_getElem? (by rw[pF];exact hv))
    cases v with
    |agg _=>cases this
    |tuple _=>cases this
    |bool b=>exact .bool b
    |int k m=>exact .int k m
    |string s=>exact .str s.data.toList
    |_=>exact .val _ rfl
  |tuple _=>simp[ye] at hl
  |bool b=>simp[ye,Yp] at hl;subst hl;exact .imm _ _ (.bool b)
  |int k m=>simp[ye,Yp] at hl;subst hl;exact .imm _ _ (.int k m)
  |string s=>simp[ye,Yp] at hl;subst hl;exact .imm _ _ (.str s.data.toList)
  |_=>simp[ye,Yp] at hl;subst hl;exact .imm _ _ (.val _ rfl)
 |global g=>simp[ye] at hl
 |func f=>simp[ye] at hl;subst hl;exact .imm _ _ (.fn (.func f) [] [] #[] #[] rfl rfl (by simp) (by simp))
end Go.Fx
namespace Go.Fx
variable {P:Program}
theorem z62{t:TypeId}{g:Bool}(h:Xb P t=some g)(w:World):(isAgg t).run P w=.ok g w:=by
 unfold Xb at h
 unfold isAgg underlying
 cases hu:P.underlying t with
 |none=>simp[hu] at h
 |some d=>cases d<;>simp[hu] at h ⊢<;>simp[←h]
theorem yu{t:TypeId}{n:Nat}(h:xl P t=some n)(w:World):(sizeOf t).run P w=.ok n w:=by
 unfold xl at h
 unfold sizeOf typeInfo
 cases hu:P.info? t with
 |none=>simp[hu] at h
 |some i=>simp[hu] at h ⊢;exact h
theorem za{t:TypeId}{d:TypeDesc}(h:P.underlying t=some d)(w:World):(underlying t).run P w=.ok d w:=by
 unfold underlying;simp[h]
theorem xg(b o j:Nat):(⟨b,o,none⟩:Addr).add j=⟨b,o+j,none⟩:=by
 unfold Addr.add;split
 ·simp_all
 ·rfl
theorem z2q{w:World}{a:Addr}{v:Value}(h:w.cell? a=some v):(load a).run P w=.ok v w:=by simp[h]
theorem Zw{w:World}{b o:Nat}(f:Nat→Value):∀ (n i:Nat) (acc:Array Value),(∀j,i≤j→j<i+n→w.cell? ⟨b,o+j,none⟩=some (f j)) →
 (loadCellsFrom ⟨b,o,none⟩ i n acc).run P w=.ok (acc++((List.range' i n).map f).toArray) w
 |0,i,acc,_=>by simp[loadCellsFrom]
 |n+1,i,acc,h=>by
  unfold loadCellsFrom
  rw[p2,xg,z2q (h i (p6 _) (by omega)),p1,Zw f n (i+1) _ (fun j h1 h2=>h j (by omega) (by omega))]
  simp[List.range'_succ]
theorem Yo{w:World}{b o:Nat}(f:Nat→Value)(n:Nat)(h:∀j,j<n→w.cell? ⟨b,o+j,none⟩=some (f j)) :
 (loadCells ⟨b,o,none⟩ n).run P w=.ok ((pI n).map f).toArray w:=by
 unfold loadCells
 rw[Zw f n 0 #[] (fun j _ h2=>h j (by omega))]
 simp[List.range_eq_range']
section
variable {I:Nat→Nat→Prop} {β:Id→Option CLoc} {n:Nat} {H:AHeap} {w:World} {e:Env} {a:Act}
theorem Ju{v:Value}(h:qm v=true):v.cells=#[v]:=by cases v<;>simp[qm] at h<;>rfl
theorem U6{x:AVal}{v:Value}{cs:List AVal}(h:Rep I β n w x v)(hc:x.cells? = some cs) :
 v.cells.size=cs.length∧(∀u∈v.cells.toList,qm u=true)∧∀ (i:Nat) (y:AVal) (u:Value),cs[i]?=some y→v.cells[i]?=some u→Rep I β n w y u:=by
 have one:x.cells? = some [x]→qm v=true→Rep I β n w x v→cs=[x]→v.cells.size=cs.length∧(∀u∈v.cells.toList,qm u=true)∧∀ (i:Nat) (y:AVal) (u:Value),cs[i]?=some y→v.cells[i]?=some u→Rep I β n w y u:=by
  intro _ h2 h3 h4
  subst h4
  rw[Ju h2]
  refine⟨rfl,by simpa using h2,?_⟩
  intro i y u hy hu
  cases i with
  |zero=>simp at hy hu;subst hy;subst hu;exact h3
  |succ i=>simp at hy
 cases h with
 |any _=>simp[AVal.cells?] at hc
 |cnd _ _ _ _ _=>simp[AVal.cells?] at hc
 |tup _ _ _ _=>simp[AVal.cells?] at hc
 |agg cs' vs h1 h2 h3=>simp[AVal.cells?] at hc;subst hc;exact⟨h1,h2,h3⟩
 |fn f a c fs gs h1 h2 h3 h4=>simp[AVal.cells?] at hc;exact one rfl rfl (.fn f a c fs gs h1 h2 h3 h4) hc.symm
 |ifc t x v h=>simp[AVal.cells?] at hc;exact one rfl rfl (.ifc t x v h) hc.symm
 |osl tok s es v h1 h2 h3=>
  simp[AVal.cells?] at hc
  have hcell:qm v=true:=by cases h2<;>rfl
  exact one rfl hcell (.osl tok s es v h1 h2 h3) hc.symm
 |ptr b i off ad h1 h2=>simp[AVal.cells?] at hc;exact one rfl rfl (.ptr b i off ad h1 h2) hc.symm
 |msl b s off len f ad cap h0 h1 h2 h3=>simp[AVal.cells?] at hc;exact one rfl rfl (.msl b s off len f ad cap h0 h1 h2 h3) hc.symm
 |map b r h1 h2=>simp[AVal.cells?] at hc;exact one rfl rfl (.map b r h1 h2) hc.symm
 |optp b r h1 h2=>simp[AVal.cells?] at hc;exact one rfl rfl (.optp b r h1 h2) hc.symm
 |imm x v h=>
  cases h with
  |agg cs' vs h1 h2 h3=>simp[AVal.cells?] at hc;subst hc;exact⟨h1,h2,fun i y u hy hu=>.imm _ _ (h3 i y u hy hu)⟩
  |tup _ _ _ _=>simp[AVal.cells?] at hc
  |val v hv=>
   have hc':cs=[.val v]:=by cases v<;>simp[AVal.cells?,qm] at hc hv<;>exact hc.symm
   exact one (by cases v<;>simp[AVal.cells?,qm] at hc hv ⊢) hv (.imm _ _ (.val v hv)) hc'
  |_=>simp[AVal.cells?] at hc;exact one rfl rfl (.imm _ _ (by constructor<;>assumption)) hc.symm
theorem Vm{t:TypeId}{g:Bool}{m:Nat}(ht:Xb P t=some g)(hs:xl P t=some m)(hg:g=true∨m=1){b o off:Nat}{r:List AVal}(f:Nat→Value)
 (hc:∀j,j<m→w.cell? ⟨b,o+j,none⟩=some (f j)) (hi:∀j,j<m→qm (f j)=true) (hr:∀j,j<m→Rep I β n w (r.getD (off+j) .any) (f j)) (hl:off+m≤r.length) :
 ∃v,(loadVar t ⟨b,o,none⟩).run P w=.ok v w∧Rep I β n w (yn g m off r) v:=by
 unfold loadVar
 rw[p2,z62 ht,p1]
 cases g with
 |true=>
  refine⟨.agg ((pI m).map f).toArray,?_,?_⟩
  ·simp[yu hs,Yo f m hc]
  ·simp only[yn,if_true]
   refine .agg _ _ (by simp;omega) (by simpa using hi) ?_
   intro i x v hx hv
   simp only[List.getElem?_toArray,pU] at hv
   by_cases hlt:i<m
   ·rw[List.getElem?_range hlt] at hv
    simp at hv;subst hv
    rw[pG hlt,pH] at hx
    have:=hr i hlt
    rwa [pD,hx,Option.getD_some] at this
   ·rw[p9 (by simp;omega)] at hv;simp at hv
 |false=>
  have hm:m=1:=by rcases hg with h|h;cases h;exact h
  subst hm
  refine⟨f 0,?_,?_⟩
  ·have:=hc 0 (by omega)
   simp at this ⊢
   rw[this]
  ·simpa[yn] using hr 0 (by omega)
theorem getD_of_getElem? {r:List AVal} {i:Nat} {x:AVal} (h:r[i]?=some x):r.getD i .any=x:=by
 rw[pD,h];rfl
theorem z1l{t:TypeId}{g:Bool}{m:Nat}(ht:Xb P t=some g)(hs:xl P t=some m)(hg:g=true∨m=1){b:Id}{i off s:Nat}{es:List (List AVal)}{v:Value}(hx:Rep I β n w (.ptr b i off) v)
 {c:CLoc} (hc:β b=some c) (hB:RepB I β n w c (.rows s es)) (h1:i<es.length) (h2:off+m≤s):∃u,(Instr.loadAt t v).run P w=.ok u w∧Rep I β n w (yn g m off (es.getD i [])) u:=by
 obtain⟨rfl,_,_,_,_,hlen,hcell⟩:=hB
 cases hx with
 |imm _ _ hx=>cases hx
 |ptr _ _ _ ad _ hp=>
  have hp:=hp c hc
  subst hp
  have hri:es[i]?=some (es.getD i []):=by simp[p4 h1]
  have hl:=hlen i _ hri
  simp only[Instr.loadAt,pX,pure_bind]
  have key:∀j,j<m→∃u,w.cell? ⟨c.blk,c.base+i*c.s+off+j,none⟩=some u∧qm u=true∧Rep I β n w ((es.getD i []).getD (off+j) .any) u:=by
   intro j hj
   obtain⟨u,h1,h2,h3⟩:=hcell i _ (off+j) _ hri (p4 (by omega:off+j<(es.getD i []).length))
   refine⟨u,?_,h2,?_⟩
   ·rw[←h1];congr 2;omega
   ·rw[getD_of_getElem? (p4 (by omega:off+j<(es.getD i []).length))];exact h3
  refine Vm ht hs hg (fun j=>if h:j<m then Classical.choose (key j h) else default) ?_ ?_ ?_ (by omega)
  all_goals
   intro j hj
   simp only[hj,dif_pos]
   have:=Classical.choose_spec (key j hj)
   first|exact this.1|exact this.2.1|exact this.2.2
theorem z0d{t:TypeId}{g:Bool}{m:Nat}(ht:Xb P t=some g)(hs:xl P t=some m)(hg:g=true∨m=1)(hI:Inv I β n H w){x y:AVal}{v:Value}(hx:Rep I β n w x v)
 {side:Prop} (h:Vx g m H x=.ok side y) (hside:side):∃u,(Instr.loadAt t v).run P w=.ok u w∧Rep I β n w y u:=by
 cases x<;>simp only[Vx] at h<;>try (cases h;done)
 case iptr s es i off=>
  simp only[XR.ok.injEq] at h
  obtain⟨rfl,rfl⟩:=h
  obtain⟨h1,h2⟩:=hside
  cases hx with
  |imm _ _ hx=>
   cases hx with
   |iptr _ _ b o _ _ vf hb hlen hcell hic hrep=>
    have hri:es[i]?=some (es.getD i []):=by simp[p4 h1]
    have hl:=hlen i _ hri
    simp only[Instr.loadAt,pX,pure_bind]
    refine Vm ht hs hg (fun j=>vf i (off+j)) ?_ ?_ ?_ (by omega)
    ·intro j hj
     have:=hcell i _ (off+j) _ hri (p4 (by omega:off+j<(es.getD i []).length))
     rw[←this];congr 2;omega
    ·intro j hj
     exact hic i _ (off+j) _ hri (p4 (by omega:off+j<(es.getD i []).length))
    ·intro j hj
     have:=hrep i _ (off+j) _ hri (p4 (by omega:off+j<(es.getD i []).length))
     rw[getD_of_getElem? (p4 (by omega:off+j<(es.getD i []).length))]
     exact .imm _ _ this
 case ptr b i off=>
  cases hb:H.get b with
  |none=>simp[hb] at h
  |some blk=>
   cases blk with
   |amap es=>simp[hb] at h
   |tok=>simp[hb] at h
   |bld T g=>simp[hb] at h
   |lrec l r e=>simp[hb] at h
   |rmap es arr ck=>simp[hb] at h
   |itr m arr ck seen=>simp[hb] at h
   |mbox b'=>simp[hb] at h
   |buf e bs=>simp[hb] at h
   |one cs=>
    simp only[hb,XR.ok.injEq] at h
    obtain⟨rfl,rfl⟩:=h
    obtain⟨rfl,h2⟩:=hside
    obtain⟨c,hc,hB⟩:=hI.blocks b _ hb
    exact z1l ht hs hg hx hc (wl.1 hB) (by simp) h2
   |rows s es=>
    simp only[hb,XR.ok.injEq] at h
    obtain⟨rfl,rfl⟩:=h
    obtain⟨h1,h2⟩:=hside
    obtain⟨c,hc,hB⟩:=hI.blocks b _ hb
    exact z1l ht hs hg hx hc hB h1 h2
theorem Rep.int_inv{k:IntKind}{m:Int}{v:Value}(h:Rep I β n w (.int k m) v):v=.int k m:=by
 cases h with
 |imm _ _ h=>cases h;rfl
theorem Rep.bool_inv{b:Bool}{v:Value}(h:Rep I β n w (.bool b) v):v=.bool b:=by
 cases h with
 |imm _ _ h=>cases h;rfl
theorem Rep.str_inv{l:List UInt8}{v:Value}(h:Rep I β n w (.str l) v):v=.string ⟨⟨l⟩⟩:=by
 cases h with
 |imm _ _ h=>cases h;rfl
theorem Rep.val_inv{u v:Value}(h:Rep I β n w (.val u) v):v=u:=by
 cases h with
 |imm _ _ h=>cases h;rfl
theorem Zs(l:List UInt8):(⟨⟨l⟩⟩:ByteArray).toList=l:=by rw[ByteArray.toList_eq]
theorem z6f(l m:List UInt8):(⟨⟨l⟩⟩:ByteArray)++(⟨⟨m⟩⟩:ByteArray)=⟨⟨l++m⟩⟩:=by
 apply ByteArray.ext;simp[ByteArray.data_append]
theorem zd5{op:BinOp}{t:TypeId}{xo yo:Operand}{x y z:AVal}{v u:Value}(hx:Rep I β n w x v)(hy:Rep I β n w y u){side:Prop}(h:zi8 op x y=.ok side z)(hside:side) :
 ∃r,(do eqGuard op t xo yo v u;binOp op t v u:Sem Value).run P w=.ok r w∧Rep I β n w z r:=by
 cases x<;>cases y<;>simp only[zi8] at h<;>try (cases h;done)
 case int.int k p k' q=>
  obtain rfl:=hx.int_inv
  obtain rfl:=hy.int_inv
  cases op<;>simp only[XR.ok.injEq] at h<;>obtain⟨rfl,rfl⟩:=h
  all_goals (try (obtain⟨hk,hq⟩:=hside))<;>(try subst hk)<;>(try (subst hside))
  all_goals refine⟨_,?_,.imm _ _ (by constructor)⟩
  all_goals simp[eqGuard,binOp,Op.intArith,Op.intDiv,Op.intBits,Op.intCmp,Op.shift,Xz, *]
  all_goals (intro hq;omega)
 case str.str l m=>
  obtain rfl:=hx.str_inv
  obtain rfl:=hy.str_inv
  have e1:(⟨⟨l⟩⟩:ByteArray).size=l.length:=rfl
  have e2:(⟨⟨m⟩⟩:ByteArray).size=m.length:=rfl
  have e3:IntKind.i64.max=9223372036854775807:=by decide
  cases op<;>simp only[XR.ok.injEq,reduceCtorEq] at h<;>(try (cases h;done))<;>obtain⟨rfl,rfl⟩:=h
  all_goals refine⟨_,?_,.imm _ _ (by constructor)⟩
  all_goals simp[eqGuard,binOp,Op.stringOp,e1,e2,e3]
  rw[if_neg (by omega),z6f]
theorem zgm{op:UnOp}{x z:AVal}{v:Value}(hx:Rep I β n w x v){side:Prop}(h:xun op x=.ok side z):∃r,(Op.unary op v).run P w=.ok r w∧Rep I β n w z r:=by
 cases x<;>simp only[xun] at h<;>try (cases h;done)
 case bool b=>
  obtain rfl:=hx.bool_inv
  cases op<;>simp only[XR.ok.injEq,reduceCtorEq] at h<;>(try (cases h;done))
  obtain⟨rfl,rfl⟩:=h
  exact⟨_,rfl,.imm _ _ (.bool _)⟩
 case int k m=>
  obtain rfl:=hx.int_inv
  cases op<;>simp only[XR.ok.injEq,reduceCtorEq] at h<;>(try (cases h;done))<;>obtain⟨rfl,rfl⟩:=h
  all_goals exact⟨_,rfl,.imm _ _ (.int _ _)⟩
theorem Rep.ptr_inv{b:Id}{i off:Nat}{v:Value}(h:Rep I β n w (.ptr b i off) v):∃a,v=.pointer (some a):=by
 cases h with
 |imm _ _ h=>cases h
 |ptr _ _ _ a _ _=>exact⟨a,rfl⟩
theorem Rep.iptr_inv{s i off:Nat}{es:List (List AVal)}{v:Value}(h:Rep I β n w (.iptr s es i off) v):∃b o,v=.pointer (some ⟨b,o,none⟩):=by
 cases h with
 |imm _ _ h=>cases h;exact⟨_,_,rfl⟩
theorem Rep.msl_inv{b:Id}{s off len:Nat}{f:Bool}{v:Value}(h:Rep I β n w (.msl b s off len f) v):∃a cap,v=.slice a len cap∧len≤cap∧(f=true→cap=len)∧(a=none→cap=0):=by
 cases h with
 |imm _ _ h=>cases h
 |msl _ _ _ _ _ a cap _ h1 h2 _=>exact⟨a,cap,rfl,h1.1,h2,h1.2⟩
theorem Rep.isl_inv{s:Nat}{es:List (List AVal)}{f:Bool}{v:Value}(h:Rep I β n w (.isl s es f) v):∃a cap,v=.slice a es.length cap∧es.length≤cap∧(f=true→cap=es.length)∧(es≠[]→a≠none):=by
 cases h with
 |imm _ _ h=>
  cases h with
  |islNil=>exact⟨none,0,rfl,p6 _,fun _=>rfl,fun h=>absurd rfl h⟩
  |islEmpty _ _ a cap h=>exact⟨some a,cap,rfl,Nat.zero_le _,h,fun h=>absurd rfl h⟩
  |isl _ _ _ b o cap vf h1 h2 h3=>exact⟨_,cap,rfl,h2,h3,fun _ h=>by cases h⟩
theorem Rep.rd{x:AVal}{v:Value}(h:Rep I β n w x v):Rep I β n w x.rd v:=by
 cases x with
 |osl tok s es=>
  cases h with
  |imm _ _ h=>cases h
  |osl _ _ _ _ _ h=>exact .imm _ _ h
 |_=>exact h
theorem z4u{t:TypeId}{fs:Array Field}{i:Nat}{f:Field}{m:Nat}(ht:P.underlying t=some (.struct fs))(hf:fs[i]?=some f)(hs:xl P f.type=some m)(hm:m≠0)
 {x y:AVal} {v:Value} (hx:Rep I β n w x v) {side:Prop} (h:z1n f.offset x=.ok side y):∃u,(Instr.fieldAt t v i).run P w=.ok u w∧Rep I β n w y u:=by
 have key:∀ad:Addr,(Instr.fieldAt t (.pointer (some ad)) i).run P w=.ok (.pointer (some (ad.add f.offset))) w:=by
  intro ad
  simp only[Instr.fieldAt,pX,fieldPlace,p2,za ht,p1,hf,p5,yu hs,pure_bind,Sem.run_ite,if_neg hm]
 cases x<;>simp only[z1n] at h<;>try (cases h;done)
 case iptr s es i0 o=>
  simp only[XR.ok.injEq] at h
  obtain⟨_,rfl⟩:=h
  cases hx with
  |imm _ _ hx=>
   cases hx with
   |iptr _ _ b o' _ _ vf hb hlen hcell hic hrep=>
    refine⟨_,key _,?_⟩
    rw[xg,pK]
    exact .imm _ _ (.iptr s es b o' i0 (o+f.offset) vf hb hlen hcell hic hrep)
 case ptr b i0 o=>
  simp only[XR.ok.injEq] at h
  obtain⟨_,rfl⟩:=h
  cases hx with
  |imm _ _ hx=>cases hx
  |ptr _ _ _ ad hb hp=>
   refine⟨_,key _,.ptr _ _ _ _ hb fun c hc=>?_⟩
   rw[hp c hc,xg,pK]
theorem u6(k:IntKind)(m:Int):(asIntOf (.int k m)).run P w=.ok (k,m) w:=rfl
theorem z6d{t c:TypeId}{s:Nat}(ht:P.underlying t=some (.slice c))(hs:xl P c=some s){x j y:AVal}{v u:Value}(hx:Rep I β n w x v)(hj:Rep I β n w j u)
 {side:Prop} (h:Ub s x j=.ok side y) (hside:side):∃r,(pO t v u).run P w=.ok r w∧Rep I β n w y r:=by
 have key:∀ (ad:Addr) (len cap:Nat) (k:IntKind) (m:Int),0≤m→m<(len:Int)→(pO t (.slice (some ad) len cap) (.int k m)).run P w=.ok (.pointer (some (ad.add (m.toNat * s)))) w:=by
  intro ad len cap k m h1 h2
  simp only[pO,p2,u6,za ht,p1,p5,if_pos (And.intro h1 h2),yu hs,Sem.run_ite]
 cases x<;>cases j<;>simp only[Ub] at h<;>try (cases h;done)
 case isl.int s' es f k m=>
  simp only[XR.ok.injEq] at h
  obtain⟨rfl,rfl⟩:=h
  obtain⟨rfl,h1,h2⟩:=hside
  obtain rfl:=hj.int_inv
  cases hx with
  |imm _ _ hx=>
   cases hx with
   |islNil=>simp at h2;omega
   |islEmpty=>simp at h2;omega
   |isl _ _ _ b o cap vf hb hcap hf hlen hcell hic hrep=>
    refine⟨_,key _ _ _ _ _ h1 h2,?_⟩
    rw[xg]
    exact .imm _ _ (.iptr s es b o m.toNat 0 vf hb hlen hcell hic hrep)
 case msl.int b s' off len f k m=>
  simp only[XR.ok.injEq] at h
  obtain⟨rfl,rfl⟩:=h
  obtain⟨rfl,h1,h2⟩:=hside
  obtain rfl:=hj.int_inv
  cases hx with
  |imm _ _ hx=>cases hx
  |msl _ _ _ _ _ ad cap hb hcap hf hp=>
   have hne:cap≠0:=by omega
   cases ad with
   |none=>exact absurd (hcap.2 rfl) hne
   |some ad=>
   refine⟨_,key _ _ _ _ _ h1 h2,.ptr _ _ _ _ hb fun c hc=>?_⟩
   obtain⟨h3,h4⟩:=hp c hc
   rw[Option.some.inj (h4 hne).1,xg,h3,pL,pY,pK]
theorem z35{t c:TypeId}{s len:Nat}(ht:P.underlying t=some (.array len c))(hs:xl P c=some s){x j y:AVal}{v u:Value}(hx:Rep I β n w x v)(hj:Rep I β n w j u)
 {side:Prop} (h:Uu len s x j=.ok side y) (hside:side):∃r,(pO t v u).run P w=.ok r w∧Rep I β n w y r:=by
 have key:∀ (ad:Addr) (k:IntKind) (m:Int),0≤m→m<(len:Int)→(pO t (.pointer (some ad)) (.int k m)).run P w=.ok (.pointer (some (ad.add (m.toNat * s)))) w:=by
  intro ad k m h1 h2
  simp only[pO,pX,p2,u6,za ht,p1,p5,if_pos (And.intro h1 h2),yu hs,Sem.run_ite]
 cases x<;>cases j<;>simp only[Uu] at h<;>try (cases h;done)
 case iptr.int s' es i0 o k m=>
  simp only[XR.ok.injEq] at h
  obtain⟨rfl,rfl⟩:=h
  obtain⟨h1,h2⟩:=hside
  obtain rfl:=hj.int_inv
  cases hx with
  |imm _ _ hx=>
   cases hx with
   |iptr _ _ b o' _ _ vf hb hlen hcell hic hrep=>
    refine⟨_,key _ _ _ h1 h2,?_⟩
    rw[xg,pK]
    exact .imm _ _ (.iptr s' es b o' i0 (o+m.toNat * s) vf hb hlen hcell hic hrep)
 case ptr.int b i0 o k m=>
  simp only[XR.ok.injEq] at h
  obtain⟨rfl,rfl⟩:=h
  obtain⟨h1,h2⟩:=hside
  obtain rfl:=hj.int_inv
  cases hx with
  |imm _ _ hx=>cases hx
  |ptr _ _ _ ad hb hp=>
   refine⟨_,key _ _ _ h1 h2,.ptr _ _ _ _ hb fun c hc=>?_⟩
   rw[hp c hc,xg,pK]
theorem z2o{t c:TypeId}{s len:Nat}(ht:P.underlying t=some (.array len c))(hs:xl P c=some s)(hI:Inv I β n H w){x j y:AVal}{v u:Value}(hx:Rep I β n w x v)(hj:Rep I β n w j u)
 {side:Prop} (h:Jg len s H x j=.ok side y) (hside:side):∃r,(pO t v u).run P w=.ok r w∧Rep I β n w y r:=by
 have key:∀ (ad:Addr) (k:IntKind) (m:Int),0≤m→m<(len:Int)→(pO t (.pointer (some ad)) (.int k m)).run P w=.ok (.pointer (some (ad.add (m.toNat * s)))) w:=by
  intro ad k m h1 h2
  simp only[pO,pX,p2,u6,za ht,p1,p5,if_pos (And.intro h1 h2),yu hs,Sem.run_ite]
 unfold Jg at h
 split at h<;>try (cases h;done)
 rename_i b i0 k m
 split at h<;>try (cases h;done)
 rename_i s' es hb
 simp only[XR.ok.injEq] at h
 obtain⟨rfl,rfl⟩:=h
 obtain⟨rfl,h1,h2⟩:=hside
 obtain rfl:=hj.int_inv
 obtain⟨c0,hc0,hB⟩:=hI.blocks b _ hb
 have hcs:c0.s=s:=hB.1
 cases hx with
 |imm _ _ hx=>cases hx
 |ptr _ _ _ ad hbn hp=>
  refine⟨_,key _ _ _ h1 h2,.ptr _ _ _ _ hbn fun c hc=>?_⟩
  have hcc:c=c0:=by rw[hc0] at hc;exact(Option.some.inj hc).symm
  subst hcc
  rw[hp c hc,xg,hcs,pL,pY,pY,pK]
theorem z8c{t c:TypeId}{s len:Nat}(ht:P.underlying t=some (.array len c))(hs:xl P c=some s)(hI:Inv I β n H w){x y:AVal}{v:Value}(hx:Rep I β n w x v)
 {side:Prop} (h:zcp len s H x=.ok side y) (hside:side):∃r,(pP t v none none none).run P w=.ok r w∧Rep I β n w y r:=by
 have key:∀ (ad:Addr),(pP t (.pointer (some ad)) none none none).run P w=.ok (.slice (some ad) len len) w:=by
  intro ad
  have h0:(ad.add 0)=ad:=by cases ad;simp[Addr.add]
  simp[pP,pX,pJ,p2,za ht,p1,yu hs,h0]
 unfold zcp at h
 split at h<;>try (cases h;done)
 rename_i b i0
 split at h<;>try (cases h;done)
 rename_i s' es hb
 simp only[XR.ok.injEq] at h
 obtain⟨rfl,rfl⟩:=h
 obtain⟨rfl,h1⟩:=hside
 obtain⟨c0,hc0,hB⟩:=hI.blocks b _ hb
 have hcs:c0.s=s:=hB.1
 cases hx with
 |imm _ _ hx=>cases hx
 |ptr _ _ _ ad hbn hp=>
  refine⟨_,key ad,.msl _ _ _ _ _ _ _ hbn ⟨p6 _,fun h=>by cases h⟩ (fun _=>rfl) fun c hc=>?_⟩
  have hcc:c=c0:=by rw[hc0] at hc;exact(Option.some.inj hc).symm
  subst hcc
  refine⟨hcs,fun _=>⟨by rw[hp c hc,hcs,pY],?_⟩⟩
  obtain⟨_,_,_,_,h5,_⟩:=hB
  have:=pN s h1
  omega
theorem Rep.agg_inv{cs:List AVal}{v:Value}(h:Rep I β n w (.agg cs) v):∃vs,v=.agg vs∧vs.size=cs.length∧(∀u∈vs.toList,qm u=true)∧∀ (i:Nat) (y:AVal) (u:Value),cs[i]?=some y→vs[i]?=some u→Rep I β n w y u:=by
 cases h with
 |agg _ vs h1 h2 h3=>exact⟨vs,rfl,h1,h2,h3⟩
 |imm _ _ h=>
  cases h with
  |agg _ vs h1 h2 h3=>exact⟨vs,rfl,h1,h2,fun i y u hy hu=>.imm _ _ (h3 i y u hy hu)⟩
theorem Yc{t:TypeId}{g:Bool}{m off:Nat}(ht:Xb P t=some g)(hs:xl P t=some m)(hg:g=true∨m=1){cs:List AVal}{vs:Array Value}(h1:vs.size=cs.length)
 (h2:∀u∈vs.toList,qm u=true) (h3:∀ (i:Nat) (y:AVal) (u:Value),cs[i]?=some y→vs[i]?=some u→Rep I β n w y u) (hl:off+m≤cs.length) :
 ∃r,(part t vs off).run P w=.ok r w∧Rep I β n w (yn g m off cs) r:=by
 unfold part
 rw[p2,z62 ht,p1]
 cases g with
 |true=>
  refine⟨.agg (vs.extract off (off+m)),by simp[yu hs],?_⟩
  simp only[yn,if_true]
  refine .agg _ _ (by simp;omega) ?_ ?_
  ·intro u hu
   simp only[Array.toList_extract,List.extract_eq_take_drop] at hu
   exact h2 u (List.mem_of_mem_drop (List.mem_of_mem_take hu))
  ·intro i x v hx hv
   rw[Array.getElem?_extract] at hv
   by_cases hlt:i<m
   ·rw[pG hlt,pH] at hx
    rw[if_pos (by omega)] at hv
    exact h3 _ _ _ hx hv
   ·rw[p9 (by simp;omega)] at hx;simp at hx
 |false=>
  have hm:m=1:=by rcases hg with h|h;cases h;exact h
  subst hm
  have hlt:off<vs.size:=by omega
  refine⟨vs[off],by simp[hlt],?_⟩
  simp only[yn,p7,if_false]
  rw[getD_of_getElem? (p4 (by omega:off<cs.length))]
  exact h3 off _ _ (p4 (by omega)) (pB hlt)
theorem z5x{t:TypeId}{fs:Array Field}{i:Nat}{f:Field}{g:Bool}{m:Nat}(ht:P.underlying t=some (.struct fs))(hf:fs[i]?=some f)(hg:Xb P f.type=some g)(hs:xl P f.type=some m)(hgm:g=true∨m=1)
 {x y:AVal} {v:Value} (hx:Rep I β n w x v) {side:Prop} (h:z0y g m f.offset x=.ok side y) (hside:side):∃u,(Instr.field t v i).run P w=.ok u w∧Rep I β n w y u:=by
 cases x<;>simp only[z0y] at h<;>try (cases h;done)
 simp only[XR.ok.injEq] at h
 obtain⟨rfl,rfl⟩:=h
 obtain⟨vs,rfl,h1,h2,h3⟩:=hx.agg_inv
 obtain⟨r,hr,hrep⟩:=Yc hg hs hgm h1 h2 h3 hside
 refine⟨r,?_,hrep⟩
 simp only[Instr.field,asAgg,p2,za ht,p1,hf,p5,hr]
theorem z8a{t c:TypeId}{s len:Nat}{g:Bool}(ht:P.underlying t=some (.array len c))(hg:Xb P c=some g)(hs:xl P c=some s)(hgm:g=true∨s=1){x j y:AVal}{v u:Value}(hx:Rep I β n w x v)(hj:Rep I β n w j u)
 {side:Prop} (h:zf6 len s g x j=.ok side y) (hside:side):∃r,(Instr.index t v u).run P w=.ok r w∧Rep I β n w y r:=by
 cases x<;>cases j<;>simp only[zf6] at h<;>try (cases h;done)
 simp only[XR.ok.injEq] at h
 obtain⟨rfl,rfl⟩:=h
 obtain⟨h4,h5,h6⟩:=hside
 obtain rfl:=hj.int_inv
 obtain⟨vs,rfl,h1,h2,h3⟩:=hx.agg_inv
 obtain⟨r,hr,hrep⟩:=Yc hg hs hgm h1 h2 h3 h6
 refine⟨r,?_,hrep⟩
 simp only[Instr.index,p2,u6,za ht,p1,if_pos (And.intro h4 h5),yu hs,Sem.run_ite,hr]
theorem z83{t:TypeId}(ht:P.underlying t=some .string){x j y:AVal}{v u:Value}(hx:Rep I β n w x v)(hj:Rep I β n w j u)
 {side:Prop} (h:zh6 x j=.ok side y) (hside:side):∃r,(Instr.index t v u).run P w=.ok r w∧Rep I β n w y r:=by
 cases x<;>cases j<;>simp only[zh6] at h<;>try (cases h;done)
 case str.int l k m=>
 simp only[XR.ok.injEq] at h
 obtain⟨rfl,rfl⟩:=h
 obtain⟨h4,h5⟩:=hside
 obtain rfl:=hj.int_inv
 obtain rfl:=hx.str_inv
 refine⟨_,?_,.imm _ _ (.int _ _)⟩
 have hlt:m.toNat<l.length:=by omega
 have e:(⟨⟨l⟩⟩:ByteArray)[m.toNat]?=some (l.getD m.toNat 0):=by
  have hsz:m.toNat<(⟨⟨l⟩⟩:ByteArray).size:=hlt
  rw[getElem?_pos (⟨⟨l⟩⟩:ByteArray) m.toNat hsz,pD,p4 hlt];rfl
 simp only[Instr.index,p2,u6,za ht,p1,if_pos h4,e,p5]
theorem zbt{k:Nat}{x y:AVal}{v:Value}(hx:Rep I β n w x v){side:Prop}(h:zrv k x=.ok side y)(hside:side):∃r,(Instr.extract v k).run P w=.ok r w∧Rep I β n w y r:=by
 cases x<;>simp only[zrv] at h<;>try (cases h;done)
 case tup cs=>
  simp only[XR.ok.injEq] at h
  obtain⟨rfl,rfl⟩:=h
  have:∃vs,v=.tuple vs∧vs.size=cs.length∧∀ (i:Nat) (y:AVal) (u:Value),cs[i]?=some y→vs[i]?=some u→Rep I β n w y u:=by
   cases hx with
   |tup _ vs h1 h2=>exact⟨vs,rfl,h1,h2⟩
   |imm _ _ hx=>
    cases hx with
    |tup _ vs h1 h2=>exact⟨vs,rfl,h1,fun i y u hy hu=>.imm _ _ (h2 i y u hy hu)⟩
  obtain⟨vs,rfl,h1,h2⟩:=this
  have hlt:k<vs.size:=by omega
  refine⟨vs[k],by simp[Instr.extract,hlt],?_⟩
  rw[getD_of_getElem? (p4 hside)]
  exact h2 k _ _ (p4 hside) (pB hlt)
theorem z5l{x y:AVal}{v:Value}(hx:Rep I β n w x v){side:Prop}(h:z1s x=.ok side y):Rep I β n w y v∧((∃ad,v=.pointer (some ad))∨∃f fs cs,v=.func (.func f) fs cs):=by
 unfold z1s at h
 split at h<;>simp only[XR.ok.injEq,reduceCtorEq] at h<;>(try (cases h;done))<;>obtain⟨_,rfl⟩:=h
 ·obtain⟨b,o,rfl⟩:=hx.iptr_inv
  exact⟨hx,.inl ⟨_,rfl⟩⟩
 ·obtain⟨b,rfl⟩:=hx.ptr_inv
  exact⟨hx,.inl ⟨_,rfl⟩⟩
 ·refine⟨hx,.inr ?_⟩
  cases hx with
  |fn _ _ _ fs cs=>exact⟨_,_,_,rfl⟩
  |imm _ _ h=>cases h;exact⟨_,_,_,rfl⟩
theorem z7m{t rt:TypeId}(ht:P.underlying t=some .string){x y:AVal}{v:Value}(hx:Rep I β n w x v){side:Prop}(h:zc5 x=.ok side y) :
 ∃r,(Builtin.len_ #[t] rt #[v]).run P w=.ok r w∧Rep I β n w y r:=by
 cases x<;>simp only[zc5] at h<;>try (cases h;done)
 simp only[XR.ok.injEq] at h
 obtain⟨_,rfl⟩:=h
 obtain rfl:=hx.str_inv
 exact⟨_,by simp[Builtin.len_,za ht];rfl,.imm _ _ (.int _ _)⟩
theorem z6z{t c rt:TypeId}(ht:P.underlying t=some (.slice c)){x y:AVal}{v:Value}(hx:Rep I β n w x v){side:Prop}(h:z6y x=.ok side y) :
 ∃r,(Builtin.len_ #[t] rt #[v]).run P w=.ok r w∧Rep I β n w y r:=by
 unfold z6y at h
 split at h<;>simp only[XR.ok.injEq,reduceCtorEq] at h<;>(try (cases h;done))<;>obtain⟨_,rfl⟩:=h
 ·obtain⟨ad,cap,rfl,_⟩:=hx.isl_inv
  exact⟨_,by simp[Builtin.len_,za ht];rfl,.imm _ _ (.int _ _)⟩
 ·obtain⟨ad,cap,rfl,_⟩:=hx.msl_inv
  exact⟨_,by simp[Builtin.len_,za ht];rfl,.imm _ _ (.int _ _)⟩
 ·obtain rfl:=hx.val_inv
  exact⟨_,by simp[Builtin.len_,za ht];rfl,.imm _ _ (.int _ _)⟩
theorem uk{e:Env}{a:Act}(hE:RepEnv I β n w e a){x:Option Operand}{y:Option LOpd}(hl:js x=some y){d:Nat}{z:Int}(hb:xb e d y=some z)(hn:ud e y) :
 (x=none∧z=d)∨∃o k,x=some o∧a.eval o=.int k z:=by
 cases x with
 |none=>simp[js] at hl;subst hl;simp[xb] at hb;exact .inl ⟨rfl,hb.symm⟩
 |some o=>
  simp[js] at hl
  obtain⟨y',hy',rfl⟩:=hl
  have hr:=zu hE hy' hn
  simp only[xb] at hb
  split at hb
  ·rename_i k j hev
   simp at hb;subst hb
   rw[hev] at hr
   exact .inr ⟨o,k,rfl,hr.int_inv⟩
  ·cases hb
theorem jk{k:IntKind}{m:Int}{y:Nat}{code:BoundsCode}(h1:0≤m)(h2:m≤y):(Instr.sliceBound (.int k m) y code).run P w=.ok m.toNat w:=by
 simp only[Instr.sliceBound,p2,u6,p1,Sem.run_ite,if_pos (And.intro h1 h2),p5]
theorem z8b{a:Act}{isS:Bool}{len cap:Nat}{lo hi:Option Operand}{p q:Int}(hlo:(lo=none∧p=((0:Nat):Int))∨∃o k,lo=some o∧a.eval o=.int k p)(hhi:(hi=none∧q=(len:Int))∨∃o k,hi=some o∧a.eval o=.int k q)
 (h0:0≤p) (h1:p≤q) (h2:q≤(cap:Int)) :
 (pJ isS len cap (lo.map a.eval) (hi.map a.eval) none).run P w=.ok (p.toNat,q.toNat,cap) w:=by
 have e1:p≤((q.toNat:Nat):Int):=by omega
 unfold pJ
 rcases hhi with⟨rfl,hq⟩|⟨o2,k2,rfl,hq⟩<;>rcases hlo with⟨rfl,hp⟩|⟨o1,k1,rfl,hp⟩
 ·subst hq;subst hp;simp
 ·subst hq
  have e2:p≤((len:Nat):Int):=by omega
  simp[hp,jk h0 e2]
 ·subst hp
  simp[hq,jk (Int.le_trans h0 h1) h2]
 ·simp[hq,hp,jk (Int.le_trans h0 h1) h2,jk h0 e1]
theorem zpl{a:Act}{len cap:Nat}{lo hi mx:Option Operand}{p q m:Int}{om:Operand}{km:IntKind}(hlo:(lo=none∧p=((0:Nat):Int))∨∃o k,lo=some o∧a.eval o=.int k p)(hhi:∃o k,hi=some o∧a.eval o=.int k q)
 (hm:mx=some om) (hme:a.eval om=.int km m) (h0:0≤p) (h1:p≤q) (h2:q≤m) (h3:m≤(cap:Int)) :
 (pJ true len cap (lo.map a.eval) (hi.map a.eval) (mx.map a.eval)).run P w=.ok (p.toNat,q.toNat,m.toNat) w:=by
 have e1:p≤((q.toNat:Nat):Int):=by omega
 have e2:q≤((m.toNat:Nat):Int):=by omega
 have e3:0≤q:=by omega
 have e4:0≤m:=by omega
 obtain⟨o2,k2,rfl,hq⟩:=hhi
 subst hm
 unfold pJ
 rcases hlo with⟨rfl,hp⟩|⟨o1,k1,rfl,hp⟩
 ·subst hp
  simp[hq,hme,jk e3 e2,jk e4 h3]
 ·simp[hq,hp,hme,jk e3 e2,jk e4 h3,jk h0 e1]
theorem W4(l:List UInt8)(p q:Nat):(⟨⟨l⟩⟩:ByteArray).extract p q=⟨⟨(l.take q).drop p⟩⟩:=by
 apply ByteArray.ext
 apply Array.ext'
 simp[ByteArray.data_extract,List.extract_eq_take_drop,List.drop_take]
theorem z67{t:TypeId}(ht:P.underlying t=some .string)(hE:RepEnv I β n w e a){lo hi:Option Operand}{lo' hi':Option LOpd}(hlo:js lo=some lo')(hhi:js hi=some hi')(nlo:ud e lo')(nhi:ud e hi')
 {x y:AVal} {v:Value} (hx:Rep I β n w x v) {side:Prop} (h:z1i (fun d=>xb e d lo') (fun d=>xb e d hi') x=.ok side y) (hside:side) :
 ∃r,(pP t v (lo.map a.eval) (hi.map a.eval) none).run P w=.ok r w∧Rep I β n w y r:=by
 cases x<;>simp only[z1i] at h<;>try (cases h;done)
 case str l=>
 cases hp:xb e 0 lo' with
 |none=>simp[hp] at h
 |some p=>
  cases hq:xb e l.length hi' with
  |none=>simp[hp,hq] at h
  |some q=>
   simp only[hp,hq,XR.ok.injEq] at h
   obtain⟨rfl,rfl⟩:=h
   obtain⟨h1,h2,h3⟩:=hside
   obtain rfl:=hx.str_inv
   refine⟨_,?_,.imm _ _ (.str _)⟩
   have:=z8b (P:=P) (w:=w) (isS:=false) (len:=l.length) (cap:=l.length) (uk hE hlo hp nlo) (uk hE hhi hq nhi) h1 h2 h3
   have e1:(⟨⟨l⟩⟩:ByteArray).size=l.length:=rfl
   simp only[pP,Instr.slice,p2,za ht,p1,Option.isSome_none,p7,if_false,e1,this,p5,W4]
theorem zk1{s:Nat}{es:List (List AVal)}{p q:Nat}{vf:Nat→Nat→Value}(o b:Nat)
 (hlen:∀ (i:Nat) (r:List AVal),es[i]?=some r→r.length=s)
 (hcell:∀ (i:Nat) (r:List AVal) (j:Nat) (x:AVal),es[i]?=some r→r[j]?=some x→w.cell? ⟨b,o+i*s+j,none⟩=some (vf i j))
 (hic:∀ (i:Nat) (r:List AVal) (j:Nat) (x:AVal),es[i]?=some r→r[j]?=some x→qm (vf i j)=true)
 (hrep:∀ (i:Nat) (r:List AVal) (j:Nat) (x:AVal),es[i]?=some r→r[j]?=some x→RepI I w x (vf i j)) :
 (∀ (i:Nat) (r:List AVal),((es.take q).drop p)[i]?=some r→r.length=s) ∧
 (∀ (i:Nat) (r:List AVal) (j:Nat) (x:AVal),((es.take q).drop p)[i]?=some r→r[j]?=some x→w.cell? ⟨b,o+p*s+i*s+j,none⟩=some (vf (p+i) j)) ∧
 (∀ (i:Nat) (r:List AVal) (j:Nat) (x:AVal),((es.take q).drop p)[i]?=some r→r[j]?=some x→qm (vf (p+i) j)=true) ∧
 (∀ (i:Nat) (r:List AVal) (j:Nat) (x:AVal),((es.take q).drop p)[i]?=some r→r[j]?=some x→RepI I w x (vf (p+i) j)):=by
 have key:∀ (i:Nat) (r:List AVal),((es.take q).drop p)[i]?=some r→es[p+i]?=some r:=by
  intro i r h
  rw[pH,List.getElem?_take] at h
  split at h
  ·exact h
  ·cases h
 refine⟨fun i r h=>hlen _ _ (key i r h),fun i r j x h hj=>?_,fun i r j x h hj=>hic _ _ j x (key i r h) hj,fun i r j x h hj=>hrep _ _ j x (key i r h) hj⟩
 have:=hcell _ _ j x (key i r h) hj
 rw[←this,pL]
 congr 2
 omega
theorem z1u{t c:TypeId}{s:Nat}(ht:P.underlying t=some (.slice c))(hs:xl P c=some s){ad:Option Addr}{len cap p q m:Nat}{lo hi mx:Option Value}(hb:(pJ true len cap lo hi mx).run P w=.ok (p,q,m) w) :
 (pP t (.slice ad len cap) lo hi mx).run P w=.ok (.slice (if m=p then ad else ad.map (·.add (p*s))) (q-p) (m-p)) w:=by
 simp only[pP,Instr.slice,p2,za ht,p1,hb,yu hs,p5]
theorem z2y{s:Nat}{es:List (List AVal)}{f f':Bool}{p q m:Nat}{ad:Option Addr}{cap:Nat}(hx:RepI I w (.isl s es f) (.slice ad es.length cap))(h1:p≤q)(h2:q≤es.length)(hm:q≤m)(hmc:m≤cap)(hf:f'=true→m=q) :
 RepI I w (.isl s ((es.take q).drop p) f') (.slice (if m=p then ad else ad.map (·.add (p*s))) (q-p) (m-p)):=by
 by_cases hqp:q=p
 ·subst hqp
  have e1:((es.take q).drop q)=[]:=by simp
  rw[e1,Nat.sub_self]
  cases ad with
  |none=>
   have:(if m=q then(none:Option Addr) else(none:Option Addr).map (·.add (q*s)))=none:=by split<;>rfl
   rw[this]
   have hc:cap=0:=by cases hx;rfl
   have:m-q=0:=by omega
   rw[this]
   exact .islNil _ _
  |some ad=>
   have:∃ad',(if m=q then some ad else(some ad).map (·.add (q*s)))=some ad':=by split<;>exact⟨_,rfl⟩
   obtain⟨ad',had⟩:=this
   rw[had]
   exact .islEmpty _ _ _ _ (fun h=>by have:=hf h;omega)
 ·cases hx with
  |islNil=>simp at h2;omega
  |islEmpty=>simp at h2;omega
  |isl _ _ _ b o _ vf hb hcap hfull hlen hcell hic hrep=>
   obtain⟨g1,g2,g3,g4⟩:=zk1 (w:=w) (I:=I) (p:=p) (q:=q) o b hlen hcell hic hrep
   have hl:((es.take q).drop p).length=q-p:=by simp;omega
   rw[if_neg (by omega)]
   have:(some (⟨b,o,none⟩:Addr)).map (·.add (p*s))=some ⟨b,o+p*s,none⟩:=by simp[xg]
   rw[this,←hl]
   refine .isl s _ f' b (o+p*s) (m-p) (fun i j=>vf (p+i) j) (fun i r j x hi hj=>by
    have h1:es[p+i]?=some r:=by
     rw[pH,List.getElem?_take] at hi
     split at hi
     ·exact hi
     ·cases hi
    have:=hb (p+i) r j x h1 hj
    rw[pL] at this
    rw[show o+p*s+i*s+j=o+(p*s+i*s)+j by omega]
    exact this) (by omega) (fun h=>by have:=hf h;omega) g1 g2 g3 g4
theorem z9g{id:Id}{s off len:Nat}{f f':Bool}{p q m:Nat}{ad:Option Addr}{cap:Nat}(hx:Rep I β n w (.msl id s off len f) (.slice ad len cap))(h1:p≤q)(hm:q≤m)(hmc:m≤cap)(hf:f'=true→m=q) :
 ∃ad',(if m=p then ad else ad.map (·.add (p*s)))=ad'∧Rep I β n w (.msl id s (off+p) (q-p) f') (.slice ad' (q-p) (m-p)):=by
 cases hx with
 |imm _ _ hx=>cases hx
 |msl _ _ _ _ _ _ _ hb hcap hfull hp=>
  by_cases hmp:m=p
  ·refine⟨ad,by simp[hmp],.msl _ _ _ _ _ _ _ hb ⟨by omega,fun _=>by omega⟩ (fun h=>by have:=hf h;omega) fun c hc=>⟨(hp c hc).1,fun hne=>by omega⟩⟩
  ·refine⟨ad.map (·.add (p*s)),by simp[hmp],.msl _ _ _ _ _ _ _ hb ⟨by omega,fun h=>by have:=hcap.2 (by simpa using h);omega⟩ (fun h=>by have:=hf h;omega) fun c hc=>⟨(hp c hc).1,fun hne=>?_⟩⟩
   obtain⟨g1,g2⟩:=(hp c hc).2 (by omega)
   refine⟨?_,?_⟩
   ·rw[g1,pM,xg,pL,pK]
   ·have:off+p+(m-p)=off+m:=by omega
    rw[this]
    have:(off+m)*s≤(off+cap)*s:=pN _ (by omega)
    omega
theorem Uh{t c:TypeId}{s:Nat}(ht:P.underlying t=some (.slice c))(hs:xl P c=some s)(hE:RepEnv I β n w e a){lo hi mx:Option Operand}{lo' hi' mx':Option LOpd}(hlo:js lo=some lo')(hhi:js hi=some hi')(hmx:js mx=some mx')
 (hmh:(mx'.isSome&&hi'.isNone)=false) (nlo:ud e lo') (nhi:ud e hi') (nmx:ud e mx')
 {x y:AVal} {v:Value} (hx:Rep I β n w x v) {side:Prop} (h:z2a s (fun d=>xb e d lo') (fun d=>xb e d hi') (z0r e mx') x=.ok side y) (hside:side) :
 ∃r,(pP t v (lo.map a.eval) (hi.map a.eval) (mx.map a.eval)).run P w=.ok r w∧Rep I β n w y r:=by
 -- the bounds
 have nomax:∀ {len cap:Nat} {p q:Int},mx'=none→xb e 0 lo'=some p→xb e len hi'=some q→0≤p→p≤q→q≤(len:Int)→len≤cap →
  (pJ true len cap (lo.map a.eval) (hi.map a.eval) (mx.map a.eval)).run P w=.ok (p.toNat,q.toNat,cap) w:=by
  intro len cap p q hm hp hq h1 h2 h3 h4
  have:mx=none:=by cases mx with|none=>rfl|some o=>simp[js] at hmx;obtain⟨_,_,h⟩:=hmx;rw[hm] at h;cases h
  subst this
  have hcap:q≤(cap:Int):=by omega
  exact z8b (uk hE hlo hp nlo) (uk hE hhi hq nhi) h1 h2 hcap
 have withmax:∀ {len cap:Nat} {p q m:Int} {mo:LOpd},mx'=some mo→xb e 0 (some mo)=some m→xb e 0 lo'=some p→xb e len hi'=some q→0≤p→p≤q→q≤m→m≤(cap:Int) →
  (pJ true len cap (lo.map a.eval) (hi.map a.eval) (mx.map a.eval)).run P w=.ok (p.toNat,q.toNat,m.toNat) w:=by
  intro len cap p q m mo hm hmv hp hq h1 h2 h3 h4
  have g1:=uk hE hmx (d:=0) (by rw[hm];exact hmv) nmx
  have g2:∃o k,hi=some o∧a.eval o=.int k q:=by
   rcases uk hE hhi hq nhi with⟨h,_⟩|h
   ·subst h;simp[js] at hhi;rw[hm,←hhi] at hmh;simp at hmh
   ·exact h
  rcases g1 with⟨h,_⟩|⟨om,km,h5,h6⟩
  ·subst h;simp[js] at hmx;rw[hm] at hmx;cases hmx
  ·exact zpl (uk hE hlo hp nlo) g2 h5 h6 h1 h2 h3 h4
 cases x<;>simp only[z2a] at h<;>try (cases h;done)
 case isl s' es f=>
  cases hp:xb e 0 lo' with
  |none=>simp[hp] at h
  |some p=>
  cases hq:xb e es.length hi' with
  |none=>simp[hp,hq] at h
  |some q=>
  have hv:∃ad cap,v=.slice ad es.length cap∧es.length≤cap∧(f=true→cap=es.length)∧RepI I w (.isl s' es f) v:=by
   cases hx with
   |imm _ _ hx'=>obtain⟨ad,cap,h1,h2,h3,_⟩:=(Rep.imm (β:=β) (n:=n) _ _ hx').isl_inv;exact⟨ad,cap,h1,h2,h3,hx'⟩
  obtain⟨ad,cap,rfl,hcap,hfull,hxI⟩:=hv
  cases hm:mx' with
  |none=>
   simp only[hm,z0r,hp,hq,XR.ok.injEq] at h
   obtain⟨rfl,rfl⟩:=h
   obtain⟨rfl,h1,h2,h3⟩:=hside
   refine⟨_,z1u ht hs (nomax hm hp hq h1 h2 h3 hcap),.imm _ _ (z2y hxI (by omega) (by omega) (by omega) (p6 _) ?_)⟩
   intro hf
   simp only[pC,decide_eq_true_eq] at hf
   have:=hfull hf.1
   omega
  |some mo=>
   cases hmv:xb e 0 (some mo) with
   |none=>simp[hm,z0r,hp,hq,hmv] at h
   |some m=>
   simp only[hm,z0r,hp,hq,hmv,XR.ok.injEq] at h
   obtain⟨rfl,rfl⟩:=h
   obtain⟨rfl,h1,h2,h3,h4⟩:=hside
   refine⟨_,z1u ht hs (withmax (len:=es.length) (cap:=cap) hm hmv hp hq h1 h2 h3 (by omega)),.imm _ _ (z2y hxI (by omega) (by omega) (by omega) (by omega) ?_)⟩
   intro hf
   simp only[decide_eq_true_eq] at hf
   omega
 case msl id s' off len f=>
  cases hp:xb e 0 lo' with
  |none=>simp[hp] at h
  |some p=>
  cases hq:xb e len hi' with
  |none=>simp[hp,hq] at h
  |some q=>
  obtain⟨ad,cap,rfl,hcap,hfull,_⟩:=hx.msl_inv
  cases hm:mx' with
  |none=>
   simp only[hm,z0r,hp,hq,XR.ok.injEq] at h
   obtain⟨rfl,rfl⟩:=h
   obtain⟨rfl,h1,h2,h3⟩:=hside
   obtain⟨ad',h5,h6⟩:=z9g (f':=f&&decide (q=(len:Int))) (m:=cap) (p:=p.toNat) (q:=q.toNat) hx (by omega) (by omega) (p6 _) (by
    intro hf
    simp only[pC,decide_eq_true_eq] at hf
    have:=hfull hf.1
    omega)
   refine⟨_,z1u ht hs (nomax hm hp hq h1 h2 h3 hcap),?_⟩
   rw[h5];exact h6
  |some mo=>
   cases hmv:xb e 0 (some mo) with
   |none=>simp[hm,z0r,hp,hq,hmv] at h
   |some m=>
   simp only[hm,z0r,hp,hq,hmv,XR.ok.injEq] at h
   obtain⟨rfl,rfl⟩:=h
   obtain⟨rfl,h1,h2,h3,h4⟩:=hside
   obtain⟨ad',h5,h6⟩:=z9g (f':=decide (m=q)) (m:=m.toNat) (p:=p.toNat) (q:=q.toNat) hx (by omega) (by omega) (by omega) (by
    intro hf
    simp only[decide_eq_true_eq] at hf
    omega)
   refine⟨_,z1u ht hs (withmax (len:=len) (cap:=cap) hm hmv hp hq h1 h2 h3 (by omega)),?_⟩
   rw[h5];exact h6
 case val u=>
  split at h
  ·rename_i heq;cases heq
  ·rename_i heq;cases heq
  ·rename_i heq
   cases heq
   obtain rfl:=hx.val_inv
   cases hp:xb e 0 lo' with
   |none=>simp[hp] at h
   |some p=>
   cases hq:xb e 0 hi' with
   |none=>simp[hp,hq] at h
   |some q=>
   cases hm:mx' with
   |none=>
    simp only[hm,z0r,hp,hq,XR.ok.injEq] at h
    obtain⟨rfl,rfl⟩:=h
    obtain⟨rfl,rfl⟩:=hside
    refine⟨_,z1u ht hs (nomax hm hp hq (by omega) (by omega) (by omega) (p6 _)),?_⟩
    simpa using hx
   |some mo=>
    cases hmv:xb e 0 (some mo)<;>simp[hm,z0r,hp,hq,hmv] at h
  ·cases h
theorem zd0{t c:TypeId}{s:Nat}(ht:P.underlying t=some (.slice c))(hs:xl P c=some s)(hE:RepEnv I β n w e a){lo hi mx:Option Operand}{lo' hi' mx':Option LOpd}(hlo:js lo=some lo')(hhi:js hi=some hi')(hmx:js mx=some mx')
 (hmh:(mx'.isSome&&hi'.isNone)=false) (nlo:ud e lo') (nhi:ud e hi') (nmx:ud e mx')
 {x y:AVal} {v:Value} (hx:Rep I β n w x v) {side:Prop} (h:zgy s (fun d=>xb e d lo') (fun d=>xb e d hi') (z0r e mx') (hi'.isNone&&mx'.isNone) x=.ok side y) (hside:side) :
 ∃r,(pP t v (lo.map a.eval) (hi.map a.eval) (mx.map a.eval)).run P w=.ok r w∧Rep I β n w y r:=by
 cases x<;>try (exact Uh ht hs hE hlo hhi hmx hmh nlo nhi nmx hx h hside)
 rename_i tok s' es
 have hrd:Rep I β n w (.isl s' es false) v:=hx.rd
 cases hk:(hi'.isNone&&mx'.isNone) with
 |false=>
  simp only[zgy,hk] at h
  exact Uh ht hs hE hlo hhi hmx hmh nlo nhi nmx hrd h hside
 |true=>
  simp only[pC,Option.isNone_iff_eq_none] at hk
  obtain⟨rfl,rfl⟩:=hk
  simp only[zgy,Option.isNone_none,Bool.and_self] at h
  cases hp:xb e 0 lo' with
  |none=>simp[hp] at h
  |some p=>
  simp only[hp,XR.ok.injEq] at h
  obtain⟨rfl,rfl⟩:=h
  obtain⟨rfl,h1,h2⟩:=hside
  have hhin:hi=none:=by cases hi with|none=>rfl|some o=>simp[js] at hhi
  have hmxn:mx=none:=by cases mx with|none=>rfl|some o=>simp[js] at hmx
  subst hhin;subst hmxn
  obtain⟨ad,cap,hv,hcap,hfull,hne⟩:=hrd.isl_inv
  subst hv
  cases hx with
  |imm _ _ hx=>cases hx
  |osl _ _ _ _ htok hI htk=>
  have hrun:=z1u (w:=w) (ad:=ad) ht hs (z8b (P:=P) (w:=w) (uk hE hlo hp nlo) (uk (d:=es.length) hE (x:=none) (y:=none) rfl rfl trivial) h1 h2 (by omega:(es.length:Int)≤(cap:Int)))
  refine⟨_,hrun,?_⟩
  have hpart:=z2y (f':=false) (p:=p.toNat) (q:=es.length) (m:=cap) hI (by omega) (p6 _) hcap (p6 _) (fun h=>by cases h)
  rw[List.take_length] at hpart
  have hlen:(es.drop p.toNat).length=es.length-p.toNat:=by simp
  refine .osl tok s _ _ htok (by simpa using hpart) ?_
  intro c hc ad' cap' heq
  simp only[Int.toNat_natCast,Value.slice.injEq] at heq
  obtain⟨ha,_,hcap'⟩:=heq
  rw[hlen]
  by_cases hcp:cap=p.toNat
  ·left;omega
  ·rw[if_neg hcp] at ha
   cases ad with
   |none=>simp at ha
   |some ad=>
    simp only[pM,p0] at ha
    rcases htk c hc ad cap rfl with hh|⟨g1,g2,g3,g4⟩
    ·left;omega
    ·right
     obtain⟨bb,oo,sp⟩:=ad
     simp only at g1 g2 g3 g4
     subst g1
     rw[xg] at ha
     subst ha
     refine⟨rfl,g2,?_,?_⟩
     ·simp only
      rw[←g3,pK,←pL];congr 2;omega
     ·simp only
      have:cap'=cap-p.toNat:=hcap'.symm
      rw[this,pK,←pL,show p.toNat+(cap-p.toNat)=cap by omega];exact g4
theorem z57{t:TypeId}(ht:P.underlying t=some .bool)(d:Nat)(p q:Bool):(Op.equalIn (d+1) t (.bool p) (.bool q)).run P w=.ok (p==q) w:=by
 unfold Op.equalIn
 rw[p2,za ht,p1]
 rfl
theorem Zv{t c:TypeId}(ht:P.underlying t=some (.pointer c))(d:Nat)(q:Option Addr):(Op.equalIn (d+1) t (.pointer none) (.pointer q)).run P w=.ok q.isNone w:=by
 unfold Op.equalIn
 rw[p2,za ht,p1]
 rfl
theorem Xw{t c:TypeId}(ht:P.underlying t=some (.pointer c))(d:Nat)(q:Addr):(Op.equalIn (d+1) t (.pointer (some q)) (.pointer none)).run P w=.ok false w:=by
 unfold Op.equalIn
 rw[p2,za ht,p1]
 rfl
theorem ul{t c:TypeId}(ht:P.underlying t=some (.slice c))(d m k:Nat)(q:Option Addr)(m' k':Nat):(Op.equalIn (d+1) t (.slice none m k) (.slice q m' k')).run P w=.ok q.isNone w:=by
 unfold Op.equalIn
 rw[p2,za ht,p1]
 rfl
theorem Yj{t c:TypeId}(ht:P.underlying t=some (.slice c))(d m k:Nat)(q:Addr)(m' k':Nat):(Op.equalIn (d+1) t (.slice (some q) m' k') (.slice none m k)).run P w=.ok false w:=by
 unfold Op.equalIn
 rw[p2,za ht,p1]
 rfl
theorem Xy{t k e:TypeId}(ht:P.underlying t=some (.map k e))(d:Nat)(q:Option Nat):(Op.equalIn (d+1) t (.map none) (.map q)).run P w=.ok q.isNone w:=by
 unfold Op.equalIn
 simp only[p2,za ht,p1]
 rfl
theorem z0q{t k e:TypeId}(ht:P.underlying t=some (.map k e))(d:Nat)(q:Nat):(Op.equalIn (d+1) t (.map (some q)) (.map none)).run P w=.ok false w:=by
 unfold Op.equalIn
 simp only[p2,za ht,p1]
 rfl
theorem Rep.map_inv{b:Id}{v:Value}(h:Rep I β n w (.map b) v):∃r,v=.map (some r):=by
 cases h with
 |imm _ _ h=>cases h
 |map _ r _ _=>exact⟨r,rfl⟩
theorem zh7{t:TypeId}(h:Yw P t=.map):∃k e,P.underlying t=some (.map k e):=by
 unfold Yw at h;split at h<;>try (cases h;done)
 ·rename_i k e hu;exact⟨k,e,hu⟩
 ·split at h<;>try (cases h;done)
  split at h<;>cases h
theorem zc1{t:TypeId}(h:Yw P t=.bool):P.underlying t=some .bool:=by
 unfold Yw at h;split at h<;>(try split at h)<;>(try split at h)<;>simp_all
theorem zhw{t:TypeId}(h:Yw P t=.ptr):∃c,P.underlying t=some (.pointer c):=by
 unfold Yw at h;split at h<;>(try split at h)<;>(try split at h)<;>simp_all
theorem z84{t:TypeId}(h:Yw P t=.slice):∃c,P.underlying t=some (.slice c):=by
 unfold Yw at h;split at h<;>(try split at h)<;>(try split at h)<;>simp_all
theorem zia{t:TypeId}{ks:List CK}(h:Yw P t=.agg ks):∃fs,P.underlying t=some (.struct fs)∧kf P 50 t=some ks∧P.eqGuardType P.depth t=false:=by
 unfold Yw at h
 split at h<;>(try split at h)<;>(try split at h)<;>try (cases h;done)
 rename_i fs hu _ ks' hk hc
 simp only[EqK.agg.injEq] at h
 subst h
 exact⟨fs,hu,hk,by simpa using hc⟩
theorem Yq:∀ {k1 k2:List CK} {cs ds:List AVal} {b:Bool},ya (k1++k2) cs ds=some b→∃b1 b2,ya k1 (cs.take k1.length) (ds.take k1.length)=some b1∧ya k2 (cs.drop k1.length) (ds.drop k1.length)=some b2∧b=(b1&&b2)
 |[],k2,cs,ds,b,h=>⟨true,b,by simp[ya],by simpa using h,by simp⟩
 |k::k1,k2,[],ds,b,h=>by simp[ya] at h
 |k::k1,k2,_::_,[],b,h=>by simp[ya] at h
 |k::k1,k2,x::xs,y::ys,b,h=>by
  simp only[List.cons_append,ya] at h
  split at h<;>try (cases h;done)
  rename_i a c ha hc
  simp only[p0] at h
  obtain⟨b1,b2,h1,h2,h3⟩:=Yq hc
  refine⟨a&&b1,b2,?_,by simpa using h2,by rw[←h,h3,Bool.and_assoc]⟩
  simp only[List.length_cons,List.take_succ_cons,ya,ha,h1]
theorem k7:∀ {ks:List CK} {cs ds:List AVal} {b:Bool},ya ks cs ds=some b→cs.length=ks.length∧ds.length=ks.length
 |[],[],[],_,_=>⟨rfl,rfl⟩
 |[],[],_::_,_,h=>by simp[ya] at h
 |[],_::_,_,_,h=>by simp[ya] at h
 |_::_,[],_,_,h=>by simp[ya] at h
 |_::_,_::_,[],_,h=>by simp[ya] at h
 |k::ks,x::xs,y::ys,b,h=>by
  simp only[ya] at h
  split at h<;>try (cases h;done)
  rename_i a c ha hc
  have:=k7 hc
  simp[this.1,this.2]
def OfCells(I:Nat→Nat→Prop)(β:Id→Option CLoc)(n:Nat)(w:World)(g:Bool)(cs:List AVal)(x:Value):Prop:=Rep I β n w (yn g cs.length 0 cs) x
theorem z5a:∀ (d:Nat) (t:TypeId) (ks:List CK),kf P d t=some ks→∀ (D:Nat),d≤D→∀ {cs ds:List AVal} {x y:Value} {g:Bool},Xb P t=some g→OfCells I β n w g cs x→OfCells I β n w g ds y →
 ∀b,ya ks cs ds=some b→(Op.equalIn D t x y).run P w=.ok b w:=by
 intro d
 induction d with
 |zero=>intro t ks h;simp[kf] at h
 |succ d ih=>
  intro t ks h D hD cs ds x y g hg hx hy b hb
  obtain⟨D,rfl⟩:∃D',D=D'+1:=⟨D-1,by omega⟩
  obtain⟨hl1,hl2⟩:=k7 hb
  unfold kf at h
  split at h
  ·rename_i hu
   simp only[p0] at h
   subst h
   obtain⟨p,rfl⟩:=pE.1 hl1
   obtain⟨q,rfl⟩:=pE.1 hl2
   simp only[Xb,hu,p0] at hg
   subst hg
   simp only[OfCells,yn,p7,if_false,pQ] at hx hy
   cases p<;>cases q<;>simp[ya,Zp] at hb
   obtain rfl:=hx.bool_inv
   obtain rfl:=hy.bool_inv
   subst hb
   exact run_equalIn_bool' w D t _ _ hu
  ·rename_i hu
   simp only[p0] at h
   subst h
   obtain⟨p,rfl⟩:=pE.1 hl1
   obtain⟨q,rfl⟩:=pE.1 hl2
   simp only[Xb,hu,p0] at hg
   subst hg
   simp only[OfCells,yn,p7,if_false,pQ] at hx hy
   cases p<;>cases q<;>simp[ya,Zp] at hb
   rename_i k a k' a'
   obtain rfl:=hx.int_inv
   obtain rfl:=hy.int_inv
   by_cases hk:k=k'
   ·subst hk
    simp at hb
    subst hb
    exact run_equalIn_int w D t _ _ _ _ hu
   ·simp[hk] at hb
  ·rename_i hu
   simp only[p0] at h
   subst h
   obtain⟨p,rfl⟩:=pE.1 hl1
   obtain⟨q,rfl⟩:=pE.1 hl2
   simp only[Xb,hu,p0] at hg
   subst hg
   simp only[OfCells,yn,p7,if_false,pQ] at hx hy
   cases p<;>cases q<;>simp[ya,Zp] at hb
   obtain rfl:=hx.str_inv
   obtain rfl:=hy.str_inv
   subst hb
   rw[run_equalIn_string w D t _ _ hu,Zs,Zs]
  ·rename_i fs hu
   split at h<;>try (cases h;done)
   rename_i hst
   simp only[Xb,hu,p0] at hg
   subst hg
   simp only[OfCells,yn,if_true,List.drop_zero,List.take_length] at hx hy
   obtain⟨xs,rfl,hx1,hx2,hx3⟩:=hx.agg_inv
   obtain⟨ys,rfl,hy1,hy2,hy3⟩:=hy.agg_inv
   have hf:P.fieldsOf t=fs:=by unfold Program.fieldsOf;rw[hu]
   rw[run_equalIn_struct w D t xs ys (by rw[hf];exact hu) (by simpa using hst),hf]
   have key:∀ (fl:List Field) (off:Nat) (ks:List CK),eqFields P (kf P d) off fl=some ks→off≤cs.length→off≤ds.length→∀b,ya ks (cs.drop off) (ds.drop off)=some b→(Op.eqFields D xs ys fl).run P w=.ok b w:=by
    intro fl
    induction fl with
    |nil=>
     intro off ks h ho1 ho2 b hb
     simp only[eqFields,p0] at h
     subst h
     obtain⟨l1,l2⟩:=k7 hb
     rw[List.length_eq_zero_iff.1 l1,List.length_eq_zero_iff.1 l2] at hb
     simp only[ya,p0] at hb
     subst hb
     rfl
    |cons f fl ihf=>
     intro off ks h ho1 ho2 b hb
     simp only[eqFields] at h
     split at h<;>try (cases h;done)
     rename_i hcond
     simp only[Bool.or_eq_true,not_or,bne_iff_ne,ne_eq,Decidable.not_not,beq_iff_eq] at hcond
     obtain⟨hname,hoff⟩:=hcond
     split at h<;>try (cases h;done)
     rename_i l g m hl hg hm
     split at h<;>try (cases h;done)
     rename_i hc2
     simp only[pC,Bool.or_eq_true,beq_iff_eq] at hc2
     obtain⟨hlm,hgm⟩:=hc2
     simp only[p3] at h
     obtain⟨ks2,hks2,rfl⟩:=h
     obtain⟨b1,b2,h1,h2,rfl⟩:=Yq hb
     rw[hlm] at h1 h2
     rw[List.drop_drop,List.drop_drop] at h2
     obtain⟨l1,l2⟩:=k7 h1
     simp only[List.length_take,List.length_drop] at l1 l2
     obtain⟨rx,hrx,hRx⟩:=Yc (w:=w) (off:=off) hg hm hgm hx1 hx2 hx3 (by omega)
     obtain⟨ry,hry,hRy⟩:=Yc (w:=w) (off:=off) hg hm hgm hy1 hy2 hy3 (by omega)
     have conv:∀ {c:List AVal} {r:Value},off+m≤c.length→Rep I β n w (yn g m off c) r→OfCells I β n w g ((c.drop off).take m) r:=by
      intro c r hle hr
      have hlen:((c.drop off).take m).length=m:=by simp;omega
      unfold OfCells
      rw[hlen]
      cases g with
      |true=>simpa[yn,List.take_take] using hr
      |false=>
       have hm1:m=1:=by rcases hgm with h|h;cases h;exact h
       subst hm1
       simp only[yn,p7,if_false] at hr ⊢
       have:((c.drop off).take 1).getD 0 .any=c.getD off .any:=by
        simp[pD,pG,pH]
       rw[this];exact hr
     have heq:=ih f.type l hl D (by omega) hg (conv (by omega) hRx) (conv (by omega) hRy) b1 h1
     simp only[Op.eqFields,ne_eq,hname,not_false_eq_true,if_true,p2,hoff,hrx,hry,p1,heq,Sem.run_ite,p5]
     cases b1 with
     |false=>simp
     |true=>simpa using ihf (off+m) ks2 hks2 (by omega) (by omega) b2 h2
   exact key fs.toList 0 ks h (Nat.zero_le _) (Nat.zero_le _) b (by simpa using hb)
  ·cases h
theorem zem{t:TypeId}:Yw P t≠.ifc:=by
 unfold Yw
 split<;>(try split)<;>(try split)<;>simp
theorem zf7{t:TypeId}:Yw P t≠.fnc:=by
 unfold Yw
 split<;>(try split)<;>(try split)<;>simp
theorem zc6{k:EqK}{t:TypeId}(ht:Yw P t=k){x y z:AVal}{v u:Value}(hx:Rep I β n w x v)(hy:Rep I β n w y u){side:Prop}(h:zf3 k x y=.ok side z)(hside:side) :
 ∃r,z=.bool r∧(Op.equal t v u).run P w=.ok r w∧(∀op xo yo,(eqGuard op t xo yo v u).run P w=.ok () w)∧(binOp .eql t v u=(do pure (.bool (←Op.equal t v u)):Sem Value))∧(binOp .neq t v u=(do pure (.bool (!(←Op.equal t v u))):Sem Value)):=by
 unfold zf3 at h
 cases k<;>simp only at h<;>try (cases h;done)
 case ifc=>exact absurd ht zem
 case fnc=>exact absurd ht zf7
 case bool=>
  cases x<;>cases y<;>simp only at h<;>try (cases h;done)
  simp only[XR.ok.injEq] at h
  obtain⟨rfl,rfl⟩:=h
  obtain rfl:=hx.bool_inv
  obtain rfl:=hy.bool_inv
  exact⟨_,rfl,z57 (zc1 ht) 9999 _ _,fun op xo yo=>by cases op<;>rfl,rfl,rfl⟩
 case ptr=>
  obtain⟨c,ht⟩:=zhw ht
  unfold zmx at h
  split at h<;>simp only[XR.ok.injEq,reduceCtorEq] at h<;>(try (cases h;done))<;>obtain⟨rfl,rfl⟩:=h
  ·obtain rfl:=hx.val_inv
   obtain rfl:=hy.val_inv
   exact⟨_,rfl,Zv ht 9999 _,fun op xo yo=>by cases op<;>rfl,rfl,rfl⟩
  ·obtain rfl:=hx.val_inv
   obtain⟨ad,rfl⟩:=hy.ptr_inv
   exact⟨_,rfl,Zv ht 9999 _,fun op xo yo=>by cases op<;>rfl,rfl,rfl⟩
  ·obtain rfl:=hy.val_inv
   obtain⟨ad,rfl⟩:=hx.ptr_inv
   exact⟨_,rfl,Xw ht 9999 _,fun op xo yo=>by cases op<;>rfl,rfl,rfl⟩
  ·obtain rfl:=hx.val_inv
   obtain⟨b,o,rfl⟩:=hy.iptr_inv
   exact⟨_,rfl,Zv ht 9999 _,fun op xo yo=>by cases op<;>rfl,rfl,rfl⟩
  ·obtain rfl:=hy.val_inv
   obtain⟨b,o,rfl⟩:=hx.iptr_inv
   exact⟨_,rfl,Xw ht 9999 _,fun op xo yo=>by cases op<;>rfl,rfl,rfl⟩
 case slice=>
  obtain⟨c,ht⟩:=z84 ht
  replace hx:=hx.rd
  replace hy:=hy.rd
  generalize x.rd=x at h hx
  generalize y.rd=y at h hy
  unfold Wo at h
  split at h<;>simp only[XR.ok.injEq,reduceCtorEq] at h<;>(try (cases h;done))<;>obtain⟨rfl,rfl⟩:=h
  ·obtain rfl:=hx.val_inv
   obtain rfl:=hy.val_inv
   exact⟨_,rfl,ul ht 9999 _ _ _ _ _,fun op xo yo=>by cases op<;>rfl,rfl,rfl⟩
  ·obtain rfl:=hx.val_inv
   obtain⟨ad,cap,rfl,hcap,_,hne⟩:=hy.msl_inv
   cases ad with
   |none=>exact absurd (Nat.le_zero.1 (hne rfl▸hcap)) hside
   |some ad=>exact⟨_,rfl,ul ht 9999 _ _ _ _ _,fun op xo yo=>by cases op<;>rfl,rfl,rfl⟩
  ·obtain rfl:=hy.val_inv
   obtain⟨ad,cap,rfl,hcap,_,hne⟩:=hx.msl_inv
   cases ad with
   |none=>exact absurd (Nat.le_zero.1 (hne rfl▸hcap)) hside
   |some ad=>exact⟨_,rfl,Yj ht 9999 _ _ _ _ _,fun op xo yo=>by cases op<;>rfl,rfl,rfl⟩
  ·obtain rfl:=hx.val_inv
   obtain⟨ad,cap,rfl,_,_,hne⟩:=hy.isl_inv
   cases ad with
   |none=>exact absurd rfl (hne hside)
   |some ad=>exact⟨_,rfl,ul ht 9999 _ _ _ _ _,fun op xo yo=>by cases op<;>rfl,rfl,rfl⟩
  ·obtain rfl:=hy.val_inv
   obtain⟨ad,cap,rfl,_,_,hne⟩:=hx.isl_inv
   cases ad with
   |none=>exact absurd rfl (hne hside)
   |some ad=>exact⟨_,rfl,Yj ht 9999 _ _ _ _ _,fun op xo yo=>by cases op<;>rfl,rfl,rfl⟩
 case map=>
  obtain⟨kt,et,ht⟩:=zh7 ht
  unfold Kg at h
  split at h<;>simp only[XR.ok.injEq,reduceCtorEq] at h<;>(try (cases h;done))<;>obtain⟨rfl,rfl⟩:=h
  ·obtain rfl:=hx.val_inv
   obtain rfl:=hy.val_inv
   exact⟨_,rfl,Xy ht 9999 _,fun op xo yo=>by cases op<;>rfl,rfl,rfl⟩
  ·obtain rfl:=hx.val_inv
   obtain⟨r,rfl⟩:=hy.map_inv
   exact⟨_,rfl,Xy ht 9999 _,fun op xo yo=>by cases op<;>rfl,rfl,rfl⟩
  ·obtain rfl:=hy.val_inv
   obtain⟨r,rfl⟩:=hx.map_inv
   exact⟨_,rfl,z0q ht 9999 _,fun op xo yo=>by cases op<;>rfl,rfl,rfl⟩
 case agg ks=>
  obtain⟨fs,hu,hfl,hg⟩:=zia ht
  cases x<;>cases y<;>simp only[zeg] at h<;>try (cases h;done)
  rename_i cs ds
  split at h<;>simp only[XR.ok.injEq,reduceCtorEq] at h<;>try (cases h;done)
  rename_i b hb
  obtain⟨rfl,rfl⟩:=h
  obtain⟨xs,rfl,_⟩:=hx.agg_inv
  obtain⟨ys,rfl,_⟩:=hy.agg_inv
  have hagg:Xb P t=some true:=by unfold Xb;rw[hu]
  refine⟨b,rfl,?_,fun op xo yo=>run_eqGuard_agg w op t xo yo xs ys hg,by simp only[binOp],by simp only[binOp]⟩
  exact z5a 50 t ks hfl Op.maxDepth (by unfold Op.maxDepth;omega) hagg (by simpa[OfCells,yn] using hx) (by simpa[OfCells,yn] using hy) b hb
theorem zhb{t:TypeId}{ms:Array (String×TypeId)}(ht:P.underlying t=some (.interface ms)){x y z:AVal}{v u:Value}(hx:Rep I β n w x v)(hy:Rep I β n w y u){side:Prop}(h:z6e x y=.ok side z)(xo yo:Operand)(hyo:yo=.const .nilIface) :
 ∃r,z=.bool r∧(Op.equal t v u).run P w=.ok r w∧(∀op,(eqGuard op t xo yo v u).run P w=.ok () w)∧(binOp .eql t v u=(do pure (.bool (←Op.equal t v u)):Sem Value))∧(binOp .neq t v u=(do pure (.bool (!(←Op.equal t v u))):Sem Value)):=by
 subst hyo
 have he:∀d,(Op.equalIn (d+1) t .nilIface .nilIface).run P w=.ok true w∧∀k v,(Op.equalIn (d+1) t (.iface k v) .nilIface).run P w=.ok false w:=by
  intro d
  unfold Op.equalIn
  refine⟨?_,fun k v=>?_⟩<;>rw[p2,za ht,p1]<;>rfl
 unfold z6e at h
 split at h<;>simp only[XR.ok.injEq,reduceCtorEq] at h<;>(try (cases h;done))<;>obtain⟨rfl,rfl⟩:=h
 ·obtain rfl:=hx.val_inv
  obtain rfl:=hy.val_inv
  refine⟨_,rfl,(he 9999).1,fun op=>?_,rfl,rfl⟩
  cases op<;>simp[eqGuard]
 ·obtain rfl:=hy.val_inv
  obtain⟨k,v,rfl⟩:∃k v',v=.iface k v':=by
   cases hx with
   |ifc _ _ v _=>exact⟨_,_,rfl⟩
   |imm _ _ h=>cases h with|ifc _ _ v _=>exact⟨_,_,rfl⟩
  refine⟨_,rfl,(he 9999).2 _ _,fun op=>?_,rfl,rfl⟩
  cases op<;>rfl
theorem zg3{t:TypeId}{a:Array TypeId}{b:Array TypeId}{c:Bool}(ht:P.underlying t=some (.func a b c)){x y z:AVal}{v u:Value}(hx:Rep I β n w x v)(hy:Rep I β n w y u){side:Prop}(h:z4s x y=.ok side z)(xo yo:Operand) :
 ∃r,z=.bool r∧(Op.equal t v u).run P w=.ok r w∧(∀op,(eqGuard op t xo yo v u).run P w=.ok () w)∧(binOp .eql t v u=(do pure (.bool (←Op.equal t v u)):Sem Value))∧(binOp .neq t v u=(do pure (.bool (!(←Op.equal t v u))):Sem Value)):=by
 have he:∀d,(Op.equalIn (d+1) t .nilFunc .nilFunc).run P w=.ok true w∧∀k v c,(Op.equalIn (d+1) t (.func k v c) .nilFunc).run P w=.ok false w:=by
  intro d
  unfold Op.equalIn
  refine⟨?_,fun k v c=>?_⟩<;>rw[p2,za ht,p1]<;>rfl
 unfold z4s at h
 split at h<;>simp only[XR.ok.injEq,reduceCtorEq] at h<;>(try (cases h;done))<;>obtain⟨rfl,rfl⟩:=h
 ·obtain rfl:=hx.val_inv
  obtain rfl:=hy.val_inv
  refine⟨_,rfl,(he 9999).1,fun op=>?_,rfl,rfl⟩
  cases op<;>rfl
 ·obtain rfl:=hy.val_inv
  obtain⟨k,fs,cs,rfl⟩:∃k fs cs,v=.func k fs cs:=by
   cases hx with
   |fn _ _ _ fs cs _ _ _ _=>exact⟨_,_,_,rfl⟩
   |imm _ _ h=>cases h with|fn _ _ _ fs cs _ _ _ _=>exact⟨_,_,_,rfl⟩
  refine⟨_,rfl,(he 9999).2 _ _ _,fun op=>?_,rfl,rfl⟩
  cases op<;>rfl
theorem Ui{t:TypeId}{x y z:AVal}{v u:Value}{xo yo:Operand}(hx:Rep I β n w x v)(hy:Rep I β n w y u){side:Prop}(h:zf3 (z14 P t yo) x y=.ok side z)(hside:side) :
 ∃r,z=.bool r∧(Op.equal t v u).run P w=.ok r w∧(∀op,(eqGuard op t xo yo v u).run P w=.ok () w)∧(binOp .eql t v u=(do pure (.bool (←Op.equal t v u)):Sem Value))∧(binOp .neq t v u=(do pure (.bool (!(←Op.equal t v u))):Sem Value)):=by
 have old:zf3 (Yw P t) x y=.ok side z→∃r,z=.bool r∧(Op.equal t v u).run P w=.ok r w∧(∀op,(eqGuard op t xo yo v u).run P w=.ok () w)∧(binOp .eql t v u=(do pure (.bool (←Op.equal t v u)):Sem Value))∧(binOp .neq t v u=(do pure (.bool (!(←Op.equal t v u))):Sem Value)):=fun h=>by
  obtain⟨r,h1,h2,h3,h4,h5⟩:=zc6 rfl hx hy h hside
  exact⟨r,h1,h2,fun op=>h3 op xo yo,h4,h5⟩
 unfold z14 at h
 split at h
 ·split at h
  ·rename_i ms ht
   exact zhb ht hx hy h xo _ rfl
  ·exact old h
 ·split at h
  ·rename_i ht
   exact zg3 ht hx hy h xo _
  ·exact old h
 ·exact old h
theorem zhs{neg:Bool}{t:TypeId}{x y z:AVal}{v u:Value}{xo yo:Operand}(hx:Rep I β n w x v)(hy:Rep I β n w y u){side:Prop}(h:xeq neg (z14 P t yo) x y=.ok side z)(hside:side) :
 ∃r,(do eqGuard (if neg then .neq else .eql) t xo yo v u;binOp (if neg then .neq else .eql) t v u:Sem Value).run P w=.ok r w∧Rep I β n w z r:=by
 unfold xeq at h
 cases neg with
 |false=>
  simp only[p7,if_false] at h ⊢
  obtain⟨r,rfl,h1,h2,h3,_⟩:=Ui (xo:=xo) hx hy h hside
  refine⟨.bool r,?_,.imm _ _ (.bool r)⟩
  rw[p2,h2,p1,h3,p2,h1];rfl
 |true=>
  simp only[if_true] at h ⊢
  cases hx0:zf3 (z14 P t yo) x y with
  |bad=>simp[hx0,XR.neg] at h
  |ok s0 z0=>
   have hs:side=s0:=by
    rw[hx0] at h;cases z0<;>simp only[XR.neg,XR.ok.injEq,reduceCtorEq] at h;exact h.1.symm
   subst hs
   obtain⟨r,rfl,h1,h2,_,h3⟩:=Ui (xo:=xo) hx hy hx0 hside
   rw[hx0] at h
   simp[XR.neg] at h
   subst h
   refine⟨.bool (!r),?_,.imm _ _ (.bool _)⟩
   rw[p2,h2,p1,h3,p2,h1];rfl
end
end Go.Fx
namespace Go.Fx
variable {P:Program}
def Xo(I:Nat→Nat→Prop)(β:Id→Option CLoc)(n:Nat)(w:World)(cs:List AVal)(vs:Array Value):Prop:=
 vs.size=cs.length∧(∀u∈vs.toList,qm u=true)∧∀ (i:Nat) (y:AVal) (u:Value),cs[i]?=some y→vs[i]?=some u→Rep I β n w y u
section
variable {I:Nat→Nat→Prop} {β:Id→Option CLoc} {n:Nat} {H:AHeap} {w:World} {e:Env} {a:Act}
theorem z7o{u:Value}(h:qm u=true):Rep I β n w (Yp u) u:=by
 cases u with
 |agg _=>cases h
 |tuple _=>cases h
 |bool b=>exact .imm _ _ (.bool b)
 |int k m=>exact .imm _ _ (.int k m)
 |string s=>exact .imm _ _ (.str s.data.toList)
 |_=>exact .imm _ _ (.val _ rfl)
theorem zau:∀ (ks:List (Option Nat)) (l:List AVal),(z7k ks l).length=l.length∧∀ (j:Nat) (y:AVal),(z7k ks l)[j]?=some y→∃x,l[j]?=some x∧(y=x∨(x=.val (.slice none 0 0)∧∃s,y=.isl s [] true))
 |[],l=>⟨by simp[z7k],fun j y h=>⟨y,by simpa[z7k] using h,.inl rfl⟩⟩
 |k::ks,[]=>⟨by cases k<;>simp[z7k],fun j y h=>by cases k<;>simp[z7k] at h⟩
 |k::ks,x::r=>by
  obtain⟨h1,h2⟩:=zau ks r
  have step:∀z:AVal,(z=x∨(x=.val (.slice none 0 0)∧∃s,z=.isl s [] true))→z7k (k::ks) (x::r)=z::z7k ks r→(z7k (k::ks) (x::r)).length=(x::r).length∧∀ (j:Nat) (y:AVal),(z7k (k::ks) (x::r))[j]?=some y→∃x',(x::r)[j]?=some x'∧(y=x'∨(x'=.val (.slice none 0 0)∧∃s,y=.isl s [] true)):=by
   intro z hz e
   rw[e]
   refine⟨by simp[h1],fun j y hy=>?_⟩
   cases j with
   |zero=>simp at hy;subst hy;exact⟨x,rfl,hz⟩
   |succ j=>exact h2 j y (by simpa using hy)
  by_cases hc:∃s,k=some s∧x=.val (.slice none 0 0)
  ·obtain⟨s,rfl,rfl⟩:=hc
   exact step (.isl s [] true) (.inr ⟨rfl,s,rfl⟩) (by simp[z7k])
  ·refine step x (.inl rfl) ?_
   rw[z7k]
   intro s h3 h4
   exact hc ⟨s,h3,h4⟩
theorem wy{t:TypeId}{z:List AVal}(h:xf P t=some z):∃v i,P.info? t=some i∧i.zero=some v∧i.size=z.length∧(zeroValue t).run P w=.ok v w∧Xo I β n w z v.cells:=by
 unfold xf at h
 split at h
 ·rename_i i hi
  split at h
  ·cases h
  ·rename_i v hz hne
   split at h
   ·rename_i hc
    simp only[pC,List.all_eq_true,beq_iff_eq] at hc
    simp only[p0] at h
    subst h
    have hcell:∀u∈v.cells.toList,qm u=true:=by
     intro u hu
     have:=hc.1 u hu
     cases u<;>simp[qm] at this ⊢
    obtain⟨f1,f2⟩:=zau (zam P 12 t) (v.cells.toList.map Yp)
    refine⟨v,i,hi,hne,by rw[f1];simp[hc.2],by simp[zeroValue,typeInfo,hi,hne],by rw[f1];simp,hcell,?_⟩
    intro j y u hy hu
    obtain⟨x,hx,hxy⟩:=f2 j y hy
    simp only[pU] at hx
    have hu':v.cells.toList[j]?=some u:=by simpa using hu
    rw[hu'] at hx
    simp at hx
    subst hx
    have hr:=z7o (I:=I) (β:=β) (n:=n) (w:=w) (hcell u (List.mem_of_getElem? hu'))
    rcases hxy with rfl|⟨h3,s,rfl⟩
    ·exact hr
    ·rw[h3] at hr
     cases hr with
     |imm _ _ hr=>cases hr with|val _ _=>exact .imm _ _ (.islNil s true)
   ·cases h
  ·cases h
 ·cases h
theorem z42(off:Nat):∀ (l:List Value) (k:Nat) (arr:Array Value) (i:Nat),
 ((l.zipIdx k).foldl (fun cs (c,j)=>cs.setIfInBounds (off+j) c) arr)[i]?=if off+k≤i∧i<off+k+l.length∧i<arr.size then l[i-(off+k)]? else arr[i]?
 |[],k,arr,i=>by simp;omega
 |c::l,k,arr,i=>by
  simp only[List.zipIdx_cons,List.foldl_cons]
  rw[z42 off l (k+1)]
  simp only[Array.size_setIfInBounds,List.length_cons]
  by_cases h0:i=off+k
  ·subst h0
   rw[if_neg (by omega)]
   by_cases h1:off+k<arr.size
   ·rw[if_pos ⟨p6 _,by omega,h1⟩]
    simp[h1]
   ·rw[if_neg (by omega),pA (by simp;omega),pA (by omega)]
  ·by_cases h1:off+k≤i∧i<off+k+(l.length+1)∧i<arr.size
   ·rw[if_pos (by omega),if_pos h1]
    have:i-(off+k)=(i-(off+(k+1)))+1:=by omega
    rw[this,List.getElem?_cons_succ]
   ·rw[if_neg (by omega),if_neg h1,Array.getElem?_setIfInBounds_ne (by omega)]
theorem V1(off:Nat):∀ (l:List (Value×Nat)) (arr:Array Value),(l.foldl (fun cs (c,j)=>cs.setIfInBounds (off+j) c) arr).size=arr.size
 |[],arr=>rfl
 |_::l,arr=>by simp only[List.foldl_cons];rw[V1 off l];simp
theorem zc2{cs xs:List AVal}{arr vs:Array Value}{off:Nat}(h:Xo I β n w cs arr)(hx:Xo I β n w xs vs)(hl:off+xs.length≤cs.length) :
 Xo I β n w (jp cs off xs) (vs.zipIdx.foldl (fun cs (c,j)=>cs.setIfInBounds (off+j) c) arr):=by
 obtain⟨h1,h2,h3⟩:=h
 obtain⟨g1,g2,g3⟩:=hx
 have e:∀i,(vs.zipIdx.foldl (fun cs (c,j)=>cs.setIfInBounds (off+j) c) arr)[i]?=if off≤i∧i<off+xs.length then vs[i-off]? else arr[i]?:=by
  intro i
  rw[←Array.foldl_toList,Array.toList_zipIdx]
  have:=z42 off vs.toList 0 arr i
  simp only[pY,Array.length_toList,g1] at this
  rw[this]
  by_cases hc:off≤i∧i<off+xs.length
  ·rw[if_pos ⟨hc.1,hc.2,by omega⟩,if_pos hc];simp
  ·rw[if_neg (by omega),if_neg hc]
 refine⟨?_,?_,?_⟩
 ·rw[←Array.foldl_toList,V1,h1]
  simp[jp];omega
 ·intro u hu
  obtain⟨i,hi⟩:=List.getElem?_of_mem hu
  rw[pF,e] at hi
  split at hi
  ·exact g2 u (by rw[←pF] at hi;exact List.mem_of_getElem? hi)
  ·exact h2 u (by rw[←pF] at hi;exact List.mem_of_getElem? hi)
 ·intro i y u hy hu
  rw[e] at hu
  by_cases hc:off≤i∧i<off+xs.length
  ·rw[if_pos hc] at hu
   refine g3 _ _ _ ?_ hu
   unfold jp at hy
   rw[List.append_assoc,List.getElem?_append_right (by simp;omega),List.getElem?_append_left (by simp;omega)] at hy
   rw[←hy];congr 1;simp;omega
  ·rw[if_neg hc] at hu
   refine h3 _ _ _ ?_ hu
   unfold jp at hy
   by_cases hlt:i<off
   ·rw[List.append_assoc,List.getElem?_append_left (by simp;omega),pG hlt] at hy;exact hy
   ·rw[List.getElem?_append_right (by simp;omega),pH] at hy
    rw[←hy];congr 1;simp;omega
theorem Kb(place:Nat→Option (Nat×Nat)):∀ (ps:List (Nat×Value)) (qs:List (Nat×Nat×AVal)) (cs:List AVal) (arr:Array Value),
 ps.length=qs.length→(∀ (k i off m:Nat) (v:Value) (x:AVal),ps[k]?=some (i,v)→qs[k]?=some (off,m,x)→place i=some (off,m)∧Rep I β n w x v) →
 Xo I β n w cs arr→∀ (side:Prop) (y:AVal),Zq cs qs=.ok side y→side→∃arr' cs',Instr.fill place arr ps=some arr'∧y=.agg cs'∧Xo I β n w cs' arr'∧arr'.size=arr.size
 |[],qs,cs,arr,hl,_,hr,side,y,hb,_=>by
  cases qs with
  |cons _ _=>simp at hl
  |nil=>
   simp only[Zq,XR.ok.injEq] at hb
   exact⟨arr,cs,rfl,hb.2.symm,hr,rfl⟩
 |(i,v)::ps,qs,cs,arr,hl,hp,hr,side,y,hb,hs=>by
  cases qs with
  |nil=>simp at hl
  |cons q qs=>
   obtain⟨off,m,x⟩:=q
   obtain⟨h1,h2⟩:=hp 0 i off m v x rfl rfl
   simp only[Zq] at hb
   cases hc:x.cells? with
   |none=>simp[hc] at hb
   |some xs=>
    cases hrec:Zq (jp cs off xs) qs with
    |bad=>simp[hc,hrec] at hb
    |ok s0 y0=>
     simp only[hc,hrec,XR.ok.injEq] at hb
     obtain⟨rfl,rfl⟩:=hb
     obtain⟨k1,k2,k3⟩:=hs
     have hx:=U6 h2 hc
     have hl2:off+xs.length≤cs.length:=by omega
     have hr':=zc2 hr hx hl2
     obtain⟨arr',cs',g1,g2,g3,g4⟩:=Kb place ps qs _ _ (by simpa using hl) (fun k i off m v x a b=>hp (k+1) i off m v x a b) hr' s0 y0 hrec k3
     refine⟨arr',cs',?_,g2,g3,?_⟩
     ·simp only[Instr.fill,h1]
      have:¬(v.cells.size≠m∨arr.size<off+v.cells.size):=by
       have:=hx.1;have:=hr.1;omega
      rw[if_neg (by simpa using this)]
      exact g1
     ·rw[g4,←Array.foldl_toList,V1]
theorem z36{α γ:Type}(f:α→Sem γ)(g:α→γ)(l:List α)(h:∀x∈l,(f x).run P w=.ok (g x) w):(l.mapM f).run P w=.ok (l.map g) w:=by
 induction l with
 |nil=>simp
 |cons x l ih=>
  simp only[List.mapM_cons,p2,h x (by simp),p1,ih (fun y hy=>h y (by simp[hy])),p5,List.map_cons]
theorem zm4{α γ:Type}(f:α→Sem γ)(g:α→γ)(l:Array α)(h:∀x∈l.toList,(f x).run P w=.ok (g x) w):(l.mapM f).run P w=.ok (l.map g) w:=by
 rw[Array.mapM_eq_mapM_toList,Sem.run_map,z36 f g l.toList h,p1]
 congr 1
 simp[←pR]
theorem Xp(l:List (Nat×Nat×LOpd)):(wb e l).length=l.length:=by
 induction l with
 |nil=>rfl
 |cons x l ih=>obtain⟨_,_,_⟩:=x;simp[wb,ih]
theorem Jx(hE:RepEnv I β n w e a){fs:Array Field}:∀ (ps:List (Nat×Operand)) (l:List (Nat×Nat×LOpd)),Z9 P fs ps=some l→jy e l →
 ps.length=l.length∧∀ (k i off m:Nat) (v:Value) (x:AVal),(ps.map fun q=>(q.1,a.eval q.2))[k]?=some (i,v)→(wb e l)[k]?=some (off,m,x) →
  (∃f,fs[i]?=some f∧f.offset=off∧xl P f.type=some m)∧Rep I β n w x v
 |[],l,h,_=>by simp[Z9] at h;subst h;simp
 |(i0,o0)::ps,l,h,hn=>by
  simp only[Z9] at h
  cases hf:fs[i0]? with
  |none=>simp[hf] at h
  |some f=>
  cases hs:xl P f.type with
  |none=>simp[hf,hs] at h
  |some m0=>
  cases hx:ye o0 with
  |none=>simp[hf,hs,hx] at h
  |some x0=>
  cases hr:Z9 P fs ps with
  |none=>simp[hf,hs,hx,hr] at h
  |some l0=>
   simp only[hf,hs,hx,hr,p0] at h
   subst h
   simp only[jy] at hn
   obtain⟨ih1,ih2⟩:=Jx hE ps l0 hr hn.2
   refine⟨by simp[ih1],?_⟩
   intro k i off m v x h1 h2
   cases k with
   |zero=>
    simp[wb] at h1 h2
    obtain⟨rfl,rfl⟩:=h1
    obtain⟨rfl,rfl,rfl⟩:=h2
    exact⟨⟨f,hf,rfl,hs⟩,zu hE hx hn.1⟩
   |succ k=>exact ih2 k i off m v x (by simpa using h1) (by simpa[wb] using h2)
theorem W1(hE:RepEnv I β n w e a){s:Nat}:∀ (ps:List (Nat×Operand)) (l:List (Nat×Nat×LOpd)),Z8 s ps=some l→jy e l →
 ps.length=l.length∧∀ (k i off m:Nat) (v:Value) (x:AVal),(ps.map fun q=>(q.1,a.eval q.2))[k]?=some (i,v)→(wb e l)[k]?=some (off,m,x) →
  (off=i*s∧m=s)∧Rep I β n w x v
 |[],l,h,_=>by simp[Z8] at h;subst h;simp
 |(i0,o0)::ps,l,h,hn=>by
  simp only[Z8] at h
  cases hx:ye o0 with
  |none=>simp[hx] at h
  |some x0=>
  cases hr:Z8 s ps with
  |none=>simp[hx,hr] at h
  |some l0=>
   simp only[hx,hr,p0] at h
   subst h
   simp only[jy] at hn
   obtain⟨ih1,ih2⟩:=W1 hE ps l0 hr hn.2
   refine⟨by simp[ih1],?_⟩
   intro k i off m v x h1 h2
   cases k with
   |zero=>
    simp[wb] at h1 h2
    obtain⟨rfl,rfl⟩:=h1
    obtain⟨rfl,rfl,rfl⟩:=h2
    exact⟨⟨rfl,rfl⟩,zu hE hx hn.1⟩
   |succ k=>exact ih2 k i off m v x (by simpa using h1) (by simpa[wb] using h2)
theorem z5s{t:TypeId}{fs:Array Field}{parts:Array (Nat×Operand)}{z:List AVal}{l:List (Nat×Nat×LOpd)}(ht:P.underlying t=some (.struct fs))(hz:xf P t=some z)(hl:Z9 P fs parts.toList=some l)
 (hall:fs.toList.all (fun f=>(xl P f.type).isSome)=true) (hE:RepEnv I β n w e a) (hn:jy e l) {side:Prop} {y:AVal} (h:Zq z (wb e l)=.ok side y) (hs:side) :
 ∃r,(Instr.build t (parts.map fun(i,x)=>(i,a.eval x))).run P w=.ok r w∧Rep I β n w y r:=by
 obtain⟨zv,zi,_,_,_,hzv,hzr⟩:=wy (I:=I) (β:=β) (n:=n) (w:=w) hz
 obtain⟨g1,g2⟩:=Jx hE parts.toList l hl hn
 have hm:=zm4 (P:=P) (w:=w) (fun f:Field=>(do pure (f.offset,←sizeOf f.type):Sem (Nat×Nat))) (fun f=>(f.offset,(xl P f.type).getD 0)) fs (by
  intro f hf
  have:=List.all_eq_true.1 hall f hf
  obtain⟨m,hm⟩:=Option.isSome_iff_exists.1 this
  simp[yu hm,hm])
 obtain⟨arr',cs',k1,k2,k3,_⟩:=Kb (I:=I) (β:=β) (n:=n) (w:=w) (fun i=>(fs.map fun f=>(f.offset,(xl P f.type).getD 0))[i]?) (parts.toList.map fun q=>(q.1,a.eval q.2)) (wb e l) z zv.cells
  (by simp[Xp,←g1]) (by
   intro k i off m v x h1 h2
   obtain⟨⟨f,hf,ho,hsz⟩,hr⟩:=g2 k i off m v x h1 h2
   refine⟨?_,hr⟩
   simp[hf,ho,hsz]) hzr side y h hs
 subst k2
 refine⟨.agg arr',?_,.agg _ _ k3.1 k3.2.1 k3.2.2⟩
 simp only[Instr.build,p2,hzv,p1,za ht,hm,pR]
 rw[show(parts.toList.map fun(x:Nat×Operand)=>match x with|(i,x)=>(i,a.eval x))=parts.toList.map fun q=>(q.1,a.eval q.2) from rfl,k1]
 rfl
theorem z6s{t c:TypeId}{m s:Nat}{parts:Array (Nat×Operand)}{z:List AVal}{l:List (Nat×Nat×LOpd)}(ht:P.underlying t=some (.array m c))(hz:xf P t=some z)(hsz:xl P c=some s)(hl:Z8 s parts.toList=some l)
 (hE:RepEnv I β n w e a) (hn:jy e l) {side:Prop} {y:AVal} (h:Zq z (wb e l)=.ok side y) (hs:side) :
 ∃r,(Instr.build t (parts.map fun(i,x)=>(i,a.eval x))).run P w=.ok r w∧Rep I β n w y r:=by
 obtain⟨zv,zi,_,_,_,hzv,hzr⟩:=wy (I:=I) (β:=β) (n:=n) (w:=w) hz
 obtain⟨g1,g2⟩:=W1 hE parts.toList l hl hn
 obtain⟨arr',cs',k1,k2,k3,_⟩:=Kb (I:=I) (β:=β) (n:=n) (w:=w) (fun i=>some (i*s,s)) (parts.toList.map fun q=>(q.1,a.eval q.2)) (wb e l) z zv.cells
  (by simp[Xp,←g1]) (by
   intro k i off m v x h1 h2
   obtain⟨⟨rfl,rfl⟩,hr⟩:=g2 k i off m v x h1 h2
   exact⟨rfl,hr⟩) hzr side y h hs
 subst k2
 refine⟨.agg arr',?_,.agg _ _ k3.1 k3.2.1 k3.2.2⟩
 simp only[Instr.build,p2,hzv,p1,za ht,yu hsz,pR]
 rw[show(parts.toList.map fun(x:Nat×Operand)=>match x with|(i,x)=>(i,a.eval x))=parts.toList.map fun q=>(q.1,a.eval q.2) from rfl,k1]
 rfl
theorem u0(hE:RepEnv I β n w e a):∀ (xs:List Operand) (ys:List LOpd),u4 xs=some ys→Q3 e ys→(xs.map a.eval).length=(evs e ys).length∧∀ (i:Nat) (y:AVal) (v:Value),(evs e ys)[i]?=some y→(xs.map a.eval)[i]?=some v→Rep I β n w y v
 |[],ys,h,_=>by simp[u4] at h;subst h;simp[evs]
 |x::xs,ys,h,hn=>by
  simp only[u4] at h
  cases hx:ye x with
  |none=>simp[hx] at h
  |some y0=>
  cases hr:u4 xs with
  |none=>simp[hx,hr] at h
  |some ys0=>
   simp only[hx,hr,p0] at h
   subst h
   simp only[Q3] at hn
   obtain⟨h1,h2⟩:=u0 hE xs ys0 hr hn.2
   refine⟨by simpa[evs] using h1,?_⟩
   intro i y v hy hv
   cases i with
   |zero=>simp[evs] at hy hv;subst hy;subst hv;exact zu hE hx hn.1
   |succ i=>exact h2 i y v (by simpa[evs] using hy) (by simpa using hv)
theorem Ww(m:Bool):∀ (l:List AVal) (vs:List Value) (x y:AVal) (v:Value),vs.length=l.length→(∀ (i:Nat) (y:AVal) (v:Value),l[i]?=some y→vs[i]?=some v→Rep I β n w y v)→Rep I β n w x v →
 ∀side,zg8 m x l=.ok side y→side→∃r,(vs.foldlM (if m then Builtin.max2 else Builtin.min2) v).run P w=.ok r w∧Rep I β n w y r
 |[],vs,x,y,v,hl,_,hx,side,h,_=>by
  cases vs with
  |cons _ _=>simp at hl
  |nil=>
   simp only[zg8,XR.ok.injEq] at h
   obtain⟨_,rfl⟩:=h
   exact⟨v,rfl,hx⟩
 |z::l,vs,x,y,v,hl,hr,hx,side,h,hs=>by
  cases vs with
  |nil=>simp at hl
  |cons u vs=>
   cases x<;>cases z<;>simp only[zg8] at h<;>try (cases h;done)
   rename_i k p k' q
   have hu:=(hr 0 _ u rfl rfl).int_inv
   subst hu
   obtain rfl:=hx.int_inv
   cases hrec:zg8 m (.int k (if m then(if q > p then q else p) else(if q<p then q else p))) l with
   |bad=>simp[hrec] at h
   |ok s0 y0=>
    simp only[hrec,XR.ok.injEq] at h
    obtain⟨rfl,rfl⟩:=h
    obtain⟨rfl,hs⟩:=hs
    obtain⟨r,h1,h2⟩:=Ww m l vs _ y0 (.int k (if m then(if q > p then q else p) else(if q<p then q else p))) (by simpa using hl) (fun i y v a b=>hr (i+1) y v a b) (.imm _ _ (.int _ _)) s0 hrec hs
    refine⟨r,?_,h2⟩
    rw[List.foldlM_cons,p2,←h1]
    cases m<;>rfl
end
end Go.Fx
namespace Go.Fx
variable {P:Program}
section
variable {I:Nat→Nat→Prop} {β:Id→Option CLoc} {n:Nat} {H:AHeap} {w:World} {e:Env} {a:Act}
theorem Z2{ks:List CK}{ka:Bool}{k:AVal}(h:Qv ks ka k=true):vo k=ka∧∃b,ya ks (qp k) (qp k)=some b:=by
 unfold Qv at h
 simp only[pC] at h
 refine⟨?_,Option.isSome_iff_exists.1 h.2⟩
 cases ka<;>cases hk:vo k<;>simp[hk] at h ⊢
theorem U1{ks:List CK}{k k':AVal}{b:Bool}(h:Vy ks k k'=some b):vo k'=vo k∧ya ks (qp k) (qp k')=some b:=by
 unfold Vy at h
 split at h
 ·rename_i h1 h2;exact⟨by rw[h1,h2],h⟩
 ·rename_i h1 h2;exact⟨by rw[h1,h2],h⟩
 ·cases h
theorem Y7{k:AVal}{v:Value}(h:Rep I β n w k v):OfCells I β n w (vo k) (qp k) v:=by
 unfold OfCells
 cases k<;>simp[vo,qp,yn]<;>exact h
theorem OfCells.ofI{k:AVal}{v:Value}(h:RepI I w k v):OfCells I β n w (vo k) (qp k) v:=Y7 (.imm _ _ h)
theorem Ym(em:Bool):∀ (d:Nat) (t:TypeId) (ks:List CK),kf P d t=some ks→∀ (D:Nat),d≤D→∀ {cs:List AVal} {x:Value} {g:Bool},Xb P t=some g→OfCells I β n w g cs x →
 ∀b,ya ks cs cs=some b→(pZ em D t x).run P w=.ok () w:=by
 intro d
 induction d with
 |zero=>intro t ks h;simp[kf] at h
 |succ d ih=>
  intro t ks h D hD cs x g hg hx b hb
  obtain⟨D,rfl⟩:∃D',D=D'+1:=⟨D-1,by omega⟩
  obtain⟨hl1,hl2⟩:=k7 hb
  unfold kf at h
  split at h
  ·rename_i hu
   unfold pZ
   simp only[p2,za hu,p1,p5]
  ·rename_i hu
   unfold pZ
   simp only[p2,za hu,p1,p5]
  ·rename_i hu
   unfold pZ
   simp only[p2,za hu,p1,p5]
  ·rename_i fs hu
   split at h<;>try (cases h;done)
   rename_i hst
   simp only[Xb,hu,p0] at hg
   subst hg
   simp only[OfCells,yn,if_true,List.drop_zero,List.take_length] at hx
   obtain⟨xs,rfl,hx1,hx2,hx3⟩:=hx.agg_inv
   unfold pZ
   simp only[p2,za hu,p1]
   rw[←Array.forIn_toList]
   have key:∀ (fl:List Field) (off:Nat) (ks:List CK),eqFields P (kf P d) off fl=some ks→off≤cs.length→∀b,ya ks (cs.drop off) (cs.drop off)=some b →
    (forIn (m:=Sem) fl PUnit.unit (fun f _=>do
     if f.name≠"_" then do
      let x ←part f.type xs f.offset
      pZ em D f.type x
      pure (ForInStep.yield PUnit.unit)
     else pure (ForInStep.yield PUnit.unit))).run P w=.ok PUnit.unit w:=by
    intro fl
    induction fl with
    |nil=>intro off ks h ho b hb;rfl
    |cons f fl ihf=>
     intro off ks h ho b hb
     simp only[eqFields] at h
     split at h<;>try (cases h;done)
     rename_i hcond
     simp only[Bool.or_eq_true,not_or,bne_iff_ne,ne_eq,Decidable.not_not,beq_iff_eq] at hcond
     obtain⟨hname,hoff⟩:=hcond
     split at h<;>try (cases h;done)
     rename_i l g m hl hg hm
     split at h<;>try (cases h;done)
     rename_i hc2
     simp only[pC,Bool.or_eq_true,beq_iff_eq] at hc2
     obtain⟨hlm,hgm⟩:=hc2
     simp only[p3] at h
     obtain⟨ks2,hks2,rfl⟩:=h
     obtain⟨b1,b2,h1,h2,rfl⟩:=Yq hb
     rw[hlm] at h1 h2
     rw[List.drop_drop] at h2
     obtain⟨l1,l2⟩:=k7 h1
     simp only[List.length_take,List.length_drop] at l1 l2
     obtain⟨rx,hrx,hRx⟩:=Yc (w:=w) (off:=off) hg hm hgm hx1 hx2 hx3 (by omega)
     have conv:OfCells I β n w g ((cs.drop off).take m) rx:=by
      have hle:off+m≤cs.length:=by omega
      have hlen:((cs.drop off).take m).length=m:=by simp;omega
      unfold OfCells
      rw[hlen]
      cases g with
      |true=>simpa[yn,List.take_take] using hRx
      |false=>
       have hm1:m=1:=by rcases hgm with h|h;cases h;exact h
       subst hm1
       simp only[yn,p7,if_false] at hRx ⊢
       have:((cs.drop off).take 1).getD 0 .any=cs.getD off .any:=by
        simp[pD,pG,pH]
       rw[this];exact hRx
     have hck:=ih f.type l hl D (by omega) hg conv b1 h1
     simp only[List.forIn_cons,p2,ne_eq,hname,not_false_eq_true,if_true,hoff,hrx,p1,hck,p5]
     simpa using ihf (off+m) ks2 hks2 (by omega) b2 h2
   have:=key fs.toList 0 ks h (Nat.zero_le _) b (by simpa using hb)
   rw[this];rfl
  ·cases h
def EntsAt(I:Nat→Nat→Prop)(β:Id→Option CLoc)(n:Nat)(w:World):List (AVal×AVal)→List MapEntry→Prop
 |[],[]=>True
 |(k,x)::r,m::ms=>RepI I w k m.key∧Rep I β n w x m.val∧EntsAt I β n w r ms
 |_,_=>False
theorem EntsAt.of:∀ {es:List (AVal×AVal)} {l:List MapEntry},l.length=es.length→(∀ (i:Nat) (k x:AVal) (e:MapEntry),es[i]?=some (k,x)→l[i]?=some e→RepI I w k e.key∧Rep I β n w x e.val)→EntsAt I β n w es l
 |[],[],_,_=>trivial
 |[],_::_,h,_=>by simp at h
 |_::_,[],h,_=>by simp at h
 |(k,x)::r,m::ms,h,hr=>by
  obtain⟨h1,h2⟩:=hr 0 k x m rfl rfl
  exact⟨h1,h2,EntsAt.of (by simpa using h) (fun i k x e hi he=>hr (i+1) k x e (by simpa using hi) (by simpa using he))⟩
theorem EntsAt.get:∀ {es:List (AVal×AVal)} {l:List MapEntry},EntsAt I β n w es l→l.length=es.length∧∀ (i:Nat) (k x:AVal) (e:MapEntry),es[i]?=some (k,x)→l[i]?=some e→RepI I w k e.key∧Rep I β n w x e.val
 |[],[],_=>⟨rfl,fun i k x e hi _=>by simp at hi⟩
 |[],_::_,h=>h.elim
 |_::_,[],h=>h.elim
 |(k,x)::r,m::ms,h=>by
  obtain⟨h1,h2,h3⟩:=h
  obtain⟨g1,g2⟩:=EntsAt.get h3
  refine⟨by simp[g1],fun i k' x' e hi he=>?_⟩
  cases i with
  |zero=>simp only[pW,p0,pT] at hi he;obtain⟨rfl,rfl⟩:=hi;subst he;exact⟨h1,h2⟩
  |succ i=>exact g2 i k' x' e (by simpa using hi) (by simpa using he)
def Z7(ks:List CK)(k:AVal):List (AVal×AVal)→Option (Option Nat)
 |[]=>some none
 |(k',_)::r=>match Vy ks k k' with
  |some true=>some (some 0)
  |some false=>(Z7 ks k r).map (·.map (·+1))
  |none=>none
theorem z04{ks:List CK}{k:AVal}:∀ {es:List (AVal×AVal)} {r:Option AVal},z0t ks k es=some r→∃p,Z7 ks k es=some p∧(match p,r with|none,none=>True|some i,some x=>∃k',es[i]?=some (k',x)|_,_=>False)
 |[],r,h=>by simp only[z0t,p0] at h;subst h;exact⟨none,rfl,trivial⟩
 |(k',x)::t,r,h=>by
  simp only[z0t] at h
  simp only[Z7]
  split at h
  ·rename_i hc
   simp only[p0] at h
   subst h
   exact⟨some 0,by simp only[hc],k',rfl⟩
  ·rename_i hc
   obtain⟨p,h1,h2⟩:=z04 h
   simp only[hc,h1,pM]
   refine⟨_,rfl,?_⟩
   cases p<;>cases r<;>simp only[Option.map_none,pM] at h2 ⊢
   obtain⟨k2,h2⟩:=h2
   exact⟨k2,by simpa using h2⟩
  ·cases h
theorem z7z{α:Type}{l:List α}{j:Nat}{x:α}(h:l[j]?=some x):j<l.length:=by
 rcases p8 j l.length with h'|h'
 ·exact h'
 ·rw[p9 h'] at h;cases h
theorem zk0{α:Type}{l:List α}{j:Nat}{x:α}(h:l[j]?=some x):j<l.length:=z7z h
theorem Kl{cs:List AVal}(h:cs.length=1):∃c,cs=[c]:=pE.1 h
def ky(l:List MapEntry)(j:Nat)(p:Option Nat):Option (Nat×Value):=p.bind fun i=>(l[i]?).map fun m=>(j+i,m.val)
theorem Vh(m:MapEntry)(ms:List MapEntry)(j:Nat)(q:Option Nat):ky (m::ms) j (q.map (·+1))=ky ms (j+1) q:=by
 cases q with
 |none=>rfl
 |some i=>simp only[ky,pM,Option.bind_some,List.getElem?_cons_succ];congr 1;funext x;rw[show j+(i+1)=j+1+i by omega]
theorem Xh{kt:TypeId}{ks:List CK}{ka:Bool}(hks:kf P 50 kt=some ks)(hka:Xb P kt=some ka){k:AVal}{v:Value}(hk:Rep I β n w k v)(hok:Qv ks ka k=true){es:List (AVal×AVal)}{l:List MapEntry}(hl:EntsAt I β n w es l)
 {p:Option Nat} (hp:Z7 ks k es=some p) :
 (Instr.findKey kt v l).run P w=.ok (ky l 0 p) w:=by
 obtain⟨hkag,b0,hb0⟩:=Z2 hok
 have hkc:=Y7 hk
 rw[hkag] at hkc
 -- the search that asks
 have asks:∀ {es:List (AVal×AVal)} {l:List MapEntry},EntsAt I β n w es l→∀ {p:Option Nat},Z7 ks k es=some p→∀j,(Instr.findAsking kt v l j).run P w=.ok (ky l j p) w:=by
  intro es
  induction es with
  |nil=>
   intro l hl p hp j
   cases l with
   |cons _ _=>exact hl.elim
   |nil=>simp only[Z7,p0] at hp;subst hp;rfl
  |cons x r ih=>
   intro l hl p hp j
   obtain⟨k',y⟩:=x
   cases l with
   |nil=>exact hl.elim
   |cons m ms=>
    obtain⟨h1,h2,h3⟩:=hl
    simp only[Z7] at hp
    cases hce0:Vy ks k k' with
    |none=>rw[hce0] at hp;cases hp
    |some b=>
     obtain⟨hag,hce⟩:=U1 hce0
     have hka':vo k'=ka:=by rw[hag,hkag]
     have hkc':=OfCells.ofI (β:=β) (n:=n) h1
     rw[hka'] at hkc'
     have heq:=z5a 50 kt ks hks Op.maxDepth (by unfold Op.maxDepth;omega) hka hkc hkc' b hce
     rw[hce0] at hp
     simp only[Instr.findAsking,p2]
     unfold Op.equal
     simp only[heq,p1]
     cases b with
     |true=>
      simp only[p0] at hp
      subst hp
      simp[ky]
     |false=>
      simp only[p3] at hp
      obtain⟨q,hq,rfl⟩:=hp
      simp only[p7,if_false]
      rw[ih h3 hq (j+1),Vh]
 -- the search at once, for numbers, strings, bools
 have now:∀ (kd:TypeDesc),P.underlying kt=some kd→(∀fs,kd≠.struct fs)→∀ {es:List (AVal×AVal)} {l:List MapEntry},EntsAt I β n w es l→∀ {p:Option Nat},Z7 ks k es=some p→∀j,
  Instr.findNow kd v l j=some (ky l j p):=by
  intro kd hkd hns es
  have same:∀ {k':AVal} {u:Value} {b:Bool},vo k'=ka→RepI I w k' u→ya ks (qp k) (qp k')=some b→Instr.sameNow kd v u=some b:=by
   intro k' u b hk' hu hce
   unfold kf at hks
   rw[hkd] at hks
   have hkc':=OfCells.ofI (β:=β) (n:=n) hu
   rw[hk'] at hkc'
   obtain⟨hl1,hl2⟩:=k7 hce
   split at hks
   ·rename_i heq
    simp only[p0] at heq hks
    subst heq;subst hks
    simp only[Xb,hkd,p0] at hka
    subst hka
    obtain⟨c,hc⟩:=Kl hl1
    obtain⟨c',hc'⟩:=Kl hl2
    rw[hc] at hce hkc;rw[hc'] at hce hkc'
    simp only[OfCells,yn,p7,if_false,pQ] at hkc hkc'
    cases c<;>cases c'<;>simp[ya,Zp] at hce
    obtain rfl:=hkc.bool_inv
    obtain rfl:=hkc'.bool_inv
    subst hce
    rfl
   ·rename_i q heq
    simp only[p0] at heq hks
    subst heq;subst hks
    simp only[Xb,hkd,p0] at hka
    subst hka
    obtain⟨c,hc⟩:=Kl hl1
    obtain⟨c',hc'⟩:=Kl hl2
    rw[hc] at hce hkc;rw[hc'] at hce hkc'
    simp only[OfCells,yn,p7,if_false,pQ] at hkc hkc'
    cases c<;>cases c'<;>simp[ya,Zp] at hce
    rename_i k1 a1 k2 a2
    obtain rfl:=hkc.int_inv
    obtain rfl:=hkc'.int_inv
    by_cases hkk:k1=k2
    ·subst hkk;simp at hce;subst hce;simp[Instr.sameNow]
    ·simp[hkk] at hce
   ·rename_i heq
    simp only[p0] at heq hks
    subst heq;subst hks
    simp only[Xb,hkd,p0] at hka
    subst hka
    obtain⟨c,hc⟩:=Kl hl1
    obtain⟨c',hc'⟩:=Kl hl2
    rw[hc] at hce hkc;rw[hc'] at hce hkc'
    simp only[OfCells,yn,p7,if_false,pQ] at hkc hkc'
    cases c<;>cases c'<;>simp[ya,Zp] at hce
    rename_i s1 s2
    obtain rfl:=hkc.str_inv
    obtain rfl:=hkc'.str_inv
    subst hce
    simp only[Instr.sameNow,p0]
    rw[beq_toListBytes,Zs,Zs]
   ·rename_i fs heq
    simp only[p0] at heq
    exact absurd heq (hns fs)
   ·cases hks
  induction es with
  |nil=>
   intro l hl p hp j
   cases l with
   |cons _ _=>exact hl.elim
   |nil=>simp only[Z7,p0] at hp;subst hp;rfl
  |cons x r ih=>
   intro l hl p hp j
   obtain⟨k',y⟩:=x
   cases l with
   |nil=>exact hl.elim
   |cons m ms=>
    obtain⟨h1,h2,h3⟩:=hl
    simp only[Z7] at hp
    cases hce0:Vy ks k k' with
    |none=>rw[hce0] at hp;cases hp
    |some b=>
     obtain⟨hag,hce⟩:=U1 hce0
     rw[hce0] at hp
     simp only[Instr.findNow,same (by rw[hag,hkag]) h1 hce]
     cases b with
     |true=>simp only[p0] at hp;subst hp;simp[ky]
     |false=>
      simp only[p3] at hp
      obtain⟨q,hq,rfl⟩:=hp
      simp only
      rw[ih h3 hq (j+1),Vh]
 -- one of the two
 unfold Instr.findKey
 cases hu:P.underlying kt with
 |none=>unfold kf at hks;rw[hu] at hks;cases hks
 |some kd=>
  simp only[p2,za hu,p1]
  by_cases hs:∃fs,kd=.struct fs
  ·obtain⟨fs,rfl⟩:=hs
   cases hf:Instr.findNow (.struct fs) v l 0 with
   |none=>simpa using asks hl hp 0
   |some r=>
    -- no key is found at once in a struct type, but in the empty map
    cases l with
    |nil=>
     cases es with
     |nil=>
      simp only[Z7,p0] at hp
      subst hp
      simp only[Instr.findNow,p0] at hf
      subst hf
      rfl
     |cons _ _=>exact hl.elim
    |cons m ms=>
     simp[Instr.findNow,Instr.sameNow] at hf
  ·have:=now kd hu (fun fs h=>hs ⟨fs,h⟩) hl hp 0
   rw[this]
   simp
theorem z8e(z:AVal){x:AVal}{v:Value}(h:RepI I w x v):RepI I w (Yy z x) v:=by
 unfold Yy
 split
 ·cases h with|val _ _=>exact .islNil _ _
 ·cases h with
  |isl _ _ _ b o cap vf h1 h2 h3 h4 h5 h6 h7=>exact .isl _ _ false b o cap vf h1 h2 (fun h=>by cases h) h4 h5 h6 h7
  |islEmpty _ _ b cap h1=>exact .islEmpty _ _ b cap (fun h=>by cases h)
  |islNil _ _=>exact .islNil _ _
 ·exact h
theorem Jh(z:AVal){x:AVal}{v:Value}(h:Rep I β n w x v):Rep I β n w (Yy z x) v:=by
 unfold Yy
 split
 ·rw[h.val_inv];exact .imm _ _ (.islNil _ _)
 ·rename_i s es f
  cases h with
  |imm _ _ h=>
   have:=z8e (I:=I) (w:=w) (.isl 0 [] false) h
   exact .imm _ _ this
 ·exact h
theorem Uc:∀ (zs r:List AVal),(xz zs r).length=r.length∧∀ (j:Nat) (y:AVal),(xz zs r)[j]?=some y→∃x z,r[j]?=some x∧(y=x∨y=Yy z x)
 |[],r=>⟨by simp[xz],fun j y h=>⟨y,y,by simpa[xz] using h,.inl rfl⟩⟩
 |z::zs,[]=>⟨by simp[xz],fun j y h=>by simp[xz] at h⟩
 |z::zs,x::r=>by
  obtain⟨h1,h2⟩:=Uc zs r
  refine⟨by simp[xz,h1],fun j y hy=>?_⟩
  cases j with
  |zero=>simp[xz] at hy;exact⟨x,z,rfl,.inr hy.symm⟩
  |succ j=>simpa using h2 j y (by simpa[xz] using hy)
theorem zj6{et:TypeId}{g:Bool}{zs:List AVal}(hz:xf P et=some zs)(hzg:z33 P et=some g)(hgl:g=true∨zs.length=1):∃v,(zeroValue et).run P w=.ok v w∧Rep I β n w (z6t g zs) v:=by
 obtain⟨v,i,h1,h2,h3,h4,h5⟩:=wy (I:=I) (β:=β) (n:=n) (w:=w) hz
 refine⟨v,h4,?_⟩
 unfold z33 at hzg
 rw[h1] at hzg
 simp only[h2] at hzg
 obtain⟨k1,k2⟩:=h5
 unfold z6t
 cases v with
 |agg vs=>
  simp only[p0] at hzg
  subst hzg
  simp only[if_true]
  obtain⟨q1,q2⟩:=Uc zs zs
  refine .agg _ vs (by rw[q1];simpa[Value.cells] using k1) k2.1 (fun i x u hx hu=>?_)
  obtain⟨x0,z0,h1,h2⟩:=q2 i x hx
  have:=k2.2 i x0 u h1 hu
  rcases h2 with rfl|rfl
  ·exact this
  ·exact Jh z0 this
 |_=>
  simp only[p0] at hzg
  subst hzg
  have hl:zs.length=1:=by rcases hgl with h|h;cases h;exact h
  obtain⟨z,rfl⟩:=Kl hl
  show Rep I β n w (Yy z z) _
  exact Jh z (k2.2 0 z _ rfl rfl)
theorem zji{et:TypeId}(h:zvi P et=true):∃v,(zeroValue et).run P w=.ok v w∧Rep I β n w (z6t false [.val (.slice none 0 0)]) v:=by
 unfold zvi at h
 split at h
 ·rename_i i hi
  split at h
  ·rename_i hz
   refine⟨.slice none 0 0,by simp[zeroValue,typeInfo,hi,hz],?_⟩
   show Rep I β n w (.val (.slice none 0 0)) _
   exact .imm _ _ (.val _ rfl)
  ·cases h
 ·cases h
theorem zct{et:TypeId}{g vm:Bool}{zs:List AVal}(hz:xf P et=some zs)(hzg:z33 P et=some g)(hgl:g=true∨zs.length=1) :
 ∃v,(zeroValue et).run P w=.ok v w∧Rep I β n w (z6t g (if !vm&&!g&&zvi P et then [.val (.slice none 0 0)] else zs)) v:=by
 split
 ·rename_i hc
  simp only[pC,Bool.not_eq_true'] at hc
  obtain⟨⟨_,rfl⟩,h⟩:=hc
  exact zji h
 ·exact zj6 hz hzg hgl
theorem z28{g ok:Bool}{zs:List AVal}{r:Option AVal}{v:Value}(h:Rep I β n w (r.getD (z6t g zs)) v):Rep I β n w (zn9 g ok zs r) (if ok then .tuple #[v,.bool r.isSome] else v):=by
 unfold zn9
 cases ok with
 |false=>simpa using h
 |true=>
  simp only[if_true]
  refine .tup _ _ rfl (fun i x u hx hu=>?_)
  match i with
  |0=>simp at hx hu;subst hx;subst hu;exact h
  |1=>simp at hx hu;subst hx;subst hu;exact .imm _ _ (.bool _)
  |i+2=>simp at hx
theorem zga{es:List (AVal×AVal)}{arr:Array MapEntry}{ck:Nat}(h:MapIn I β n w es arr ck):EntsAt I β n w es arr.toList:=
 EntsAt.of (by simpa using h.len) (fun i k x e hi he=>h.ent i k x e hi (by simpa using he))
theorem z71{t kt et:TypeId}{ks:List CK}{ka g ok:Bool}{zs:List AVal}(ht:P.underlying t=some (.map kt et))(hks:kf P 50 kt=some ks)(hka:Xb P kt=some ka)(hzz:∃v,(zeroValue et).run P w=.ok v w∧Rep I β n w (z6t g zs) v)
 (hI:Inv I β n H w) {x k y:AVal} {v u:Value} (hx:Rep I β n w x v) (hk:Rep I β n w k u) {side:Prop} (h:Vk ks ka g ok zs H k x=.ok side y) (hside:side):∃r,(Instr.lookup t v u ok).run P w=.ok r w∧Rep I β n w y r:=by
 obtain⟨zv,hzr,hzR⟩:=hzz
 unfold Vk at h
 split at h
 ·split at h<;>try (cases h;done)
  rename_i hok
  simp only[XR.ok.injEq] at h
  obtain⟨rfl,rfl⟩:=h
  obtain rfl:=hx.val_inv
  obtain⟨hag,b,hb⟩:=Z2 hok
  have hkc:=Y7 hk
  rw[hag] at hkc
  have hck:=Ym (P:=P) (w:=w) (I:=I) (β:=β) (n:=n) true 50 kt ks hks 10000 (by omega) hka hkc b hb
  refine⟨_,?_,z28 (r:=none) hzR⟩
  unfold Instr.lookup
  simp only[p2,za ht,p1,p5]
  have hf:(Instr.findKey kt u (#[]:Array MapEntry).toList).run P w=.ok none w:=Xh hks hka hk hok (es:=[]) (l:=[]) trivial rfl
  simp only[Array.isEmpty_empty,hck,p1,hf,p2,hzr,p5]
  cases ok<;>rfl
 ·rename_i b
  split at h<;>try (cases h;done)
  rename_i es hg
  split at h<;>try (cases h;done)
  rename_i hok
  simp only[XR.ok.injEq] at h
  obtain⟨rfl,rfl⟩:=h
  obtain⟨r,hr⟩:=Option.isSome_iff_exists.1 hside
  rw[hr,Option.getD_some]
  obtain⟨c,hc,h1,h2,arr,ck,h3,h4⟩:=hI.blocks b _ hg
  have hv:v=.map (some c.blk):=by
   cases hx with
   |imm _ _ h=>cases h
   |map _ q _ hq=>rw[hq c hc]
  subst hv
  obtain⟨hag,b0,hb0⟩:=Z2 hok
  have hkc:=Y7 hk
  rw[hag] at hkc
  have hck:=Ym (P:=P) (w:=w) (I:=I) (β:=β) (n:=n) arr.isEmpty 50 kt ks hks 10000 (by omega) hka hkc b0 hb0
  obtain⟨p,hp,hpr⟩:=z04 hr
  have hf:=Xh hks hka hk hok (zga h4) hp
  have run:∀ (q:Option (Nat×Value)) (vv:Value),(Instr.findKey kt u arr.toList).run P w=.ok q w→(match q with|some (_,v)=>(pure (v,true):Sem (Value×Bool))|none=>do pure (←zeroValue et,false)).run P w=.ok (vv,r.isSome) w →
   (Instr.lookup t (.map (some c.blk)) u ok).run P w=.ok (if ok then .tuple #[vv,.bool r.isSome] else vv) w:=by
   intro q vv h5 h6
   unfold Instr.lookup
   simp only[p2,za ht,p1,MapKept.run_getObj_map h3,p5,hck,h5]
   cases q with
   |none=>
    simp only[p2,hzr,p1,p5,Result.ok.injEq,pT,and_true] at h6 ⊢
    obtain⟨rfl,h6⟩:=h6
    rw[←h6]
    try (cases ok<;>simp)
   |some z=>
    obtain⟨zi,zv⟩:=z
    simp only[p5,Result.ok.injEq,pT,and_true] at h6 ⊢
    obtain⟨rfl,h6⟩:=h6
    rw[←h6]
    try (cases ok<;>simp)
  cases p with
  |none=>
   cases r with
   |some x=>exact hpr.elim
   |none=>
    refine⟨_,run none zv hf ?_,z28 (r:=none) hzR⟩
    simp only[p2,hzr,p1,p5]
    rfl
  |some i=>
   cases r with
   |none=>exact hpr.elim
   |some x=>
    obtain⟨k',hk'⟩:=hpr
    have hi:i<arr.size:=by rw[h4.len];exact zk0 hk'
    obtain⟨_,g2⟩:=h4.ent i k' x arr[i] hk' (pB hi)
    refine⟨_,run (some (i,arr[i].val)) arr[i].val ?_ ?_,z28 (r:=some x) g2⟩
    ·rw[hf]
     simp[ky,hi]
    ·simp only[p5];rfl
 ·cases h
theorem zcf{t kt et rt:TypeId}(ht:P.underlying t=some (.map kt et))(hI:Inv I β n H w){x y:AVal}{v:Value}(hx:Rep I β n w x v){side:Prop}(h:z8h H x=.ok side y) :
 ∃r,(Builtin.len_ #[t] rt #[v]).run P w=.ok r w∧Rep I β n w y r:=by
 unfold z8h at h
 split at h
 ·simp only[XR.ok.injEq] at h
  obtain⟨rfl,rfl⟩:=h
  obtain rfl:=hx.val_inv
  refine⟨_,?_,.imm _ _ (.int .i64 0)⟩
  simp[Builtin.len_,za ht,goInt]
 ·rename_i b
  split at h<;>try (cases h;done)
  rename_i es hg
  simp only[XR.ok.injEq] at h
  obtain⟨rfl,rfl⟩:=h
  obtain⟨c,hc,h1,h2,arr,ck,h3,h4⟩:=hI.blocks b _ hg
  have hv:v=.map (some c.blk):=by
   cases hx with
   |imm _ _ h=>cases h
   |map _ q _ hq=>rw[hq c hc]
  subst hv
  refine⟨.int .i64 (arr.size:Int),?_,by rw[h4.len];exact .imm _ _ (.int .i64 _)⟩
  simp[Builtin.len_,za ht,goInt,MapKept.run_getObj_map h3]
 ·cases h
end
end Go.Fx
namespace Go.Fx
variable {P:Program}
section
variable {I:Nat→Nat→Prop} {β:Id→Option CLoc} {n:Nat} {H:AHeap} {w:World} {e:Env} {a:Act}
theorem XR.and_ok{p side:Prop}{x:XR}{y:AVal}(h:x.and p=.ok side y)(hs:side):∃s0,x=.ok s0 y∧p∧s0:=by
 cases x with
 |bad=>cases h
 |ok s0 v=>
  simp only[XR.and,XR.ok.injEq] at h
  obtain⟨rfl,rfl⟩:=h
  exact⟨s0,rfl,hs.1,hs.2⟩
theorem zbr{c x y z:AVal}{vc vx vy:Value}{na nb:Prop}(hc:Rep I β n w c vc)(hx:na→Rep I β n w x vx)(hy:nb→Rep I β n w y vy){side:Prop}(h:zlq na nb c x y=.ok side z)(hs:side) :
 ∃r,(do pure (.value (if ←asBool vc then vx else vy)):Sem Next).run P w=.ok (.value r) w∧Rep I β n w z r:=by
 cases c<;>simp only[zlq] at h<;>try (cases h;done)
 rename_i b
 simp only[XR.ok.injEq] at h
 obtain⟨rfl,rfl⟩:=h
 obtain rfl:=hc.bool_inv
 cases b with
 |true=>exact⟨vx,by simp[asBool],hx (hs.1 rfl)⟩
 |false=>exact⟨vy,by simp[asBool],hy (hs.2 rfl)⟩
theorem J4(hI:Inv I β n H w)(hE:RepEnv I β n w e a){vm:Bool}{o:Oper}{lo:LOp}(hl:ql P vm o.op=some lo){side:Prop}{y:AVal}(h:xh e H lo=.ok side y)(hs:side) :
 ∃r,(execOp a.eval o).run P w=.ok (.value r) w∧Rep I β n w y r:=by
 obtain⟨dst,op,type,pos,after,guard⟩:=o
 simp only at hl
 have val:∀ {s:Sem Value} {r:Value},s.run P w=.ok r w→(do pure (.value (←s)):Sem Next).run P w=.ok (.value r) w:=by
  intro s r hr
  rw[p2,hr];rfl
 cases op with
 |move x=>
  simp only[ql,p3] at hl
  obtain⟨x',hx',rfl⟩:=hl
  simp only[xh,XR.ok.injEq] at h
  obtain⟨rfl,rfl⟩:=h
  exact⟨_,rfl,zu hE hx' hs⟩
 |assign x=>
  simp only[ql,p3] at hl
  obtain⟨x',hx',rfl⟩:=hl
  simp only[xh,XR.ok.injEq] at h
  obtain⟨rfl,rfl⟩:=h
  exact⟨_,rfl,zu hE hx' hs⟩
 |pick c x z=>
  simp only[ql] at hl
  split at hl<;>try (cases hl;done)
  rename_i c' x' z' hc hx hz
  simp only[p0] at hl
  subst hl
  obtain⟨s0,h0,hn,hs0⟩:=XR.and_ok h hs
  exact zbr (zu hE hc hn) (zu hE hx) (zu hE hz) h0 hs0
 |build t parts=>
  simp only[ql] at hl
  split at hl
  ·rename_i fs ht
   split at hl<;>try (cases hl;done)
   rename_i z l hz hpl
   split at hl<;>try (cases hl;done)
   rename_i hall
   simp only[p0] at hl
   subst hl
   obtain⟨s0,h0,hn,hs0⟩:=XR.and_ok h hs
   obtain⟨r,hr,hrep⟩:=z5s ht hz hpl hall hE hn h0 hs0
   exact⟨r,val hr,hrep⟩
  ·rename_i m c ht
   split at hl<;>try (cases hl;done)
   rename_i z s hz hsz
   simp only[p3] at hl
   obtain⟨l,hpl,rfl⟩:=hl
   obtain⟨s0,h0,hn,hs0⟩:=XR.and_ok h hs
   obtain⟨r,hr,hrep⟩:=z6s ht hz hsz hpl hE hn h0 hs0
   exact⟨r,val hr,hrep⟩
  ·cases hl
 |load t x=>
  simp only[ql] at hl
  split at hl<;>try (cases hl;done)
  rename_i g m x' hg hm hx
  split at hl<;>try (cases hl;done)
  rename_i hgm
  simp only[p0] at hl
  subst hl
  obtain⟨s0,h0,hn,hs0⟩:=XR.and_ok h hs
  obtain⟨r,hr,hrep⟩:=z0d hg hm (by simpa using hgm) hI (zu hE hx hn) h0 hs0
  exact⟨r,val hr,hrep⟩
 |nilCheck x=>
  simp only[ql,p3] at hl
  obtain⟨x',hx',rfl⟩:=hl
  obtain⟨s0,h0,hn,hs0⟩:=XR.and_ok h hs
  obtain⟨h1,h2⟩:=z5l (zu hE hx' hn) h0
  refine⟨_,?_,h1⟩
  rcases h2 with⟨ad,h2⟩|⟨f,fs,cs,h2⟩<;>simp[execOp,h2]
 |binOp op t x z zt=>
  simp only[ql] at hl
  split at hl<;>try (cases hl;done)
  rename_i x' z' hx hz
  have bin:lo=.bin op x' z'→∃r,(execOp a.eval { dst:=dst,op:=.binOp op t x z zt,type:=type,pos:=pos,after:=after,guard:=guard }).run P w=.ok (.value r) w∧Rep I β n w y r:=by
   intro hlo
   subst hlo
   obtain⟨s0,h0,hn,hs0⟩:=XR.and_ok h hs
   obtain⟨r,hr,hrep⟩:=zd5 (P:=P) (t:=t) (xo:=x) (yo:=z) (zu hE hx hn.1) (zu hE hz hn.2) h0 hs0
   exact⟨r,val hr,hrep⟩
  have eqs:∀ (neg:Bool),op=(if neg then .neq else .eql)→lo=.eq neg (z14 P t z) x' z'→∃r,(execOp a.eval { dst:=dst,op:=.binOp op t x z zt,type:=type,pos:=pos,after:=after,guard:=guard }).run P w=.ok (.value r) w∧Rep I β n w y r:=by
   intro neg hop hlo
   subst hlo
   subst hop
   obtain⟨s0,h0,hn,hs0⟩:=XR.and_ok h hs
   obtain⟨r,hr,hrep⟩:=zhs (P:=P) (xo:=x) (yo:=z) (zu hE hx hn.1) (zu hE hz hn.2) h0 hs0
   exact⟨r,val hr,hrep⟩
  split at hl
  ·simp only[p0] at hl;exact bin hl.symm
  ·simp only[p0] at hl;exact bin hl.symm
  ·simp only[p0] at hl;exact eqs false rfl hl.symm
  ·simp only[p0] at hl;exact eqs true rfl hl.symm
  ·simp only[p0] at hl;exact bin hl.symm
 |unOp op t x=>
  simp only[ql,p3] at hl
  obtain⟨x',hx',rfl⟩:=hl
  obtain⟨s0,h0,hn,hs0⟩:=XR.and_ok h hs
  obtain⟨r,hr,hrep⟩:=zgm (P:=P) (zu hE hx' hn) h0
  exact⟨r,val hr,hrep⟩
 |convert src d x=>
  simp only[ql] at hl
  split at hl<;>try (cases hl;done)
  rename_i k x' hk hx
  simp only[p0] at hl
  subst hl
  cases k with
  |s2b=>cases h
  |b2s=>cases h
  |same=>
   simp only[xh] at h
   split at h<;>try (cases h;done)
   rename_i l hev
   simp only[XR.ok.injEq] at h
   obtain⟨rfl,rfl⟩:=h
   have hr:=zu hE hx hs
   rw[hev] at hr
   have hv:=hr.str_inv
   have hu:P.underlying src=some .string∧P.underlying d=some .string:=by
    unfold Uk at hk
    split at hk<;>simp_all
    all_goals (split at hk<;>simp_all)
   refine⟨_,val (s:=convert src d (a.eval x)) (r:=a.eval x) ?_,hr⟩
   rw[hv]
   simp only[convert,p2,za hu.1,za hu.2,p1,p5]
  |int k=>
   simp only[xh] at h
   split at h<;>try (cases h;done)
   rename_i k0 m hev
   simp only[XR.ok.injEq] at h
   obtain⟨rfl,rfl⟩:=h
   have hr:=zu hE hx hs
   rw[hev] at hr
   have hv:=hr.int_inv
   have hu:(∃k',P.underlying src=some (.int k'))∧P.underlying d=some (.int k):=by
    unfold Uk at hk
    split at hk<;>simp_all
    all_goals (split at hk<;>simp_all)
   obtain⟨⟨k',hu1⟩,hu2⟩:=hu
   refine⟨_,val (s:=convert src d (a.eval x)) (r:=.int k (k.wrap m)) ?_,.imm _ _ (.int _ _)⟩
   rw[hv]
   simp only[convert,p2,za hu1,za hu2,p1,Conv.intToInt,p5]
 |makeFunc f first caps=>
  simp only[ql] at hl
  split at hl<;>try (cases hl;done)
  rename_i fs cs hf hc
  simp only[p0] at hl
  subst hl
  simp only[xh,XR.ok.injEq] at h
  obtain⟨rfl,rfl⟩:=h
  obtain⟨h1,h2⟩:=u0 hE _ _ hf hs.1
  obtain⟨h3,h4⟩:=u0 hE _ _ hc hs.2
  refine⟨_,val (s:=Instr.makeFunc f (first.map a.eval) (caps.map a.eval)) rfl,?_⟩
  refine .fn _ _ _ _ _ (by simpa using h1) (by simpa using h3) (fun i x v hx hv=>h2 i x v hx ?_) (fun i x v hx hv=>h4 i x v hx ?_)
  ·rw[←hv,←pF,pR]
  ·rw[←hv,←pF,pR]
 |slice t x lo0 hi0 mx0=>
  simp only[ql] at hl
  split at hl<;>try (cases hl;done)
  rename_i x' lo' hi' mx' hx hlo hhi hmx
  split at hl
  ·rename_i ht
   simp only[p0] at hl
   subst hl
   obtain⟨s0,h0,⟨hn,hn1,hn2⟩,hs0⟩:=XR.and_ok h hs
   have:mx0=none:=by cases mx0 with|none=>rfl|some m=>simp[js] at hmx
   subst this
   obtain⟨r,hr,hrep⟩:=z67 ht hE hlo hhi hn1 hn2 (zu hE hx hn) h0 hs0
   exact⟨r,val hr,hrep⟩
  ·rename_i c ht
   split at hl<;>try (cases hl;done)
   rename_i hmh
   simp only[p3] at hl
   obtain⟨s,hsz,rfl⟩:=hl
   obtain⟨s0,h0,⟨hn,hn1,hn2,hn3⟩,hs0⟩:=XR.and_ok h hs
   obtain⟨r,hr,hrep⟩:=zd0 ht hsz hE hlo hhi hmx (Bool.eq_false_iff.2 hmh) hn1 hn2 hn3 (zu hE hx hn) h0 hs0
   exact⟨r,val hr,hrep⟩
  ·rename_i nn c ht
   split at hl<;>try (cases hl;done)
   rename_i hno
   simp only[p3] at hl
   obtain⟨s,hsz,rfl⟩:=hl
   obtain⟨s0,h0,hn,hs0⟩:=XR.and_ok h hs
   rw[pC,Option.isNone_iff_eq_none,Option.isNone_iff_eq_none] at hno
   obtain⟨rfl,rfl⟩:=hno
   have:mx0=none:=by cases mx0 with|none=>rfl|some m=>simp[js] at hmx
   subst this
   have:lo0=none:=by cases lo0 with|none=>rfl|some m=>simp[js] at hlo
   subst this
   have:hi0=none:=by cases hi0 with|none=>rfl|some m=>simp[js] at hhi
   subst this
   obtain⟨r,hr,hrep⟩:=z8c ht hsz hI (zu hE hx hn) h0 hs0
   exact⟨r,val hr,hrep⟩
  ·cases hl
 |fieldAddr t x i=>
  simp only[ql] at hl
  split at hl<;>try (cases hl;done)
  rename_i fs ht
  split at hl<;>try (cases hl;done)
  rename_i f hf
  split at hl<;>try (cases hl;done)
  rename_i m x' hm hx
  split at hl<;>try (cases hl;done)
  rename_i hne
  simp only[p0] at hl
  subst hl
  obtain⟨s0,h0,hn,hs0⟩:=XR.and_ok h hs
  obtain⟨r,hr,hrep⟩:=z4u ht hf hm (by simpa using hne) (zu hE hx hn) h0
  exact⟨r,val hr,hrep⟩
 |field t x i=>
  simp only[ql] at hl
  split at hl<;>try (cases hl;done)
  rename_i fs ht
  split at hl<;>try (cases hl;done)
  rename_i f hf
  split at hl<;>try (cases hl;done)
  rename_i g m x' hg hm hx
  split at hl<;>try (cases hl;done)
  rename_i hgm
  simp only[p0] at hl
  subst hl
  obtain⟨s0,h0,hn,hs0⟩:=XR.and_ok h hs
  obtain⟨r,hr,hrep⟩:=z5x ht hf hg hm (by simpa using hgm) (zu hE hx hn) h0 hs0
  exact⟨r,val hr,hrep⟩
 |indexAddr t x i=>
  simp only[ql] at hl
  split at hl<;>try (cases hl;done)
  ·rename_i c x' i' ht hx hi
   simp only[p3] at hl
   obtain⟨s,hsz,rfl⟩:=hl
   obtain⟨s0,h0,hn,hs0⟩:=XR.and_ok h hs
   obtain⟨r,hr,hrep⟩:=z6d ht hsz (zu hE hx hn.1).rd (zu hE hi hn.2) h0 hs0
   exact⟨r,val hr,hrep⟩
  ·rename_i m c x' i' ht hx hi
   simp only[p3] at hl
   obtain⟨s,hsz,rfl⟩:=hl
   split at h
   ·obtain⟨s0,h0,hn,hs0⟩:=XR.and_ok h hs
    obtain⟨r,hr,hrep⟩:=z35 ht hsz (zu hE hx hn.1) (zu hE hi hn.2) h0 hs0
    exact⟨r,val hr,hrep⟩
   ·obtain⟨s0,h0,hn,hs0⟩:=XR.and_ok h hs
    obtain⟨r,hr,hrep⟩:=z2o ht hsz hI (zu hE hx hn.1) (zu hE hi hn.2) h0 hs0
    exact⟨r,val hr,hrep⟩
 |index t x i=>
  simp only[ql] at hl
  split at hl<;>try (cases hl;done)
  ·rename_i x' i' ht hx hi
   simp only[p0] at hl
   subst hl
   obtain⟨s0,h0,hn,hs0⟩:=XR.and_ok h hs
   obtain⟨r,hr,hrep⟩:=z83 ht (zu hE hx hn.1) (zu hE hi hn.2) h0 hs0
   exact⟨r,val hr,hrep⟩
  ·rename_i m c x' i' ht hx hi
   split at hl<;>try (cases hl;done)
   rename_i g s hg hsz
   split at hl<;>try (cases hl;done)
   rename_i hgm
   simp only[p0] at hl
   subst hl
   obtain⟨s0,h0,hn,hs0⟩:=XR.and_ok h hs
   obtain⟨r,hr,hrep⟩:=z8a ht hg hsz (by simpa using hgm) (zu hE hx hn.1) (zu hE hi hn.2) h0 hs0
   exact⟨r,val hr,hrep⟩
 |extract x k=>
  simp only[ql,p3] at hl
  obtain⟨x',hx',rfl⟩:=hl
  obtain⟨s0,h0,hn,hs0⟩:=XR.and_ok h hs
  obtain⟨r,hr,hrep⟩:=zbt (P:=P) (zu hE hx' hn) h0 hs0
  exact⟨r,val hr,hrep⟩
 |call c=>
  obtain⟨callee,args,argTypes⟩:=c
  simp only[ql] at hl
  unfold Wm at hl
  cases callee with
  |value f=>
   simp only at hl
   split at hl
   ·split at hl<;>try (cases hl;done)
    split at hl<;>try (cases hl;done)
    simp only[p3] at hl
    obtain⟨_,_,rfl⟩:=hl
    cases h
   ·split at hl<;>try (cases hl;done)
    simp only[p0] at hl
    subst hl
    cases h
   ·rename_i heq;cases heq
   all_goals (rename_i heq;cases heq)
  |invoke _ _=>cases hl
  |builtin b=>
   cases b<;>simp only at hl<;>try (cases hl;done)
   case len=>
    split at hl<;>try (cases hl;done)
    rename_i x t hargs htys
    have hx:args=#[x]:=by cases args;simp_all
    have hty:argTypes=#[t]:=by cases argTypes;simp_all
    subst hx;subst hty
    split at hl<;>try (cases hl;done)
    ·rename_i ht
     simp only[p3] at hl
     obtain⟨x',hx',rfl⟩:=hl
     obtain⟨s0,h0,hn,hs0⟩:=XR.and_ok h hs
     obtain⟨r,hr,hrep⟩:=z7m (rt:=type) ht (zu hE hx' hn) h0
     refine⟨r,?_,hrep⟩
     have e1:Array.map a.eval #[x]=#[a.eval x]:=by simp
     simp only[execOp,resolve,invoke,builtin,p2,p5,p1,e1,hr]
    ·rename_i c ht
     simp only[p3] at hl
     obtain⟨x',hx',rfl⟩:=hl
     obtain⟨s0,h0,hn,hs0⟩:=XR.and_ok h hs
     obtain⟨r,hr,hrep⟩:=z6z (rt:=type) ht (zu hE hx' hn).rd h0
     refine⟨r,?_,hrep⟩
     have e1:Array.map a.eval #[x]=#[a.eval x]:=by simp
     simp only[execOp,resolve,invoke,builtin,p2,p5,p1,e1,hr]
    ·rename_i kt et ht
     simp only[p3] at hl
     obtain⟨x',hx',rfl⟩:=hl
     obtain⟨s0,h0,hn,hs0⟩:=XR.and_ok h hs
     obtain⟨r,hr,hrep⟩:=zcf (rt:=type) ht hI (zu hE hx' hn) h0
     refine⟨r,?_,hrep⟩
     have e1:Array.map a.eval #[x]=#[a.eval x]:=by simp
     simp only[execOp,resolve,invoke,builtin,p2,p5,p1,e1,hr]
   case append=>
    split at hl<;>try (cases hl;done)
    split at hl<;>try (cases hl;done)
    all_goals
     split at hl<;>try (cases hl;done)
     split at hl<;>try (cases hl;done)
     simp only[p0] at hl
     subst hl
     cases h
   case copy=>
    split at hl<;>try (cases hl;done)
    split at hl<;>try (cases hl;done)
    split at hl<;>try (cases hl;done)
    split at hl<;>try (cases hl;done)
    simp only[p0] at hl
    subst hl
    cases h
   case delete=>
    split at hl<;>try (cases hl;done)
    split at hl<;>try (cases hl;done)
    split at hl<;>try (cases hl;done)
    simp only[p0] at hl
    subst hl
    cases h
   case max=>
    simp only[p3] at hl
    obtain⟨l,hargs,rfl⟩:=hl
    obtain⟨s0,h0,hn,hs0⟩:=XR.and_ok h hs
    obtain⟨g1,g2⟩:=u0 hE _ _ hargs hn
    cases hl:evs e l with
    |nil=>rw[hl] at h0;cases h0
    |cons x xs=>
     rw[hl] at h0 g1 g2
     cases x<;>simp only[zeo] at h0<;>try (cases h0;done)
     cases hv:args.toList.map a.eval with
     |nil=>rw[hv] at g1;cases g1
     |cons v vs=>
      rw[hv] at g1 g2
      obtain⟨r,hr,hrep⟩:=Ww (P:=P) true xs vs _ y v (by simpa using g1) (fun i y v p q=>g2 (i+1) y v p q) (g2 0 _ v rfl rfl) s0 h0 hs0
      refine⟨r,?_,hrep⟩
      simp only[execOp,resolve,invoke,builtin,p2,p5,p1,Builtin.max_,pR,hv]
      simp only[if_true] at hr
      rw[hr];rfl
   case min=>
    simp only[p3] at hl
    obtain⟨l,hargs,rfl⟩:=hl
    obtain⟨s0,h0,hn,hs0⟩:=XR.and_ok h hs
    obtain⟨g1,g2⟩:=u0 hE _ _ hargs hn
    cases hl:evs e l with
    |nil=>rw[hl] at h0;cases h0
    |cons x xs=>
     rw[hl] at h0 g1 g2
     cases x<;>simp only[zeo] at h0<;>try (cases h0;done)
     cases hv:args.toList.map a.eval with
     |nil=>rw[hv] at g1;cases g1
     |cons v vs=>
      rw[hv] at g1 g2
      obtain⟨r,hr,hrep⟩:=Ww (P:=P) false xs vs _ y v (by simpa using g1) (fun i y v p q=>g2 (i+1) y v p q) (g2 0 _ v rfl rfl) s0 h0 hs0
      refine⟨r,?_,hrep⟩
      simp only[execOp,resolve,invoke,builtin,p2,p5,p1,Builtin.min_,pR,hv]
      simp only[p7,if_false] at hr
      rw[hr];rfl
 |lookup t x i ok=>
  simp only[ql] at hl
  split at hl<;>try (cases hl;done)
  rename_i kt et ht
  split at hl<;>try (cases hl;done)
  rename_i ks ka g zs zg x' i' hks hka hg hz hzg hx hi
  split at hl<;>try (cases hl;done)
  rename_i hc
  simp only[pC,Bool.or_eq_true,beq_iff_eq] at hc
  obtain⟨rfl,hgl⟩:=hc
  simp only[p0] at hl
  subst hl
  obtain⟨s0,h0,hn,hs0⟩:=XR.and_ok h hs
  obtain⟨r,hr,hrep⟩:=z71 ht hks hka (zct hz hzg hgl) hI (zu hE hx hn.1) (zu hE hi hn.2) h0 hs0
  exact⟨r,val hr,hrep⟩
 |makeMap t r=>
  simp only[ql] at hl
  split at hl<;>try (cases hl;done)
  simp only[p0] at hl;subst hl;cases h
 |mapUpdate t m k x=>
  simp only[ql,Ve] at hl
  split at hl<;>try (cases hl;done)
  split at hl<;>try (cases hl;done)
  split at hl<;>try (cases hl;done)
  split at hl<;>try (cases hl;done)
  simp only[p0] at hl;subst hl;cases h
 |insert t m k x=>
  simp only[ql,Ve] at hl
  split at hl<;>try (cases hl;done)
  split at hl<;>try (cases hl;done)
  split at hl<;>try (cases hl;done)
  split at hl<;>try (cases hl;done)
  simp only[p0] at hl;subst hl;cases h
 |alloc _=>
  simp only[ql] at hl
  split at hl
  ·split at hl<;>try (cases hl;done)
   split at hl<;>try (cases hl;done)
   simp only[p0] at hl;subst hl;cases h
  ·split at hl<;>try (cases hl;done)
   all_goals (simp only[p0] at hl;subst hl;cases h)
  ·simp only[p3] at hl;obtain⟨_,_,rfl⟩:=hl;cases h
 |box _ _=>simp only[ql,p3] at hl;obtain⟨_,_,rfl⟩:=hl;cases h
 |buildSlice _ _ _=>
  simp only[ql] at hl
  split at hl<;>try (cases hl;done)
  split at hl<;>try (cases hl;done)
  split at hl<;>try (cases hl;done)
  simp only[p0] at hl;subst hl;cases h
 |store _ _ _=>
  simp only[ql] at hl
  split at hl<;>try (cases hl;done)
  simp only[p0] at hl;subst hl;cases h
 |makeSlice _ _ _=>
  simp only[ql] at hl
  split at hl<;>try (cases hl;done)
  split at hl<;>try (cases hl;done)
  split at hl<;>try (cases hl;done)
  simp only[p0] at hl;subst hl;cases h
 |range _ _=>
  simp only[ql] at hl
  split at hl<;>try (cases hl;done)
  simp only[p3] at hl;obtain⟨_,_,rfl⟩:=hl;cases h
 |next _ s=>
  cases s with
  |true=>simp[ql] at hl
  |false=>simp only[ql,p3] at hl;obtain⟨_,_,rfl⟩:=hl;cases h
 |entry _=>simp only[ql,p3] at hl;obtain⟨_,_,rfl⟩:=hl;cases h
 |_=>cases hl
end
end Go.Fx
namespace Go.Fx
variable {P:Program}
theorem AHeap.get_cons_same(H:AHeap)(k:Id)(b:ABlock):AHeap.get ((k,b)::H) k=some b:=by simp[AHeap.get]
theorem AHeap.get_cons_other(H:AHeap){k t:Id}(b:ABlock)(h:k≠t):AHeap.get ((k,b)::H) t=H.get t:=by simp[AHeap.get,h]
theorem AHeap.get_set(H:AHeap)(k t:Id)(b:ABlock):(H.set k b).get t=if k=t then(H.get t).map (fun _=>b) else H.get t:=by
 induction H with
 |nil=>simp[AHeap.set,AHeap.get]
 |cons x H ih=>
  obtain⟨j,c⟩:=x
  unfold AHeap.set
  by_cases hjk:j=k
  ·subst hjk
   by_cases hjt:j=t<;>simp[AHeap.get,hjt]
  ·rw[if_neg hjk]
   by_cases hjt:j=t
   ·subst hjt
    have:¬k=j:=fun h=>hjk h.symm
    simp[AHeap.get,this]
   ·simp only[AHeap.get,if_neg hjt];exact ih
theorem AHeap.get_del(H:AHeap)(k t:Id):(H.del k).get t=if k=t then none else H.get t:=by
 induction H with
 |nil=>simp[AHeap.del,AHeap.get]
 |cons x H ih=>
  obtain⟨j,c⟩:=x
  unfold AHeap.del
  by_cases hjk:j=k
  ·subst hjk
   rw[if_pos rfl,ih]
   by_cases hjt:j=t
   ·rw[if_pos hjt,if_pos hjt]
   ·rw[if_neg hjt,if_neg hjt];simp[AHeap.get,hjt]
  ·rw[if_neg hjk]
   by_cases hjt:j=t
   ·subst hjt
    have:¬k=j:=fun h=>hjk h.symm
    simp[AHeap.get,this]
   ·simp only[AHeap.get,if_neg hjt];exact ih
def upd(β:Id→Option CLoc)(k:Id)(c:Option CLoc):Id→Option CLoc:=fun i=>if i=k then c else β i
theorem qr(β:Id→Option CLoc)(k:Id)(c:Option CLoc):upd β k c k=c:=by simp[upd]
theorem ze(β:Id→Option CLoc){k i:Id}(c:Option CLoc)(h:i≠k):upd β k c i=β i:=by simp[upd,h]
structure Chg(w w':World)(Wr:Nat→Nat→Prop):Prop where
 os:w'.os=w.os
 tape:TapeOk w w'
 output:w'.output=w.output
 size:w.heap.size≤w'.heap.size
 block:∀b,b<w.heap.size→(∀k,¬Wr b k)→w'.heap[b]?=w.heap[b]?
 cell:∀b k,b<w.heap.size→¬Wr b k→w'.cell? ⟨b,k,none⟩=w.cell? ⟨b,k,none⟩
 shape:∀ (b:Nat) (arr:Array Value) (el:TypeId) (fr:Nat×Nat),w.heap[b]?=some (.cells arr el fr)→∃arr',w'.heap[b]?=some (.cells arr' el fr)∧arr'.size=arr.size
 maps:∀ (b:Nat) (o:Obj) (ho:zcu o=true),w.heap[b]?=some o→¬Wr b 0→w'.heap[b]?=some o
theorem Chg.refl(w:World)(Wr:Nat→Nat→Prop):Chg w w Wr:=⟨rfl,⟨rfl,fun _=>p6 _⟩,rfl,p6 _,fun _ _ _=>rfl,fun _ _ _ _=>rfl,fun _ arr _ _ h=>⟨arr,h,rfl⟩,fun _ _ _ h _=>h⟩
theorem Chg.trans{w w' w'':World}{Wr:Nat→Nat→Prop}(a:Chg w w' Wr)(b:Chg w' w'' Wr):Chg w w'' Wr:=by
 refine⟨b.os.trans a.os,b.tape.trans a.tape,b.output.trans a.output,Nat.le_trans a.size b.size,fun x hx hn=>(b.block x (pS hx a.size) hn).trans (a.block x hx hn),fun x k hx hn=>(b.cell x k (pS hx a.size) hn).trans (a.cell x k hx hn),fun x arr el fr h=>?_,fun x es ck h hn=>b.maps x es ck (a.maps x es ck h hn) hn⟩
 obtain⟨arr',h1,h2⟩:=a.shape x arr el fr h
 obtain⟨arr'',h3,h4⟩:=b.shape x arr' el fr h1
 exact⟨arr'',h3,h4.trans h2⟩
theorem Chg.mono{w w':World}{Wr Wr':Nat→Nat→Prop}(a:Chg w w' Wr)(h:∀b k,Wr b k→Wr' b k):Chg w w' Wr':=
 ⟨a.os,a.tape,a.output,a.size,fun b hb hn=>a.block b hb fun k hk=>hn k (h b k hk),fun b k hb hn=>a.cell b k hb fun hk=>hn (h b k hk),a.shape,fun b es ck hb hn=>a.maps b es ck hb fun hk=>hn (h b 0 hk)⟩
theorem Chg.frozen{w w':World}{Wr:Nat→Nat→Prop}(a:Chg w w' Wr){b k:Nat}{v:Value}(h:w.cell? ⟨b,k,none⟩=some v):w'.frozen? ⟨b,k,none⟩=w.frozen? ⟨b,k,none⟩:=by
 unfold pV at h
 split at h<;>try (cases h;done)
 rename_i arr el fr hb
 obtain⟨arr',h1,_⟩:=a.shape b arr el fr hb
 unfold World.frozen?
 simp only[h1,hb]
section
variable {I I':Nat→Nat→Prop} {β β':Id→Option CLoc} {n n':Nat} {H H':AHeap} {w w':World}
theorem kr{b k:Nat}{arr arr':Array Value}{el:TypeId}{fr:Nat×Nat}(h:w.heap[b]?=some (.cells arr el fr))(h':w'.heap[b]?=some (.cells arr' el fr)):w'.frozen? ⟨b,k,none⟩=w.frozen? ⟨b,k,none⟩:=by
 unfold World.frozen?
 simp only[h,h']
theorem RepB.monoR(hI:∀b k,I b k→I' b k)(hw:∀b k,I b k→w'.cell? ⟨b,k,none⟩=w.cell? ⟨b,k,none⟩)(hn:n≤n')(hβ:∀ (id:Id) c,id.1<n→β' id=some c→β id=some c){c:CLoc}{s:Nat}{es:List (List AVal)}
 (hs:∀ (arr:Array Value) (el:TypeId) (fr:Nat×Nat),w.heap[c.blk]?=some (.cells arr el fr)→∃arr' fr',w'.heap[c.blk]?=some (.cells arr' el fr')∧arr'.size=arr.size∧(fr'=fr∨∀k,k<arr.size→¬c.has c.blk k))
 (hc:∀b k v,c.has b k→w.cell? ⟨b,k,none⟩=some v→w'.cell? ⟨b,k,none⟩=some v) (h:RepB I β n w c (.rows s es)):RepB I' β' n' w' c (.rows s es):=by
 obtain⟨h1,hA,h3,h4,h5,h6,h7⟩:=h
 rcases hA with⟨arr,el,fr,h2,h2',h2''⟩|hz
 rotate_left
 ·obtain⟨z1,z2,rfl⟩:=hz
  exact⟨h1,.inr ⟨z1,z2,rfl⟩,fun k hk hk'=>by omega,h4,h5,h6,fun i r j x hi _=>by simp at hi⟩
 obtain⟨arr',fr',k1,k2,k3⟩:=hs arr el fr h2
 refine⟨h1,.inl ⟨arr',el,fr',k1,by omega,fun hlt=>⟨(h2'' hlt).1,(h2'' hlt).2.1.trans k2.symm,by
  rcases k3 with k3|k3
  ·subst k3;exact(h2'' hlt).2.2.of rfl k2
  ·exact absurd (show c.has c.blk c.lo from⟨rfl,p6 _,hlt⟩) (k3 c.lo (by have:=(h2'' hlt).2.1;omega))⟩⟩,fun k hk hk'=>?_,h4,h5,h6,fun i r j x hi hj=>?_⟩
 ·rcases k3 with rfl|k3
  ·rw[kr h2 k1];exact h3 k hk hk'
  ·exact absurd ⟨rfl,hk,hk'⟩ (k3 k (by omega))
 obtain⟨v,g1,g2,g3⟩:=h7 i r j x hi hj
 refine⟨v,hc _ _ _ ⟨rfl,by omega,?_⟩ g1,g2,g3.mono' hI hw hn hβ⟩
 have hi':i<es.length:=by
  rcases p8 i es.length with h|h
  ·exact h
  ·rw[p9 h] at hi;cases hi
 have hj':j<r.length:=by
  rcases p8 j r.length with h|h
  ·exact h
  ·rw[p9 h] at hj;cases hj
 have hr:=h6 i r hi
 have:(i+1)*s≤es.length*s:=pN _ hi'
 rw[pL] at this
 omega
theorem RepB.mono'(hI:∀b k,I b k→I' b k)(hw:∀b k,I b k→w'.cell? ⟨b,k,none⟩=w.cell? ⟨b,k,none⟩)(hn:n≤n')(hβ:∀ (id:Id) c,id.1<n→β' id=some c→β id=some c){c:CLoc}{blk:ABlock}
 (hs:∀ (arr:Array Value) (el:TypeId) (fr:Nat×Nat),w.heap[c.blk]?=some (.cells arr el fr)→∃arr' fr',w'.heap[c.blk]?=some (.cells arr' el fr')∧arr'.size=arr.size∧(fr'=fr∨∀k,k<arr.size→¬c.has c.blk k))
 (hc:∀b k v,c.has b k→w.cell? ⟨b,k,none⟩=some v→w'.cell? ⟨b,k,none⟩=some v) (hm:∀ (o:Obj) (ho:zcu o=true),c.has c.blk 0→w.heap[c.blk]?=some o→w'.heap[c.blk]?=some o) (h:RepB I β n w c blk):RepB I' β' n' w' c blk:=by
 cases blk with
 |amap es=>
  obtain⟨h1,h2,arr,ck,h3,h4⟩:=h
  exact⟨h1,h2,arr,ck,hm _ rfl ⟨rfl,by omega,h2⟩ h3,h4.len,fun i k x e hi he=>⟨(h4.ent i k x e hi he).1.mono hI hw,(h4.ent i k x e hi he).2.mono' hI hw hn hβ⟩,h4.born,h4.clk⟩
 |lrec l r e=>
  obtain⟨h1,h2,h3,h4,h5⟩:=h
  exact⟨h1,h2,h3,hm _ rfl ⟨rfl,by omega,h2⟩ h4,fun t=>(h5 t).mono' hI hw hn hβ⟩
 |rmap es arr ck=>
  obtain⟨h1,h2,h3,h4⟩:=h
  exact⟨h1,h2,hm _ rfl ⟨rfl,by omega,h2⟩ h3,h4.len,fun i k x e hi he=>⟨(h4.ent i k x e hi he).1.mono hI hw,(h4.ent i k x e hi he).2.mono' hI hw hn hβ⟩,h4.born,h4.clk⟩
 |itr m arr ck seen=>
  obtain⟨h1,h2,h0,k,h3,h4⟩:=h
  have:=h4.mono (g:=id) (fun id h _=>pS h hn) (fun id c h _ hc=>hβ id c h hc)
  exact⟨h1,h2,h0,k,hm _ rfl ⟨rfl,by omega,h2⟩ h3,by simpa using this⟩
 |mbox b=>
  obtain⟨h1,h2,h0,k,h3,h4⟩:=h
  have:=h4.mono (g:=id) (fun id h _=>pS h hn) (fun id c h _ hc=>hβ id c h hc)
  exact⟨h1,h2,h0,k,hc _ _ _ ⟨rfl,by omega,h2⟩ h3,by simpa using this⟩
 |tok=>
  intro k h1 h2
  obtain⟨⟨v,g1⟩,g2⟩:=h k h1 h2
  refine⟨⟨v,hc _ _ _ ⟨rfl,h1,h2⟩ g1⟩,?_⟩
  have g1':=g1
  unfold pV at g1'
  split at g1'<;>try (cases g1';done)
  rename_i arr el fr hb
  obtain⟨arr',fr',k1,_,k3⟩:=hs arr el fr hb
  rcases k3 with rfl|k3
  ·rw[kr hb k1];exact g2
  ·refine absurd ⟨rfl,h1,h2⟩ (k3 k ?_)
   rcases p8 k arr.size with h|h
   ·exact h
   ·simp only[Option.isSome_none,p7,if_false] at g1'
    first|(rw[pA h] at g1';cases g1')|(simp[pA h] at g1')
 |one cs=>exact wl.2 (RepB.monoR hI hw hn hβ hs hc (wl.1 h))
 |rows s es=>exact RepB.monoR hI hw hn hβ hs hc h
 |bld T g=>
  obtain⟨h1,h2,h3,h4,p,v,h5,h6,h7⟩:=h
  obtain⟨arr',fr',k1,k2,k3⟩:=hs _ _ _ h5
  have hfr:fr'=(0,0):=by
   rcases k3 with rfl|k3
   ·rfl
   ·exact absurd ⟨rfl,by omega,by omega⟩ (k3 0 (by simp))
  subst hfr
  have c0:=hc c.blk 0 p ⟨rfl,by omega,by omega⟩ (by unfold pV;simp[h5])
  have c1:=hc c.blk 1 v ⟨rfl,by omega,by omega⟩ (by unfold pV;simp[h5])
  unfold pV at c0 c1
  simp only[k1] at c0 c1
  have harr:arr'=#[p,v]:=by
   have hsz:arr'.size=2:=by simpa using k2
   refine Array.ext (by simpa using hsz) fun i q1 q2=>?_
   match i,q1,q2 with
   |0,q1,q2=>
    have:arr'[0]?=some p:=by simpa using c0
    rw[pB q1] at this
    simpa using this
   |1,q1,q2=>
    have:arr'[1]?=some v:=by simpa using c1
    rw[pB q1] at this
    simpa using this
   |i+2,q1,q2=>omega
  subst harr
  exact⟨h1,h2,h3,by omega,p,v,k1,h6,fun d hd=>h7 d (hβ g d h4 hd)⟩
 |buf e bs=>
  obtain⟨h1,hs0,h2|⟨h2,arr,fr,h3,h4,h5,h6,h7⟩⟩:=h
  ·exact⟨h1,hs0,.inl h2⟩
  ·obtain⟨arr',fr',k1,k2,k3⟩:=hs _ _ _ h3
   have hfr:fr'=fr:=by
    rcases k3 with rfl|k3
    ·rfl
    ·exact absurd ⟨rfl,by omega,by omega⟩ (k3 0 (by omega))
   subst hfr
   refine⟨h1,hs0,.inr ⟨h2,arr',fr',k1,by omega,by omega,h6,fun i x hi=>?_⟩⟩
   have hlt:i<bs.length:=by
    rcases p8 i bs.length with h|h
    ·exact h
    ·rw[p9 h] at hi;cases hi
   have c0:=hc c.blk i _ ⟨rfl,by omega,by omega⟩ (by unfold pV;simp only[h3];simpa using h7 i x hi)
   unfold pV at c0
   simp only[k1] at c0
   simpa using c0
theorem wk{Wr:Nat→Nat→Prop}(hI:Inv I β n H w)(hC:Chg w w' Wr)(hn:n≤n')
 (hW:∀b k,Wr b k→∃id c,β id=some c∧H.get id≠none∧c.has b k)
 (hImm:∀b k,I b k→I' b k)
 (hImmN:∀b k,I' b k→¬I b k→(∃v,w'.cell? ⟨b,k,none⟩=some v)∧(w.heap.size≤b∨∃id c,β id=some c∧H.get id≠none∧c.has b k))
 (hOld:∀id:Id,id.1<n→β' id=β id∨(β' id=none∧H.get id≠none))
 (hNew:∀ (id:Id) c b k,n≤id.1→β' id=some c→c.has b k→b<w'.heap.size∧(w.heap.size≤b∨∃i0 c0,β i0=some c0∧H.get i0≠none∧c0.has b k))
 (hFr:∀id:Id,n'≤id.1→β' id=none)
 (hInj:∀i j c d b k,β' i=some c→β' j=some d→c.has b k→d.has b k→n≤j.1→i=j)
 (hOwn:∀i c b k,β' i=some c→c.has b k→I' b k→I b k)
 (hDom:∀id:Id,id.1<n→H'.get id≠none→H.get id≠none)
 (hB:∀id blk,H'.get id=some blk→(H.get id=some blk∧β' id=β id∧∀c b k,β id=some c→c.has b k→¬Wr b k)∨(∃c,β' id=some c∧RepB I' β' n' w' c blk)) :
 Inv I' β' n' H' w'∧Ext I β n H w I' β' n' H' w':=by
 have hnoW:∀b k,I b k→¬Wr b k:=fun b k hb hw=>by
  obtain⟨id,c,h1,_,h3⟩:=hW b k hw
  exact(hI.own id c b k h1 h3).1 hb
 have hcI:∀b k,I b k→w'.cell? ⟨b,k,none⟩=w.cell? ⟨b,k,none⟩:=fun b k hb=>by
  obtain⟨v,hv⟩:=hI.imm b k hb
  exact hC.cell b k (ve hv) (hnoW b k hb)
 have hback:∀ (id:Id) c,id.1<n→β' id=some c→β id=some c:=fun id c hid h=>by
  rcases hOld id hid with g|⟨g,_⟩
  ·exact g▸h
  ·rw[g] at h;cases h
 constructor
 ·refine⟨fun id blk hid=>?_,fun i j c d b k hi hj hc hd=>?_,fun i c b k hi hc=>?_,fun b k hb=>?_,hFr,hI.glob.mono hImm hcI (fun b arr el fr h=>by obtain⟨arr',k1,k2⟩:=hC.shape b arr el fr h;exact⟨arr',fr,k1,k2⟩)⟩
  ·rcases hB id blk hid with⟨h1,h2,h3⟩|h
   ·obtain⟨c,hc,hR⟩:=hI.blocks id blk h1
    refine⟨c,h2.trans hc,hR.mono' hImm hcI hn hback (fun arr el fr h=>by obtain⟨arr',k1,k2⟩:=hC.shape _ arr el fr h;exact⟨arr',fr,k1,k2,.inl rfl⟩) ?_ ?_⟩
    ·intro b k v hbk hv
     rw[hC.cell b k (ve hv) (h3 c b k hc hbk)];exact hv
    ·exact fun es ck h0 hm=>hC.maps _ es ck hm (h3 c _ 0 hc h0)
   ·exact h
  ·by_cases hj':n≤j.1
   ·exact hInj i j c d b k hi hj hc hd hj'
   ·by_cases hi':n≤i.1
    ·exact(hInj j i d c b k hj hi hd hc hi').symm
    ·exact hI.inj i j c d b k (hback i c (by omega) hi) (hback j d (by omega) hj) hc hd
  ·have hnot:¬I b k∧b<w'.heap.size:=by
    by_cases hi':n≤i.1
    ·obtain⟨h1,h2⟩:=hNew i c b k hi' hi hc
     refine⟨fun h=>?_,h1⟩
     rcases h2 with h2|⟨i0,c0,h3,_,h5⟩
     ·obtain⟨v,hv⟩:=hI.imm b k h
      have:=ve hv
      omega
     ·exact(hI.own i0 c0 b k h3 h5).1 h
    ·have:=hI.own i c b k (hback i c (by omega) hi) hc
     exact⟨this.1,pS this.2 hC.size⟩
   exact⟨fun h=>hnot.1 (hOwn i c b k hi hc h),hnot.2⟩
  ·by_cases h:I b k
   ·rw[hcI b k h];exact hI.imm b k h
   ·exact(hImmN b k hb h).1
 ·refine⟨hC.os,hC.tape,hC.output,hC.size,fun b hb hnn=>hC.block b hb fun k hk=>?_,fun b k v hv hnn=>?_,fun b arr el fr h=>by obtain⟨arr',k1,k2⟩:=hC.shape b arr el fr h;exact⟨arr',fr,k1,k2,.inl rfl⟩,fun b es ck hm hnn=>hC.maps b es ck hm fun hk=>?_,hImm,fun b k hb hnb hlt=>?_,hOld,fun id c b k hid hc hbk=>?_,hDom,hn⟩
  ·obtain⟨id,c,h1,h2,h3⟩:=hW b k hk
   exact hnn id c k h1 h2 h3
  ·rw[hC.cell b k (ve hv) (fun hk=>?_)]
   ·exact hv
   ·obtain⟨id,c,h1,h2,h3⟩:=hW b k hk
    exact hnn id c h1 h2 h3
  ·obtain⟨id,c,h1,h2,h3⟩:=hW b 0 hk
   exact hnn id c h1 h2 h3
  ·rcases(hImmN b k hb hnb).2 with h|⟨id,c,h1,h2,h3⟩
   ·omega
   ·exact⟨id,c,h1,h3,h2⟩
  ·rcases(hNew id c b k hid hc hbk).2 with h|⟨i0,c0,h1,h2,h3⟩
   ·exact .inl h
   ·exact .inr ⟨i0,c0,h1,h3,h2⟩
structure Pushed(w w':World)(o:Obj):Prop where
 os:w'.os=w.os
 tape:TapeOk w w'
 output:w'.output=w.output
 heap:w'.heap=w.heap.push o
theorem Pushed.old{o:Obj}(h:Pushed w w' o){b:Nat}(hb:b<w.heap.size):w'.heap[b]?=w.heap[b]?:=by
 rw[h.heap,Array.getElem?_push,if_neg (by omega)]
theorem Pushed.new{o:Obj}(h:Pushed w w' o):w'.heap[w.heap.size]?=some o:=by
 rw[h.heap,Array.getElem?_push,if_pos rfl]
def RowsIn(I:Nat→Nat→Prop)(β:Id→Option CLoc)(n:Nat)(w:World)(s base:Nat)(es:List (List AVal))(arr:Array Value):Prop:=
 base+es.length*s≤arr.size∧(∀ (i:Nat) (r:List AVal),es[i]?=some r→r.length=s) ∧
 ∀ (i:Nat) (r:List AVal) (j:Nat) (x:AVal),es[i]?=some r→r[j]?=some x→∃v,arr[base+i*s+j]?=some v∧qm v=true∧Rep I β n w x v
theorem z6q(hI:Inv I β n H w){b:Id}{c:CLoc}(hc:β b=some c):b.1<n:=by
 rcases p8 b.1 n with h|h
 ·exact h
 ·rw[hI.fresh b h] at hc;cases hc
theorem Pushed.chg{o:Obj}(h:Pushed w w' o):Chg w w' (fun _ _=>False):=by
 refine⟨h.os,h.tape,h.output,by rw[h.heap];simp,fun b hb _=>h.old hb,fun b k hb _=>cell?_of_heap (h.old hb),fun b arr el fr hb=>⟨arr,?_,rfl⟩,fun b es ck hb _=>?_⟩
 rotate_left
 ·have hlt:b<w.heap.size:=by
   rcases p8 b w.heap.size with h|h
   ·exact h
   ·rw[pA h] at hb;cases hb
  rw[h.old hlt];exact hb
 have hlt:b<w.heap.size:=by
  rcases p8 b w.heap.size with h|h
  ·exact h
  ·rw[pA h] at hb;cases hb
 rw[h.old hlt];exact hb
theorem Pushed.cell{arr:Array Value}{el:TypeId}{fr:Nat×Nat}(h:Pushed w w' (.cells arr el fr))(k:Nat):w'.cell? ⟨w.heap.size,k,none⟩=arr[k]?:=by
 unfold pV
 simp only[h.new];simp
theorem Pushed.unfrozen{arr:Array Value}{el:TypeId}{fr:Nat×Nat}(h:Pushed w w' (.cells arr el fr))(hfr:∀k,k<arr.size→(fr.1≤k&&k<fr.2)=false)(k:Nat)(hk:k<arr.size):w'.frozen? ⟨w.heap.size,k,none⟩=false:=by
 have:=hfr k hk
 unfold World.frozen?
 simp only[h.new]
 exact this
theorem Xu{b k:Nat}{i:Id}{c:CLoc}(hI:Inv I β n H w)(h:β i=some c)(hk:c.has b k)(hb:w.heap.size≤b):False:=by
 have:=(hI.own i c b k h hk).2;omega
theorem vn{id:Id}{n m:Nat}(h:id.1<n):id≠(n,m):=fun h'=>by subst h';simp at h
theorem j6{id:Id}{c d:CLoc}(h:upd β (n,0) (some c) id=some d)(hf:∀id:Id,n≤id.1→β id=none):(id=(n,0)∧d=c)∨(id.1<n∧β id=some d):=by
 by_cases hid:id=(n,0)
 ·subst hid;rw[qr] at h;simp only[p0] at h;exact .inl ⟨rfl,h.symm⟩
 ·rw[ze _ _ hid] at h
  refine .inr ⟨?_,h⟩
  rcases p8 id.1 n with hl|hl
  ·exact hl
  ·rw[hf id hl] at h;cases h
theorem z3d(hI:Inv I β n H w){arr:Array Value}{el:TypeId}{fr:Nat×Nat}{s:Nat}{es:List (List AVal)}(hp:Pushed w w' (.cells arr el fr))(hfr:∀k,k<arr.size→(fr.1≤k&&k<fr.2)=false)(hfe:EndOk s arr fr)
 (hr:RowsIn I β n w s 0 es arr) :
 Inv I (upd β (n,0) (some ⟨w.heap.size,0,arr.size,0,s⟩)) (n+1) (((n,0),.rows s es)::H) w' ∧
 Ext I β n H w I (upd β (n,0) (some ⟨w.heap.size,0,arr.size,0,s⟩)) (n+1) (((n,0),.rows s es)::H) w':=by
 have hsz:w'.heap.size=w.heap.size+1:=by rw[hp.heap];simp
 obtain⟨hr1,hr2,hr3⟩:=hr
 have hcI:∀b k,I b k→w'.cell? ⟨b,k,none⟩=w.cell? ⟨b,k,none⟩:=fun b k hb=>by
  obtain⟨v,hv⟩:=hI.imm b k hb
  exact hp.chg.cell b k (ve hv) id
 refine wk hI hp.chg (Nat.le_succ n) (fun _ _ h=>h.elim) (fun _ _ h=>h) (fun _ _ h h'=>absurd h h') (fun id hid=>.inl (ze _ _ (vn hid))) ?_ ?_ ?_ (fun _ _ _ _ _ _ h=>h) ?_ ?_
 ·intro id c b k hid hc hk
  rcases j6 hc hI.fresh with⟨_,rfl⟩|⟨h,_⟩
  ·have hb:w.heap.size=b:=hk.1
   exact⟨by omega,.inl (by omega)⟩
  ·omega
 ·intro id hid
  rw[ze _ _ (fun h=>by subst h;exact absurd hid (Nat.not_succ_le_self n))]
  exact hI.fresh id (by omega)
 ·intro i j c d b k hi hj hc hd hj'
  rcases j6 hj hI.fresh with⟨rfl,rfl⟩|⟨h,_⟩
  ·rcases j6 hi hI.fresh with⟨rfl,_⟩|⟨_,h⟩
   ·rfl
   ·exact(Xu hI h hc (by rw[←hd.1];exact p6 _)).elim
  ·omega
 ·intro id hid hg
  rwa [AHeap.get_cons_other _ _ (vn hid).symm] at hg
 ·intro id blk hid
  by_cases h:(n,0)=id
  ·subst h
   rw[AHeap.get_cons_same] at hid
   simp only[p0] at hid
   subst hid
   refine .inr ⟨_,qr _ _ _,rfl,.inl ⟨arr,el,fr,hp.new,p6 _,fun _=>⟨rfl,rfl,hfe⟩⟩,fun k _ hk=>hp.unfrozen hfr k hk,p6 _,by simpa using hr1,hr2,?_⟩
   intro i r j x hi hj
   obtain⟨v,g1,g2,g3⟩:=hr3 i r j x hi hj
   refine⟨v,by rw[hp.cell];exact g1,g2,g3.mono' (fun _ _ h=>h) hcI (Nat.le_succ n) (fun id c hid h=>by rwa [ze _ _ (vn hid)] at h)⟩
  ·rw[AHeap.get_cons_other _ _ h] at hid
   have hne:id≠(n,0):=fun h'=>h h'.symm
   exact .inl ⟨hid,ze _ _ hne,fun _ _ _ _ _ h=>h⟩
def RowsInI(I:Nat→Nat→Prop)(w:World)(s base:Nat)(es:List (List AVal))(arr:Array Value):Prop:=
 base+es.length*s≤arr.size∧(∀ (i:Nat) (r:List AVal),es[i]?=some r→r.length=s) ∧
 ∀ (i:Nat) (r:List AVal) (j:Nat) (x:AVal),es[i]?=some r→r[j]?=some x→∃v,arr[base+i*s+j]?=some v∧qm v=true∧RepI I w x v
theorem zb3{s:Nat}{es:List (List AVal)}(hl:∀ (i:Nat) (r:List AVal),es[i]?=some r→r.length=s){i j:Nat}{r:List AVal}{x:AVal}(hi:es[i]?=some r)(hj:r[j]?=some x):i*s+j<es.length*s:=by
 have hi':i<es.length:=by
  rcases p8 i es.length with h|h
  ·exact h
  ·rw[p9 h] at hi;cases hi
 have hj':j<r.length:=by
  rcases p8 j r.length with h|h
  ·exact h
  ·rw[p9 h] at hj;cases hj
 have hr:=hl i r hi
 have:(i+1)*s≤es.length*s:=pN _ hi'
 rw[pL] at this
 omega
theorem z2p(hI:Inv I β n H w){arr:Array Value}{el:TypeId}{fr:Nat×Nat}{s:Nat}{es:List (List AVal)}(hp:Pushed w w' (.cells arr el fr))(hfr:∀k,k<arr.size→(fr.1≤k&&k<fr.2)=false)
 (hr:RowsInI I w s 0 es arr) (tk:Bool) {H2:AHeap} (h2:∀id blk,H2.get id=some blk→H.get id=some blk) :
 ∃I' β',Inv I' β' (if tk then n+1 else n) (if tk then((n,0),.tok)::H2 else H2) w'∧Ext I β n H w I' β' (if tk then n+1 else n) (if tk then((n,0),.tok)::H2 else H2) w' ∧
  (tk=true→β' (n,0)=some ⟨w.heap.size,es.length*s,arr.size,0,s⟩) ∧
  (∀cap f,es.length≤cap→(f=true→cap=es.length)→RepI I' w' (.isl s es f) (.slice (some ⟨w.heap.size,0,none⟩) es.length cap))∧(∀ {x v},RepI I w x v→RepI I' w' x v):=by
 have hsz:w'.heap.size=w.heap.size+1:=by rw[hp.heap];simp
 obtain⟨hr1,hr2,hr3⟩:=hr
 have hcI:∀b k,I b k→w'.cell? ⟨b,k,none⟩=w.cell? ⟨b,k,none⟩:=fun b k hb=>by
  obtain⟨v,hv⟩:=hI.imm b k hb
  exact hp.chg.cell b k (ve hv) id
 have hup:∀ {x v},RepI I w x v→RepI (fun b k=>I b k∨(b=w.heap.size∧k<es.length*s)) w' x v:=fun h=>h.mono (fun _ _ h=>.inl h) hcI
 have hR:∀cap f,es.length≤cap→(f=true→cap=es.length)→RepI (fun b k=>I b k∨(b=w.heap.size∧k<es.length*s)) w' (.isl s es f) (.slice (some ⟨w.heap.size,0,none⟩) es.length cap):=by
  intro cap f h1 h2
  refine .isl s es f w.heap.size 0 cap (fun i j=>(arr[0+i*s+j]?).getD undef) (fun i r j x hi hj=>.inr ⟨rfl,?_⟩) h1 h2 hr2 ?_ ?_ ?_
  ·have:=zb3 hr2 hi hj;omega
  ·intro i r j x hi hj
   obtain⟨v,g1,_,_⟩:=hr3 i r j x hi hj
   rw[hp.cell,g1];rfl
  ·intro i r j x hi hj
   obtain⟨v,g1,g2,_⟩:=hr3 i r j x hi hj
   rw[g1];exact g2
  ·intro i r j x hi hj
   obtain⟨v,g1,_,g3⟩:=hr3 i r j x hi hj
   rw[g1];exact hup g3
 have himmN:∀b k,(I b k∨(b=w.heap.size∧k<es.length*s))→¬I b k→(∃v,w'.cell? ⟨b,k,none⟩=some v)∧(w.heap.size≤b∨∃id c,β id=some c∧H.get id≠none∧c.has b k):=by
  rintro b k (h|⟨rfl,hk⟩) hn
  ·exact absurd h hn
  ·refine⟨?_,.inl (p6 _)⟩
   rw[hp.cell]
   have:k<arr.size:=by omega
   exact⟨arr[k],pB this⟩
 cases tk with
 |false=>
  refine⟨fun b k=>I b k∨(b=w.heap.size∧k<es.length*s),β,?_⟩
  simp only[p7,if_false]
  have hg:=wk (H':=H2) hI hp.chg (p6 n) (fun _ _ h=>h.elim) (fun _ _ h=>.inl h) himmN (fun id _=>.inl rfl)
   (fun id c b k hid hc _=>by rw[hI.fresh id hid] at hc;cases hc) (fun id hid=>hI.fresh id hid) (fun i j c d b k hi hj _ _ hj'=>by rw[hI.fresh j hj'] at hj;cases hj)
   (fun i c b k hi hc h=>by
    rcases h with h|⟨rfl,_⟩
    ·exact h
    ·exact(Xu hI hi hc (p6 _)).elim) (fun id _ hg h=>hg (by
    cases hh:H2.get id with
    |none=>rfl
    |some b=>rw[h2 id b hh] at h;cases h)) (fun id blk hid=>.inl ⟨h2 id blk hid,rfl,fun _ _ _ _ _ h=>h⟩)
  exact⟨hg.1,hg.2,fun h=>h.elim,hR,hup⟩
 |true=>
  refine⟨fun b k=>I b k∨(b=w.heap.size∧k<es.length*s),upd β (n,0) (some ⟨w.heap.size,es.length*s,arr.size,0,s⟩),?_⟩
  simp only[if_true]
  have hg:=wk (β':=upd β (n,0) (some ⟨w.heap.size,es.length*s,arr.size,0,s⟩)) (H':=((n,0),.tok)::H2) hI hp.chg (Nat.le_succ n) (fun _ _ h=>h.elim) (fun _ _ h=>.inl h) himmN (fun id hid=>.inl (ze _ _ (vn hid)))
   (fun id c b k hid hc hk=>by
    rcases j6 hc hI.fresh with⟨_,rfl⟩|⟨h,_⟩
    ·have hb:w.heap.size=b:=hk.1
     exact⟨by omega,.inl (by omega)⟩
    ·omega)
   (fun id hid=>by rw[ze _ _ (fun h=>by subst h;exact absurd hid (Nat.not_succ_le_self n))];exact hI.fresh id (by omega))
   (fun i j c d b k hi hj hc hd hj'=>by
    rcases j6 hj hI.fresh with⟨rfl,rfl⟩|⟨h,_⟩
    ·rcases j6 hi hI.fresh with⟨rfl,_⟩|⟨_,h⟩
     ·rfl
     ·exact(Xu hI h hc (by rw[←hd.1];exact p6 _)).elim
    ·omega)
   (fun i c b k hi hc h=>by
    rcases h with h|⟨rfl,hk⟩
    ·exact h
    ·rcases j6 hi hI.fresh with⟨_,rfl⟩|⟨_,h⟩
     ·have h1:es.length*s≤k:=hc.2.1
      omega
     ·exact(Xu hI h hc (p6 _)).elim)
   (fun id hid hg=>by
    rw[AHeap.get_cons_other _ _ (vn hid).symm] at hg
    intro h
    exact hg (by
     cases hh:H2.get id with
     |none=>rfl
     |some b=>rw[h2 id b hh] at h;cases h))
   (fun id blk hid=>by
    by_cases h:(n,0)=id
    ·subst h
     rw[AHeap.get_cons_same] at hid
     simp only[p0] at hid
     subst hid
     refine .inr ⟨_,qr _ _ _,fun k h1 h2=>⟨?_,hp.unfrozen hfr k h2⟩⟩
     simp only at h2
     rw[hp.cell]
     exact⟨arr[k],pB h2⟩
    ·rw[AHeap.get_cons_other _ _ h] at hid
     exact .inl ⟨h2 id blk hid,ze _ _ (fun h'=>h h'.symm),fun _ _ _ _ _ h=>h⟩)
  exact⟨hg.1,hg.2,fun _=>qr _ _ _,hR,hup⟩
structure Wrote(w w':World)(b:Nat):Prop where
 os:w'.os=w.os
 tape:TapeOk w w'
 output:w'.output=w.output
 size:w'.heap.size=w.heap.size
 other:∀k,k≠b→w'.heap[k]?=w.heap[k]?
 shape:∀arr el fr,w.heap[b]?=some (.cells arr el fr)→∃arr',w'.heap[b]?=some (.cells arr' el fr)∧arr'.size=arr.size
 mapsAt:∀o,zcu o=true→w.heap[b]?=some o→w'.heap[b]?=some o
theorem Wrote.refl(w:World)(b:Nat):Wrote w w b:=⟨rfl,⟨rfl,fun _=>p6 _⟩,rfl,rfl,fun _ _=>rfl,fun arr _ _ h=>⟨arr,h,rfl⟩,fun _ _ h=>h⟩
theorem Wrote.trans{b:Nat}{w'':World}(h:Wrote w w' b)(k:Wrote w' w'' b):Wrote w w'' b:=by
 refine⟨k.os.trans h.os,k.tape.trans h.tape,k.output.trans h.output,k.size.trans h.size,fun i hi=>(k.other i hi).trans (h.other i hi),fun arr el fr hb=>?_,fun es ck hb=>k.mapsAt es ck (h.mapsAt es ck hb)⟩
 obtain⟨arr',h1,h2⟩:=h.shape arr el fr hb
 obtain⟨arr'',h3,h4⟩:=k.shape arr' el fr h1
 exact⟨arr'',h3,h4.trans h2⟩
theorem Wrote.setCell(w:World)(a:Addr)(v:Value):Wrote w (w.setCell a v) a.block:=by
 refine⟨rfl,⟨rfl,fun _=>p6 _⟩,rfl,by simp,fun k hk=>?_,fun arr el fr hb=>?_,fun es ck hb=>?_⟩
 rotate_right
 ·simp only[World.setCell,Array.getElem?_modify,hb]
  cases es<;>first|(cases ck;done)|simp
 ·simp only[World.setCell,Array.getElem?_modify]
  rw[if_neg (fun h=>hk h.symm)]
 ·refine⟨if a.spot.isSome then arr else arr.setIfInBounds a.off v,?_,by split<;>simp⟩
  simp only[World.setCell,Array.getElem?_modify,hb]
  simp
theorem zd4{v:Value}(h:qm v=true):v.oneCell'=true:=by cases v<;>simp[qm] at h<;>rfl
theorem Wh:∀ (vs:List Value) (i:Nat) (w:World) (b o:Nat),(∀j,i≤j→j<i+vs.length→∃u,w.cell? ⟨b,o+j,none⟩=some u)→(∀j,i≤j→j<i+vs.length→w.frozen? ⟨b,o+j,none⟩=false)→(∀v∈vs,qm v=true) →
 ∃w',(storeCells ⟨b,o,none⟩ vs i).run P w=.ok () w'∧Wrote w w' b∧(∀k,(k<o+i∨o+i+vs.length≤k)→w'.cell? ⟨b,k,none⟩=w.cell? ⟨b,k,none⟩)∧(∀j,j<vs.length→w'.cell? ⟨b,o+i+j,none⟩=vs[j]?)
 |[],i,w,b,o,_,_,_=>⟨w,rfl,.refl w b,fun _ _=>rfl,fun j hj=>by simp at hj⟩
 |v::vs,i,w,b,o,h1,h2,h3=>by
  obtain⟨u,hu⟩:=h1 i (p6 _) (by simp)
  have hf:=h2 i (p6 _) (by simp)
  have hrun:(store ((⟨b,o,none⟩:Addr).add i) v).run P w=.ok () (w.setCell ⟨b,o+i,none⟩ v):=by
   rw[xg,run_store P w _ v _ (zd4 (h3 v (by simp)))]
   simp[hu,hf]
  obtain⟨w',g1,g2,g3,g4⟩:=Wh vs (i+1) (w.setCell ⟨b,o+i,none⟩ v) b o
   (fun j hj hlt=>by
    obtain⟨u',hu'⟩:=h1 j (by omega) (by simp;omega)
    exact⟨u',by rw[World.cell?_setCell_other _ _ _ _ (by simp;omega)];exact hu'⟩)
   (fun j hj hlt=>by rw[World.frozen?_setCell];exact h2 j (by omega) (by simp;omega)) (fun v hv=>h3 v (by simp[hv]))
  refine⟨w',?_,(Wrote.setCell w ⟨b,o+i,none⟩ v).trans g2,?_,?_⟩
  ·unfold storeCells
   rw[p2,hrun,p1,g1]
  ·intro k hk
   simp only[List.length_cons] at hk
   rw[g3 k (by omega),World.cell?_setCell_other _ _ _ _ (by simp;omega)]
  ·intro j hj
   cases j with
   |zero=>
    rw[g3 (o+i+0) (by omega)]
    simp only[pY,pW]
    exact World.cell?_setCell_same _ _ _ hu
   |succ j=>
    have:=g4 j (by simpa using hj)
    rw[List.getElem?_cons_succ,←this]
    congr 2
    omega
theorem vq{vs:List Value}{w:World}{b o:Nat}(h1:∀j,j<vs.length→∃u,w.cell? ⟨b,o+j,none⟩=some u)(h2:∀j,j<vs.length→w.frozen? ⟨b,o+j,none⟩=false)(h3:∀v∈vs,qm v=true) :
 ∃w',(storeCells ⟨b,o,none⟩ vs 0).run P w=.ok () w'∧Chg w w' (fun b' k=>b'=b∧o≤k∧k<o+vs.length)∧w'.heap.size=w.heap.size∧(∀j,j<vs.length→w'.cell? ⟨b,o+j,none⟩=vs[j]?):=by
 by_cases h0:vs=[]
 ·subst h0
  exact⟨w,rfl,Chg.refl w _,rfl,fun j hj=>by simp at hj⟩
 ·obtain⟨w',g1,g2,g3,g4⟩:=Wh (P:=P) vs 0 w b o (fun j _ h=>h1 j (by omega)) (fun j _ h=>h2 j (by omega)) h3
  refine⟨w',g1,⟨g2.os,g2.tape,g2.output,by rw[g2.size];exact p6 _,fun x _ hx=>?_,fun x k _ hx=>?_,fun x arr el fr hx=>?_,fun x es ck hx _=>?_⟩,g2.size,fun j hj=>by have:=g4 j hj;simpa using this⟩
  ·refine g2.other x (fun h=>?_)
   subst h
   exact hx o ⟨rfl,p6 _,by have:=List.length_pos_iff.2 h0;omega⟩
  ·by_cases hxb:x=b
   ·subst hxb
    refine g3 k ?_
    rcases p8 k o with h|h
    ·left;omega
    ·right
     rcases p8 k (o+vs.length) with h'|h'
     ·exact absurd ⟨rfl,h,h'⟩ hx
     ·omega
   ·exact cell?_of_heap (g2.other x hxb)
  ·by_cases hxb:x=b
   ·subst hxb;exact g2.shape arr el fr hx
   ·exact⟨arr,by rw[g2.other x hxb];exact hx,rfl⟩
  ·by_cases hxb:x=b
   ·subst hxb;exact g2.mapsAt es ck hx
   ·rw[g2.other x hxb];exact hx
theorem W0(hI:Inv I β n H w){b:Id}{c:CLoc}{s:Nat}{es es':List (List AVal)}(hb:H.get b=some (.rows s es))(hc:β b=some c)(hw:Chg w w' c.has)
 (hlen:es'.length≤es.length) (hrow:∀ (i:Nat) (r:List AVal),es'[i]?=some r→r.length=s)
 (hcell:∀ (i:Nat) (r:List AVal) (j:Nat) (x:AVal),es'[i]?=some r→r[j]?=some x→∃v,w'.cell? ⟨c.blk,c.base+i*s+j,none⟩=some v∧qm v=true∧Rep I β n w x v) :
 Inv I β n (H.set b (.rows s es')) w'∧Ext I β n H w I β n (H.set b (.rows s es')) w':=by
 have hne:H.get b≠none:=by rw[hb];simp
 have hcI:∀b k,I b k→w'.cell? ⟨b,k,none⟩=w.cell? ⟨b,k,none⟩:=fun b' k hbk=>by
  obtain⟨v,hv⟩:=hI.imm b' k hbk
  exact hw.cell b' k (ve hv) (fun h=>(hI.own b c b' k hc h).1 hbk)
 obtain⟨c',hc',hB⟩:=hI.blocks b _ hb
 rw[hc] at hc'
 simp only[p0] at hc'
 subst hc'
 have hnew:RepB I β n w' c (.rows s es'):=by
  obtain⟨h1,hA,h3,h4,h5,h6,h7⟩:=hB
  rcases hA with⟨arr,el,fr,h2,h2',h2''⟩|⟨z1,z2,rfl⟩
  ·obtain⟨arr',k1,k2⟩:=hw.shape _ arr el fr h2
   refine⟨h1,.inl ⟨arr',el,fr,k1,by omega,fun hlt=>⟨(h2'' hlt).1,(h2'' hlt).2.1.trans k2.symm,(h2'' hlt).2.2.of rfl k2⟩⟩,fun k hk hk'=>by rw[kr h2 k1];exact h3 k hk hk',h4,?_,hrow,fun i r j x hi hj=>?_⟩
   ·have:=pN s hlen
    omega
   ·obtain⟨v,g1,g2,g3⟩:=hcell i r j x hi hj
    exact⟨v,g1,g2,g3.mono' (fun _ _ h=>h) hcI (p6 n) (fun _ _ _ h=>h)⟩
  ·have:es'=[]:=List.eq_nil_of_length_eq_zero (by simpa using hlen)
   subst this
   exact⟨h1,.inr ⟨z1,z2,rfl⟩,fun k hk hk'=>by omega,h4,h5,hrow,fun i r j x hi _=>by simp at hi⟩
 refine wk hI hw (p6 n) (fun b' k h=>⟨b,c,hc,hne,h⟩) (fun _ _ h=>h) (fun _ _ h h'=>absurd h h') (fun id hid=>.inl rfl)
  (fun id d b' k hid hd _=>by rw[hI.fresh id hid] at hd;cases hd) hI.fresh (fun i j d d' b' k hi hj h h' _=>hI.inj i j d d' b' k hi hj h h') (fun _ _ _ _ _ _ h=>h) ?_ ?_
 ·intro t _ ht
  rw[AHeap.get_set] at ht
  split at ht
  ·intro h;rw[h] at ht;simp at ht
  ·exact ht
 ·intro id blk hid
  rw[AHeap.get_set] at hid
  by_cases h:b=id
  ·subst h
   rw[if_pos rfl,hb] at hid
   simp only[pM,p0] at hid
   subst hid
   exact .inr ⟨c,hc,hnew⟩
  ·rw[if_neg h] at hid
   exact .inl ⟨hid,rfl,fun d b' k hd hk hk'=>h (hI.inj b id c d b' k hc hd hk' hk)⟩
theorem Zm{b id:Id}{c d:CLoc}(h:upd (upd β b none) (n,0) (some c) id=some d)(hf:∀id:Id,n≤id.1→β id=none):(id=(n,0)∧d=c)∨(id.1<n∧id≠b∧β id=some d):=by
 by_cases hid:id=(n,0)
 ·subst hid;rw[qr] at h;simp only[p0] at h;exact .inl ⟨rfl,h.symm⟩
 ·rw[ze _ _ hid] at h
  by_cases hb:id=b
  ·subst hb;rw[qr] at h;cases h
  ·rw[ze _ _ hb] at h
   refine .inr ⟨?_,hb,h⟩
   rcases p8 id.1 n with hl|hl
   ·exact hl
   ·rw[hf id hl] at h;cases h
theorem uy(hI:Inv I β n H w){b:Id}{c:CLoc}(hc:β b=some c):b.1<n:=by
 rcases p8 b.1 n with h|h
 ·exact h
 ·rw[hI.fresh b h] at hc;cases hc
theorem z32(hI:Inv I β n H w){b:Id}{c c2:CLoc}{blk2:ABlock}(hb:H.get b≠none)(hc:β b=some c)(hw:Chg w w' c.has)(hsub:∀b k,c2.has b k→c.has b k)
 {J:Nat→Nat→Prop} (hJ:∀b' k,J b' k→c.has b' k∧¬c2.has b' k∧∃v,w'.cell? ⟨b',k,none⟩=some v)
 (hB:RepB (fun b k=>I b k∨J b k) (upd (upd β b none) (n,0) (some c2)) (n+1) w' c2 blk2) :
 Inv (fun b k=>I b k∨J b k) (upd (upd β b none) (n,0) (some c2)) (n+1) (((n,0),blk2)::H.del b) w' ∧
 Ext I β n H w (fun b k=>I b k∨J b k) (upd (upd β b none) (n,0) (some c2)) (n+1) (((n,0),blk2)::H.del b) w':=by
 have hbn:=uy hI hc
 refine wk hI hw (Nat.le_succ n) (fun b' k h=>⟨b,c,hc,hb,h⟩) (fun _ _ h=>.inl h) ?_ ?_ ?_ ?_ ?_ ?_ ?_ ?_
 ·rintro b' k (h|h) hn
  ·exact absurd h hn
  ·obtain⟨h1,_,h2⟩:=hJ b' k h
   exact⟨h2,.inr ⟨b,c,hc,hb,h1⟩⟩
 ·intro id hid
  by_cases h':id=b
  ·subst h'
   exact .inr ⟨by rw[ze _ _ (vn hid),qr],hb⟩
  ·exact .inl (by rw[ze _ _ (vn hid),ze _ _ h'])
 ·intro id d b' k hid hd hk
  rcases Zm hd hI.fresh with⟨_,rfl⟩|⟨h,_⟩
  ·have hk':=hsub b' k hk
   exact⟨pS (hI.own b c b' k hc hk').2 hw.size,.inr ⟨b,c,hc,hb,hk'⟩⟩
  ·omega
 ·intro id hid
  rw[ze _ _ (fun h=>by subst h;exact absurd hid (Nat.not_succ_le_self n)),ze _ _ (fun h=>by subst h;omega)]
  exact hI.fresh id (by omega)
 ·intro i j d d' b' k hi hj hd hd' hj'
  rcases Zm hj hI.fresh with⟨rfl,rfl⟩|⟨h,_⟩
  ·rcases Zm hi hI.fresh with⟨rfl,_⟩|⟨_,h1,h2⟩
   ·rfl
   ·exact absurd (hI.inj i b d c b' k h2 hc hd (hsub b' k hd')) h1
  ·omega
 ·intro i d b' k hi hd h
  rcases h with h|h
  ·exact h
  ·obtain⟨h1,h2,_⟩:=hJ b' k h
   rcases Zm hi hI.fresh with⟨_,rfl⟩|⟨_,h3,h4⟩
   ·exact absurd hd h2
   ·exact absurd (hI.inj i b d c b' k h4 hc hd h1) h3
 ·intro id hid hg
  rw[AHeap.get_cons_other _ _ (vn hid).symm,AHeap.get_del] at hg
  split at hg
  ·exact absurd rfl hg
  ·exact hg
 ·intro id blk hid
  by_cases h:(n,0)=id
  ·subst h
   rw[AHeap.get_cons_same] at hid
   simp only[p0] at hid
   subst hid
   exact .inr ⟨c2,qr _ _ _,hB⟩
  ·rw[AHeap.get_cons_other _ _ h,AHeap.get_del] at hid
   split at hid
   ·cases hid
   ·rename_i hne
    refine .inl ⟨hid,by rw[ze _ _ (fun h'=>h h'.symm),ze _ _ (fun h'=>hne h'.symm)],fun d b' k hd hk hk'=>hne (hI.inj b id c d b' k hc hd hk' hk)⟩
theorem zbf(hI:Inv I β n H w){b:Id}{c:CLoc}{s off:Nat}{es es':List (List AVal)}(hb:H.get b=some (.rows s es))(hc:β b=some c)(hw:Chg w w' c.has)(hph:es=[]→es'=[]∨∃arr el fr,w.heap[c.blk]?=some (.cells arr el fr)∧c.size≤arr.size∧(c.lo<c.size→c.lo=0∧c.size=arr.size∧EndOk c.s arr fr))
 (hlen:c.base+off*s+es'.length*s≤c.size) (hrow:∀ (i:Nat) (r:List AVal),es'[i]?=some r→r.length=s)
 (hcell:∀ (i:Nat) (r:List AVal) (j:Nat) (x:AVal),es'[i]?=some r→r[j]?=some x→∃v,w'.cell? ⟨c.blk,c.base+off*s+i*s+j,none⟩=some v∧qm v=true∧Rep I β n w x v) :
 ∃I',Inv I' (upd (upd β b none) (n,0) (some ⟨c.blk,c.lo,c.size,c.base+off*s,s⟩)) (n+1) (((n,0),.rows s es')::H.del b) w' ∧
 Ext I β n H w I' (upd (upd β b none) (n,0) (some ⟨c.blk,c.lo,c.size,c.base+off*s,s⟩)) (n+1) (((n,0),.rows s es')::H.del b) w':=by
 have hcI:∀b k,I b k→w'.cell? ⟨b,k,none⟩=w.cell? ⟨b,k,none⟩:=fun b' k hbk=>by
  obtain⟨v,hv⟩:=hI.imm b' k hbk
  exact hw.cell b' k (ve hv) (fun h=>(hI.own b c b' k hc h).1 hbk)
 obtain⟨c',hc',hB⟩:=hI.blocks b _ hb
 rw[hc] at hc'
 simp only[p0] at hc'
 subst hc'
 obtain⟨h1,hA,h3,h4,h5,h6,h7⟩:=hB
 have hA:(∃arr el fr,w.heap[c.blk]?=some (.cells arr el fr)∧c.size≤arr.size∧(c.lo<c.size→c.lo=0∧c.size=arr.size∧EndOk c.s arr fr))∨(c.lo=0∧c.size=0∧es'=[]):=by
  rcases hA with hA|⟨z1,z2,z3⟩
  ·exact .inl hA
  ·rcases hph z3 with z4|z4
   ·exact .inr ⟨z1,z2,z4⟩
   ·exact .inl z4
 rcases hA with⟨arr,el,fr,h2,h2',h2''⟩|hz
 rotate_left
 ·obtain⟨z1,z2,rfl⟩:=hz
  refine⟨_,z32 (c2:=⟨c.blk,c.lo,c.size,c.base+off*s,s⟩) (J:=fun _ _=>False) hI (by rw[hb];simp) hc hw (fun b k h=>⟨h.1,h.2.1,h.2.2⟩) (fun _ _ h=>h.elim) ?_⟩
  exact⟨rfl,.inr ⟨z1,z2,rfl⟩,fun k hk hk'=>by simp only at hk';omega,Nat.le_trans h4 (Nat.le_add_right _ _),hlen,hrow,fun i r j x hi _=>by simp at hi⟩
 obtain⟨arr',k1,k2⟩:=hw.shape _ arr el fr h2
 refine⟨_,z32 (c2:=⟨c.blk,c.lo,c.size,c.base+off*s,s⟩) (J:=fun _ _=>False) hI (by rw[hb];simp) hc hw (fun b k h=>⟨h.1,h.2.1,h.2.2⟩) (fun _ _ h=>h.elim) ?_⟩
 refine⟨rfl,.inl ⟨arr',el,fr,k1,by rw[k2];exact h2',fun hlt=>⟨(h2'' hlt).1,(h2'' hlt).2.1.trans k2.symm,(h2'' hlt).2.2.of h1.symm k2⟩⟩,fun k hk hk'=>by rw[kr h2 k1];exact h3 k hk hk',Nat.le_trans h4 (Nat.le_add_right _ _),hlen,hrow,fun i r j x hi hj=>?_⟩
 obtain⟨v,g1,g2,g3⟩:=hcell i r j x hi hj
 refine⟨v,g1,g2,g3.mono' (fun _ _ h=>.inl h) hcI (Nat.le_succ n) (fun id d hid hd=>?_)⟩
 rcases Zm hd hI.fresh with⟨h,_⟩|⟨_,_,h⟩
 ·exact absurd h (vn hid)
 ·exact h
theorem Inv.same{H2:AHeap}(h:∀id b,H2.get id=some b→∃b0,H.get id=some b0∧∀c,RepB I β n w c b0→RepB I β n w c b)(hI:Inv I β n H w):Inv I β n H2 w:=by
 refine⟨fun id blk hb=>?_,hI.inj,hI.own,hI.imm,hI.fresh,hI.glob⟩
 obtain⟨b0,h1,h2⟩:=h id blk hb
 obtain⟨c,hc,hB⟩:=hI.blocks id b0 h1
 exact⟨c,hc,h2 c hB⟩
theorem Ext.same{H2 H2':AHeap}(h:∀id,H2.get id≠none↔H.get id≠none)(h':∀id,H2'.get id≠none→H'.get id≠none)(e:Ext I β n H w I' β' n' H' w'):Ext I β n H2 w I' β' n' H2' w':=
 ⟨e.os,e.tape,e.output,e.size,fun b hb hn=>e.frame b hb fun id c k h1 h2=>hn id c k h1 ((h id).2 h2),fun b k v hv hn=>e.cells b k v hv fun id c h1 h2=>hn id c h1 ((h id).2 h2),fun b arr el fr hb=>by
  obtain⟨arr',fr',k1,k2,k3⟩:=e.shape b arr el fr hb
  exact⟨arr',fr',k1,k2,k3.imp (fun h=>h) fun g k hk=>by
   obtain⟨id,c,g1,g2,g3⟩:=g k hk
   exact⟨id,c,g1,(h id).2 g2,g3⟩⟩,fun b es ck hb hn=>e.maps b es ck hb fun id c h1 h2=>hn id c h1 ((h id).2 h2),e.imm,fun b k h1 h2 h3=>by
  obtain⟨id,c,g1,g2,g3⟩:=e.immNew b k h1 h2 h3
  exact⟨id,c,g1,g2,(h id).2 g3⟩,fun id hid=>by
  rcases e.old id hid with g|⟨g1,g2⟩
  ·exact .inl g
  ·exact .inr ⟨g1,(h id).2 g2⟩,fun id c b k h1 h2 h3=>by
  rcases e.new id c b k h1 h2 h3 with g|⟨i0,c0,g1,g2,g3⟩
  ·exact .inl g
  ·exact .inr ⟨i0,c0,g1,g2,(h i0).2 g3⟩,fun id hid hg=>(h id).2 (e.dom id hid (h' id hg)),e.le⟩
theorem zlb{k:Id}{cs:List AVal}{H:AHeap}(id:Id)(b:ABlock)(h:AHeap.get ((k,.one cs)::H) id=some b):∃b0,AHeap.get ((k,.rows cs.length [cs])::H) id=some b0∧∀c,RepB I β n w c b0→RepB I β n w c b:=by
 by_cases hk:k=id
 ·subst hk
  rw[AHeap.get_cons_same] at h
  simp only[p0] at h
  subst h
  exact⟨_,AHeap.get_cons_same _ _ _,fun c hc=>wl.2 hc⟩
 ·rw[AHeap.get_cons_other _ _ hk] at h
  exact⟨b,by rw[AHeap.get_cons_other _ _ hk];exact h,fun _ h=>h⟩
theorem z6v{k:Id}{b b':ABlock}{H:AHeap}(id:Id):AHeap.get ((k,b)::H) id≠none↔AHeap.get ((k,b')::H) id≠none:=by
 by_cases hk:k=id
 ·subst hk;rw[AHeap.get_cons_same,AHeap.get_cons_same];simp
 ·rw[AHeap.get_cons_other _ _ hk,AHeap.get_cons_other _ _ hk]
theorem Xj{k:Id}{b:ABlock}{H:AHeap}(id:Id):(H.set k b).get id≠none↔H.get id≠none:=by
 rw[AHeap.get_set]
 split
 ·cases H.get id<;>simp
 ·exact Iff.rfl
end
end Go.Fx
namespace Go.Fx
def uc (P:Program) (f:FuncId):Prop:=∃fn,P.funcs[f]?=some fn∧fn.body.isSome=true∧(fn.name=="runtime.NumGoroutine")=false
instance:Coe FuncId Fn:=⟨.func⟩
instance (k:Nat):OfNat Fn k:=⟨.func k⟩
def CallsF(P:Program):Fn→Array Value→World→(Ending→World→Prop)→Prop
 |.func f,vs,w,R=>Calls P f vs w R
 |.yield l,vs,w,R=>YieldAt Fence.wide 0 P l vs w R
 |_,_,_,_=>False
theorem CallsF.mono{P:Program}{f:Fn}{args:Array Value}{w:World}{R R':Ending→World→Prop}(h:CallsF P f args w R)(hr:∀e w',R e w'→R' e w'):CallsF P f args w R':=by
 cases f with
 |func f=>exact Calls.mono h hr
 |yield l=>
  obtain⟨fn,tmps,assign,body,h1,h2⟩:=h
  exact⟨fn,tmps,assign,body,h1,h2.mono hr⟩
 |_=>exact h.elim
def zxj(P:Program):Fn→Prop
 |.func f=>uc P f
 |.yield _=>True
 |_=>False
def ACalls(P:Program)(f:Fn)(args:List AVal)(H:AHeap)(n:Nat)(Q:AVal→AHeap→Nat→Prop):Prop:=
 zxj P f∧∀ (I:Nat→Nat→Prop) (β:Id→Option CLoc) (w:World) (vs:List Value),Inv I β n H w→vs.length=args.length→(∀ (i:Nat) (x:AVal) (v:Value),args[i]?=some x→vs[i]?=some v→Rep I β n w x v) →
  CallsF P f vs.toArray w fun e w'=>∃r v H' n' I' β',e=.returned v∧Q r H' n'∧Inv I' β' n' H' w'∧Rep I' β' n' w' r v∧Ext I β n H w I' β' n' H' w'
theorem ACalls.mono{P:Program}{f:Fn}{args:List AVal}{H:AHeap}{n:Nat}{Q Q':AVal→AHeap→Nat→Prop}(h:ACalls P f args H n Q)(hq:∀r H' n',Q r H' n'→Q' r H' n'):ACalls P f args H n Q':=
 ⟨h.1,fun I β w vs hI hl hr=>(h.2 I β w vs hI hl hr).mono fun _ _ ⟨r,v,H',n',I',β',h1,h2,h3⟩=>⟨r,v,H',n',I',β',h1,hq _ _ _ h2,h3⟩⟩
def ACallsC(P:Program)(f:Fn)(first args caps:List AVal)(H:AHeap)(n:Nat)(K:AVal→AHeap→Nat→Prop):Prop:=
 match f with
 |.func g=>ACalls P (.func g) (first++args++caps) H n K
 |f=>caps=[]∧ACalls P f (first++args++caps) H n K
theorem ACallsC.mono{P:Program}{f:Fn}{first args caps:List AVal}{H:AHeap}{n:Nat}{Q Q':AVal→AHeap→Nat→Prop}(h:ACallsC P f first args caps H n Q)(hq:∀r H' n',Q r H' n'→Q' r H' n'):ACallsC P f first args caps H n Q':=by
 cases f with
 |func g=>exact ACalls.mono h hq
 |_=>exact⟨h.1,h.2.mono hq⟩
def ui(H:AHeap)(s:Nat):AVal→Option (Prop×List (List AVal))
 |.isl s' es _=>some (s'=s,es)
 |.osl _ s' es=>some (s'=s,es)
 |.msl b s' off len _=>match H.get b with
  |some (.rows s'' es)=>some (s'=s∧s''=s∧off+len≤es.length,(es.drop off).take len)
  |_=>none
 |.val (.slice none 0 0)=>some (True,[])
 |.str l=>some (s=1,l.map fun c=>[.int .u8 (c.toNat:Int)])
 |_=>none
def X8:List (List AVal)→List (Nat×AVal)→Option (Prop×List (List AVal))
 |rows,[]=>some (True,rows)
 |rows,(i,x)::r=>match x.cells? with
  |some cs=>match X8 (rows.set i cs) r with
   |some (p,rs)=>some (cs.length=((rows.getD i []).length)∧i<rows.length∧p,rs)
   |none=>none
  |none=>none
def evI(e:Env):List (Nat×LOpd)→List (Nat×AVal)
 |[]=>[]
 |(i,x)::r=>(i,x.ev e)::evI e r
def Wy(e:Env):List (Nat×LOpd)→Prop
 |[]=>True
 |(_,x)::r=>x.need e∧Wy e r
def Wt:List AVal→UInt8
 |[.int _ m]=>UInt8.ofNat m.toNat
 |_=>0
def Vs(y:AVal)(rows:List (List AVal)):Option (List (List AVal)):=
 match y with
 |.msl _ _ _ _ _=>wq rows
 |_=>some rows
def z4z(s bytes:Nat)(H:AHeap)(n:Nat)(K:AVal→AHeap→Nat→Prop)(x:AVal)(rows2:List (List AVal)):Prop:=
 match x with
 |.val (.slice none 0 0)=>rows2.length*bytes≤140737488355328∧K (.osl (n,0) s rows2) (((n,0),.tok)::H) (n+1)
 |.isl s' es f=>s'=s∧f=true∧(es.length+rows2.length)*bytes≤140737488355328∧K (.osl (n,0) s (es++rows2)) (((n,0),.tok)::H) (n+1)
 |.osl tok s' es=>s'=s∧H.get tok=some .tok∧(es.length+rows2.length)*bytes≤140737488355328∧K (.osl (n,0) s (es++rows2)) (((n,0),.tok)::H.del tok) (n+1)
 |_=>False
def zjn(s bytes:Nat)(H:AHeap)(n:Nat)(K:AVal→AHeap→Nat→Prop)(x:AVal)(rows2:List (List AVal)):Prop:=
 match x with
 |.val (.slice none 0 0)=>(rows2=[]→K (.val (.slice none 0 0)) H n)∧(rows2≠[]→rows2.length*bytes≤140737488355328∧K (.msl (n,0) s 0 rows2.length false) (((n,0),.rows s rows2)::H) (n+1))
 |.isl s' es f=>s'=s∧(rows2=[]→K (.isl s' es f) H n)∧(rows2≠[]→f=true∧(es.length+rows2.length)*bytes≤140737488355328∧K (.msl (n,0) s 0 (es.length+rows2.length) false) (((n,0),.rows s (es++rows2))::H) (n+1))
 |.msl b s' off len f=>match H.get b with
  |some (.rows s'' es)=>s'=s∧s''=s∧off+len≤es.length∧(f=true→rows2=[]→K (.msl b s' off len f) H n) ∧
   ((f=true→rows2≠[])→(len+rows2.length)*bytes≤140737488355328 ∧
    K (.msl (n,0) s 0 (len+rows2.length) false) (((n,0),.rows s ((es.drop off).take len++rows2))::(if f then H else H.del b)) (n+1))
  |_=>False
 |_=>False
def wh(P:Program)(e:Env)(H:AHeap)(n:Nat)(K:AVal→AHeap→Nat→Prop):LOp→Prop
 |.alloc zs=>K (.ptr (n,0) 0 0) (((n,0),.one zs)::H) (n+1)
 |.allocR s zs=>K (.ptr (n,0) 0 0) (((n,0),.rows s (Qx s (zs.length / s) zs))::H) (n+1)
 |.allocB T el=>K (.ptr (n,0) 0 0) (((n,0),.bld T (n,1))::((n,1),.buf el [])::H) (n+1)
 |.box x=>match (x.ev e).cells? with
  |some cs=>x.need e∧K (.ptr (n,0) 0 0) (((n,0),.one cs)::H) (n+1)
  |none=>False
 |.mkSl vm s zs len parts=>match X8 (List.replicate len zs) (evI e parts) with
  |some (p,rows)=>match vm with
   |true=>match wq rows with
    |some rows'=>zs.length=s∧Wy e parts∧p∧K (.isl s (rows'.map (xz zs)) true) H n
    |none=>False
   |false=>zs.length=s∧Wy e parts∧p∧∃rs,(rs=rows.map (xz zs)∨rs=rows)∧K (.msl (n,0) s 0 len true) (((n,0),.rows s rs)::H) (n+1)
  |none=>False
 |.store m a x=>match a.ev e,(x.ev e).cells? with
  |.ptr b i off,some cs=>match H.get b with
   |some (.rows s es)=>a.need e∧x.need e∧cs.length=m∧i<es.length∧off+m≤s∧K .any (H.set b (.rows s (es.set i (jp (es.getD i []) off cs)))) n
   |some (.one rs)=>a.need e∧x.need e∧cs.length=m∧i=0∧off+m≤rs.length∧K .any (H.set b (.one (jp rs off cs))) n
   |_=>False
  |_,_=>False
 |.conv (.s2b vm) x=>match x.ev e with
  |.str l=>match vm with
   |true=>x.need e∧K (.isl 1 (l.map fun c=>[.int .u8 (c.toNat:Int)]) false) H n
   |false=>x.need e∧K (.msl (n,0) 1 0 l.length false) (((n,0),.rows 1 (l.map fun c=>[.int .u8 (c.toNat:Int)]))::H) (n+1)
  |_=>False
 |.conv .b2s x=>match ui H 1 (x.ev e) with
  |some (p,rows)=>x.need e∧(∀l,x.ev e≠.str l)∧p∧(∀r∈rows,∃m,r=[.int .u8 m])∧K (.str (rows.map Wt)) H n
  |none=>False
 |.mkslice vm s bytes zs l c=>match l.ev e,c.ev e with
  |.int .i64 l',.int .i64 c'=>match vm with
   |true=>l.need e∧c.need e∧l'=0∧l'≤c'∧c'*bytes≤140737488355328∧K (.osl (n,0) s []) (((n,0),.tok)::H) (n+1)
   |false=>l.need e∧c.need e∧0≤l'∧l'≤c'∧c'*bytes≤140737488355328∧∃rows,(rows=List.replicate l'.toNat (xz zs zs)∨rows=List.replicate l'.toNat zs)∧K (.msl (n,0) s 0 l'.toNat (decide (c'=l'))) (((n,0),.rows s rows)::H) (n+1)
  |_,_=>False
 |.call f args=>Q3 e args∧ACalls P f (evs e args) H n K
 |.callv x args=>match x.ev e with
  |.fn f first caps=>x.need e∧Q3 e args∧ACallsC P f first (evs e args) caps H n K
  |_=>False
 |.app vm s bytes x y=>match ui H s (y.ev e) with
  |some (p,rows2)=>match vm with
   |true=>match Vs (y.ev e) rows2 with
    |some rows2'=>x.need e∧y.need e∧p∧z4z s bytes H n K (x.ev e) rows2'
    |none=>False
   |false=>x.need e∧y.need e∧p∧zjn s bytes H n K (x.ev e) rows2
  |none=>False
 |.copy s x y=>match x.ev e,ui H s (y.ev e) with
  |.msl b s' off len _,some (p,rows2)=>match H.get b with
   |some (.rows s'' es)=>x.need e∧y.need e∧p∧s'=s∧s''=s∧off+len≤es.length ∧
    K (.int .i64 ((min rows2.length len:Nat):Int)) (H.set b (.rows s (es.take off++rows2.take len++es.drop (off+min rows2.length len)))) n
   |_=>False
  |_,_=>False
 |.mkmap none=>K (.map (n,0)) (((n,0),.amap [])::H) (n+1)
 |.mset ks ka g zs m k x=>match m.ev e,zru g zs (x.ev e) with
  |.map b,some y=>match H.get b with
   |some (.amap es)=>match zkv ks (k.ev e) y es with
    |some es'=>m.need e∧k.need e∧x.need e∧Qv ks ka (k.ev e)=true∧K .any (H.set b (.amap es')) n
    |none=>False
   |_=>False
  |_,_=>False
 |.mdel ks ka m k=>match m.ev e with
  |.map b=>match H.get b with
   |some (.amap es)=>match z30 ks (k.ev e) es with
    |some es'=>m.need e∧k.need e∧Qv ks ka (k.ev e)=true∧K .any (H.set b (.amap es')) n
    |none=>False
   |_=>False
  |_=>False
 |.range x=>match x.ev e with
  |.map b=>match H.get b with
   |some (.amap es)=>x.need e∧∀ (arr:Array MapEntry) (ck:Nat),K (.ptr (n,0) 0 0) (((n,0),.itr (some b) arr ck [])::H.set b (.rmap es arr ck)) (n+1)
   |_=>False
  |.val (.map none)=>x.need e∧K (.ptr (n,0) 0 0) (((n,0),.itr none #[] 0 [])::H) (n+1)
  |_=>False
 |.next x=>match x.ev e with
  |.ptr i 0 0=>match H.get i with
   |some (.itr none _ _ _)=>x.need e∧K (.tup [.bool false]) H n
   |some (.itr (some b) arr ck seen)=>match H.get b with
    |some (.rmap es arr' ck')=>x.need e∧arr'=arr∧ck'=ck∧((∀j,j<es.length→j∈seen)→K (.tup [.bool false]) H n) ∧
     (∀j,j<es.length→j∉seen→K (.tup [.bool true,.any,.any]) (H.set i (.itr (some b) arr ck (j::seen))) n)
    |_=>False
   |_=>False
  |_=>False
 |.entry x=>match x.ev e with
  |.ptr i 0 0=>match H.get i with
   |some (.itr (some b) arr ck (j::seen))=>match H.get b with
    |some (.rmap es arr' ck')=>x.need e∧arr'=arr∧ck'=ck∧∃p,es[j]?=some p∧K (.tup [p.1,p.2]) H n
    |_=>False
   |_=>False
  |_=>False
 |_=>False
variable {P:Program}
section
variable {I:Nat→Nat→Prop} {β:Id→Option CLoc} {n:Nat} {H:AHeap} {w:World} {e:Env} {a:Act}
def Goes(I:Nat→Nat→Prop)(β:Id→Option CLoc)(n:Nat)(H:AHeap)(w:World)(K:AVal→AHeap→Nat→Prop)(v:Value)(w':World):Prop:=
 ∃r H' n' I' β',K r H' n'∧Inv I' β' n' H' w'∧Rep I' β' n' w' r v∧Ext I β n H w I' β' n' H' w'
theorem zfx{s:Nat}(hs:0<s){m k:Nat}(h:k<m*s):k / s<m∧k % s<s∧k=k / s*s+k % s:=
 ⟨(Nat.div_lt_iff_lt_mul hs).2 h,Nat.mod_lt _ hs,by rw[Nat.mul_comm];exact(Nat.div_add_mod k s).symm⟩
def zw3(R:AVal→Value→Prop)(s:Nat)(es:List (List AVal))(arr:Array Value):Prop:=
 0+es.length*s≤arr.size∧(∀ (i:Nat) (r:List AVal),es[i]?=some r→r.length=s) ∧
 ∀ (i:Nat) (r:List AVal) (j:Nat) (x:AVal),es[i]?=some r→r[j]?=some x→∃v,arr[0+i*s+j]?=some v∧qm v=true∧R x v
theorem z9m{R:AVal→Value→Prop}{s:Nat}(hs:0<s)(b o:Nat)(es:List (List AVal))(hlen:∀ (i:Nat) (r:List AVal),es[i]?=some r→r.length=s)
 (hcell:∀ (i:Nat) (r:List AVal) (j:Nat) (x:AVal),es[i]?=some r→r[j]?=some x→∃v,w.cell? ⟨b,o+i*s+j,none⟩=some v∧qm v=true∧R x v) (m:Nat) (hm:m≤es.length) :
 ∃arr,(loadCells ⟨b,o,none⟩ (m*s)).run P w=.ok arr w∧arr.size=m*s∧(∀u∈arr.toList,qm u=true)∧zw3 R s (es.take m) arr:=by
 have key:∀k,k<m*s→∃u,w.cell? ⟨b,o+k,none⟩=some u∧qm u=true∧∀x,(es.getD (k / s) [])[k % s]?=some x→R x u:=by
  intro k hk
  obtain⟨h1,h2,h3⟩:=zfx hs hk
  have hlt:k / s<es.length:=by omega
  have hr:es[k / s]?=some (es.getD (k / s) []):=by simp[p4 hlt]
  have hl:=hlen _ _ hr
  obtain⟨u,g1,g2,g3⟩:=hcell (k / s) _ (k % s) _ hr (p4 (by omega))
  refine⟨u,?_,g2,fun x hx=>?_⟩
  ·rw[←g1];congr 2;omega
  ·rw[p4 (by omega)] at hx
   simp only[p0] at hx
   rw[←hx];exact g3
 let f:Nat→Value:=fun k=>if h:k<m*s then Classical.choose (key k h) else default
 have hf:∀k (h:k<m*s),w.cell? ⟨b,o+k,none⟩=some (f k)∧qm (f k)=true∧∀x,(es.getD (k / s) [])[k % s]?=some x→R x (f k):=by
  intro k h
  simp only[f,h,dif_pos]
  exact Classical.choose_spec (key k h)
 refine⟨((pI (m*s)).map f).toArray,Yo f (m*s) (fun k h=>(hf k h).1),by simp,?_,?_,?_,?_⟩
 ·intro u hu
  simp only[List.mem_map,List.mem_range] at hu
  obtain⟨k,hk,rfl⟩:=hu
  exact(hf k hk).2.1
 ·simp;rw[Nat.min_eq_left hm];exact p6 _
 ·intro i r hi
  exact hlen i r (by rw[List.getElem?_take] at hi;split at hi;exact hi;cases hi)
 ·intro i r j x hi hj
  have hlt:i<m:=by
   rcases p8 i m with h|h
   ·exact h
   ·rw[p9 (by simp;omega)] at hi;cases hi
  rw[pG hlt] at hi
  have hl:=hlen i r hi
  have hjs:j<s:=by
   rcases p8 j s with h|h
   ·exact h
   ·rw[p9 (by omega)] at hj;cases hj
  have hk:i*s+j<m*s:=by
   have:(i+1)*s≤m*s:=pN _ (by omega)
   rw[pL] at this;omega
  refine⟨f (i*s+j),by simp[hk],(hf _ hk).2.1,(hf _ hk).2.2 x ?_⟩
  have e1:(i*s+j) / s=i:=by rw[Nat.mul_comm,Nat.mul_add_div hs,Nat.div_eq_of_lt hjs];rfl
  have e2:(i*s+j) % s=j:=by rw[Nat.mul_comm,Nat.mul_add_mod,Nat.mod_eq_of_lt hjs]
  rw[e1,e2,pD,hi];exact hj
theorem RowsInI.up{s:Nat}{es:List (List AVal)}{arr:Array Value}(h:RowsInI I w s 0 es arr):RowsIn I β n w s 0 es arr:=
 ⟨h.1,h.2.1,fun i r j x hi hj=>by
  obtain⟨v,h1,h2,h3⟩:=h.2.2 i r j x hi hj
  exact⟨v,h1,h2,.imm _ _ h3⟩⟩
mutual
theorem kn:∀ (x:AVal) {y:AVal},x.imm=some y→∀ {v:Value},Rep I β n w x v→RepI I w y v
 |.any,y,h,v,hr=>by simp[AVal.imm] at h
 |.bool b,y,h,v,hr=>by simp only[AVal.imm,p0] at h;subst h;cases hr;assumption
 |.int k m,y,h,v,hr=>by simp only[AVal.imm,p0] at h;subst h;cases hr;assumption
 |.str l,y,h,v,hr=>by simp only[AVal.imm,p0] at h;subst h;cases hr;assumption
 |.val u,y,h,v,hr=>by simp only[AVal.imm,p0] at h;subst h;cases hr;assumption
 |.isl s es f,y,h,v,hr=>by simp only[AVal.imm,p0] at h;subst h;cases hr;assumption
 |.iptr s es i off,y,h,v,hr=>by simp only[AVal.imm,p0] at h;subst h;cases hr;assumption
 |.osl tok s es,y,h,v,hr=>by
  simp only[AVal.imm,p0] at h
  subst h
  cases hr with
  |imm _ _ hr=>cases hr
  |osl _ _ _ _ _ hr=>exact hr
 |.ptr b i off,y,h,v,hr=>by simp[AVal.imm] at h
 |.msl b s off len f,y,h,v,hr=>by simp[AVal.imm] at h
 |.map b,y,h,v,hr=>by simp[AVal.imm] at h
 |.optp b,y,h,v,hr=>by simp[AVal.imm] at h
 |.cnd p x,y,h,v,hr=>by simp[AVal.imm] at h
 |.agg cs,y,h,v,hr=>by
  simp only[AVal.imm,p3] at h
  obtain⟨ds,hd,rfl⟩:=h
  obtain⟨vs,rfl,h1,h2,h3⟩:=hr.agg_inv
  obtain⟨k1,k2⟩:=u9 cs hd
  exact .agg ds vs (by omega) h2 (fun i y v hy hv=>k2 i y v hy (fun x hx=>h3 i x v hx hv))
 |.tup cs,y,h,v,hr=>by
  simp only[AVal.imm,p3] at h
  obtain⟨ds,hd,rfl⟩:=h
  obtain⟨k1,k2⟩:=u9 cs hd
  have:∃vs,v=.tuple vs∧vs.size=cs.length∧∀ (i:Nat) (y:AVal) (u:Value),cs[i]?=some y→vs[i]?=some u→Rep I β n w y u:=by
   cases hr with
   |tup _ vs h1 h2=>exact⟨vs,rfl,h1,h2⟩
   |imm _ _ hx=>
    cases hx with
    |tup _ vs h1 h2=>exact⟨vs,rfl,h1,fun i y u hy hu=>.imm _ _ (h2 i y u hy hu)⟩
  obtain⟨vs,rfl,h1,h3⟩:=this
  exact .tup ds vs (by omega) (fun i y v hy hv=>k2 i y v hy (fun x hx=>h3 i x v hx hv))
 |.fn f a c,y,h,v,hr=>by
  simp only[AVal.imm] at h
  split at h<;>try (cases h;done)
  rename_i a' c' ha hc
  simp only[p0] at h
  subst h
  obtain⟨k1,k2⟩:=u9 a ha
  obtain⟨l1,l2⟩:=u9 c hc
  have hfn:∃fs cs:Array Value,v=.func f fs cs∧fs.size=a.length∧cs.size=c.length∧(∀ (i:Nat) (x:AVal) (v:Value),a[i]?=some x→fs[i]?=some v→Rep I β n w x v)∧(∀ (i:Nat) (x:AVal) (v:Value),c[i]?=some x→cs[i]?=some v→Rep I β n w x v):=by
   cases hr with
   |fn _ _ _ fs cs h1 h2 h3 h4=>exact⟨fs,cs,rfl,h1,h2,h3,h4⟩
   |imm _ _ hr=>
    cases hr with
    |fn _ _ _ fs cs h1 h2 h3 h4=>exact⟨fs,cs,rfl,h1,h2,fun i x v p q=>.imm _ _ (h3 i x v p q),fun i x v p q=>.imm _ _ (h4 i x v p q)⟩
  obtain⟨fs,cs,rfl,h1,h2,h3,h4⟩:=hfn
  exact .fn f a' c' fs cs (by omega) (by omega) (fun i y v hy hv=>k2 i y v hy (fun x hx=>h3 i x v hx hv)) (fun i y v hy hv=>l2 i y v hy (fun x hx=>h4 i x v hx hv))
 |.ifc t x,y,h,v,hr=>by
  simp only[AVal.imm,p3] at h
  obtain⟨z,hz,rfl⟩:=h
  cases hr with
  |ifc _ _ u hr=>exact .ifc t z u (kn x hz hr)
  |imm _ _ hr=>
   cases hr with
   |ifc _ _ u hr=>exact .ifc t z u (kn x hz (.imm _ _ hr))
theorem u9:∀ (cs:List AVal) {ds:List AVal},AVal.imm.immL cs=some ds→ds.length=cs.length∧∀ (i:Nat) (y:AVal) (v:Value),ds[i]?=some y→(∀x,cs[i]?=some x→Rep I β n w x v)→RepI I w y v
 |[],ds,h=>by simp only[AVal.imm.immL,p0] at h;subst h;exact⟨rfl,fun i y v hy _=>by simp at hy⟩
 |x::cs,ds,h=>by
  simp only[AVal.imm.immL] at h
  split at h<;>try (cases h;done)
  rename_i y l hy hl
  simp only[p0] at h
  subst h
  obtain⟨k1,k2⟩:=u9 cs hl
  refine⟨by simp[k1],fun i z v hz hv=>?_⟩
  cases i with
  |zero=>simp only[pW,p0] at hz;subst hz;exact kn x hy (hv x rfl)
  |succ i=>exact k2 i z v (by simpa using hz) (fun x hx=>hv x (by simpa using hx))
end
theorem Yl:∀ {es es':List (List AVal)},wq es=some es'→es'.length=es.length∧∀ (i:Nat) (r r':List AVal),es[i]?=some r→es'[i]?=some r'→AVal.imm.immL r=some r'
 |[],es',h=>by simp only[wq,p0] at h;subst h;exact⟨rfl,fun i r r' hr _=>by simp at hr⟩
 |r::rs,es',h=>by
  simp only[wq] at h
  split at h<;>try (cases h;done)
  rename_i y l hy hl
  simp only[p0] at h
  subst h
  obtain⟨k1,k2⟩:=Yl hl
  refine⟨by simp[k1],fun i a b ha hb=>?_⟩
  cases i with
  |zero=>simp only[pW,p0] at ha hb;subst ha;subst hb;exact hy
  |succ i=>exact k2 i a b (by simpa using ha) (by simpa using hb)
theorem z48{es es':List (List AVal)}(m:Nat)(h:wq es=some es'):wq (es.take m)=some (es'.take m):=by
 induction es generalizing es' m with
 |nil=>simp only[wq,p0] at h;subst h;simp[wq]
 |cons r rs ih=>
  simp only[wq] at h
  split at h<;>try (cases h;done)
  rename_i y l hy hl
  simp only[p0] at h
  subst h
  cases m with
  |zero=>simp[wq]
  |succ m=>simp only[List.take_succ_cons,wq,hy,ih m hl]
theorem z15{s base:Nat}{es es':List (List AVal)}{arr:Array Value}(h:RowsIn I β n w s base es arr)(he:wq es=some es'):RowsInI I w s base es' arr:=by
 obtain⟨h1,h2,h3⟩:=h
 obtain⟨k1,k2⟩:=Yl he
 have back:∀ (i:Nat) (r':List AVal),es'[i]?=some r'→∃r,es[i]?=some r∧AVal.imm.immL r=some r':=by
  intro i r' hr'
  have hlt:i<es.length:=by
   rcases p8 i es'.length with h|h
   ·omega
   ·rw[p9 h] at hr';cases hr'
  exact⟨es[i],p4 hlt,k2 i _ r' (p4 hlt) hr'⟩
 refine⟨by rw[k1];exact h1,fun i r' hr'=>?_,fun i r' j y hr' hy=>?_⟩
 ·obtain⟨r,hr,hi⟩:=back i r' hr'
  rw[(u9 (I:=I) (β:=β) (n:=n) (w:=w) r hi).1];exact h2 i r hr
 ·obtain⟨r,hr,hi⟩:=back i r' hr'
  obtain⟨l1,l2⟩:=u9 (I:=I) (β:=β) (n:=n) (w:=w) r hi
  have hlt:j<r.length:=by
   rcases p8 j r'.length with h|h
   ·omega
   ·rw[p9 h] at hy;cases hy
  obtain⟨v,g1,g2,g3⟩:=h3 i r j r[j] hr (p4 hlt)
  refine⟨v,g1,g2,l2 j y v hy (fun x hx=>?_)⟩
  rw[p4 hlt] at hx
  simp only[p0] at hx
  rw[←hx];exact g3
theorem zkn(l:List UInt8)(m:Nat)(hm':m≤l.length):(Builtin.firstCells 1 m (.string ⟨⟨l⟩⟩)).run P w=.ok ((l.take m).map fun b=>Value.int .u8 (b.toNat:Int)).toArray w ∧
 RowsInI I w 1 0 ((l.map fun c=>[AVal.int .u8 (c.toNat:Int)]).take m) ((l.take m).map fun b=>Value.int .u8 (b.toNat:Int)).toArray:=by
 have e1:((⟨⟨l⟩⟩:ByteArray).extract 0 m).data.map (fun b=>Value.int .u8 (b.toNat:Int))=((l.take m).map fun b=>Value.int .u8 (b.toNat:Int)).toArray:=by
  rw[W4];simp
 refine⟨by simp only[Builtin.firstCells,p5,e1],?_,?_,?_⟩
 ·simp
 ·intro i r hi
  rw[←List.map_take,pU] at hi
  cases hl:(l.take m)[i]? with
  |none=>rw[hl] at hi;cases hi
  |some c=>rw[hl] at hi;simp at hi;rw[←hi];rfl
 ·intro i r j x hi hj
  rw[←List.map_take,pU] at hi
  cases hl:(l.take m)[i]? with
  |none=>rw[hl] at hi;cases hi
  |some c=>
   rw[hl] at hi
   simp at hi
   subst hi
   cases j with
   |succ j=>simp at hj
   |zero=>
    simp at hj
    subst hj
    exact⟨.int .u8 (c.toNat:Int),by rw[List.getElem?_toArray,pU];simp only[Nat.zero_add,Nat.mul_one,pY,hl,pM],rfl,.int _ _⟩
theorem vu(hI:Inv I β n H w){s:Nat}(hs:0<s){x:AVal}{v:Value}(hx:Rep I β n w x v){p:Prop}{rows:List (List AVal)}(h:ui H s x=some (p,rows))(hp:p) :
 (Builtin.lenOf v).run P w=.ok rows.length w∧∀m,m≤rows.length→∃arr,(Builtin.firstCells s m v).run P w=.ok arr w∧arr.size=m*s∧(∀u∈arr.toList,qm u=true)∧RowsIn I β n w s 0 (rows.take m) arr ∧
  ∀rows',Vs x rows=some rows'→RowsInI I w s 0 (rows'.take m) arr:=by
 have isl:∀ {s':Nat} {es:List (List AVal)} {f:Bool} {v:Value},RepI I w (.isl s' es f) v→s'=s→(Builtin.lenOf v).run P w=.ok es.length w∧∀m,m≤es.length→∃arr,(Builtin.firstCells s m v).run P w=.ok arr w∧arr.size=m*s∧(∀u∈arr.toList,qm u=true)∧RowsInI I w s 0 (es.take m) arr:=by
  intro s' es f v hx hp
  subst hp
  cases hx with
  |islNil=>exact⟨rfl,fun m hm=>⟨#[],rfl,by simp at hm;simp[hm],by simp,by simp[RowsInI]⟩⟩
  |islEmpty _ _ ad cap _=>
   refine⟨rfl,fun m hm=>?_⟩
   have:m=0:=by simpa using hm
   subst this
   exact⟨#[],by simp[Builtin.firstCells,loadCells,loadCellsFrom],by simp,by simp,by simp[RowsInI]⟩
  |isl _ _ _ b o cap vf hb hcap hf hlen hcell hic hrep=>
   refine⟨rfl,fun m hm=>?_⟩
   exact z9m (R:=RepI I w) hs b o es hlen (fun i r j x hi hj=>⟨_,hcell i r j x hi hj,hic i r j x hi hj,hrep i r j x hi hj⟩) m hm
 cases x<;>simp only[ui] at h<;>try (cases h;done)
 case isl s' es f=>
  simp only[p0,pT] at h
  obtain⟨rfl,rfl⟩:=h
  cases hx with
  |imm _ _ hx=>
   obtain⟨k1,k2⟩:=isl hx hp
   refine⟨k1,fun m hm=>?_⟩
   obtain⟨arr,g1,g2,g3,g4⟩:=k2 m hm
   exact⟨arr,g1,g2,g3,g4.up,fun rows' hr=>by simp only[Vs,p0] at hr;subst hr;exact g4⟩
 case osl tok s' es=>
  simp only[p0,pT] at h
  obtain⟨rfl,rfl⟩:=h
  have hx':RepI I w (.isl s' es false) v:=by
   cases hx with
   |imm _ _ hx=>cases hx
   |osl _ _ _ _ _ hx=>exact hx
  obtain⟨k1,k2⟩:=isl hx' hp
  refine⟨k1,fun m hm=>?_⟩
  obtain⟨arr,g1,g2,g3,g4⟩:=k2 m hm
  exact⟨arr,g1,g2,g3,g4.up,fun rows' hr=>by simp only[Vs,p0] at hr;subst hr;exact g4⟩
 case msl b s' off len f=>
  split at h<;>try (cases h;done)
  rename_i s'' es hb
  simp only[p0,pT] at h
  obtain⟨rfl,rfl⟩:=h
  obtain⟨rfl,rfl,hlen0⟩:=hp
  obtain⟨c,hc,hcs,_,_,_,hbase,hlen,hcell⟩:=hI.blocks b _ hb
  have hrl:((es.drop off).take len).length=len:=by simp;omega
  rw[hrl]
  cases hx with
  |imm _ _ hx=>cases hx
  |msl _ _ _ _ _ ad cap hbn hcap hf hp=>
   refine⟨rfl,fun m hm=>?_⟩
   by_cases hcz:cap=0
   ·have:m=0:=by omega
    subst this
    exact⟨#[],by cases ad<;>simp[Builtin.firstCells,loadCells,loadCellsFrom],by simp,by simp,by simp[RowsIn],fun _ _=>by simp[RowsInI]⟩
   ·obtain⟨g1,g2⟩:=(hp c hc).2 hcz
    subst g1
    replace hcap:=hcap.1
    have hget:∀ (i:Nat) (r:List AVal),((es.drop off).take len)[i]?=some r→es[off+i]?=some r:=by
     intro i r hi
     rw[List.getElem?_take] at hi
     split at hi
     ·rwa [pH] at hi
     ·cases hi
    obtain⟨arr,k1,k2,k3,k4⟩:=z9m (R:=Rep I β n w) (P:=P) hs c.blk (c.base+off*s'') ((es.drop off).take len) (fun i r hi=>hlen _ r (hget i r hi)) (fun i r j x hi hj=>by
     obtain⟨v,k1,k2,k3⟩:=hcell (off+i) r j x (hget i r hi) hj
     refine⟨v,?_,k2,k3⟩
     rw[←k1,pL,pK c.base]) m (by omega)
    exact⟨arr,k1,k2,k3,k4,fun rows' hr=>z15 k4 (z48 m hr)⟩
 case val u=>
  split at h<;>(try (rename_i heq;cases heq;done))<;>try (cases h;done)
  rename_i heq
  cases heq
  simp only[p0,pT] at h
  obtain⟨_,rfl⟩:=h
  obtain rfl:=hx.val_inv
  exact⟨rfl,fun m hm=>⟨#[],rfl,by simp at hm;simp[hm],by simp,by simp[RowsIn],fun rows' hr=>by simp only[Vs,p0] at hr;subst hr;simp[RowsInI]⟩⟩
 case str l=>
  simp only[p0,pT] at h
  obtain⟨rfl,rfl⟩:=h
  subst hp
  obtain rfl:=hx.str_inv
  refine⟨by simp[Builtin.lenOf];rfl,fun m hm=>?_⟩
  have hm':m≤l.length:=by simpa using hm
  obtain⟨g1,g2⟩:=zkn (P:=P) (w:=w) (I:=I) l m hm'
  refine⟨_,g1,by simp;omega,?_,g2.up,fun rows' hr=>by simp only[Vs,p0] at hr;subst hr;exact g2⟩
  intro u hu
  simp only[List.mem_map] at hu
  obtain⟨b,_,rfl⟩:=hu
  rfl
end
end Go.Fx
