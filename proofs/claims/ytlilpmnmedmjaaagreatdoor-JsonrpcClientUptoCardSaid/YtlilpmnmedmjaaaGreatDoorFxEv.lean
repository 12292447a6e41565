/-
  Own framework.
-/
import Derived.Test.YtlilpmnmedmjaaaGreatDoorFxM2
namespace Go.Fx
set_option linter.unusedVariables false
inductive Tr(α:Type) where
 |nil
 |nd (v:Option α) (l r:Tr α)
namespace Tr
variable {α:Type}
def get:Tr α→Nat→Option α
 |.nil,_=>none
 |.nd v l r,k=>match Nat.beq k 0 with
  |true=>v
  |false=>match Nat.beq (k % 2) 1 with
   |true=>get l (k / 2)
   |false=>get r (k / 2-1)
def put:Nat→Tr α→Nat→Option α→Option (Tr α)
 |0,_,_,_=>none
 |d+1,.nil,k,x=>match Nat.beq k 0 with
  |true=>some (.nd x .nil .nil)
  |false=>match Nat.beq (k % 2) 1 with
   |true=>match put d .nil (k / 2) x with|some l=>some (.nd none l .nil)|none=>none
   |false=>match put d .nil (k / 2-1) x with|some r=>some (.nd none .nil r)|none=>none
 |d+1,.nd v l r,k,x=>match Nat.beq k 0 with
  |true=>some (.nd x l r)
  |false=>match Nat.beq (k % 2) 1 with
   |true=>match put d l (k / 2) x with|some l=>some (.nd v l r)|none=>none
   |false=>match put d r (k / 2-1) x with|some r=>some (.nd v l r)|none=>none
end Tr
def ikn:IntKind→Nat
 |.i8=>0|.i16=>1|.i32=>2|.i64=>3|.u8=>4|.u16=>5|.u32=>6|.u64=>7
def z3g(a b:IntKind):Bool:=Nat.beq (ikn a) (ikn b)
def ck(p:Bool)(v:AVal):Option AVal:=match p with|true=>some v|false=>none
def ile(a b:Int):Bool:=decide (a≤b)
def ilt(a b:Int):Bool:=decide (a<b)
def y1u(op:BinOp):AVal→AVal→Option AVal
 |.int k a,.int k' b=>match op with
  |.add=>ck (z3g k k') (.int k (k.wrap (a+b)))
  |.sub=>ck (z3g k k') (.int k (k.wrap (a-b)))
  |.mul=>ck (z3g k k') (.int k (k.wrap (a*b)))
  |.quo=>ck (z3g k k'&&!(decide (b=0))) (.int k (k.wrap (a.tdiv b)))
  |.rem=>ck (z3g k k'&&!(decide (b=0))) (.int k (a.tmod b))
  |.and=>ck (z3g k k') (.int k (V8 .and k a b))
  |.or=>ck (z3g k k') (.int k (V8 .or k a b))
  |.xor=>ck (z3g k k') (.int k (V8 .xor k a b))
  |.andNot=>ck (z3g k k') (.int k (V8 .andNot k a b))
  |.shl=>ck (ile 0 b) (.int k (k.wrap (a*2 ^ (min b.toNat k.bits))))
  |.shr=>ck (ile 0 b) (.int k (a.fdiv (2 ^ (min b.toNat k.bits))))
  |.eql=>ck (z3g k k') (.bool (a==b))
  |.neq=>ck (z3g k k') (.bool (a != b))
  |.lss=>ck (z3g k k') (.bool (decide (a<b)))
  |.leq=>ck (z3g k k') (.bool (decide (a≤b)))
  |.gtr=>ck (z3g k k') (.bool (decide (a > b)))
  |.geq=>ck (z3g k k') (.bool (decide (a≥b)))
 |.str a,.str b=>match op with
  |.add=>ck (ile ((a.length+b.length:Nat):Int) 9223372036854775807) (.str (a++b))
  |.eql=>some (.bool (a==b))
  |.neq=>some (.bool (!(a==b)))
  |.lss=>some (.bool (Op.bytesLess a b))
  |.leq=>some (.bool (Op.bytesLess a b || a==b))
  |.gtr=>some (.bool (!(Op.bytesLess a b || a==b)))
  |.geq=>some (.bool (!(Op.bytesLess a b)))
  |_=>none
 |_,_=>none
def bun(op:UnOp):AVal→Option AVal
 |.bool b=>match op with
  |.not=>some (.bool (!b))
  |_=>none
 |.int k n=>match op with
  |.neg=>some (.int k (k.wrap (0-n)))
  |.xor=>some (.int k (V8 .xor k (if k.signed then -1 else k.max) n))
  |_=>none
 |_=>none
def zso:AVal→AVal→Option Bool
 |.val (.pointer none),.val (.pointer none)=>some true
 |.val (.pointer none),.ptr _ _ _=>some false
 |.ptr _ _ _,.val (.pointer none)=>some false
 |.val (.pointer none),.iptr _ _ _ _=>some false
 |.iptr _ _ _ _,.val (.pointer none)=>some false
 |_,_=>none
def zw3:AVal→AVal→Option Bool
 |.val (.slice none 0 0),.val (.slice none 0 0)=>some true
 |.val (.slice none 0 0),.msl _ _ _ len _=>match Nat.beq len 0 with|true=>none|false=>some false
 |.msl _ _ _ len _,.val (.slice none 0 0)=>match Nat.beq len 0 with|true=>none|false=>some false
 |.val (.slice none 0 0),.isl _ es _=>match es with|[]=>none|_::_=>some false
 |.isl _ es _,.val (.slice none 0 0)=>match es with|[]=>none|_::_=>some false
 |_,_=>none
def ztg:AVal→AVal→Option Bool
 |.val (.map none),.val (.map none)=>some true
 |.val (.map none),.map _=>some false
 |.map _,.val (.map none)=>some false
 |_,_=>none
def zcb:CK→AVal→AVal→Option Bool
 |.int,.int k a,.int k' b=>match z3g k k' with|true=>some (a==b)|false=>none
 |.str,.str a,.str b=>some (a==b)
 |.bool,.bool a,.bool b=>some (a==b)
 |_,_,_=>none
def Y7:List CK→List AVal→List AVal→Option Bool
 |[],[],[]=>some true
 |k::ks,x::xs,y::ys=>match zcb k x y with
  |some a=>match Y7 ks xs ys with
   |some b=>some (a&&b)
   |none=>none
  |none=>none
 |_,_,_=>none
def zj3:AVal→AVal→Option Bool
 |.val .nilIface,.val .nilIface=>some true
 |.ifc _ _,.val .nilIface=>some false
 |_,_=>none
def zmk:AVal→AVal→Option Bool
 |.val .nilFunc,.val .nilFunc=>some true
 |.fn _ _ _,.val .nilFunc=>some false
 |_,_=>none
def y2e(k:EqK)(x y:AVal):Option Bool:=
 match k with
 |.bool=>match x,y with
  |.bool a,.bool b=>some (a==b)
  |_,_=>none
 |.ptr=>zso x y
 |.slice=>zw3 x.rd y.rd
 |.map=>ztg x y
 |.agg ks=>match x,y with
  |.agg cs,.agg ds=>Y7 ks cs ds
  |_,_=>none
 |.ifc=>zj3 x y
 |.fnc=>zmk x y
 |_=>none
def y29(neg:Bool)(k:EqK)(x y:AVal):Option AVal:=match y2e k x y with
 |some b=>some (.bool (if neg then !b else b))
 |none=>none
abbrev Hp:=Id→Option ABlock
def z2z(agg:Bool)(n:Nat)(h:Hp):AVal→Option AVal
 |.iptr s es i off=>ck (Nat.ble (i+1) es.length&&Nat.ble (off+n) s) (xh agg n off (es.getD i []))
 |.ptr b i off=>match h b with
  |some (.rows s es)=>ck (Nat.ble (i+1) es.length&&Nat.ble (off+n) s) (xh agg n off (es.getD i []))
  |some (.one cs)=>ck (Nat.beq i 0&&Nat.ble (off+n) cs.length) (xh agg n off cs)
  |_=>none
 |_=>none
def ziu(off:Nat):AVal→Option AVal
 |.iptr s es i o=>some (.iptr s es i (o+off))
 |.ptr b i o=>some (.ptr b i (o+off))
 |_=>none
def zns(agg:Bool)(n off:Nat):AVal→Option AVal
 |.agg cs=>ck (Nat.ble (off+n) cs.length) (xh agg n off cs)
 |_=>none
def zfh(s:Nat):AVal→AVal→Option AVal
 |.isl s' es _,.int _ j=>ck (Nat.beq s s'&&ile 0 j&&ilt j (es.length:Int)) (.iptr s' es j.toNat 0)
 |.msl b s' off len _,.int _ j=>ck (Nat.beq s s'&&ile 0 j&&ilt j (len:Int)) (.ptr b (off+j.toNat) 0)
 |_,_=>none
def zbl(len s:Nat):AVal→AVal→Option AVal
 |.iptr s' es i o,.int _ j=>ck (ile 0 j&&ilt j (len:Int)) (.iptr s' es i (o+j.toNat * s))
 |.ptr b i o,.int _ j=>ck (ile 0 j&&ilt j (len:Int)) (.ptr b i (o+j.toNat * s))
 |_,_=>none
def Uc(len s:Nat)(h:Hp):AVal→AVal→Option AVal
 |.ptr b i 0,.int _ j=>match h b with
  |some (.rows s' _)=>ck (Nat.beq s s'&&ile 0 j&&ilt j (len:Int)) (.ptr b (i+j.toNat) 0)
  |_=>none
 |_,_=>none
def zh9(len s:Nat)(h:Hp):AVal→Option AVal
 |.ptr b i 0=>match h b with
  |some (.rows s' es)=>ck (Nat.beq s s'&&Nat.ble (i+len) es.length) (.msl b s i len true)
  |_=>none
 |_=>none
def zvm:AVal→AVal→Option AVal
 |.str l,.int _ j=>ck (ile 0 j&&ilt j (l.length:Int)) (.int .u8 ((l.getD j.toNat 0).toNat:Int))
 |_,_=>none
def zxk(len s:Nat)(agg:Bool):AVal→AVal→Option AVal
 |.agg cs,.int _ j=>ck (ile 0 j&&ilt j (len:Int)&&Nat.ble ((j.toNat * s)+s) cs.length) (xh agg s (j.toNat * s) cs)
 |_,_=>none
def y2s(k:Nat):AVal→Option AVal
 |.tup cs=>ck (Nat.ble (k+1) cs.length) (cs.getD k .any)
 |_=>none
def zvh:AVal→Option AVal
 |.str l=>some (.int .i64 (l.length:Int))
 |_=>none
def zqe:AVal→Option AVal
 |.isl _ es _=>some (.int .i64 (es.length:Int))
 |.msl _ _ _ len _=>some (.int .i64 (len:Int))
 |.val (.slice none 0 0)=>some (.int .i64 0)
 |_=>none
def zov:AVal→Option AVal
 |.iptr s es i o=>some (.iptr s es i o)
 |.ptr b i o=>some (.ptr b i o)
 |.fn (.func f) a c=>some (.fn (.func f) a c)
 |_=>none
def uy(g:Nat→AVal):LOpd→Option AVal
 |.t i=>match g i with
  |.cnd true v=>some v
  |.cnd false _=>none
  |v=>some v
 |.c v=>some v
def z5q(g:Nat→AVal):List LOpd→Option (List AVal)
 |[]=>some []
 |x::r=>match uy g x with
  |some a=>match z5q g r with
   |some l=>some (a::l)
   |none=>none
  |none=>none
def Xi(g:Nat→AVal)(d:Nat):Option LOpd→Option Int
 |none=>some d
 |some x=>match uy g x with
  |some (.int _ j)=>some j
  |_=>none
def zhv(g:Nat→AVal)(lo hi:Option LOpd):AVal→Option AVal
 |.str l=>match Xi g 0 lo,Xi g l.length hi with
  |some a,some b=>ck (ile 0 a&&ile a b&&ile b (l.length:Int)) (.str ((l.take b.toNat).drop a.toNat))
  |_,_=>none
 |_=>none
def zun(g:Nat→AVal)(s:Nat)(lo hi mx:Option LOpd):AVal→Option AVal
 |.isl s' es f=>match Xi g 0 lo,Xi g es.length hi with
  |some a,some b=>match mx with
   |none=>ck (Nat.beq s s'&&ile 0 a&&ile a b&&ile b (es.length:Int)) (.isl s' ((es.take b.toNat).drop a.toNat) (f&&decide (b=(es.length:Int))))
   |some m=>match Xi g 0 (some m) with
    |some m=>ck (Nat.beq s s'&&ile 0 a&&ile a b&&ile b m&&ile m (es.length:Int)) (.isl s' ((es.take b.toNat).drop a.toNat) (decide (m=b)))
    |none=>none
  |_,_=>none
 |.msl id s' off len f=>match Xi g 0 lo,Xi g len hi with
  |some a,some b=>match mx with
   |none=>ck (Nat.beq s s'&&ile 0 a&&ile a b&&ile b (len:Int)) (.msl id s' (off+a.toNat) (b.toNat-a.toNat) (f&&decide (b=(len:Int))))
   |some m=>match Xi g 0 (some m) with
    |some m=>ck (Nat.beq s s'&&ile 0 a&&ile a b&&ile b m&&ile m (len:Int)) (.msl id s' (off+a.toNat) (b.toNat-a.toNat) (decide (m=b)))
    |none=>none
  |_,_=>none
 |.val (.slice none 0 0)=>match Xi g 0 lo,Xi g 0 hi,mx with
  |some a,some b,none=>ck (decide (a=0)&&decide (b=0)) (.val (.slice none 0 0))
  |_,_,_=>none
 |_=>none
def z7f(cells:List AVal):List (Nat×Nat×AVal)→Option AVal
 |[]=>some (.agg cells)
 |(off,n,x)::r=>match x.cells? with
  |some cs=>match Nat.beq cs.length n&&Nat.ble (off+n) cells.length with
   |true=>z7f (kj cells off cs) r
   |false=>none
  |none=>none
def z7w(g:Nat→AVal):List (Nat×Nat×LOpd)→Option (List (Nat×Nat×AVal))
 |[]=>some []
 |(o,n,x)::r=>match uy g x with
  |some a=>match z7w g r with
   |some l=>some ((o,n,a)::l)
   |none=>none
  |none=>none
def zwb(isMax:Bool):AVal→List AVal→Option AVal
 |v,[]=>some v
 |.int k a,.int k' b::r=>match z3g k k' with
  |true=>zwb isMax (.int k (if isMax then(if b > a then b else a) else(if b<a then b else a))) r
  |false=>none
 |_,_=>none
def zw4(isMax:Bool):List AVal→Option AVal
 |.int k a::r=>zwb isMax (.int k a) r
 |_=>none
def z4o(ks:List CK)(ka:Bool)(k:AVal):Bool:=(match ka,uw k with|true,true=>true|false,false=>true|_,_=>false)&&(Y7 ks (xv k) (xv k)).isSome
def z7n(ks:List CK)(k k':AVal):Option Bool:=match uw k,uw k' with
 |true,true=>Y7 ks (xv k) (xv k')
 |false,false=>Y7 ks (xv k) (xv k')
 |_,_=>none
def ze7(ks:List CK)(k:AVal):List (AVal×AVal)→Option (Option AVal)
 |[]=>some none
 |(k',x)::r=>match z7n ks k k' with
  |some true=>some (some x)
  |some false=>ze7 ks k r
  |none=>none
def zr6(ks:List CK)(k x:AVal):List (AVal×AVal)→Option (List (AVal×AVal))
 |[]=>some [(k,x)]
 |(k',y)::r=>match z7n ks k k' with
  |some true=>some ((k,x)::r)
  |some false=>match zr6 ks k x r with|some l=>some ((k',y)::l)|none=>none
  |none=>none
def zed(ks:List CK)(k:AVal):List (AVal×AVal)→Option (List (AVal×AVal))
 |[]=>some []
 |(k',y)::r=>match z7n ks k k' with
  |some true=>some r
  |some false=>match zed ks k r with|some l=>some ((k',y)::l)|none=>none
  |none=>none
def z3n(ks:List CK)(ka g ok:Bool)(zs:List AVal)(h:Hp)(k:AVal):AVal→Option AVal
 |.val (.map none)=>ck (z4o ks ka k) (zhg g ok zs none)
 |.map b=>match h b with
  |some (.amap es)=>match z4o ks ka k with
   |true=>match ze7 ks k es with
    |some r=>some (zhg g ok zs r)
    |none=>none
   |false=>none
  |_=>none
 |_=>none
def zhf(h:Hp):AVal→Option AVal
 |.val (.map none)=>some (.int .i64 0)
 |.map b=>match h b with
  |some (.amap es)=>some (.int .i64 (es.length:Int))
  |_=>none
 |_=>none
def zcf(g:Nat→AVal)(h:Hp):LOp→Option AVal
 |.mv x=>uy g x
 |.pick c a b=>match uy g c with
  |some (.bool true)=>uy g a
  |some (.bool false)=>uy g b
  |_=>none
 |.build zs parts=>(z7w g parts).bind (z7f zs)
 |.load ag n a=>(uy g a).bind (z2z ag n h)
 |.nilck x=>(uy g x).bind zov
 |.bin op x y=>(uy g x).bind fun a=>(uy g y).bind fun b=>y1u op a b
 |.eq neg k x y=>(uy g x).bind fun a=>(uy g y).bind fun b=>y29 neg k a b
 |.un op x=>(uy g x).bind (bun op)
 |.conv (.int k) x=>match uy g x with
  |some (.int _ n)=>some (.int k (k.wrap n))
  |_=>none
 |.conv .same x=>match uy g x with
  |some (.str l)=>some (.str l)
  |_=>none
 |.mkfn f a c=>(z5q g a).bind fun a=>(z5q g c).bind fun c=>some (.fn f a c)
 |.slStr x lo hi=>(uy g x).bind (zhv g lo hi)
 |.slSl s x lo hi mx=>(uy g x).bind (zun g s lo hi mx)
 |.slAr n s x=>(uy g x).bind (zh9 n s h)
 |.faddr off x=>(uy g x).bind (ziu off)
 |.field ag n off x=>(uy g x).bind (zns ag n off)
 |.iaddr s x i=>(uy g x).bind fun a=>(uy g i).bind fun b=>zfh s a.rd b
 |.iaddrA n s x i=>(uy g x).bind fun a=>(uy g i).bind fun b=>zbl n s a b
 |.iaddrR n s x i=>(uy g x).bind fun a=>(uy g i).bind fun b=>Uc n s h a b
 |.idxS x i=>(uy g x).bind fun a=>(uy g i).bind fun b=>zvm a b
 |.idxA n s ag x i=>(uy g x).bind fun a=>(uy g i).bind fun b=>zxk n s ag a b
 |.ext k x=>(uy g x).bind (y2s k)
 |.len true x=>(uy g x).bind zvh
 |.len false x=>(uy g x).bind fun a=>zqe a.rd
 |.mnx m args=>(z5q g args).bind (zw4 m)
 |.mlook ks ka ag ok zs x k=>(uy g x).bind fun a=>(uy g k).bind fun b=>z3n ks ka ag ok zs h b a
 |.mlen x=>(uy g x).bind (zhf h)
 |_=>none
structure Sh where
 t:Tr ABlock
 n:Nat
def hix(id:Id):Option Nat:=match id.2 with
 |0=>some (2*id.1)
 |1=>some (2*id.1+1)
 |_=>none
def Tr.at(t:Tr ABlock):Hp:=fun id=>match hix id with
 |some k=>t.get k
 |none=>none
def Tr.sat(t:Tr ABlock)(id:Id)(b:Option ABlock):Option (Tr ABlock):=match hix id with
 |some k=>Tr.put 60 t k b
 |none=>none
def Sh.upd(S:Sh)(id:Id)(b:ABlock):Option Sh:=match S.t.sat id (some b) with
 |some t=>some ⟨t,S.n⟩
 |none=>none
def Sh.cut(S:Sh)(id:Id):Option Sh:=match S.t.sat id none with
 |some t=>some ⟨t,S.n⟩
 |none=>none
def Sh.new(S:Sh)(b:ABlock):Option Sh:=match S.t.sat (S.n,0) (some b) with
 |some t=>some ⟨t,S.n+1⟩
 |none=>none
def Sh.new2(S:Sh)(b c:ABlock):Option Sh:=match S.t.sat (S.n,0) (some b) with
 |some t=>match t.sat (S.n,1) (some c) with
  |some t=>some ⟨t,S.n+1⟩
  |none=>none
 |none=>none
abbrev Rs:=Option (AVal×Sh)
def Qv(v:AVal):Option Sh→Rs
 |some S=>some (v,S)
 |none=>none
def Ji(h:Hp)(s:Nat):AVal→Option (List (List AVal))
 |.isl s' es _=>match Nat.beq s' s with|true=>some es|false=>none
 |.osl _ s' es=>match Nat.beq s' s with|true=>some es|false=>none
 |.msl b s' off len _=>match h b with
  |some (.rows s'' es)=>match Nat.beq s' s&&Nat.beq s'' s&&Nat.ble (off+len) es.length with
   |true=>some ((es.drop off).take len)
   |false=>none
  |_=>none
 |.val (.slice none 0 0)=>some []
 |.str l=>match Nat.beq s 1 with
  |true=>some (l.map fun c=>[.int .u8 (c.toNat:Int)])
  |false=>none
 |_=>none
def U2:List (List AVal)→List (Nat×AVal)→Option (List (List AVal))
 |rows,[]=>some rows
 |rows,(i,x)::r=>match x.cells? with
  |some cs=>match Nat.beq cs.length ((rows.getD i []).length)&&Nat.ble (i+1) rows.length with
   |true=>U2 (rows.set i cs) r
   |false=>none
  |none=>none
def zxw(g:Nat→AVal):List (Nat×LOpd)→Option (List (Nat×AVal))
 |[]=>some []
 |(i,x)::r=>match uy g x with
  |some a=>match zxw g r with
   |some l=>some ((i,a)::l)
   |none=>none
  |none=>none
def z6h:List (List AVal)→Bool
 |[]=>true
 |[.int k _]::r=>z3g k .u8&&z6h r
 |_=>false
def y1w(s bytes:Nat)(S:Sh)(x:AVal)(rows2:List (List AVal)):Rs:=
 match x with
 |.val (.slice none 0 0)=>match rows2 with
  |[]=>some (.val (.slice none 0 0),S)
  |_=>match Nat.ble (rows2.length*bytes) 140737488355328 with
   |true=>Qv (.msl (S.n,0) s 0 rows2.length false) (S.new (.rows s rows2))
   |false=>none
 |.isl s' es f=>match Nat.beq s' s with
  |true=>match rows2 with
   |[]=>some (.isl s' es f,S)
   |_=>match f&&Nat.ble ((es.length+rows2.length)*bytes) 140737488355328 with
    |true=>Qv (.msl (S.n,0) s 0 (es.length+rows2.length) false) (S.new (.rows s (es++rows2)))
    |false=>none
  |false=>none
 |.msl b s' off len f=>match S.t.at b with
  |some (.rows s'' es)=>match Nat.beq s' s&&Nat.beq s'' s&&Nat.ble (off+len) es.length&&Nat.ble ((len+rows2.length)*bytes) 140737488355328 with
   |true=>match f,rows2 with
    |true,[]=>some (.msl b s' off len f,S)
    |true,_=>Qv (.msl (S.n,0) s 0 (len+rows2.length) false) (S.new (.rows s ((es.drop off).take len++rows2)))
    |false,_=>match S.cut b with
     |some S=>Qv (.msl (S.n,0) s 0 (len+rows2.length) false) (S.new (.rows s ((es.drop off).take len++rows2)))
     |none=>none
   |false=>none
  |_=>none
 |_=>none
def y1q(C:Nat→List AVal→Sh→Rs)(g:Nat→AVal)(S:Sh):LOp→Rs
 |.alloc zs=>Qv (.ptr (S.n,0) 0 0) (S.new (.one zs))
 |.allocR s zs=>Qv (.ptr (S.n,0) 0 0) (S.new (.rows s (Jl s (zs.length / s) zs)))
 |.allocB T el=>Qv (.ptr (S.n,0) 0 0) (S.new2 (.bld T (S.n,1)) (.buf el []))
 |.box x=>match uy g x with
  |some a=>match a.cells? with
   |some cs=>Qv (.ptr (S.n,0) 0 0) (S.new (.one cs))
   |none=>none
  |none=>none
 |.mkSl false s zs len parts=>match zxw g parts with
  |some ps=>match U2 (List.replicate len zs) ps with
   |some rows=>match Nat.beq zs.length s with
    |true=>Qv (.msl (S.n,0) s 0 len true) (S.new (.rows s rows))
    |false=>none
   |none=>none
  |none=>none
 |.mkSl true s zs len parts=>match zxw g parts with
  |some ps=>match U2 (List.replicate len zs) ps with
   |some rows=>match uc rows with
    |some rows'=>match Nat.beq zs.length s with
     |true=>some (.isl s (rows'.map (wm zs)) true,S)
     |false=>none
    |none=>none
   |none=>none
  |none=>none
 |.store m a x=>match uy g a with
  |some (.ptr b i off)=>match uy g x with
   |some y=>match y.cells? with
    |some cs=>match S.t.at b with
     |some (.rows s es)=>match Nat.beq cs.length m&&Nat.ble (i+1) es.length&&Nat.ble (off+m) s with
      |true=>Qv .any (S.upd b (.rows s (es.set i (kj (es.getD i []) off cs))))
      |false=>none
     |some (.one rs)=>match Nat.beq cs.length m&&Nat.beq i 0&&Nat.ble (off+m) rs.length with
      |true=>Qv .any (S.upd b (.one (kj rs off cs)))
      |false=>none
     |_=>none
    |none=>none
   |none=>none
  |_=>none
 |.conv (.s2b false) x=>match uy g x with
  |some (.str l)=>Qv (.msl (S.n,0) 1 0 l.length false) (S.new (.rows 1 (l.map fun c=>[.int .u8 (c.toNat:Int)])))
  |_=>none
 |.conv .b2s x=>match uy g x with
  |some (.str _)=>none
  |some a=>match Ji S.t.at 1 a with
   |some rows=>match z6h rows with
    |true=>some (.str (rows.map Ue),S)
    |false=>none
   |none=>none
  |none=>none
 |.mkslice false s bytes zs l c=>match uy g l,uy g c with
  |some (.int .i64 l'),some (.int .i64 c')=>match ile 0 l'&&ile l' c'&&ile (c'*bytes) 140737488355328 with
   |true=>Qv (.msl (S.n,0) s 0 l'.toNat (decide (c'=l'))) (S.new (.rows s (List.replicate l'.toNat (wm zs zs))))
   |false=>none
  |_,_=>none
 |.call f args=>match z5q g args with
  |some as=>C f as S
  |none=>none
 |.callv x args=>match uy g x with
  |some (.fn (.func f) first caps)=>match z5q g args with
   |some as=>C f (first++as++caps) S
   |none=>none
  |_=>none
 |.app false s bytes x y=>match uy g y with
  |some b=>match Ji S.t.at s b with
   |some rows2=>match uy g x with
    |some a=>y1w s bytes S a rows2
    |none=>none
   |none=>none
  |none=>none
 |.copy s x y=>match uy g x with
  |some (.msl b s' off len _)=>match uy g y with
   |some y=>match Ji S.t.at s y with
    |some rows2=>match S.t.at b with
     |some (.rows s'' es)=>match Nat.beq s' s&&Nat.beq s'' s&&Nat.ble (off+len) es.length with
      |true=>Qv (.int .i64 ((min rows2.length len:Nat):Int)) (S.upd b (.rows s (es.take off++rows2.take len++es.drop (off+min rows2.length len))))
      |false=>none
     |_=>none
    |none=>none
   |none=>none
  |_=>none
 |.mkmap none=>Qv (.map (S.n,0)) (S.new (.amap []))
 |.mset ks ka ag zs m k x=>match uy g m with
  |some (.map b)=>match uy g x with
   |some x=>match zxu ag zs x with
    |some y=>match S.t.at b with
     |some (.amap es)=>match uy g k with
      |some k=>match zr6 ks k y es with
       |some es'=>match z4o ks ka k with
        |true=>Qv .any (S.upd b (.amap es'))
        |false=>none
       |none=>none
      |none=>none
     |_=>none
    |none=>none
   |none=>none
  |_=>none
 |.mdel ks ka m k=>match uy g m with
  |some (.map b)=>match S.t.at b with
   |some (.amap es)=>match uy g k with
    |some k=>match zed ks k es with
     |some es'=>match z4o ks ka k with
      |true=>Qv .any (S.upd b (.amap es'))
      |false=>none
     |none=>none
    |none=>none
   |_=>none
  |_=>none
 |_=>none
-- equality of values, where it is seen at once
mutual
def y05:AVal→AVal→Bool
 |.bool a,.bool b=>a==b
 |.int k a,.int k' b=>z3g k k'&&decide (a=b)
 |.str a,.str b=>a==b
 |.ptr b i o,.ptr b' i' o'=>Nat.beq b.1 b'.1&&Nat.beq b.2 b'.2&&Nat.beq i i'&&Nat.beq o o'
 |.msl b s o l f,.msl b' s' o' l' f'=>Nat.beq b.1 b'.1&&Nat.beq b.2 b'.2&&Nat.beq s s'&&Nat.beq o o'&&Nat.beq l l'&&(f==f')
 |.map b,.map b'=>Nat.beq b.1 b'.1&&Nat.beq b.2 b'.2
 |.agg cs,.agg ds=>zhp cs ds
 |.tup cs,.tup ds=>zhp cs ds
 |.val (.pointer none),.val (.pointer none)=>true
 |.val (.slice none 0 0),.val (.slice none 0 0)=>true
 |.val (.map none),.val (.map none)=>true
 |.val (.nilIface),.val (.nilIface)=>true
 |.cnd p x,.cnd p' y=>(p==p')&&y05 x y
 |.isl s [] f,.isl s' [] f'=>Nat.beq s s'&&(f==f')
 |_,_=>false
def zhp:List AVal→List AVal→Bool
 |[],[]=>true
 |x::xs,y::ys=>y05 x y&&zhp xs ys
 |_,_=>false
end
def z8y(a:AVal)(want:Bool):Option Bool:=Z4 a want
abbrev Ev:=Tr AVal
def Ev.g(e:Ev)(t:Nat):AVal:=match Tr.get e t with|some v=>v|none=>.any
def Ev.p(e:Ev)(d:Option Nat)(v:AVal):Option Ev:=match d with
 |some d=>Tr.put 60 e d (some v)
 |none=>some e
def Wk(g:Nat→AVal)(h:Hp)(lo:LOper):Option AVal:=
 match lo.guard with
 |none=>zcf g h lo.op
 |some (q,want)=>match z8y (g q) want with
  |some true=>match zcf g h lo.op with
   |some v=>some (.cnd true v)
   |none=>none
  |some false=>some (.tup [])
  |none=>none
def zpr(C:Nat→List AVal→Sh→Rs)(g:Nat→AVal)(S:Sh)(lo:LOper):Rs:=
 match lo.guard with
 |none=>y1q C g S lo.op
 |some (q,want)=>match z8y (g q) want with
  |some true=>y1q C g S lo.op
  |some false=>some (.tup [],S)
  |none=>none
abbrev Es:=Option (Ev×Sh)
def zv3(C:Nat→List AVal→Sh→Rs):List LOper→Ev→Sh→Es
 |[],e,S=>some (e,S)
 |lo::os,e,S=>match ws lo.op with
  |true=>match Wk e.g S.t.at lo with
   |some v=>match e.p lo.dst v with
    |some e=>zv3 C os e S
    |none=>none
   |none=>none
  |false=>match zpr C e.g S lo with
   |some (v,S)=>match e.p lo.dst v with
    |some e=>zv3 C os e S
    |none=>none
   |none=>none
def LOper.bsees(lo:LOper)(e:Ev):Env:=lo.looks.map fun t=>(t,e.g t)
def z2p(h:Hp)(loose:List Nat):List (Nat×LOper×Env×AVal)→Bool
 |[]=>true
 |(p,lo,e,v)::r=>(match loose.contains p with
  |true=>match Wk e.get h lo with
   |some u=>y05 u v
   |none=>false
  |false=>true)&&z2p h loose r
def zb4(C:Nat→List AVal→Sh→Rs):List DItem→Nat→List (Nat×LOper×Env×AVal)→Ev→Sh→Es
 |[],_,_,e,S=>some (e,S)
 |it::rest,p,done,e,S=>match ws it.lo.op with
  |true=>match Wk (it.lo.bsees e).get S.t.at it.lo with
   |some v=>match e.p it.lo.dst v with
    |some e'=>zb4 C rest (p+1) (if Zc it.lo.op then(p,it.lo,it.lo.bsees e,v)::done else done) e' S
    |none=>none
   |none=>none
  |false=>match zpr C (it.lo.bsees e).get S it.lo with
   |some (v,S)=>match z2p S.t.at it.loose done with
    |true=>match e.p it.lo.dst v with
     |some e=>zb4 C rest (p+1) done e S
     |none=>none
    |false=>none
   |none=>none
abbrev Cs:=Option (Exit×Ev×Sh)
def y12:Es→Cs
 |some (e,S)=>some (.normal,e,S)
 |none=>none
def ztb:Option AVal→Option AVal→Bool
 |some (.ptr b _ _),some (.ptr c _ _)=>!(Nat.beq b.1 c.1&&Nat.beq b.2 c.2)
 |_,_=>false
def y11:List Nat→List AVal→Ev→Option Ev
 |[],[],e=>some e
 |p::ps,x::xs,e=>match e.p (some p) x with
  |some e=>y11 ps xs e
  |none=>none
 |_,_,_=>none
def z8u:AVal→Bool
 |.cnd _ _=>false
 |_=>true
def y0j(A R:Ev→Sh→Cs)(ps:List Nat)(ag:Bool)(s:Nat)(bx:Id)(e:Ev):Nat→Sh→Cs
 |0,S=>some (.normal,e,S)
 |i+1,S=>match z2z false 1 S.t.at (.ptr bx 0 0) with
  |some sl=>match zfh s sl.rd (.int .i64 (i:Int)) with
   |some p=>match z2z ag s S.t.at p with
    |some el=>match z8u sl&&z8u p&&z8u el&&Nat.ble i 4611686018427387903 with
     |true=>match y11 ps [.int .i64 (i:Int),el] e with
      |some e1=>match A e1 S with
       |some (.normal,e2,S2)=>match R e2 S2 with
        |some (.normal,_,S3)=>y0j A R ps ag s bx e i S3
        |some (.ret,_,S3)=>some (.ret,e,S3)
        |some (.exit id,_,S3)=>some (.exit id,e,S3)
        |_=>none
       |_=>none
      |none=>none
     |false=>none
    |none=>none
   |none=>none
  |none=>none
def Y5(C:Nat→List AVal→Sh→Rs)(L:LCode→Ev→Sh→Cs)(B:Nat→Option (Bool×Nat)):LCode→Ev→Sh→Cs
 |.skip,e,S=>some (.normal,e,S)
 |.region ops,e,S=>y12 (zv3 C ops e S)
 |.quiet ops,e,S=>match ops.all (fun lo=>ws lo.op) with
  |true=>y12 (zv3 C ops e S)
  |false=>none
 |.draw items,e,S=>y12 (zb4 C items 0 [] e S)
 |.draw2 a b items,e,S=>match zb4 C items 0 [] e S with
  |some (e,S)=>match ztb (uy e.g a) (uy e.g b) with
   |true=>some (.normal,e,S)
   |false=>none
  |none=>none
 |.seq a b,e,S=>match Y5 C L B a e S with
  |some (.normal,e,S)=>Y5 C L B b e S
  |x=>x
 |.cond c a b,e,S=>match uy e.g c with
  |some (.bool true)=>Y5 C L B a e S
  |some (.bool false)=>Y5 C L B b e S
  |_=>none
 |.block id c,e,S=>match Y5 C L B c e S with
  |some (.exit i,e,S)=>match Nat.beq i id with
   |true=>some (.normal,e,S)
   |false=>some (.exit i,e,S)
  |x=>x
 |.loop c,e,S=>L c e S
 |.rng g ps a b,e,S=>match uy e.g g with
  |some (.fn (.func gf) [] [.ptr bx 0 0])=>match B gf with
   |some (ag,s)=>match z2z false 1 S.t.at (.ptr bx 0 0) with
    |some sl=>match zqe sl.rd with
     |some (.int .i64 z)=>match z8u sl&&ile 0 z&&ile z 4611686018427387904,S.t.at (S.n,0) with
      |true,none=>y0j (Y5 C L B a) (Y5 C L B b) ps ag s bx e z.toNat ⟨S.t,S.n+1⟩
      |_,_=>none
     |_=>none
    |none=>none
   |none=>none
  |_=>none
 |.dfr _ t,e,S=>match e.p (some t) .any with|some e=>some (.normal,e,S)|none=>none
 |.exit id,e,S=>some (.exit id,e,S)
 |.ret,e,S=>some (.ret,e,S)
def zam:Nat→List AVal→Ev→Option Ev
 |_,[],e=>some e
 |k,x::r,e=>match e.p (some k) x with
  |some e=>zam (k+1) r e
  |none=>none
def zwe(e:Ev)(h:Hp):LRes→Option AVal
 |.t i=>uy e.g (.t i)
 |.cell i ag n=>match uy e.g (.t i) with
  |some a=>z2z ag n h a
  |none=>none
def zga(e:Ev)(h:Hp):List LRes→Option (List AVal)
 |[]=>some []
 |r::rs=>match zwe e h r with
  |some v=>match zga e h rs with
   |some l=>some (v::l)
   |none=>none
  |none=>none
def y1o(res:List LRes):Cs→Rs
 |some (.normal,e,S)=>match zga e S.t.at res with|some l=>some (z7v l,S)|none=>none
 |some (.ret,e,S)=>match zga e S.t.at res with|some l=>some (z7v l,S)|none=>none
 |_=>none
def ev(F:Nat→Option LFn)(X:Nat→List AVal→Sh→Option Rs)(B:Nat→Option (Bool×Nat)):Nat→(Nat→List AVal→Sh→Rs)×(LCode→Ev→Sh→Cs)
 |0=>(fun _ _ _=>none,fun _ _ _=>none)
 |m+1=>(fun f args S=>match X f args S with
  |some r=>r
  |none=>match F f with
   |some fn=>match Nat.ble args.length fn.lay.n with
    |true=>match zam 0 args .nil with
     |some e=>y1o fn.res (Y5 (ev F X B m).1 (ev F X B m).2 B fn.body e S)
     |none=>none
    |false=>none
   |none=>none,
  fun c e S=>match Y5 (ev F X B m).1 (ev F X B m).2 B c e S with
   |some (.normal,e,S)=>(ev F X B m).2 c e S
   |x=>x)
end Go.Fx
