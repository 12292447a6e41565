/-
  Own framework.
-/
import Derived.Test.YtdgkalljlomjnaaDoorFxM2
namespace Go.Fx
set_option linter.unusedVariables false
inductive Tr (α : Type) where
 | nil
 | nd (v : Option α) (l r : Tr α)
namespace Tr
variable {α : Type}
def get : Tr α → Nat → Option α
 | .nil, _ => none
 | .nd v l r, k => match Nat.beq k 0 with
  | true => v
  | false => match Nat.beq (k % 2) 1 with
   | true => get l (k / 2)
   | false => get r (k / 2 - 1)
def put : Nat → Tr α → Nat → Option α → Option (Tr α)
 | 0, _, _, _ => none
 | d + 1, .nil, k, x => match Nat.beq k 0 with
  | true => some (.nd x .nil .nil)
  | false => match Nat.beq (k % 2) 1 with
   | true => match put d .nil (k / 2) x with | some l => some (.nd none l .nil) | none => none
   | false => match put d .nil (k / 2 - 1) x with | some r => some (.nd none .nil r) | none => none
 | d + 1, .nd v l r, k, x => match Nat.beq k 0 with
  | true => some (.nd x l r)
  | false => match Nat.beq (k % 2) 1 with
   | true => match put d l (k / 2) x with | some l => some (.nd v l r) | none => none
   | false => match put d r (k / 2 - 1) x with | some r => some (.nd v l r) | none => none
end Tr
def ikn : IntKind → Nat
 | .i8 => 0 | .i16 => 1 | .i32 => 2 | .i64 => 3 | .u8 => 4 | .u16 => 5 | .u32 => 6 | .u64 => 7
def z1b (a b : IntKind) : Bool := Nat.beq (ikn a) (ikn b)
def ck (p : Bool) (v : AVal) : Option AVal := match p with | true => some v | false => none
def ile (a b : Int) : Bool := decide (a ≤ b)
def ilt (a b : Int) : Bool := decide (a < b)
def zt0 (op : BinOp) : AVal → AVal → Option AVal
 | .int k a, .int k' b => match op with
  | .add => ck (z1b k k') (.int k (k.wrap (a + b)))
  | .sub => ck (z1b k k') (.int k (k.wrap (a - b)))
  | .mul => ck (z1b k k') (.int k (k.wrap (a * b)))
  | .quo => ck (z1b k k' && !(decide (b = 0))) (.int k (k.wrap (a.tdiv b)))
  | .rem => ck (z1b k k' && !(decide (b = 0))) (.int k (a.tmod b))
  | .and => ck (z1b k k') (.int k (Zi .and k a b))
  | .or => ck (z1b k k') (.int k (Zi .or k a b))
  | .xor => ck (z1b k k') (.int k (Zi .xor k a b))
  | .andNot => ck (z1b k k') (.int k (Zi .andNot k a b))
  | .shl => ck (ile 0 b) (.int k (k.wrap (a * 2 ^ (min b.toNat k.bits))))
  | .shr => ck (ile 0 b) (.int k (a.fdiv (2 ^ (min b.toNat k.bits))))
  | .eql => ck (z1b k k') (.bool (a == b))
  | .neq => ck (z1b k k') (.bool (a != b))
  | .lss => ck (z1b k k') (.bool (decide (a < b)))
  | .leq => ck (z1b k k') (.bool (decide (a ≤ b)))
  | .gtr => ck (z1b k k') (.bool (decide (a > b)))
  | .geq => ck (z1b k k') (.bool (decide (a ≥ b)))
 | .str a, .str b => match op with
  | .add => ck (ile ((a.length + b.length : Nat) : Int) 9223372036854775807) (.str (a ++ b))
  | .eql => some (.bool (a == b))
  | .neq => some (.bool (!(a == b)))
  | .lss => some (.bool (Op.bytesLess a b))
  | .leq => some (.bool (Op.bytesLess a b || a == b))
  | .gtr => some (.bool (!(Op.bytesLess a b || a == b)))
  | .geq => some (.bool (!(Op.bytesLess a b)))
  | _ => none
 | _, _ => none
def bun (op : UnOp) : AVal → Option AVal
 | .bool b => match op with
  | .not => some (.bool (!b))
  | _ => none
 | .int k n => match op with
  | .neg => some (.int k (k.wrap (0 - n)))
  | .xor => some (.int k (Zi .xor k (if k.signed then -1 else k.max) n))
  | _ => none
 | _ => none
def zlb : AVal → AVal → Option Bool
 | .val (.pointer none), .val (.pointer none) => some true
 | .val (.pointer none), .ptr _ _ _ => some false
 | .ptr _ _ _, .val (.pointer none) => some false
 | .val (.pointer none), .iptr _ _ _ _ => some false
 | .iptr _ _ _ _, .val (.pointer none) => some false
 | _, _ => none
def zor : AVal → AVal → Option Bool
 | .val (.slice none 0 0), .val (.slice none 0 0) => some true
 | .val (.slice none 0 0), .msl _ _ _ len _ => match Nat.beq len 0 with | true => none | false => some false
 | .msl _ _ _ len _, .val (.slice none 0 0) => match Nat.beq len 0 with | true => none | false => some false
 | .val (.slice none 0 0), .isl _ es _ => match es with | [] => none | _ :: _ => some false
 | .isl _ es _, .val (.slice none 0 0) => match es with | [] => none | _ :: _ => some false
 | _, _ => none
def zle : AVal → AVal → Option Bool
 | .val (.map none), .val (.map none) => some true
 | .val (.map none), .map _ => some false
 | .map _, .val (.map none) => some false
 | _, _ => none
def z85 : CK → AVal → AVal → Option Bool
 | .int, .int k a, .int k' b => match z1b k k' with | true => some (a == b) | false => none
 | .str, .str a, .str b => some (a == b)
 | .bool, .bool a, .bool b => some (a == b)
 | _, _, _ => none
def uw : List CK → List AVal → List AVal → Option Bool
 | [], [], [] => some true
 | k :: ks, x :: xs, y :: ys => match z85 k x y with
  | some a => match uw ks xs ys with
   | some b => some (a && b)
   | none => none
  | none => none
 | _, _, _ => none
def zfx : AVal → AVal → Option Bool
 | .val .nilIface, .val .nilIface => some true
 | .ifc _ _, .val .nilIface => some false
 | _, _ => none
def zeu : AVal → AVal → Option Bool
 | .val .nilFunc, .val .nilFunc => some true
 | .fn _ _ _, .val .nilFunc => some false
 | _, _ => none
def zsk (k : EqK) (x y : AVal) : Option Bool :=
 match k with
 | .bool => match x, y with
  | .bool a, .bool b => some (a == b)
  | _, _ => none
 | .ptr => zlb x y
 | .slice => zor x.rd y.rd
 | .map => zle x y
 | .agg ks => match x, y with
  | .agg cs, .agg ds => uw ks cs ds
  | _, _ => none
 | .ifc => zfx x y
 | .fnc => zeu x y
 | _ => none
def zsi (neg : Bool) (k : EqK) (x y : AVal) : Option AVal := match zsk k x y with
 | some b => some (.bool (if neg then !b else b))
 | none => none
abbrev Hp := Id → Option ABlock
def zkp (agg : Bool) (n : Nat) (h : Hp) : AVal → Option AVal
 | .iptr s es i off => ck (Nat.ble (i + 1) es.length && Nat.ble (off + n) s) (qj agg n off (es.getD i []))
 | .ptr b i off => match h b with
  | some (.rows s es) => ck (Nat.ble (i + 1) es.length && Nat.ble (off + n) s) (qj agg n off (es.getD i []))
  | some (.one cs) => ck (Nat.beq i 0 && Nat.ble (off + n) cs.length) (qj agg n off cs)
  | _ => none
 | _ => none
def zho (off : Nat) : AVal → Option AVal
 | .iptr s es i o => some (.iptr s es i (o + off))
 | .ptr b i o => some (.ptr b i (o + off))
 | _ => none
def ze5 (agg : Bool) (n off : Nat) : AVal → Option AVal
 | .agg cs => ck (Nat.ble (off + n) cs.length) (qj agg n off cs)
 | _ => none
def zew (s : Nat) : AVal → AVal → Option AVal
 | .isl s' es _, .int _ j => ck (Nat.beq s s' && ile 0 j && ilt j (es.length : Int)) (.iptr s' es j.toNat 0)
 | .msl b s' off len _, .int _ j => ck (Nat.beq s s' && ile 0 j && ilt j (len : Int)) (.ptr b (off + j.toNat) 0)
 | _, _ => none
def z7e (len s : Nat) : AVal → AVal → Option AVal
 | .iptr s' es i o, .int _ j => ck (ile 0 j && ilt j (len : Int)) (.iptr s' es i (o + j.toNat * s))
 | .ptr b i o, .int _ j => ck (ile 0 j && ilt j (len : Int)) (.ptr b i (o + j.toNat * s))
 | _, _ => none
def z82 (len s : Nat) (h : Hp) : AVal → AVal → Option AVal
 | .ptr b i 0, .int _ j => match h b with
  | some (.rows s' _) => ck (Nat.beq s s' && ile 0 j && ilt j (len : Int)) (.ptr b (i + j.toNat) 0)
  | _ => none
 | _, _ => none
def zmj (len s : Nat) (h : Hp) : AVal → Option AVal
 | .ptr b i 0 => match h b with
  | some (.rows s' es) => ck (Nat.beq s s' && Nat.ble (i + len) es.length) (.msl b s i len true)
  | _ => none
 | _ => none
def znx : AVal → AVal → Option AVal
 | .str l, .int _ j => ck (ile 0 j && ilt j (l.length : Int)) (.int .u8 ((l.getD j.toNat 0).toNat : Int))
 | _, _ => none
def zn8 (len s : Nat) (agg : Bool) : AVal → AVal → Option AVal
 | .agg cs, .int _ j => ck (ile 0 j && ilt j (len : Int) && Nat.ble ((j.toNat * s) + s) cs.length) (qj agg s (j.toNat * s) cs)
 | _, _ => none
def zsd (k : Nat) : AVal → Option AVal
 | .tup cs => ck (Nat.ble (k + 1) cs.length) (cs.getD k .any)
 | _ => none
def zmw : AVal → Option AVal
 | .str l => some (.int .i64 (l.length : Int))
 | _ => none
def zoo : AVal → Option AVal
 | .isl _ es _ => some (.int .i64 (es.length : Int))
 | .msl _ _ _ len _ => some (.int .i64 (len : Int))
 | .val (.slice none 0 0) => some (.int .i64 0)
 | _ => none
def zih : AVal → Option AVal
 | .iptr s es i o => some (.iptr s es i o)
 | .ptr b i o => some (.ptr b i o)
 | .fn (.func f) a c => some (.fn (.func f) a c)
 | _ => none
def ki (g : Nat → AVal) : LOpd → Option AVal
 | .t i => match g i with
  | .cnd true v => some v
  | .cnd false _ => none
  | v => some v
 | .c v => some v
def z2z (g : Nat → AVal) : List LOpd → Option (List AVal)
 | [] => some []
 | x :: r => match ki g x with
  | some a => match z2z g r with
   | some l => some (a :: l)
   | none => none
  | none => none
def Y2 (g : Nat → AVal) (d : Nat) : Option LOpd → Option Int
 | none => some d
 | some x => match ki g x with
  | some (.int _ j) => some j
  | _ => none
def zdn (g : Nat → AVal) (lo hi : Option LOpd) : AVal → Option AVal
 | .str l => match Y2 g 0 lo, Y2 g l.length hi with
  | some a, some b => ck (ile 0 a && ile a b && ile b (l.length : Int)) (.str ((l.take b.toNat).drop a.toNat))
  | _, _ => none
 | _ => none
def zov (g : Nat → AVal) (s : Nat) (lo hi mx : Option LOpd) : AVal → Option AVal
 | .isl s' es f => match Y2 g 0 lo, Y2 g es.length hi with
  | some a, some b => match mx with
   | none => ck (Nat.beq s s' && ile 0 a && ile a b && ile b (es.length : Int)) (.isl s' ((es.take b.toNat).drop a.toNat) (f && decide (b = (es.length : Int))))
   | some m => match Y2 g 0 (some m) with
    | some m => ck (Nat.beq s s' && ile 0 a && ile a b && ile b m && ile m (es.length : Int)) (.isl s' ((es.take b.toNat).drop a.toNat) (decide (m = b)))
    | none => none
  | _, _ => none
 | .msl id s' off len f => match Y2 g 0 lo, Y2 g len hi with
  | some a, some b => match mx with
   | none => ck (Nat.beq s s' && ile 0 a && ile a b && ile b (len : Int)) (.msl id s' (off + a.toNat) (b.toNat - a.toNat) (f && decide (b = (len : Int))))
   | some m => match Y2 g 0 (some m) with
    | some m => ck (Nat.beq s s' && ile 0 a && ile a b && ile b m && ile m (len : Int)) (.msl id s' (off + a.toNat) (b.toNat - a.toNat) (decide (m = b)))
    | none => none
  | _, _ => none
 | .val (.slice none 0 0) => match Y2 g 0 lo, Y2 g 0 hi, mx with
  | some a, some b, none => ck (decide (a = 0) && decide (b = 0)) (.val (.slice none 0 0))
  | _, _, _ => none
 | _ => none
def z6n (cells : List AVal) : List (Nat × Nat × AVal) → Option AVal
 | [] => some (.agg cells)
 | (off, n, x) :: r => match x.cells? with
  | some cs => match Nat.beq cs.length n && Nat.ble (off + n) cells.length with
   | true => z6n (w6 cells off cs) r
   | false => none
  | none => none
def z5i (g : Nat → AVal) : List (Nat × Nat × LOpd) → Option (List (Nat × Nat × AVal))
 | [] => some []
 | (o, n, x) :: r => match ki g x with
  | some a => match z5i g r with
   | some l => some ((o, n, a) :: l)
   | none => none
  | none => none
def zo8 (isMax : Bool) : AVal → List AVal → Option AVal
 | v, [] => some v
 | .int k a, .int k' b :: r => match z1b k k' with
  | true => zo8 isMax (.int k (if isMax then (if b > a then b else a) else (if b < a then b else a))) r
  | false => none
 | _, _ => none
def zou (isMax : Bool) : List AVal → Option AVal
 | .int k a :: r => zo8 isMax (.int k a) r
 | _ => none
def z1j (ks : List CK) (ka : Bool) (k : AVal) : Bool := (match ka, vq k with | true, true => true | false, false => true | _, _ => false) && (uw ks (qt k) (qt k)).isSome
def z5p (ks : List CK) (k k' : AVal) : Option Bool := match vq k, vq k' with
 | true, true => uw ks (qt k) (qt k')
 | false, false => uw ks (qt k) (qt k')
 | _, _ => none
def zb2 (ks : List CK) (k : AVal) : List (AVal × AVal) → Option (Option AVal)
 | [] => some none
 | (k', x) :: r => match z5p ks k k' with
  | some true => some (some x)
  | some false => zb2 ks k r
  | none => none
def zkn (ks : List CK) (k x : AVal) : List (AVal × AVal) → Option (List (AVal × AVal))
 | [] => some [(k, x)]
 | (k', y) :: r => match z5p ks k k' with
  | some true => some ((k, x) :: r)
  | some false => match zkn ks k x r with | some l => some ((k', y) :: l) | none => none
  | none => none
def zau (ks : List CK) (k : AVal) : List (AVal × AVal) → Option (List (AVal × AVal))
 | [] => some []
 | (k', y) :: r => match z5p ks k k' with
  | some true => some r
  | some false => match zau ks k r with | some l => some ((k', y) :: l) | none => none
  | none => none
def zd5 (ks : List CK) (ka g ok : Bool) (zs : List AVal) (h : Hp) (k : AVal) : AVal → Option AVal
 | .val (.map none) => ck (z1j ks ka k) (ziw g ok zs none)
 | .map b => match h b with
  | some (.amap es) => match z1j ks ka k with
   | true => match zb2 ks k es with
    | some r => some (ziw g ok zs r)
    | none => none
   | false => none
  | _ => none
 | _ => none
def zos (h : Hp) : AVal → Option AVal
 | .val (.map none) => some (.int .i64 0)
 | .map b => match h b with
  | some (.amap es) => some (.int .i64 (es.length : Int))
  | _ => none
 | _ => none
def ziy (g : Nat → AVal) (h : Hp) : LOp → Option AVal
 | .mv x => ki g x
 | .pick c a b => match ki g c with
  | some (.bool true) => ki g a
  | some (.bool false) => ki g b
  | _ => none
 | .build zs parts => (z5i g parts).bind (z6n zs)
 | .load ag n a => (ki g a).bind (zkp ag n h)
 | .nilck x => (ki g x).bind zih
 | .bin op x y => (ki g x).bind fun a => (ki g y).bind fun b => zt0 op a b
 | .eq neg k x y => (ki g x).bind fun a => (ki g y).bind fun b => zsi neg k a b
 | .un op x => (ki g x).bind (bun op)
 | .conv (.int k) x => match ki g x with
  | some (.int _ n) => some (.int k (k.wrap n))
  | _ => none
 | .conv .same x => match ki g x with
  | some (.str l) => some (.str l)
  | _ => none
 | .mkfn f a c => (z2z g a).bind fun a => (z2z g c).bind fun c => some (.fn f a c)
 | .slStr x lo hi => (ki g x).bind (zdn g lo hi)
 | .slSl s x lo hi mx => (ki g x).bind (zov g s lo hi mx)
 | .slAr n s x => (ki g x).bind (zmj n s h)
 | .faddr off x => (ki g x).bind (zho off)
 | .field ag n off x => (ki g x).bind (ze5 ag n off)
 | .iaddr s x i => (ki g x).bind fun a => (ki g i).bind fun b => zew s a.rd b
 | .iaddrA n s x i => (ki g x).bind fun a => (ki g i).bind fun b => z7e n s a b
 | .iaddrR n s x i => (ki g x).bind fun a => (ki g i).bind fun b => z82 n s h a b
 | .idxS x i => (ki g x).bind fun a => (ki g i).bind fun b => znx a b
 | .idxA n s ag x i => (ki g x).bind fun a => (ki g i).bind fun b => zn8 n s ag a b
 | .ext k x => (ki g x).bind (zsd k)
 | .len true x => (ki g x).bind zmw
 | .len false x => (ki g x).bind fun a => zoo a.rd
 | .mnx m args => (z2z g args).bind (zou m)
 | .mlook ks ka ag ok zs x k => (ki g x).bind fun a => (ki g k).bind fun b => zd5 ks ka ag ok zs h b a
 | .mlen x => (ki g x).bind (zos h)
 | _ => none
structure Sh where
 t : Tr ABlock
 n : Nat
def hix (id : Id) : Option Nat := match id.2 with
 | 0 => some (2 * id.1)
 | 1 => some (2 * id.1 + 1)
 | _ => none
def Tr.at (t : Tr ABlock) : Hp := fun id => match hix id with
 | some k => t.get k
 | none => none
def Tr.sat (t : Tr ABlock) (id : Id) (b : Option ABlock) : Option (Tr ABlock) := match hix id with
 | some k => Tr.put 60 t k b
 | none => none
def Sh.upd (S : Sh) (id : Id) (b : ABlock) : Option Sh := match S.t.sat id (some b) with
 | some t => some ⟨t, S.n⟩
 | none => none
def Sh.cut (S : Sh) (id : Id) : Option Sh := match S.t.sat id none with
 | some t => some ⟨t, S.n⟩
 | none => none
def Sh.new (S : Sh) (b : ABlock) : Option Sh := match S.t.sat (S.n, 0) (some b) with
 | some t => some ⟨t, S.n + 1⟩
 | none => none
def Sh.new2 (S : Sh) (b c : ABlock) : Option Sh := match S.t.sat (S.n, 0) (some b) with
 | some t => match t.sat (S.n, 1) (some c) with
  | some t => some ⟨t, S.n + 1⟩
  | none => none
 | none => none
abbrev Rs := Option (AVal × Sh)
def Y0 (v : AVal) : Option Sh → Rs
 | some S => some (v, S)
 | none => none
def z00 (h : Hp) (s : Nat) : AVal → Option (List (List AVal))
 | .isl s' es _ => match Nat.beq s' s with | true => some es | false => none
 | .osl _ s' es => match Nat.beq s' s with | true => some es | false => none
 | .msl b s' off len _ => match h b with
  | some (.rows s'' es) => match Nat.beq s' s && Nat.beq s'' s && Nat.ble (off + len) es.length with
   | true => some ((es.drop off).take len)
   | false => none
  | _ => none
 | .val (.slice none 0 0) => some []
 | .str l => match Nat.beq s 1 with
  | true => some (l.map fun c => [.int .u8 (c.toNat : Int)])
  | false => none
 | _ => none
def Wl : List (List AVal) → List (Nat × AVal) → Option (List (List AVal))
 | rows, [] => some rows
 | rows, (i, x) :: r => match x.cells? with
  | some cs => match Nat.beq cs.length ((rows.getD i []).length) && Nat.ble (i + 1) rows.length with
   | true => Wl (rows.set i cs) r
   | false => none
  | none => none
def zp2 (g : Nat → AVal) : List (Nat × LOpd) → Option (List (Nat × AVal))
 | [] => some []
 | (i, x) :: r => match ki g x with
  | some a => match zp2 g r with
   | some l => some ((i, a) :: l)
   | none => none
  | none => none
def z2b : List (List AVal) → Bool
 | [] => true
 | [.int k _] :: r => z1b k .u8 && z2b r
 | _ => false
def zsn (s bytes : Nat) (S : Sh) (x : AVal) (rows2 : List (List AVal)) : Rs :=
 match x with
 | .val (.slice none 0 0) => match rows2 with
  | [] => some (.val (.slice none 0 0), S)
  | _ => match Nat.ble (rows2.length * bytes) 140737488355328 with
   | true => Y0 (.msl (S.n, 0) s 0 rows2.length false) (S.new (.rows s rows2))
   | false => none
 | .isl s' es f => match Nat.beq s' s with
  | true => match rows2 with
   | [] => some (.isl s' es f, S)
   | _ => match f && Nat.ble ((es.length + rows2.length) * bytes) 140737488355328 with
    | true => Y0 (.msl (S.n, 0) s 0 (es.length + rows2.length) false) (S.new (.rows s (es ++ rows2)))
    | false => none
  | false => none
 | .msl b s' off len f => match S.t.at b with
  | some (.rows s'' es) => match Nat.beq s' s && Nat.beq s'' s && Nat.ble (off + len) es.length && Nat.ble ((len + rows2.length) * bytes) 140737488355328 with
   | true => match f, rows2 with
    | true, [] => some (.msl b s' off len f, S)
    | true, _ => Y0 (.msl (S.n, 0) s 0 (len + rows2.length) false) (S.new (.rows s ((es.drop off).take len ++ rows2)))
    | false, _ => match S.cut b with
     | some S => Y0 (.msl (S.n, 0) s 0 (len + rows2.length) false) (S.new (.rows s ((es.drop off).take len ++ rows2)))
     | none => none
   | false => none
  | _ => none
 | _ => none
def zrt (C : Nat → List AVal → Sh → Rs) (g : Nat → AVal) (S : Sh) : LOp → Rs
 | .alloc zs => Y0 (.ptr (S.n, 0) 0 0) (S.new (.one zs))
 | .allocR s zs => Y0 (.ptr (S.n, 0) 0 0) (S.new (.rows s (Qz s (zs.length / s) zs)))
 | .allocB T el => Y0 (.ptr (S.n, 0) 0 0) (S.new2 (.bld T (S.n, 1)) (.buf el []))
 | .box x => match ki g x with
  | some a => match a.cells? with
   | some cs => Y0 (.ptr (S.n, 0) 0 0) (S.new (.one cs))
   | none => none
  | none => none
 | .mkSl false s zs len parts => match zp2 g parts with
  | some ps => match Wl (List.replicate len zs) ps with
   | some rows => match Nat.beq zs.length s with
    | true => Y0 (.msl (S.n, 0) s 0 len true) (S.new (.rows s (rows.map (ja zs))))
    | false => none
   | none => none
  | none => none
 | .mkSl true s zs len parts => match zp2 g parts with
  | some ps => match Wl (List.replicate len zs) ps with
   | some rows => match wy rows with
    | some rows' => match Nat.beq zs.length s with
     | true => some (.isl s (rows'.map (ja zs)) true, S)
     | false => none
    | none => none
   | none => none
  | none => none
 | .store m a x => match ki g a with
  | some (.ptr b i off) => match ki g x with
   | some y => match y.cells? with
    | some cs => match S.t.at b with
     | some (.rows s es) => match Nat.beq cs.length m && Nat.ble (i + 1) es.length && Nat.ble (off + m) s with
      | true => Y0 .any (S.upd b (.rows s (es.set i (w6 (es.getD i []) off cs))))
      | false => none
     | some (.one rs) => match Nat.beq cs.length m && Nat.beq i 0 && Nat.ble (off + m) rs.length with
      | true => Y0 .any (S.upd b (.one (w6 rs off cs)))
      | false => none
     | _ => none
    | none => none
   | none => none
  | _ => none
 | .conv (.s2b false) x => match ki g x with
  | some (.str l) => Y0 (.msl (S.n, 0) 1 0 l.length false) (S.new (.rows 1 (l.map fun c => [.int .u8 (c.toNat : Int)])))
  | _ => none
 | .conv .b2s x => match ki g x with
  | some (.str _) => none
  | some a => match z00 S.t.at 1 a with
   | some rows => match z2b rows with
    | true => some (.str (rows.map Wj), S)
    | false => none
   | none => none
  | none => none
 | .mkslice false s bytes zs l c => match ki g l, ki g c with
  | some (.int .i64 l'), some (.int .i64 c') => match ile 0 l' && ile l' c' && ile (c' * bytes) 140737488355328 with
   | true => Y0 (.msl (S.n, 0) s 0 l'.toNat (decide (c' = l'))) (S.new (.rows s (List.replicate l'.toNat (ja zs zs))))
   | false => none
  | _, _ => none
 | .call f args => match z2z g args with
  | some as => C f as S
  | none => none
 | .callv x args => match ki g x with
  | some (.fn (.func f) first caps) => match z2z g args with
   | some as => C f (first ++ as ++ caps) S
   | none => none
  | _ => none
 | .app false s bytes x y => match ki g y with
  | some b => match z00 S.t.at s b with
   | some rows2 => match ki g x with
    | some a => zsn s bytes S a rows2
    | none => none
   | none => none
  | none => none
 | .copy s x y => match ki g x with
  | some (.msl b s' off len _) => match ki g y with
   | some y => match z00 S.t.at s y with
    | some rows2 => match S.t.at b with
     | some (.rows s'' es) => match Nat.beq s' s && Nat.beq s'' s && Nat.ble (off + len) es.length with
      | true => Y0 (.int .i64 ((min rows2.length len : Nat) : Int)) (S.upd b (.rows s (es.take off ++ rows2.take len ++ es.drop (off + min rows2.length len))))
      | false => none
     | _ => none
    | none => none
   | none => none
  | _ => none
 | .mkmap none => Y0 (.map (S.n, 0)) (S.new (.amap []))
 | .mset ks ka ag zs m k x => match ki g m with
  | some (.map b) => match ki g x with
   | some x => match zp4 ag zs x with
    | some y => match S.t.at b with
     | some (.amap es) => match ki g k with
      | some k => match zkn ks k y es with
       | some es' => match z1j ks ka k with
        | true => Y0 .any (S.upd b (.amap es'))
        | false => none
       | none => none
      | none => none
     | _ => none
    | none => none
   | none => none
  | _ => none
 | .mdel ks ka m k => match ki g m with
  | some (.map b) => match S.t.at b with
   | some (.amap es) => match ki g k with
    | some k => match zau ks k es with
     | some es' => match z1j ks ka k with
      | true => Y0 .any (S.upd b (.amap es'))
      | false => none
     | none => none
    | none => none
   | _ => none
  | _ => none
 | _ => none
-- equality of values, where it is seen at once
mutual
def zqt : AVal → AVal → Bool
 | .bool a, .bool b => a == b
 | .int k a, .int k' b => z1b k k' && decide (a = b)
 | .str a, .str b => a == b
 | .ptr b i o, .ptr b' i' o' => Nat.beq b.1 b'.1 && Nat.beq b.2 b'.2 && Nat.beq i i' && Nat.beq o o'
 | .msl b s o l f, .msl b' s' o' l' f' => Nat.beq b.1 b'.1 && Nat.beq b.2 b'.2 && Nat.beq s s' && Nat.beq o o' && Nat.beq l l' && (f == f')
 | .map b, .map b' => Nat.beq b.1 b'.1 && Nat.beq b.2 b'.2
 | .agg cs, .agg ds => zgt cs ds
 | .tup cs, .tup ds => zgt cs ds
 | .val (.pointer none), .val (.pointer none) => true
 | .val (.slice none 0 0), .val (.slice none 0 0) => true
 | .val (.map none), .val (.map none) => true
 | .val (.nilIface), .val (.nilIface) => true
 | .cnd p x, .cnd p' y => (p == p') && zqt x y
 | .isl s [] f, .isl s' [] f' => Nat.beq s s' && (f == f')
 | _, _ => false
def zgt : List AVal → List AVal → Bool
 | [], [] => true
 | x :: xs, y :: ys => zqt x y && zgt xs ys
 | _, _ => false
end
def z45 (a : AVal) (want : Bool) : Option Bool := kw a want
abbrev Ev := Tr AVal
def Ev.g (e : Ev) (t : Nat) : AVal := match Tr.get e t with | some v => v | none => .any
def Ev.p (e : Ev) (d : Option Nat) (v : AVal) : Option Ev := match d with
 | some d => Tr.put 60 e d (some v)
 | none => some e
def Uw (g : Nat → AVal) (h : Hp) (lo : LOper) : Option AVal :=
 match lo.guard with
 | none => ziy g h lo.op
 | some (q, want) => match z45 (g q) want with
  | some true => match ziy g h lo.op with
   | some v => some (.cnd true v)
   | none => none
  | some false => some (.tup [])
  | none => none
def zji (C : Nat → List AVal → Sh → Rs) (g : Nat → AVal) (S : Sh) (lo : LOper) : Rs :=
 match lo.guard with
 | none => zrt C g S lo.op
 | some (q, want) => match z45 (g q) want with
  | some true => zrt C g S lo.op
  | some false => some (.tup [], S)
  | none => none
abbrev Es := Option (Ev × Sh)
def zmp (C : Nat → List AVal → Sh → Rs) : List LOper → Ev → Sh → Es
 | [], e, S => some (e, S)
 | lo :: os, e, S => match jx lo.op with
  | true => match Uw e.g S.t.at lo with
   | some v => match e.p lo.dst v with
    | some e => zmp C os e S
    | none => none
   | none => none
  | false => match zji C e.g S lo with
   | some (v, S) => match e.p lo.dst v with
    | some e => zmp C os e S
    | none => none
   | none => none
def LOper.bsees (lo : LOper) (e : Ev) : Env := lo.looks.map fun t => (t, e.g t)
def zat (h : Hp) (loose : List Nat) : List (Nat × LOper × Env × AVal) → Bool
 | [] => true
 | (p, lo, e, v) :: r => (match loose.contains p with
  | true => match Uw e.get h lo with
   | some u => zqt u v
   | none => false
  | false => true) && zat h loose r
def zch (C : Nat → List AVal → Sh → Rs) : List DItem → Nat → List (Nat × LOper × Env × AVal) → Ev → Sh → Es
 | [], _, _, e, S => some (e, S)
 | it :: rest, p, done, e, S => match jx it.lo.op with
  | true => match Uw (it.lo.bsees e).get S.t.at it.lo with
   | some v => match e.p it.lo.dst v with
    | some e' => zch C rest (p + 1) (if Zv it.lo.op then (p, it.lo, it.lo.bsees e, v) :: done else done) e' S
    | none => none
   | none => none
  | false => match zji C (it.lo.bsees e).get S it.lo with
   | some (v, S) => match zat S.t.at it.loose done with
    | true => match e.p it.lo.dst v with
     | some e => zch C rest (p + 1) done e S
     | none => none
    | false => none
   | none => none
abbrev Cs := Option (Exit × Ev × Sh)
def zrp : Es → Cs
 | some (e, S) => some (.normal, e, S)
 | none => none
def Q1 (C : Nat → List AVal → Sh → Rs) (L : LCode → Ev → Sh → Cs) : LCode → Ev → Sh → Cs
 | .skip, e, S => some (.normal, e, S)
 | .region ops, e, S => zrp (zmp C ops e S)
 | .quiet ops, e, S => match ops.all (fun lo => jx lo.op) with
  | true => zrp (zmp C ops e S)
  | false => none
 | .draw items, e, S => zrp (zch C items 0 [] e S)
 | .seq a b, e, S => match Q1 C L a e S with
  | some (.normal, e, S) => Q1 C L b e S
  | x => x
 | .cond c a b, e, S => match ki e.g c with
  | some (.bool true) => Q1 C L a e S
  | some (.bool false) => Q1 C L b e S
  | _ => none
 | .block id c, e, S => match Q1 C L c e S with
  | some (.exit i, e, S) => match Nat.beq i id with
   | true => some (.normal, e, S)
   | false => some (.exit i, e, S)
  | x => x
 | .loop c, e, S => L c e S
 | .rng _ _ _ _, _, _ => none
 | .dfr _ t, e, S => match e.p (some t) .any with | some e => some (.normal, e, S) | none => none
 | .exit id, e, S => some (.exit id, e, S)
 | .ret, e, S => some (.ret, e, S)
def z7u : Nat → List AVal → Ev → Option Ev
 | _, [], e => some e
 | k, x :: r, e => match e.p (some k) x with
  | some e => z7u (k + 1) r e
  | none => none
def zru (e : Ev) (h : Hp) : LRes → Option AVal
 | .t i => ki e.g (.t i)
 | .cell i ag n => match ki e.g (.t i) with
  | some a => zkp ag n h a
  | none => none
def zc0 (e : Ev) (h : Hp) : List LRes → Option (List AVal)
 | [] => some []
 | r :: rs => match zru e h r with
  | some v => match zc0 e h rs with
   | some l => some (v :: l)
   | none => none
  | none => none
def zrr (res : List LRes) : Cs → Rs
 | some (.normal, e, S) => match zc0 e S.t.at res with | some l => some (z47 l, S) | none => none
 | some (.ret, e, S) => match zc0 e S.t.at res with | some l => some (z47 l, S) | none => none
 | _ => none
def ev (F : Nat → Option LFn) (X : Nat → List AVal → Sh → Option Rs) : Nat → (Nat → List AVal → Sh → Rs) × (LCode → Ev → Sh → Cs)
 | 0 => (fun _ _ _ => none, fun _ _ _ => none)
 | m + 1 => (fun f args S => match X f args S with
  | some r => r
  | none => match F f with
   | some fn => match Nat.ble args.length fn.lay.n with
    | true => match z7u 0 args .nil with
     | some e => zrr fn.res (Q1 (ev F X m).1 (ev F X m).2 fn.body e S)
     | none => none
    | false => none
   | none => none,
  fun c e S => match Q1 (ev F X m).1 (ev F X m).2 c e S with
   | some (.normal, e, S) => (ev F X m).2 c e S
   | x => x)
end Go.Fx
