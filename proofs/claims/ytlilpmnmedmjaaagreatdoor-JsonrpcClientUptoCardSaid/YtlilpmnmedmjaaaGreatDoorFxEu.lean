/-
  Own framework.
-/
import Derived.Test.YtlilpmnmedmjaaaGreatDoorFxEz
import Derived.Test.YtlilpmnmedmjaaaGreatDoorFxBw
import Derived.Test.YtlilpmnmedmjaaaGreatDoorFxLg
import Derived.Test.YtlilpmnmedmjaaaGreatDoorFxMd
import Derived.Test.YtlilpmnmedmjaaaGreatDoorFxN
namespace Go.Fx
open Go.Shelf
set_option linter.unusedVariables false
variable {P:Program}
def orX(X1 X2:Nat→List AVal→Sh→Option Rs):Nat→List AVal→Sh→Option Rs:=fun f xs S=>match X1 f xs S with
 |some r=>some r
 |none=>X2 f xs S
theorem zdo{X1 X2:Nat→List AVal→Sh→Option Rs}(h1:J8 P X1)(h2:J8 P X2):J8 P (orX X1 X2):=by
 intro f xs S r S' h
 unfold orX at h
 split at h
 ·rename_i h'
  simp only[Option.some.injEq] at h
  subst h
  exact h1 f xs S r S' h'
 ·exact h2 f xs S r S' h
def zwr(fb fl:Nat)(T e:TypeId)(f:Nat)(xs:List AVal)(S:Sh):Option Rs:=
 match Nat.beq f fb with
 |true=>match xs with
  |[.ptr b 0 0,.int .u8 (.ofNat k)]=>match S.t.at b with
   |some (.bld T' g)=>match S.t.at g with
    |some (.buf e' bs)=>match Nat.beq T' T&&Nat.beq e' e&&Nat.ble (bs.length+1) 140737488355328&&Nat.ble k 255 with
     |true=>match S.upd b (.bld T (S.n,0)) with
      |some S1=>match S1.cut g with
       |some S2=>some (Qv (.val .nilIface) (S2.new (.buf e (bs++[UInt8.ofNat k]))))
       |none=>some none
      |none=>some none
     |false=>some none
    |_=>some none
   |_=>some none
  |_=>some none
 |false=>match Nat.beq f fl with
  |true=>match xs with
   |[.ptr b 0 0]=>match S.t.at b with
    |some (.bld T' g)=>match S.t.at g with
     |some (.buf _ bs)=>match Nat.beq T' T with
      |true=>some (some (.int .i64 (bs.length:Int),S))
      |false=>some none
     |_=>some none
    |_=>some none
   |_=>some none
  |false=>none
theorem zq0{fb fl:Nat}{T e tb:TypeId}(hW:BByte P fb T e tb)(hS:BLen P fl T):J8 P (zwr fb fl T e):=by
 intro f xs S r S' h D H n hs
 unfold zwr at h
 split at h
 ·rename_i hf
  have hf:=qr.1 hf
  subst hf
  split at h<;>try (cases h;done)
  rename_i b k
  split at h<;>try (cases h;done)
  rename_i T' g hb
  split at h<;>try (cases h;done)
  rename_i e' bs hg
  split at h<;>try (cases h;done)
  rename_i hc
  simp only[Bool.and_eq_true,qr,jz] at hc
  obtain⟨⟨⟨rfl,rfl⟩,hlen⟩,hk⟩:=hc
  split at h<;>try (cases h;done)
  rename_i S1 h1
  split at h<;>try (cases h;done)
  rename_i S2 h2
  simp only[Option.some.injEq] at h
  obtain⟨rfl,hw⟩:=vo h
  have r1:=hs.upd hb h1
  obtain⟨gc,hgc⟩:=Sh.upd_at h1 hg
  have r2:=r1.cut hgc h2
  have r3:=r2.new hw
  replace hb:=hs.h _ _ hb
  replace hg:=hs.h _ _ hg
  rw[←hs.n] at r3
  have hx:(Int.ofNat k)=((UInt8.ofNat k).toNat:Int):=by
   have:(UInt8.ofNat k).toNat=k:=by simp[UInt8.toNat_ofNat'];omega
   rw[this];rfl
  rw[hx]
  exact zg7 hW hb hg hlen ⟨rfl,r3⟩
 ·split at h<;>try (cases h;done)
  rename_i hf
  have hf:=qr.1 hf
  subst hf
  split at h<;>try (cases h;done)
  rename_i b
  split at h<;>try (cases h;done)
  rename_i T' g hb
  split at h<;>try (cases h;done)
  rename_i e' bs hg
  split at h<;>try (cases h;done)
  rename_i hc
  have hc:=qr.1 hc
  subst hc
  simp only[Option.some.injEq,Prod.mk.injEq] at h
  obtain⟨rfl,rfl⟩:=h
  replace hb:=hs.h _ _ hb
  replace hg:=hs.h _ _ hg
  exact zve hS hb hg ⟨rfl,hs⟩
theorem zoa{I:Nat→Nat→Prop}{β:Id→Option CLoc}{n:Nat}{w:World}{b:Id}{s s' off:Nat}{f:Bool}{v:Value}(h:Rep I β n w (.msl b s off 0 f) v):Rep I β n w (.isl s' [] false) v:=by
 obtain⟨a,cap,rfl,_,_,hn⟩:=h.msl_inv
 cases a with
 |none=>rw[hn rfl];exact .imm _ _ (.islNil s' false)
 |some a=>exact .imm _ _ (.islEmpty s' false a cap (fun h=>by cases h))
theorem z8f{f:Fn}{b:Id}{s s' off:Nat}{fl:Bool}{H:AHeap}{n:Nat}{K:AVal→AHeap→Nat→Prop}(h:ACalls P f [.isl s' [] false] H n K):ACalls P f [.msl b s off 0 fl] H n K:=
 ⟨h.1,fun I β w vs hI hl hr=>h.2 I β w vs hI hl fun i x v hx hv=>by
  cases i with
  |zero=>
   simp only[List.getElem?_cons_zero,Option.some.injEq] at hx
   subst hx
   exact zoa (hr 0 _ v rfl hv)
  |succ i=>simp at hx⟩
def zcg(fc s:Nat)(f:Nat)(xs:List AVal)(S:Sh):Option Rs:=
 match Nat.beq f fc with
 |true=>match xs with
  |[.isl s' [] _]=>match Nat.beq s' s with
   |true=>some (some (.isl s [] false,S))
   |false=>none
  |[.val (.slice none 0 0)]=>some (some (.isl s [] false,S))
  |[.msl _ _ _ 0 _]=>some (some (.isl s [] false,S))
  |_=>none
 |false=>none
theorem zgq{fc s:Nat}(h0:PFn P fc [.isl s [] false] (.isl s [] false)):J8 P (zcg fc s):=by
 intro f xs S r S' h D H n hs
 unfold zcg at h
 split at h<;>try (cases h;done)
 rename_i hf
 have hf:=qr.1 hf
 subst hf
 split at h<;>try (cases h;done)
 ·split at h<;>try (cases h;done)
  rename_i hc
  have hc:=qr.1 hc
  subst hc
  simp only[Option.some.injEq,Prod.mk.injEq] at h
  obtain⟨rfl,rfl⟩:=h
  exact PFn.call h0 (And.intro (Vw.islF _ _ _) trivial) ⟨rfl,hs⟩
 ·simp only[Option.some.injEq,Prod.mk.injEq] at h
  obtain⟨rfl,rfl⟩:=h
  exact PFn.call h0 (And.intro (Vw.nilI _ _) trivial) ⟨rfl,hs⟩
 ·simp only[Option.some.injEq,Prod.mk.injEq] at h
  obtain⟨rfl,rfl⟩:=h
  exact z8f (s':=s) (PFn.call h0 (And.intro (Vw.islF _ _ _) trivial) ⟨rfl,hs⟩)
def y1s:List UInt8→Bool
 |[]=>true
 |b::r=>match Nat.ble b.toNat 127 with
  |true=>y1s r
  |false=>false
theorem zm5:∀ {l:List UInt8},y1s l=true→Lib.validD l=true
 |[],_=>rfl
 |b::r,h=>by
  unfold y1s at h
  split at h<;>try (cases h;done)
  rename_i hb
  have hb:=jz.1 hb
  rw[Lib.validD_cons b r (by omega)]
  exact zm5 h
def zng(fv:Nat)(f:Nat)(xs:List AVal)(S:Sh):Option Rs:=
 match Nat.beq f fv with
 |true=>match xs with
  |[.str s]=>match y1s s&&Nat.ble s.length 9223372036854775807 with
   |true=>some (some (.bool true,S))
   |false=>match Nat.ble s.length 9223372036854775807 with
    |true=>some (some (.bool (Lib.validD s),S))
    |false=>none
  |_=>none
 |false=>none
theorem zju{fv:Nat}(h0:∀s:List UInt8,s.length≤9223372036854775807→PFn P fv [.str s] (.bool (Lib.validD s))):J8 P (zng fv):=by
 intro f xs S r S' h D H n hs
 unfold zng at h
 split at h<;>try (cases h;done)
 rename_i hf
 have hf:=qr.1 hf
 subst hf
 split at h<;>try (cases h;done)
 rename_i s
 split at h
 ·rename_i hc
  simp only[Bool.and_eq_true,jz] at hc
  simp only[Option.some.injEq,Prod.mk.injEq] at h
  obtain⟨rfl,rfl⟩:=h
  have:=h0 s hc.2
  rw[zm5 hc.1] at this
  exact PFn.call this (And.intro (Vw.same _ rfl) trivial) ⟨rfl,hs⟩
 ·split at h<;>try (cases h;done)
  rename_i hc
  simp only[Option.some.injEq,Prod.mk.injEq] at h
  obtain⟨rfl,rfl⟩:=h
  exact PFn.call (h0 s (jz.1 hc)) (And.intro (Vw.same _ rfl) trivial) ⟨rfl,hs⟩
def zq4(c:Nat):List UInt8→Bool
 |[]=>true
 |b::r=>match Nat.beq b.toNat c with
  |true=>false
  |false=>zq4 c r
theorem zeb{c:Nat}(hc:c≤255):∀ {l:List UInt8},zq4 c l=true→Lib.indexByte l c.toUInt8=-1
 |[],_=>rfl
 |b::r,h=>by
  unfold zq4 at h
  split at h<;>try (cases h;done)
  rename_i hb
  have hb:=Nat.ne_of_beq_eq_false hb
  unfold Lib.indexByte
  rw[zeb hc h]
  have:(b==c.toUInt8)=false:=by
   rw[beq_eq_false_iff_ne]
   intro he
   apply hb
   rw[he]
   simp[Nat.toUInt8]
   omega
  rw[this]
  rfl
def zn2(fi:Nat)(f:Nat)(xs:List AVal)(S:Sh):Option Rs:=
 match Nat.beq f fi with
 |true=>match xs with
  |[.str s,.int .u8 (.ofNat k)]=>match zq4 k s&&Nat.ble k 255 with
   |true=>some (some (.int .i64 (-1),S))
   |false=>some (some (.int .i64 (Lib.indexByte s k.toUInt8),S))
  |_=>none
 |false=>none
theorem zld{fi:Nat}(h0:∀ (s:List UInt8) (c:Int),PFn P fi [.str s,.int .u8 c] (.int .i64 (Lib.indexByte s c.toNat.toUInt8))):J8 P (zn2 fi):=by
 intro f xs S r S' h D H n hs
 unfold zn2 at h
 split at h<;>try (cases h;done)
 rename_i hf
 have hf:=qr.1 hf
 subst hf
 split at h<;>try (cases h;done)
 rename_i s k
 have h1:=h0 s (.ofNat k)
 split at h
 ·rename_i hc
  simp only[Bool.and_eq_true,jz] at hc
  simp only[Option.some.injEq,Prod.mk.injEq] at h
  obtain⟨rfl,rfl⟩:=h
  have h2:=zeb hc.2 hc.1
  rw[show(Int.ofNat k).toNat=k from rfl,h2] at h1
  exact PFn.call h1 (And.intro (Vw.same _ rfl) (And.intro (Vw.same _ rfl) trivial)) ⟨rfl,hs⟩
 ·simp only[Option.some.injEq,Prod.mk.injEq] at h
  obtain⟨rfl,rfl⟩:=h
  exact PFn.call h1 (And.intro (Vw.same _ rfl) (And.intro (Vw.same _ rfl) trivial)) ⟨rfl,hs⟩
theorem zlz{P:Program}{ρ:Ren}(L:Proofs.Lays.n137 P ρ){f:FuncId}(hf:ρ.f 137=f)(hok:uk P f)(s:List UInt8)(c:Int) :
 PFn P f [.str s,.int .u8 c] (.int .i64 (Lib.indexByte s c.toNat.toUInt8)):=by
 subst hf
 exact PFn.lib hok rfl rfl fun w=>(Proofs.Any.strings_IndexByte L ⟨⟨s⟩⟩ c w).mono fun e w' h=>⟨h.1,zn5 h.2⟩
def y3c(P:Program)(l:List Nat)(f:Nat):Option LFn:=match l.any fun i=>Nat.beq i f with
 |false=>mkF P f
 |true=>match P.funcs[f]? with
  |some fn=>match fn.body.isSome&&!(fn.name=="runtime.NumGoroutine") with
   |true=>z1l [] (wb P [] f)
   |false=>none
  |none=>none
theorem zuy{P:Program}{l:List Nat}:z7t P (y3c P l):=by
 intro f fn h
 unfold y3c at h
 split at h
 ·exact zy4 f fn h
 ·split at h<;>try (cases h;done)
  rename_i g hg
  split at h<;>try (cases h;done)
  rename_i hb
  simp only[Bool.and_eq_true,Bool.not_eq_true'] at hb
  obtain⟨h,hi⟩:=z85 (P:=P) (fun f h=>by cases h) h
  exact⟨⟨_,h⟩,⟨g,hg,hb.1,hb.2⟩,hi⟩
def y48(P:Program)(z l:List Nat)(f:Nat):Option LFn:=match P.funcs[f]? with
 |some fn=>match fn.body.isSome&&!(fn.name=="runtime.NumGoroutine") with
  |true=>match l.any fun i=>Nat.beq i f with
   |true=>z1l z (wb P [] f)
   |false=>z1l z (wb P (List.range fn.ntmps) f)
  |false=>none
 |none=>none
def zry(u:List (Nat×List Nat))(f:Nat):List Nat:=match u.find? (fun x=>Nat.beq x.1 f) with
 |some x=>x.2
 |none=>[]
def zx8(u:List (Nat×List Nat))(f n:Nat):List Nat:=match zry u f with
 |[]=>List.range n
 |l=>(List.range n).filter fun i=>!(l.any fun j=>Nat.beq j i)
def y44(P:Program)(z:List Nat)(u:List (Nat×List Nat))(f:Nat):Option LFn:=match P.funcs[f]? with
 |some fn=>match fn.body.isSome&&!(fn.name=="runtime.NumGoroutine") with
  |true=>z1l z (wb P (zx8 u f fn.ntmps) f)
  |false=>none
 |none=>none
end Go.Fx
