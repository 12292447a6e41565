/-
  Own text GenA of this claim: what functions of the given program compute, in plain Lean, and the proof; no condition.
-/
import Derived.Test.YtlfdchgaeeadjaaDoorChecked
import Derived.Test.YtlfdchgaeeadjaaDoorFxN
import Derived.Test.YtlfdchgaeeadjaaDoorFxMd
import Derived.Test.YtlfdchgaeeadjaaDoorFxLg
import Derived.Test.YtlfdchgaeeadjaaDoorFxLb
import Derived.Test.YtlfdchgaeeadjaaDoorLib
import Derived.Test.YtlfdchgaeeadjaaDoorEv
import Derived.Test.YtlfdchgaeeadjaaDoorFxAb
import Derived.KernelRfl
namespace Go.Proofs.YtlfdchgaeeadjaaDoor
open Go.Fx
set_option linter.unusedVariables false
structure G_QJSON where
 f_Kind : Int
 f_Num : Int
 f_Text : List UInt8
 f_Names : List (List UInt8)
 f_Elems : List (List AVal)
instance : Inhabited G_QJSON := ⟨(G_QJSON.mk 0 0 [] [] [])⟩
structure G_QMessage where
 f_Kind : Int
 f_ID : Int
 f_Code : Int
 f_Method : List UInt8
 f_Body : G_QJSON
instance : Inhabited G_QMessage := ⟨(G_QMessage.mk 0 0 0 [] (G_QJSON.mk 0 0 [] [] []))⟩
def z7 (r : List AVal) : List AVal := r
def z6 (x : List UInt8) : List AVal := [.str x]
def zn3 (x : Int) : List AVal := [.int .i64 x]
def y8 (x : G_QJSON) : List AVal := [.int .i64 x.f_Kind, .int .i64 x.f_Num, .str x.f_Text, .isl 1 (x.f_Names.map z6) false, .isl 5 (x.f_Elems.map z7) false]
theorem zp7 (x : G_QJSON) : AVal.nid.nidL (y8 x) = true ∧ ∀ y ∈ y8 x, y.imm = some y := ⟨rfl, by simp [y8, AVal.imm]⟩
noncomputable def kz (r : List AVal) : Option G_QJSON := by classical exact if h : ∃ x, r = y8 x then some (Classical.choose h) else none
theorem zal {r : List AVal} {x : G_QJSON} (h : kz r = some x) : r = y8 x := by
 unfold kz at h
 split at h
 ·rename_i hx
  simp only [Option.some.injEq] at h
  rw [← h]
  exact Classical.choose_spec hx
 ·cases h
theorem wo {l : List (List AVal)} {i : Nat} {x : G_QJSON} (h : i < l.length) (hx : kz (l.getD i default) = some x) : (l.map z7).getD i [] = y8 x := (Zf z7 _ _ h).trans (zal hx)
def J7 (x : List UInt8) : AVal := .str x
theorem zpn (x : List UInt8) : (J7 x).nid = true := rfl
def Ww (x : Int) : AVal := .int .i64 x
theorem Ud (x : Int) : (Ww x).nid = true := rfl
def Q7 (x y : List UInt8) : Bool := (x == y && true)
theorem z2c (x y : List UInt8) : Q8 [.str] (J7 x) (J7 y) = some (Q7 x y) := rfl
theorem zsd (x : List UInt8) : AVal.nid.nidL (z6 x) = true ∧ ∀ y ∈ z6 x, y.imm = some y := ⟨rfl, by simp [z6, AVal.imm]⟩
theorem zsa (x : Int) : AVal.nid.nidL (zn3 x) = true ∧ ∀ y ∈ zn3 x, y.imm = some y := ⟨rfl, by simp [zn3, AVal.imm]⟩
def xn (m : Option Nat) : Option (Bool) := some true
theorem zqq {m : Option Nat} {o : Bool} (h : xn m = some o) : PFn Tryd.prog 6 [] (.bool o) := by
 cases h
 exact zpl
def zln : LCode := (.seq (.region [⟨some 1, .box (.t 0), none⟩,
 ⟨some 2, .mv (.c (.bool false)), none⟩])
 (.seq (.region [⟨some 3, .faddr 0 (.t 1), none⟩,
  ⟨some 4, .load false 1 (.t 3), none⟩,
  ⟨some 5, .bin .eql (.t 4) (.c (.int .i64 0)), none⟩,
  ⟨some 6, .mv (.t 5), none⟩,
  ⟨some 7, .faddr 1 (.t 1), some (6, true)⟩,
  ⟨some 8, .load false 1 (.t 7), some (6, true)⟩,
  ⟨some 9, .bin .eql (.t 8) (.c (.int .i64 0)), some (6, true)⟩,
  ⟨some 10, .pick (.t 6) (.t 9) (.c (.bool false)), none⟩,
  ⟨some 11, .mv (.t 10), none⟩,
  ⟨some 12, .faddr 2 (.t 1), some (11, true)⟩,
  ⟨some 13, .load false 1 (.t 12), some (11, true)⟩,
  ⟨some 14, .bin .eql (.t 13) (.c (.str [])), some (11, true)⟩,
  ⟨some 15, .pick (.t 11) (.t 14) (.c (.bool false)), none⟩,
  ⟨some 16, .mv (.t 15), none⟩,
  ⟨some 17, .faddr 3 (.t 1), some (16, true)⟩,
  ⟨some 18, .load false 1 (.t 17), some (16, true)⟩,
  ⟨some 19, .len false (.t 18), some (16, true)⟩,
  ⟨some 20, .faddr 4 (.t 1), some (16, true)⟩,
  ⟨some 21, .load false 1 (.t 20), some (16, true)⟩,
  ⟨some 22, .len false (.t 21), some (16, true)⟩,
  ⟨some 23, .bin .add (.t 19) (.t 22), some (16, true)⟩,
  ⟨some 24, .bin .eql (.t 23) (.c (.int .i64 0)), some (16, true)⟩,
  ⟨some 25, .pick (.t 16) (.t 24) (.c (.bool false)), none⟩,
  ⟨some 2, .mv (.t 25), none⟩])
 .ret))
def zfz : Lay := ⟨26, [], false⟩
def ze7 : List LRes := [.t 2]
def zr7 : LFn := ⟨1, zfz, zln, ze7⟩
theorem zm8 : w8 Tryd.prog [] 34 = some zr7 := by kernel_rfl
theorem zob : uf Tryd.prog 34 := ⟨_, Tryd.func34, rfl, rfl⟩
noncomputable def jo (m : Option Nat) (a0 : G_QJSON) : Option Bool :=
 some ((((a0.f_Kind == 0) && (a0.f_Num == 0)) && (a0.f_Text == ([] : List UInt8))) && ((W (((a0.f_Names.map z6).length : Int) + ((a0.f_Elems.map z7).length : Int))) == 0))
def zsf (a0 : G_QJSON) (o : Bool) : Exit → Env → AHeap → Nat → Prop := Zy ze7 (j1 (.bool o))
theorem zdg {a0 : G_QJSON} {m : Option Nat} {o : Bool} (h : jo m a0 = some o) : LWp Tryd.prog zfz 0 zln (zsf a0 o) (yx 0 [.agg [.int .i64 a0.f_Kind, .int .i64 a0.f_Num, .str a0.f_Text, .isl 1 (a0.f_Names.map z6) false, .isl 5 (a0.f_Elems.map z7) false]]) [] 0 := by
 unfold jo at h
 refine zb ?_
 refine zj ?_
 refine zb ?_
 refine zj ?_
 refine AI (fun hp => hp) ?_
 refine AI (fun hp => hp) ?_
 refine AI (fun hc => (bqt hc)) ?_
 refine AI (fun hp => hp) ?_
 refine AI (fun hp => hp) ?_
 refine AI (fun hc => (bqt hc)) ?_
 refine AI (fun hp => hp) ?_
 refine AI (fun hp => hp) ?_
 refine AI (fun hp => hp) ?_
 refine AI (fun hp => hp) ?_
 refine AI (fun hp => (AI hp hp)) ?_
 refine AI (fun hp => hp) ?_
 refine AI (fun hc => (bqt hc)) ?_
 refine LWp.sim (e := [(2, .bool ((((a0.f_Kind == 0) && (a0.f_Num == 0)) && (a0.f_Text == ([] : List UInt8))) && ((W (((a0.f_Names.map z6).length : Int) + ((a0.f_Elems.map z7).length : Int))) == 0)))]) (L := []) (n := 0) ?_ ?_
 ·exact xa (M := []) rfl (AI (VS rfl) TT) TT
 refine wg ?_
 cases h
 exact AI TT (AI rfl (VS rfl))
theorem zq8 {a0 : G_QJSON} {m : Option Nat} {o : Bool} (h : jo m a0 = some o) : PFn Tryd.prog 34 [.agg [.int .i64 a0.f_Kind, .int .i64 a0.f_Num, .str a0.f_Text, .isl 1 (a0.f_Names.map z6) false, .isl 5 (a0.f_Elems.map z7) false]] (.bool o) := PFn.ofFnW (L := zr7) zm8 zob (NB rfl) rfl (zdg h)
def j2 (m : Option Nat) (a0 : List UInt8) : Option Bool := if a0.length ≤ 9223372036854775807 then some (Go.Lib.validD a0) else none
theorem zmi : uf Tryd.prog 68 := ⟨_, Tryd.func68, rfl, rfl⟩
theorem zd7 {m : Option Nat} {a0 : List UInt8} {o : Bool} (h : j2 m a0 = some o) : PFn Tryd.prog 68 [.str a0] (.bool o) := by
 unfold j2 at h
 split at h
 ·rename_i hc
  cases h
  exact z3c Tryd.l68 rfl rfl zmi (by rw [zpz]; exact .head _) (by rw [zpz]; exact .tail _ (.head _)) hc
 ·cases h
def zkg : LCode := (.seq (.region [⟨some 4, .mv (.c (.bool false)), none⟩])
 (.seq (.region [⟨some 5, .mv (.t 0), none⟩,
  ⟨some 6, .len true (.t 5), none⟩,
  ⟨some 7, .mv (.t 1), none⟩,
  ⟨some 8, .bin .geq (.t 6) (.t 7), none⟩,
  ⟨some 9, .mv (.t 8), none⟩,
  ⟨some 10, .mv (.t 0), some (9, true)⟩,
  ⟨some 11, .len true (.t 10), some (9, true)⟩,
  ⟨some 12, .bin .leq (.t 11) (.c (.int .i64 60)), some (9, true)⟩,
  ⟨some 13, .pick (.t 9) (.t 12) (.c (.bool false)), none⟩,
  ⟨some 14, .mv (.t 13), none⟩,
  ⟨some 15, .mv (.t 0), some (14, true)⟩,
  ⟨some 16, .call 68 [(.t 15)], some (14, true)⟩,
  ⟨some 17, .pick (.t 14) (.t 16) (.c (.bool false)), none⟩,
  ⟨some 4, .mv (.t 17), none⟩])
 .ret))
def zfn : Lay := ⟨18, [], false⟩
def zeq : List LRes := [.t 4]
def zrb : LFn := ⟨2, zfn, zkg, zeq⟩
theorem zlz : w8 Tryd.prog [] 46 = some zrb := by kernel_rfl
theorem zms : uf Tryd.prog 46 := ⟨_, Tryd.func46, rfl, rfl⟩
noncomputable def x9 (m : Option Nat) (a0 : List UInt8) (a1 : Int) : Option Bool :=
 (if (((decide ((a0.length : Int) ≥ a1)) && (decide ((a0.length : Int) ≤ 60))) == true) = true then j2 m a0 else some default).bind fun v1 =>
 some (((decide ((a0.length : Int) ≥ a1)) && (decide ((a0.length : Int) ≤ 60))) && v1)
def zss (a0 : List UInt8) (a1 : Int) (o : Bool) : Exit → Env → AHeap → Nat → Prop := Zy zeq (j1 (.bool o))
theorem zch {a0 : List UInt8} {a1 : Int} {m : Option Nat} {o : Bool} (h : x9 m a0 a1 = some o) : LWp Tryd.prog zfn 0 zkg (zss a0 a1 o) (yx 0 [.str a0, .int .i64 a1]) [] 0 := by
 unfold x9 at h
 refine zb ?_
 refine zj ?_
 refine zb ?_
 refine zj ?_
 refine AI (fun hp => hp) ?_
 refine AI (fun hp => hp) ?_
 refine AI (fun hc => (bqt hc)) ?_
 obtain ⟨v1, h1, h⟩ := bind_some h
 refine Or.inl (EX (.bool v1) (AI (fun hp => AI hp (PFn.call (zd7 (zk hp h1)) (AI (VS rfl) TT) (AI rfl (AI rfl rfl)))) ?_))
 refine AI (fun hc => (bqt hc)) ?_
 refine LWp.sim (e := [(4, .bool (((decide ((a0.length : Int) ≥ a1)) && (decide ((a0.length : Int) ≤ 60))) && v1))]) (L := []) (n := 0) ?_ ?_
 ·exact xa (M := []) rfl (AI (VS rfl) TT) TT
 refine wg ?_
 cases h
 exact AI TT (AI rfl (VS rfl))
theorem zfp {a0 : List UInt8} {a1 : Int} {m : Option Nat} {o : Bool} (h : x9 m a0 a1 = some o) : PFn Tryd.prog 46 [.str a0, .int .i64 a1] (.bool o) := PFn.ofFnW (L := zrb) zlz zms (NB rfl) rfl (zch h)
def zku : LCode := (.seq (.region [⟨some 1, .box (.t 0), none⟩,
 ⟨some 2, .mv (.c (.bool false)), none⟩])
 (.seq (.seq (.region [⟨some 3, .faddr 0 (.t 1), none⟩,
  ⟨some 4, .load false 1 (.t 3), none⟩])
 (.block 0
  (.seq (.region [⟨some 6, .bin .eql (.t 4) (.c (.int .i64 1)), none⟩,
   ⟨some 5, .mv (.t 6), none⟩])
  (.cond (.t 5)
   (.seq (.region [⟨some 7, .faddr 3 (.t 1), none⟩,
    ⟨some 8, .load false 1 (.t 7), none⟩,
    ⟨some 9, .call 46 [(.t 8), (.c (.int .i64 1))], none⟩,
    ⟨some 2, .mv (.t 9), none⟩])
   .ret)
   (.seq (.region [⟨some 11, .bin .eql (.t 4) (.c (.int .i64 2)), none⟩,
    ⟨some 10, .mv (.t 11), none⟩])
   (.cond (.t 10)
    (.seq (.region [⟨some 12, .faddr 3 (.t 1), none⟩,
     ⟨some 13, .load false 1 (.t 12), none⟩,
     ⟨some 14, .call 46 [(.t 13), (.c (.int .i64 1))], none⟩,
     ⟨some 15, .mv (.t 14), none⟩,
     ⟨some 16, .faddr 3 (.t 1), some (15, true)⟩,
     ⟨some 17, .load false 1 (.t 16), some (15, true)⟩,
     ⟨some 18, .bin .neq (.t 17) (.c (.str [36, 47, 99, 97, 110, 99, 101, 108])), some (15, true)⟩,
     ⟨some 19, .pick (.t 15) (.t 18) (.c (.bool false)), none⟩,
     ⟨some 2, .mv (.t 19), none⟩])
    .ret)
    (.seq (.region [⟨some 21, .bin .eql (.t 4) (.c (.int .i64 4)), none⟩,
     ⟨some 20, .mv (.t 21), none⟩])
    (.cond (.t 20)
     (.seq (.region [⟨some 22, .faddr 3 (.t 1), none⟩,
      ⟨some 23, .load false 1 (.t 22), none⟩,
      ⟨some 24, .call 46 [(.t 23), (.c (.int .i64 0))], none⟩,
      ⟨some 2, .mv (.t 24), none⟩])
     .ret)
     .skip))))))))
 (.seq (.region [⟨some 25, .faddr 3 (.t 1), none⟩,
  ⟨some 26, .load false 1 (.t 25), none⟩,
  ⟨some 27, .bin .eql (.t 26) (.c (.str [])), none⟩,
  ⟨some 2, .mv (.t 27), none⟩])
 .ret)))
def zdh : Lay := ⟨28, [], false⟩
def zg7 : List LRes := [.t 2]
def zq4 : LFn := ⟨1, zdh, zku, zg7⟩
theorem zod : w8 Tryd.prog [] 50 = some zq4 := by kernel_rfl
theorem zne : uf Tryd.prog 50 := ⟨_, Tryd.func50, rfl, rfl⟩
noncomputable def x8 (m : Option Nat) (a0 : G_QMessage) : Option Bool :=
 if (a0.f_Kind == 1) = true then
  (x9 m a0.f_Method 1).bind fun v1 =>
  some v1
 else
  if (a0.f_Kind == 2) = true then
   (x9 m a0.f_Method 1).bind fun v2 =>
   some (v2 && (!(a0.f_Method == ([36, 47, 99, 97, 110, 99, 101, 108] : List UInt8))))
  else
   if (a0.f_Kind == 4) = true then
    (x9 m a0.f_Method 0).bind fun v3 =>
    some v3
   else
    some (a0.f_Method == ([] : List UInt8))
def ztm (a0 : G_QMessage) (o : Bool) : Exit → Env → AHeap → Nat → Prop := Zy zg7 (j1 (.bool o))
theorem zh2 {a0 : G_QMessage} {m : Option Nat} {o : Bool} (h : x8 m a0 = some o) : LWp Tryd.prog zdh 0 zku (ztm a0 o) (yx 0 [.agg [.int .i64 a0.f_Kind, .int .i64 a0.f_ID, .int .i64 a0.f_Code, .str a0.f_Method, .int .i64 a0.f_Body.f_Kind, .int .i64 a0.f_Body.f_Num, .str a0.f_Body.f_Text, .isl 1 (a0.f_Body.f_Names.map z6) false, .isl 5 (a0.f_Body.f_Elems.map z7) false]]) [] 0 := by
 unfold x8 at h
 refine zb ?_
 refine zj ?_
 refine zb ?_
 refine zb ?_
 refine zj ?_
 refine je ?_
 refine zb ?_
 refine zj ?_
 refine qr (v := (a0.f_Kind == 1)) rfl TT (fun h1 => ?_) (fun h1 => ?_)
 ·have h := zk h1 h
  refine zb ?_
  refine zj ?_
  obtain ⟨v1, h2, h⟩ := bind_some h
  refine PFn.call (zfp h2) (AI (VS rfl) (AI (VS rfl) TT)) ?_
  refine LWp.sim (e := [(2, .bool v1)]) (L := []) (n := 0) ?_ ?_
  ·exact xa (M := []) rfl (AI (VS rfl) TT) TT
  refine wg ?_
  cases h
  exact AI TT (AI rfl (VS rfl))
 ·have h := zw h1 h
  refine zb ?_
  refine zj ?_
  refine LWp.sim (e := [(1, .ptr (0, 0) 0 0), (4, .int .i64 a0.f_Kind), (10, .bool (a0.f_Kind == 2))]) (L := [((0, 0), .one [.int .i64 a0.f_Kind, .int .i64 a0.f_ID, .int .i64 a0.f_Code, .str a0.f_Method, .int .i64 a0.f_Body.f_Kind, .int .i64 a0.f_Body.f_Num, .str a0.f_Body.f_Text, .isl 1 (a0.f_Body.f_Names.map z6) false, .isl 5 (a0.f_Body.f_Elems.map z7) false])]) (n := 1) ?_ ?_
  ·exact xa (M := [((0, 0), (0, 0))]) rfl (AI (Vw.ptr _ _ _ _ rfl) (AI (VS rfl) (AI (VS rfl) TT))) (AI (AI rfl (BVw.oneL (AI (VS rfl) (AI (VS rfl) (AI (VS rfl) (AI (VS rfl) (AI (VS rfl) (AI (VS rfl) (AI (VS rfl) (AI (VS rfl) (AI (VS rfl) TT))))))))))) TT)
  refine qr (v := (a0.f_Kind == 2)) rfl TT (fun h3 => ?_) (fun h3 => ?_)
  ·have h := zk h3 h
   refine zb ?_
   refine zj ?_
   obtain ⟨v2, h4, h⟩ := bind_some h
   refine PFn.call (zfp h4) (AI (VS rfl) (AI (VS rfl) TT)) ?_
   refine AI (fun hp => hp) ?_
   refine AI (fun hp => hp) ?_
   refine AI (fun hc => (bqt hc)) ?_
   refine LWp.sim (e := [(2, .bool (v2 && (!(a0.f_Method == ([36, 47, 99, 97, 110, 99, 101, 108] : List UInt8)))))]) (L := []) (n := 0) ?_ ?_
   ·exact xa (M := []) rfl (AI (VS rfl) TT) TT
   refine wg ?_
   cases h
   exact AI TT (AI rfl (VS rfl))
  ·have h := zw h3 h
   refine zb ?_
   refine zj ?_
   refine qr (v := (a0.f_Kind == 4)) rfl TT (fun h5 => ?_) (fun h5 => ?_)
   ·have h := zk h5 h
    refine zb ?_
    refine zj ?_
    obtain ⟨v3, h6, h⟩ := bind_some h
    refine PFn.call (zfp h6) (AI (VS rfl) (AI (VS rfl) TT)) ?_
    refine wg ?_
    cases h
    exact AI TT (AI rfl (VS rfl))
   ·have h := zw h5 h
    refine ji ?_
    refine zb ?_
    refine zj ?_
    refine wg ?_
    cases h
    exact AI TT (AI rfl (VS rfl))
theorem zpf {a0 : G_QMessage} {m : Option Nat} {o : Bool} (h : x8 m a0 = some o) : PFn Tryd.prog 50 [.agg [.int .i64 a0.f_Kind, .int .i64 a0.f_ID, .int .i64 a0.f_Code, .str a0.f_Method, .int .i64 a0.f_Body.f_Kind, .int .i64 a0.f_Body.f_Num, .str a0.f_Body.f_Text, .isl 1 (a0.f_Body.f_Names.map z6) false, .isl 5 (a0.f_Body.f_Elems.map z7) false]] (.bool o) := PFn.ofFnW (L := zq4) zod zne (NB rfl) rfl (zh2 h)
def zkr : LCode := (.cond (.t 39)
 (.seq (.region [⟨some 2, .mv (.c (.bool false)), none⟩])
 .ret)
 (.seq (.region [⟨some 59, .mv (.t 5), none⟩,
  ⟨some 60, .un .not (.t 59), none⟩,
  ⟨some 61, .mv (.t 60), none⟩,
  ⟨some 62, .faddr 4 (.t 1), some (61, true)⟩,
  ⟨some 63, .load true 5 (.t 62), some (61, true)⟩,
  ⟨some 64, .call 34 [(.t 63)], some (61, true)⟩,
  ⟨some 65, .un .not (.t 64), some (61, true)⟩,
  ⟨some 66, .pick (.t 61) (.t 65) (.c (.bool false)), none⟩,
  ⟨some 58, .mv (.t 66), none⟩])
 (.cond (.t 58)
  (.seq (.region [⟨some 2, .mv (.c (.bool false)), none⟩])
  .ret)
  .skip)))
def zkh : LCode := (.cond (.t 20)
 (.seq (.region [⟨some 2, .mv (.c (.bool false)), none⟩])
 .ret)
 (.seq (.seq (.region [⟨some 40, .mv (.t 4), none⟩,
  ⟨some 41, .mv (.t 40), none⟩,
  ⟨some 42, .faddr 2 (.t 1), some (41, true)⟩,
  ⟨some 43, .load false 1 (.t 42), some (41, true)⟩,
  ⟨some 44, .bin .lss (.t 43) (.c (.int .i64 1)), some (41, true)⟩,
  ⟨some 45, .mv (.t 44), some (41, true)⟩,
  ⟨some 46, .faddr 2 (.t 1), some (45, false)⟩,
  ⟨some 47, .load false 1 (.t 46), some (45, false)⟩,
  ⟨some 48, .bin .gtr (.t 47) (.c (.int .i64 99)), some (45, false)⟩,
  ⟨some 49, .pick (.t 45) (.c (.bool true)) (.t 48), some (41, true)⟩,
  ⟨some 50, .pick (.t 41) (.t 49) (.c (.bool false)), none⟩,
  ⟨some 39, .mv (.t 50), none⟩])
 (.cond (.t 39)
  .skip
  (.region [⟨some 51, .mv (.t 4), none⟩,
   ⟨some 52, .un .not (.t 51), none⟩,
   ⟨some 53, .mv (.t 52), none⟩,
   ⟨some 54, .faddr 2 (.t 1), some (53, true)⟩,
   ⟨some 55, .load false 1 (.t 54), some (53, true)⟩,
   ⟨some 56, .bin .neq (.t 55) (.c (.int .i64 0)), some (53, true)⟩,
   ⟨some 57, .pick (.t 53) (.t 56) (.c (.bool false)), none⟩,
   ⟨some 39, .mv (.t 57), none⟩])))
 zkr))
def zgy : LCode := (.seq (.region [⟨some 67, .load true 9 (.t 1), none⟩,
 ⟨some 68, .call 50 [(.t 67)], none⟩,
 ⟨some 2, .mv (.t 68), none⟩])
 .ret)
def zkw : LCode := (.seq (.region [⟨some 1, .box (.t 0), none⟩,
 ⟨some 2, .mv (.c (.bool false)), none⟩])
 (.seq (.region [⟨some 6, .faddr 0 (.t 1), none⟩,
  ⟨some 7, .load false 1 (.t 6), none⟩,
  ⟨some 8, .bin .neq (.t 7) (.c (.int .i64 2)), none⟩,
  ⟨some 3, .mv (.t 8), none⟩])
 (.seq (.region [⟨some 9, .faddr 0 (.t 1), none⟩,
  ⟨some 10, .load false 1 (.t 9), none⟩,
  ⟨some 11, .bin .eql (.t 10) (.c (.int .i64 4)), none⟩,
  ⟨some 4, .mv (.t 11), none⟩])
 (.seq (.region [⟨some 12, .faddr 0 (.t 1), none⟩,
  ⟨some 13, .load false 1 (.t 12), none⟩,
  ⟨some 14, .bin .neq (.t 13) (.c (.int .i64 4)), none⟩,
  ⟨some 15, .mv (.t 14), none⟩,
  ⟨some 16, .faddr 0 (.t 1), some (15, true)⟩,
  ⟨some 17, .load false 1 (.t 16), some (15, true)⟩,
  ⟨some 18, .bin .neq (.t 17) (.c (.int .i64 5)), some (15, true)⟩,
  ⟨some 19, .pick (.t 15) (.t 18) (.c (.bool false)), none⟩,
  ⟨some 5, .mv (.t 19), none⟩])
 (.seq (.block 0
  (.seq (.seq (.region [⟨some 21, .mv (.t 3), none⟩,
   ⟨some 22, .mv (.t 21), none⟩,
   ⟨some 23, .faddr 1 (.t 1), some (22, true)⟩,
   ⟨some 24, .load false 1 (.t 23), some (22, true)⟩,
   ⟨some 25, .bin .lss (.t 24) (.c (.int .i64 0)), some (22, true)⟩,
   ⟨some 26, .mv (.t 25), some (22, true)⟩,
   ⟨some 27, .faddr 1 (.t 1), some (26, false)⟩,
   ⟨some 28, .load false 1 (.t 27), some (26, false)⟩,
   ⟨some 29, .bin .gtr (.t 28) (.c (.int .i64 2147483647)), some (26, false)⟩,
   ⟨some 30, .pick (.t 26) (.c (.bool true)) (.t 29), some (22, true)⟩,
   ⟨some 31, .pick (.t 22) (.t 30) (.c (.bool false)), none⟩,
   ⟨some 20, .mv (.t 31), none⟩])
  (.cond (.t 20)
   .skip
   (.region [⟨some 32, .mv (.t 3), none⟩,
    ⟨some 33, .un .not (.t 32), none⟩,
    ⟨some 34, .mv (.t 33), none⟩,
    ⟨some 35, .faddr 1 (.t 1), some (34, true)⟩,
    ⟨some 36, .load false 1 (.t 35), some (34, true)⟩,
    ⟨some 37, .bin .neq (.t 36) (.c (.int .i64 0)), some (34, true)⟩,
    ⟨some 38, .pick (.t 34) (.t 37) (.c (.bool false)), none⟩,
    ⟨some 20, .mv (.t 38), none⟩])))
  zkh))
 zgy)))))
def W2 : Lay := ⟨69, [], false⟩
def zgr : List LRes := [.t 2]
def zqr : LFn := ⟨1, W2, zkw, zgr⟩
theorem zmx : w8 Tryd.prog [] 27 = some zqr := by kernel_rfl
theorem zmm : uf Tryd.prog 27 := ⟨_, Tryd.func27, rfl, rfl⟩
noncomputable def xf (m : Option Nat) (a0 : G_QMessage) (v2 : Bool) : Option Bool :=
 if v2 = true then
  some false
 else
  (if ((!((a0.f_Kind != 4) && (a0.f_Kind != 5))) == true) = true then jo m (G_QJSON.mk a0.f_Body.f_Kind a0.f_Body.f_Num a0.f_Body.f_Text a0.f_Body.f_Names a0.f_Body.f_Elems) else some default).bind fun v3 =>
  if ((!((a0.f_Kind != 4) && (a0.f_Kind != 5))) && (!v3)) = true then
   some false
  else
   (x8 m (G_QMessage.mk a0.f_Kind a0.f_ID a0.f_Code a0.f_Method (G_QJSON.mk a0.f_Body.f_Kind a0.f_Body.f_Num a0.f_Body.f_Text a0.f_Body.f_Names a0.f_Body.f_Elems))).bind fun v4 =>
   some v4
def zol (a0 : G_QMessage) (o : Bool) : Exit → Env → AHeap → Nat → Prop := Zy zgr (j1 (.bool o))
theorem z2w {a0 : G_QMessage} {v2 : Bool} {m : Option Nat} {o : Bool} (h : xf m a0 v2 = some o) :
 LWp Tryd.prog W2 0 zkr (xy 0 (X3 Tryd.prog W2 0 zgy (zol a0 o))) [(1, .ptr (0, 0) 0 0), (5, .bool ((a0.f_Kind != 4) && (a0.f_Kind != 5))), (39, .bool v2)] [((0, 0), .one [.int .i64 a0.f_Kind, .int .i64 a0.f_ID, .int .i64 a0.f_Code, .str a0.f_Method, .int .i64 a0.f_Body.f_Kind, .int .i64 a0.f_Body.f_Num, .str a0.f_Body.f_Text, .isl 1 (a0.f_Body.f_Names.map z6) false, .isl 5 (a0.f_Body.f_Elems.map z7) false])] 1 := by
 unfold xf at h
 refine qr (v := v2) rfl TT (fun h4 => ?_) (fun h4 => ?_)
 ·have h := zk h4 h
  refine zb ?_
  refine zj ?_
  refine wg ?_
  cases h
  exact AI TT (AI rfl (VS rfl))
 ·have h := zw h4 h
  refine zb ?_
  refine zj ?_
  refine AI (fun hp => hp) ?_
  obtain ⟨v3, h5, h⟩ := bind_some h
  refine Or.inl (EX (.bool v3) (AI (fun hp => AI hp (PFn.call (zq8 (zk hp h5)) (AI (VS rfl) TT) (AI rfl (AI rfl rfl)))) ?_))
  refine AI (fun hp => hp) ?_
  refine AI (fun hc => (bqt hc)) ?_
  refine LWp.sim (e := [(1, .ptr (0, 0) 0 0), (58, .bool ((!((a0.f_Kind != 4) && (a0.f_Kind != 5))) && (!v3)))]) (L := [((0, 0), .one [.int .i64 a0.f_Kind, .int .i64 a0.f_ID, .int .i64 a0.f_Code, .str a0.f_Method, .int .i64 a0.f_Body.f_Kind, .int .i64 a0.f_Body.f_Num, .str a0.f_Body.f_Text, .isl 1 (a0.f_Body.f_Names.map z6) false, .isl 5 (a0.f_Body.f_Elems.map z7) false])]) (n := 1) ?_ ?_
  ·exact xa (M := [((0, 0), (0, 0))]) rfl (AI (Vw.ptr _ _ _ _ rfl) (AI (VS rfl) TT)) (AI (AI rfl (BVw.oneL (AI (VS rfl) (AI (VS rfl) (AI (VS rfl) (AI (VS rfl) (AI (VS rfl) (AI (VS rfl) (AI (VS rfl) (AI (VS rfl) (AI (VS rfl) TT))))))))))) TT)
  refine qr (v := ((!((a0.f_Kind != 4) && (a0.f_Kind != 5))) && (!v3))) rfl TT (fun h6 => ?_) (fun h6 => ?_)
  ·have h := zk h6 h
   refine zb ?_
   refine zj ?_
   refine wg ?_
   cases h
   exact AI TT (AI rfl (VS rfl))
  ·have h := zw h6 h
   refine ji ?_
   refine zb ?_
   refine zj ?_
   obtain ⟨v4, h7, h⟩ := bind_some h
   refine PFn.call (zpf h7) (AI (VS rfl) TT) ?_
   refine wg ?_
   cases h
   exact AI TT (AI rfl (VS rfl))
noncomputable def xg (m : Option Nat) (a0 : G_QMessage) (v1 : Bool) : Option Bool :=
 if v1 = true then
  some false
 else
  if ((a0.f_Kind == 4) && ((decide (a0.f_Code < 1)) || (decide (a0.f_Code > 99)))) = true then
   xf m a0 ((a0.f_Kind == 4) && ((decide (a0.f_Code < 1)) || (decide (a0.f_Code > 99))))
  else
   xf m a0 ((!(a0.f_Kind == 4)) && (a0.f_Code != 0))
theorem z3o {a0 : G_QMessage} {v1 : Bool} {m : Option Nat} {o : Bool} (h : xg m a0 v1 = some o) :
 LWp Tryd.prog W2 0 zkh (xy 0 (X3 Tryd.prog W2 0 zgy (zol a0 o))) [(1, .ptr (0, 0) 0 0), (4, .bool (a0.f_Kind == 4)), (5, .bool ((a0.f_Kind != 4) && (a0.f_Kind != 5))), (20, .bool v1)] [((0, 0), .one [.int .i64 a0.f_Kind, .int .i64 a0.f_ID, .int .i64 a0.f_Code, .str a0.f_Method, .int .i64 a0.f_Body.f_Kind, .int .i64 a0.f_Body.f_Num, .str a0.f_Body.f_Text, .isl 1 (a0.f_Body.f_Names.map z6) false, .isl 5 (a0.f_Body.f_Elems.map z7) false])] 1 := by
 unfold xg at h
 refine qr (v := v1) rfl TT (fun h2 => ?_) (fun h2 => ?_)
 ·have h := zk h2 h
  refine zb ?_
  refine zj ?_
  refine wg ?_
  cases h
  exact AI TT (AI rfl (VS rfl))
 ·have h := zw h2 h
  refine zb ?_
  refine zb ?_
  refine zj ?_
  refine AI (fun hp => hp) ?_
  refine AI (fun hp => hp) ?_
  refine AI (fun hp => hp) ?_
  refine AI (fun hp => hp) ?_
  refine AI (fun hp => hp) ?_
  refine AI (fun hp => (AI hp (fun hc => (z20 hp (bqf hc))))) ?_
  refine AI (fun hc => (bqt hc)) ?_
  refine LWp.sim (e := [(1, .ptr (0, 0) 0 0), (4, .bool (a0.f_Kind == 4)), (5, .bool ((a0.f_Kind != 4) && (a0.f_Kind != 5))), (39, .bool ((a0.f_Kind == 4) && ((decide (a0.f_Code < 1)) || (decide (a0.f_Code > 99)))))]) (L := [((0, 0), .one [.int .i64 a0.f_Kind, .int .i64 a0.f_ID, .int .i64 a0.f_Code, .str a0.f_Method, .int .i64 a0.f_Body.f_Kind, .int .i64 a0.f_Body.f_Num, .str a0.f_Body.f_Text, .isl 1 (a0.f_Body.f_Names.map z6) false, .isl 5 (a0.f_Body.f_Elems.map z7) false])]) (n := 1) ?_ ?_
  ·exact xa (M := [((0, 0), (0, 0))]) rfl (AI (Vw.ptr _ _ _ _ rfl) (AI (VS rfl) (AI (VS rfl) (AI (VS rfl) TT)))) (AI (AI rfl (BVw.oneL (AI (VS rfl) (AI (VS rfl) (AI (VS rfl) (AI (VS rfl) (AI (VS rfl) (AI (VS rfl) (AI (VS rfl) (AI (VS rfl) (AI (VS rfl) TT))))))))))) TT)
  refine qr (v := ((a0.f_Kind == 4) && ((decide (a0.f_Code < 1)) || (decide (a0.f_Code > 99))))) rfl TT (fun h3 => ?_) (fun h3 => ?_)
  ·have h := zk h3 h
   refine ji ?_
   refine LWp.sim ?_ (z2w h)
   exact xa (M := [((0, 0), (0, 0))]) rfl (AI (Vw.ptr _ _ _ _ rfl) (AI (VS rfl) (AI (VS rfl) TT))) (AI (AI rfl (BVw.oneL (AI (VS rfl) (AI (VS rfl) (AI (VS rfl) (AI (VS rfl) (AI (VS rfl) (AI (VS rfl) (AI (VS rfl) (AI (VS rfl) (AI (VS rfl) TT))))))))))) TT)
  ·have h := zw h3 h
   refine zj ?_
   refine AI (fun hp => hp) ?_
   refine AI (fun hp => hp) ?_
   refine AI (fun hc => (bqt hc)) ?_
   refine LWp.sim ?_ (z2w h)
   exact xa (M := [((0, 0), (0, 0))]) rfl (AI (Vw.ptr _ _ _ _ rfl) (AI (VS rfl) (AI (VS rfl) TT))) (AI (AI rfl (BVw.oneL (AI (VS rfl) (AI (VS rfl) (AI (VS rfl) (AI (VS rfl) (AI (VS rfl) (AI (VS rfl) (AI (VS rfl) (AI (VS rfl) (AI (VS rfl) TT))))))))))) TT)
noncomputable def xl (m : Option Nat) (a0 : G_QMessage) : Option Bool :=
 if ((a0.f_Kind != 2) && ((decide (a0.f_ID < 0)) || (decide (a0.f_ID > 2147483647)))) = true then
  xg m a0 ((a0.f_Kind != 2) && ((decide (a0.f_ID < 0)) || (decide (a0.f_ID > 2147483647))))
 else
  xg m a0 ((!(a0.f_Kind != 2)) && (a0.f_ID != 0))
theorem zhg {a0 : G_QMessage} {m : Option Nat} {o : Bool} (h : xl m a0 = some o) : LWp Tryd.prog W2 0 zkw (zol a0 o) (yx 0 [.agg [.int .i64 a0.f_Kind, .int .i64 a0.f_ID, .int .i64 a0.f_Code, .str a0.f_Method, .int .i64 a0.f_Body.f_Kind, .int .i64 a0.f_Body.f_Num, .str a0.f_Body.f_Text, .isl 1 (a0.f_Body.f_Names.map z6) false, .isl 5 (a0.f_Body.f_Elems.map z7) false]]) [] 0 := by
 unfold xl at h
 refine zb ?_
 refine zj ?_
 refine zb ?_
 refine zj ?_
 refine zb ?_
 refine zj ?_
 refine LWp.sim (e := [(1, .ptr (0, 0) 0 0), (3, .bool (a0.f_Kind != 2)), (4, .bool (a0.f_Kind == 4))]) (L := [((0, 0), .one [.int .i64 a0.f_Kind, .int .i64 a0.f_ID, .int .i64 a0.f_Code, .str a0.f_Method, .int .i64 a0.f_Body.f_Kind, .int .i64 a0.f_Body.f_Num, .str a0.f_Body.f_Text, .isl 1 (a0.f_Body.f_Names.map z6) false, .isl 5 (a0.f_Body.f_Elems.map z7) false])]) (n := 1) ?_ ?_
 ·exact xa (M := [((0, 0), (0, 0))]) rfl (AI (Vw.ptr _ _ _ _ rfl) (AI (VS rfl) (AI (VS rfl) TT))) (AI (AI rfl (BVw.oneL (AI (VS rfl) (AI (VS rfl) (AI (VS rfl) (AI (VS rfl) (AI (VS rfl) (AI (VS rfl) (AI (VS rfl) (AI (VS rfl) (AI (VS rfl) TT))))))))))) TT)
 refine zb ?_
 refine zj ?_
 refine AI (fun hp => hp) ?_
 refine AI (fun hp => hp) ?_
 refine AI (fun hc => (bqt hc)) ?_
 refine LWp.sim (e := [(1, .ptr (0, 0) 0 0), (3, .bool (a0.f_Kind != 2)), (4, .bool (a0.f_Kind == 4)), (5, .bool ((a0.f_Kind != 4) && (a0.f_Kind != 5)))]) (L := [((0, 0), .one [.int .i64 a0.f_Kind, .int .i64 a0.f_ID, .int .i64 a0.f_Code, .str a0.f_Method, .int .i64 a0.f_Body.f_Kind, .int .i64 a0.f_Body.f_Num, .str a0.f_Body.f_Text, .isl 1 (a0.f_Body.f_Names.map z6) false, .isl 5 (a0.f_Body.f_Elems.map z7) false])]) (n := 1) ?_ ?_
 ·exact xa (M := [((0, 0), (0, 0))]) rfl (AI (Vw.ptr _ _ _ _ rfl) (AI (VS rfl) (AI (VS rfl) (AI (VS rfl) TT)))) (AI (AI rfl (BVw.oneL (AI (VS rfl) (AI (VS rfl) (AI (VS rfl) (AI (VS rfl) (AI (VS rfl) (AI (VS rfl) (AI (VS rfl) (AI (VS rfl) (AI (VS rfl) TT))))))))))) TT)
 refine zb ?_
 refine je ?_
 refine zb ?_
 refine zb ?_
 refine zj ?_
 refine AI (fun hp => hp) ?_
 refine AI (fun hp => hp) ?_
 refine AI (fun hp => hp) ?_
 refine AI (fun hp => hp) ?_
 refine AI (fun hp => hp) ?_
 refine AI (fun hp => (AI hp (fun hc => (z20 hp (bqf hc))))) ?_
 refine AI (fun hc => (bqt hc)) ?_
 refine LWp.sim (e := [(1, .ptr (0, 0) 0 0), (3, .bool (a0.f_Kind != 2)), (4, .bool (a0.f_Kind == 4)), (5, .bool ((a0.f_Kind != 4) && (a0.f_Kind != 5))), (20, .bool ((a0.f_Kind != 2) && ((decide (a0.f_ID < 0)) || (decide (a0.f_ID > 2147483647)))))]) (L := [((0, 0), .one [.int .i64 a0.f_Kind, .int .i64 a0.f_ID, .int .i64 a0.f_Code, .str a0.f_Method, .int .i64 a0.f_Body.f_Kind, .int .i64 a0.f_Body.f_Num, .str a0.f_Body.f_Text, .isl 1 (a0.f_Body.f_Names.map z6) false, .isl 5 (a0.f_Body.f_Elems.map z7) false])]) (n := 1) ?_ ?_
 ·exact xa (M := [((0, 0), (0, 0))]) rfl (AI (Vw.ptr _ _ _ _ rfl) (AI (VS rfl) (AI (VS rfl) (AI (VS rfl) (AI (VS rfl) TT))))) (AI (AI rfl (BVw.oneL (AI (VS rfl) (AI (VS rfl) (AI (VS rfl) (AI (VS rfl) (AI (VS rfl) (AI (VS rfl) (AI (VS rfl) (AI (VS rfl) (AI (VS rfl) TT))))))))))) TT)
 refine qr (v := ((a0.f_Kind != 2) && ((decide (a0.f_ID < 0)) || (decide (a0.f_ID > 2147483647))))) rfl TT (fun h1 => ?_) (fun h1 => ?_)
 ·have h := zk h1 h
  refine ji ?_
  refine LWp.sim ?_ (z3o h)
  exact xa (M := [((0, 0), (0, 0))]) rfl (AI (Vw.ptr _ _ _ _ rfl) (AI (VS rfl) (AI (VS rfl) (AI (VS rfl) TT)))) (AI (AI rfl (BVw.oneL (AI (VS rfl) (AI (VS rfl) (AI (VS rfl) (AI (VS rfl) (AI (VS rfl) (AI (VS rfl) (AI (VS rfl) (AI (VS rfl) (AI (VS rfl) TT))))))))))) TT)
 ·have h := zw h1 h
  refine zj ?_
  refine AI (fun hp => hp) ?_
  refine AI (fun hp => hp) ?_
  refine AI (fun hc => (bqt hc)) ?_
  refine LWp.sim ?_ (z3o h)
  exact xa (M := [((0, 0), (0, 0))]) rfl (AI (Vw.ptr _ _ _ _ rfl) (AI (VS rfl) (AI (VS rfl) (AI (VS rfl) TT)))) (AI (AI rfl (BVw.oneL (AI (VS rfl) (AI (VS rfl) (AI (VS rfl) (AI (VS rfl) (AI (VS rfl) (AI (VS rfl) (AI (VS rfl) (AI (VS rfl) (AI (VS rfl) TT))))))))))) TT)
theorem zrq {a0 : G_QMessage} {m : Option Nat} {o : Bool} (h : xl m a0 = some o) : PFn Tryd.prog 27 [.agg [.int .i64 a0.f_Kind, .int .i64 a0.f_ID, .int .i64 a0.f_Code, .str a0.f_Method, .int .i64 a0.f_Body.f_Kind, .int .i64 a0.f_Body.f_Num, .str a0.f_Body.f_Text, .isl 1 (a0.f_Body.f_Names.map z6) false, .isl 5 (a0.f_Body.f_Elems.map z7) false]] (.bool o) := PFn.ofFnW (L := zqr) zmx zmm (NB rfl) rfl (zhg h)
def z1f : LCode := (.seq (.region [⟨some 26, .bin .lss (.t 25) (.t 24), none⟩])
 (.seq (.cond (.t 26)
  .skip
  (.exit 0))
 (.seq (.block 1
  (.seq (.region [⟨some 27, .iaddr 5 (.t 23) (.t 25), none⟩,
   ⟨some 28, .load true 5 (.t 27), none⟩,
   ⟨some 8, .alloc [(.int .i64 0), (.int .i64 0), (.str []), (.isl 1 [] true), (.isl 5 [] true)], none⟩,
   ⟨none, .store 5 (.t 8) (.t 28), none⟩])
  (.seq (.region [⟨some 29, .load true 5 (.t 8), none⟩,
   ⟨some 30, .mv (.t 1), none⟩,
   ⟨some 31, .bin .add (.t 30) (.c (.int .i64 1)), none⟩,
   ⟨some 32, .mv (.t 2), none⟩,
   ⟨some 33, .call 51 [(.t 29), (.t 31), (.t 32)], none⟩,
   ⟨some 34, .un .not (.t 33), none⟩])
  (.cond (.t 34)
   (.seq (.region [⟨some 6, .mv (.c (.bool false)), none⟩])
   .ret)
   .skip))))
 (.region [⟨some 35, .bin .add (.t 25) (.c (.int .i64 1)), none⟩,
  ⟨some 25, .mv (.t 35), none⟩]))))
def Vf : LCode := (.seq (.region [⟨some 6, .mv (.c (.bool true)), none⟩])
 .ret)
def z82 : LCode := (.seq (.region [⟨some 3, .box (.t 0), none⟩,
 ⟨some 6, .mv (.c (.bool false)), none⟩])
 (.seq (.region [⟨some 9, .mv (.t 2), none⟩,
  ⟨some 10, .nilck (.t 9), none⟩,
  ⟨some 11, .load false 1 (.t 10), none⟩,
  ⟨some 12, .bin .add (.t 11) (.c (.int .i64 1)), none⟩,
  ⟨some 13, .nilck (.t 9), none⟩,
  ⟨none, .store 1 (.t 13) (.t 12), none⟩])
 (.seq (.seq (.region [⟨some 14, .mv (.t 2), none⟩,
  ⟨some 15, .nilck (.t 14), none⟩,
  ⟨some 16, .load false 1 (.t 15), none⟩,
  ⟨some 17, .bin .gtr (.t 16) (.c (.int .i64 400)), none⟩,
  ⟨some 18, .mv (.t 17), none⟩,
  ⟨some 19, .mv (.t 1), some (18, false)⟩,
  ⟨some 20, .bin .gtr (.t 19) (.c (.int .i64 20)), some (18, false)⟩,
  ⟨some 21, .pick (.t 18) (.c (.bool true)) (.t 20), none⟩])
 (.cond (.t 21)
  (.seq (.region [⟨some 6, .mv (.c (.bool false)), none⟩])
  .ret)
  .skip))
 (.seq (.seq (.region [⟨some 22, .faddr 4 (.t 3), none⟩,
  ⟨some 23, .load false 1 (.t 22), none⟩,
  ⟨some 24, .len false (.t 23), none⟩,
  ⟨some 25, .mv (.c (.int .i64 0)), none⟩])
 (.block 0
  (.loop
   z1f)))
 Vf))))
def Z5 : Lay := ⟨36, [], false⟩
def z3l : List LRes := [.t 6]
def zd1 : LFn := ⟨3, Z5, z82, z3l⟩
theorem zg8 : w8 Tryd.prog [] 51 = some zd1 := by kernel_rfl
theorem zgp : uf Tryd.prog 51 := ⟨_, Tryd.func51, rfl, rfl⟩
def z1v (a0 : G_QJSON) (a1 : Int) (a2 : Int) (o : Bool × Int) : Exit → Env → AHeap → Nat → Prop := Zy z3l (W3 3 3 (.bool o.1) [((0, 0), .one [.int .i64 o.2])])
def Wf (a0 : G_QJSON) (a1 : Int) (s : (Int × Int)) : Env := [(1, .int .i64 a1), (2, .ptr (0, 0) 0 0), (23, .isl 5 (a0.f_Elems.map z7) false), (24, .int .i64 ((a0.f_Elems.map z7).length : Int)), (25, .int .i64 s.2)]
def Vz (a0 : G_QJSON) (a1 : Int) (s : (Int × Int)) : AHeap := [((0, 0), .one [.int .i64 s.1])]
def z0g (a0 : G_QJSON) (a1 : Int) (a2 : Int) (o : (Bool × Int)) : Exit → Env → AHeap → Nat → Prop := (xy 0 (X3 Tryd.prog Z5 3 Vf (z1v a0 a1 a2 o)))
noncomputable def jk (rec0 : G_QJSON → Int → Int → Option (Bool × Int)) (m : Option Nat) (v3 : Int) : Option (Bool × Int) :=
 some (true, v3)
noncomputable def y5 (rec0 : G_QJSON → Int → Int → Option (Bool × Int)) (m : Option Nat) (a0 : G_QJSON) (a1 : Int) (v3 : Int) (v4 : Int) : Option ((Int × Int) ⊕ (Bool × Int)) :=
 if (decide (v4 < ((a0.f_Elems.map z7).length : Int))) = true then
  if (0 : Int) ≤ v4 ∧ v4 < ((a0.f_Elems.map z7).length : Int) then
  ((kz (a0.f_Elems.getD v4.toNat default))).bind fun v7 =>
  (rec0 v7 (W (a1 + 1)) v3).bind fun v8 =>
  if (!v8.1) = true then
   Option.map Sum.inr (
    some (false, v8.2))
  else
   some (.inl (v8.2, (W (v4 + 1))))
  else none
 else
  Option.map Sum.inr (
   jk rec0 m v3)
noncomputable def yy (rec0 : G_QJSON → Int → Int → Option (Bool × Int)) (m : Option Nat) (a0 : G_QJSON) (a1 : Int) (v3 : Int) (v4 : Int) : Option (Bool × Int) := Zc m (fun (s : (Int × Int)) => y5 rec0 m a0 a1 s.1 s.2) (v3, v4)
theorem z6l {rec0 : G_QJSON → Int → Int → Option (Bool × Int)} (hrec0 : ∀ {a0 : G_QJSON} {a1 : Int} {a2 : Int} {o : Bool × Int}, rec0 a0 a1 a2 = some o → ACalls Tryd.prog 51 [.agg [.int .i64 a0.f_Kind, .int .i64 a0.f_Num, .str a0.f_Text, .isl 1 (a0.f_Names.map z6) false, .isl 5 (a0.f_Elems.map z7) false], .int .i64 a1, .ptr (0, 0) 0 0] [((0, 0), .one [.int .i64 a2])] 3 (xu 3 (.bool o.1) [((0, 0), .one [.int .i64 o.2])])) {a0 : G_QJSON} {a1 : Int} {a2 : Int} {v3 : Int} {m : Option Nat} {o : (Bool × Int)} (h : jk rec0 m v3 = some o) :
 LWp Tryd.prog Z5 3 Vf (z1v a0 a1 a2 o) [] [((0, 0), .one [.int .i64 v3])] 3 := by
 unfold jk at h
 refine zb ?_
 refine zj ?_
 refine wg ?_
 cases h
 exact AI TT (z7f (n' := 3) [] [] rfl rfl (VS rfl) (AI (AI rfl (BVw.oneL (AI (VS rfl) TT))) TT))
theorem z50 {rec0 : G_QJSON → Int → Int → Option (Bool × Int)} (hrec0 : ∀ {a0 : G_QJSON} {a1 : Int} {a2 : Int} {o : Bool × Int}, rec0 a0 a1 a2 = some o → ACalls Tryd.prog 51 [.agg [.int .i64 a0.f_Kind, .int .i64 a0.f_Num, .str a0.f_Text, .isl 1 (a0.f_Names.map z6) false, .isl 5 (a0.f_Elems.map z7) false], .int .i64 a1, .ptr (0, 0) 0 0] [((0, 0), .one [.int .i64 a2])] 3 (xu 3 (.bool o.1) [((0, 0), .one [.int .i64 o.2])])) {a2 : Int} {a0 : G_QJSON} {a1 : Int} {v3 : Int} {v4 : Int} {m : Option Nat} {o : (Int × Int) ⊕ (Bool × Int)} (h : y5 rec0 m a0 a1 v3 v4 = some o) :
 LWp Tryd.prog Z5 3 z1f (Zr 3 3 (Wf a0 a1) (Vz a0 a1) (z0g a0 a1 a2) o) [(1, .int .i64 a1), (2, .ptr (0, 0) 0 0), (23, .isl 5 (a0.f_Elems.map z7) false), (24, .int .i64 ((a0.f_Elems.map z7).length : Int)), (25, .int .i64 v4)] [((0, 0), .one [.int .i64 v3])] 3 := by
 unfold y5 at h
 refine zb ?_
 refine zj ?_
 refine zb ?_
 refine qr (v := (decide (v4 < ((a0.f_Elems.map z7).length : Int)))) rfl TT (fun h12 => ?_) (fun h12 => ?_)
 ·have h := zk h12 h
  refine ji ?_
  refine zb ?_
  refine je ?_
  refine zb ?_
  refine zj ?_
  obtain ⟨h13, h⟩ := xz h
  refine AI h13 ?_
  obtain ⟨v7, h14, h⟩ := bind_some h
  refine EX (y8 v7) (AI (wo (kn z7 h13) h14) (AI (AI (Zh h13) (NB rfl)) ?_))
  refine zb ?_
  refine zj ?_
  obtain ⟨v8, h15, h⟩ := bind_some h
  refine J4 (k := 3) (m := 0) (L' := [((0, 0), .one [.int .i64 v8.2])]) (rest := [((3, 0), .one [.int .i64 v7.f_Kind, .int .i64 v7.f_Num, .str v7.f_Text, .isl 1 (v7.f_Names.map z6) false, .isl 5 (v7.f_Elems.map z7) false])]) (R' := .bool v8.1) [((0, 0), (0, 0))] (hrec0 h15) rfl rfl rfl (AI (VS rfl) (AI (VS rfl) (AI (Vw.ptr _ _ _ _ rfl) TT))) (AI (h0I (0, 0) rfl rfl (BVw.oneL (AI (VS rfl) TT))) TT) (wz _ rfl) (AI rfl (AI rfl TT)) rfl ?_
  refine LWp.sim (e := [(1, .int .i64 a1), (2, .ptr (0, 0) 0 0), (23, .isl 5 (a0.f_Elems.map z7) false), (24, .int .i64 ((a0.f_Elems.map z7).length : Int)), (25, .int .i64 v4), (34, .bool (!v8.1))]) (L := [((0, 0), .one [.int .i64 v8.2])]) (n := 3) ?_ ?_
  ·exact xa (M := []) rfl (AI (VS rfl) (AI (Vw.ptr _ _ _ _ rfl) (AI (VS rfl) (AI (VS rfl) (AI (VS rfl) (AI (VS rfl) TT)))))) (AI (AI rfl (BVw.oneL (AI (VS rfl) TT))) TT)
  refine qr (v := (!v8.1)) rfl TT (fun h16 => ?_) (fun h16 => ?_)
  ·have h := zk h16 h
   refine zb ?_
   refine zj ?_
   refine wg ?_
   obtain ⟨o, hq, rfl⟩ := Option.map_eq_some_iff.1 h
   replace h := hq; clear hq
   refine AI nofun ?_
   cases h
   exact AI TT (z7f (n' := 3) [] [] rfl rfl (VS rfl) (AI (AI rfl (BVw.oneL (AI (VS rfl) TT))) TT))
  ·have h := zw h16 h
   refine ji ?_
   refine zj ?_
   cases h
   exact AI rfl (xa (M := []) rfl (AI (VS rfl) (AI (Vw.ptr _ _ _ _ rfl) (AI (VS rfl) (AI (VS rfl) (AI (VS rfl) TT))))) (AI (AI rfl (BVw.oneL (AI (VS rfl) TT))) TT))
 ·have h := zw h12 h
  refine Ja ?_
  obtain ⟨o, hq, rfl⟩ := Option.map_eq_some_iff.1 h
  replace h := hq; clear hq
  refine AI nofun ?_
  refine LWp.sim ?_ (z6l hrec0 h)
  exact xa (M := []) rfl TT (AI (AI rfl (BVw.oneL (AI (VS rfl) TT))) TT)
theorem z7p {rec0 : G_QJSON → Int → Int → Option (Bool × Int)} (hrec0 : ∀ {a0 : G_QJSON} {a1 : Int} {a2 : Int} {o : Bool × Int}, rec0 a0 a1 a2 = some o → ACalls Tryd.prog 51 [.agg [.int .i64 a0.f_Kind, .int .i64 a0.f_Num, .str a0.f_Text, .isl 1 (a0.f_Names.map z6) false, .isl 5 (a0.f_Elems.map z7) false], .int .i64 a1, .ptr (0, 0) 0 0] [((0, 0), .one [.int .i64 a2])] 3 (xu 3 (.bool o.1) [((0, 0), .one [.int .i64 o.2])])) {a2 : Int} {a0 : G_QJSON} {a1 : Int} {v3 : Int} {v4 : Int} {m : Option Nat} {o : (Bool × Int)} (h : yy rec0 m a0 a1 v3 v4 = some o) :
 LWp Tryd.prog Z5 3 (.loop z1f) (xy 0 (X3 Tryd.prog Z5 3 Vf (z1v a0 a1 a2 o))) [(1, .int .i64 a1), (2, .ptr (0, 0) 0 0), (23, .isl 5 (a0.f_Elems.map z7) false), (24, .int .i64 ((a0.f_Elems.map z7).length : Int)), (25, .int .i64 v4)] [((0, 0), .one [.int .i64 v3])] 3 :=
 w7 (m := m) (s := ((v3, v4) : (Int × Int))) (r := o) (fun (s : (Int × Int)) => y5 rec0 m a0 a1 s.1 s.2) (Wf a0 a1) (Vz a0 a1) (z0g a0 a1 a2) (fun s o h => z50 hrec0 h) h
noncomputable def x7 (rec0 : G_QJSON → Int → Int → Option (Bool × Int)) (m : Option Nat) (a0 : G_QJSON) (a1 : Int) (a2 : Int) : Option (Bool × Int) :=
 if ((decide ((W (a2 + 1)) > 400)) || (decide (a1 > 20))) = true then
  some (false, (W (a2 + 1)))
 else
  yy rec0 m a0 a1 (W (a2 + 1)) 0
theorem z6p {rec0 : G_QJSON → Int → Int → Option (Bool × Int)} (hrec0 : ∀ {a0 : G_QJSON} {a1 : Int} {a2 : Int} {o : Bool × Int}, rec0 a0 a1 a2 = some o → ACalls Tryd.prog 51 [.agg [.int .i64 a0.f_Kind, .int .i64 a0.f_Num, .str a0.f_Text, .isl 1 (a0.f_Names.map z6) false, .isl 5 (a0.f_Elems.map z7) false], .int .i64 a1, .ptr (0, 0) 0 0] [((0, 0), .one [.int .i64 a2])] 3 (xu 3 (.bool o.1) [((0, 0), .one [.int .i64 o.2])])) {a0 : G_QJSON} {a1 : Int} {a2 : Int} {m : Option Nat} {o : Bool × Int} (h : x7 rec0 m a0 a1 a2 = some o) : LWp Tryd.prog Z5 3 z82 (z1v a0 a1 a2 o) (yx 0 [.agg [.int .i64 a0.f_Kind, .int .i64 a0.f_Num, .str a0.f_Text, .isl 1 (a0.f_Names.map z6) false, .isl 5 (a0.f_Elems.map z7) false], .int .i64 a1, .ptr (0, 0) 0 0]) [((0, 0), .one [.int .i64 a2])] 3 := by
 unfold x7 at h
 refine zb ?_
 refine zj ?_
 refine zb ?_
 refine zj ?_
 refine LWp.sim (e := [(1, .int .i64 a1), (2, .ptr (0, 0) 0 0), (3, .ptr (3, 0) 0 0)]) (L := [((0, 0), .one [.int .i64 (W (a2 + 1))]), ((3, 0), .one [.int .i64 a0.f_Kind, .int .i64 a0.f_Num, .str a0.f_Text, .isl 1 (a0.f_Names.map z6) false, .isl 5 (a0.f_Elems.map z7) false])]) (n := 4) ?_ ?_
 ·exact xa (M := [((3, 0), (3, 0))]) rfl (AI (VS rfl) (AI (Vw.ptr _ _ _ _ rfl) (AI (Vw.ptr _ _ _ _ rfl) TT))) (AI (AI rfl (BVw.oneL (AI (VS rfl) TT))) (AI (AI rfl (BVw.oneL (AI (VS rfl) (AI (VS rfl) (AI (VS rfl) (AI (VS rfl) (AI (VS rfl) TT))))))) TT))
 refine zb ?_
 refine zb ?_
 refine zj ?_
 refine AI (fun hp => hp) ?_
 refine AI (fun hc => (bqf hc)) ?_
 refine LWp.sim (e := [(1, .int .i64 a1), (2, .ptr (0, 0) 0 0), (3, .ptr (3, 0) 0 0), (21, .bool ((decide ((W (a2 + 1)) > 400)) || (decide (a1 > 20))))]) (L := [((0, 0), .one [.int .i64 (W (a2 + 1))]), ((3, 0), .one [.int .i64 a0.f_Kind, .int .i64 a0.f_Num, .str a0.f_Text, .isl 1 (a0.f_Names.map z6) false, .isl 5 (a0.f_Elems.map z7) false])]) (n := 4) ?_ ?_
 ·exact xa (M := [((3, 0), (3, 0))]) rfl (AI (VS rfl) (AI (Vw.ptr _ _ _ _ rfl) (AI (Vw.ptr _ _ _ _ rfl) (AI (VS rfl) TT)))) (AI (AI rfl (BVw.oneL (AI (VS rfl) TT))) (AI (AI rfl (BVw.oneL (AI (VS rfl) (AI (VS rfl) (AI (VS rfl) (AI (VS rfl) (AI (VS rfl) TT))))))) TT))
 refine qr (v := ((decide ((W (a2 + 1)) > 400)) || (decide (a1 > 20)))) rfl TT (fun h1 => ?_) (fun h1 => ?_)
 ·have h := zk h1 h
  refine zb ?_
  refine zj ?_
  refine wg ?_
  cases h
  exact AI TT (z7f (n' := 4) [] [] rfl rfl (VS rfl) (AI (AI rfl (BVw.oneL (AI (VS rfl) TT))) TT))
 ·have h := zw h1 h
  refine ji ?_
  refine zb ?_
  refine zb ?_
  refine zj ?_
  refine je ?_
  refine LWp.sim ?_ (z7p hrec0 h)
  exact xa (M := []) rfl (AI (VS rfl) (AI (Vw.ptr _ _ _ _ rfl) (AI (VS rfl) (AI (VS rfl) (AI (VS rfl) TT))))) (AI (AI rfl (BVw.oneL (AI (VS rfl) TT))) TT)
theorem zi9 {rec0 : G_QJSON → Int → Int → Option (Bool × Int)} (hrec0 : ∀ {a0 : G_QJSON} {a1 : Int} {a2 : Int} {o : Bool × Int}, rec0 a0 a1 a2 = some o → ACalls Tryd.prog 51 [.agg [.int .i64 a0.f_Kind, .int .i64 a0.f_Num, .str a0.f_Text, .isl 1 (a0.f_Names.map z6) false, .isl 5 (a0.f_Elems.map z7) false], .int .i64 a1, .ptr (0, 0) 0 0] [((0, 0), .one [.int .i64 a2])] 3 (xu 3 (.bool o.1) [((0, 0), .one [.int .i64 o.2])])) {a0 : G_QJSON} {a1 : Int} {a2 : Int} {m : Option Nat} {o : Bool × Int} (h : x7 rec0 m a0 a1 a2 = some o) : ACalls Tryd.prog 51 [.agg [.int .i64 a0.f_Kind, .int .i64 a0.f_Num, .str a0.f_Text, .isl 1 (a0.f_Names.map z6) false, .isl 5 (a0.f_Elems.map z7) false], .int .i64 a1, .ptr (0, 0) 0 0] [((0, 0), .one [.int .i64 a2])] 3 (xu 3 (.bool o.1) [((0, 0), .one [.int .i64 o.2])]) := Ji (L := zd1) zg8 zgp (NB rfl) (z6p hrec0 h)
noncomputable def y7 (m : Option Nat) : Nat → G_QJSON → Int → Int → Option (Bool × Int)
 | 0 => fun _ _ _ => none
 | k + 1 => x7 (y7 m k) m
noncomputable def jp (m : Option Nat) (a0 : G_QJSON) (a1 : Int) (a2 : Int) : Option (Bool × Int) := zhp m (fun k => y7 m k a0 a1 a2)
theorem z52 {m : Option Nat} : ∀ (k : Nat) {a0 : G_QJSON} {a1 : Int} {a2 : Int} {o : Bool × Int}, y7 m k a0 a1 a2 = some o → ACalls Tryd.prog 51 [.agg [.int .i64 a0.f_Kind, .int .i64 a0.f_Num, .str a0.f_Text, .isl 1 (a0.f_Names.map z6) false, .isl 5 (a0.f_Elems.map z7) false], .int .i64 a1, .ptr (0, 0) 0 0] [((0, 0), .one [.int .i64 a2])] 3 (xu 3 (.bool o.1) [((0, 0), .one [.int .i64 o.2])])
 | 0, _, _, _, _, h => nomatch h
 | k + 1, _, _, _, _, h => zi9 (fun h => z52 k h) h
theorem zco {a0 : G_QJSON} {a1 : Int} {a2 : Int} {m : Option Nat} {o : Bool × Int} (h : jp m a0 a1 a2 = some o) : ACalls Tryd.prog 51 [.agg [.int .i64 a0.f_Kind, .int .i64 a0.f_Num, .str a0.f_Text, .isl 1 (a0.f_Names.map z6) false, .isl 5 (a0.f_Elems.map z7) false], .int .i64 a1, .ptr (0, 0) 0 0] [((0, 0), .one [.int .i64 a2])] 3 (xu 3 (.bool o.1) [((0, 0), .one [.int .i64 o.2])]) := (Y6 h).elim fun k h => z52 k h
def zdm : LCode := (.seq (.region [⟨some 10, .bin .lss (.t 9) (.t 8), none⟩])
 (.seq (.cond (.t 10)
  .skip
  (.exit 0))
 (.seq (.block 1
  (.seq (.region [⟨some 11, .iaddr 1 (.t 7) (.t 9), none⟩,
   ⟨some 12, .load false 1 (.t 11), none⟩,
   ⟨some 5, .mv (.t 12), none⟩])
  (.seq (.seq (.region [⟨some 13, .mv (.t 3), none⟩,
   ⟨some 14, .mv (.t 5), none⟩,
   ⟨some 15, .mlook [.str] false false false [(.int .i64 0)] (.t 13) (.t 14), none⟩,
   ⟨some 16, .bin .neq (.t 15) (.c (.int .i64 0)), none⟩])
  (.cond (.t 16)
   (.seq (.region [⟨some 2, .mv (.c (.bool true)), none⟩])
   .ret)
   .skip))
  (.region [⟨some 17, .mv (.t 3), none⟩,
   ⟨some 18, .mv (.t 5), none⟩,
   ⟨none, .mset [.str] false false [(.int .i64 0)] (.t 17) (.t 18) (.c (.int .i64 1)), none⟩]))))
 (.region [⟨some 19, .bin .add (.t 9) (.c (.int .i64 1)), none⟩,
  ⟨some 9, .mv (.t 19), none⟩]))))
def z8t : LCode := (.seq (.region [⟨some 2, .mv (.c (.bool false)), none⟩])
 .ret)
def zlg : LCode := (.seq (.region [⟨some 2, .mv (.c (.bool false)), none⟩])
 (.seq (.region [⟨some 6, .mkmap none, none⟩,
  ⟨some 3, .mv (.t 6), none⟩])
 (.seq (.seq (.region [⟨some 7, .mv (.t 0), none⟩,
  ⟨some 8, .len false (.t 7), none⟩,
  ⟨some 9, .mv (.c (.int .i64 0)), none⟩])
 (.block 0
  (.loop
   zdm)))
 z8t)))
def Xh : Lay := ⟨20, [], false⟩
def zgf : List LRes := [.t 2]
def zq9 : LFn := ⟨1, Xh, zlg, zgf⟩
theorem zno : w8 Tryd.prog [] 87 = some zq9 := by kernel_rfl
theorem zot : uf Tryd.prog 87 := ⟨_, Tryd.func87, rfl, rfl⟩
def ziv (a0 : List (List UInt8)) (o : Bool) : Exit → Env → AHeap → Nat → Prop := Zy zgf (j1 (.bool o))
def z0y (a0 : List (List UInt8)) (s : (Int × (List ((List UInt8) × Int)))) : Env := [(3, .map (0, 0)), (7, .isl 1 (a0.map z6) false), (8, .int .i64 ((a0.map z6).length : Int)), (9, .int .i64 s.1)]
def z33 (a0 : List (List UInt8)) (s : (Int × (List ((List UInt8) × Int)))) : AHeap := [((0, 0), .amap (s.2.map (em J7 Ww)))]
def z93 (a0 : List (List UInt8)) (o : Bool) : Exit → Env → AHeap → Nat → Prop := (xy 0 (X3 Tryd.prog Xh 0 z8t (ziv a0 o)))
noncomputable def w5 (m : Option Nat) : Option Bool :=
 some false
noncomputable def q6 (m : Option Nat) (a0 : List (List UInt8)) (v1 : Int) (v2 : List ((List UInt8) × Int)) : Option ((Int × (List ((List UInt8) × Int))) ⊕ Bool) :=
 if (decide (v1 < ((a0.map z6).length : Int))) = true then
  if (0 : Int) ≤ v1 ∧ v1 < ((a0.map z6).length : Int) then
  if (((lk Q7 v2 (a0.getD v1.toNat default)).getD 0) != 0) = true then
   Option.map Sum.inr (
    some true)
  else
   some (.inl ((W (v1 + 1)), (mp Q7 v2 (a0.getD v1.toNat default) 1)))
  else none
 else
  Option.map Sum.inr (
   w5 m)
noncomputable def xk (m : Option Nat) (a0 : List (List UInt8)) (v1 : Int) (v2 : List ((List UInt8) × Int)) : Option Bool := Zc m (fun (s : (Int × (List ((List UInt8) × Int)))) => q6 m a0 s.1 s.2) (v1, v2)
theorem zhy {a0 : List (List UInt8)} {m : Option Nat} {o : Bool} (h : w5 m = some o) :
 LWp Tryd.prog Xh 0 z8t (ziv a0 o) [] [] 0 := by
 unfold w5 at h
 refine zb ?_
 refine zj ?_
 refine wg ?_
 cases h
 exact AI TT (AI rfl (VS rfl))
theorem zam {a0 : List (List UInt8)} {v1 : Int} {v2 : List ((List UInt8) × Int)} {m : Option Nat} {o : (Int × (List ((List UInt8) × Int))) ⊕ Bool} (h : q6 m a0 v1 v2 = some o) :
 LWp Tryd.prog Xh 0 zdm (Zr 0 1 (z0y a0) (z33 a0) (z93 a0) o) [(3, .map (0, 0)), (7, .isl 1 (a0.map z6) false), (8, .int .i64 ((a0.map z6).length : Int)), (9, .int .i64 v1)] [((0, 0), .amap (v2.map (em J7 Ww)))] 1 := by
 unfold q6 at h
 refine zb ?_
 refine zj ?_
 refine zb ?_
 refine qr (v := (decide (v1 < ((a0.map z6).length : Int)))) rfl TT (fun h7 => ?_) (fun h7 => ?_)
 ·have h := zk h7 h
  refine ji ?_
  refine zb ?_
  refine je ?_
  refine zb ?_
  refine zj ?_
  obtain ⟨h8, h⟩ := xz h
  refine AI h8 ?_
  refine EX (z6 (a0.getD v1.toNat default)) (AI (Zf z6 _ _ (kn z6 h8)) (AI (AI (Zh h8) (NB rfl)) ?_))
  refine zb ?_
  refine zb ?_
  refine zj ?_
  refine EX (.int .i64 ((lk Q7 v2 (a0.getD v1.toNat default)).getD 0)) (AI (zrn (ek := J7) (ev := Ww) (z := 0) z2c rfl (a0.getD v1.toNat default) v2) (AI (zap (ek := J7) (ev := Ww) z2c _ _) ?_))
  refine LWp.sim (e := [(3, .map (0, 0)), (5, .str (a0.getD v1.toNat default)), (7, .isl 1 (a0.map z6) false), (8, .int .i64 ((a0.map z6).length : Int)), (9, .int .i64 v1), (16, .bool (((lk Q7 v2 (a0.getD v1.toNat default)).getD 0) != 0))]) (L := [((0, 0), .amap (v2.map (em J7 Ww)))]) (n := 1) ?_ ?_
  ·exact xa (M := [((0, 0), (0, 0))]) rfl (AI (Vw.map _ _ rfl) (AI (VS rfl) (AI (VS rfl) (AI (VS rfl) (AI (VS rfl) (AI (VS rfl) TT)))))) (AI (AI rfl (BVw.ofMap J7 Ww Ud v2)) TT)
  refine qr (v := (((lk Q7 v2 (a0.getD v1.toNat default)).getD 0) != 0)) rfl TT (fun h9 => ?_) (fun h9 => ?_)
  ·have h := zk h9 h
   refine zb ?_
   refine zj ?_
   refine wg ?_
   obtain ⟨o, hq, rfl⟩ := Option.map_eq_some_iff.1 h
   replace h := hq; clear hq
   refine AI nofun ?_
   cases h
   exact AI TT (AI rfl (VS rfl))
  ·have h := zw h9 h
   refine ji ?_
   refine zj ?_
   refine EX ((mp Q7 v2 (a0.getD v1.toNat default) 1).map (em J7 Ww)) (AI (z83 (ek := J7) (ev := Ww) z2c (a0.getD v1.toNat default) 1 v2) ?_)
   refine zj ?_
   cases h
   exact AI rfl (xa (M := [((0, 0), (0, 0))]) rfl (AI (Vw.map _ _ rfl) (AI (VS rfl) (AI (VS rfl) (AI (VS rfl) TT)))) (AI (AI rfl (BVw.ofMap J7 Ww Ud (mp Q7 v2 (a0.getD v1.toNat default) 1))) TT))
 ·have h := zw h7 h
  refine Ja ?_
  obtain ⟨o, hq, rfl⟩ := Option.map_eq_some_iff.1 h
  replace h := hq; clear hq
  refine AI nofun ?_
  refine LWp.sim ?_ (zhy h)
  exact xa (M := []) rfl TT TT
theorem zct {a0 : List (List UInt8)} {v1 : Int} {v2 : List ((List UInt8) × Int)} {m : Option Nat} {o : Bool} (h : xk m a0 v1 v2 = some o) :
 LWp Tryd.prog Xh 0 (.loop zdm) (xy 0 (X3 Tryd.prog Xh 0 z8t (ziv a0 o))) [(3, .map (0, 0)), (7, .isl 1 (a0.map z6) false), (8, .int .i64 ((a0.map z6).length : Int)), (9, .int .i64 v1)] [((0, 0), .amap (v2.map (em J7 Ww)))] 1 :=
 w7 (m := m) (s := ((v1, v2) : (Int × (List ((List UInt8) × Int))))) (r := o) (fun (s : (Int × (List ((List UInt8) × Int)))) => q6 m a0 s.1 s.2) (z0y a0) (z33 a0) (z93 a0) (fun s o h => zam h) h
noncomputable def j5 (m : Option Nat) (a0 : List (List UInt8)) : Option Bool :=
 xk m a0 0 ([] : List ((List UInt8) × Int))
theorem zca {a0 : List (List UInt8)} {m : Option Nat} {o : Bool} (h : j5 m a0 = some o) : LWp Tryd.prog Xh 0 zlg (ziv a0 o) (yx 0 [.isl 1 (a0.map z6) false]) [] 0 := by
 unfold j5 at h
 refine zb ?_
 refine zj ?_
 refine zb ?_
 refine zj ?_
 refine zb ?_
 refine zb ?_
 refine zj ?_
 refine je ?_
 refine LWp.sim ?_ (zct h)
 exact xa (M := [((0, 0), (0, 0))]) rfl (AI (Vw.map _ _ rfl) (AI (VS rfl) (AI (VS rfl) (AI (VS rfl) TT)))) (AI (AI rfl (BVw.ofMap J7 Ww Ud ([] : List ((List UInt8) × Int)))) TT)
theorem zpr {a0 : List (List UInt8)} {m : Option Nat} {o : Bool} (h : j5 m a0 = some o) : PFn Tryd.prog 87 [.isl 1 (a0.map z6) false] (.bool o) := PFn.ofFnW (L := zq9) zno zot (NB rfl) rfl (zca h)
def z8i : LCode := (.seq (.region [⟨some 2, .mv (.c (.bool false)), none⟩])
 (.seq (.region [⟨some 3, .mv (.t 0), none⟩,
  ⟨some 4, .call 68 [(.t 3)], none⟩,
  ⟨some 5, .un .not (.t 4), none⟩,
  ⟨some 2, .mv (.t 5), none⟩])
 .ret))
def z30 : Lay := ⟨6, [], false⟩
def z5d : List LRes := [.t 2]
def zcc : LFn := ⟨1, z30, z8i, z5d⟩
theorem zdv : w8 Tryd.prog [] 89 = some zcc := by kernel_rfl
theorem zg2 : uf Tryd.prog 89 := ⟨_, Tryd.func89, rfl, rfl⟩
noncomputable def yj (m : Option Nat) (a0 : List UInt8) : Option Bool :=
 (j2 m a0).bind fun v1 =>
 some (!v1)
def zo1 (a0 : List UInt8) (o : Bool) : Exit → Env → AHeap → Nat → Prop := Zy z5d (W3 3 4 (.bool o) [])
theorem z6z {a0 : List UInt8} {m : Option Nat} {o : Bool} (h : yj m a0 = some o) : LWp Tryd.prog z30 3 z8i (zo1 a0 o) (yx 0 [.str a0]) [] 3 := by
 unfold yj at h
 refine zb ?_
 refine zj ?_
 refine zb ?_
 refine zj ?_
 obtain ⟨v1, h1, h⟩ := bind_some h
 refine PFn.call (zd7 h1) (AI (VS rfl) TT) ?_
 refine wg ?_
 cases h
 exact AI TT (z7f (n' := 3) [] [] rfl rfl (VS rfl) TT)
theorem zj1 {a0 : List UInt8} {m : Option Nat} {o : Bool} (h : yj m a0 = some o) : ACalls Tryd.prog 89 [.str a0] [] 3 (xu 4 (.bool o) []) := Ji (L := zcc) zdv zg2 (NB rfl) (z6z h)
def z2d : LCode := (.seq (.region [⟨some 9, .bin .lss (.t 8) (.t 7), none⟩])
 (.seq (.cond (.t 9)
  .skip
  (.exit 0))
 (.seq (.block 1
  (.seq (.region [⟨some 10, .mv (.t 8), none⟩,
   ⟨some 5, .mv (.t 10), none⟩])
  (.seq (.region [⟨some 11, .mv (.t 1), none⟩,
   ⟨some 12, .mv (.t 0), none⟩,
   ⟨some 13, .mv (.t 5), none⟩,
   ⟨some 14, .iaddr 1 (.t 12) (.t 13), none⟩,
   ⟨some 15, .load false 1 (.t 14), none⟩,
   ⟨some 16, .callv (.t 11) [(.t 15)], none⟩])
  (.cond (.t 16)
   (.seq (.region [⟨some 17, .mv (.t 5), none⟩,
    ⟨some 4, .mv (.t 17), none⟩])
   .ret)
   .skip))))
 (.region [⟨some 18, .bin .add (.t 8) (.c (.int .i64 1)), none⟩,
  ⟨some 8, .mv (.t 18), none⟩]))))
def V3 : LCode := (.seq (.region [⟨some 4, .mv (.c (.int .i64 (-1))), none⟩])
 .ret)
def z9g : LCode := (.seq (.region [⟨some 4, .mv (.c (.int .i64 0)), none⟩])
 (.seq (.seq (.region [⟨some 6, .mv (.t 0), none⟩,
  ⟨some 7, .len false (.t 6), none⟩,
  ⟨some 8, .mv (.c (.int .i64 0)), none⟩])
 (.block 0
  (.loop
   z2d)))
 V3))
def Z4 : Lay := ⟨19, [], false⟩
def z3r : List LRes := [.t 4]
def zbq : LFn := ⟨2, Z4, z9g, z3r⟩
theorem zg3 : w8 Tryd.prog [] 93 = some zbq := by kernel_rfl
theorem zfk : uf Tryd.prog 93 := ⟨_, Tryd.func93, rfl, rfl⟩
def z2l {σ : Type} (Hc : σ → AHeap) (fi0 : Fn) (ff0 fc0 : List AVal) (a0 : List (List UInt8)) (z0 : σ) (o : Int × σ) : Exit → Env → AHeap → Nat → Prop := Zy z3r (W3 3 4 (.int .i64 o.1) ([] ++ up 3 (Hc o.2)))
def Wo {σ : Type} (Hc : σ → AHeap) (fi0 : Fn) (ff0 fc0 : List AVal) (a0 : List (List UInt8)) (s : (Int × σ)) : Env := [(0, .isl 1 (a0.map z6) false), (1, .fn fi0 ff0 fc0), (7, .int .i64 ((a0.map z6).length : Int)), (8, .int .i64 s.1)]
def Kz {σ : Type} (Hc : σ → AHeap) (fi0 : Fn) (ff0 fc0 : List AVal) (a0 : List (List UInt8)) (s : (Int × σ)) : AHeap := ([] ++ up 3 (Hc s.2))
def z01 {σ : Type} (Hc : σ → AHeap) (fi0 : Fn) (ff0 fc0 : List AVal) (a0 : List (List UInt8)) (z0 : σ) (o : (Int × σ)) : Exit → Env → AHeap → Nat → Prop := (xy 0 (X3 Tryd.prog Z4 3 V3 (z2l Hc fi0 ff0 fc0 a0 z0 o)))
noncomputable def js {σ : Type} (g0 : σ → (List UInt8) → Option (Bool × σ)) (m : Option Nat) (v3 : σ) : Option (Int × σ) :=
 some ((-1), v3)
noncomputable def yn {σ : Type} (g0 : σ → (List UInt8) → Option (Bool × σ)) (m : Option Nat) (a0 : List (List UInt8)) (v2 : Int) (v3 : σ) : Option ((Int × σ) ⊕ (Int × σ)) :=
 if (decide (v2 < ((a0.map z6).length : Int))) = true then
  if (0 : Int) ≤ v2 ∧ v2 < ((a0.map z6).length : Int) then
  (g0 v3 (a0.getD v2.toNat default)).bind fun v5 =>
  if v5.1 = true then
   Option.map Sum.inr (
    some (v2, v5.2))
  else
   some (.inl ((W (v2 + 1)), v5.2))
  else none
 else
  Option.map Sum.inr (
   js g0 m v3)
noncomputable def x3 {σ : Type} (g0 : σ → (List UInt8) → Option (Bool × σ)) (m : Option Nat) (a0 : List (List UInt8)) (v2 : Int) (v3 : σ) : Option (Int × σ) := Zc m (fun (s : (Int × σ)) => yn g0 m a0 s.1 s.2) (v2, v3)
theorem z70 {σ : Type} {Hc : σ → AHeap} {fi0 : Fn} {ff0 fc0 : List AVal} {g0 : σ → (List UInt8) → Option (Bool × σ)} (hg0 : Clo Tryd.prog fi0 ff0 fc0 Hc (fun (x : (List UInt8)) => [.str x]) (fun (b : Bool) => .bool b) g0) {a0 : List (List UInt8)} {z0 : σ} {v3 : σ} {m : Option Nat} {o : (Int × σ)} (h : js g0 m v3 = some o) :
 LWp Tryd.prog Z4 3 V3 (z2l Hc fi0 ff0 fc0 a0 z0 o) [] ([] ++ up 3 (Hc v3)) 4 := by
 unfold js at h
 refine zb ?_
 refine zj ?_
 refine wg ?_
 cases h
 exact AI TT (zt3 (n' := 4) (q := 3) (lit' := []) (hg0.tl _) [] [] rfl rfl (VS rfl) TT)
theorem z48 {σ : Type} {Hc : σ → AHeap} {fi0 : Fn} {ff0 fc0 : List AVal} {g0 : σ → (List UInt8) → Option (Bool × σ)} (hg0 : Clo Tryd.prog fi0 ff0 fc0 Hc (fun (x : (List UInt8)) => [.str x]) (fun (b : Bool) => .bool b) g0) {z0 : σ} {a0 : List (List UInt8)} {v2 : Int} {v3 : σ} {m : Option Nat} {o : (Int × σ) ⊕ (Int × σ)} (h : yn g0 m a0 v2 v3 = some o) :
 LWp Tryd.prog Z4 3 z2d (Zr 3 4 (Wo Hc fi0 ff0 fc0 a0) (Kz Hc fi0 ff0 fc0 a0) (z01 Hc fi0 ff0 fc0 a0 z0) o) [(0, .isl 1 (a0.map z6) false), (1, .fn fi0 ff0 fc0), (7, .int .i64 ((a0.map z6).length : Int)), (8, .int .i64 v2)] ([] ++ up 3 (Hc v3)) 4 := by
 unfold yn at h
 refine zb ?_
 refine zj ?_
 refine zb ?_
 refine qr (v := (decide (v2 < ((a0.map z6).length : Int)))) rfl TT (fun h9 => ?_) (fun h9 => ?_)
 ·have h := zk h9 h
  refine ji ?_
  refine zb ?_
  refine je ?_
  refine zb ?_
  refine zj ?_
  refine zb ?_
  refine zj ?_
  obtain ⟨h10, h⟩ := xz h
  refine AI h10 ?_
  refine EX (z6 (a0.getD v2.toNat default)) (AI (Zf z6 _ _ (kn z6 h10)) (AI (AI (Zh h10) (NB rfl)) ?_))
  obtain ⟨v5, h11, h⟩ := bind_some h
  refine Clo.use (q := 3) (lit := []) hg0 h11 rfl rfl (AI (VS rfl) TT) ?_
  refine LWp.sim (e := [(0, .isl 1 (a0.map z6) false), (1, .fn fi0 ff0 fc0), (5, .int .i64 v2), (7, .int .i64 ((a0.map z6).length : Int)), (8, .int .i64 v2), (16, .bool v5.1)]) (L := ([] ++ up 3 (Hc v5.2))) (n := 4) ?_ ?_
  ·exact zsb (M := []) (lit' := []) (hg0.tl _) rfl (AI (VS rfl) (AI (Vw.clo hg0.hf hg0.hc (by decide) (z4v (X5 (n := 4) (q := 4) (lit' := []) rfl))) (AI (VS rfl) (AI (VS rfl) (AI (VS rfl) (AI (VS rfl) TT)))))) TT
  refine qr (v := v5.1) rfl TT (fun h12 => ?_) (fun h12 => ?_)
  ·have h := zk h12 h
   refine zb ?_
   refine zj ?_
   refine wg ?_
   obtain ⟨o, hq, rfl⟩ := Option.map_eq_some_iff.1 h
   replace h := hq; clear hq
   refine AI nofun ?_
   cases h
   exact AI TT (zt3 (n' := 4) (q := 3) (lit' := []) (hg0.tl _) [] [] rfl rfl (VS rfl) TT)
  ·have h := zw h12 h
   refine ji ?_
   refine zj ?_
   cases h
   exact AI rfl (zsb (M := []) (lit' := []) (hg0.tl _) rfl (AI (VS rfl) (AI (Vw.clo hg0.hf hg0.hc (by decide) (z4v (X5 (n := 4) (q := 3) (lit' := []) rfl))) (AI (VS rfl) (AI (VS rfl) TT)))) TT)
 ·have h := zw h9 h
  refine Ja ?_
  obtain ⟨o, hq, rfl⟩ := Option.map_eq_some_iff.1 h
  replace h := hq; clear hq
  refine AI nofun ?_
  refine LWp.sim ?_ (z70 hg0 h)
  exact zsb (M := []) (lit' := []) (hg0.tl _) rfl TT TT
theorem z7d {σ : Type} {Hc : σ → AHeap} {fi0 : Fn} {ff0 fc0 : List AVal} {g0 : σ → (List UInt8) → Option (Bool × σ)} (hg0 : Clo Tryd.prog fi0 ff0 fc0 Hc (fun (x : (List UInt8)) => [.str x]) (fun (b : Bool) => .bool b) g0) {z0 : σ} {a0 : List (List UInt8)} {v2 : Int} {v3 : σ} {m : Option Nat} {o : (Int × σ)} (h : x3 g0 m a0 v2 v3 = some o) :
 LWp Tryd.prog Z4 3 (.loop z2d) (xy 0 (X3 Tryd.prog Z4 3 V3 (z2l Hc fi0 ff0 fc0 a0 z0 o))) [(0, .isl 1 (a0.map z6) false), (1, .fn fi0 ff0 fc0), (7, .int .i64 ((a0.map z6).length : Int)), (8, .int .i64 v2)] ([] ++ up 3 (Hc v3)) 4 :=
 w7 (m := m) (s := ((v2, v3) : (Int × σ))) (r := o) (fun (s : (Int × σ)) => yn g0 m a0 s.1 s.2) (Wo Hc fi0 ff0 fc0 a0) (Kz Hc fi0 ff0 fc0 a0) (z01 Hc fi0 ff0 fc0 a0 z0) (fun s o h => z48 hg0 h) h
noncomputable def xq {σ : Type} (g0 : σ → (List UInt8) → Option (Bool × σ)) (m : Option Nat) (a0 : List (List UInt8)) (z0 : σ) : Option (Int × σ) :=
 x3 g0 m a0 0 z0
theorem z5q {σ : Type} {Hc : σ → AHeap} {fi0 : Fn} {ff0 fc0 : List AVal} {g0 : σ → (List UInt8) → Option (Bool × σ)} (hg0 : Clo Tryd.prog fi0 ff0 fc0 Hc (fun (x : (List UInt8)) => [.str x]) (fun (b : Bool) => .bool b) g0) {a0 : List (List UInt8)} {z0 : σ} {m : Option Nat} {o : Int × σ} (h : xq g0 m a0 z0 = some o) : LWp Tryd.prog Z4 3 z9g (z2l Hc fi0 ff0 fc0 a0 z0 o) (yx 0 [.isl 1 (a0.map z6) false, .fn fi0 ff0 fc0]) ([] ++ Hc z0) 3 := by
 unfold xq at h
 refine LWp.sim (e := [(0, .isl 1 (a0.map z6) false), (1, .fn fi0 ff0 fc0)]) (L := ([] ++ up 3 (Hc z0))) (n := 4) (zkj (T := Hc z0) (e' := yx 0 [.isl 1 (a0.map z6) false, .fn fi0 ff0 fc0]) (e := [(0, .isl 1 (a0.map z6) false), (1, .fn fi0 ff0 fc0)]) (lit' := []) (lit := []) (hg0.tl z0) rfl rfl (AI (VS rfl) (AI (Vw.clo hg0.hf hg0.hc (by decide) (zle _)) TT)) TT) ?_
 refine zb ?_
 refine zj ?_
 refine zb ?_
 refine zb ?_
 refine zj ?_
 refine je ?_
 refine LWp.sim ?_ (z7d hg0 h)
 exact zsb (M := []) (lit' := []) (hg0.tl _) rfl (AI (VS rfl) (AI (Vw.clo hg0.hf hg0.hc (by decide) (z4v (X5 (n := 4) (q := 3) (lit' := []) rfl))) (AI (VS rfl) (AI (VS rfl) TT)))) TT
theorem zj5 {σ : Type} {Hc : σ → AHeap} {fi0 : Fn} {ff0 fc0 : List AVal} {g0 : σ → (List UInt8) → Option (Bool × σ)} (hg0 : Clo Tryd.prog fi0 ff0 fc0 Hc (fun (x : (List UInt8)) => [.str x]) (fun (b : Bool) => .bool b) g0) {a0 : List (List UInt8)} {z0 : σ} {m : Option Nat} {o : Int × σ} (h : xq g0 m a0 z0 = some o) : ACalls Tryd.prog 93 [.isl 1 (a0.map z6) false, .fn fi0 ff0 fc0] ([] ++ Hc z0) 3 (xu 4 (.int .i64 o.1) ([] ++ up 3 (Hc o.2))) := Ji (L := zbq) zg3 zfk (NB rfl) (z5q hg0 h)
def za1 : LCode := (.seq (.region [⟨some 4, .mv (.c (.bool false)), none⟩])
 (.seq (.region [⟨some 5, .mv (.t 0), none⟩,
  ⟨some 6, .mv (.t 1), none⟩,
  ⟨some 7, .call 93 [(.t 5), (.t 6)], none⟩,
  ⟨some 8, .bin .geq (.t 7) (.c (.int .i64 0)), none⟩,
  ⟨some 4, .mv (.t 8), none⟩])
 .ret))
def z3p : Lay := ⟨9, [], false⟩
def z4x : List LRes := [.t 4]
def zfa : LFn := ⟨2, z3p, za1, z4x⟩
theorem zhj : w8 Tryd.prog [] 88 = some zfa := by kernel_rfl
theorem zfc : uf Tryd.prog 88 := ⟨_, Tryd.func88, rfl, rfl⟩
noncomputable def qa {σ : Type} (g0 : σ → (List UInt8) → Option (Bool × σ)) (m : Option Nat) (a0 : List (List UInt8)) (z0 : σ) : Option (Bool × σ) :=
 (xq g0 m a0 z0).bind fun v1 =>
 some ((decide (v1.1 ≥ 0)), v1.2)
def zmv {σ : Type} (Hc : σ → AHeap) (fi0 : Fn) (ff0 fc0 : List AVal) (a0 : List (List UInt8)) (z0 : σ) (o : Bool × σ) : Exit → Env → AHeap → Nat → Prop := Zy z4x (W3 3 4 (.bool o.1) ([] ++ up 3 (Hc o.2)))
theorem z5v {σ : Type} {Hc : σ → AHeap} {fi0 : Fn} {ff0 fc0 : List AVal} {g0 : σ → (List UInt8) → Option (Bool × σ)} (hg0 : Clo Tryd.prog fi0 ff0 fc0 Hc (fun (x : (List UInt8)) => [.str x]) (fun (b : Bool) => .bool b) g0) {a0 : List (List UInt8)} {z0 : σ} {m : Option Nat} {o : Bool × σ} (h : qa g0 m a0 z0 = some o) : LWp Tryd.prog z3p 3 za1 (zmv Hc fi0 ff0 fc0 a0 z0 o) (yx 0 [.isl 1 (a0.map z6) false, .fn fi0 ff0 fc0]) ([] ++ Hc z0) 3 := by
 unfold qa at h
 refine LWp.sim (e := [(0, .isl 1 (a0.map z6) false), (1, .fn fi0 ff0 fc0)]) (L := ([] ++ up 3 (Hc z0))) (n := 4) (zkj (T := Hc z0) (e' := yx 0 [.isl 1 (a0.map z6) false, .fn fi0 ff0 fc0]) (e := [(0, .isl 1 (a0.map z6) false), (1, .fn fi0 ff0 fc0)]) (lit' := []) (lit := []) (hg0.tl z0) rfl rfl (AI (VS rfl) (AI (Vw.clo hg0.hf hg0.hc (by decide) (zle _)) TT)) TT) ?_
 refine zb ?_
 refine zj ?_
 refine zb ?_
 refine zj ?_
 obtain ⟨v1, h1, h⟩ := bind_some h
 refine zks (m := 1) (q := 3) (lit0 := []) (lit := []) (L := []) (L' := []) (rest := []) (R' := .int .i64 v1.1) (hg0.tl _) (hg0.tl _) [] (zj5 hg0 h1) rfl rfl rfl rfl rfl rfl (AI (VS rfl) (AI (Vw.clo hg0.hf hg0.hc (by decide) (z6o _ _)) TT)) TT (wz _ rfl) TT rfl ?_
 refine wg ?_
 cases h
 exact AI TT (zt3 (n' := 6) (q := 4) (lit' := []) (hg0.tl _) [] [] rfl rfl (VS rfl) TT)
theorem zk0 {σ : Type} {Hc : σ → AHeap} {fi0 : Fn} {ff0 fc0 : List AVal} {g0 : σ → (List UInt8) → Option (Bool × σ)} (hg0 : Clo Tryd.prog fi0 ff0 fc0 Hc (fun (x : (List UInt8)) => [.str x]) (fun (b : Bool) => .bool b) g0) {a0 : List (List UInt8)} {z0 : σ} {m : Option Nat} {o : Bool × σ} (h : qa g0 m a0 z0 = some o) : ACalls Tryd.prog 88 [.isl 1 (a0.map z6) false, .fn fi0 ff0 fc0] ([] ++ Hc z0) 3 (xu 4 (.bool o.1) ([] ++ up 3 (Hc o.2))) := Ji (L := zfa) zhj zfc (NB rfl) (z5v hg0 h)
def zlb : LCode := (.seq (.block 1
 (.seq (.region [⟨some 12, .faddr 1 (.t 1), none⟩,
  ⟨some 13, .load false 1 (.t 12), none⟩,
  ⟨some 14, .mv (.t 3), none⟩,
  ⟨some 15, .bin .lss (.t 13) (.t 14), none⟩,
  ⟨some 16, .mv (.t 15), none⟩,
  ⟨some 17, .faddr 1 (.t 1), some (16, false)⟩,
  ⟨some 18, .load false 1 (.t 17), some (16, false)⟩,
  ⟨some 19, .mv (.t 4), some (16, false)⟩,
  ⟨some 20, .bin .gtr (.t 18) (.t 19), some (16, false)⟩,
  ⟨some 21, .pick (.t 16) (.c (.bool true)) (.t 20), none⟩,
  ⟨some 11, .mv (.t 21), none⟩])
 (.cond (.t 11)
  (.seq (.region [⟨some 2, .mv (.c (.bool false)), none⟩])
  .ret)
  (.seq (.region [⟨some 23, .faddr 2 (.t 1), none⟩,
   ⟨some 24, .load false 1 (.t 23), none⟩,
   ⟨some 25, .bin .neq (.t 24) (.c (.str [])), none⟩,
   ⟨some 26, .mv (.t 25), none⟩,
   ⟨some 27, .faddr 0 (.t 1), some (26, true)⟩,
   ⟨some 28, .load false 1 (.t 27), some (26, true)⟩,
   ⟨some 29, .bin .neq (.t 28) (.c (.int .i64 3)), some (26, true)⟩,
   ⟨some 30, .pick (.t 26) (.t 29) (.c (.bool false)), none⟩,
   ⟨some 22, .mv (.t 30), none⟩])
  (.cond (.t 22)
   (.seq (.region [⟨some 2, .mv (.c (.bool false)), none⟩])
   .ret)
   (.seq (.region [⟨some 32, .faddr 4 (.t 1), none⟩,
    ⟨some 33, .load false 1 (.t 32), none⟩,
    ⟨some 34, .len false (.t 33), none⟩,
    ⟨some 35, .bin .gtr (.t 34) (.c (.int .i64 0)), none⟩,
    ⟨some 36, .mv (.t 35), none⟩,
    ⟨some 37, .faddr 0 (.t 1), some (36, true)⟩,
    ⟨some 38, .load false 1 (.t 37), some (36, true)⟩,
    ⟨some 39, .bin .neq (.t 38) (.c (.int .i64 4)), some (36, true)⟩,
    ⟨some 40, .pick (.t 36) (.t 39) (.c (.bool false)), none⟩,
    ⟨some 41, .mv (.t 40), none⟩,
    ⟨some 42, .faddr 0 (.t 1), some (41, true)⟩,
    ⟨some 43, .load false 1 (.t 42), some (41, true)⟩,
    ⟨some 44, .bin .neq (.t 43) (.c (.int .i64 5)), some (41, true)⟩,
    ⟨some 45, .pick (.t 41) (.t 44) (.c (.bool false)), none⟩,
    ⟨some 31, .mv (.t 45), none⟩])
   (.cond (.t 31)
    (.seq (.region [⟨some 2, .mv (.c (.bool false)), none⟩])
    .ret)
    (.seq (.region [⟨some 47, .faddr 0 (.t 1), none⟩,
     ⟨some 48, .load false 1 (.t 47), none⟩,
     ⟨some 49, .bin .eql (.t 48) (.c (.int .i64 5)), none⟩,
     ⟨some 50, .mv (.t 49), none⟩,
     ⟨some 51, .faddr 3 (.t 1), some (50, true)⟩,
     ⟨some 52, .load false 1 (.t 51), some (50, true)⟩,
     ⟨some 53, .len false (.t 52), some (50, true)⟩,
     ⟨some 54, .faddr 4 (.t 1), some (50, true)⟩,
     ⟨some 55, .load false 1 (.t 54), some (50, true)⟩,
     ⟨some 56, .len false (.t 55), some (50, true)⟩,
     ⟨some 57, .bin .neq (.t 53) (.t 56), some (50, true)⟩,
     ⟨some 58, .mv (.t 57), some (50, true)⟩,
     ⟨some 59, .faddr 3 (.t 1), some (58, false)⟩,
     ⟨some 60, .load false 1 (.t 59), some (58, false)⟩,
     ⟨some 61, .call 87 [(.t 60)], some (58, false)⟩,
     ⟨some 62, .pick (.t 58) (.c (.bool true)) (.t 61), some (50, true)⟩,
     ⟨some 63, .pick (.t 50) (.t 62) (.c (.bool false)), none⟩,
     ⟨some 46, .mv (.t 63), none⟩])
    (.cond (.t 46)
     (.seq (.region [⟨some 2, .mv (.c (.bool false)), none⟩])
     .ret)
     (.seq (.region [⟨some 65, .faddr 0 (.t 1), none⟩,
      ⟨some 66, .load false 1 (.t 65), none⟩,
      ⟨some 67, .bin .neq (.t 66) (.c (.int .i64 5)), none⟩,
      ⟨some 68, .mv (.t 67), none⟩,
      ⟨some 69, .faddr 3 (.t 1), some (68, true)⟩,
      ⟨some 70, .load false 1 (.t 69), some (68, true)⟩,
      ⟨some 71, .len false (.t 70), some (68, true)⟩,
      ⟨some 72, .bin .gtr (.t 71) (.c (.int .i64 0)), some (68, true)⟩,
      ⟨some 73, .pick (.t 68) (.t 72) (.c (.bool false)), none⟩,
      ⟨some 64, .mv (.t 73), none⟩])
     (.cond (.t 64)
      (.seq (.region [⟨some 2, .mv (.c (.bool false)), none⟩])
      .ret)
      .skip)))))))))))
 (.seq (.region [⟨some 74, .faddr 2 (.t 1), none⟩,
  ⟨some 75, .load false 1 (.t 74), none⟩,
  ⟨some 76, .call 68 [(.t 75)], none⟩,
  ⟨some 77, .mv (.t 76), none⟩,
  ⟨some 78, .faddr 3 (.t 1), some (77, true)⟩,
  ⟨some 79, .load false 1 (.t 78), some (77, true)⟩,
  ⟨some 80, .call 88 [(.t 79), (.c (.fn (.func 89) [] []))], some (77, true)⟩,
  ⟨some 81, .un .not (.t 80), some (77, true)⟩,
  ⟨some 82, .pick (.t 77) (.t 81) (.c (.bool false)), none⟩,
  ⟨some 2, .mv (.t 82), none⟩])
 .ret))
def zl6 : LCode := (.seq (.region [⟨some 1, .box (.t 0), none⟩,
 ⟨some 2, .mv (.c (.bool false)), none⟩])
 (.seq (.region [⟨some 3, .mv (.c (.int .i64 0)), none⟩,
  ⟨some 4, .mv (.c (.int .i64 0)), none⟩])
 (.seq (.seq (.region [⟨some 5, .faddr 0 (.t 1), none⟩,
  ⟨some 6, .load false 1 (.t 5), none⟩])
 (.block 0
  (.seq (.region [⟨some 8, .bin .eql (.t 6) (.c (.int .i64 1)), none⟩,
   ⟨some 7, .mv (.t 8), none⟩])
  (.cond (.t 7)
   (.region [⟨some 4, .mv (.c (.int .i64 1)), none⟩])
   (.seq (.region [⟨some 10, .bin .eql (.t 6) (.c (.int .i64 2)), none⟩,
    ⟨some 9, .mv (.t 10), none⟩])
   (.cond (.t 9)
    (.region [⟨some 3, .mv (.c (.int .i64 (-9007199254740991))), none⟩,
     ⟨some 4, .mv (.c (.int .i64 9007199254740991)), none⟩])
    .skip))))))
 zlb)))
def z6n : Lay := ⟨83, [], false⟩
def zbw : List LRes := [.t 2]
def zq6 : LFn := ⟨1, z6n, zl6, zbw⟩
theorem zml : w8 Tryd.prog [] 74 = some zq6 := by kernel_rfl
theorem zm4 : uf Tryd.prog 74 := ⟨_, Tryd.func74, rfl, rfl⟩
noncomputable def qk (m : Option Nat) (a0 : G_QJSON) (v1 : Int) (v2 : Int) : Option Bool :=
 if ((decide (a0.f_Num < v1)) || (decide (a0.f_Num > v2))) = true then
  some false
 else
  if ((!(a0.f_Text == ([] : List UInt8))) && (a0.f_Kind != 3)) = true then
   some false
  else
   if (((decide (((a0.f_Elems.map z7).length : Int) > 0)) && (a0.f_Kind != 4)) && (a0.f_Kind != 5)) = true then
    some false
   else
    (if (((a0.f_Kind == 5) == true) && ((((a0.f_Names.map z6).length : Int) != ((a0.f_Elems.map z7).length : Int)) == false)) = true then j5 m a0.f_Names else some default).bind fun v3 =>
    if ((a0.f_Kind == 5) && ((((a0.f_Names.map z6).length : Int) != ((a0.f_Elems.map z7).length : Int)) || v3)) = true then
     some false
    else
     if ((a0.f_Kind != 5) && (decide (((a0.f_Names.map z6).length : Int) > 0))) = true then
      some false
     else
      (j2 m a0.f_Text).bind fun v4 =>
      (if (v4 == true) = true then qa (fun (s : Unit) (x : (List UInt8)) => (yj m x).map fun o => (o, ())) m a0.f_Names () else some default).bind fun v5 =>
      some (v4 && (!v5.1))
def zqh (a0 : G_QJSON) (o : Bool) : Exit → Env → AHeap → Nat → Prop := Zy zbw (j1 (.bool o))
theorem Kk {a0 : G_QJSON} {v1 : Int} {v2 : Int} {m : Option Nat} {o : Bool} (h : qk m a0 v1 v2 = some o) :
 LWp Tryd.prog z6n 0 zlb (zqh a0 o) [(1, .ptr (0, 0) 0 0), (3, .int .i64 v1), (4, .int .i64 v2)] [((0, 0), .one [.int .i64 a0.f_Kind, .int .i64 a0.f_Num, .str a0.f_Text, .isl 1 (a0.f_Names.map z6) false, .isl 5 (a0.f_Elems.map z7) false])] 1 := by
 unfold qk at h
 refine zb ?_
 refine je ?_
 refine zb ?_
 refine zj ?_
 refine AI (fun hp => hp) ?_
 refine AI (fun hp => (AI hp hp)) ?_
 refine AI (fun hc => (bqf hc)) ?_
 refine LWp.sim (e := [(1, .ptr (0, 0) 0 0), (11, .bool ((decide (a0.f_Num < v1)) || (decide (a0.f_Num > v2))))]) (L := [((0, 0), .one [.int .i64 a0.f_Kind, .int .i64 a0.f_Num, .str a0.f_Text, .isl 1 (a0.f_Names.map z6) false, .isl 5 (a0.f_Elems.map z7) false])]) (n := 1) ?_ ?_
 ·exact xa (M := [((0, 0), (0, 0))]) rfl (AI (Vw.ptr _ _ _ _ rfl) (AI (VS rfl) TT)) (AI (AI rfl (BVw.oneL (AI (VS rfl) (AI (VS rfl) (AI (VS rfl) (AI (VS rfl) (AI (VS rfl) TT))))))) TT)
 refine qr (v := ((decide (a0.f_Num < v1)) || (decide (a0.f_Num > v2)))) rfl TT (fun h3 => ?_) (fun h3 => ?_)
 ·have h := zk h3 h
  refine zb ?_
  refine zj ?_
  refine wg ?_
  cases h
  exact AI TT (AI rfl (VS rfl))
 ·have h := zw h3 h
  refine zb ?_
  refine zj ?_
  refine AI (fun hp => hp) ?_
  refine AI (fun hp => hp) ?_
  refine AI (fun hc => (bqt hc)) ?_
  refine LWp.sim (e := [(1, .ptr (0, 0) 0 0), (22, .bool ((!(a0.f_Text == ([] : List UInt8))) && (a0.f_Kind != 3)))]) (L := [((0, 0), .one [.int .i64 a0.f_Kind, .int .i64 a0.f_Num, .str a0.f_Text, .isl 1 (a0.f_Names.map z6) false, .isl 5 (a0.f_Elems.map z7) false])]) (n := 1) ?_ ?_
  ·exact xa (M := [((0, 0), (0, 0))]) rfl (AI (Vw.ptr _ _ _ _ rfl) (AI (VS rfl) TT)) (AI (AI rfl (BVw.oneL (AI (VS rfl) (AI (VS rfl) (AI (VS rfl) (AI (VS rfl) (AI (VS rfl) TT))))))) TT)
  refine qr (v := ((!(a0.f_Text == ([] : List UInt8))) && (a0.f_Kind != 3))) rfl TT (fun h4 => ?_) (fun h4 => ?_)
  ·have h := zk h4 h
   refine zb ?_
   refine zj ?_
   refine wg ?_
   cases h
   exact AI TT (AI rfl (VS rfl))
  ·have h := zw h4 h
   refine zb ?_
   refine zj ?_
   refine AI (fun hp => hp) ?_
   refine AI (fun hp => hp) ?_
   refine AI (fun hc => (bqt hc)) ?_
   refine AI (fun hp => hp) ?_
   refine AI (fun hp => hp) ?_
   refine AI (fun hc => (bqt hc)) ?_
   refine LWp.sim (e := [(1, .ptr (0, 0) 0 0), (31, .bool (((decide (((a0.f_Elems.map z7).length : Int) > 0)) && (a0.f_Kind != 4)) && (a0.f_Kind != 5)))]) (L := [((0, 0), .one [.int .i64 a0.f_Kind, .int .i64 a0.f_Num, .str a0.f_Text, .isl 1 (a0.f_Names.map z6) false, .isl 5 (a0.f_Elems.map z7) false])]) (n := 1) ?_ ?_
   ·exact xa (M := [((0, 0), (0, 0))]) rfl (AI (Vw.ptr _ _ _ _ rfl) (AI (VS rfl) TT)) (AI (AI rfl (BVw.oneL (AI (VS rfl) (AI (VS rfl) (AI (VS rfl) (AI (VS rfl) (AI (VS rfl) TT))))))) TT)
   refine qr (v := (((decide (((a0.f_Elems.map z7).length : Int) > 0)) && (a0.f_Kind != 4)) && (a0.f_Kind != 5))) rfl TT (fun h5 => ?_) (fun h5 => ?_)
   ·have h := zk h5 h
    refine zb ?_
    refine zj ?_
    refine wg ?_
    cases h
    exact AI TT (AI rfl (VS rfl))
   ·have h := zw h5 h
    refine zb ?_
    refine zj ?_
    refine AI (fun hp => hp) ?_
    refine AI (fun hp => hp) ?_
    refine AI (fun hp => hp) ?_
    refine AI (fun hp => hp) ?_
    refine AI (fun hp => (AI hp hp)) ?_
    refine AI (fun hp => hp) ?_
    refine AI (fun hp => hp) ?_
    obtain ⟨v3, h6, h⟩ := bind_some h
    refine Or.inl (EX (.bool v3) (AI (fun hp => AI hp (PFn.call (zpr (zk hp h6)) (AI (VS rfl) TT) (AI rfl (AI rfl rfl)))) ?_))
    refine AI (fun hp => (AI hp (fun hc => (z20 hp (bqf hc))))) ?_
    refine AI (fun hc => (bqt hc)) ?_
    refine LWp.sim (e := [(1, .ptr (0, 0) 0 0), (46, .bool ((a0.f_Kind == 5) && ((((a0.f_Names.map z6).length : Int) != ((a0.f_Elems.map z7).length : Int)) || v3)))]) (L := [((0, 0), .one [.int .i64 a0.f_Kind, .int .i64 a0.f_Num, .str a0.f_Text, .isl 1 (a0.f_Names.map z6) false, .isl 5 (a0.f_Elems.map z7) false])]) (n := 1) ?_ ?_
    ·exact xa (M := [((0, 0), (0, 0))]) rfl (AI (Vw.ptr _ _ _ _ rfl) (AI (VS rfl) TT)) (AI (AI rfl (BVw.oneL (AI (VS rfl) (AI (VS rfl) (AI (VS rfl) (AI (VS rfl) (AI (VS rfl) TT))))))) TT)
    refine qr (v := ((a0.f_Kind == 5) && ((((a0.f_Names.map z6).length : Int) != ((a0.f_Elems.map z7).length : Int)) || v3))) rfl TT (fun h7 => ?_) (fun h7 => ?_)
    ·have h := zk h7 h
     refine zb ?_
     refine zj ?_
     refine wg ?_
     cases h
     exact AI TT (AI rfl (VS rfl))
    ·have h := zw h7 h
     refine zb ?_
     refine zj ?_
     refine AI (fun hp => hp) ?_
     refine AI (fun hp => hp) ?_
     refine AI (fun hp => hp) ?_
     refine AI (fun hc => (bqt hc)) ?_
     refine LWp.sim (e := [(1, .ptr (0, 0) 0 0), (64, .bool ((a0.f_Kind != 5) && (decide (((a0.f_Names.map z6).length : Int) > 0))))]) (L := [((0, 0), .one [.int .i64 a0.f_Kind, .int .i64 a0.f_Num, .str a0.f_Text, .isl 1 (a0.f_Names.map z6) false, .isl 5 (a0.f_Elems.map z7) false])]) (n := 1) ?_ ?_
     ·exact xa (M := [((0, 0), (0, 0))]) rfl (AI (Vw.ptr _ _ _ _ rfl) (AI (VS rfl) TT)) (AI (AI rfl (BVw.oneL (AI (VS rfl) (AI (VS rfl) (AI (VS rfl) (AI (VS rfl) (AI (VS rfl) TT))))))) TT)
     refine qr (v := ((a0.f_Kind != 5) && (decide (((a0.f_Names.map z6).length : Int) > 0)))) rfl TT (fun h8 => ?_) (fun h8 => ?_)
     ·have h := zk h8 h
      refine zb ?_
      refine zj ?_
      refine wg ?_
      cases h
      exact AI TT (AI rfl (VS rfl))
     ·have h := zw h8 h
      refine ji ?_
      refine zb ?_
      refine zj ?_
      obtain ⟨v4, h9, h⟩ := bind_some h
      refine PFn.call (zd7 h9) (AI (VS rfl) TT) ?_
      refine AI (fun hp => hp) ?_
      obtain ⟨v5, h10, h⟩ := bind_some h
      refine Or.inl (EX (.bool v5.1) (AI (fun hp => AI hp (ACalls.same rfl (J4 (k := 3) (m := 1) (L' := []) (rest := [((0, 0), .one [.int .i64 a0.f_Kind, .int .i64 a0.f_Num, .str a0.f_Text, .isl 1 (a0.f_Names.map z6) false, .isl 5 (a0.f_Elems.map z7) false])]) (R' := .bool v5.1) [] (zk0 (show Clo Tryd.prog (.func 89) [] [] (fun (s : Unit) => []) (fun (x : (List UInt8)) => [.str x]) (fun (b : Bool) => .bool b) (fun (s : Unit) (x : (List UInt8)) => (yj m x).map fun o => (o, ())) from Clo.mk' (fun s => Tl.lit rfl TT rfl) rfl rfl (fun _ => rfl) (fun s x o h => by obtain ⟨o1, h1, rfl⟩ := Option.map_eq_some_iff.1 h; exact EX _ (AI (zj1 h1) TT))) (zk hp h10)) rfl rfl rfl (AI (VS rfl) (AI (VS rfl) TT)) TT (wz _ rfl) TT rfl (AI rfl (HeapTo.get (AI (AI rfl (BVw.oneL (AI (VS rfl) (AI (VS rfl) (AI (VS rfl) (AI (VS rfl) (AI (VS rfl) TT))))))) TT)))))) ?_))
      refine AI (fun hp => hp) ?_
      refine AI (fun hc => (bqt hc)) ?_
      refine LWp.sim (e := [(2, .bool (v4 && (!v5.1)))]) (L := []) (n := 0) ?_ ?_
      ·exact xa (M := []) rfl (AI (VS rfl) TT) TT
      refine wg ?_
      cases h
      exact AI TT (AI rfl (VS rfl))
noncomputable def j6 (m : Option Nat) (a0 : G_QJSON) : Option Bool :=
 if (a0.f_Kind == 1) = true then
  qk m a0 0 1
 else
  if (a0.f_Kind == 2) = true then
   qk m a0 (-9007199254740991) 9007199254740991
  else
   qk m a0 0 0
theorem zeu {a0 : G_QJSON} {m : Option Nat} {o : Bool} (h : j6 m a0 = some o) : LWp Tryd.prog z6n 0 zl6 (zqh a0 o) (yx 0 [.agg [.int .i64 a0.f_Kind, .int .i64 a0.f_Num, .str a0.f_Text, .isl 1 (a0.f_Names.map z6) false, .isl 5 (a0.f_Elems.map z7) false]]) [] 0 := by
 unfold j6 at h
 refine zb ?_
 refine zj ?_
 refine zb ?_
 refine zj ?_
 refine zb ?_
 refine zb ?_
 refine zj ?_
 refine je ?_
 refine zb ?_
 refine zj ?_
 refine LWp.sim (e := [(1, .ptr (0, 0) 0 0), (3, .int .i64 0), (4, .int .i64 0), (6, .int .i64 a0.f_Kind), (7, .bool (a0.f_Kind == 1))]) (L := [((0, 0), .one [.int .i64 a0.f_Kind, .int .i64 a0.f_Num, .str a0.f_Text, .isl 1 (a0.f_Names.map z6) false, .isl 5 (a0.f_Elems.map z7) false])]) (n := 1) ?_ ?_
 ·exact xa (M := [((0, 0), (0, 0))]) rfl (AI (Vw.ptr _ _ _ _ rfl) (AI (VS rfl) (AI (VS rfl) (AI (VS rfl) (AI (VS rfl) TT))))) (AI (AI rfl (BVw.oneL (AI (VS rfl) (AI (VS rfl) (AI (VS rfl) (AI (VS rfl) (AI (VS rfl) TT))))))) TT)
 refine qr (v := (a0.f_Kind == 1)) rfl TT (fun h1 => ?_) (fun h1 => ?_)
 ·have h := zk h1 h
  refine zj ?_
  refine LWp.sim ?_ (Kk h)
  exact xa (M := [((0, 0), (0, 0))]) rfl (AI (Vw.ptr _ _ _ _ rfl) (AI (VS rfl) (AI (VS rfl) TT))) (AI (AI rfl (BVw.oneL (AI (VS rfl) (AI (VS rfl) (AI (VS rfl) (AI (VS rfl) (AI (VS rfl) TT))))))) TT)
 ·have h := zw h1 h
  refine zb ?_
  refine zj ?_
  refine qr (v := (a0.f_Kind == 2)) rfl TT (fun h2 => ?_) (fun h2 => ?_)
  ·have h := zk h2 h
   refine zj ?_
   refine LWp.sim ?_ (Kk h)
   exact xa (M := [((0, 0), (0, 0))]) rfl (AI (Vw.ptr _ _ _ _ rfl) (AI (VS rfl) (AI (VS rfl) TT))) (AI (AI rfl (BVw.oneL (AI (VS rfl) (AI (VS rfl) (AI (VS rfl) (AI (VS rfl) (AI (VS rfl) TT))))))) TT)
  ·have h := zw h2 h
   refine ji ?_
   refine LWp.sim ?_ (Kk h)
   exact xa (M := [((0, 0), (0, 0))]) rfl (AI (Vw.ptr _ _ _ _ rfl) (AI (VS rfl) (AI (VS rfl) TT))) (AI (AI rfl (BVw.oneL (AI (VS rfl) (AI (VS rfl) (AI (VS rfl) (AI (VS rfl) (AI (VS rfl) TT))))))) TT)
theorem zqm {a0 : G_QJSON} {m : Option Nat} {o : Bool} (h : j6 m a0 = some o) : PFn Tryd.prog 74 [.agg [.int .i64 a0.f_Kind, .int .i64 a0.f_Num, .str a0.f_Text, .isl 1 (a0.f_Names.map z6) false, .isl 5 (a0.f_Elems.map z7) false]] (.bool o) := PFn.ofFnW (L := zq6) zml zm4 (NB rfl) rfl (zeu h)
def z1n : LCode := (.seq (.region [⟨some 23, .bin .lss (.t 22) (.t 21), none⟩])
 (.seq (.cond (.t 23)
  .skip
  (.exit 1))
 (.seq (.block 2
  (.seq (.region [⟨some 24, .iaddr 5 (.t 20) (.t 22), none⟩,
   ⟨some 25, .load true 5 (.t 24), none⟩,
   ⟨some 4, .alloc [(.int .i64 0), (.int .i64 0), (.str []), (.isl 1 [] true), (.isl 5 [] true)], none⟩,
   ⟨none, .store 5 (.t 4) (.t 25), none⟩])
  (.seq (.region [⟨some 26, .load true 5 (.t 4), none⟩,
   ⟨some 27, .call 52 [(.t 26)], none⟩,
   ⟨some 5, .mv (.t 27), none⟩])
  (.seq (.region [⟨some 28, .mv (.t 5), none⟩,
   ⟨some 29, .bin .neq (.t 28) (.c (.int .i64 0)), none⟩])
  (.cond (.t 29)
   (.seq (.region [⟨some 30, .mv (.t 5), none⟩,
    ⟨some 2, .mv (.t 30), none⟩])
   .ret)
   .skip)))))
 (.region [⟨some 31, .bin .add (.t 22) (.c (.int .i64 1)), none⟩,
  ⟨some 22, .mv (.t 31), none⟩]))))
def Vc : LCode := (.seq (.region [⟨some 2, .mv (.c (.int .i64 0)), none⟩])
 .ret)
def z8m : LCode := (.seq (.region [⟨some 1, .box (.t 0), none⟩,
 ⟨some 2, .mv (.c (.int .i64 0)), none⟩])
 (.seq (.block 0
  (.seq (.region [⟨some 7, .faddr 0 (.t 1), none⟩,
   ⟨some 8, .load false 1 (.t 7), none⟩,
   ⟨some 9, .bin .lss (.t 8) (.c (.int .i64 0)), none⟩,
   ⟨some 10, .mv (.t 9), none⟩,
   ⟨some 11, .faddr 0 (.t 1), some (10, false)⟩,
   ⟨some 12, .load false 1 (.t 11), some (10, false)⟩,
   ⟨some 13, .bin .geq (.t 12) (.c (.int .i64 6)), some (10, false)⟩,
   ⟨some 14, .pick (.t 10) (.c (.bool true)) (.t 13), none⟩,
   ⟨some 6, .mv (.t 14), none⟩])
  (.cond (.t 6)
   (.seq (.region [⟨some 2, .mv (.c (.int .i64 7)), none⟩])
   .ret)
   (.seq (.region [⟨some 16, .load true 5 (.t 1), none⟩,
    ⟨some 17, .call 74 [(.t 16)], none⟩,
    ⟨some 18, .un .not (.t 17), none⟩,
    ⟨some 15, .mv (.t 18), none⟩])
   (.cond (.t 15)
    (.seq (.region [⟨some 2, .mv (.c (.int .i64 3)), none⟩])
    .ret)
    .skip)))))
 (.seq (.seq (.region [⟨some 19, .faddr 4 (.t 1), none⟩,
  ⟨some 20, .load false 1 (.t 19), none⟩,
  ⟨some 21, .len false (.t 20), none⟩,
  ⟨some 22, .mv (.c (.int .i64 0)), none⟩])
 (.block 1
  (.loop
   z1n)))
 Vc)))
def Za : Lay := ⟨32, [], false⟩
def z4t : List LRes := [.t 2]
def zi1 : LFn := ⟨1, Za, z8m, z4t⟩
theorem zbo : w8 Tryd.prog [] 52 = some zi1 := by kernel_rfl
theorem zgn : uf Tryd.prog 52 := ⟨_, Tryd.func52, rfl, rfl⟩
def z1l (a0 : G_QJSON) (o : Int) : Exit → Env → AHeap → Nat → Prop := Zy z4t (W3 3 3 (.int .i64 o) [])
def Wj (a0 : G_QJSON) (s : Int) : Env := [(20, .isl 5 (a0.f_Elems.map z7) false), (21, .int .i64 ((a0.f_Elems.map z7).length : Int)), (22, .int .i64 s)]
def Vy (a0 : G_QJSON) (s : Int) : AHeap := []
def z0u (a0 : G_QJSON) (o : Int) : Exit → Env → AHeap → Nat → Prop := (xy 1 (X3 Tryd.prog Za 3 Vc (z1l a0 o)))
noncomputable def w4 (rec1 : G_QJSON → Option Int) (m : Option Nat) : Option Int :=
 some 0
noncomputable def q7 (rec1 : G_QJSON → Option Int) (m : Option Nat) (a0 : G_QJSON) (v4 : Int) : Option (Int ⊕ Int) :=
 if (decide (v4 < ((a0.f_Elems.map z7).length : Int))) = true then
  if (0 : Int) ≤ v4 ∧ v4 < ((a0.f_Elems.map z7).length : Int) then
  ((kz (a0.f_Elems.getD v4.toNat default))).bind fun v7 =>
  (rec1 v7).bind fun v8 =>
  if (v8 != 0) = true then
   Option.map Sum.inr (
    some v8)
  else
   some (.inl (W (v4 + 1)))
  else none
 else
  Option.map Sum.inr (
   w4 rec1 m)
noncomputable def qj (rec1 : G_QJSON → Option Int) (m : Option Nat) (a0 : G_QJSON) (v4 : Int) : Option Int := Zc m (fun (s : Int) => q7 rec1 m a0 s) v4
theorem z6k {rec1 : G_QJSON → Option Int} (hrec1 : ∀ {a0 : G_QJSON} {o : Int}, rec1 a0 = some o → ACalls Tryd.prog 52 [.agg [.int .i64 a0.f_Kind, .int .i64 a0.f_Num, .str a0.f_Text, .isl 1 (a0.f_Names.map z6) false, .isl 5 (a0.f_Elems.map z7) false]] [] 3 (xu 3 (.int .i64 o) [])) {a0 : G_QJSON} {m : Option Nat} {o : Int} (h : w4 rec1 m = some o) :
 LWp Tryd.prog Za 3 Vc (z1l a0 o) [] [] 3 := by
 unfold w4 at h
 refine zb ?_
 refine zj ?_
 refine wg ?_
 cases h
 exact AI TT (z7f (n' := 3) [] [] rfl rfl (VS rfl) TT)
theorem z2x {rec1 : G_QJSON → Option Int} (hrec1 : ∀ {a0 : G_QJSON} {o : Int}, rec1 a0 = some o → ACalls Tryd.prog 52 [.agg [.int .i64 a0.f_Kind, .int .i64 a0.f_Num, .str a0.f_Text, .isl 1 (a0.f_Names.map z6) false, .isl 5 (a0.f_Elems.map z7) false]] [] 3 (xu 3 (.int .i64 o) [])) {a0 : G_QJSON} {v4 : Int} {m : Option Nat} {o : Int ⊕ Int} (h : q7 rec1 m a0 v4 = some o) :
 LWp Tryd.prog Za 3 z1n (Zr 3 3 (Wj a0) (Vy a0) (z0u a0) o) [(20, .isl 5 (a0.f_Elems.map z7) false), (21, .int .i64 ((a0.f_Elems.map z7).length : Int)), (22, .int .i64 v4)] [] 3 := by
 unfold q7 at h
 refine zb ?_
 refine zj ?_
 refine zb ?_
 refine qr (v := (decide (v4 < ((a0.f_Elems.map z7).length : Int)))) rfl TT (fun h14 => ?_) (fun h14 => ?_)
 ·have h := zk h14 h
  refine ji ?_
  refine zb ?_
  refine je ?_
  refine zb ?_
  refine zj ?_
  obtain ⟨h15, h⟩ := xz h
  refine AI h15 ?_
  obtain ⟨v7, h16, h⟩ := bind_some h
  refine EX (y8 v7) (AI (wo (kn z7 h15) h16) (AI (AI (Zh h15) (NB rfl)) ?_))
  refine zb ?_
  refine zj ?_
  obtain ⟨v8, h17, h⟩ := bind_some h
  refine J4 (k := 3) (m := 0) (L' := []) (rest := [((3, 0), .one [.int .i64 v7.f_Kind, .int .i64 v7.f_Num, .str v7.f_Text, .isl 1 (v7.f_Names.map z6) false, .isl 5 (v7.f_Elems.map z7) false])]) (R' := .int .i64 v8) [] (hrec1 h17) rfl rfl rfl (AI (VS rfl) TT) TT (wz _ rfl) TT rfl ?_
  refine LWp.sim (e := [(5, .int .i64 v8), (20, .isl 5 (a0.f_Elems.map z7) false), (21, .int .i64 ((a0.f_Elems.map z7).length : Int)), (22, .int .i64 v4)]) (L := []) (n := 3) ?_ ?_
  ·exact xa (M := []) rfl (AI (VS rfl) (AI (VS rfl) (AI (VS rfl) (AI (VS rfl) TT)))) TT
  refine zb ?_
  refine zj ?_
  refine qr (v := (v8 != 0)) rfl TT (fun h18 => ?_) (fun h18 => ?_)
  ·have h := zk h18 h
   refine zb ?_
   refine zj ?_
   refine wg ?_
   obtain ⟨o, hq, rfl⟩ := Option.map_eq_some_iff.1 h
   replace h := hq; clear hq
   refine AI nofun ?_
   cases h
   exact AI TT (z7f (n' := 3) [] [] rfl rfl (VS rfl) TT)
  ·have h := zw h18 h
   refine ji ?_
   refine zj ?_
   cases h
   exact AI rfl (xa (M := []) rfl (AI (VS rfl) (AI (VS rfl) (AI (VS rfl) TT))) TT)
 ·have h := zw h14 h
  refine Ja ?_
  obtain ⟨o, hq, rfl⟩ := Option.map_eq_some_iff.1 h
  replace h := hq; clear hq
  refine AI nofun ?_
  refine LWp.sim ?_ (z6k hrec1 h)
  exact xa (M := []) rfl TT TT
theorem z76 {rec1 : G_QJSON → Option Int} (hrec1 : ∀ {a0 : G_QJSON} {o : Int}, rec1 a0 = some o → ACalls Tryd.prog 52 [.agg [.int .i64 a0.f_Kind, .int .i64 a0.f_Num, .str a0.f_Text, .isl 1 (a0.f_Names.map z6) false, .isl 5 (a0.f_Elems.map z7) false]] [] 3 (xu 3 (.int .i64 o) [])) {a0 : G_QJSON} {v4 : Int} {m : Option Nat} {o : Int} (h : qj rec1 m a0 v4 = some o) :
 LWp Tryd.prog Za 3 (.loop z1n) (xy 1 (X3 Tryd.prog Za 3 Vc (z1l a0 o))) [(20, .isl 5 (a0.f_Elems.map z7) false), (21, .int .i64 ((a0.f_Elems.map z7).length : Int)), (22, .int .i64 v4)] [] 3 :=
 w7 (m := m) (s := (v4 : Int)) (r := o) (fun (s : Int) => q7 rec1 m a0 s) (Wj a0) (Vy a0) (z0u a0) (fun s o h => z2x hrec1 h) h
noncomputable def q8 (rec1 : G_QJSON → Option Int) (m : Option Nat) (a0 : G_QJSON) : Option Int :=
 if ((decide (a0.f_Kind < 0)) || (decide (a0.f_Kind ≥ 6))) = true then
  some 7
 else
  (j6 m a0).bind fun v1 =>
  if (!v1) = true then
   some 3
  else
   qj rec1 m a0 0
theorem z7w {rec1 : G_QJSON → Option Int} (hrec1 : ∀ {a0 : G_QJSON} {o : Int}, rec1 a0 = some o → ACalls Tryd.prog 52 [.agg [.int .i64 a0.f_Kind, .int .i64 a0.f_Num, .str a0.f_Text, .isl 1 (a0.f_Names.map z6) false, .isl 5 (a0.f_Elems.map z7) false]] [] 3 (xu 3 (.int .i64 o) [])) {a0 : G_QJSON} {m : Option Nat} {o : Int} (h : q8 rec1 m a0 = some o) : LWp Tryd.prog Za 3 z8m (z1l a0 o) (yx 0 [.agg [.int .i64 a0.f_Kind, .int .i64 a0.f_Num, .str a0.f_Text, .isl 1 (a0.f_Names.map z6) false, .isl 5 (a0.f_Elems.map z7) false]]) [] 3 := by
 unfold q8 at h
 refine zb ?_
 refine zj ?_
 refine zb ?_
 refine je ?_
 refine zb ?_
 refine zj ?_
 refine AI (fun hp => hp) ?_
 refine AI (fun hp => hp) ?_
 refine AI (fun hc => (bqf hc)) ?_
 refine LWp.sim (e := [(1, .ptr (3, 0) 0 0), (6, .bool ((decide (a0.f_Kind < 0)) || (decide (a0.f_Kind ≥ 6))))]) (L := [((3, 0), .one [.int .i64 a0.f_Kind, .int .i64 a0.f_Num, .str a0.f_Text, .isl 1 (a0.f_Names.map z6) false, .isl 5 (a0.f_Elems.map z7) false])]) (n := 4) ?_ ?_
 ·exact xa (M := [((3, 0), (3, 0))]) rfl (AI (Vw.ptr _ _ _ _ rfl) (AI (VS rfl) TT)) (AI (AI rfl (BVw.oneL (AI (VS rfl) (AI (VS rfl) (AI (VS rfl) (AI (VS rfl) (AI (VS rfl) TT))))))) TT)
 refine qr (v := ((decide (a0.f_Kind < 0)) || (decide (a0.f_Kind ≥ 6)))) rfl TT (fun h1 => ?_) (fun h1 => ?_)
 ·have h := zk h1 h
  refine zb ?_
  refine zj ?_
  refine wg ?_
  cases h
  exact AI TT (z7f (n' := 4) [] [] rfl rfl (VS rfl) TT)
 ·have h := zw h1 h
  refine zb ?_
  refine zj ?_
  obtain ⟨v1, h2, h⟩ := bind_some h
  refine PFn.call (zqm h2) (AI (VS rfl) TT) ?_
  refine qr (v := (!v1)) rfl TT (fun h3 => ?_) (fun h3 => ?_)
  ·have h := zk h3 h
   refine zb ?_
   refine zj ?_
   refine wg ?_
   cases h
   exact AI TT (z7f (n' := 4) [] [] rfl rfl (VS rfl) TT)
  ·have h := zw h3 h
   refine ji ?_
   refine zb ?_
   refine zb ?_
   refine zj ?_
   refine LWp.sim (e := [(20, .isl 5 (a0.f_Elems.map z7) false), (21, .int .i64 ((a0.f_Elems.map z7).length : Int)), (22, .int .i64 0)]) (L := []) (n := 3) ?_ ?_
   ·exact xa (M := []) rfl (AI (VS rfl) (AI (VS rfl) (AI (VS rfl) TT))) TT
   refine je ?_
   refine LWp.sim ?_ (z76 hrec1 h)
   exact xa (M := []) rfl (AI (VS rfl) (AI (VS rfl) (AI (VS rfl) TT))) TT
theorem z8j {rec1 : G_QJSON → Option Int} (hrec1 : ∀ {a0 : G_QJSON} {o : Int}, rec1 a0 = some o → ACalls Tryd.prog 52 [.agg [.int .i64 a0.f_Kind, .int .i64 a0.f_Num, .str a0.f_Text, .isl 1 (a0.f_Names.map z6) false, .isl 5 (a0.f_Elems.map z7) false]] [] 3 (xu 3 (.int .i64 o) [])) {a0 : G_QJSON} {m : Option Nat} {o : Int} (h : q8 rec1 m a0 = some o) : ACalls Tryd.prog 52 [.agg [.int .i64 a0.f_Kind, .int .i64 a0.f_Num, .str a0.f_Text, .isl 1 (a0.f_Names.map z6) false, .isl 5 (a0.f_Elems.map z7) false]] [] 3 (xu 3 (.int .i64 o) []) := Ji (L := zi1) zbo zgn (NB rfl) (z7w hrec1 h)
noncomputable def qu (m : Option Nat) : Nat → G_QJSON → Option Int
 | 0 => fun _ => none
 | k + 1 => q8 (qu m k) m
noncomputable def wh (m : Option Nat) (a0 : G_QJSON) : Option Int := zhp m (fun k => qu m k a0)
theorem z38 {m : Option Nat} : ∀ (k : Nat) {a0 : G_QJSON} {o : Int}, qu m k a0 = some o → ACalls Tryd.prog 52 [.agg [.int .i64 a0.f_Kind, .int .i64 a0.f_Num, .str a0.f_Text, .isl 1 (a0.f_Names.map z6) false, .isl 5 (a0.f_Elems.map z7) false]] [] 3 (xu 3 (.int .i64 o) [])
 | 0, _, _, h => nomatch h
 | k + 1, _, _, h => z8j (fun h => z38 k h) h
theorem zbt {a0 : G_QJSON} {m : Option Nat} {o : Int} (h : wh m a0 = some o) : ACalls Tryd.prog 52 [.agg [.int .i64 a0.f_Kind, .int .i64 a0.f_Num, .str a0.f_Text, .isl 1 (a0.f_Names.map z6) false, .isl 5 (a0.f_Elems.map z7) false]] [] 3 (xu 3 (.int .i64 o) []) := (Y6 h).elim fun k h => z38 k h
noncomputable def ki (m : Option Nat) (a0 : G_QJSON) : Option Int := q8 (wh m) m a0
theorem zpm {a0 : G_QJSON} {m : Option Nat} {o : Int} (h : ki m a0 = some o) : PFn Tryd.prog 52 [.agg [.int .i64 a0.f_Kind, .int .i64 a0.f_Num, .str a0.f_Text, .isl 1 (a0.f_Names.map z6) false, .isl 5 (a0.f_Elems.map z7) false]] (.int .i64 o) :=
 ⟨rfl, _, J4 (k := 3) (m := 0) (L' := []) (rest := []) (R' := .int .i64 o) [] (z8j zbt h) rfl rfl rfl (AI (VS rfl) TT) TT (wz _ rfl) TT rfl ⟨rfl, rfl, rfl⟩⟩
def zl5 : LCode := (.seq (.region [⟨some 1, .box (.t 0), none⟩,
 ⟨some 2, .mv (.c (.int .i64 0)), none⟩])
 (.seq (.region [⟨some 3, .alloc [(.int .i64 0)], none⟩,
  ⟨none, .store 1 (.t 3) (.c (.int .i64 0)), none⟩])
 (.seq (.seq (.region [⟨some 4, .load true 5 (.t 1), none⟩,
  ⟨some 5, .call 51 [(.t 4), (.c (.int .i64 1)), (.t 3)], none⟩,
  ⟨some 6, .un .not (.t 5), none⟩])
 (.cond (.t 6)
  (.seq (.region [⟨some 2, .mv (.c (.int .i64 2)), none⟩])
  .ret)
  .skip))
 (.seq (.region [⟨some 7, .load true 5 (.t 1), none⟩,
  ⟨some 8, .call 52 [(.t 7)], none⟩,
  ⟨some 2, .mv (.t 8), none⟩])
 .ret))))
def zdl : Lay := ⟨9, [], false⟩
def zh0 : List LRes := [.t 2]
def zqd : LFn := ⟨1, zdl, zl5, zh0⟩
theorem zn2 : w8 Tryd.prog [] 28 = some zqd := by kernel_rfl
theorem zm0 : uf Tryd.prog 28 := ⟨_, Tryd.func28, rfl, rfl⟩
noncomputable def xm (m : Option Nat) (a0 : G_QJSON) : Option Int :=
 (jp m a0 1 0).bind fun v1 =>
 if (!v1.1) = true then
  some 2
 else
  (ki m a0).bind fun v2 =>
  some v2
def zsz (a0 : G_QJSON) (o : Int) : Exit → Env → AHeap → Nat → Prop := Zy zh0 (j1 (.int .i64 o))
theorem zh5 {a0 : G_QJSON} {m : Option Nat} {o : Int} (h : xm m a0 = some o) : LWp Tryd.prog zdl 0 zl5 (zsz a0 o) (yx 0 [.agg [.int .i64 a0.f_Kind, .int .i64 a0.f_Num, .str a0.f_Text, .isl 1 (a0.f_Names.map z6) false, .isl 5 (a0.f_Elems.map z7) false]]) [] 0 := by
 unfold xm at h
 refine zb ?_
 refine zj ?_
 refine zb ?_
 refine zj ?_
 refine zb ?_
 refine zb ?_
 refine zj ?_
 obtain ⟨v1, h1, h⟩ := bind_some h
 refine J4 (k := 3) (m := 0) (L' := [((1, 0), .one [.int .i64 v1.2])]) (rest := [((0, 0), .one [.int .i64 a0.f_Kind, .int .i64 a0.f_Num, .str a0.f_Text, .isl 1 (a0.f_Names.map z6) false, .isl 5 (a0.f_Elems.map z7) false])]) (R' := .bool v1.1) [((0, 0), (1, 0))] (zco h1) rfl rfl rfl (AI (VS rfl) (AI (VS rfl) (AI (Vw.ptr _ _ _ _ rfl) TT))) (AI (h0I (1, 0) rfl rfl (BVw.oneL (AI (VS rfl) TT))) TT) (wz _ rfl) (AI rfl (AI rfl TT)) rfl ?_
 refine qr (v := (!v1.1)) rfl TT (fun h2 => ?_) (fun h2 => ?_)
 ·have h := zk h2 h
  refine zb ?_
  refine zj ?_
  refine LWp.sim (e := [(2, .int .i64 2)]) (L := []) (n := 0) ?_ ?_
  ·exact xa (M := []) rfl (AI (VS rfl) TT) TT
  refine wg ?_
  cases h
  exact AI TT (AI rfl (VS rfl))
 ·have h := zw h2 h
  refine ji ?_
  refine zb ?_
  refine zj ?_
  obtain ⟨v2, h3, h⟩ := bind_some h
  refine PFn.call (zpm h3) (AI (VS rfl) TT) ?_
  refine LWp.sim (e := [(2, .int .i64 v2)]) (L := []) (n := 0) ?_ ?_
  ·exact xa (M := []) rfl (AI (VS rfl) TT) TT
  refine wg ?_
  cases h
  exact AI TT (AI rfl (VS rfl))
theorem zl8 {a0 : G_QJSON} {m : Option Nat} {o : Int} (h : xm m a0 = some o) : PFn Tryd.prog 28 [.agg [.int .i64 a0.f_Kind, .int .i64 a0.f_Num, .str a0.f_Text, .isl 1 (a0.f_Names.map z6) false, .isl 5 (a0.f_Elems.map z7) false]] (.int .i64 o) := PFn.ofFnW (L := zqd) zn2 zm0 (NB rfl) rfl (zh5 h)
def zlq : LCode := (.seq (.region [⟨some 2, .mv (.c (.val (.slice none 0 0))), none⟩])
 (.seq (.seq (.region [⟨some 3, .mv (.t 0), none⟩,
  ⟨some 4, .eq false .slice (.t 3) (.c (.val (.slice none 0 0))), none⟩])
 (.cond (.t 4)
  (.seq (.region [⟨some 2, .mv (.c (.val (.slice none 0 0))), none⟩])
  .ret)
  .skip))
 (.seq (.region [⟨some 5, .mkSl true 1 [(.str [])] 0 [], none⟩,
  ⟨some 6, .mv (.t 0), none⟩,
  ⟨some 7, .app true 1 16 (.t 5) (.t 6), none⟩,
  ⟨some 2, .mv (.t 7), none⟩])
 .ret)))
def zdx : Lay := ⟨8, [], false⟩
def zet : List LRes := [.t 2]
def zq0 : LFn := ⟨1, zdx, zlq, zet⟩
theorem zon : w8 Tryd.prog [] 67 = some zq0 := by kernel_rfl
theorem zfu : uf Tryd.prog 67 := ⟨_, Tryd.func67, rfl, rfl⟩
noncomputable def xv (m : Option Nat) (a0 : List (List UInt8)) : Option (List (List UInt8)) :=
 if (a0.map z6) ≠ [] then
 if ((([] : List (List UInt8)) ++ a0).map z6).length * 16 ≤ 140737488355328 then
 some (([] : List (List UInt8)) ++ a0)
 else none
 else none
def ztk (a0 : List (List UInt8)) (o : (List (List UInt8))) : Exit → Env → AHeap → Nat → Prop := Zy zet (j1 (.isl 1 (o.map z6) false))
theorem zh1 {a0 : List (List UInt8)} {m : Option Nat} {o : (List (List UInt8))} (h : xv m a0 = some o) : LWp Tryd.prog zdx 0 zlq (ztk a0 o) (yx 0 [.isl 1 (a0.map z6) false]) [] 0 := by
 unfold xv at h
 refine zb ?_
 refine zj ?_
 refine zb ?_
 refine zb ?_
 refine zj ?_
 obtain ⟨h1, h⟩ := xz h
 refine AI h1 ?_
 refine qr (v := false) rfl TT (fun hc => Bool.noConfusion hc) (fun hc => ?_)
 refine ji ?_
 refine zb ?_
 refine zj ?_
 obtain ⟨h2, h⟩ := xz h
 refine EX ((([] : List (List UInt8)) ++ a0).map z6) (AI (z1z z6 ([] : List (List UInt8)) a0) (AI (AI rfl h2) ?_))
 refine wg ?_
 cases h
 exact AI TT (AI rfl (Vw.oslI _ _ _))
theorem zpi {a0 : List (List UInt8)} {m : Option Nat} {o : (List (List UInt8))} (h : xv m a0 = some o) : PFn Tryd.prog 67 [.isl 1 (a0.map z6) false] (.isl 1 (o.map z6) false) := PFn.ofFnW (L := zq0) zon zfu (NB rfl) rfl (zh1 h)
noncomputable def va (m : Option Nat) : List (List UInt8) → Option (List (List UInt8))
 | [] => some []
 | x :: r => xv m (x :: r)
theorem zmp {m : Option Nat} {a0 o : List (List UInt8)} (h : va m a0 = some o) : PFn Tryd.prog 67 [(.isl 1 (a0.map z6) false)] (.isl 1 (o.map z6) false) := by
 cases a0 with
 | nil =>
  cases h
  exact z0a (c := 9) (zs := [(.str [])]) (b := 16) zfu Tryd.func67 ⟨_, _, _, _, _, _, _, _, _, _, _, _, _, _, _, _, _, _, _, _, _, _, _, _, _, _, _, _, rfl, rfl, rfl⟩ (by kernel_rfl) (by kernel_rfl) (by kernel_rfl) (by kernel_rfl) (by decide) (by decide) rfl
 | cons x r => exact zpi (m := m) h
def z2r : LCode := (.seq (.region [⟨some 16, .bin .lss (.t 15) (.t 14), none⟩])
 (.seq (.cond (.t 16)
  .skip
  (.exit 0))
 (.seq (.block 1
  (.seq (.region [⟨some 17, .iaddr 5 (.t 13) (.t 15), none⟩,
   ⟨some 18, .load true 5 (.t 17), none⟩,
   ⟨some 5, .alloc [(.int .i64 0), (.int .i64 0), (.str []), (.isl 1 [] true), (.isl 5 [] true)], none⟩,
   ⟨none, .store 5 (.t 5) (.t 18), none⟩])
  (.draw [⟨⟨some 19, .faddr 4 (.t 1), none⟩, []⟩,
   ⟨⟨some 20, .load false 1 (.t 19), none⟩, []⟩,
   ⟨⟨some 21, .load true 5 (.t 5), none⟩, []⟩,
   ⟨⟨some 22, .call 44 [(.t 21)], none⟩, [1]⟩,
   ⟨⟨some 23, .mkSl true 5 [(.int .i64 0), (.int .i64 0), (.str []), (.isl 1 [] true), (.isl 5 [] true)] 1 [(0, (.t 22))], none⟩, []⟩,
   ⟨⟨some 24, .app true 5 80 (.t 20) (.t 23), none⟩, []⟩,
   ⟨⟨some 25, .faddr 4 (.t 1), none⟩, []⟩,
   ⟨⟨none, .store 1 (.t 25) (.t 24), none⟩, []⟩])))
 (.region [⟨some 26, .bin .add (.t 15) (.c (.int .i64 1)), none⟩,
  ⟨some 15, .mv (.t 26), none⟩]))))
def Vd : LCode := (.seq (.region [⟨some 27, .load true 5 (.t 1), none⟩,
 ⟨none, .store 5 (.t 2) (.t 27), none⟩])
 .ret)
def z7x : LCode := (.seq (.region [⟨some 1, .box (.t 0), none⟩,
 ⟨some 2, .alloc [(.int .i64 0), (.int .i64 0), (.str []), (.isl 1 [] true), (.isl 5 [] true)], none⟩])
 (.seq (.region [⟨some 6, .faddr 4 (.t 1), none⟩,
  ⟨some 7, .load false 1 (.t 6), none⟩,
  ⟨some 3, .mv (.t 7), none⟩])
 (.seq (.region [⟨some 8, .faddr 3 (.t 1), none⟩,
  ⟨some 9, .load false 1 (.t 8), none⟩,
  ⟨some 10, .call 67 [(.t 9)], none⟩,
  ⟨some 11, .faddr 3 (.t 1), none⟩,
  ⟨none, .store 1 (.t 11) (.t 10), none⟩,
  ⟨some 12, .faddr 4 (.t 1), none⟩,
  ⟨none, .store 1 (.t 12) (.c (.val (.slice none 0 0))), none⟩])
 (.seq (.seq (.region [⟨some 13, .mv (.t 3), none⟩,
  ⟨some 14, .len false (.t 13), none⟩,
  ⟨some 15, .mv (.c (.int .i64 0)), none⟩])
 (.block 0
  (.loop
   z2r)))
 Vd))))
def uw : Lay := ⟨28, [], false⟩
def z54 : List LRes := [.cell 2 true 5]
def zdu : LFn := ⟨1, uw, z7x, z54⟩
theorem zc3 : w8 Tryd.prog [] 44 = some zdu := by kernel_rfl
theorem zew : uf Tryd.prog 44 := ⟨_, Tryd.func44, rfl, rfl⟩
def z2h (a0 : G_QJSON) (o : G_QJSON) : Exit → Env → AHeap → Nat → Prop := Zy z54 (W3 3 3 (.agg [.int .i64 o.f_Kind, .int .i64 o.f_Num, .str o.f_Text, .isl 1 (o.f_Names.map z6) false, .isl 5 (o.f_Elems.map z7) false]) [])
def Wk (a0 : G_QJSON) (v1 : (List (List UInt8))) (s : (Int × (List (List AVal)))) : Env := [(1, .ptr (3, 0) 0 0), (2, .ptr (4, 0) 0 0), (13, .isl 5 (a0.f_Elems.map z7) false), (14, .int .i64 ((a0.f_Elems.map z7).length : Int)), (15, .int .i64 s.1)]
def Vg (a0 : G_QJSON) (v1 : (List (List UInt8))) (s : (Int × (List (List AVal)))) : AHeap := [((3, 0), .one [.int .i64 a0.f_Kind, .int .i64 a0.f_Num, .str a0.f_Text, .isl 1 (v1.map z6) false, .osl (5, 0) 5 (s.2.map z7)]), ((4, 0), .one [.int .i64 0, .int .i64 0, .str ([] : List UInt8), .isl 1 (([] : List (List UInt8)).map z6) true, .isl 5 (([] : List (List AVal)).map z7) true]), ((5, 0), .tok)]
def z04 (a0 : G_QJSON) (o : G_QJSON) : Exit → Env → AHeap → Nat → Prop := (xy 0 (X3 Tryd.prog uw 3 Vd (z2h a0 o)))
noncomputable def jv (rec2 : G_QJSON → Option G_QJSON) (m : Option Nat) (a0 : G_QJSON) (v1 : (List (List UInt8))) (v5 : List (List AVal)) : Option G_QJSON :=
 some (G_QJSON.mk a0.f_Kind a0.f_Num a0.f_Text v1 v5)
noncomputable def ql (rec2 : G_QJSON → Option G_QJSON) (m : Option Nat) (a0 : G_QJSON) (v1 : (List (List UInt8))) (v4 : Int) (v5 : List (List AVal)) : Option ((Int × (List (List AVal))) ⊕ G_QJSON) :=
 if (decide (v4 < ((a0.f_Elems.map z7).length : Int))) = true then
  if (0 : Int) ≤ v4 ∧ v4 < ((a0.f_Elems.map z7).length : Int) then
  ((kz (a0.f_Elems.getD v4.toNat default))).bind fun v8 =>
  (rec2 v8).bind fun v9 =>
  if ((v5 ++ ([y8 v9] : List (List AVal))).map z7).length * 80 ≤ 140737488355328 then
  some (.inl ((W (v4 + 1)), (v5 ++ ([y8 v9] : List (List AVal)))))
  else none
  else none
 else
  Option.map Sum.inr (
   jv rec2 m a0 v1 v5)
noncomputable def xb (rec2 : G_QJSON → Option G_QJSON) (m : Option Nat) (a0 : G_QJSON) (v1 : (List (List UInt8))) (v4 : Int) (v5 : List (List AVal)) : Option G_QJSON := Zc m (fun (s : (Int × (List (List AVal)))) => ql rec2 m a0 v1 s.1 s.2) (v4, v5)
theorem z6b {rec2 : G_QJSON → Option G_QJSON} (hrec2 : ∀ {a0 : G_QJSON} {o : G_QJSON}, rec2 a0 = some o → ACalls Tryd.prog 44 [.agg [.int .i64 a0.f_Kind, .int .i64 a0.f_Num, .str a0.f_Text, .isl 1 (a0.f_Names.map z6) false, .isl 5 (a0.f_Elems.map z7) false]] [] 3 (xu 3 (.agg [.int .i64 o.f_Kind, .int .i64 o.f_Num, .str o.f_Text, .isl 1 (o.f_Names.map z6) false, .isl 5 (o.f_Elems.map z7) false]) [])) {a0 : G_QJSON} {v1 : (List (List UInt8))} {v5 : List (List AVal)} {m : Option Nat} {o : G_QJSON} (h : jv rec2 m a0 v1 v5 = some o) :
 LWp Tryd.prog uw 3 Vd (z2h a0 o) [(1, .ptr (3, 0) 0 0), (2, .ptr (4, 0) 0 0)] [((3, 0), .one [.int .i64 a0.f_Kind, .int .i64 a0.f_Num, .str a0.f_Text, .isl 1 (v1.map z6) false, .osl (5, 0) 5 (v5.map z7)]), ((4, 0), .one [.int .i64 0, .int .i64 0, .str ([] : List UInt8), .isl 1 (([] : List (List UInt8)).map z6) true, .isl 5 (([] : List (List AVal)).map z7) true]), ((5, 0), .tok)] 6 := by
 unfold jv at h
 refine zb ?_
 refine zj ?_
 refine wg ?_
 cases h
 exact AI (AI TT (AI rfl (NB rfl))) (z7f (n' := 6) [] [] rfl rfl (Vw.aggL (AI (VS rfl) (AI (VS rfl) (AI (VS rfl) (AI (VS rfl) (AI (Vw.oslI _ _ _) TT)))))) TT)
theorem z34 {rec2 : G_QJSON → Option G_QJSON} (hrec2 : ∀ {a0 : G_QJSON} {o : G_QJSON}, rec2 a0 = some o → ACalls Tryd.prog 44 [.agg [.int .i64 a0.f_Kind, .int .i64 a0.f_Num, .str a0.f_Text, .isl 1 (a0.f_Names.map z6) false, .isl 5 (a0.f_Elems.map z7) false]] [] 3 (xu 3 (.agg [.int .i64 o.f_Kind, .int .i64 o.f_Num, .str o.f_Text, .isl 1 (o.f_Names.map z6) false, .isl 5 (o.f_Elems.map z7) false]) [])) {a0 : G_QJSON} {v1 : (List (List UInt8))} {v4 : Int} {v5 : List (List AVal)} {m : Option Nat} {o : (Int × (List (List AVal))) ⊕ G_QJSON} (h : ql rec2 m a0 v1 v4 v5 = some o) :
 LWp Tryd.prog uw 3 z2r (Zr 3 6 (Wk a0 v1) (Vg a0 v1) (z04 a0) o) [(1, .ptr (3, 0) 0 0), (2, .ptr (4, 0) 0 0), (13, .isl 5 (a0.f_Elems.map z7) false), (14, .int .i64 ((a0.f_Elems.map z7).length : Int)), (15, .int .i64 v4)] [((3, 0), .one [.int .i64 a0.f_Kind, .int .i64 a0.f_Num, .str a0.f_Text, .isl 1 (v1.map z6) false, .osl (5, 0) 5 (v5.map z7)]), ((4, 0), .one [.int .i64 0, .int .i64 0, .str ([] : List UInt8), .isl 1 (([] : List (List UInt8)).map z6) true, .isl 5 (([] : List (List AVal)).map z7) true]), ((5, 0), .tok)] 6 := by
 unfold ql at h
 refine zb ?_
 refine zj ?_
 refine zb ?_
 refine qr (v := (decide (v4 < ((a0.f_Elems.map z7).length : Int)))) rfl TT (fun h12 => ?_) (fun h12 => ?_)
 ·have h := zk h12 h
  refine ji ?_
  refine zb ?_
  refine je ?_
  refine zb ?_
  refine zj ?_
  obtain ⟨h13, h⟩ := xz h
  refine AI h13 ?_
  obtain ⟨v8, h14, h⟩ := bind_some h
  refine EX (y8 v8) (AI (wo (kn z7 h13) h14) (AI (AI (Zh h13) (NB rfl)) ?_))
  refine Wz ?_
  obtain ⟨v9, h15, h⟩ := bind_some h
  refine J4 (k := 3) (m := 0) (L' := []) (rest := [((6, 0), .one [.int .i64 v8.f_Kind, .int .i64 v8.f_Num, .str v8.f_Text, .isl 1 (v8.f_Names.map z6) false, .isl 5 (v8.f_Elems.map z7) false]), ((3, 0), .one [.int .i64 a0.f_Kind, .int .i64 a0.f_Num, .str a0.f_Text, .isl 1 (v1.map z6) false, .osl (5, 0) 5 (v5.map z7)]), ((4, 0), .one [.int .i64 0, .int .i64 0, .str ([] : List UInt8), .isl 1 (([] : List (List UInt8)).map z6) true, .isl 5 (([] : List (List AVal)).map z7) true]), ((5, 0), .tok)]) (R' := .agg [.int .i64 v9.f_Kind, .int .i64 v9.f_Num, .str v9.f_Text, .isl 1 (v9.f_Names.map z6) false, .isl 5 (v9.f_Elems.map z7) false]) [] (hrec2 h15) rfl rfl rfl (AI (VS rfl) TT) TT (wz _ rfl) TT rfl ?_
  refine AI rfl ?_
  obtain ⟨h16, h⟩ := xz h
  refine EX ((v5 ++ ([y8 v9] : List (List AVal))).map z7) (AI (z1z z7 v5 ([y8 v9] : List (List AVal))) (AI h16 ?_))
  refine LWp.sim (e := [(1, .ptr (3, 0) 0 0), (2, .ptr (4, 0) 0 0), (13, .isl 5 (a0.f_Elems.map z7) false), (14, .int .i64 ((a0.f_Elems.map z7).length : Int)), (15, .int .i64 v4)]) (L := [((3, 0), .one [.int .i64 a0.f_Kind, .int .i64 a0.f_Num, .str a0.f_Text, .isl 1 (v1.map z6) false, .osl (5, 0) 5 ((v5 ++ ([y8 v9] : List (List AVal))).map z7)]), ((4, 0), .one [.int .i64 0, .int .i64 0, .str ([] : List UInt8), .isl 1 (([] : List (List UInt8)).map z6) true, .isl 5 (([] : List (List AVal)).map z7) true]), ((5, 0), .tok)]) (n := 6) ?_ ?_
  ·exact xa (M := [((3, 0), (3, 0)), ((4, 0), (4, 0)), ((5, 0), (8, 0))]) rfl (AI (Vw.ptr _ _ _ _ rfl) (AI (Vw.ptr _ _ _ _ rfl) (AI (VS rfl) (AI (VS rfl) (AI (VS rfl) TT))))) (AI (AI rfl (BVw.oneL (AI (VS rfl) (AI (VS rfl) (AI (VS rfl) (AI (VS rfl) (AI (Vw.osl _ _ _ _ rfl) TT))))))) (AI (AI rfl (BVw.oneL (AI (VS rfl) (AI (VS rfl) (AI (VS rfl) (AI (VS rfl) (AI (VS rfl) TT))))))) (AI (AI rfl BVw.tok) TT)))
  refine zj ?_
  cases h
  exact AI rfl (xa (M := [((3, 0), (3, 0)), ((4, 0), (4, 0)), ((5, 0), (5, 0))]) rfl (AI (Vw.ptr _ _ _ _ rfl) (AI (Vw.ptr _ _ _ _ rfl) (AI (VS rfl) (AI (VS rfl) (AI (VS rfl) TT))))) (AI (AI rfl (BVw.oneL (AI (VS rfl) (AI (VS rfl) (AI (VS rfl) (AI (VS rfl) (AI (Vw.osl _ _ _ _ rfl) TT))))))) (AI (AI rfl (BVw.oneL (AI (VS rfl) (AI (VS rfl) (AI (VS rfl) (AI (VS rfl) (AI (VS rfl) TT))))))) (AI (AI rfl BVw.tok) TT))))
 ·have h := zw h12 h
  refine Ja ?_
  obtain ⟨o, hq, rfl⟩ := Option.map_eq_some_iff.1 h
  replace h := hq; clear hq
  refine AI nofun ?_
  refine LWp.sim ?_ (z6b hrec2 h)
  exact xa (M := [((3, 0), (3, 0)), ((4, 0), (4, 0)), ((5, 0), (5, 0))]) rfl (AI (Vw.ptr _ _ _ _ rfl) (AI (Vw.ptr _ _ _ _ rfl) TT)) (AI (AI rfl (BVw.oneL (AI (VS rfl) (AI (VS rfl) (AI (VS rfl) (AI (VS rfl) (AI (Vw.osl _ _ _ _ rfl) TT))))))) (AI (AI rfl (BVw.oneL (AI (VS rfl) (AI (VS rfl) (AI (VS rfl) (AI (VS rfl) (AI (VS rfl) TT))))))) (AI (AI rfl BVw.tok) TT)))
theorem z5r {rec2 : G_QJSON → Option G_QJSON} (hrec2 : ∀ {a0 : G_QJSON} {o : G_QJSON}, rec2 a0 = some o → ACalls Tryd.prog 44 [.agg [.int .i64 a0.f_Kind, .int .i64 a0.f_Num, .str a0.f_Text, .isl 1 (a0.f_Names.map z6) false, .isl 5 (a0.f_Elems.map z7) false]] [] 3 (xu 3 (.agg [.int .i64 o.f_Kind, .int .i64 o.f_Num, .str o.f_Text, .isl 1 (o.f_Names.map z6) false, .isl 5 (o.f_Elems.map z7) false]) [])) {a0 : G_QJSON} {v1 : (List (List UInt8))} {v4 : Int} {v5 : List (List AVal)} {m : Option Nat} {o : G_QJSON} (h : xb rec2 m a0 v1 v4 v5 = some o) :
 LWp Tryd.prog uw 3 (.loop z2r) (xy 0 (X3 Tryd.prog uw 3 Vd (z2h a0 o))) [(1, .ptr (3, 0) 0 0), (2, .ptr (4, 0) 0 0), (13, .isl 5 (a0.f_Elems.map z7) false), (14, .int .i64 ((a0.f_Elems.map z7).length : Int)), (15, .int .i64 v4)] [((3, 0), .one [.int .i64 a0.f_Kind, .int .i64 a0.f_Num, .str a0.f_Text, .isl 1 (v1.map z6) false, .osl (5, 0) 5 (v5.map z7)]), ((4, 0), .one [.int .i64 0, .int .i64 0, .str ([] : List UInt8), .isl 1 (([] : List (List UInt8)).map z6) true, .isl 5 (([] : List (List AVal)).map z7) true]), ((5, 0), .tok)] 6 :=
 w7 (m := m) (s := ((v4, v5) : (Int × (List (List AVal))))) (r := o) (fun (s : (Int × (List (List AVal)))) => ql rec2 m a0 v1 s.1 s.2) (Wk a0 v1) (Vg a0 v1) (z04 a0) (fun s o h => z34 hrec2 h) h
noncomputable def qv (rec2 : G_QJSON → Option G_QJSON) (m : Option Nat) (a0 : G_QJSON) : Option G_QJSON :=
 (va m a0.f_Names).bind fun v1 =>
 xb rec2 m a0 v1 0 []
theorem z7q {rec2 : G_QJSON → Option G_QJSON} (hrec2 : ∀ {a0 : G_QJSON} {o : G_QJSON}, rec2 a0 = some o → ACalls Tryd.prog 44 [.agg [.int .i64 a0.f_Kind, .int .i64 a0.f_Num, .str a0.f_Text, .isl 1 (a0.f_Names.map z6) false, .isl 5 (a0.f_Elems.map z7) false]] [] 3 (xu 3 (.agg [.int .i64 o.f_Kind, .int .i64 o.f_Num, .str o.f_Text, .isl 1 (o.f_Names.map z6) false, .isl 5 (o.f_Elems.map z7) false]) [])) {a0 : G_QJSON} {m : Option Nat} {o : G_QJSON} (h : qv rec2 m a0 = some o) : LWp Tryd.prog uw 3 z7x (z2h a0 o) (yx 0 [.agg [.int .i64 a0.f_Kind, .int .i64 a0.f_Num, .str a0.f_Text, .isl 1 (a0.f_Names.map z6) false, .isl 5 (a0.f_Elems.map z7) false]]) [] 3 := by
 unfold qv at h
 refine zb ?_
 refine zj ?_
 refine zb ?_
 refine zj ?_
 refine zb ?_
 refine zj ?_
 obtain ⟨v1, h1, h⟩ := bind_some h
 refine PFn.call (zmp h1) (AI (VS rfl) TT) ?_
 refine LWp.sim (e := [(1, .ptr (3, 0) 0 0), (2, .ptr (4, 0) 0 0), (3, .isl 5 (a0.f_Elems.map z7) false)]) (L := [((3, 0), .one [.int .i64 a0.f_Kind, .int .i64 a0.f_Num, .str a0.f_Text, .isl 1 (v1.map z6) false, .val (.slice none 0 0)]), ((4, 0), .one [.int .i64 0, .int .i64 0, .str ([] : List UInt8), .isl 1 (([] : List (List UInt8)).map z6) true, .isl 5 (([] : List (List AVal)).map z7) true])]) (n := 5) ?_ ?_
 ·exact xa (M := [((3, 0), (3, 0)), ((4, 0), (4, 0))]) rfl (AI (Vw.ptr _ _ _ _ rfl) (AI (Vw.ptr _ _ _ _ rfl) (AI (VS rfl) TT))) (AI (AI rfl (BVw.oneL (AI (VS rfl) (AI (VS rfl) (AI (VS rfl) (AI (VS rfl) (AI (VS rfl) TT))))))) (AI (AI rfl (BVw.oneL (AI (VS rfl) (AI (VS rfl) (AI (VS rfl) (AI (VS rfl) (AI (VS rfl) TT))))))) TT))
 refine zb ?_
 refine zb ?_
 refine zj ?_
 refine je ?_
 refine LWp.sim ?_ (z5r hrec2 h)
 exact xa (M := [((3, 0), (3, 0)), ((4, 0), (4, 0))]) rfl (AI (Vw.ptr _ _ _ _ rfl) (AI (Vw.ptr _ _ _ _ rfl) (AI (VS rfl) (AI (VS rfl) (AI (VS rfl) TT))))) (AI (AI rfl (BVw.oneL (AI (VS rfl) (AI (VS rfl) (AI (VS rfl) (AI (VS rfl) (AI (Vw.nilO _ _ (by decide)) TT))))))) (AI (AI rfl (BVw.oneL (AI (VS rfl) (AI (VS rfl) (AI (VS rfl) (AI (VS rfl) (AI (VS rfl) TT))))))) (AI (AI rfl (AI (by decide) (by decide))) TT)))
theorem z8d {rec2 : G_QJSON → Option G_QJSON} (hrec2 : ∀ {a0 : G_QJSON} {o : G_QJSON}, rec2 a0 = some o → ACalls Tryd.prog 44 [.agg [.int .i64 a0.f_Kind, .int .i64 a0.f_Num, .str a0.f_Text, .isl 1 (a0.f_Names.map z6) false, .isl 5 (a0.f_Elems.map z7) false]] [] 3 (xu 3 (.agg [.int .i64 o.f_Kind, .int .i64 o.f_Num, .str o.f_Text, .isl 1 (o.f_Names.map z6) false, .isl 5 (o.f_Elems.map z7) false]) [])) {a0 : G_QJSON} {m : Option Nat} {o : G_QJSON} (h : qv rec2 m a0 = some o) : ACalls Tryd.prog 44 [.agg [.int .i64 a0.f_Kind, .int .i64 a0.f_Num, .str a0.f_Text, .isl 1 (a0.f_Names.map z6) false, .isl 5 (a0.f_Elems.map z7) false]] [] 3 (xu 3 (.agg [.int .i64 o.f_Kind, .int .i64 o.f_Num, .str o.f_Text, .isl 1 (o.f_Names.map z6) false, .isl 5 (o.f_Elems.map z7) false]) []) := Ji (L := zdu) zc3 zew (NB rfl) (z7q hrec2 h)
noncomputable def xp (m : Option Nat) : Nat → G_QJSON → Option G_QJSON
 | 0 => fun _ => none
 | k + 1 => qv (xp m k) m
noncomputable def wy (m : Option Nat) (a0 : G_QJSON) : Option G_QJSON := zhp m (fun k => xp m k a0)
theorem z4j {m : Option Nat} : ∀ (k : Nat) {a0 : G_QJSON} {o : G_QJSON}, xp m k a0 = some o → ACalls Tryd.prog 44 [.agg [.int .i64 a0.f_Kind, .int .i64 a0.f_Num, .str a0.f_Text, .isl 1 (a0.f_Names.map z6) false, .isl 5 (a0.f_Elems.map z7) false]] [] 3 (xu 3 (.agg [.int .i64 o.f_Kind, .int .i64 o.f_Num, .str o.f_Text, .isl 1 (o.f_Names.map z6) false, .isl 5 (o.f_Elems.map z7) false]) [])
 | 0, _, _, h => nomatch h
 | k + 1, _, _, h => z8d (fun h => z4j k h) h
theorem zce {a0 : G_QJSON} {m : Option Nat} {o : G_QJSON} (h : wy m a0 = some o) : ACalls Tryd.prog 44 [.agg [.int .i64 a0.f_Kind, .int .i64 a0.f_Num, .str a0.f_Text, .isl 1 (a0.f_Names.map z6) false, .isl 5 (a0.f_Elems.map z7) false]] [] 3 (xu 3 (.agg [.int .i64 o.f_Kind, .int .i64 o.f_Num, .str o.f_Text, .isl 1 (o.f_Names.map z6) false, .isl 5 (o.f_Elems.map z7) false]) []) := (Y6 h).elim fun k h => z4j k h
noncomputable def kq (m : Option Nat) (a0 : G_QJSON) : Option G_QJSON := qv (wy m) m a0
theorem zrp {a0 : G_QJSON} {m : Option Nat} {o : G_QJSON} (h : kq m a0 = some o) : PFn Tryd.prog 44 [.agg [.int .i64 a0.f_Kind, .int .i64 a0.f_Num, .str a0.f_Text, .isl 1 (a0.f_Names.map z6) false, .isl 5 (a0.f_Elems.map z7) false]] (.agg [.int .i64 o.f_Kind, .int .i64 o.f_Num, .str o.f_Text, .isl 1 (o.f_Names.map z6) false, .isl 5 (o.f_Elems.map z7) false]) :=
 ⟨rfl, _, J4 (k := 3) (m := 0) (L' := []) (rest := []) (R' := .agg [.int .i64 o.f_Kind, .int .i64 o.f_Num, .str o.f_Text, .isl 1 (o.f_Names.map z6) false, .isl 5 (o.f_Elems.map z7) false]) [] (z8d zce h) rfl rfl rfl (AI (VS rfl) TT) TT (wz _ rfl) TT rfl ⟨rfl, rfl, rfl⟩⟩
def zkt : LCode := (.seq (.region [⟨some 2, .alloc [(.int .i64 0), (.int .i64 0), (.str []), (.isl 1 [] true), (.isl 5 [] true)], none⟩])
 (.seq (.region [⟨some 3, .mv (.t 0), none⟩,
  ⟨some 4, .build [(.int .i64 0), (.int .i64 0), (.str []), (.isl 1 [] true), (.isl 5 [] true)] [(0, 1, (.c (.int .i64 2))), (1, 1, (.t 3))], none⟩,
  ⟨none, .store 5 (.t 2) (.t 4), none⟩])
 .ret))
def zdn : Lay := ⟨5, [], false⟩
def zdp : List LRes := [.cell 2 true 5]
def zrs : LFn := ⟨1, zdn, zkt, zdp⟩
theorem zo9 : w8 Tryd.prog [] 53 = some zrs := by kernel_rfl
theorem zny : uf Tryd.prog 53 := ⟨_, Tryd.func53, rfl, rfl⟩
noncomputable def xt (m : Option Nat) (a0 : Int) : Option G_QJSON :=
 some (G_QJSON.mk 2 a0 ([] : List UInt8) ([] : List (List UInt8)) ([] : List (List AVal)))
def zta (a0 : Int) (o : G_QJSON) : Exit → Env → AHeap → Nat → Prop := Zy zdp (j1 (.agg [.int .i64 o.f_Kind, .int .i64 o.f_Num, .str o.f_Text, .isl 1 (o.f_Names.map z6) false, .isl 5 (o.f_Elems.map z7) false]))
theorem zd2 {a0 : Int} {m : Option Nat} {o : G_QJSON} (h : xt m a0 = some o) : LWp Tryd.prog zdn 0 zkt (zta a0 o) (yx 0 [.int .i64 a0]) [] 0 := by
 unfold xt at h
 refine zb ?_
 refine zj ?_
 refine zb ?_
 refine zj ?_
 refine wg ?_
 cases h
 exact AI (AI TT (AI rfl (NB rfl))) (AI rfl (Vw.aggL (AI (VS rfl) (AI (VS rfl) (AI (VS rfl) (AI (Vw.islF _ _ _) (AI (Vw.islF _ _ _) TT)))))))
theorem z4a {a0 : Int} {m : Option Nat} {o : G_QJSON} (h : xt m a0 = some o) : PFn Tryd.prog 53 [.int .i64 a0] (.agg [.int .i64 o.f_Kind, .int .i64 o.f_Num, .str o.f_Text, .isl 1 (o.f_Names.map z6) false, .isl 5 (o.f_Elems.map z7) false]) := PFn.ofFnW (L := zrs) zo9 zny (NB rfl) rfl (zd2 h)
def zko : LCode := (.seq (.region [⟨some 2, .alloc [(.int .i64 0), (.int .i64 0), (.str []), (.isl 1 [] true), (.isl 5 [] true)], none⟩])
 (.seq (.region [⟨some 3, .mv (.t 0), none⟩,
  ⟨some 4, .build [(.int .i64 0), (.int .i64 0), (.str []), (.isl 1 [] true), (.isl 5 [] true)] [(0, 1, (.c (.int .i64 3))), (2, 1, (.t 3))], none⟩,
  ⟨none, .store 5 (.t 2) (.t 4), none⟩])
 .ret))
def zdt : Lay := ⟨5, [], false⟩
def zdk : List LRes := [.cell 2 true 5]
def zrj : LFn := ⟨1, zdt, zko, zdk⟩
theorem znc : w8 Tryd.prog [] 54 = some zrj := by kernel_rfl
theorem znn : uf Tryd.prog 54 := ⟨_, Tryd.func54, rfl, rfl⟩
noncomputable def jw (m : Option Nat) (a0 : List UInt8) : Option G_QJSON :=
 some (G_QJSON.mk 3 0 a0 ([] : List (List UInt8)) ([] : List (List AVal)))
def ztj (a0 : List UInt8) (o : G_QJSON) : Exit → Env → AHeap → Nat → Prop := Zy zdk (j1 (.agg [.int .i64 o.f_Kind, .int .i64 o.f_Num, .str o.f_Text, .isl 1 (o.f_Names.map z6) false, .isl 5 (o.f_Elems.map z7) false]))
theorem zbu {a0 : List UInt8} {m : Option Nat} {o : G_QJSON} (h : jw m a0 = some o) : LWp Tryd.prog zdt 0 zko (ztj a0 o) (yx 0 [.str a0]) [] 0 := by
 unfold jw at h
 refine zb ?_
 refine zj ?_
 refine zb ?_
 refine zj ?_
 refine wg ?_
 cases h
 exact AI (AI TT (AI rfl (NB rfl))) (AI rfl (Vw.aggL (AI (VS rfl) (AI (VS rfl) (AI (VS rfl) (AI (Vw.islF _ _ _) (AI (Vw.islF _ _ _) TT)))))))
theorem z8o {a0 : List UInt8} {m : Option Nat} {o : G_QJSON} (h : jw m a0 = some o) : PFn Tryd.prog 54 [.str a0] (.agg [.int .i64 o.f_Kind, .int .i64 o.f_Num, .str o.f_Text, .isl 1 (o.f_Names.map z6) false, .isl 5 (o.f_Elems.map z7) false]) := PFn.ofFnW (L := zrj) znc znn (NB rfl) rfl (zbu h)
def zl1 : LCode := (.seq (.region [⟨some 4, .alloc [(.int .i64 0), (.int .i64 0), (.str []), (.isl 1 [] true), (.isl 5 [] true)], none⟩])
 (.seq (.region [⟨some 5, .mv (.t 0), none⟩,
  ⟨some 6, .mv (.t 1), none⟩,
  ⟨some 7, .build [(.int .i64 0), (.int .i64 0), (.str []), (.isl 1 [] true), (.isl 5 [] true)] [(0, 1, (.c (.int .i64 5))), (3, 1, (.t 5)), (4, 1, (.t 6))], none⟩,
  ⟨none, .store 5 (.t 4) (.t 7), none⟩])
 .ret))
def zcj : Lay := ⟨8, [], false⟩
def zcx : List LRes := [.cell 4 true 5]
def zpv : LFn := ⟨2, zcj, zl1, zcx⟩
theorem znt : w8 Tryd.prog [] 35 = some zpv := by kernel_rfl
theorem zn8 : uf Tryd.prog 35 := ⟨_, Tryd.func35, rfl, rfl⟩
noncomputable def qq (m : Option Nat) (a0 : List (List UInt8)) (a1 : List (List AVal)) : Option G_QJSON :=
 some (G_QJSON.mk 5 0 ([] : List UInt8) a0 a1)
def zsx (a0 : List (List UInt8)) (a1 : List (List AVal)) (o : G_QJSON) : Exit → Env → AHeap → Nat → Prop := Zy zcx (j1 (.agg [.int .i64 o.f_Kind, .int .i64 o.f_Num, .str o.f_Text, .isl 1 (o.f_Names.map z6) false, .isl 5 (o.f_Elems.map z7) false]))
theorem zdz {a0 : List (List UInt8)} {a1 : List (List AVal)} {m : Option Nat} {o : G_QJSON} (h : qq m a0 a1 = some o) : LWp Tryd.prog zcj 0 zl1 (zsx a0 a1 o) (yx 0 [.isl 1 (a0.map z6) false, .isl 5 (a1.map z7) false]) [] 0 := by
 unfold qq at h
 refine zb ?_
 refine zj ?_
 refine zb ?_
 refine zj ?_
 refine wg ?_
 cases h
 exact AI (AI TT (AI rfl (NB rfl))) (AI rfl (VS rfl))
theorem Kj {a0 : List (List UInt8)} {a1 : List (List AVal)} {m : Option Nat} {o : G_QJSON} (h : qq m a0 a1 = some o) : PFn Tryd.prog 35 [.isl 1 (a0.map z6) false, .isl 5 (a1.map z7) false] (.agg [.int .i64 o.f_Kind, .int .i64 o.f_Num, .str o.f_Text, .isl 1 (o.f_Names.map z6) false, .isl 5 (o.f_Elems.map z7) false]) := PFn.ofFnW (L := zpv) znt zn8 (NB rfl) rfl (zdz h)
def zlm : LCode := (.seq (.region [⟨some 1, .box (.t 0), none⟩,
 ⟨some 2, .alloc [(.int .i64 0), (.int .i64 0), (.str []), (.isl 1 [] true), (.isl 5 [] true)], none⟩])
 (.seq (.region [⟨some 4, .faddr 4 (.t 1), none⟩,
  ⟨some 5, .load true 5 (.t 4), none⟩,
  ⟨some 6, .call 44 [(.t 5)], none⟩,
  ⟨some 3, .alloc [(.int .i64 0), (.int .i64 0), (.str []), (.isl 1 [] true), (.isl 5 [] true)], none⟩,
  ⟨none, .store 5 (.t 3) (.t 6), none⟩])
 (.seq (.seq (.region [⟨some 7, .faddr 0 (.t 1), none⟩,
  ⟨some 8, .load false 1 (.t 7), none⟩])
 (.block 0
  (.seq (.region [⟨some 10, .bin .eql (.t 8) (.c (.int .i64 1)), none⟩,
   ⟨some 9, .mv (.t 10), none⟩])
  (.cond (.t 9)
   (.seq (.draw [⟨⟨some 12, .faddr 1 (.t 1), none⟩, []⟩,
    ⟨⟨some 13, .load false 1 (.t 12), none⟩, []⟩,
    ⟨⟨some 15, .faddr 3 (.t 1), none⟩, []⟩,
    ⟨⟨some 16, .load false 1 (.t 15), none⟩, []⟩,
    ⟨⟨some 18, .load true 5 (.t 3), none⟩, []⟩,
    ⟨⟨some 11, .mkSl true 1 [(.str [])] 3 [(0, (.c (.str [105, 100]))), (1, (.c (.str [109, 101, 116, 104, 111, 100]))), (2, (.c (.str [112, 97, 114, 97, 109, 115])))], none⟩, []⟩,
    ⟨⟨some 14, .call 53 [(.t 13)], none⟩, [3, 4]⟩,
    ⟨⟨some 17, .call 54 [(.t 16)], none⟩, [4]⟩,
    ⟨⟨some 19, .mkSl true 5 [(.int .i64 0), (.int .i64 0), (.str []), (.isl 1 [] true), (.isl 5 [] true)] 3 [(0, (.t 14)), (1, (.t 17)), (2, (.t 18))], none⟩, []⟩,
    ⟨⟨some 20, .call 35 [(.t 11), (.t 19)], none⟩, []⟩,
    ⟨⟨none, .store 5 (.t 2) (.t 20), none⟩, []⟩])
   .ret)
   (.seq (.region [⟨some 22, .bin .eql (.t 8) (.c (.int .i64 2)), none⟩,
    ⟨some 21, .mv (.t 22), none⟩])
   (.cond (.t 21)
    (.seq (.draw [⟨⟨some 24, .faddr 3 (.t 1), none⟩, []⟩,
     ⟨⟨some 25, .load false 1 (.t 24), none⟩, []⟩,
     ⟨⟨some 27, .load true 5 (.t 3), none⟩, []⟩,
     ⟨⟨some 23, .mkSl true 1 [(.str [])] 2 [(0, (.c (.str [109, 101, 116, 104, 111, 100]))), (1, (.c (.str [112, 97, 114, 97, 109, 115])))], none⟩, []⟩,
     ⟨⟨some 26, .call 54 [(.t 25)], none⟩, [2]⟩,
     ⟨⟨some 28, .mkSl true 5 [(.int .i64 0), (.int .i64 0), (.str []), (.isl 1 [] true), (.isl 5 [] true)] 2 [(0, (.t 26)), (1, (.t 27))], none⟩, []⟩,
     ⟨⟨some 29, .call 35 [(.t 23), (.t 28)], none⟩, []⟩,
     ⟨⟨none, .store 5 (.t 2) (.t 29), none⟩, []⟩])
    .ret)
    (.seq (.region [⟨some 31, .bin .eql (.t 8) (.c (.int .i64 3)), none⟩,
     ⟨some 30, .mv (.t 31), none⟩])
    (.cond (.t 30)
     (.seq (.draw [⟨⟨some 33, .faddr 1 (.t 1), none⟩, []⟩,
      ⟨⟨some 34, .load false 1 (.t 33), none⟩, []⟩,
      ⟨⟨some 36, .load true 5 (.t 3), none⟩, []⟩,
      ⟨⟨some 32, .mkSl true 1 [(.str [])] 2 [(0, (.c (.str [105, 100]))), (1, (.c (.str [114, 101, 115, 117, 108, 116])))], none⟩, []⟩,
      ⟨⟨some 35, .call 53 [(.t 34)], none⟩, [2]⟩,
      ⟨⟨some 37, .mkSl true 5 [(.int .i64 0), (.int .i64 0), (.str []), (.isl 1 [] true), (.isl 5 [] true)] 2 [(0, (.t 35)), (1, (.t 36))], none⟩, []⟩,
      ⟨⟨some 38, .call 35 [(.t 32), (.t 37)], none⟩, []⟩,
      ⟨⟨none, .store 5 (.t 2) (.t 38), none⟩, []⟩])
     .ret)
     (.seq (.region [⟨some 40, .bin .eql (.t 8) (.c (.int .i64 4)), none⟩,
      ⟨some 39, .mv (.t 40), none⟩])
     (.cond (.t 39)
      (.seq (.draw [⟨⟨some 42, .faddr 1 (.t 1), none⟩, []⟩,
       ⟨⟨some 43, .load false 1 (.t 42), none⟩, []⟩,
       ⟨⟨some 46, .faddr 2 (.t 1), none⟩, []⟩,
       ⟨⟨some 47, .load false 1 (.t 46), none⟩, []⟩,
       ⟨⟨some 49, .faddr 3 (.t 1), none⟩, []⟩,
       ⟨⟨some 50, .load false 1 (.t 49), none⟩, []⟩,
       ⟨⟨some 41, .mkSl true 1 [(.str [])] 2 [(0, (.c (.str [105, 100]))), (1, (.c (.str [101, 114, 114, 111, 114])))], none⟩, []⟩,
       ⟨⟨some 45, .mkSl true 1 [(.str [])] 2 [(0, (.c (.str [99, 111, 100, 101]))), (1, (.c (.str [109, 101, 115, 115, 97, 103, 101])))], none⟩, []⟩,
       ⟨⟨some 44, .call 53 [(.t 43)], none⟩, [3, 5]⟩,
       ⟨⟨some 48, .call 53 [(.t 47)], none⟩, [5]⟩,
       ⟨⟨some 51, .call 54 [(.t 50)], none⟩, []⟩,
       ⟨⟨some 52, .mkSl true 5 [(.int .i64 0), (.int .i64 0), (.str []), (.isl 1 [] true), (.isl 5 [] true)] 2 [(0, (.t 48)), (1, (.t 51))], none⟩, []⟩,
       ⟨⟨some 53, .call 35 [(.t 45), (.t 52)], none⟩, []⟩,
       ⟨⟨some 54, .mkSl true 5 [(.int .i64 0), (.int .i64 0), (.str []), (.isl 1 [] true), (.isl 5 [] true)] 2 [(0, (.t 44)), (1, (.t 53))], none⟩, []⟩,
       ⟨⟨some 55, .call 35 [(.t 41), (.t 54)], none⟩, []⟩,
       ⟨⟨none, .store 5 (.t 2) (.t 55), none⟩, []⟩])
      .ret)
      .skip))))))))))
 (.seq (.draw [⟨⟨some 59, .faddr 1 (.t 1), none⟩, []⟩,
  ⟨⟨some 60, .load false 1 (.t 59), none⟩, []⟩,
  ⟨⟨some 56, .mkSl true 1 [(.str [])] 2 [(0, (.c (.str [109, 101, 116, 104, 111, 100]))), (1, (.c (.str [112, 97, 114, 97, 109, 115])))], none⟩, []⟩,
  ⟨⟨some 58, .mkSl true 1 [(.str [])] 1 [(0, (.c (.str [105, 100])))], none⟩, []⟩,
  ⟨⟨some 57, .call 54 [(.c (.str [36, 47, 99, 97, 110, 99, 101, 108]))], none⟩, [1]⟩,
  ⟨⟨some 61, .call 53 [(.t 60)], none⟩, []⟩,
  ⟨⟨some 62, .mkSl true 5 [(.int .i64 0), (.int .i64 0), (.str []), (.isl 1 [] true), (.isl 5 [] true)] 1 [(0, (.t 61))], none⟩, []⟩,
  ⟨⟨some 63, .call 35 [(.t 58), (.t 62)], none⟩, []⟩,
  ⟨⟨some 64, .mkSl true 5 [(.int .i64 0), (.int .i64 0), (.str []), (.isl 1 [] true), (.isl 5 [] true)] 2 [(0, (.t 57)), (1, (.t 63))], none⟩, []⟩,
  ⟨⟨some 65, .call 35 [(.t 56), (.t 64)], none⟩, []⟩,
  ⟨⟨none, .store 5 (.t 2) (.t 65), none⟩, []⟩])
 .ret))))
def zbv : Lay := ⟨66, [], false⟩
def zd5 : List LRes := [.cell 2 true 5]
def zph : LFn := ⟨1, zbv, zlm, zd5⟩
theorem znh : w8 Tryd.prog [] 29 = some zph := by kernel_rfl
theorem zp2 : uf Tryd.prog 29 := ⟨_, Tryd.func29, rfl, rfl⟩
noncomputable def j0 (m : Option Nat) (a0 : G_QMessage) : Option G_QJSON :=
 (kq m (G_QJSON.mk a0.f_Body.f_Kind a0.f_Body.f_Num a0.f_Body.f_Text a0.f_Body.f_Names a0.f_Body.f_Elems)).bind fun v1 =>
 if (a0.f_Kind == 1) = true then
  (xt m a0.f_ID).bind fun v2 =>
  (jw m a0.f_Method).bind fun v3 =>
  (qq m ([([105, 100] : List UInt8), ([109, 101, 116, 104, 111, 100] : List UInt8), ([112, 97, 114, 97, 109, 115] : List UInt8)] : List (List UInt8)) ([y8 v2, y8 v3, y8 v1] : List (List AVal))).bind fun v4 =>
  some v4
 else
  if (a0.f_Kind == 2) = true then
   (jw m a0.f_Method).bind fun v5 =>
   (qq m ([([109, 101, 116, 104, 111, 100] : List UInt8), ([112, 97, 114, 97, 109, 115] : List UInt8)] : List (List UInt8)) ([y8 v5, y8 v1] : List (List AVal))).bind fun v6 =>
   some v6
  else
   if (a0.f_Kind == 3) = true then
    (xt m a0.f_ID).bind fun v7 =>
    (qq m ([([105, 100] : List UInt8), ([114, 101, 115, 117, 108, 116] : List UInt8)] : List (List UInt8)) ([y8 v7, y8 v1] : List (List AVal))).bind fun v8 =>
    some v8
   else
    if (a0.f_Kind == 4) = true then
     (xt m a0.f_ID).bind fun v9 =>
     (xt m a0.f_Code).bind fun v10 =>
     (jw m a0.f_Method).bind fun v11 =>
     (qq m ([([99, 111, 100, 101] : List UInt8), ([109, 101, 115, 115, 97, 103, 101] : List UInt8)] : List (List UInt8)) ([y8 v10, y8 v11] : List (List AVal))).bind fun v12 =>
     (qq m ([([105, 100] : List UInt8), ([101, 114, 114, 111, 114] : List UInt8)] : List (List UInt8)) ([y8 v9, y8 v12] : List (List AVal))).bind fun v13 =>
     some v13
    else
     (jw m ([36, 47, 99, 97, 110, 99, 101, 108] : List UInt8)).bind fun v14 =>
     (xt m a0.f_ID).bind fun v15 =>
     (qq m ([([105, 100] : List UInt8)] : List (List UInt8)) ([y8 v15] : List (List AVal))).bind fun v16 =>
     (qq m ([([109, 101, 116, 104, 111, 100] : List UInt8), ([112, 97, 114, 97, 109, 115] : List UInt8)] : List (List UInt8)) ([y8 v14, y8 v16] : List (List AVal))).bind fun v17 =>
     some v17
def zsh (a0 : G_QMessage) (o : G_QJSON) : Exit → Env → AHeap → Nat → Prop := Zy zd5 (j1 (.agg [.int .i64 o.f_Kind, .int .i64 o.f_Num, .str o.f_Text, .isl 1 (o.f_Names.map z6) false, .isl 5 (o.f_Elems.map z7) false]))
theorem ze8 {a0 : G_QMessage} {m : Option Nat} {o : G_QJSON} (h : j0 m a0 = some o) : LWp Tryd.prog zbv 0 zlm (zsh a0 o) (yx 0 [.agg [.int .i64 a0.f_Kind, .int .i64 a0.f_ID, .int .i64 a0.f_Code, .str a0.f_Method, .int .i64 a0.f_Body.f_Kind, .int .i64 a0.f_Body.f_Num, .str a0.f_Body.f_Text, .isl 1 (a0.f_Body.f_Names.map z6) false, .isl 5 (a0.f_Body.f_Elems.map z7) false]]) [] 0 := by
 unfold j0 at h
 refine zb ?_
 refine zj ?_
 refine zb ?_
 refine zj ?_
 obtain ⟨v1, h1, h⟩ := bind_some h
 refine PFn.call (zrp h1) (AI (VS rfl) TT) ?_
 refine zb ?_
 refine zb ?_
 refine zj ?_
 refine LWp.sim (e := [(1, .ptr (0, 0) 0 0), (2, .ptr (1, 0) 0 0), (3, .ptr (2, 0) 0 0), (8, .int .i64 a0.f_Kind)]) (L := [((0, 0), .one [.int .i64 a0.f_Kind, .int .i64 a0.f_ID, .int .i64 a0.f_Code, .str a0.f_Method, .int .i64 a0.f_Body.f_Kind, .int .i64 a0.f_Body.f_Num, .str a0.f_Body.f_Text, .isl 1 (a0.f_Body.f_Names.map z6) false, .isl 5 (a0.f_Body.f_Elems.map z7) false]), ((1, 0), .one [.int .i64 0, .int .i64 0, .str ([] : List UInt8), .isl 1 (([] : List (List UInt8)).map z6) true, .isl 5 (([] : List (List AVal)).map z7) true]), ((2, 0), .one [.int .i64 v1.f_Kind, .int .i64 v1.f_Num, .str v1.f_Text, .isl 1 (v1.f_Names.map z6) false, .isl 5 (v1.f_Elems.map z7) false])]) (n := 3) ?_ ?_
 ·exact xa (M := [((0, 0), (0, 0)), ((1, 0), (1, 0)), ((2, 0), (2, 0))]) rfl (AI (Vw.ptr _ _ _ _ rfl) (AI (Vw.ptr _ _ _ _ rfl) (AI (Vw.ptr _ _ _ _ rfl) (AI (VS rfl) TT)))) (AI (AI rfl (BVw.oneL (AI (VS rfl) (AI (VS rfl) (AI (VS rfl) (AI (VS rfl) (AI (VS rfl) (AI (VS rfl) (AI (VS rfl) (AI (VS rfl) (AI (VS rfl) TT))))))))))) (AI (AI rfl (BVw.oneL (AI (VS rfl) (AI (VS rfl) (AI (VS rfl) (AI (VS rfl) (AI (VS rfl) TT))))))) (AI (AI rfl (BVw.oneL (AI (VS rfl) (AI (VS rfl) (AI (VS rfl) (AI (VS rfl) (AI (VS rfl) TT))))))) TT)))
 refine je ?_
 refine zb ?_
 refine zj ?_
 refine qr (v := (a0.f_Kind == 1)) rfl TT (fun h2 => ?_) (fun h2 => ?_)
 ·have h := zk h2 h
  refine zb ?_
  refine Wz ?_
  obtain ⟨v2, h3, h⟩ := bind_some h
  refine PFn.call (z4a h3) (AI (VS rfl) TT) ?_
  refine AI rfl ?_
  refine AI rfl ?_
  obtain ⟨v3, h4, h⟩ := bind_some h
  refine PFn.call (z8o h4) (AI (VS rfl) TT) ?_
  refine AI rfl ?_
  obtain ⟨v4, h5, h⟩ := bind_some h
  refine PFn.call (Kj h5) (AI (Vw.islF _ _ _) (AI (Vw.islF _ _ _) TT)) ?_
  refine LWp.sim (e := [(2, .ptr (0, 0) 0 0)]) (L := [((0, 0), .one [.int .i64 v4.f_Kind, .int .i64 v4.f_Num, .str v4.f_Text, .isl 1 (v4.f_Names.map z6) false, .isl 5 (v4.f_Elems.map z7) false])]) (n := 1) ?_ ?_
  ·exact xa (M := [((0, 0), (1, 0))]) rfl (AI (Vw.ptr _ _ _ _ rfl) TT) (AI (AI rfl (BVw.oneL (AI (VS rfl) (AI (VS rfl) (AI (VS rfl) (AI (VS rfl) (AI (VS rfl) TT))))))) TT)
  refine wg ?_
  cases h
  exact AI (AI TT (AI rfl (NB rfl))) (AI rfl (VS rfl))
 ·have h := zw h2 h
  refine zb ?_
  refine zj ?_
  refine qr (v := (a0.f_Kind == 2)) rfl TT (fun h6 => ?_) (fun h6 => ?_)
  ·have h := zk h6 h
   refine zb ?_
   refine Wz ?_
   obtain ⟨v5, h7, h⟩ := bind_some h
   refine PFn.call (z8o h7) (AI (VS rfl) TT) ?_
   refine AI rfl ?_
   obtain ⟨v6, h8, h⟩ := bind_some h
   refine PFn.call (Kj h8) (AI (Vw.islF _ _ _) (AI (Vw.islF _ _ _) TT)) ?_
   refine LWp.sim (e := [(2, .ptr (0, 0) 0 0)]) (L := [((0, 0), .one [.int .i64 v6.f_Kind, .int .i64 v6.f_Num, .str v6.f_Text, .isl 1 (v6.f_Names.map z6) false, .isl 5 (v6.f_Elems.map z7) false])]) (n := 1) ?_ ?_
   ·exact xa (M := [((0, 0), (1, 0))]) rfl (AI (Vw.ptr _ _ _ _ rfl) TT) (AI (AI rfl (BVw.oneL (AI (VS rfl) (AI (VS rfl) (AI (VS rfl) (AI (VS rfl) (AI (VS rfl) TT))))))) TT)
   refine wg ?_
   cases h
   exact AI (AI TT (AI rfl (NB rfl))) (AI rfl (VS rfl))
  ·have h := zw h6 h
   refine zb ?_
   refine zj ?_
   refine qr (v := (a0.f_Kind == 3)) rfl TT (fun h9 => ?_) (fun h9 => ?_)
   ·have h := zk h9 h
    refine zb ?_
    refine Wz ?_
    obtain ⟨v7, h10, h⟩ := bind_some h
    refine PFn.call (z4a h10) (AI (VS rfl) TT) ?_
    refine AI rfl ?_
    obtain ⟨v8, h11, h⟩ := bind_some h
    refine PFn.call (Kj h11) (AI (Vw.islF _ _ _) (AI (Vw.islF _ _ _) TT)) ?_
    refine LWp.sim (e := [(2, .ptr (0, 0) 0 0)]) (L := [((0, 0), .one [.int .i64 v8.f_Kind, .int .i64 v8.f_Num, .str v8.f_Text, .isl 1 (v8.f_Names.map z6) false, .isl 5 (v8.f_Elems.map z7) false])]) (n := 1) ?_ ?_
    ·exact xa (M := [((0, 0), (1, 0))]) rfl (AI (Vw.ptr _ _ _ _ rfl) TT) (AI (AI rfl (BVw.oneL (AI (VS rfl) (AI (VS rfl) (AI (VS rfl) (AI (VS rfl) (AI (VS rfl) TT))))))) TT)
    refine wg ?_
    cases h
    exact AI (AI TT (AI rfl (NB rfl))) (AI rfl (VS rfl))
   ·have h := zw h9 h
    refine zb ?_
    refine zj ?_
    refine LWp.sim (e := [(1, .ptr (0, 0) 0 0), (2, .ptr (1, 0) 0 0), (39, .bool (a0.f_Kind == 4))]) (L := [((0, 0), .one [.int .i64 a0.f_Kind, .int .i64 a0.f_ID, .int .i64 a0.f_Code, .str a0.f_Method, .int .i64 a0.f_Body.f_Kind, .int .i64 a0.f_Body.f_Num, .str a0.f_Body.f_Text, .isl 1 (a0.f_Body.f_Names.map z6) false, .isl 5 (a0.f_Body.f_Elems.map z7) false]), ((1, 0), .one [.int .i64 0, .int .i64 0, .str ([] : List UInt8), .isl 1 (([] : List (List UInt8)).map z6) true, .isl 5 (([] : List (List AVal)).map z7) true])]) (n := 2) ?_ ?_
    ·exact xa (M := [((0, 0), (0, 0)), ((1, 0), (1, 0))]) rfl (AI (Vw.ptr _ _ _ _ rfl) (AI (Vw.ptr _ _ _ _ rfl) (AI (VS rfl) TT))) (AI (AI rfl (BVw.oneL (AI (VS rfl) (AI (VS rfl) (AI (VS rfl) (AI (VS rfl) (AI (VS rfl) (AI (VS rfl) (AI (VS rfl) (AI (VS rfl) (AI (VS rfl) TT))))))))))) (AI (AI rfl (BVw.oneL (AI (VS rfl) (AI (VS rfl) (AI (VS rfl) (AI (VS rfl) (AI (VS rfl) TT))))))) TT))
    refine qr (v := (a0.f_Kind == 4)) rfl TT (fun h12 => ?_) (fun h12 => ?_)
    ·have h := zk h12 h
     refine zb ?_
     refine Wz ?_
     obtain ⟨v9, h13, h⟩ := bind_some h
     refine PFn.call (z4a h13) (AI (VS rfl) TT) ?_
     refine AI rfl ?_
     refine AI rfl ?_
     obtain ⟨v10, h14, h⟩ := bind_some h
     refine PFn.call (z4a h14) (AI (VS rfl) TT) ?_
     refine AI rfl ?_
     obtain ⟨v11, h15, h⟩ := bind_some h
     refine PFn.call (z8o h15) (AI (VS rfl) TT) ?_
     obtain ⟨v12, h16, h⟩ := bind_some h
     refine PFn.call (Kj h16) (AI (Vw.islF _ _ _) (AI (Vw.islF _ _ _) TT)) ?_
     obtain ⟨v13, h17, h⟩ := bind_some h
     refine PFn.call (Kj h17) (AI (Vw.islF _ _ _) (AI (Vw.islF _ _ _) TT)) ?_
     refine LWp.sim (e := [(2, .ptr (0, 0) 0 0)]) (L := [((0, 0), .one [.int .i64 v13.f_Kind, .int .i64 v13.f_Num, .str v13.f_Text, .isl 1 (v13.f_Names.map z6) false, .isl 5 (v13.f_Elems.map z7) false])]) (n := 1) ?_ ?_
     ·exact xa (M := [((0, 0), (1, 0))]) rfl (AI (Vw.ptr _ _ _ _ rfl) TT) (AI (AI rfl (BVw.oneL (AI (VS rfl) (AI (VS rfl) (AI (VS rfl) (AI (VS rfl) (AI (VS rfl) TT))))))) TT)
     refine wg ?_
     cases h
     exact AI (AI TT (AI rfl (NB rfl))) (AI rfl (VS rfl))
    ·have h := zw h12 h
     refine ji ?_
     refine zb ?_
     refine Wz ?_
     obtain ⟨v14, h18, h⟩ := bind_some h
     refine PFn.call (z8o h18) (AI (VS rfl) TT) ?_
     refine AI rfl ?_
     obtain ⟨v15, h19, h⟩ := bind_some h
     refine PFn.call (z4a h19) (AI (VS rfl) TT) ?_
     obtain ⟨v16, h20, h⟩ := bind_some h
     refine PFn.call (Kj h20) (AI (Vw.islF _ _ _) (AI (Vw.islF _ _ _) TT)) ?_
     obtain ⟨v17, h21, h⟩ := bind_some h
     refine PFn.call (Kj h21) (AI (Vw.islF _ _ _) (AI (Vw.islF _ _ _) TT)) ?_
     refine LWp.sim (e := [(2, .ptr (0, 0) 0 0)]) (L := [((0, 0), .one [.int .i64 v17.f_Kind, .int .i64 v17.f_Num, .str v17.f_Text, .isl 1 (v17.f_Names.map z6) false, .isl 5 (v17.f_Elems.map z7) false])]) (n := 1) ?_ ?_
     ·exact xa (M := [((0, 0), (1, 0))]) rfl (AI (Vw.ptr _ _ _ _ rfl) TT) (AI (AI rfl (BVw.oneL (AI (VS rfl) (AI (VS rfl) (AI (VS rfl) (AI (VS rfl) (AI (VS rfl) TT))))))) TT)
     refine wg ?_
     cases h
     exact AI (AI TT (AI rfl (NB rfl))) (AI rfl (VS rfl))
theorem zps {a0 : G_QMessage} {m : Option Nat} {o : G_QJSON} (h : j0 m a0 = some o) : PFn Tryd.prog 29 [.agg [.int .i64 a0.f_Kind, .int .i64 a0.f_ID, .int .i64 a0.f_Code, .str a0.f_Method, .int .i64 a0.f_Body.f_Kind, .int .i64 a0.f_Body.f_Num, .str a0.f_Body.f_Text, .isl 1 (a0.f_Body.f_Names.map z6) false, .isl 5 (a0.f_Body.f_Elems.map z7) false]] (.agg [.int .i64 o.f_Kind, .int .i64 o.f_Num, .str o.f_Text, .isl 1 (o.f_Names.map z6) false, .isl 5 (o.f_Elems.map z7) false]) := PFn.ofFnW (L := zph) znh zp2 (NB rfl) rfl (ze8 h)
def zq1 : LCode := (.seq (.region [⟨some 1, .box (.t 0), none⟩,
 ⟨some 2, .alloc [(.int .i64 0), (.int .i64 0), (.str []), (.isl 1 [] true), (.isl 5 [] true)], none⟩,
 ⟨some 3, .mv (.c (.int .i64 0)), none⟩])
 (.seq (.seq (.region [⟨some 7, .faddr 0 (.t 1), none⟩,
  ⟨some 8, .load false 1 (.t 7), none⟩,
  ⟨some 9, .bin .lss (.t 8) (.c (.int .i64 1)), none⟩,
  ⟨some 10, .mv (.t 9), none⟩,
  ⟨some 11, .faddr 0 (.t 1), some (10, false)⟩,
  ⟨some 12, .load false 1 (.t 11), some (10, false)⟩,
  ⟨some 13, .bin .gtr (.t 12) (.c (.int .i64 5)), some (10, false)⟩,
  ⟨some 14, .pick (.t 10) (.c (.bool true)) (.t 13), none⟩])
 (.cond (.t 14)
  (.seq (.region [⟨some 15, .build [(.int .i64 0), (.int .i64 0), (.str []), (.isl 1 [] true), (.isl 5 [] true)] [], none⟩,
   ⟨none, .store 5 (.t 2) (.t 15), none⟩,
   ⟨some 3, .mv (.c (.int .i64 7)), none⟩])
  .ret)
  .skip))
 (.seq (.seq (.region [⟨some 16, .load true 9 (.t 1), none⟩,
  ⟨some 17, .call 27 [(.t 16)], none⟩,
  ⟨some 18, .un .not (.t 17), none⟩])
 (.cond (.t 18)
  (.seq (.region [⟨some 19, .build [(.int .i64 0), (.int .i64 0), (.str []), (.isl 1 [] true), (.isl 5 [] true)] [], none⟩,
   ⟨none, .store 5 (.t 2) (.t 19), none⟩,
   ⟨some 3, .mv (.c (.int .i64 3)), none⟩])
  .ret)
  .skip))
 (.seq (.seq (.region [⟨some 20, .faddr 4 (.t 1), none⟩,
  ⟨some 21, .load true 5 (.t 20), none⟩,
  ⟨some 22, .call 28 [(.t 21)], none⟩,
  ⟨some 4, .mv (.t 22), none⟩])
 (.seq (.region [⟨some 23, .mv (.t 4), none⟩,
  ⟨some 24, .bin .neq (.t 23) (.c (.int .i64 0)), none⟩])
 (.cond (.t 24)
  (.seq (.region [⟨some 25, .build [(.int .i64 0), (.int .i64 0), (.str []), (.isl 1 [] true), (.isl 5 [] true)] [], none⟩,
   ⟨some 26, .mv (.t 4), none⟩,
   ⟨none, .store 5 (.t 2) (.t 25), none⟩,
   ⟨some 3, .mv (.t 26), none⟩])
  .ret)
  .skip)))
 (.seq (.region [⟨some 27, .load true 9 (.t 1), none⟩,
  ⟨some 28, .call 29 [(.t 27)], none⟩,
  ⟨some 5, .alloc [(.int .i64 0), (.int .i64 0), (.str []), (.isl 1 [] true), (.isl 5 [] true)], none⟩,
  ⟨none, .store 5 (.t 5) (.t 28), none⟩])
 (.seq (.seq (.region [⟨some 29, .load true 5 (.t 5), none⟩,
  ⟨some 30, .call 28 [(.t 29)], none⟩,
  ⟨some 6, .mv (.t 30), none⟩])
 (.seq (.region [⟨some 31, .mv (.t 6), none⟩,
  ⟨some 32, .bin .neq (.t 31) (.c (.int .i64 0)), none⟩])
 (.cond (.t 32)
  (.seq (.region [⟨some 33, .build [(.int .i64 0), (.int .i64 0), (.str []), (.isl 1 [] true), (.isl 5 [] true)] [], none⟩,
   ⟨some 34, .mv (.t 6), none⟩,
   ⟨none, .store 5 (.t 2) (.t 33), none⟩,
   ⟨some 3, .mv (.t 34), none⟩])
  .ret)
  .skip)))
 (.seq (.region [⟨some 35, .load true 5 (.t 5), none⟩,
  ⟨none, .store 5 (.t 2) (.t 35), none⟩,
  ⟨some 3, .mv (.c (.int .i64 0)), none⟩])
 .ret)))))))
def zl2 : Lay := ⟨36, [], false⟩
def zkl : List LRes := [.cell 2 true 5, .t 3]
def zu0 : LFn := ⟨1, zl2, zq1, zkl⟩
theorem zrr : w8 Tryd.prog [] 7 = some zu0 := by kernel_rfl
theorem zro : uf Tryd.prog 7 := ⟨_, Tryd.func7, rfl, rfl⟩
noncomputable def jn (m : Option Nat) (a0 : G_QMessage) : Option (G_QJSON × Int) :=
 if ((decide (a0.f_Kind < 1)) || (decide (a0.f_Kind > 5))) = true then
  some ((G_QJSON.mk 0 0 ([] : List UInt8) ([] : List (List UInt8)) ([] : List (List AVal))), 7)
 else
  (xl m (G_QMessage.mk a0.f_Kind a0.f_ID a0.f_Code a0.f_Method (G_QJSON.mk a0.f_Body.f_Kind a0.f_Body.f_Num a0.f_Body.f_Text a0.f_Body.f_Names a0.f_Body.f_Elems))).bind fun v1 =>
  if (!v1) = true then
   some ((G_QJSON.mk 0 0 ([] : List UInt8) ([] : List (List UInt8)) ([] : List (List AVal))), 3)
  else
   (xm m (G_QJSON.mk a0.f_Body.f_Kind a0.f_Body.f_Num a0.f_Body.f_Text a0.f_Body.f_Names a0.f_Body.f_Elems)).bind fun v2 =>
   if (v2 != 0) = true then
    some ((G_QJSON.mk 0 0 ([] : List UInt8) ([] : List (List UInt8)) ([] : List (List AVal))), v2)
   else
    (j0 m (G_QMessage.mk a0.f_Kind a0.f_ID a0.f_Code a0.f_Method (G_QJSON.mk a0.f_Body.f_Kind a0.f_Body.f_Num a0.f_Body.f_Text a0.f_Body.f_Names a0.f_Body.f_Elems))).bind fun v3 =>
    (xm m v3).bind fun v4 =>
    if (v4 != 0) = true then
     some ((G_QJSON.mk 0 0 ([] : List UInt8) ([] : List (List UInt8)) ([] : List (List AVal))), v4)
    else
     some (v3, 0)
def zu8 (a0 : G_QMessage) (o : G_QJSON × Int) : Exit → Env → AHeap → Nat → Prop := Zy zkl (j1 (.tup [.agg [.int .i64 o.1.f_Kind, .int .i64 o.1.f_Num, .str o.1.f_Text, .isl 1 (o.1.f_Names.map z6) false, .isl 5 (o.1.f_Elems.map z7) false], .int .i64 o.2]))
theorem zji {a0 : G_QMessage} {m : Option Nat} {o : G_QJSON × Int} (h : jn m a0 = some o) : LWp Tryd.prog zl2 0 zq1 (zu8 a0 o) (yx 0 [.agg [.int .i64 a0.f_Kind, .int .i64 a0.f_ID, .int .i64 a0.f_Code, .str a0.f_Method, .int .i64 a0.f_Body.f_Kind, .int .i64 a0.f_Body.f_Num, .str a0.f_Body.f_Text, .isl 1 (a0.f_Body.f_Names.map z6) false, .isl 5 (a0.f_Body.f_Elems.map z7) false]]) [] 0 := by
 unfold jn at h
 refine zb ?_
 refine zj ?_
 refine zb ?_
 refine zb ?_
 refine zj ?_
 refine AI (fun hp => hp) ?_
 refine AI (fun hp => hp) ?_
 refine AI (fun hc => (bqf hc)) ?_
 refine LWp.sim (e := [(1, .ptr (0, 0) 0 0), (2, .ptr (1, 0) 0 0), (14, .bool ((decide (a0.f_Kind < 1)) || (decide (a0.f_Kind > 5))))]) (L := [((0, 0), .one [.int .i64 a0.f_Kind, .int .i64 a0.f_ID, .int .i64 a0.f_Code, .str a0.f_Method, .int .i64 a0.f_Body.f_Kind, .int .i64 a0.f_Body.f_Num, .str a0.f_Body.f_Text, .isl 1 (a0.f_Body.f_Names.map z6) false, .isl 5 (a0.f_Body.f_Elems.map z7) false]), ((1, 0), .one [.int .i64 0, .int .i64 0, .str ([] : List UInt8), .isl 1 (([] : List (List UInt8)).map z6) true, .isl 5 (([] : List (List AVal)).map z7) true])]) (n := 2) ?_ ?_
 ·exact xa (M := [((0, 0), (0, 0)), ((1, 0), (1, 0))]) rfl (AI (Vw.ptr _ _ _ _ rfl) (AI (Vw.ptr _ _ _ _ rfl) (AI (VS rfl) TT))) (AI (AI rfl (BVw.oneL (AI (VS rfl) (AI (VS rfl) (AI (VS rfl) (AI (VS rfl) (AI (VS rfl) (AI (VS rfl) (AI (VS rfl) (AI (VS rfl) (AI (VS rfl) TT))))))))))) (AI (AI rfl (BVw.oneL (AI (VS rfl) (AI (VS rfl) (AI (VS rfl) (AI (VS rfl) (AI (VS rfl) TT))))))) TT))
 refine qr (v := ((decide (a0.f_Kind < 1)) || (decide (a0.f_Kind > 5)))) rfl TT (fun h1 => ?_) (fun h1 => ?_)
 ·have h := zk h1 h
  refine zb ?_
  refine zj ?_
  refine wg ?_
  cases h
  exact AI (AI TT (AI rfl (NB rfl))) (AI TT (AI rfl (Vw.tupL (AI (Vw.aggL (AI (VS rfl) (AI (VS rfl) (AI (VS rfl) (AI (Vw.islF _ _ _) (AI (Vw.islF _ _ _) TT)))))) (AI (VS rfl) TT)))))
 ·have h := zw h1 h
  refine ji ?_
  refine zb ?_
  refine zb ?_
  refine zj ?_
  obtain ⟨v1, h2, h⟩ := bind_some h
  refine PFn.call (zrq h2) (AI (VS rfl) TT) ?_
  refine qr (v := (!v1)) rfl TT (fun h3 => ?_) (fun h3 => ?_)
  ·have h := zk h3 h
   refine zb ?_
   refine zj ?_
   refine wg ?_
   cases h
   exact AI (AI TT (AI rfl (NB rfl))) (AI TT (AI rfl (Vw.tupL (AI (Vw.aggL (AI (VS rfl) (AI (VS rfl) (AI (VS rfl) (AI (Vw.islF _ _ _) (AI (Vw.islF _ _ _) TT)))))) (AI (VS rfl) TT)))))
  ·have h := zw h3 h
   refine ji ?_
   refine zb ?_
   refine zb ?_
   refine zj ?_
   obtain ⟨v2, h4, h⟩ := bind_some h
   refine PFn.call (zl8 h4) (AI (VS rfl) TT) ?_
   refine zb ?_
   refine zj ?_
   refine LWp.sim (e := [(1, .ptr (0, 0) 0 0), (2, .ptr (1, 0) 0 0), (4, .int .i64 v2), (24, .bool (v2 != 0))]) (L := [((0, 0), .one [.int .i64 a0.f_Kind, .int .i64 a0.f_ID, .int .i64 a0.f_Code, .str a0.f_Method, .int .i64 a0.f_Body.f_Kind, .int .i64 a0.f_Body.f_Num, .str a0.f_Body.f_Text, .isl 1 (a0.f_Body.f_Names.map z6) false, .isl 5 (a0.f_Body.f_Elems.map z7) false]), ((1, 0), .one [.int .i64 0, .int .i64 0, .str ([] : List UInt8), .isl 1 (([] : List (List UInt8)).map z6) true, .isl 5 (([] : List (List AVal)).map z7) true])]) (n := 2) ?_ ?_
   ·exact xa (M := [((0, 0), (0, 0)), ((1, 0), (1, 0))]) rfl (AI (Vw.ptr _ _ _ _ rfl) (AI (Vw.ptr _ _ _ _ rfl) (AI (VS rfl) (AI (VS rfl) TT)))) (AI (AI rfl (BVw.oneL (AI (VS rfl) (AI (VS rfl) (AI (VS rfl) (AI (VS rfl) (AI (VS rfl) (AI (VS rfl) (AI (VS rfl) (AI (VS rfl) (AI (VS rfl) TT))))))))))) (AI (AI rfl (BVw.oneL (AI (VS rfl) (AI (VS rfl) (AI (VS rfl) (AI (VS rfl) (AI (VS rfl) TT))))))) TT))
   refine qr (v := (v2 != 0)) rfl TT (fun h5 => ?_) (fun h5 => ?_)
   ·have h := zk h5 h
    refine zb ?_
    refine zj ?_
    refine wg ?_
    cases h
    exact AI (AI TT (AI rfl (NB rfl))) (AI TT (AI rfl (Vw.tupL (AI (Vw.aggL (AI (VS rfl) (AI (VS rfl) (AI (VS rfl) (AI (Vw.islF _ _ _) (AI (Vw.islF _ _ _) TT)))))) (AI (VS rfl) TT)))))
   ·have h := zw h5 h
    refine ji ?_
    refine zb ?_
    refine zj ?_
    obtain ⟨v3, h6, h⟩ := bind_some h
    refine PFn.call (zps h6) (AI (VS rfl) TT) ?_
    refine zb ?_
    refine zb ?_
    refine zj ?_
    obtain ⟨v4, h7, h⟩ := bind_some h
    refine PFn.call (zl8 h7) (AI (VS rfl) TT) ?_
    refine zb ?_
    refine zj ?_
    refine LWp.sim (e := [(2, .ptr (0, 0) 0 0), (5, .ptr (1, 0) 0 0), (6, .int .i64 v4), (32, .bool (v4 != 0))]) (L := [((0, 0), .one [.int .i64 0, .int .i64 0, .str ([] : List UInt8), .isl 1 (([] : List (List UInt8)).map z6) true, .isl 5 (([] : List (List AVal)).map z7) true]), ((1, 0), .one [.int .i64 v3.f_Kind, .int .i64 v3.f_Num, .str v3.f_Text, .isl 1 (v3.f_Names.map z6) false, .isl 5 (v3.f_Elems.map z7) false])]) (n := 2) ?_ ?_
    ·exact xa (M := [((0, 0), (1, 0)), ((1, 0), (2, 0))]) rfl (AI (Vw.ptr _ _ _ _ rfl) (AI (Vw.ptr _ _ _ _ rfl) (AI (VS rfl) (AI (VS rfl) TT)))) (AI (AI rfl (BVw.oneL (AI (VS rfl) (AI (VS rfl) (AI (VS rfl) (AI (VS rfl) (AI (VS rfl) TT))))))) (AI (AI rfl (BVw.oneL (AI (VS rfl) (AI (VS rfl) (AI (VS rfl) (AI (VS rfl) (AI (VS rfl) TT))))))) TT))
    refine qr (v := (v4 != 0)) rfl TT (fun h8 => ?_) (fun h8 => ?_)
    ·have h := zk h8 h
     refine zb ?_
     refine zj ?_
     refine wg ?_
     cases h
     exact AI (AI TT (AI rfl (NB rfl))) (AI TT (AI rfl (Vw.tupL (AI (Vw.aggL (AI (VS rfl) (AI (VS rfl) (AI (VS rfl) (AI (Vw.islF _ _ _) (AI (Vw.islF _ _ _) TT)))))) (AI (VS rfl) TT)))))
    ·have h := zw h8 h
     refine ji ?_
     refine zb ?_
     refine zj ?_
     refine wg ?_
     cases h
     exact AI (AI TT (AI rfl (NB rfl))) (AI TT (AI rfl (VS rfl)))
theorem ztn {a0 : G_QMessage} {m : Option Nat} {o : G_QJSON × Int} (h : jn m a0 = some o) : PFn Tryd.prog 7 [.agg [.int .i64 a0.f_Kind, .int .i64 a0.f_ID, .int .i64 a0.f_Code, .str a0.f_Method, .int .i64 a0.f_Body.f_Kind, .int .i64 a0.f_Body.f_Num, .str a0.f_Body.f_Text, .isl 1 (a0.f_Body.f_Names.map z6) false, .isl 5 (a0.f_Body.f_Elems.map z7) false]] (.tup [.agg [.int .i64 o.1.f_Kind, .int .i64 o.1.f_Num, .str o.1.f_Text, .isl 1 (o.1.f_Names.map z6) false, .isl 5 (o.1.f_Elems.map z7) false], .int .i64 o.2]) := PFn.ofFnW (L := zu0) zrr zro (NB rfl) rfl (zji h)
def zkv : LCode := (.seq (.region [⟨some 34, .mv (.t 4), none⟩,
 ⟨some 35, .bin .eql (.t 34) (.c (.int .u8 237)), none⟩])
 (.cond (.t 35)
  (.region [⟨some 6, .mv (.c (.int .u8 159)), none⟩])
  .skip))
def zlh : LCode := (.seq (.region [⟨some 45, .mv (.t 4), none⟩,
 ⟨some 46, .bin .eql (.t 45) (.c (.int .u8 244)), none⟩])
 (.cond (.t 46)
  (.region [⟨some 6, .mv (.c (.int .u8 143)), none⟩])
  .skip))
def zdr : LCode := (.seq (.region [⟨some 51, .bin .lss (.t 50) (.t 49), none⟩])
 (.seq (.cond (.t 51)
  .skip
  (.exit 3))
 (.seq (.block 4
  (.seq (.seq (.region [⟨some 52, .mv (.t 3), none⟩,
   ⟨some 53, .mv (.t 0), none⟩,
   ⟨some 54, .len true (.t 53), none⟩,
   ⟨some 55, .bin .geq (.t 52) (.t 54), none⟩,
   ⟨some 56, .mv (.t 55), none⟩,
   ⟨some 57, .mv (.t 0), some (56, false)⟩,
   ⟨some 58, .mv (.t 3), some (56, false)⟩,
   ⟨some 59, .idxS (.t 57) (.t 58), some (56, false)⟩,
   ⟨some 60, .mv (.t 5), some (56, false)⟩,
   ⟨some 61, .bin .lss (.t 59) (.t 60), some (56, false)⟩,
   ⟨some 62, .pick (.t 56) (.c (.bool true)) (.t 61), none⟩,
   ⟨some 63, .mv (.t 62), none⟩,
   ⟨some 64, .mv (.t 0), some (63, false)⟩,
   ⟨some 65, .mv (.t 3), some (63, false)⟩,
   ⟨some 66, .idxS (.t 64) (.t 65), some (63, false)⟩,
   ⟨some 67, .mv (.t 6), some (63, false)⟩,
   ⟨some 68, .bin .gtr (.t 66) (.t 67), some (63, false)⟩,
   ⟨some 69, .pick (.t 63) (.c (.bool true)) (.t 68), none⟩])
  (.cond (.t 69)
   (.seq (.region [⟨some 2, .mv (.c (.bool false)), none⟩])
   .ret)
   .skip))
  (.seq (.region [⟨some 5, .mv (.c (.int .u8 128)), none⟩,
   ⟨some 6, .mv (.c (.int .u8 191)), none⟩])
  (.region [⟨some 70, .mv (.t 3), none⟩,
   ⟨some 71, .bin .add (.t 70) (.c (.int .i64 1)), none⟩,
   ⟨some 3, .mv (.t 71), none⟩]))))
 (.region [⟨some 72, .bin .add (.t 50) (.c (.int .i64 1)), none⟩,
  ⟨some 50, .mv (.t 72), none⟩]))))
def z9o : LCode := (.seq (.region [⟨some 47, .mv (.t 3), none⟩,
 ⟨some 48, .bin .add (.t 47) (.c (.int .i64 1)), none⟩,
 ⟨some 3, .mv (.t 48), none⟩])
 (.seq (.region [⟨some 49, .mv (.t 7), none⟩,
  ⟨some 50, .mv (.c (.int .i64 0)), none⟩])
 (.block 3
  (.loop
   zdr))))
def zc9 : LCode := (.seq (.seq (.region [⟨some 8, .mv (.t 3), none⟩,
 ⟨some 9, .mv (.t 0), none⟩,
 ⟨some 10, .len true (.t 9), none⟩,
 ⟨some 11, .bin .lss (.t 8) (.t 10), none⟩])
 (.cond (.t 11)
  .skip
  (.exit 0)))
 (.block 1
  (.seq (.region [⟨some 12, .mv (.t 0), none⟩,
   ⟨some 13, .mv (.t 3), none⟩,
   ⟨some 14, .idxS (.t 12) (.t 13), none⟩,
   ⟨some 4, .mv (.t 14), none⟩])
  (.seq (.region [⟨some 5, .mv (.c (.int .u8 128)), none⟩,
   ⟨some 6, .mv (.c (.int .u8 191)), none⟩,
   ⟨some 7, .mv (.c (.int .i64 0)), none⟩])
  (.seq (.block 2
   (.seq (.region [⟨some 16, .mv (.t 4), none⟩,
    ⟨some 17, .bin .lss (.t 16) (.c (.int .u8 128)), none⟩,
    ⟨some 15, .mv (.t 17), none⟩])
   (.cond (.t 15)
    .skip
    (.seq (.region [⟨some 19, .mv (.t 4), none⟩,
     ⟨some 20, .bin .geq (.t 19) (.c (.int .u8 194)), none⟩,
     ⟨some 21, .mv (.t 20), none⟩,
     ⟨some 22, .mv (.t 4), some (21, true)⟩,
     ⟨some 23, .bin .leq (.t 22) (.c (.int .u8 223)), some (21, true)⟩,
     ⟨some 24, .pick (.t 21) (.t 23) (.c (.bool false)), none⟩,
     ⟨some 18, .mv (.t 24), none⟩])
    (.cond (.t 18)
     (.region [⟨some 7, .mv (.c (.int .i64 1)), none⟩])
     (.seq (.region [⟨some 26, .mv (.t 4), none⟩,
      ⟨some 27, .bin .geq (.t 26) (.c (.int .u8 224)), none⟩,
      ⟨some 28, .mv (.t 27), none⟩,
      ⟨some 29, .mv (.t 4), some (28, true)⟩,
      ⟨some 30, .bin .leq (.t 29) (.c (.int .u8 239)), some (28, true)⟩,
      ⟨some 31, .pick (.t 28) (.t 30) (.c (.bool false)), none⟩,
      ⟨some 25, .mv (.t 31), none⟩])
     (.cond (.t 25)
      (.seq (.region [⟨some 7, .mv (.c (.int .i64 2)), none⟩])
      (.seq (.seq (.region [⟨some 32, .mv (.t 4), none⟩,
       ⟨some 33, .bin .eql (.t 32) (.c (.int .u8 224)), none⟩])
      (.cond (.t 33)
       (.region [⟨some 5, .mv (.c (.int .u8 160)), none⟩])
       .skip))
      zkv))
      (.seq (.region [⟨some 37, .mv (.t 4), none⟩,
       ⟨some 38, .bin .geq (.t 37) (.c (.int .u8 240)), none⟩,
       ⟨some 39, .mv (.t 38), none⟩,
       ⟨some 40, .mv (.t 4), some (39, true)⟩,
       ⟨some 41, .bin .leq (.t 40) (.c (.int .u8 244)), some (39, true)⟩,
       ⟨some 42, .pick (.t 39) (.t 41) (.c (.bool false)), none⟩,
       ⟨some 36, .mv (.t 42), none⟩])
      (.cond (.t 36)
       (.seq (.region [⟨some 7, .mv (.c (.int .i64 3)), none⟩])
       (.seq (.seq (.region [⟨some 43, .mv (.t 4), none⟩,
        ⟨some 44, .bin .eql (.t 43) (.c (.int .u8 240)), none⟩])
       (.cond (.t 44)
        (.region [⟨some 5, .mv (.c (.int .u8 144)), none⟩])
        .skip))
       zlh))
       (.seq (.region [⟨some 2, .mv (.c (.bool false)), none⟩])
       .ret))))))))))
  z9o)))))
def z8v : LCode := (.seq (.region [⟨some 2, .mv (.c (.bool true)), none⟩])
 .ret)
def zla : LCode := (.seq (.region [⟨some 2, .mv (.c (.bool false)), none⟩])
 (.seq (.seq (.region [⟨some 3, .mv (.c (.int .i64 0)), none⟩])
 (.block 0
  (.loop
   zc9)))
 z8v))
def kh : Lay := ⟨73, [], false⟩
def zc1 : List LRes := [.t 2]
def zql : LFn := ⟨1, kh, zla, zc1⟩
theorem znq : w8 Tryd.prog [] 62 = some zql := by kernel_rfl
theorem zm7 : uf Tryd.prog 62 := ⟨_, Tryd.func62, rfl, rfl⟩
def zii (a0 : List UInt8) (o : Bool) : Exit → Env → AHeap → Nat → Prop := Zy zc1 (j1 (.bool o))
def u0 (a0 : List UInt8) (s : Int) : Env := [(0, .str a0), (3, .int .i64 s)]
def Z2 (a0 : List UInt8) (s : Int) : AHeap := []
def Yb (a0 : List UInt8) (o : Bool) : Exit → Env → AHeap → Nat → Prop := (xy 0 (X3 Tryd.prog kh 0 z8v (zii a0 o)))
noncomputable def yl (m : Option Nat) (a0 : List UInt8) (v22 : Int) (v25 : Int) (v26 : Int) (v27 : Int) (v28 : Int) : Option ((Int × Int × Int × Int) ⊕ (Int ⊕ Bool)) :=
 if (decide (v28 < v22)) = true then
  if (((decide (v25 ≥ (a0.length : Int))) == false) = true → (0 : Int) ≤ v25 ∧ v25 < (a0.length : Int)) then
  if ((((decide (v25 ≥ (a0.length : Int))) || (decide ((((a0.getD v25.toNat 0).toNat : Nat) : Int) < v26))) == false) = true → (0 : Int) ≤ v25 ∧ v25 < (a0.length : Int)) then
  if (((decide (v25 ≥ (a0.length : Int))) || (decide ((((a0.getD v25.toNat 0).toNat : Nat) : Int) < v26))) || (decide ((((a0.getD v25.toNat 0).toNat : Nat) : Int) > v27))) = true then
   Option.map Sum.inr (
    Option.map Sum.inr (
     some false))
  else
   some (.inl ((W (v25 + 1)), 128, 191, (W (v28 + 1))))
  else none
  else none
 else
  Option.map Sum.inr (
   some (.inl v25))
noncomputable def qd (m : Option Nat) (a0 : List UInt8) (v22 : Int) (v25 : Int) (v26 : Int) (v27 : Int) (v28 : Int) : Option (Int ⊕ Bool) := Zc m (fun (s : (Int × Int × Int × Int)) => yl m a0 v22 s.1 s.2.1 s.2.2.1 s.2.2.2) (v25, v26, v27, v28)
noncomputable def zl (m : Option Nat) (a0 : List UInt8) (v10 : Int) (v22 : Int) (v23 : Int) (v24 : Int) : Option (Int ⊕ Bool) :=
 qd m a0 v22 (W (v10 + 1)) v23 v24 0
noncomputable def qe (m : Option Nat) (a0 : List UInt8) (v10 : Int) (v20 : Int) : Option (Int ⊕ Bool) :=
 if ((((a0.getD v10.toNat 0).toNat : Nat) : Int) == 237) = true then
  zl m a0 v10 2 v20 159
 else
  zl m a0 v10 2 v20 191
def z06 (a0 : List UInt8) (v22 : Int) (s : (Int × Int × Int × Int)) : Env := [(0, .str a0), (3, .int .i64 s.1), (5, .int .u8 s.2.1), (6, .int .u8 s.2.2.1), (49, .int .i64 v22), (50, .int .i64 s.2.2.2)]
def z3g (a0 : List UInt8) (v22 : Int) (s : (Int × Int × Int × Int)) : AHeap := []
def za2 (a0 : List UInt8) (o : (Int ⊕ Bool)) : Exit → Env → AHeap → Nat → Prop := (xy 3 (xy 1 (Zr 0 0 (u0 a0) (Z2 a0) (Yb a0) o)))
theorem za3 {a0 : List UInt8} {v22 : Int} {v25 : Int} {v26 : Int} {v27 : Int} {v28 : Int} {m : Option Nat} {o : (Int × Int × Int × Int) ⊕ (Int ⊕ Bool)} (h : yl m a0 v22 v25 v26 v27 v28 = some o) :
 LWp Tryd.prog kh 0 zdr (Zr 0 0 (z06 a0 v22) (z3g a0 v22) (za2 a0) o) [(0, .str a0), (3, .int .i64 v25), (5, .int .u8 v26), (6, .int .u8 v27), (49, .int .i64 v22), (50, .int .i64 v28)] [] 0 := by
 unfold yl at h
 refine zb ?_
 refine zj ?_
 refine zb ?_
 refine qr (v := (decide (v28 < v22))) rfl TT (fun h63 => ?_) (fun h63 => ?_)
 ·have h := zk h63 h
  refine ji ?_
  refine zb ?_
  refine je ?_
  refine zb ?_
  refine zb ?_
  refine zj ?_
  obtain ⟨h64, h⟩ := xz h
  refine AI (fun hp => (AI (AI hp hp) (h64 hp))) ?_
  refine AI (fun hp => (AI hp hp)) ?_
  refine AI (fun hc => (bqf hc)) ?_
  obtain ⟨h65, h⟩ := xz h
  refine AI (fun hp => (AI (AI hp hp) (h65 hp))) ?_
  refine AI (fun hp => (AI hp hp)) ?_
  refine AI (fun hc => (bqf hc)) ?_
  refine LWp.sim (e := [(0, .str a0), (3, .int .i64 v25), (49, .int .i64 v22), (50, .int .i64 v28), (69, .bool (((decide (v25 ≥ (a0.length : Int))) || (decide ((((a0.getD v25.toNat 0).toNat : Nat) : Int) < v26))) || (decide ((((a0.getD v25.toNat 0).toNat : Nat) : Int) > v27))))]) (L := []) (n := 0) ?_ ?_
  ·exact xa (M := []) rfl (AI (VS rfl) (AI (VS rfl) (AI (VS rfl) (AI (VS rfl) (AI (VS rfl) TT))))) TT
  refine qr (v := (((decide (v25 ≥ (a0.length : Int))) || (decide ((((a0.getD v25.toNat 0).toNat : Nat) : Int) < v26))) || (decide ((((a0.getD v25.toNat 0).toNat : Nat) : Int) > v27)))) rfl TT (fun h66 => ?_) (fun h66 => ?_)
  ·have h := zk h66 h
   refine zb ?_
   refine zj ?_
   refine wg ?_
   obtain ⟨o, hq, rfl⟩ := Option.map_eq_some_iff.1 h
   replace h := hq; clear hq
   refine AI nofun ?_
   obtain ⟨o, hq, rfl⟩ := Option.map_eq_some_iff.1 h
   replace h := hq; clear hq
   refine AI nofun ?_
   cases h
   exact AI TT (AI rfl (VS rfl))
  ·have h := zw h66 h
   refine ji ?_
   refine zb ?_
   refine zj ?_
   refine zj ?_
   refine zj ?_
   cases h
   exact AI rfl (xa (M := []) rfl (AI (VS rfl) (AI (VS rfl) (AI (VS rfl) (AI (VS rfl) (AI (VS rfl) (AI (VS rfl) TT)))))) TT)
 ·have h := zw h63 h
  refine Ja ?_
  obtain ⟨o, hq, rfl⟩ := Option.map_eq_some_iff.1 h
  replace h := hq; clear hq
  refine AI nofun ?_
  cases h
  exact AI rfl (xa (M := []) rfl (AI (VS rfl) (AI (VS rfl) TT)) TT)
theorem zef {a0 : List UInt8} {v22 : Int} {v25 : Int} {v26 : Int} {v27 : Int} {v28 : Int} {m : Option Nat} {o : (Int ⊕ Bool)} (h : qd m a0 v22 v25 v26 v27 v28 = some o) :
 LWp Tryd.prog kh 0 (.loop zdr) (xy 3 (xy 1 (Zr 0 0 (u0 a0) (Z2 a0) (Yb a0) o))) [(0, .str a0), (3, .int .i64 v25), (5, .int .u8 v26), (6, .int .u8 v27), (49, .int .i64 v22), (50, .int .i64 v28)] [] 0 :=
 w7 (m := m) (s := ((v25, v26, v27, v28) : (Int × Int × Int × Int))) (r := o) (fun (s : (Int × Int × Int × Int)) => yl m a0 v22 s.1 s.2.1 s.2.2.1 s.2.2.2) (z06 a0 v22) (z3g a0 v22) (za2 a0) (fun s o h => za3 h) h
theorem Zw {a0 : List UInt8} {v10 : Int} {v22 : Int} {v23 : Int} {v24 : Int} {m : Option Nat} {o : (Int ⊕ Bool)} (h : zl m a0 v10 v22 v23 v24 = some o) :
 LWp Tryd.prog kh 0 z9o (xy 1 (Zr 0 0 (u0 a0) (Z2 a0) (Yb a0) o)) [(0, .str a0), (3, .int .i64 v10), (5, .int .u8 v23), (6, .int .u8 v24), (7, .int .i64 v22)] [] 0 := by
 unfold zl at h
 refine zb ?_
 refine zj ?_
 refine zb ?_
 refine zj ?_
 refine je ?_
 refine LWp.sim ?_ (zef h)
 exact xa (M := []) rfl (AI (VS rfl) (AI (VS rfl) (AI (VS rfl) (AI (VS rfl) (AI (VS rfl) (AI (VS rfl) TT)))))) TT
theorem z3w {a0 : List UInt8} {v10 : Int} {v20 : Int} {m : Option Nat} {o : (Int ⊕ Bool)} (h : qe m a0 v10 v20 = some o) :
 LWp Tryd.prog kh 0 zkv (xy 2 (X3 Tryd.prog kh 0 z9o (xy 1 (Zr 0 0 (u0 a0) (Z2 a0) (Yb a0) o)))) [(0, .str a0), (3, .int .i64 v10), (4, .int .u8 (((a0.getD v10.toNat 0).toNat : Nat) : Int)), (5, .int .u8 v20), (6, .int .u8 191), (7, .int .i64 2)] [] 0 := by
 unfold qe at h
 refine zb ?_
 refine zj ?_
 refine qr (v := ((((a0.getD v10.toNat 0).toNat : Nat) : Int) == 237)) rfl TT (fun h51 => ?_) (fun h51 => ?_)
 ·have h := zk h51 h
  refine zj ?_
  refine LWp.sim ?_ (Zw h)
  exact xa (M := []) rfl (AI (VS rfl) (AI (VS rfl) (AI (VS rfl) (AI (VS rfl) (AI (VS rfl) TT))))) TT
 ·have h := zw h51 h
  refine ji ?_
  refine LWp.sim ?_ (Zw h)
  exact xa (M := []) rfl (AI (VS rfl) (AI (VS rfl) (AI (VS rfl) (AI (VS rfl) (AI (VS rfl) TT))))) TT
noncomputable def qc (m : Option Nat) (a0 : List UInt8) (v10 : Int) (v21 : Int) : Option (Int ⊕ Bool) :=
 if ((((a0.getD v10.toNat 0).toNat : Nat) : Int) == 244) = true then
  zl m a0 v10 3 v21 143
 else
  zl m a0 v10 3 v21 191
theorem z4y {a0 : List UInt8} {v10 : Int} {v21 : Int} {m : Option Nat} {o : (Int ⊕ Bool)} (h : qc m a0 v10 v21 = some o) :
 LWp Tryd.prog kh 0 zlh (xy 2 (X3 Tryd.prog kh 0 z9o (xy 1 (Zr 0 0 (u0 a0) (Z2 a0) (Yb a0) o)))) [(0, .str a0), (3, .int .i64 v10), (4, .int .u8 (((a0.getD v10.toNat 0).toNat : Nat) : Int)), (5, .int .u8 v21), (6, .int .u8 191), (7, .int .i64 3)] [] 0 := by
 unfold qc at h
 refine zb ?_
 refine zj ?_
 refine qr (v := ((((a0.getD v10.toNat 0).toNat : Nat) : Int) == 244)) rfl TT (fun h54 => ?_) (fun h54 => ?_)
 ·have h := zk h54 h
  refine zj ?_
  refine LWp.sim ?_ (Zw h)
  exact xa (M := []) rfl (AI (VS rfl) (AI (VS rfl) (AI (VS rfl) (AI (VS rfl) (AI (VS rfl) TT))))) TT
 ·have h := zw h54 h
  refine ji ?_
  refine LWp.sim ?_ (Zw h)
  exact xa (M := []) rfl (AI (VS rfl) (AI (VS rfl) (AI (VS rfl) (AI (VS rfl) (AI (VS rfl) TT))))) TT
noncomputable def jm (m : Option Nat) : Option Bool :=
 some true
noncomputable def ym (m : Option Nat) (a0 : List UInt8) (v10 : Int) : Option (Int ⊕ Bool) :=
 if (decide (v10 < (a0.length : Int))) = true then
  if (0 : Int) ≤ v10 ∧ v10 < (a0.length : Int) then
  if (decide ((((a0.getD v10.toNat 0).toNat : Nat) : Int) < 128)) = true then
   zl m a0 v10 0 128 191
  else
   if ((decide ((((a0.getD v10.toNat 0).toNat : Nat) : Int) ≥ 194)) && (decide ((((a0.getD v10.toNat 0).toNat : Nat) : Int) ≤ 223))) = true then
    zl m a0 v10 1 128 191
   else
    if ((decide ((((a0.getD v10.toNat 0).toNat : Nat) : Int) ≥ 224)) && (decide ((((a0.getD v10.toNat 0).toNat : Nat) : Int) ≤ 239))) = true then
     if ((((a0.getD v10.toNat 0).toNat : Nat) : Int) == 224) = true then
      qe m a0 v10 160
     else
      qe m a0 v10 128
    else
     if ((decide ((((a0.getD v10.toNat 0).toNat : Nat) : Int) ≥ 240)) && (decide ((((a0.getD v10.toNat 0).toNat : Nat) : Int) ≤ 244))) = true then
      if ((((a0.getD v10.toNat 0).toNat : Nat) : Int) == 240) = true then
       qc m a0 v10 144
      else
       qc m a0 v10 128
     else
      Option.map Sum.inr (
       some false)
  else none
 else
  Option.map Sum.inr (
   jm m)
noncomputable def qx (m : Option Nat) (a0 : List UInt8) (v10 : Int) : Option Bool := Zc m (fun (s : Int) => ym m a0 s) v10
theorem zaq {a0 : List UInt8} {m : Option Nat} {o : Bool} (h : jm m = some o) :
 LWp Tryd.prog kh 0 z8v (zii a0 o) [] [] 0 := by
 unfold jm at h
 refine zb ?_
 refine zj ?_
 refine wg ?_
 cases h
 exact AI TT (AI rfl (VS rfl))
theorem zar {a0 : List UInt8} {v10 : Int} {m : Option Nat} {o : Int ⊕ Bool} (h : ym m a0 v10 = some o) :
 LWp Tryd.prog kh 0 zc9 (Zr 0 0 (u0 a0) (Z2 a0) (Yb a0) o) [(0, .str a0), (3, .int .i64 v10)] [] 0 := by
 unfold ym at h
 refine zb ?_
 refine zb ?_
 refine zj ?_
 refine qr (v := (decide (v10 < (a0.length : Int)))) rfl TT (fun h45 => ?_) (fun h45 => ?_)
 ·have h := zk h45 h
  refine ji ?_
  refine je ?_
  refine zb ?_
  refine zj ?_
  obtain ⟨h46, h⟩ := xz h
  refine AI h46 ?_
  refine LWp.sim (e := [(0, .str a0), (3, .int .i64 v10), (4, .int .u8 (((a0.getD v10.toNat 0).toNat : Nat) : Int))]) (L := []) (n := 0) ?_ ?_
  ·exact xa (M := []) rfl (AI (VS rfl) (AI (VS rfl) (AI (VS rfl) TT))) TT
  refine zb ?_
  refine zj ?_
  refine zb ?_
  refine je ?_
  refine zb ?_
  refine zj ?_
  refine qr (v := (decide ((((a0.getD v10.toNat 0).toNat : Nat) : Int) < 128))) rfl TT (fun h47 => ?_) (fun h47 => ?_)
  ·have h := zk h47 h
   refine ji ?_
   refine LWp.sim ?_ (Zw h)
   exact xa (M := []) rfl (AI (VS rfl) (AI (VS rfl) (AI (VS rfl) (AI (VS rfl) (AI (VS rfl) TT))))) TT
  ·have h := zw h47 h
   refine zb ?_
   refine zj ?_
   refine AI (fun hp => hp) ?_
   refine AI (fun hc => (bqt hc)) ?_
   refine LWp.sim (e := [(0, .str a0), (3, .int .i64 v10), (4, .int .u8 (((a0.getD v10.toNat 0).toNat : Nat) : Int)), (5, .int .u8 128), (6, .int .u8 191), (18, .bool ((decide ((((a0.getD v10.toNat 0).toNat : Nat) : Int) ≥ 194)) && (decide ((((a0.getD v10.toNat 0).toNat : Nat) : Int) ≤ 223))))]) (L := []) (n := 0) ?_ ?_
   ·exact xa (M := []) rfl (AI (VS rfl) (AI (VS rfl) (AI (VS rfl) (AI (VS rfl) (AI (VS rfl) (AI (VS rfl) TT)))))) TT
   refine qr (v := ((decide ((((a0.getD v10.toNat 0).toNat : Nat) : Int) ≥ 194)) && (decide ((((a0.getD v10.toNat 0).toNat : Nat) : Int) ≤ 223)))) rfl TT (fun h48 => ?_) (fun h48 => ?_)
   ·have h := zk h48 h
    refine zj ?_
    refine LWp.sim ?_ (Zw h)
    exact xa (M := []) rfl (AI (VS rfl) (AI (VS rfl) (AI (VS rfl) (AI (VS rfl) (AI (VS rfl) TT))))) TT
   ·have h := zw h48 h
    refine zb ?_
    refine zj ?_
    refine AI (fun hp => hp) ?_
    refine AI (fun hc => (bqt hc)) ?_
    refine qr (v := ((decide ((((a0.getD v10.toNat 0).toNat : Nat) : Int) ≥ 224)) && (decide ((((a0.getD v10.toNat 0).toNat : Nat) : Int) ≤ 239)))) rfl TT (fun h49 => ?_) (fun h49 => ?_)
    ·have h := zk h49 h
     refine zb ?_
     refine zj ?_
     refine LWp.sim (e := [(0, .str a0), (3, .int .i64 v10), (4, .int .u8 (((a0.getD v10.toNat 0).toNat : Nat) : Int)), (5, .int .u8 128), (6, .int .u8 191), (7, .int .i64 2)]) (L := []) (n := 0) ?_ ?_
     ·exact xa (M := []) rfl (AI (VS rfl) (AI (VS rfl) (AI (VS rfl) (AI (VS rfl) (AI (VS rfl) (AI (VS rfl) TT)))))) TT
     refine zb ?_
     refine zb ?_
     refine zj ?_
     refine qr (v := ((((a0.getD v10.toNat 0).toNat : Nat) : Int) == 224)) rfl TT (fun h50 => ?_) (fun h50 => ?_)
     ·have h := zk h50 h
      refine zj ?_
      refine LWp.sim ?_ (z3w h)
      exact xa (M := []) rfl (AI (VS rfl) (AI (VS rfl) (AI (VS rfl) (AI (VS rfl) (AI (VS rfl) (AI (VS rfl) TT)))))) TT
     ·have h := zw h50 h
      refine ji ?_
      refine LWp.sim ?_ (z3w h)
      exact xa (M := []) rfl (AI (VS rfl) (AI (VS rfl) (AI (VS rfl) (AI (VS rfl) (AI (VS rfl) (AI (VS rfl) TT)))))) TT
    ·have h := zw h49 h
     refine zb ?_
     refine zj ?_
     refine AI (fun hp => hp) ?_
     refine AI (fun hc => (bqt hc)) ?_
     refine LWp.sim (e := [(0, .str a0), (3, .int .i64 v10), (4, .int .u8 (((a0.getD v10.toNat 0).toNat : Nat) : Int)), (5, .int .u8 128), (6, .int .u8 191), (36, .bool ((decide ((((a0.getD v10.toNat 0).toNat : Nat) : Int) ≥ 240)) && (decide ((((a0.getD v10.toNat 0).toNat : Nat) : Int) ≤ 244))))]) (L := []) (n := 0) ?_ ?_
     ·exact xa (M := []) rfl (AI (VS rfl) (AI (VS rfl) (AI (VS rfl) (AI (VS rfl) (AI (VS rfl) (AI (VS rfl) TT)))))) TT
     refine qr (v := ((decide ((((a0.getD v10.toNat 0).toNat : Nat) : Int) ≥ 240)) && (decide ((((a0.getD v10.toNat 0).toNat : Nat) : Int) ≤ 244)))) rfl TT (fun h52 => ?_) (fun h52 => ?_)
     ·have h := zk h52 h
      refine zb ?_
      refine zj ?_
      refine zb ?_
      refine zb ?_
      refine zj ?_
      refine qr (v := ((((a0.getD v10.toNat 0).toNat : Nat) : Int) == 240)) rfl TT (fun h53 => ?_) (fun h53 => ?_)
      ·have h := zk h53 h
       refine zj ?_
       refine LWp.sim ?_ (z4y h)
       exact xa (M := []) rfl (AI (VS rfl) (AI (VS rfl) (AI (VS rfl) (AI (VS rfl) (AI (VS rfl) (AI (VS rfl) TT)))))) TT
      ·have h := zw h53 h
       refine ji ?_
       refine LWp.sim ?_ (z4y h)
       exact xa (M := []) rfl (AI (VS rfl) (AI (VS rfl) (AI (VS rfl) (AI (VS rfl) (AI (VS rfl) (AI (VS rfl) TT)))))) TT
     ·have h := zw h52 h
      refine zb ?_
      refine zj ?_
      refine wg ?_
      obtain ⟨o, hq, rfl⟩ := Option.map_eq_some_iff.1 h
      replace h := hq; clear hq
      refine AI nofun ?_
      cases h
      exact AI TT (AI rfl (VS rfl))
 ·have h := zw h45 h
  refine Ja ?_
  obtain ⟨o, hq, rfl⟩ := Option.map_eq_some_iff.1 h
  replace h := hq; clear hq
  refine AI nofun ?_
  refine LWp.sim ?_ (zaq h)
  exact xa (M := []) rfl TT TT
theorem ze9 {a0 : List UInt8} {v10 : Int} {m : Option Nat} {o : Bool} (h : qx m a0 v10 = some o) :
 LWp Tryd.prog kh 0 (.loop zc9) (xy 0 (X3 Tryd.prog kh 0 z8v (zii a0 o))) [(0, .str a0), (3, .int .i64 v10)] [] 0 :=
 w7 (m := m) (s := (v10 : Int)) (r := o) (fun (s : Int) => ym m a0 s) (u0 a0) (Z2 a0) (Yb a0) (fun s o h => zar h) h
noncomputable def yp (m : Option Nat) (a0 : List UInt8) : Option Bool :=
 qx m a0 0
theorem zev {a0 : List UInt8} {m : Option Nat} {o : Bool} (h : yp m a0 = some o) : LWp Tryd.prog kh 0 zla (zii a0 o) (yx 0 [.str a0]) [] 0 := by
 unfold yp at h
 refine zb ?_
 refine zj ?_
 refine zb ?_
 refine zb ?_
 refine zj ?_
 refine je ?_
 refine LWp.sim ?_ (ze9 h)
 exact xa (M := []) rfl (AI (VS rfl) (AI (VS rfl) TT)) TT
theorem zh9 {a0 : List UInt8} {m : Option Nat} {o : Bool} (h : yp m a0 = some o) : PFn Tryd.prog 62 [.str a0] (.bool o) := PFn.ofFnW (L := zql) znq zm7 (NB rfl) rfl (zev h)
def zkp : LCode := (.seq (.region [⟨some 4, .mv (.c (.bool false)), none⟩])
 (.seq (.region [⟨some 5, .mv (.t 0), none⟩,
  ⟨some 6, .len true (.t 5), none⟩,
  ⟨some 7, .mv (.t 1), none⟩,
  ⟨some 8, .bin .geq (.t 6) (.t 7), none⟩,
  ⟨some 9, .mv (.t 8), none⟩,
  ⟨some 10, .mv (.t 0), some (9, true)⟩,
  ⟨some 11, .len true (.t 10), some (9, true)⟩,
  ⟨some 12, .bin .leq (.t 11) (.c (.int .i64 60)), some (9, true)⟩,
  ⟨some 13, .pick (.t 9) (.t 12) (.c (.bool false)), none⟩,
  ⟨some 14, .mv (.t 13), none⟩,
  ⟨some 15, .mv (.t 0), some (14, true)⟩,
  ⟨some 16, .call 62 [(.t 15)], some (14, true)⟩,
  ⟨some 17, .pick (.t 14) (.t 16) (.c (.bool false)), none⟩,
  ⟨some 4, .mv (.t 17), none⟩])
 .ret))
def zd4 : Lay := ⟨18, [], false⟩
def zdq : List LRes := [.t 4]
def zqo : LFn := ⟨2, zd4, zkp, zdq⟩
theorem zna : w8 Tryd.prog [] 45 = some zqo := by kernel_rfl
theorem zmg : uf Tryd.prog 45 := ⟨_, Tryd.func45, rfl, rfl⟩
noncomputable def yt (m : Option Nat) (a0 : List UInt8) (a1 : Int) : Option Bool :=
 (if (((decide ((a0.length : Int) ≥ a1)) && (decide ((a0.length : Int) ≤ 60))) == true) = true then yp m a0 else some default).bind fun v1 =>
 some (((decide ((a0.length : Int) ≥ a1)) && (decide ((a0.length : Int) ≤ 60))) && v1)
def zsk (a0 : List UInt8) (a1 : Int) (o : Bool) : Exit → Env → AHeap → Nat → Prop := Zy zdq (j1 (.bool o))
theorem zcm {a0 : List UInt8} {a1 : Int} {m : Option Nat} {o : Bool} (h : yt m a0 a1 = some o) : LWp Tryd.prog zd4 0 zkp (zsk a0 a1 o) (yx 0 [.str a0, .int .i64 a1]) [] 0 := by
 unfold yt at h
 refine zb ?_
 refine zj ?_
 refine zb ?_
 refine zj ?_
 refine AI (fun hp => hp) ?_
 refine AI (fun hp => hp) ?_
 refine AI (fun hc => (bqt hc)) ?_
 obtain ⟨v1, h1, h⟩ := bind_some h
 refine Or.inl (EX (.bool v1) (AI (fun hp => AI hp (PFn.call (zh9 (zk hp h1)) (AI (VS rfl) TT) (AI rfl (AI rfl rfl)))) ?_))
 refine AI (fun hc => (bqt hc)) ?_
 refine LWp.sim (e := [(4, .bool (((decide ((a0.length : Int) ≥ a1)) && (decide ((a0.length : Int) ≤ 60))) && v1))]) (L := []) (n := 0) ?_ ?_
 ·exact xa (M := []) rfl (AI (VS rfl) TT) TT
 refine wg ?_
 cases h
 exact AI TT (AI rfl (VS rfl))
theorem zci {a0 : List UInt8} {a1 : Int} {m : Option Nat} {o : Bool} (h : yt m a0 a1 = some o) : PFn Tryd.prog 45 [.str a0, .int .i64 a1] (.bool o) := PFn.ofFnW (L := zqo) zna zmg (NB rfl) rfl (zcm h)
def zfe : LCode := (.seq (.region [⟨some 15, .bin .lss (.t 14) (.t 13), none⟩])
 (.seq (.cond (.t 15)
  .skip
  (.exit 0))
 (.seq (.block 1
  (.seq (.region [⟨some 16, .mv (.t 14), none⟩,
   ⟨some 17, .iaddr 1 (.t 12) (.t 14), none⟩,
   ⟨some 18, .load false 1 (.t 17), none⟩,
   ⟨some 5, .mv (.t 16), none⟩,
   ⟨some 6, .mv (.t 18), none⟩])
  (.seq (.region [⟨some 19, .mv (.t 6), none⟩,
   ⟨some 20, .mv (.t 1), none⟩,
   ⟨some 21, .mv (.t 5), none⟩,
   ⟨some 22, .iaddr 1 (.t 20) (.t 21), none⟩,
   ⟨some 23, .load false 1 (.t 22), none⟩,
   ⟨some 24, .bin .neq (.t 19) (.t 23), none⟩])
  (.cond (.t 24)
   (.seq (.region [⟨some 4, .mv (.c (.bool false)), none⟩])
   .ret)
   .skip))))
 (.region [⟨some 25, .bin .add (.t 14) (.c (.int .i64 1)), none⟩,
  ⟨some 14, .mv (.t 25), none⟩]))))
def z95 : LCode := (.seq (.region [⟨some 4, .mv (.c (.bool true)), none⟩])
 .ret)
def zke : LCode := (.seq (.region [⟨some 4, .mv (.c (.bool false)), none⟩])
 (.seq (.seq (.region [⟨some 7, .mv (.t 0), none⟩,
  ⟨some 8, .len false (.t 7), none⟩,
  ⟨some 9, .mv (.t 1), none⟩,
  ⟨some 10, .len false (.t 9), none⟩,
  ⟨some 11, .bin .neq (.t 8) (.t 10), none⟩])
 (.cond (.t 11)
  (.seq (.region [⟨some 4, .mv (.c (.bool false)), none⟩])
  .ret)
  .skip))
 (.seq (.seq (.region [⟨some 12, .mv (.t 0), none⟩,
  ⟨some 13, .len false (.t 12), none⟩,
  ⟨some 14, .mv (.c (.int .i64 0)), none⟩])
 (.block 0
  (.loop
   zfe)))
 z95)))
def Xm : Lay := ⟨26, [], false⟩
def zg5 : List LRes := [.t 4]
def zrg : LFn := ⟨2, Xm, zke, zg5⟩
theorem zm2 : w8 Tryd.prog [] 32 = some zrg := by kernel_rfl
theorem zov : uf Tryd.prog 32 := ⟨_, Tryd.func32, rfl, rfl⟩
def zjb (a0 : List (List UInt8)) (a1 : List (List UInt8)) (o : Bool) : Exit → Env → AHeap → Nat → Prop := Zy zg5 (j1 (.bool o))
def Uv (a0 : List (List UInt8)) (a1 : List (List UInt8)) (s : Int) : Env := [(1, .isl 1 (a1.map z6) false), (12, .isl 1 (a0.map z6) false), (13, .int .i64 ((a0.map z6).length : Int)), (14, .int .i64 s)]
def z4s (a0 : List (List UInt8)) (a1 : List (List UInt8)) (s : Int) : AHeap := []
def z96 (a0 : List (List UInt8)) (a1 : List (List UInt8)) (o : Bool) : Exit → Env → AHeap → Nat → Prop := (xy 0 (X3 Tryd.prog Xm 0 z95 (zjb a0 a1 o)))
noncomputable def jh (m : Option Nat) : Option Bool :=
 some true
noncomputable def y3 (m : Option Nat) (a0 : List (List UInt8)) (a1 : List (List UInt8)) (v1 : Int) : Option (Int ⊕ Bool) :=
 if (decide (v1 < ((a0.map z6).length : Int))) = true then
  if (0 : Int) ≤ v1 ∧ v1 < ((a0.map z6).length : Int) then
  if (0 : Int) ≤ v1 ∧ v1 < ((a1.map z6).length : Int) then
  if (!((a0.getD v1.toNat default) == (a1.getD v1.toNat default))) = true then
   Option.map Sum.inr (
    some false)
  else
   some (.inl (W (v1 + 1)))
  else none
  else none
 else
  Option.map Sum.inr (
   jh m)
noncomputable def qf (m : Option Nat) (a0 : List (List UInt8)) (a1 : List (List UInt8)) (v1 : Int) : Option Bool := Zc m (fun (s : Int) => y3 m a0 a1 s) v1
theorem zhk {a0 : List (List UInt8)} {a1 : List (List UInt8)} {m : Option Nat} {o : Bool} (h : jh m = some o) :
 LWp Tryd.prog Xm 0 z95 (zjb a0 a1 o) [] [] 0 := by
 unfold jh at h
 refine zb ?_
 refine zj ?_
 refine wg ?_
 cases h
 exact AI TT (AI rfl (VS rfl))
theorem zb5 {a0 : List (List UInt8)} {a1 : List (List UInt8)} {v1 : Int} {m : Option Nat} {o : Int ⊕ Bool} (h : y3 m a0 a1 v1 = some o) :
 LWp Tryd.prog Xm 0 zfe (Zr 0 0 (Uv a0 a1) (z4s a0 a1) (z96 a0 a1) o) [(1, .isl 1 (a1.map z6) false), (12, .isl 1 (a0.map z6) false), (13, .int .i64 ((a0.map z6).length : Int)), (14, .int .i64 v1)] [] 0 := by
 unfold y3 at h
 refine zb ?_
 refine zj ?_
 refine zb ?_
 refine qr (v := (decide (v1 < ((a0.map z6).length : Int)))) rfl TT (fun h10 => ?_) (fun h10 => ?_)
 ·have h := zk h10 h
  refine ji ?_
  refine zb ?_
  refine je ?_
  refine zb ?_
  refine zj ?_
  obtain ⟨h11, h⟩ := xz h
  refine AI h11 ?_
  refine EX (z6 (a0.getD v1.toNat default)) (AI (Zf z6 _ _ (kn z6 h11)) (AI (AI (Zh h11) (NB rfl)) ?_))
  refine zb ?_
  refine zj ?_
  obtain ⟨h12, h⟩ := xz h
  refine AI h12 ?_
  refine EX (z6 (a1.getD v1.toNat default)) (AI (Zf z6 _ _ (kn z6 h12)) (AI (AI (Zh h12) (NB rfl)) ?_))
  refine LWp.sim (e := [(1, .isl 1 (a1.map z6) false), (12, .isl 1 (a0.map z6) false), (13, .int .i64 ((a0.map z6).length : Int)), (14, .int .i64 v1), (24, .bool (!((a0.getD v1.toNat default) == (a1.getD v1.toNat default))))]) (L := []) (n := 0) ?_ ?_
  ·exact xa (M := []) rfl (AI (VS rfl) (AI (VS rfl) (AI (VS rfl) (AI (VS rfl) (AI (VS rfl) TT))))) TT
  refine qr (v := (!((a0.getD v1.toNat default) == (a1.getD v1.toNat default)))) rfl TT (fun h13 => ?_) (fun h13 => ?_)
  ·have h := zk h13 h
   refine zb ?_
   refine zj ?_
   refine wg ?_
   obtain ⟨o, hq, rfl⟩ := Option.map_eq_some_iff.1 h
   replace h := hq; clear hq
   refine AI nofun ?_
   cases h
   exact AI TT (AI rfl (VS rfl))
  ·have h := zw h13 h
   refine ji ?_
   refine zj ?_
   cases h
   exact AI rfl (xa (M := []) rfl (AI (VS rfl) (AI (VS rfl) (AI (VS rfl) (AI (VS rfl) TT)))) TT)
 ·have h := zw h10 h
  refine Ja ?_
  obtain ⟨o, hq, rfl⟩ := Option.map_eq_some_iff.1 h
  replace h := hq; clear hq
  refine AI nofun ?_
  refine LWp.sim ?_ (zhk h)
  exact xa (M := []) rfl TT TT
theorem ze2 {a0 : List (List UInt8)} {a1 : List (List UInt8)} {v1 : Int} {m : Option Nat} {o : Bool} (h : qf m a0 a1 v1 = some o) :
 LWp Tryd.prog Xm 0 (.loop zfe) (xy 0 (X3 Tryd.prog Xm 0 z95 (zjb a0 a1 o))) [(1, .isl 1 (a1.map z6) false), (12, .isl 1 (a0.map z6) false), (13, .int .i64 ((a0.map z6).length : Int)), (14, .int .i64 v1)] [] 0 :=
 w7 (m := m) (s := (v1 : Int)) (r := o) (fun (s : Int) => y3 m a0 a1 s) (Uv a0 a1) (z4s a0 a1) (z96 a0 a1) (fun s o h => zb5 h) h
noncomputable def zx (m : Option Nat) (a0 : List (List UInt8)) (a1 : List (List UInt8)) : Option Bool :=
 if (((a0.map z6).length : Int) != ((a1.map z6).length : Int)) = true then
  some false
 else
  qf m a0 a1 0
theorem zdy {a0 : List (List UInt8)} {a1 : List (List UInt8)} {m : Option Nat} {o : Bool} (h : zx m a0 a1 = some o) : LWp Tryd.prog Xm 0 zke (zjb a0 a1 o) (yx 0 [.isl 1 (a0.map z6) false, .isl 1 (a1.map z6) false]) [] 0 := by
 unfold zx at h
 refine zb ?_
 refine zj ?_
 refine zb ?_
 refine zb ?_
 refine zj ?_
 refine qr (v := (((a0.map z6).length : Int) != ((a1.map z6).length : Int))) rfl TT (fun h1 => ?_) (fun h1 => ?_)
 ·have h := zk h1 h
  refine zb ?_
  refine zj ?_
  refine wg ?_
  cases h
  exact AI TT (AI rfl (VS rfl))
 ·have h := zw h1 h
  refine ji ?_
  refine zb ?_
  refine zb ?_
  refine zj ?_
  refine LWp.sim (e := [(1, .isl 1 (a1.map z6) false), (12, .isl 1 (a0.map z6) false), (13, .int .i64 ((a0.map z6).length : Int)), (14, .int .i64 0)]) (L := []) (n := 0) ?_ ?_
  ·exact xa (M := []) rfl (AI (VS rfl) (AI (VS rfl) (AI (VS rfl) (AI (VS rfl) TT)))) TT
  refine je ?_
  refine LWp.sim ?_ (ze2 h)
  exact xa (M := []) rfl (AI (VS rfl) (AI (VS rfl) (AI (VS rfl) (AI (VS rfl) TT)))) TT
theorem zq7 {a0 : List (List UInt8)} {a1 : List (List UInt8)} {m : Option Nat} {o : Bool} (h : zx m a0 a1 = some o) : PFn Tryd.prog 32 [.isl 1 (a0.map z6) false, .isl 1 (a1.map z6) false] (.bool o) := PFn.ofFnW (L := zrg) zm2 zov (NB rfl) rfl (zdy h)
def z7r : LCode := (.seq (.seq (.region [⟨some 42, .mv (.t 5), none⟩,
 ⟨some 43, .mv (.t 42), none⟩,
 ⟨some 44, .mv (.t 6), some (43, true)⟩,
 ⟨some 45, .faddr 4 (.t 2), some (43, true)⟩,
 ⟨some 46, .load false 1 (.t 45), some (43, true)⟩,
 ⟨some 47, .len false (.t 46), some (43, true)⟩,
 ⟨some 48, .bin .lss (.t 44) (.t 47), some (43, true)⟩,
 ⟨some 49, .pick (.t 43) (.t 48) (.c (.bool false)), none⟩])
 (.cond (.t 49)
  .skip
  (.exit 0)))
 (.seq (.block 1
  (.draw [⟨⟨some 52, .faddr 4 (.t 2), none⟩, []⟩,
   ⟨⟨some 53, .load false 1 (.t 52), none⟩, []⟩,
   ⟨⟨some 54, .mv (.t 6), none⟩, []⟩,
   ⟨⟨some 55, .iaddr 5 (.t 53) (.t 54), none⟩, []⟩,
   ⟨⟨some 56, .load true 5 (.t 55), none⟩, []⟩,
   ⟨⟨some 57, .faddr 4 (.t 3), none⟩, []⟩,
   ⟨⟨some 58, .load false 1 (.t 57), none⟩, []⟩,
   ⟨⟨some 59, .mv (.t 6), none⟩, []⟩,
   ⟨⟨some 60, .iaddr 5 (.t 58) (.t 59), none⟩, []⟩,
   ⟨⟨some 61, .load true 5 (.t 60), none⟩, []⟩,
   ⟨⟨some 62, .call 9 [(.t 56), (.t 61)], none⟩, []⟩,
   ⟨⟨some 5, .mv (.t 62), none⟩, []⟩]))
 (.region [⟨some 50, .mv (.t 6), none⟩,
  ⟨some 51, .bin .add (.t 50) (.c (.int .i64 1)), none⟩,
  ⟨some 6, .mv (.t 51), none⟩])))
def z2i : LCode := (.seq (.region [⟨some 63, .mv (.t 5), none⟩,
 ⟨some 4, .mv (.t 63), none⟩])
 .ret)
def zgq : LCode := (.seq (.region [⟨some 2, .box (.t 0), none⟩,
 ⟨some 3, .box (.t 1), none⟩,
 ⟨some 4, .mv (.c (.bool false)), none⟩])
 (.seq (.region [⟨some 7, .faddr 0 (.t 2), none⟩,
  ⟨some 8, .load false 1 (.t 7), none⟩,
  ⟨some 9, .faddr 0 (.t 3), none⟩,
  ⟨some 10, .load false 1 (.t 9), none⟩,
  ⟨some 11, .bin .eql (.t 8) (.t 10), none⟩,
  ⟨some 12, .mv (.t 11), none⟩,
  ⟨some 13, .faddr 1 (.t 2), some (12, true)⟩,
  ⟨some 14, .load false 1 (.t 13), some (12, true)⟩,
  ⟨some 15, .faddr 1 (.t 3), some (12, true)⟩,
  ⟨some 16, .load false 1 (.t 15), some (12, true)⟩,
  ⟨some 17, .bin .eql (.t 14) (.t 16), some (12, true)⟩,
  ⟨some 18, .pick (.t 12) (.t 17) (.c (.bool false)), none⟩,
  ⟨some 19, .mv (.t 18), none⟩,
  ⟨some 20, .faddr 2 (.t 2), some (19, true)⟩,
  ⟨some 21, .load false 1 (.t 20), some (19, true)⟩,
  ⟨some 22, .faddr 2 (.t 3), some (19, true)⟩,
  ⟨some 23, .load false 1 (.t 22), some (19, true)⟩,
  ⟨some 24, .bin .eql (.t 21) (.t 23), some (19, true)⟩,
  ⟨some 25, .pick (.t 19) (.t 24) (.c (.bool false)), none⟩,
  ⟨some 26, .mv (.t 25), none⟩,
  ⟨some 27, .faddr 3 (.t 2), some (26, true)⟩,
  ⟨some 28, .load false 1 (.t 27), some (26, true)⟩,
  ⟨some 29, .faddr 3 (.t 3), some (26, true)⟩,
  ⟨some 30, .load false 1 (.t 29), some (26, true)⟩,
  ⟨some 31, .call 32 [(.t 28), (.t 30)], some (26, true)⟩,
  ⟨some 32, .pick (.t 26) (.t 31) (.c (.bool false)), none⟩,
  ⟨some 33, .mv (.t 32), none⟩,
  ⟨some 34, .faddr 4 (.t 2), some (33, true)⟩,
  ⟨some 35, .load false 1 (.t 34), some (33, true)⟩,
  ⟨some 36, .len false (.t 35), some (33, true)⟩,
  ⟨some 37, .faddr 4 (.t 3), some (33, true)⟩,
  ⟨some 38, .load false 1 (.t 37), some (33, true)⟩,
  ⟨some 39, .len false (.t 38), some (33, true)⟩,
  ⟨some 40, .bin .eql (.t 36) (.t 39), some (33, true)⟩,
  ⟨some 41, .pick (.t 33) (.t 40) (.c (.bool false)), none⟩,
  ⟨some 5, .mv (.t 41), none⟩])
 (.seq (.seq (.region [⟨some 6, .mv (.c (.int .i64 0)), none⟩])
 (.block 0
  (.loop
   z7r)))
 z2i)))
def Yn : Lay := ⟨64, [], false⟩
def z9e : List LRes := [.t 4]
def zld : LFn := ⟨2, Yn, zgq, z9e⟩
theorem zjk : w8 Tryd.prog [] 9 = some zld := by kernel_rfl
theorem zk9 : uf Tryd.prog 9 := ⟨_, Tryd.func9, rfl, rfl⟩
def z9k (a0 : G_QJSON) (a1 : G_QJSON) (o : Bool) : Exit → Env → AHeap → Nat → Prop := Zy z9e (W3 3 3 (.bool o) [])
def Vs (a0 : G_QJSON) (a1 : G_QJSON) (s : (Bool × Int)) : Env := [(2, .ptr (3, 0) 0 0), (3, .ptr (4, 0) 0 0), (5, .bool s.1), (6, .int .i64 s.2)]
def z0f (a0 : G_QJSON) (a1 : G_QJSON) (s : (Bool × Int)) : AHeap := [((3, 0), .one [.int .i64 a0.f_Kind, .int .i64 a0.f_Num, .str a0.f_Text, .isl 1 (a0.f_Names.map z6) false, .isl 5 (a0.f_Elems.map z7) false]), ((4, 0), .one [.int .i64 a1.f_Kind, .int .i64 a1.f_Num, .str a1.f_Text, .isl 1 (a1.f_Names.map z6) false, .isl 5 (a1.f_Elems.map z7) false])]
def z3v (a0 : G_QJSON) (a1 : G_QJSON) (o : Bool) : Exit → Env → AHeap → Nat → Prop := (xy 0 (X3 Tryd.prog Yn 3 z2i (z9k a0 a1 o)))
noncomputable def qh (rec3 : G_QJSON → G_QJSON → Option Bool) (m : Option Nat) (v5 : Bool) : Option Bool :=
 some v5
noncomputable def zf (rec3 : G_QJSON → G_QJSON → Option Bool) (m : Option Nat) (a0 : G_QJSON) (a1 : G_QJSON) (v5 : Bool) (v6 : Int) : Option ((Bool × Int) ⊕ Bool) :=
 if (v5 && (decide (v6 < ((a0.f_Elems.map z7).length : Int)))) = true then
  if (0 : Int) ≤ v6 ∧ v6 < ((a0.f_Elems.map z7).length : Int) then
  ((kz (a0.f_Elems.getD v6.toNat default))).bind fun v10 =>
  if (0 : Int) ≤ v6 ∧ v6 < ((a1.f_Elems.map z7).length : Int) then
  ((kz (a1.f_Elems.getD v6.toNat default))).bind fun v11 =>
  (rec3 v10 v11).bind fun v12 =>
  some (.inl (v12, (W (v6 + 1))))
  else none
  else none
 else
  Option.map Sum.inr (
   qh rec3 m v5)
noncomputable def zh (rec3 : G_QJSON → G_QJSON → Option Bool) (m : Option Nat) (a0 : G_QJSON) (a1 : G_QJSON) (v5 : Bool) (v6 : Int) : Option Bool := Zc m (fun (s : (Bool × Int)) => zf rec3 m a0 a1 s.1 s.2) (v5, v6)
theorem zau {rec3 : G_QJSON → G_QJSON → Option Bool} (hrec3 : ∀ {a0 : G_QJSON} {a1 : G_QJSON} {o : Bool}, rec3 a0 a1 = some o → ACalls Tryd.prog 9 [.agg [.int .i64 a0.f_Kind, .int .i64 a0.f_Num, .str a0.f_Text, .isl 1 (a0.f_Names.map z6) false, .isl 5 (a0.f_Elems.map z7) false], .agg [.int .i64 a1.f_Kind, .int .i64 a1.f_Num, .str a1.f_Text, .isl 1 (a1.f_Names.map z6) false, .isl 5 (a1.f_Elems.map z7) false]] [] 3 (xu 3 (.bool o) [])) {a0 : G_QJSON} {a1 : G_QJSON} {v5 : Bool} {m : Option Nat} {o : Bool} (h : qh rec3 m v5 = some o) :
 LWp Tryd.prog Yn 3 z2i (z9k a0 a1 o) [(5, .bool v5)] [] 3 := by
 unfold qh at h
 refine zb ?_
 refine zj ?_
 refine wg ?_
 cases h
 exact AI TT (z7f (n' := 3) [] [] rfl rfl (VS rfl) TT)
theorem z6j {rec3 : G_QJSON → G_QJSON → Option Bool} (hrec3 : ∀ {a0 : G_QJSON} {a1 : G_QJSON} {o : Bool}, rec3 a0 a1 = some o → ACalls Tryd.prog 9 [.agg [.int .i64 a0.f_Kind, .int .i64 a0.f_Num, .str a0.f_Text, .isl 1 (a0.f_Names.map z6) false, .isl 5 (a0.f_Elems.map z7) false], .agg [.int .i64 a1.f_Kind, .int .i64 a1.f_Num, .str a1.f_Text, .isl 1 (a1.f_Names.map z6) false, .isl 5 (a1.f_Elems.map z7) false]] [] 3 (xu 3 (.bool o) [])) {a0 : G_QJSON} {a1 : G_QJSON} {v5 : Bool} {v6 : Int} {m : Option Nat} {o : (Bool × Int) ⊕ Bool} (h : zf rec3 m a0 a1 v5 v6 = some o) :
 LWp Tryd.prog Yn 3 z7r (Zr 3 5 (Vs a0 a1) (z0f a0 a1) (z3v a0 a1) o) [(2, .ptr (3, 0) 0 0), (3, .ptr (4, 0) 0 0), (5, .bool v5), (6, .int .i64 v6)] [((3, 0), .one [.int .i64 a0.f_Kind, .int .i64 a0.f_Num, .str a0.f_Text, .isl 1 (a0.f_Names.map z6) false, .isl 5 (a0.f_Elems.map z7) false]), ((4, 0), .one [.int .i64 a1.f_Kind, .int .i64 a1.f_Num, .str a1.f_Text, .isl 1 (a1.f_Names.map z6) false, .isl 5 (a1.f_Elems.map z7) false])] 5 := by
 unfold zf at h
 refine zb ?_
 refine zb ?_
 refine zj ?_
 refine AI (fun hp => hp) ?_
 refine AI (fun hp => hp) ?_
 refine AI (fun hp => (AI hp hp)) ?_
 refine AI (fun hc => (bqt hc)) ?_
 refine LWp.sim (e := [(2, .ptr (3, 0) 0 0), (3, .ptr (4, 0) 0 0), (5, .bool v5), (6, .int .i64 v6), (49, .bool (v5 && (decide (v6 < ((a0.f_Elems.map z7).length : Int)))))]) (L := [((3, 0), .one [.int .i64 a0.f_Kind, .int .i64 a0.f_Num, .str a0.f_Text, .isl 1 (a0.f_Names.map z6) false, .isl 5 (a0.f_Elems.map z7) false]), ((4, 0), .one [.int .i64 a1.f_Kind, .int .i64 a1.f_Num, .str a1.f_Text, .isl 1 (a1.f_Names.map z6) false, .isl 5 (a1.f_Elems.map z7) false])]) (n := 5) ?_ ?_
 ·exact xa (M := [((3, 0), (3, 0)), ((4, 0), (4, 0))]) rfl (AI (Vw.ptr _ _ _ _ rfl) (AI (Vw.ptr _ _ _ _ rfl) (AI (VS rfl) (AI (VS rfl) (AI (VS rfl) TT))))) (AI (AI rfl (BVw.oneL (AI (VS rfl) (AI (VS rfl) (AI (VS rfl) (AI (VS rfl) (AI (VS rfl) TT))))))) (AI (AI rfl (BVw.oneL (AI (VS rfl) (AI (VS rfl) (AI (VS rfl) (AI (VS rfl) (AI (VS rfl) TT))))))) TT))
 refine qr (v := (v5 && (decide (v6 < ((a0.f_Elems.map z7).length : Int))))) rfl TT (fun h14 => ?_) (fun h14 => ?_)
 ·have h := zk h14 h
  refine ji ?_
  refine zb ?_
  refine je ?_
  refine zsm rfl ?_
  obtain ⟨h15, h⟩ := xz h
  refine AI h15 ?_
  obtain ⟨v10, h16, h⟩ := bind_some h
  refine EX (y8 v10) (AI (wo (kn z7 h15) h16) (AI (AI (Zh h15) (NB rfl)) ?_))
  obtain ⟨h17, h⟩ := xz h
  refine AI h17 ?_
  obtain ⟨v11, h18, h⟩ := bind_some h
  refine EX (y8 v11) (AI (wo (kn z7 h17) h18) (AI (AI (Zh h17) (NB rfl)) ?_))
  obtain ⟨v12, h19, h⟩ := bind_some h
  refine J4 (k := 3) (m := 0) (L' := []) (rest := [((3, 0), .one [.int .i64 a0.f_Kind, .int .i64 a0.f_Num, .str a0.f_Text, .isl 1 (a0.f_Names.map z6) false, .isl 5 (a0.f_Elems.map z7) false]), ((4, 0), .one [.int .i64 a1.f_Kind, .int .i64 a1.f_Num, .str a1.f_Text, .isl 1 (a1.f_Names.map z6) false, .isl 5 (a1.f_Elems.map z7) false])]) (R' := .bool v12) [] (hrec3 h19) rfl rfl rfl (AI (VS rfl) (AI (VS rfl) TT)) TT (wz _ rfl) TT rfl ?_
  refine LWp.sim (e := [(2, .ptr (3, 0) 0 0), (3, .ptr (4, 0) 0 0), (5, .bool v12), (6, .int .i64 v6)]) (L := [((3, 0), .one [.int .i64 a0.f_Kind, .int .i64 a0.f_Num, .str a0.f_Text, .isl 1 (a0.f_Names.map z6) false, .isl 5 (a0.f_Elems.map z7) false]), ((4, 0), .one [.int .i64 a1.f_Kind, .int .i64 a1.f_Num, .str a1.f_Text, .isl 1 (a1.f_Names.map z6) false, .isl 5 (a1.f_Elems.map z7) false])]) (n := 5) ?_ ?_
  ·exact xa (M := [((3, 0), (3, 0)), ((4, 0), (4, 0))]) rfl (AI (Vw.ptr _ _ _ _ rfl) (AI (Vw.ptr _ _ _ _ rfl) (AI (VS rfl) (AI (VS rfl) TT)))) (AI (AI rfl (BVw.oneL (AI (VS rfl) (AI (VS rfl) (AI (VS rfl) (AI (VS rfl) (AI (VS rfl) TT))))))) (AI (AI rfl (BVw.oneL (AI (VS rfl) (AI (VS rfl) (AI (VS rfl) (AI (VS rfl) (AI (VS rfl) TT))))))) TT))
  refine zj ?_
  cases h
  exact AI rfl (xa (M := [((3, 0), (3, 0)), ((4, 0), (4, 0))]) rfl (AI (Vw.ptr _ _ _ _ rfl) (AI (Vw.ptr _ _ _ _ rfl) (AI (VS rfl) (AI (VS rfl) TT)))) (AI (AI rfl (BVw.oneL (AI (VS rfl) (AI (VS rfl) (AI (VS rfl) (AI (VS rfl) (AI (VS rfl) TT))))))) (AI (AI rfl (BVw.oneL (AI (VS rfl) (AI (VS rfl) (AI (VS rfl) (AI (VS rfl) (AI (VS rfl) TT))))))) TT)))
 ·have h := zw h14 h
  refine Ja ?_
  obtain ⟨o, hq, rfl⟩ := Option.map_eq_some_iff.1 h
  replace h := hq; clear hq
  refine AI nofun ?_
  refine LWp.sim ?_ (zau hrec3 h)
  exact xa (M := []) rfl (AI (VS rfl) TT) TT
theorem za5 {rec3 : G_QJSON → G_QJSON → Option Bool} (hrec3 : ∀ {a0 : G_QJSON} {a1 : G_QJSON} {o : Bool}, rec3 a0 a1 = some o → ACalls Tryd.prog 9 [.agg [.int .i64 a0.f_Kind, .int .i64 a0.f_Num, .str a0.f_Text, .isl 1 (a0.f_Names.map z6) false, .isl 5 (a0.f_Elems.map z7) false], .agg [.int .i64 a1.f_Kind, .int .i64 a1.f_Num, .str a1.f_Text, .isl 1 (a1.f_Names.map z6) false, .isl 5 (a1.f_Elems.map z7) false]] [] 3 (xu 3 (.bool o) [])) {a0 : G_QJSON} {a1 : G_QJSON} {v5 : Bool} {v6 : Int} {m : Option Nat} {o : Bool} (h : zh rec3 m a0 a1 v5 v6 = some o) :
 LWp Tryd.prog Yn 3 (.loop z7r) (xy 0 (X3 Tryd.prog Yn 3 z2i (z9k a0 a1 o))) [(2, .ptr (3, 0) 0 0), (3, .ptr (4, 0) 0 0), (5, .bool v5), (6, .int .i64 v6)] [((3, 0), .one [.int .i64 a0.f_Kind, .int .i64 a0.f_Num, .str a0.f_Text, .isl 1 (a0.f_Names.map z6) false, .isl 5 (a0.f_Elems.map z7) false]), ((4, 0), .one [.int .i64 a1.f_Kind, .int .i64 a1.f_Num, .str a1.f_Text, .isl 1 (a1.f_Names.map z6) false, .isl 5 (a1.f_Elems.map z7) false])] 5 :=
 w7 (m := m) (s := ((v5, v6) : (Bool × Int))) (r := o) (fun (s : (Bool × Int)) => zf rec3 m a0 a1 s.1 s.2) (Vs a0 a1) (z0f a0 a1) (z3v a0 a1) (fun s o h => z6j hrec3 h) h
noncomputable def ze (rec3 : G_QJSON → G_QJSON → Option Bool) (m : Option Nat) (a0 : G_QJSON) (a1 : G_QJSON) : Option Bool :=
 (if ((((a0.f_Kind == a1.f_Kind) && (a0.f_Num == a1.f_Num)) && (a0.f_Text == a1.f_Text)) == true) = true then zx m a0.f_Names a1.f_Names else some default).bind fun v1 =>
 zh rec3 m a0 a1 (((((a0.f_Kind == a1.f_Kind) && (a0.f_Num == a1.f_Num)) && (a0.f_Text == a1.f_Text)) && v1) && (((a0.f_Elems.map z7).length : Int) == ((a1.f_Elems.map z7).length : Int))) 0
theorem zb6 {rec3 : G_QJSON → G_QJSON → Option Bool} (hrec3 : ∀ {a0 : G_QJSON} {a1 : G_QJSON} {o : Bool}, rec3 a0 a1 = some o → ACalls Tryd.prog 9 [.agg [.int .i64 a0.f_Kind, .int .i64 a0.f_Num, .str a0.f_Text, .isl 1 (a0.f_Names.map z6) false, .isl 5 (a0.f_Elems.map z7) false], .agg [.int .i64 a1.f_Kind, .int .i64 a1.f_Num, .str a1.f_Text, .isl 1 (a1.f_Names.map z6) false, .isl 5 (a1.f_Elems.map z7) false]] [] 3 (xu 3 (.bool o) [])) {a0 : G_QJSON} {a1 : G_QJSON} {m : Option Nat} {o : Bool} (h : ze rec3 m a0 a1 = some o) : LWp Tryd.prog Yn 3 zgq (z9k a0 a1 o) (yx 0 [.agg [.int .i64 a0.f_Kind, .int .i64 a0.f_Num, .str a0.f_Text, .isl 1 (a0.f_Names.map z6) false, .isl 5 (a0.f_Elems.map z7) false], .agg [.int .i64 a1.f_Kind, .int .i64 a1.f_Num, .str a1.f_Text, .isl 1 (a1.f_Names.map z6) false, .isl 5 (a1.f_Elems.map z7) false]]) [] 3 := by
 unfold ze at h
 refine zb ?_
 refine zj ?_
 refine zb ?_
 refine zj ?_
 refine AI (fun hp => hp) ?_
 refine AI (fun hp => hp) ?_
 refine AI (fun hp => (AI hp hp)) ?_
 refine AI (fun hc => (bqt hc)) ?_
 refine AI (fun hp => hp) ?_
 refine AI (fun hp => hp) ?_
 refine AI (fun hp => (AI hp hp)) ?_
 refine AI (fun hc => (bqt hc)) ?_
 refine AI (fun hp => hp) ?_
 refine AI (fun hp => hp) ?_
 obtain ⟨v1, h1, h⟩ := bind_some h
 refine Or.inl (EX (.bool v1) (AI (fun hp => AI (AI hp hp) (PFn.call (zq7 (zk hp h1)) (AI (VS rfl) (AI (VS rfl) TT)) (AI rfl (AI rfl rfl)))) ?_))
 refine AI (fun hc => (bqt hc)) ?_
 refine AI (fun hp => hp) ?_
 refine AI (fun hp => hp) ?_
 refine AI (fun hp => hp) ?_
 refine AI (fun hp => hp) ?_
 refine AI (fun hp => (AI hp hp)) ?_
 refine AI (fun hc => (bqt hc)) ?_
 refine LWp.sim (e := [(2, .ptr (3, 0) 0 0), (3, .ptr (4, 0) 0 0), (5, .bool (((((a0.f_Kind == a1.f_Kind) && (a0.f_Num == a1.f_Num)) && (a0.f_Text == a1.f_Text)) && v1) && (((a0.f_Elems.map z7).length : Int) == ((a1.f_Elems.map z7).length : Int))))]) (L := [((3, 0), .one [.int .i64 a0.f_Kind, .int .i64 a0.f_Num, .str a0.f_Text, .isl 1 (a0.f_Names.map z6) false, .isl 5 (a0.f_Elems.map z7) false]), ((4, 0), .one [.int .i64 a1.f_Kind, .int .i64 a1.f_Num, .str a1.f_Text, .isl 1 (a1.f_Names.map z6) false, .isl 5 (a1.f_Elems.map z7) false])]) (n := 5) ?_ ?_
 ·exact xa (M := [((3, 0), (3, 0)), ((4, 0), (4, 0))]) rfl (AI (Vw.ptr _ _ _ _ rfl) (AI (Vw.ptr _ _ _ _ rfl) (AI (VS rfl) TT))) (AI (AI rfl (BVw.oneL (AI (VS rfl) (AI (VS rfl) (AI (VS rfl) (AI (VS rfl) (AI (VS rfl) TT))))))) (AI (AI rfl (BVw.oneL (AI (VS rfl) (AI (VS rfl) (AI (VS rfl) (AI (VS rfl) (AI (VS rfl) TT))))))) TT))
 refine zb ?_
 refine zb ?_
 refine zj ?_
 refine je ?_
 refine LWp.sim ?_ (za5 hrec3 h)
 exact xa (M := [((3, 0), (3, 0)), ((4, 0), (4, 0))]) rfl (AI (Vw.ptr _ _ _ _ rfl) (AI (Vw.ptr _ _ _ _ rfl) (AI (VS rfl) (AI (VS rfl) TT)))) (AI (AI rfl (BVw.oneL (AI (VS rfl) (AI (VS rfl) (AI (VS rfl) (AI (VS rfl) (AI (VS rfl) TT))))))) (AI (AI rfl (BVw.oneL (AI (VS rfl) (AI (VS rfl) (AI (VS rfl) (AI (VS rfl) (AI (VS rfl) TT))))))) TT))
theorem zhw {rec3 : G_QJSON → G_QJSON → Option Bool} (hrec3 : ∀ {a0 : G_QJSON} {a1 : G_QJSON} {o : Bool}, rec3 a0 a1 = some o → ACalls Tryd.prog 9 [.agg [.int .i64 a0.f_Kind, .int .i64 a0.f_Num, .str a0.f_Text, .isl 1 (a0.f_Names.map z6) false, .isl 5 (a0.f_Elems.map z7) false], .agg [.int .i64 a1.f_Kind, .int .i64 a1.f_Num, .str a1.f_Text, .isl 1 (a1.f_Names.map z6) false, .isl 5 (a1.f_Elems.map z7) false]] [] 3 (xu 3 (.bool o) [])) {a0 : G_QJSON} {a1 : G_QJSON} {m : Option Nat} {o : Bool} (h : ze rec3 m a0 a1 = some o) : ACalls Tryd.prog 9 [.agg [.int .i64 a0.f_Kind, .int .i64 a0.f_Num, .str a0.f_Text, .isl 1 (a0.f_Names.map z6) false, .isl 5 (a0.f_Elems.map z7) false], .agg [.int .i64 a1.f_Kind, .int .i64 a1.f_Num, .str a1.f_Text, .isl 1 (a1.f_Names.map z6) false, .isl 5 (a1.f_Elems.map z7) false]] [] 3 (xu 3 (.bool o) []) := Ji (L := zld) zjk zk9 (NB rfl) (zb6 hrec3 h)
noncomputable def y4 (m : Option Nat) : Nat → G_QJSON → G_QJSON → Option Bool
 | 0 => fun _ _ => none
 | k + 1 => ze (y4 m k) m
noncomputable def zy (m : Option Nat) (a0 : G_QJSON) (a1 : G_QJSON) : Option Bool := zhp m (fun k => y4 m k a0 a1)
theorem z9q {m : Option Nat} : ∀ (k : Nat) {a0 : G_QJSON} {a1 : G_QJSON} {o : Bool}, y4 m k a0 a1 = some o → ACalls Tryd.prog 9 [.agg [.int .i64 a0.f_Kind, .int .i64 a0.f_Num, .str a0.f_Text, .isl 1 (a0.f_Names.map z6) false, .isl 5 (a0.f_Elems.map z7) false], .agg [.int .i64 a1.f_Kind, .int .i64 a1.f_Num, .str a1.f_Text, .isl 1 (a1.f_Names.map z6) false, .isl 5 (a1.f_Elems.map z7) false]] [] 3 (xu 3 (.bool o) [])
 | 0, _, _, _, h => nomatch h
 | k + 1, _, _, _, h => zhw (fun h => z9q k h) h
theorem z9j {a0 : G_QJSON} {a1 : G_QJSON} {m : Option Nat} {o : Bool} (h : zy m a0 a1 = some o) : ACalls Tryd.prog 9 [.agg [.int .i64 a0.f_Kind, .int .i64 a0.f_Num, .str a0.f_Text, .isl 1 (a0.f_Names.map z6) false, .isl 5 (a0.f_Elems.map z7) false], .agg [.int .i64 a1.f_Kind, .int .i64 a1.f_Num, .str a1.f_Text, .isl 1 (a1.f_Names.map z6) false, .isl 5 (a1.f_Elems.map z7) false]] [] 3 (xu 3 (.bool o) []) := (Y6 h).elim fun k h => z9q k h
noncomputable def jl (m : Option Nat) (a0 : G_QJSON) (a1 : G_QJSON) : Option Bool := ze (zy m) m a0 a1
theorem zsi {a0 : G_QJSON} {a1 : G_QJSON} {m : Option Nat} {o : Bool} (h : jl m a0 a1 = some o) : PFn Tryd.prog 9 [.agg [.int .i64 a0.f_Kind, .int .i64 a0.f_Num, .str a0.f_Text, .isl 1 (a0.f_Names.map z6) false, .isl 5 (a0.f_Elems.map z7) false], .agg [.int .i64 a1.f_Kind, .int .i64 a1.f_Num, .str a1.f_Text, .isl 1 (a1.f_Names.map z6) false, .isl 5 (a1.f_Elems.map z7) false]] (.bool o) :=
 ⟨rfl, _, J4 (k := 3) (m := 0) (L' := []) (rest := []) (R' := .bool o) [] (zhw z9j h) rfl rfl rfl (AI (VS rfl) (AI (VS rfl) TT)) TT (wz _ rfl) TT rfl ⟨rfl, rfl, rfl⟩⟩
def zlr : LCode := (.seq (.region [⟨some 1, .box (.t 0), none⟩,
 ⟨some 2, .mv (.c (.bool false)), none⟩])
 (.seq (.region [⟨some 3, .load true 5 (.t 1), none⟩,
  ⟨some 4, .build [(.int .i64 0), (.int .i64 0), (.str []), (.isl 1 [] true), (.isl 5 [] true)] [], none⟩,
  ⟨some 5, .call 9 [(.t 3), (.t 4)], none⟩,
  ⟨some 2, .mv (.t 5), none⟩])
 .ret))
def zdb : Lay := ⟨6, [], false⟩
def zhd : List LRes := [.t 2]
def zqy : LFn := ⟨1, zdb, zlr, zhd⟩
theorem zmb : w8 Tryd.prog [] 55 = some zqy := by kernel_rfl
theorem zp0 : uf Tryd.prog 55 := ⟨_, Tryd.func55, rfl, rfl⟩
noncomputable def yq (m : Option Nat) (a0 : G_QJSON) : Option Bool :=
 (jl m a0 (G_QJSON.mk 0 0 ([] : List UInt8) ([] : List (List UInt8)) ([] : List (List AVal)))).bind fun v1 =>
 some v1
def zt1 (a0 : G_QJSON) (o : Bool) : Exit → Env → AHeap → Nat → Prop := Zy zhd (j1 (.bool o))
theorem zfq {a0 : G_QJSON} {m : Option Nat} {o : Bool} (h : yq m a0 = some o) : LWp Tryd.prog zdb 0 zlr (zt1 a0 o) (yx 0 [.agg [.int .i64 a0.f_Kind, .int .i64 a0.f_Num, .str a0.f_Text, .isl 1 (a0.f_Names.map z6) false, .isl 5 (a0.f_Elems.map z7) false]]) [] 0 := by
 unfold yq at h
 refine zb ?_
 refine zj ?_
 refine zb ?_
 refine zj ?_
 obtain ⟨v1, h1, h⟩ := bind_some h
 refine PFn.call (zsi h1) (AI (VS rfl) (AI (Vw.aggL (AI (VS rfl) (AI (VS rfl) (AI (VS rfl) (AI (Vw.islF _ _ _) (AI (Vw.islF _ _ _) TT)))))) TT)) ?_
 refine wg ?_
 cases h
 exact AI TT (AI rfl (VS rfl))
theorem zlf {a0 : G_QJSON} {m : Option Nat} {o : Bool} (h : yq m a0 = some o) : PFn Tryd.prog 55 [.agg [.int .i64 a0.f_Kind, .int .i64 a0.f_Num, .str a0.f_Text, .isl 1 (a0.f_Names.map z6) false, .isl 5 (a0.f_Elems.map z7) false]] (.bool o) := PFn.ofFnW (L := zqy) zmb zp0 (NB rfl) rfl (zfq h)
def zkx : LCode := (.seq (.region [⟨some 1, .box (.t 0), none⟩,
 ⟨some 2, .mv (.c (.bool false)), none⟩])
 (.seq (.region [⟨some 4, .faddr 1 (.t 1), none⟩,
  ⟨some 5, .load false 1 (.t 4), none⟩,
  ⟨some 6, .bin .geq (.t 5) (.c (.int .i64 0)), none⟩,
  ⟨some 7, .mv (.t 6), none⟩,
  ⟨some 8, .faddr 1 (.t 1), some (7, true)⟩,
  ⟨some 9, .load false 1 (.t 8), some (7, true)⟩,
  ⟨some 10, .bin .leq (.t 9) (.c (.int .i64 2147483647)), some (7, true)⟩,
  ⟨some 11, .pick (.t 7) (.t 10) (.c (.bool false)), none⟩,
  ⟨some 3, .mv (.t 11), none⟩])
 (.seq (.seq (.region [⟨some 12, .faddr 0 (.t 1), none⟩,
  ⟨some 13, .load false 1 (.t 12), none⟩])
 (.block 0
  (.seq (.region [⟨some 15, .bin .eql (.t 13) (.c (.int .i64 1)), none⟩,
   ⟨some 14, .mv (.t 15), none⟩])
  (.cond (.t 14)
   (.seq (.region [⟨some 16, .mv (.t 3), none⟩,
    ⟨some 17, .mv (.t 16), none⟩,
    ⟨some 18, .faddr 2 (.t 1), some (17, true)⟩,
    ⟨some 19, .load false 1 (.t 18), some (17, true)⟩,
    ⟨some 20, .bin .eql (.t 19) (.c (.int .i64 0)), some (17, true)⟩,
    ⟨some 21, .pick (.t 17) (.t 20) (.c (.bool false)), none⟩,
    ⟨some 22, .mv (.t 21), none⟩,
    ⟨some 23, .faddr 3 (.t 1), some (22, true)⟩,
    ⟨some 24, .load false 1 (.t 23), some (22, true)⟩,
    ⟨some 25, .call 45 [(.t 24), (.c (.int .i64 1))], some (22, true)⟩,
    ⟨some 26, .pick (.t 22) (.t 25) (.c (.bool false)), none⟩,
    ⟨some 2, .mv (.t 26), none⟩])
   .ret)
   (.seq (.region [⟨some 28, .bin .eql (.t 13) (.c (.int .i64 2)), none⟩,
    ⟨some 27, .mv (.t 28), none⟩])
   (.cond (.t 27)
    (.seq (.region [⟨some 29, .faddr 1 (.t 1), none⟩,
     ⟨some 30, .load false 1 (.t 29), none⟩,
     ⟨some 31, .bin .eql (.t 30) (.c (.int .i64 0)), none⟩,
     ⟨some 32, .mv (.t 31), none⟩,
     ⟨some 33, .faddr 2 (.t 1), some (32, true)⟩,
     ⟨some 34, .load false 1 (.t 33), some (32, true)⟩,
     ⟨some 35, .bin .eql (.t 34) (.c (.int .i64 0)), some (32, true)⟩,
     ⟨some 36, .pick (.t 32) (.t 35) (.c (.bool false)), none⟩,
     ⟨some 37, .mv (.t 36), none⟩,
     ⟨some 38, .faddr 3 (.t 1), some (37, true)⟩,
     ⟨some 39, .load false 1 (.t 38), some (37, true)⟩,
     ⟨some 40, .call 45 [(.t 39), (.c (.int .i64 1))], some (37, true)⟩,
     ⟨some 41, .pick (.t 37) (.t 40) (.c (.bool false)), none⟩,
     ⟨some 42, .mv (.t 41), none⟩,
     ⟨some 43, .faddr 3 (.t 1), some (42, true)⟩,
     ⟨some 44, .load false 1 (.t 43), some (42, true)⟩,
     ⟨some 45, .bin .neq (.t 44) (.c (.str [36, 47, 99, 97, 110, 99, 101, 108])), some (42, true)⟩,
     ⟨some 46, .pick (.t 42) (.t 45) (.c (.bool false)), none⟩,
     ⟨some 2, .mv (.t 46), none⟩])
    .ret)
    (.seq (.region [⟨some 48, .bin .eql (.t 13) (.c (.int .i64 3)), none⟩,
     ⟨some 47, .mv (.t 48), none⟩])
    (.cond (.t 47)
     (.seq (.region [⟨some 49, .mv (.t 3), none⟩,
      ⟨some 50, .mv (.t 49), none⟩,
      ⟨some 51, .faddr 2 (.t 1), some (50, true)⟩,
      ⟨some 52, .load false 1 (.t 51), some (50, true)⟩,
      ⟨some 53, .bin .eql (.t 52) (.c (.int .i64 0)), some (50, true)⟩,
      ⟨some 54, .pick (.t 50) (.t 53) (.c (.bool false)), none⟩,
      ⟨some 55, .mv (.t 54), none⟩,
      ⟨some 56, .faddr 3 (.t 1), some (55, true)⟩,
      ⟨some 57, .load false 1 (.t 56), some (55, true)⟩,
      ⟨some 58, .bin .eql (.t 57) (.c (.str [])), some (55, true)⟩,
      ⟨some 59, .pick (.t 55) (.t 58) (.c (.bool false)), none⟩,
      ⟨some 2, .mv (.t 59), none⟩])
     .ret)
     (.seq (.region [⟨some 61, .bin .eql (.t 13) (.c (.int .i64 4)), none⟩,
      ⟨some 60, .mv (.t 61), none⟩])
     (.cond (.t 60)
      (.seq (.region [⟨some 62, .mv (.t 3), none⟩,
       ⟨some 63, .mv (.t 62), none⟩,
       ⟨some 64, .faddr 2 (.t 1), some (63, true)⟩,
       ⟨some 65, .load false 1 (.t 64), some (63, true)⟩,
       ⟨some 66, .bin .geq (.t 65) (.c (.int .i64 1)), some (63, true)⟩,
       ⟨some 67, .pick (.t 63) (.t 66) (.c (.bool false)), none⟩,
       ⟨some 68, .mv (.t 67), none⟩,
       ⟨some 69, .faddr 2 (.t 1), some (68, true)⟩,
       ⟨some 70, .load false 1 (.t 69), some (68, true)⟩,
       ⟨some 71, .bin .leq (.t 70) (.c (.int .i64 99)), some (68, true)⟩,
       ⟨some 72, .pick (.t 68) (.t 71) (.c (.bool false)), none⟩,
       ⟨some 73, .mv (.t 72), none⟩,
       ⟨some 74, .faddr 3 (.t 1), some (73, true)⟩,
       ⟨some 75, .load false 1 (.t 74), some (73, true)⟩,
       ⟨some 76, .call 45 [(.t 75), (.c (.int .i64 0))], some (73, true)⟩,
       ⟨some 77, .pick (.t 73) (.t 76) (.c (.bool false)), none⟩,
       ⟨some 78, .mv (.t 77), none⟩,
       ⟨some 79, .faddr 4 (.t 1), some (78, true)⟩,
       ⟨some 80, .load true 5 (.t 79), some (78, true)⟩,
       ⟨some 81, .call 55 [(.t 80)], some (78, true)⟩,
       ⟨some 82, .pick (.t 78) (.t 81) (.c (.bool false)), none⟩,
       ⟨some 2, .mv (.t 82), none⟩])
      .ret)
      .skip))))))))))
 (.seq (.region [⟨some 83, .mv (.t 3), none⟩,
  ⟨some 84, .mv (.t 83), none⟩,
  ⟨some 85, .faddr 2 (.t 1), some (84, true)⟩,
  ⟨some 86, .load false 1 (.t 85), some (84, true)⟩,
  ⟨some 87, .bin .eql (.t 86) (.c (.int .i64 0)), some (84, true)⟩,
  ⟨some 88, .pick (.t 84) (.t 87) (.c (.bool false)), none⟩,
  ⟨some 89, .mv (.t 88), none⟩,
  ⟨some 90, .faddr 3 (.t 1), some (89, true)⟩,
  ⟨some 91, .load false 1 (.t 90), some (89, true)⟩,
  ⟨some 92, .bin .eql (.t 91) (.c (.str [])), some (89, true)⟩,
  ⟨some 93, .pick (.t 89) (.t 92) (.c (.bool false)), none⟩,
  ⟨some 94, .mv (.t 93), none⟩,
  ⟨some 95, .faddr 4 (.t 1), some (94, true)⟩,
  ⟨some 96, .load true 5 (.t 95), some (94, true)⟩,
  ⟨some 97, .call 55 [(.t 96)], some (94, true)⟩,
  ⟨some 98, .pick (.t 94) (.t 97) (.c (.bool false)), none⟩,
  ⟨some 2, .mv (.t 98), none⟩])
 .ret))))
def zbs : Lay := ⟨99, [], false⟩
def zhe : List LRes := [.t 2]
def zs1 : LFn := ⟨1, zbs, zkx, zhe⟩
theorem zo4 : w8 Tryd.prog [] 30 = some zs1 := by kernel_rfl
theorem zmf : uf Tryd.prog 30 := ⟨_, Tryd.func30, rfl, rfl⟩
noncomputable def yg (m : Option Nat) (a0 : G_QMessage) : Option Bool :=
 if (a0.f_Kind == 1) = true then
  (if ((((decide (a0.f_ID ≥ 0)) && (decide (a0.f_ID ≤ 2147483647))) && (a0.f_Code == 0)) == true) = true then yt m a0.f_Method 1 else some default).bind fun v1 =>
  some ((((decide (a0.f_ID ≥ 0)) && (decide (a0.f_ID ≤ 2147483647))) && (a0.f_Code == 0)) && v1)
 else
  if (a0.f_Kind == 2) = true then
   (if (((a0.f_ID == 0) && (a0.f_Code == 0)) == true) = true then yt m a0.f_Method 1 else some default).bind fun v2 =>
   some ((((a0.f_ID == 0) && (a0.f_Code == 0)) && v2) && (!(a0.f_Method == ([36, 47, 99, 97, 110, 99, 101, 108] : List UInt8))))
  else
   if (a0.f_Kind == 3) = true then
    some ((((decide (a0.f_ID ≥ 0)) && (decide (a0.f_ID ≤ 2147483647))) && (a0.f_Code == 0)) && (a0.f_Method == ([] : List UInt8)))
   else
    if (a0.f_Kind == 4) = true then
     (if (((((decide (a0.f_ID ≥ 0)) && (decide (a0.f_ID ≤ 2147483647))) && (decide (a0.f_Code ≥ 1))) && (decide (a0.f_Code ≤ 99))) == true) = true then yt m a0.f_Method 0 else some default).bind fun v3 =>
     (if ((((((decide (a0.f_ID ≥ 0)) && (decide (a0.f_ID ≤ 2147483647))) && (decide (a0.f_Code ≥ 1))) && (decide (a0.f_Code ≤ 99))) && v3) == true) = true then yq m (G_QJSON.mk a0.f_Body.f_Kind a0.f_Body.f_Num a0.f_Body.f_Text a0.f_Body.f_Names a0.f_Body.f_Elems) else some default).bind fun v4 =>
     some ((((((decide (a0.f_ID ≥ 0)) && (decide (a0.f_ID ≤ 2147483647))) && (decide (a0.f_Code ≥ 1))) && (decide (a0.f_Code ≤ 99))) && v3) && v4)
    else
     (if (((((decide (a0.f_ID ≥ 0)) && (decide (a0.f_ID ≤ 2147483647))) && (a0.f_Code == 0)) && (a0.f_Method == ([] : List UInt8))) == true) = true then yq m (G_QJSON.mk a0.f_Body.f_Kind a0.f_Body.f_Num a0.f_Body.f_Text a0.f_Body.f_Names a0.f_Body.f_Elems) else some default).bind fun v5 =>
     some (((((decide (a0.f_ID ≥ 0)) && (decide (a0.f_ID ≤ 2147483647))) && (a0.f_Code == 0)) && (a0.f_Method == ([] : List UInt8))) && v5)
def zti (a0 : G_QMessage) (o : Bool) : Exit → Env → AHeap → Nat → Prop := Zy zhe (j1 (.bool o))
theorem zh6 {a0 : G_QMessage} {m : Option Nat} {o : Bool} (h : yg m a0 = some o) : LWp Tryd.prog zbs 0 zkx (zti a0 o) (yx 0 [.agg [.int .i64 a0.f_Kind, .int .i64 a0.f_ID, .int .i64 a0.f_Code, .str a0.f_Method, .int .i64 a0.f_Body.f_Kind, .int .i64 a0.f_Body.f_Num, .str a0.f_Body.f_Text, .isl 1 (a0.f_Body.f_Names.map z6) false, .isl 5 (a0.f_Body.f_Elems.map z7) false]]) [] 0 := by
 unfold yg at h
 refine zb ?_
 refine zj ?_
 refine zb ?_
 refine zj ?_
 refine AI (fun hp => hp) ?_
 refine AI (fun hp => hp) ?_
 refine AI (fun hc => (bqt hc)) ?_
 refine LWp.sim (e := [(1, .ptr (0, 0) 0 0), (3, .bool ((decide (a0.f_ID ≥ 0)) && (decide (a0.f_ID ≤ 2147483647))))]) (L := [((0, 0), .one [.int .i64 a0.f_Kind, .int .i64 a0.f_ID, .int .i64 a0.f_Code, .str a0.f_Method, .int .i64 a0.f_Body.f_Kind, .int .i64 a0.f_Body.f_Num, .str a0.f_Body.f_Text, .isl 1 (a0.f_Body.f_Names.map z6) false, .isl 5 (a0.f_Body.f_Elems.map z7) false])]) (n := 1) ?_ ?_
 ·exact xa (M := [((0, 0), (0, 0))]) rfl (AI (Vw.ptr _ _ _ _ rfl) (AI (VS rfl) TT)) (AI (AI rfl (BVw.oneL (AI (VS rfl) (AI (VS rfl) (AI (VS rfl) (AI (VS rfl) (AI (VS rfl) (AI (VS rfl) (AI (VS rfl) (AI (VS rfl) (AI (VS rfl) TT))))))))))) TT)
 refine zb ?_
 refine zb ?_
 refine zj ?_
 refine je ?_
 refine zb ?_
 refine zj ?_
 refine qr (v := (a0.f_Kind == 1)) rfl TT (fun h1 => ?_) (fun h1 => ?_)
 ·have h := zk h1 h
  refine zb ?_
  refine zj ?_
  refine AI (fun hp => hp) ?_
  refine AI (fun hp => hp) ?_
  refine AI (fun hc => (bqt hc)) ?_
  refine AI (fun hp => hp) ?_
  obtain ⟨v1, h2, h⟩ := bind_some h
  refine Or.inl (EX (.bool v1) (AI (fun hp => AI hp (PFn.call (zci (zk hp h2)) (AI (VS rfl) (AI (VS rfl) TT)) (AI rfl (AI rfl rfl)))) ?_))
  refine AI (fun hc => (bqt hc)) ?_
  refine LWp.sim (e := [(2, .bool ((((decide (a0.f_ID ≥ 0)) && (decide (a0.f_ID ≤ 2147483647))) && (a0.f_Code == 0)) && v1))]) (L := []) (n := 0) ?_ ?_
  ·exact xa (M := []) rfl (AI (VS rfl) TT) TT
  refine wg ?_
  cases h
  exact AI TT (AI rfl (VS rfl))
 ·have h := zw h1 h
  refine zb ?_
  refine zj ?_
  refine qr (v := (a0.f_Kind == 2)) rfl TT (fun h3 => ?_) (fun h3 => ?_)
  ·have h := zk h3 h
   refine zb ?_
   refine zj ?_
   refine AI (fun hp => hp) ?_
   refine AI (fun hp => hp) ?_
   refine AI (fun hc => (bqt hc)) ?_
   refine AI (fun hp => hp) ?_
   obtain ⟨v2, h4, h⟩ := bind_some h
   refine Or.inl (EX (.bool v2) (AI (fun hp => AI hp (PFn.call (zci (zk hp h4)) (AI (VS rfl) (AI (VS rfl) TT)) (AI rfl (AI rfl rfl)))) ?_))
   refine AI (fun hc => (bqt hc)) ?_
   refine AI (fun hp => hp) ?_
   refine AI (fun hp => hp) ?_
   refine AI (fun hc => (bqt hc)) ?_
   refine LWp.sim (e := [(2, .bool ((((a0.f_ID == 0) && (a0.f_Code == 0)) && v2) && (!(a0.f_Method == ([36, 47, 99, 97, 110, 99, 101, 108] : List UInt8)))))]) (L := []) (n := 0) ?_ ?_
   ·exact xa (M := []) rfl (AI (VS rfl) TT) TT
   refine wg ?_
   cases h
   exact AI TT (AI rfl (VS rfl))
  ·have h := zw h3 h
   refine zb ?_
   refine zj ?_
   refine LWp.sim (e := [(1, .ptr (0, 0) 0 0), (3, .bool ((decide (a0.f_ID ≥ 0)) && (decide (a0.f_ID ≤ 2147483647)))), (13, .int .i64 a0.f_Kind), (47, .bool (a0.f_Kind == 3))]) (L := [((0, 0), .one [.int .i64 a0.f_Kind, .int .i64 a0.f_ID, .int .i64 a0.f_Code, .str a0.f_Method, .int .i64 a0.f_Body.f_Kind, .int .i64 a0.f_Body.f_Num, .str a0.f_Body.f_Text, .isl 1 (a0.f_Body.f_Names.map z6) false, .isl 5 (a0.f_Body.f_Elems.map z7) false])]) (n := 1) ?_ ?_
   ·exact xa (M := [((0, 0), (0, 0))]) rfl (AI (Vw.ptr _ _ _ _ rfl) (AI (VS rfl) (AI (VS rfl) (AI (VS rfl) TT)))) (AI (AI rfl (BVw.oneL (AI (VS rfl) (AI (VS rfl) (AI (VS rfl) (AI (VS rfl) (AI (VS rfl) (AI (VS rfl) (AI (VS rfl) (AI (VS rfl) (AI (VS rfl) TT))))))))))) TT)
   refine qr (v := (a0.f_Kind == 3)) rfl TT (fun h5 => ?_) (fun h5 => ?_)
   ·have h := zk h5 h
    refine zb ?_
    refine zj ?_
    refine AI (fun hp => hp) ?_
    refine AI (fun hp => hp) ?_
    refine AI (fun hc => (bqt hc)) ?_
    refine AI (fun hp => hp) ?_
    refine AI (fun hp => hp) ?_
    refine AI (fun hc => (bqt hc)) ?_
    refine LWp.sim (e := [(2, .bool ((((decide (a0.f_ID ≥ 0)) && (decide (a0.f_ID ≤ 2147483647))) && (a0.f_Code == 0)) && (a0.f_Method == ([] : List UInt8))))]) (L := []) (n := 0) ?_ ?_
    ·exact xa (M := []) rfl (AI (VS rfl) TT) TT
    refine wg ?_
    cases h
    exact AI TT (AI rfl (VS rfl))
   ·have h := zw h5 h
    refine zb ?_
    refine zj ?_
    refine qr (v := (a0.f_Kind == 4)) rfl TT (fun h6 => ?_) (fun h6 => ?_)
    ·have h := zk h6 h
     refine zb ?_
     refine zj ?_
     refine AI (fun hp => hp) ?_
     refine AI (fun hp => hp) ?_
     refine AI (fun hc => (bqt hc)) ?_
     refine AI (fun hp => hp) ?_
     refine AI (fun hp => hp) ?_
     refine AI (fun hc => (bqt hc)) ?_
     refine AI (fun hp => hp) ?_
     obtain ⟨v3, h7, h⟩ := bind_some h
     refine Or.inl (EX (.bool v3) (AI (fun hp => AI hp (PFn.call (zci (zk hp h7)) (AI (VS rfl) (AI (VS rfl) TT)) (AI rfl (AI rfl rfl)))) ?_))
     refine AI (fun hc => (bqt hc)) ?_
     refine AI (fun hp => hp) ?_
     obtain ⟨v4, h8, h⟩ := bind_some h
     refine Or.inl (EX (.bool v4) (AI (fun hp => AI hp (PFn.call (zlf (zk hp h8)) (AI (VS rfl) TT) (AI rfl (AI rfl rfl)))) ?_))
     refine AI (fun hc => (bqt hc)) ?_
     refine LWp.sim (e := [(2, .bool ((((((decide (a0.f_ID ≥ 0)) && (decide (a0.f_ID ≤ 2147483647))) && (decide (a0.f_Code ≥ 1))) && (decide (a0.f_Code ≤ 99))) && v3) && v4))]) (L := []) (n := 0) ?_ ?_
     ·exact xa (M := []) rfl (AI (VS rfl) TT) TT
     refine wg ?_
     cases h
     exact AI TT (AI rfl (VS rfl))
    ·have h := zw h6 h
     refine ji ?_
     refine zb ?_
     refine zj ?_
     refine AI (fun hp => hp) ?_
     refine AI (fun hp => hp) ?_
     refine AI (fun hc => (bqt hc)) ?_
     refine AI (fun hp => hp) ?_
     refine AI (fun hp => hp) ?_
     refine AI (fun hc => (bqt hc)) ?_
     refine AI (fun hp => hp) ?_
     obtain ⟨v5, h9, h⟩ := bind_some h
     refine Or.inl (EX (.bool v5) (AI (fun hp => AI hp (PFn.call (zlf (zk hp h9)) (AI (VS rfl) TT) (AI rfl (AI rfl rfl)))) ?_))
     refine AI (fun hc => (bqt hc)) ?_
     refine LWp.sim (e := [(2, .bool (((((decide (a0.f_ID ≥ 0)) && (decide (a0.f_ID ≤ 2147483647))) && (a0.f_Code == 0)) && (a0.f_Method == ([] : List UInt8))) && v5))]) (L := []) (n := 0) ?_ ?_
     ·exact xa (M := []) rfl (AI (VS rfl) TT) TT
     refine wg ?_
     cases h
     exact AI TT (AI rfl (VS rfl))
theorem zs3 {a0 : G_QMessage} {m : Option Nat} {o : Bool} (h : yg m a0 = some o) : PFn Tryd.prog 30 [.agg [.int .i64 a0.f_Kind, .int .i64 a0.f_ID, .int .i64 a0.f_Code, .str a0.f_Method, .int .i64 a0.f_Body.f_Kind, .int .i64 a0.f_Body.f_Num, .str a0.f_Body.f_Text, .isl 1 (a0.f_Body.f_Names.map z6) false, .isl 5 (a0.f_Body.f_Elems.map z7) false]] (.bool o) := PFn.ofFnW (L := zs1) zo4 zmf (NB rfl) rfl (zh6 h)
def z1q : LCode := (.seq (.region [⟨some 12, .bin .lss (.t 11) (.t 10), none⟩])
 (.seq (.cond (.t 12)
  .skip
  (.exit 0))
 (.seq (.block 1
  (.seq (.region [⟨some 13, .iaddr 5 (.t 9) (.t 11), none⟩,
   ⟨some 14, .load true 5 (.t 13), none⟩,
   ⟨some 5, .alloc [(.int .i64 0), (.int .i64 0), (.str []), (.isl 1 [] true), (.isl 5 [] true)], none⟩,
   ⟨none, .store 5 (.t 5) (.t 14), none⟩])
  (.seq (.region [⟨some 16, .load true 5 (.t 5), none⟩,
   ⟨some 17, .call 37 [(.t 16)], none⟩,
   ⟨some 15, .mv (.t 17), none⟩,
   ⟨some 18, .ext 0 (.t 15), none⟩,
   ⟨some 19, .ext 1 (.t 15), none⟩,
   ⟨some 6, .mv (.t 18), none⟩,
   ⟨some 7, .mv (.t 19), none⟩])
  (.seq (.region [⟨some 20, .mv (.t 2), none⟩,
   ⟨some 21, .mv (.t 6), none⟩,
   ⟨some 22, .bin .add (.t 20) (.t 21), none⟩,
   ⟨some 2, .mv (.t 22), none⟩])
  (.region [⟨some 23, .mv (.t 3), none⟩,
   ⟨some 24, .mv (.t 7), none⟩,
   ⟨some 25, .mnx true [(.t 23), (.t 24)], none⟩,
   ⟨some 3, .mv (.t 25), none⟩])))))
 (.region [⟨some 26, .bin .add (.t 11) (.c (.int .i64 1)), none⟩,
  ⟨some 11, .mv (.t 26), none⟩]))))
def Vb : LCode := (.seq (.region [⟨some 27, .mv (.t 2), none⟩,
 ⟨some 28, .mv (.t 3), none⟩,
 ⟨some 29, .bin .add (.t 28) (.c (.int .i64 1)), none⟩,
 ⟨some 2, .mv (.t 27), none⟩,
 ⟨some 3, .mv (.t 29), none⟩])
 .ret)
def z8n : LCode := (.seq (.region [⟨some 1, .box (.t 0), none⟩,
 ⟨some 2, .mv (.c (.int .i64 0)), none⟩,
 ⟨some 3, .mv (.c (.int .i64 0)), none⟩])
 (.seq (.region [⟨some 2, .mv (.c (.int .i64 1)), none⟩,
  ⟨some 3, .mv (.c (.int .i64 0)), none⟩])
 (.seq (.seq (.region [⟨some 8, .faddr 4 (.t 1), none⟩,
  ⟨some 9, .load false 1 (.t 8), none⟩,
  ⟨some 10, .len false (.t 9), none⟩,
  ⟨some 11, .mv (.c (.int .i64 0)), none⟩])
 (.block 0
  (.loop
   z1q)))
 Vb)))
def Z6 : Lay := ⟨30, [], false⟩
def z5g : List LRes := [.t 2, .t 3]
def zel : LFn := ⟨1, Z6, z8n, z5g⟩
theorem zgj : w8 Tryd.prog [] 37 = some zel := by kernel_rfl
theorem zee : uf Tryd.prog 37 := ⟨_, Tryd.func37, rfl, rfl⟩
def z26 (a0 : G_QJSON) (o : Int × Int) : Exit → Env → AHeap → Nat → Prop := Zy z5g (W3 3 3 (.tup [.int .i64 o.1, .int .i64 o.2]) [])
def Wm (a0 : G_QJSON) (s : (Int × Int × Int)) : Env := [(2, .int .i64 s.1), (3, .int .i64 s.2.1), (9, .isl 5 (a0.f_Elems.map z7) false), (10, .int .i64 ((a0.f_Elems.map z7).length : Int)), (11, .int .i64 s.2.2)]
def U6 (a0 : G_QJSON) (s : (Int × Int × Int)) : AHeap := []
def z0b (a0 : G_QJSON) (o : (Int × Int)) : Exit → Env → AHeap → Nat → Prop := (xy 0 (X3 Tryd.prog Z6 3 Vb (z26 a0 o)))
noncomputable def xh (rec4 : G_QJSON → Option (Int × Int)) (m : Option Nat) (v3 : Int) (v4 : Int) : Option (Int × Int) :=
 some (v3, (W (v4 + 1)))
noncomputable def zz (rec4 : G_QJSON → Option (Int × Int)) (m : Option Nat) (a0 : G_QJSON) (v3 : Int) (v4 : Int) (v5 : Int) : Option ((Int × Int × Int) ⊕ (Int × Int)) :=
 if (decide (v5 < ((a0.f_Elems.map z7).length : Int))) = true then
  if (0 : Int) ≤ v5 ∧ v5 < ((a0.f_Elems.map z7).length : Int) then
  ((kz (a0.f_Elems.getD v5.toNat default))).bind fun v8 =>
  (rec4 v8).bind fun v9 =>
  some (.inl ((W (v3 + v9.1)), (if v9.2 > v4 then v9.2 else v4), (W (v5 + 1))))
  else none
 else
  Option.map Sum.inr (
   xh rec4 m v3 v4)
noncomputable def yu (rec4 : G_QJSON → Option (Int × Int)) (m : Option Nat) (a0 : G_QJSON) (v3 : Int) (v4 : Int) (v5 : Int) : Option (Int × Int) := Zc m (fun (s : (Int × Int × Int)) => zz rec4 m a0 s.1 s.2.1 s.2.2) (v3, v4, v5)
theorem z7j {rec4 : G_QJSON → Option (Int × Int)} (hrec4 : ∀ {a0 : G_QJSON} {o : Int × Int}, rec4 a0 = some o → ACalls Tryd.prog 37 [.agg [.int .i64 a0.f_Kind, .int .i64 a0.f_Num, .str a0.f_Text, .isl 1 (a0.f_Names.map z6) false, .isl 5 (a0.f_Elems.map z7) false]] [] 3 (xu 3 (.tup [.int .i64 o.1, .int .i64 o.2]) [])) {a0 : G_QJSON} {v3 : Int} {v4 : Int} {m : Option Nat} {o : (Int × Int)} (h : xh rec4 m v3 v4 = some o) :
 LWp Tryd.prog Z6 3 Vb (z26 a0 o) [(2, .int .i64 v3), (3, .int .i64 v4)] [] 3 := by
 unfold xh at h
 refine zb ?_
 refine zj ?_
 refine wg ?_
 cases h
 exact AI TT (AI TT (z7f (n' := 3) [] [] rfl rfl (VS rfl) TT))
theorem z36 {rec4 : G_QJSON → Option (Int × Int)} (hrec4 : ∀ {a0 : G_QJSON} {o : Int × Int}, rec4 a0 = some o → ACalls Tryd.prog 37 [.agg [.int .i64 a0.f_Kind, .int .i64 a0.f_Num, .str a0.f_Text, .isl 1 (a0.f_Names.map z6) false, .isl 5 (a0.f_Elems.map z7) false]] [] 3 (xu 3 (.tup [.int .i64 o.1, .int .i64 o.2]) [])) {a0 : G_QJSON} {v3 : Int} {v4 : Int} {v5 : Int} {m : Option Nat} {o : (Int × Int × Int) ⊕ (Int × Int)} (h : zz rec4 m a0 v3 v4 v5 = some o) :
 LWp Tryd.prog Z6 3 z1q (Zr 3 3 (Wm a0) (U6 a0) (z0b a0) o) [(2, .int .i64 v3), (3, .int .i64 v4), (9, .isl 5 (a0.f_Elems.map z7) false), (10, .int .i64 ((a0.f_Elems.map z7).length : Int)), (11, .int .i64 v5)] [] 3 := by
 unfold zz at h
 refine zb ?_
 refine zj ?_
 refine zb ?_
 refine qr (v := (decide (v5 < ((a0.f_Elems.map z7).length : Int)))) rfl TT (fun h9 => ?_) (fun h9 => ?_)
 ·have h := zk h9 h
  refine ji ?_
  refine zb ?_
  refine je ?_
  refine zb ?_
  refine zj ?_
  obtain ⟨h10, h⟩ := xz h
  refine AI h10 ?_
  obtain ⟨v8, h11, h⟩ := bind_some h
  refine EX (y8 v8) (AI (wo (kn z7 h10) h11) (AI (AI (Zh h10) (NB rfl)) ?_))
  refine zb ?_
  refine zj ?_
  obtain ⟨v9, h12, h⟩ := bind_some h
  refine J4 (k := 3) (m := 0) (L' := []) (rest := [((3, 0), .one [.int .i64 v8.f_Kind, .int .i64 v8.f_Num, .str v8.f_Text, .isl 1 (v8.f_Names.map z6) false, .isl 5 (v8.f_Elems.map z7) false])]) (R' := .tup [.int .i64 v9.1, .int .i64 v9.2]) [] (hrec4 h12) rfl rfl rfl (AI (VS rfl) TT) TT (wz _ rfl) TT rfl ?_
  refine LWp.sim (e := [(2, .int .i64 v3), (3, .int .i64 v4), (6, .int .i64 v9.1), (7, .int .i64 v9.2), (9, .isl 5 (a0.f_Elems.map z7) false), (10, .int .i64 ((a0.f_Elems.map z7).length : Int)), (11, .int .i64 v5)]) (L := []) (n := 3) ?_ ?_
  ·exact xa (M := []) rfl (AI (VS rfl) (AI (VS rfl) (AI (VS rfl) (AI (VS rfl) (AI (VS rfl) (AI (VS rfl) (AI (VS rfl) TT))))))) TT
  refine zb ?_
  refine zj ?_
  refine zj ?_
  refine LWp.sim (e := [(2, .int .i64 (W (v3 + v9.1))), (3, .int .i64 (if v9.2 > v4 then v9.2 else v4)), (9, .isl 5 (a0.f_Elems.map z7) false), (10, .int .i64 ((a0.f_Elems.map z7).length : Int)), (11, .int .i64 v5)]) (L := []) (n := 3) ?_ ?_
  ·exact xa (M := []) rfl (AI (VS rfl) (AI (VS rfl) (AI (VS rfl) (AI (VS rfl) (AI (VS rfl) TT))))) TT
  refine zj ?_
  cases h
  exact AI rfl (xa (M := []) rfl (AI (VS rfl) (AI (VS rfl) (AI (VS rfl) (AI (VS rfl) (AI (VS rfl) TT))))) TT)
 ·have h := zw h9 h
  refine Ja ?_
  obtain ⟨o, hq, rfl⟩ := Option.map_eq_some_iff.1 h
  replace h := hq; clear hq
  refine AI nofun ?_
  refine LWp.sim ?_ (z7j hrec4 h)
  exact xa (M := []) rfl (AI (VS rfl) (AI (VS rfl) TT)) TT
theorem z7c {rec4 : G_QJSON → Option (Int × Int)} (hrec4 : ∀ {a0 : G_QJSON} {o : Int × Int}, rec4 a0 = some o → ACalls Tryd.prog 37 [.agg [.int .i64 a0.f_Kind, .int .i64 a0.f_Num, .str a0.f_Text, .isl 1 (a0.f_Names.map z6) false, .isl 5 (a0.f_Elems.map z7) false]] [] 3 (xu 3 (.tup [.int .i64 o.1, .int .i64 o.2]) [])) {a0 : G_QJSON} {v3 : Int} {v4 : Int} {v5 : Int} {m : Option Nat} {o : (Int × Int)} (h : yu rec4 m a0 v3 v4 v5 = some o) :
 LWp Tryd.prog Z6 3 (.loop z1q) (xy 0 (X3 Tryd.prog Z6 3 Vb (z26 a0 o))) [(2, .int .i64 v3), (3, .int .i64 v4), (9, .isl 5 (a0.f_Elems.map z7) false), (10, .int .i64 ((a0.f_Elems.map z7).length : Int)), (11, .int .i64 v5)] [] 3 :=
 w7 (m := m) (s := ((v3, v4, v5) : (Int × Int × Int))) (r := o) (fun (s : (Int × Int × Int)) => zz rec4 m a0 s.1 s.2.1 s.2.2) (Wm a0) (U6 a0) (z0b a0) (fun s o h => z36 hrec4 h) h
noncomputable def yi (rec4 : G_QJSON → Option (Int × Int)) (m : Option Nat) (a0 : G_QJSON) : Option (Int × Int) :=
 yu rec4 m a0 1 0 0
theorem z6y {rec4 : G_QJSON → Option (Int × Int)} (hrec4 : ∀ {a0 : G_QJSON} {o : Int × Int}, rec4 a0 = some o → ACalls Tryd.prog 37 [.agg [.int .i64 a0.f_Kind, .int .i64 a0.f_Num, .str a0.f_Text, .isl 1 (a0.f_Names.map z6) false, .isl 5 (a0.f_Elems.map z7) false]] [] 3 (xu 3 (.tup [.int .i64 o.1, .int .i64 o.2]) [])) {a0 : G_QJSON} {m : Option Nat} {o : Int × Int} (h : yi rec4 m a0 = some o) : LWp Tryd.prog Z6 3 z8n (z26 a0 o) (yx 0 [.agg [.int .i64 a0.f_Kind, .int .i64 a0.f_Num, .str a0.f_Text, .isl 1 (a0.f_Names.map z6) false, .isl 5 (a0.f_Elems.map z7) false]]) [] 3 := by
 unfold yi at h
 refine zb ?_
 refine zj ?_
 refine zb ?_
 refine zj ?_
 refine zb ?_
 refine zb ?_
 refine zj ?_
 refine LWp.sim (e := [(2, .int .i64 1), (3, .int .i64 0), (9, .isl 5 (a0.f_Elems.map z7) false), (10, .int .i64 ((a0.f_Elems.map z7).length : Int)), (11, .int .i64 0)]) (L := []) (n := 3) ?_ ?_
 ·exact xa (M := []) rfl (AI (VS rfl) (AI (VS rfl) (AI (VS rfl) (AI (VS rfl) (AI (VS rfl) TT))))) TT
 refine je ?_
 refine LWp.sim ?_ (z7c hrec4 h)
 exact xa (M := []) rfl (AI (VS rfl) (AI (VS rfl) (AI (VS rfl) (AI (VS rfl) (AI (VS rfl) TT))))) TT
theorem z91 {rec4 : G_QJSON → Option (Int × Int)} (hrec4 : ∀ {a0 : G_QJSON} {o : Int × Int}, rec4 a0 = some o → ACalls Tryd.prog 37 [.agg [.int .i64 a0.f_Kind, .int .i64 a0.f_Num, .str a0.f_Text, .isl 1 (a0.f_Names.map z6) false, .isl 5 (a0.f_Elems.map z7) false]] [] 3 (xu 3 (.tup [.int .i64 o.1, .int .i64 o.2]) [])) {a0 : G_QJSON} {m : Option Nat} {o : Int × Int} (h : yi rec4 m a0 = some o) : ACalls Tryd.prog 37 [.agg [.int .i64 a0.f_Kind, .int .i64 a0.f_Num, .str a0.f_Text, .isl 1 (a0.f_Names.map z6) false, .isl 5 (a0.f_Elems.map z7) false]] [] 3 (xu 3 (.tup [.int .i64 o.1, .int .i64 o.2]) []) := Ji (L := zel) zgj zee (NB rfl) (z6y hrec4 h)
noncomputable def yz (m : Option Nat) : Nat → G_QJSON → Option (Int × Int)
 | 0 => fun _ => none
 | k + 1 => yi (yz m k) m
noncomputable def jj (m : Option Nat) (a0 : G_QJSON) : Option (Int × Int) := zhp m (fun k => yz m k a0)
theorem z2y {m : Option Nat} : ∀ (k : Nat) {a0 : G_QJSON} {o : Int × Int}, yz m k a0 = some o → ACalls Tryd.prog 37 [.agg [.int .i64 a0.f_Kind, .int .i64 a0.f_Num, .str a0.f_Text, .isl 1 (a0.f_Names.map z6) false, .isl 5 (a0.f_Elems.map z7) false]] [] 3 (xu 3 (.tup [.int .i64 o.1, .int .i64 o.2]) [])
 | 0, _, _, h => nomatch h
 | k + 1, _, _, h => z91 (fun h => z2y k h) h
theorem ze0 {a0 : G_QJSON} {m : Option Nat} {o : Int × Int} (h : jj m a0 = some o) : ACalls Tryd.prog 37 [.agg [.int .i64 a0.f_Kind, .int .i64 a0.f_Num, .str a0.f_Text, .isl 1 (a0.f_Names.map z6) false, .isl 5 (a0.f_Elems.map z7) false]] [] 3 (xu 3 (.tup [.int .i64 o.1, .int .i64 o.2]) []) := (Y6 h).elim fun k h => z2y k h
noncomputable def wq (m : Option Nat) (a0 : G_QJSON) : Option (Int × Int) := yi (jj m) m a0
theorem zpw {a0 : G_QJSON} {m : Option Nat} {o : Int × Int} (h : wq m a0 = some o) : PFn Tryd.prog 37 [.agg [.int .i64 a0.f_Kind, .int .i64 a0.f_Num, .str a0.f_Text, .isl 1 (a0.f_Names.map z6) false, .isl 5 (a0.f_Elems.map z7) false]] (.tup [.int .i64 o.1, .int .i64 o.2]) :=
 ⟨rfl, _, J4 (k := 3) (m := 0) (L' := []) (rest := []) (R' := .tup [.int .i64 o.1, .int .i64 o.2]) [] (z91 ze0 h) rfl rfl rfl (AI (VS rfl) TT) TT (wz _ rfl) TT rfl ⟨rfl, rfl, rfl⟩⟩
def zht : LCode := (.seq (.region [⟨some 10, .bin .lss (.t 9) (.t 8), none⟩])
 (.seq (.cond (.t 10)
  .skip
  (.exit 0))
 (.seq (.block 1
  (.seq (.region [⟨some 11, .mv (.t 9), none⟩,
   ⟨some 12, .iaddr 1 (.t 7) (.t 9), none⟩,
   ⟨some 13, .load false 1 (.t 12), none⟩,
   ⟨some 5, .mv (.t 11), none⟩,
   ⟨some 6, .mv (.t 13), none⟩])
  (.seq (.region [⟨some 14, .mv (.t 1), none⟩,
   ⟨some 15, .mv (.t 6), none⟩,
   ⟨some 16, .bin .eql (.t 14) (.t 15), none⟩])
  (.cond (.t 16)
   (.seq (.region [⟨some 17, .mv (.t 5), none⟩,
    ⟨some 4, .mv (.t 17), none⟩])
   .ret)
   .skip))))
 (.region [⟨some 18, .bin .add (.t 9) (.c (.int .i64 1)), none⟩,
  ⟨some 9, .mv (.t 18), none⟩]))))
def z9t : LCode := (.seq (.region [⟨some 4, .mv (.c (.int .i64 (-1))), none⟩])
 .ret)
def zkm : LCode := (.seq (.region [⟨some 4, .mv (.c (.int .i64 0)), none⟩])
 (.seq (.seq (.region [⟨some 7, .mv (.t 0), none⟩,
  ⟨some 8, .len false (.t 7), none⟩,
  ⟨some 9, .mv (.c (.int .i64 0)), none⟩])
 (.block 0
  (.loop
   zht)))
 z9t))
def Xg : Lay := ⟨19, [], false⟩
def zcu : List LRes := [.t 4]
def zpg : LFn := ⟨2, Xg, zkm, zcu⟩
theorem zlw : w8 Tryd.prog [] 64 = some zpg := by kernel_rfl
theorem zo6 : uf Tryd.prog 64 := ⟨_, Tryd.func64, rfl, rfl⟩
def zia (a0 : List (List UInt8)) (a1 : List UInt8) (o : Int) : Exit → Env → AHeap → Nat → Prop := Zy zcu (j1 (.int .i64 o))
def Uw (a0 : List (List UInt8)) (a1 : List UInt8) (s : Int) : Env := [(1, .str a1), (7, .isl 1 (a0.map z6) false), (8, .int .i64 ((a0.map z6).length : Int)), (9, .int .i64 s)]
def z4w (a0 : List (List UInt8)) (a1 : List UInt8) (s : Int) : AHeap := []
def z89 (a0 : List (List UInt8)) (a1 : List UInt8) (o : Int) : Exit → Env → AHeap → Nat → Prop := (xy 0 (X3 Tryd.prog Xg 0 z9t (zia a0 a1 o)))
noncomputable def jg (m : Option Nat) : Option Int :=
 some (-1)
noncomputable def y1 (m : Option Nat) (a0 : List (List UInt8)) (a1 : List UInt8) (v1 : Int) : Option (Int ⊕ Int) :=
 if (decide (v1 < ((a0.map z6).length : Int))) = true then
  if (0 : Int) ≤ v1 ∧ v1 < ((a0.map z6).length : Int) then
  if (a1 == (a0.getD v1.toNat default)) = true then
   Option.map Sum.inr (
    some v1)
  else
   some (.inl (W (v1 + 1)))
  else none
 else
  Option.map Sum.inr (
   jg m)
noncomputable def qg (m : Option Nat) (a0 : List (List UInt8)) (a1 : List UInt8) (v1 : Int) : Option Int := Zc m (fun (s : Int) => y1 m a0 a1 s) v1
theorem zec {a0 : List (List UInt8)} {a1 : List UInt8} {m : Option Nat} {o : Int} (h : jg m = some o) :
 LWp Tryd.prog Xg 0 z9t (zia a0 a1 o) [] [] 0 := by
 unfold jg at h
 refine zb ?_
 refine zj ?_
 refine wg ?_
 cases h
 exact AI TT (AI rfl (VS rfl))
theorem zb8 {a0 : List (List UInt8)} {a1 : List UInt8} {v1 : Int} {m : Option Nat} {o : Int ⊕ Int} (h : y1 m a0 a1 v1 = some o) :
 LWp Tryd.prog Xg 0 zht (Zr 0 0 (Uw a0 a1) (z4w a0 a1) (z89 a0 a1) o) [(1, .str a1), (7, .isl 1 (a0.map z6) false), (8, .int .i64 ((a0.map z6).length : Int)), (9, .int .i64 v1)] [] 0 := by
 unfold y1 at h
 refine zb ?_
 refine zj ?_
 refine zb ?_
 refine qr (v := (decide (v1 < ((a0.map z6).length : Int)))) rfl TT (fun h7 => ?_) (fun h7 => ?_)
 ·have h := zk h7 h
  refine ji ?_
  refine zb ?_
  refine je ?_
  refine zb ?_
  refine zj ?_
  obtain ⟨h8, h⟩ := xz h
  refine AI h8 ?_
  refine EX (z6 (a0.getD v1.toNat default)) (AI (Zf z6 _ _ (kn z6 h8)) (AI (AI (Zh h8) (NB rfl)) ?_))
  refine zb ?_
  refine zj ?_
  refine LWp.sim (e := [(1, .str a1), (5, .int .i64 v1), (7, .isl 1 (a0.map z6) false), (8, .int .i64 ((a0.map z6).length : Int)), (9, .int .i64 v1), (16, .bool (a1 == (a0.getD v1.toNat default)))]) (L := []) (n := 0) ?_ ?_
  ·exact xa (M := []) rfl (AI (VS rfl) (AI (VS rfl) (AI (VS rfl) (AI (VS rfl) (AI (VS rfl) (AI (VS rfl) TT)))))) TT
  refine qr (v := (a1 == (a0.getD v1.toNat default))) rfl TT (fun h9 => ?_) (fun h9 => ?_)
  ·have h := zk h9 h
   refine zb ?_
   refine zj ?_
   refine wg ?_
   obtain ⟨o, hq, rfl⟩ := Option.map_eq_some_iff.1 h
   replace h := hq; clear hq
   refine AI nofun ?_
   cases h
   exact AI TT (AI rfl (VS rfl))
  ·have h := zw h9 h
   refine ji ?_
   refine zj ?_
   cases h
   exact AI rfl (xa (M := []) rfl (AI (VS rfl) (AI (VS rfl) (AI (VS rfl) (AI (VS rfl) TT)))) TT)
 ·have h := zw h7 h
  refine Ja ?_
  obtain ⟨o, hq, rfl⟩ := Option.map_eq_some_iff.1 h
  replace h := hq; clear hq
  refine AI nofun ?_
  refine LWp.sim ?_ (zec h)
  exact xa (M := []) rfl TT TT
theorem zha {a0 : List (List UInt8)} {a1 : List UInt8} {v1 : Int} {m : Option Nat} {o : Int} (h : qg m a0 a1 v1 = some o) :
 LWp Tryd.prog Xg 0 (.loop zht) (xy 0 (X3 Tryd.prog Xg 0 z9t (zia a0 a1 o))) [(1, .str a1), (7, .isl 1 (a0.map z6) false), (8, .int .i64 ((a0.map z6).length : Int)), (9, .int .i64 v1)] [] 0 :=
 w7 (m := m) (s := (v1 : Int)) (r := o) (fun (s : Int) => y1 m a0 a1 s) (Uw a0 a1) (z4w a0 a1) (z89 a0 a1) (fun s o h => zb8 h) h
noncomputable def qy (m : Option Nat) (a0 : List (List UInt8)) (a1 : List UInt8) : Option Int :=
 qg m a0 a1 0
theorem ze6 {a0 : List (List UInt8)} {a1 : List UInt8} {m : Option Nat} {o : Int} (h : qy m a0 a1 = some o) : LWp Tryd.prog Xg 0 zkm (zia a0 a1 o) (yx 0 [.isl 1 (a0.map z6) false, .str a1]) [] 0 := by
 unfold qy at h
 refine zb ?_
 refine zj ?_
 refine zb ?_
 refine zb ?_
 refine zj ?_
 refine je ?_
 refine LWp.sim ?_ (zha h)
 exact xa (M := []) rfl (AI (VS rfl) (AI (VS rfl) (AI (VS rfl) (AI (VS rfl) TT)))) TT
theorem zqf {a0 : List (List UInt8)} {a1 : List UInt8} {m : Option Nat} {o : Int} (h : qy m a0 a1 = some o) : PFn Tryd.prog 64 [.isl 1 (a0.map z6) false, .str a1] (.int .i64 o) := PFn.ofFnW (L := zpg) zlw zo6 (NB rfl) rfl (ze6 h)
def zls : LCode := (.seq (.region [⟨some 4, .mv (.c (.bool false)), none⟩])
 (.seq (.region [⟨some 5, .mv (.t 0), none⟩,
  ⟨some 6, .mv (.t 1), none⟩,
  ⟨some 7, .call 64 [(.t 5), (.t 6)], none⟩,
  ⟨some 8, .bin .geq (.t 7) (.c (.int .i64 0)), none⟩,
  ⟨some 4, .mv (.t 8), none⟩])
 .ret))
def zfo : Lay := ⟨9, [], false⟩
def zfi : List LRes := [.t 4]
def zpt : LFn := ⟨2, zfo, zls, zfi⟩
theorem zmc : w8 Tryd.prog [] 78 = some zpt := by kernel_rfl
theorem zmw : uf Tryd.prog 78 := ⟨_, Tryd.func78, rfl, rfl⟩
noncomputable def yv (m : Option Nat) (a0 : List (List UInt8)) (a1 : List UInt8) : Option Bool :=
 (qy m a0 a1).bind fun v1 =>
 some (decide (v1 ≥ 0))
def ztl (a0 : List (List UInt8)) (a1 : List UInt8) (o : Bool) : Exit → Env → AHeap → Nat → Prop := Zy zfi (j1 (.bool o))
theorem zi0 {a0 : List (List UInt8)} {a1 : List UInt8} {m : Option Nat} {o : Bool} (h : yv m a0 a1 = some o) : LWp Tryd.prog zfo 0 zls (ztl a0 a1 o) (yx 0 [.isl 1 (a0.map z6) false, .str a1]) [] 0 := by
 unfold yv at h
 refine zb ?_
 refine zj ?_
 refine zb ?_
 refine zj ?_
 obtain ⟨v1, h1, h⟩ := bind_some h
 refine PFn.call (zqf h1) (AI (VS rfl) (AI (VS rfl) TT)) ?_
 refine wg ?_
 cases h
 exact AI TT (AI rfl (VS rfl))
theorem zrt {a0 : List (List UInt8)} {a1 : List UInt8} {m : Option Nat} {o : Bool} (h : yv m a0 a1 = some o) : PFn Tryd.prog 78 [.isl 1 (a0.map z6) false, .str a1] (.bool o) := PFn.ofFnW (L := zpt) zmc zmw (NB rfl) rfl (zi0 h)
def zea : LCode := (.seq (.region [⟨some 8, .bin .lss (.t 7) (.t 6), none⟩])
 (.seq (.cond (.t 8)
  .skip
  (.exit 0))
 (.seq (.block 1
  (.seq (.region [⟨some 9, .mv (.t 7), none⟩,
   ⟨some 10, .iaddr 1 (.t 5) (.t 7), none⟩,
   ⟨some 11, .load false 1 (.t 10), none⟩,
   ⟨some 3, .mv (.t 9), none⟩,
   ⟨some 4, .mv (.t 11), none⟩])
  (.seq (.region [⟨some 12, .mv (.t 0), none⟩,
   ⟨some 13, .mv (.t 3), none⟩,
   ⟨some 14, .slSl 1 (.t 12) none (some (.t 13)) none, none⟩,
   ⟨some 15, .mv (.t 4), none⟩,
   ⟨some 16, .call 78 [(.t 14), (.t 15)], none⟩])
  (.cond (.t 16)
   (.seq (.region [⟨some 2, .mv (.c (.bool true)), none⟩])
   .ret)
   .skip))))
 (.region [⟨some 17, .bin .add (.t 7) (.c (.int .i64 1)), none⟩,
  ⟨some 7, .mv (.t 17), none⟩]))))
def z88 : LCode := (.seq (.region [⟨some 2, .mv (.c (.bool false)), none⟩])
 .ret)
def zkq : LCode := (.seq (.region [⟨some 2, .mv (.c (.bool false)), none⟩])
 (.seq (.seq (.region [⟨some 5, .mv (.t 0), none⟩,
  ⟨some 6, .len false (.t 5), none⟩,
  ⟨some 7, .mv (.c (.int .i64 0)), none⟩])
 (.block 0
  (.loop
   zea)))
 z88))
def Xb : Lay := ⟨18, [], false⟩
def zfv : List LRes := [.t 2]
def zr9 : LFn := ⟨1, Xb, zkq, zfv⟩
theorem zoz : w8 Tryd.prog [] 63 = some zr9 := by kernel_rfl
theorem zm9 : uf Tryd.prog 63 := ⟨_, Tryd.func63, rfl, rfl⟩
def zj4 (a0 : List (List UInt8)) (o : Bool) : Exit → Env → AHeap → Nat → Prop := Zy zfv (j1 (.bool o))
def Ux (a0 : List (List UInt8)) (s : Int) : Env := [(0, .isl 1 (a0.map z6) false), (5, .isl 1 (a0.map z6) false), (6, .int .i64 ((a0.map z6).length : Int)), (7, .int .i64 s)]
def z4c (a0 : List (List UInt8)) (s : Int) : AHeap := []
def z84 (a0 : List (List UInt8)) (o : Bool) : Exit → Env → AHeap → Nat → Prop := (xy 0 (X3 Tryd.prog Xb 0 z88 (zj4 a0 o)))
noncomputable def ju (m : Option Nat) : Option Bool :=
 some false
noncomputable def yk (m : Option Nat) (a0 : List (List UInt8)) (v2 : Int) : Option (Int ⊕ Bool) :=
 if (decide (v2 < ((a0.map z6).length : Int))) = true then
  if (0 : Int) ≤ v2 ∧ v2 < ((a0.map z6).length : Int) then
  if (0 : Int) ≤ v2 ∧ v2 ≤ ((a0.map z6).length : Int) then
  (yv m (a0.take v2.toNat) (a0.getD v2.toNat default)).bind fun v4 =>
  if v4 = true then
   Option.map Sum.inr (
    some true)
  else
   some (.inl (W (v2 + 1)))
  else none
  else none
 else
  Option.map Sum.inr (
   ju m)
noncomputable def x4 (m : Option Nat) (a0 : List (List UInt8)) (v2 : Int) : Option Bool := Zc m (fun (s : Int) => yk m a0 s) v2
theorem zgb {a0 : List (List UInt8)} {m : Option Nat} {o : Bool} (h : ju m = some o) :
 LWp Tryd.prog Xb 0 z88 (zj4 a0 o) [] [] 0 := by
 unfold ju at h
 refine zb ?_
 refine zj ?_
 refine wg ?_
 cases h
 exact AI TT (AI rfl (VS rfl))
theorem za9 {a0 : List (List UInt8)} {v2 : Int} {m : Option Nat} {o : Int ⊕ Bool} (h : yk m a0 v2 = some o) :
 LWp Tryd.prog Xb 0 zea (Zr 0 0 (Ux a0) (z4c a0) (z84 a0) o) [(0, .isl 1 (a0.map z6) false), (5, .isl 1 (a0.map z6) false), (6, .int .i64 ((a0.map z6).length : Int)), (7, .int .i64 v2)] [] 0 := by
 unfold yk at h
 refine zb ?_
 refine zj ?_
 refine zb ?_
 refine qr (v := (decide (v2 < ((a0.map z6).length : Int)))) rfl TT (fun h11 => ?_) (fun h11 => ?_)
 ·have h := zk h11 h
  refine ji ?_
  refine zb ?_
  refine je ?_
  refine zb ?_
  refine zj ?_
  obtain ⟨h12, h⟩ := xz h
  refine AI h12 ?_
  refine EX (z6 (a0.getD v2.toNat default)) (AI (Zf z6 _ _ (kn z6 h12)) (AI (AI (Zh h12) (NB rfl)) ?_))
  refine zb ?_
  refine zj ?_
  obtain ⟨h13, h⟩ := xz h
  refine EX (.isl 1 ((a0.take v2.toNat).map z6) false) (AI (zt0 z6 (slB z6 a0 _) rfl) (AI (AI rfl (AI (Int.le_refl _) h13)) ?_))
  obtain ⟨v4, h14, h⟩ := bind_some h
  refine PFn.call (zrt h14) (AI (VS rfl) (AI (VS rfl) TT)) ?_
  refine LWp.sim (e := [(0, .isl 1 (a0.map z6) false), (5, .isl 1 (a0.map z6) false), (6, .int .i64 ((a0.map z6).length : Int)), (7, .int .i64 v2), (16, .bool v4)]) (L := []) (n := 0) ?_ ?_
  ·exact xa (M := []) rfl (AI (VS rfl) (AI (VS rfl) (AI (VS rfl) (AI (VS rfl) (AI (VS rfl) TT))))) TT
  refine qr (v := v4) rfl TT (fun h15 => ?_) (fun h15 => ?_)
  ·have h := zk h15 h
   refine zb ?_
   refine zj ?_
   refine wg ?_
   obtain ⟨o, hq, rfl⟩ := Option.map_eq_some_iff.1 h
   replace h := hq; clear hq
   refine AI nofun ?_
   cases h
   exact AI TT (AI rfl (VS rfl))
  ·have h := zw h15 h
   refine ji ?_
   refine zj ?_
   cases h
   exact AI rfl (xa (M := []) rfl (AI (VS rfl) (AI (VS rfl) (AI (VS rfl) (AI (VS rfl) TT)))) TT)
 ·have h := zw h11 h
  refine Ja ?_
  obtain ⟨o, hq, rfl⟩ := Option.map_eq_some_iff.1 h
  replace h := hq; clear hq
  refine AI nofun ?_
  refine LWp.sim ?_ (zgb h)
  exact xa (M := []) rfl TT TT
theorem zhf {a0 : List (List UInt8)} {v2 : Int} {m : Option Nat} {o : Bool} (h : x4 m a0 v2 = some o) :
 LWp Tryd.prog Xb 0 (.loop zea) (xy 0 (X3 Tryd.prog Xb 0 z88 (zj4 a0 o))) [(0, .isl 1 (a0.map z6) false), (5, .isl 1 (a0.map z6) false), (6, .int .i64 ((a0.map z6).length : Int)), (7, .int .i64 v2)] [] 0 :=
 w7 (m := m) (s := (v2 : Int)) (r := o) (fun (s : Int) => yk m a0 s) (Ux a0) (z4c a0) (z84 a0) (fun s o h => za9 h) h
noncomputable def xr (m : Option Nat) (a0 : List (List UInt8)) : Option Bool :=
 x4 m a0 0
theorem ze1 {a0 : List (List UInt8)} {m : Option Nat} {o : Bool} (h : xr m a0 = some o) : LWp Tryd.prog Xb 0 zkq (zj4 a0 o) (yx 0 [.isl 1 (a0.map z6) false]) [] 0 := by
 unfold xr at h
 refine zb ?_
 refine zj ?_
 refine zb ?_
 refine zb ?_
 refine zj ?_
 refine je ?_
 refine LWp.sim ?_ (zhf h)
 exact xa (M := []) rfl (AI (VS rfl) (AI (VS rfl) (AI (VS rfl) (AI (VS rfl) TT)))) TT
theorem zr4 {a0 : List (List UInt8)} {m : Option Nat} {o : Bool} (h : xr m a0 = some o) : PFn Tryd.prog 63 [.isl 1 (a0.map z6) false] (.bool o) := PFn.ofFnW (L := zr9) zoz zm9 (NB rfl) rfl (ze1 h)
end Go.Proofs.YtlfdchgaeeadjaaDoor
