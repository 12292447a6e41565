/-
  Own text GenA of this claim: what functions of the given program compute, in plain Lean, and the proof; no condition.
-/
import Derived.Test.YtnmhihopnidbcaaChecked
import Derived.Test.YtnmhihopnidbcaaFxN
import Derived.Test.YtnmhihopnidbcaaFxMd
import Derived.Test.YtnmhihopnidbcaaBd
import Derived.KernelRfl
namespace Go.Proofs.Ytnmhihopnidbcaa
open Go.Fx
set_option linter.unusedVariables false
structure G_TextEdit where
  f_Start : Int
  f_End : Int
  f_NewText : List UInt8
instance : Inhabited G_TextEdit := ⟨(G_TextEdit.mk 0 0 [])⟩
structure G_tracedByte where
  f_value : Int
  f_origin : Int
instance : Inhabited G_tracedByte := ⟨(G_tracedByte.mk 0 0)⟩
structure G_TracedByte where
  f_Value : Int
  f_Origin : Int
instance : Inhabited G_TracedByte := ⟨(G_TracedByte.mk 0 0)⟩
def e_TextEdit (x : G_TextEdit) : List AVal := [.int .i64 x.f_Start, .int .i64 x.f_End, .str x.f_NewText]
def e_tracedByte (x : G_tracedByte) : List AVal := [.int .u8 x.f_value, .int .i64 x.f_origin]
def e_TracedByte (x : G_TracedByte) : List AVal := [.int .u8 x.f_Value, .int .i64 x.f_Origin]
theorem e_TextEdit_ok (x : G_TextEdit) : AVal.nid.nidL (e_TextEdit x) = true ∧ ∀ y ∈ e_TextEdit x, y.imm = some y := ⟨rfl, by simp [e_TextEdit, AVal.imm]⟩
theorem e_tracedByte_ok (x : G_tracedByte) : AVal.nid.nidL (e_tracedByte x) = true ∧ ∀ y ∈ e_tracedByte x, y.imm = some y := ⟨rfl, by simp [e_tracedByte, AVal.imm]⟩
theorem e_TracedByte_ok (x : G_TracedByte) : AVal.nid.nidL (e_TracedByte x) = true ∧ ∀ y ∈ e_TracedByte x, y.imm = some y := ⟨rfl, by simp [e_TracedByte, AVal.imm]⟩
def f12_c1 : LCode := (.seq (.region [⟨some 22, .bin .lss (.t 21) (.t 20), none⟩])
 (.seq (.cond (.t 22)
  .skip
  (.exit 0))
 (.seq (.block 1
  (.seq (.region [⟨some 23, .iaddr 3 (.t 19) (.t 21), none⟩,
    ⟨some 24, .load true 3 (.t 23), none⟩,
    ⟨some 8, .alloc [(.int .i64 0), (.int .i64 0), (.str [])], none⟩,
    ⟨none, .store 3 (.t 8) (.t 24), none⟩])
  (.seq (.seq (.region [⟨some 25, .faddr 0 (.t 8), none⟩,
    ⟨some 26, .load false 1 (.t 25), none⟩,
    ⟨some 27, .mv (.t 5), none⟩,
    ⟨some 28, .bin .leq (.t 26) (.t 27), none⟩,
    ⟨some 29, .mv (.t 28), none⟩,
    ⟨some 30, .faddr 1 (.t 8), some (29, false)⟩,
    ⟨some 31, .load false 1 (.t 30), some (29, false)⟩,
    ⟨some 32, .faddr 0 (.t 8), some (29, false)⟩,
    ⟨some 33, .load false 1 (.t 32), some (29, false)⟩,
    ⟨some 34, .bin .lss (.t 31) (.t 33), some (29, false)⟩,
    ⟨some 35, .pick (.t 29) (.c (.bool true)) (.t 34), none⟩,
    ⟨some 36, .mv (.t 35), none⟩,
    ⟨some 37, .faddr 1 (.t 8), some (36, false)⟩,
    ⟨some 38, .load false 1 (.t 37), some (36, false)⟩,
    ⟨some 39, .mv (.t 0), some (36, false)⟩,
    ⟨some 40, .len true (.t 39), some (36, false)⟩,
    ⟨some 41, .bin .gtr (.t 38) (.t 40), some (36, false)⟩,
    ⟨some 42, .pick (.t 36) (.c (.bool true)) (.t 41), none⟩])
  (.cond (.t 42)
   (.seq (.region [⟨some 4, .mv (.c (.int .i64 3)), none⟩])
   .ret)
   .skip))
  (.seq (.region [⟨some 43, .faddr 1 (.t 8), none⟩,
    ⟨some 44, .load false 1 (.t 43), none⟩,
    ⟨some 5, .mv (.t 44), none⟩])
  (.region [⟨some 45, .mv (.t 6), none⟩,
    ⟨some 46, .faddr 2 (.t 8), none⟩,
    ⟨some 47, .load false 1 (.t 46), none⟩,
    ⟨some 48, .len true (.t 47), none⟩,
    ⟨some 49, .faddr 1 (.t 8), none⟩,
    ⟨some 50, .load false 1 (.t 49), none⟩,
    ⟨some 51, .faddr 0 (.t 8), none⟩,
    ⟨some 52, .load false 1 (.t 51), none⟩,
    ⟨some 53, .bin .sub (.t 50) (.t 52), none⟩,
    ⟨some 54, .bin .sub (.t 48) (.t 53), none⟩,
    ⟨some 55, .bin .add (.t 45) (.t 54), none⟩,
    ⟨some 6, .mv (.t 55), none⟩])))))
 (.region [⟨some 56, .bin .add (.t 21) (.c (.int .i64 1)), none⟩,
   ⟨some 21, .mv (.t 56), none⟩]))))
def f12_c0 : LCode := (.seq (.seq (.region [⟨some 57, .mv (.t 6), none⟩,
   ⟨some 58, .bin .gtr (.t 57) (.c (.int .i64 2000)), none⟩])
 (.cond (.t 58)
  (.seq (.region [⟨some 4, .mv (.c (.int .i64 2)), none⟩])
  .ret)
  .skip))
 (.seq (.region [⟨some 4, .mv (.c (.int .i64 0)), none⟩])
 .ret))
def f12_c2 : LCode := (.seq (.region [⟨some 4, .mv (.c (.int .i64 0)), none⟩])
 (.seq (.seq (.region [⟨some 9, .mv (.t 0), none⟩,
   ⟨some 10, .len true (.t 9), none⟩,
   ⟨some 11, .bin .gtr (.t 10) (.c (.int .i64 2000)), none⟩,
   ⟨some 12, .mv (.t 11), none⟩,
   ⟨some 13, .mv (.t 1), some (12, false)⟩,
   ⟨some 14, .len false (.t 13), some (12, false)⟩,
   ⟨some 15, .bin .gtr (.t 14) (.c (.int .i64 50)), some (12, false)⟩,
   ⟨some 16, .pick (.t 12) (.c (.bool true)) (.t 15), none⟩])
 (.cond (.t 16)
  (.seq (.region [⟨some 4, .mv (.c (.int .i64 2)), none⟩])
  .ret)
  .skip))
 (.seq (.region [⟨some 17, .mv (.t 0), none⟩,
   ⟨some 18, .len true (.t 17), none⟩,
   ⟨some 5, .mv (.c (.int .i64 (-1))), none⟩,
   ⟨some 6, .mv (.t 18), none⟩])
 (.seq (.seq (.region [⟨some 19, .mv (.t 1), none⟩,
   ⟨some 20, .len false (.t 19), none⟩,
   ⟨some 21, .mv (.c (.int .i64 0)), none⟩])
 (.block 0
  (.loop
   f12_c1)))
 f12_c0))))
def f12_lay : Lay := ⟨59, [], false⟩
def f12_res : List LRes := [.t 4]
def f12_L : LFn := ⟨2, f12_lay, f12_c2, f12_res⟩
theorem f12_low : lowFn Try.prog [] 12 = some f12_L := by kernel_rfl
theorem f12_fok : FnOk Try.prog 12 := ⟨_, Try.func12, rfl, rfl⟩
def f12_Q (a0 : List UInt8) (a1 : List G_TextEdit) (o : Int) : Exit → Env → AHeap → Nat → Prop := FinK f12_res (PureEnd (.int .i64 o))

def f12_L1_env (a0 : List UInt8) (a1 : List G_TextEdit) (s : (Int × Int × Int)) : Env := [(0, .str a0), (5, .int .i64 s.1), (6, .int .i64 s.2.1), (19, .isl 3 (a1.map e_TextEdit) false), (20, .int .i64 ((a1.map e_TextEdit).length : Int)), (21, .int .i64 s.2.2)]
def f12_L1_hp (a0 : List UInt8) (a1 : List G_TextEdit) (s : (Int × Int × Int)) : AHeap := []
def f12_L1_Q (a0 : List UInt8) (a1 : List G_TextEdit) (o : Int) : Exit → Env → AHeap → Nat → Prop := (QBlock 0 (QSeq Try.prog f12_lay 0 f12_c0 (f12_Q a0 a1 o)))

noncomputable def S_textedit_Validate_j1 (m : Option Nat) (v2 : Int) : Option Int :=
  if (decide (v2 > 2000)) = true then
    some 2
  else
    some 0

noncomputable def S_textedit_Validate_b1 (m : Option Nat) (a0 : List UInt8) (a1 : List G_TextEdit) (v1 : Int) (v2 : Int) (v3 : Int) : Option ((Int × Int × Int) ⊕ Int) :=
  if (decide (v3 < ((a1.map e_TextEdit).length : Int))) = true then
    if (0 : Int) ≤ v3 ∧ v3 < ((a1.map e_TextEdit).length : Int) then
    if (((decide ((a1.getD v3.toNat default).f_Start ≤ v1)) || (decide ((a1.getD v3.toNat default).f_End < (a1.getD v3.toNat default).f_Start))) || (decide ((a1.getD v3.toNat default).f_End > (a0.length : Int)))) = true then
      Option.map Sum.inr (
        some 3)
    else
      some (.inl ((a1.getD v3.toNat default).f_End, (W (v2 + (W ((((a1.getD v3.toNat default).f_NewText).length : Int) - (W ((a1.getD v3.toNat default).f_End - (a1.getD v3.toNat default).f_Start)))))), (W (v3 + 1))))
    else none
  else
    Option.map Sum.inr (
      S_textedit_Validate_j1 m v2)

noncomputable def S_textedit_Validate_l1 (m : Option Nat) (a0 : List UInt8) (a1 : List G_TextEdit) (v1 : Int) (v2 : Int) (v3 : Int) : Option Int := loopM m (fun (s : (Int × Int × Int)) => S_textedit_Validate_b1 m a0 a1 s.1 s.2.1 s.2.2) (v1, v2, v3)

theorem f12_j1_ok {a0 : List UInt8} {a1 : List G_TextEdit} {v2 : Int} {m : Option Nat} {o : Int} (h : S_textedit_Validate_j1 m v2 = some o) :
    LWp Try.prog f12_lay 0 f12_c0 (f12_Q a0 a1 o) [(6, .int .i64 v2)] [] 0 := by
  unfold S_textedit_Validate_j1 at h
  refine seqI ?_
  refine seqI ?_
  refine regI ?_
  refine condI (v := (decide (v2 > 2000))) rfl trivial (fun h11 => ?_) (fun h11 => ?_)
  · have h := ite_tt h11 h
    refine seqI ?_
    refine regI ?_
    refine retI ?_
    cases h
    exact And.intro trivial (And.intro rfl (Vw.same _ rfl))
  · have h := ite_ff h11 h
    refine skipI ?_
    refine seqI ?_
    refine regI ?_
    refine retI ?_
    cases h
    exact And.intro trivial (And.intro rfl (Vw.same _ rfl))

theorem f12_L1_bok {a0 : List UInt8} {a1 : List G_TextEdit} {v1 : Int} {v2 : Int} {v3 : Int} {m : Option Nat} {o : (Int × Int × Int) ⊕ Int} (h : S_textedit_Validate_b1 m a0 a1 v1 v2 v3 = some o) :
    LWp Try.prog f12_lay 0 f12_c1 (BodyQ 0 0 (f12_L1_env a0 a1) (f12_L1_hp a0 a1) (f12_L1_Q a0 a1) o) [(0, .str a0), (5, .int .i64 v1), (6, .int .i64 v2), (19, .isl 3 (a1.map e_TextEdit) false), (20, .int .i64 ((a1.map e_TextEdit).length : Int)), (21, .int .i64 v3)] [] 0 := by
  unfold S_textedit_Validate_b1 at h
  refine seqI ?_
  refine regI ?_
  refine seqI ?_
  refine condI (v := (decide (v3 < ((a1.map e_TextEdit).length : Int)))) rfl trivial (fun h8 => ?_) (fun h8 => ?_)
  · have h := ite_tt h8 h
    refine skipI ?_
    refine seqI ?_
    refine blockI ?_
    refine seqI ?_
    refine regI ?_
    obtain ⟨h9, h⟩ := ite_some h
    refine And.intro h9 ?_
    refine Exists.intro (e_TextEdit (a1.getD v3.toNat default)) (And.intro (getD_enc e_TextEdit _ _ (idx_ltL e_TextEdit h9)) (And.intro (And.intro (idx_lt h9) (Nat.le_of_ble_eq_true rfl)) ?_))
    refine seqI ?_
    refine seqI ?_
    refine regI ?_
    refine And.intro (fun hp => hp) ?_
    show yops _ _ _ [(31, .cnd ((decide ((a1.getD v3.toNat default).f_Start ≤ v1)) == false) (.int .i64 ((a1.getD v3.toNat default).f_End))), (30, .cnd ((decide ((a1.getD v3.toNat default).f_Start ≤ v1)) == false) (.ptr (0, 0) 0 1)), (29, .bool (decide ((a1.getD v3.toNat default).f_Start ≤ v1))), (28, .bool (decide ((a1.getD v3.toNat default).f_Start ≤ v1))), (27, .int .i64 v1), (26, .int .i64 ((a1.getD v3.toNat default).f_Start)), (25, .ptr (0, 0) 0 0), (8, .ptr (0, 0) 0 0), (24, .agg [.int .i64 ((a1.getD v3.toNat default).f_Start), .int .i64 ((a1.getD v3.toNat default).f_End), .str ((a1.getD v3.toNat default).f_NewText)]), (23, .iptr 3 (a1.map e_TextEdit) v3.toNat 0), (22, .bool (decide (v3 < ((a1.map e_TextEdit).length : Int)))), (0, .str a0), (5, .int .i64 v1), (6, .int .i64 v2), (19, .isl 3 (a1.map e_TextEdit) false), (20, .int .i64 ((a1.map e_TextEdit).length : Int)), (21, .int .i64 v3)] _ _
    refine And.intro (fun hp => hp) ?_
    refine And.intro (fun hp => (And.intro hp hp)) ?_
    refine And.intro (fun hc => (bqf hc)) ?_
    refine And.intro (fun hp => hp) ?_
    show yops _ _ _ [(38, .cnd (((decide ((a1.getD v3.toNat default).f_Start ≤ v1)) || (decide ((a1.getD v3.toNat default).f_End < (a1.getD v3.toNat default).f_Start))) == false) (.int .i64 ((a1.getD v3.toNat default).f_End))), (37, .cnd (((decide ((a1.getD v3.toNat default).f_Start ≤ v1)) || (decide ((a1.getD v3.toNat default).f_End < (a1.getD v3.toNat default).f_Start))) == false) (.ptr (0, 0) 0 1)), (36, .bool ((decide ((a1.getD v3.toNat default).f_Start ≤ v1)) || (decide ((a1.getD v3.toNat default).f_End < (a1.getD v3.toNat default).f_Start)))), (35, .bool ((decide ((a1.getD v3.toNat default).f_Start ≤ v1)) || (decide ((a1.getD v3.toNat default).f_End < (a1.getD v3.toNat default).f_Start)))), (34, .cnd ((decide ((a1.getD v3.toNat default).f_Start ≤ v1)) == false) (.bool (decide ((a1.getD v3.toNat default).f_End < (a1.getD v3.toNat default).f_Start)))), (33, .cnd ((decide ((a1.getD v3.toNat default).f_Start ≤ v1)) == false) (.int .i64 ((a1.getD v3.toNat default).f_Start))), (32, .cnd ((decide ((a1.getD v3.toNat default).f_Start ≤ v1)) == false) (.ptr (0, 0) 0 0)), (31, .cnd ((decide ((a1.getD v3.toNat default).f_Start ≤ v1)) == false) (.int .i64 ((a1.getD v3.toNat default).f_End))), (30, .cnd ((decide ((a1.getD v3.toNat default).f_Start ≤ v1)) == false) (.ptr (0, 0) 0 1)), (29, .bool (decide ((a1.getD v3.toNat default).f_Start ≤ v1))), (28, .bool (decide ((a1.getD v3.toNat default).f_Start ≤ v1))), (27, .int .i64 v1), (26, .int .i64 ((a1.getD v3.toNat default).f_Start)), (25, .ptr (0, 0) 0 0), (8, .ptr (0, 0) 0 0), (24, .agg [.int .i64 ((a1.getD v3.toNat default).f_Start), .int .i64 ((a1.getD v3.toNat default).f_End), .str ((a1.getD v3.toNat default).f_NewText)]), (23, .iptr 3 (a1.map e_TextEdit) v3.toNat 0), (22, .bool (decide (v3 < ((a1.map e_TextEdit).length : Int)))), (0, .str a0), (5, .int .i64 v1), (6, .int .i64 v2), (19, .isl 3 (a1.map e_TextEdit) false), (20, .int .i64 ((a1.map e_TextEdit).length : Int)), (21, .int .i64 v3)] _ _
    refine And.intro (fun hp => hp) ?_
    refine And.intro (fun hp => (And.intro hp hp)) ?_
    refine And.intro (fun hc => (bqf hc)) ?_
    refine LWp.sim (e := [(0, .str a0), (6, .int .i64 v2), (8, .ptr (0, 0) 0 0), (19, .isl 3 (a1.map e_TextEdit) false), (20, .int .i64 ((a1.map e_TextEdit).length : Int)), (21, .int .i64 v3), (42, .bool (((decide ((a1.getD v3.toNat default).f_Start ≤ v1)) || (decide ((a1.getD v3.toNat default).f_End < (a1.getD v3.toNat default).f_Start))) || (decide ((a1.getD v3.toNat default).f_End > (a0.length : Int)))))]) (L := [((0, 0), .one [.int .i64 ((a1.getD v3.toNat default).f_Start), .int .i64 ((a1.getD v3.toNat default).f_End), .str ((a1.getD v3.toNat default).f_NewText)])]) (n := 1) ?_ ?_
    · exact simI (M := [((0, 0), (0, 0))]) rfl (And.intro (Vw.same _ rfl) (And.intro (Vw.same _ rfl) (And.intro (Vw.ptr _ _ _ _ rfl) (And.intro (Vw.same _ rfl) (And.intro (Vw.same _ rfl) (And.intro (Vw.same _ rfl) (And.intro (Vw.same _ rfl) trivial))))))) (And.intro (And.intro rfl (BVw.oneL (And.intro (Vw.same _ rfl) (And.intro (Vw.same _ rfl) (And.intro (Vw.same _ rfl) trivial))))) trivial)
    refine condI (v := (((decide ((a1.getD v3.toNat default).f_Start ≤ v1)) || (decide ((a1.getD v3.toNat default).f_End < (a1.getD v3.toNat default).f_Start))) || (decide ((a1.getD v3.toNat default).f_End > (a0.length : Int))))) rfl trivial (fun h10 => ?_) (fun h10 => ?_)
    · have h := ite_tt h10 h
      refine seqI ?_
      refine regI ?_
      refine retI ?_
      obtain ⟨o, hq, rfl⟩ := Option.map_eq_some_iff.1 h
      replace h := hq; clear hq
      refine And.intro nofun ?_
      cases h
      exact And.intro trivial (And.intro rfl (Vw.same _ rfl))
    · have h := ite_ff h10 h
      refine skipI ?_
      refine seqI ?_
      refine regI ?_
      refine regI ?_
      refine LWp.sim (e := [(0, .str a0), (5, .int .i64 ((a1.getD v3.toNat default).f_End)), (6, .int .i64 (W (v2 + (W ((((a1.getD v3.toNat default).f_NewText).length : Int) - (W ((a1.getD v3.toNat default).f_End - (a1.getD v3.toNat default).f_Start))))))), (19, .isl 3 (a1.map e_TextEdit) false), (20, .int .i64 ((a1.map e_TextEdit).length : Int)), (21, .int .i64 v3)]) (L := []) (n := 0) ?_ ?_
      · exact simI (M := []) rfl (And.intro (Vw.same _ rfl) (And.intro (Vw.same _ rfl) (And.intro (Vw.same _ rfl) (And.intro (Vw.same _ rfl) (And.intro (Vw.same _ rfl) (And.intro (Vw.same _ rfl) trivial)))))) trivial
      refine regI ?_
      cases h
      exact And.intro rfl (simI (M := []) rfl (And.intro (Vw.same _ rfl) (And.intro (Vw.same _ rfl) (And.intro (Vw.same _ rfl) (And.intro (Vw.same _ rfl) (And.intro (Vw.same _ rfl) (And.intro (Vw.same _ rfl) trivial)))))) trivial)
  · have h := ite_ff h8 h
    refine exitI ?_
    obtain ⟨o, hq, rfl⟩ := Option.map_eq_some_iff.1 h
    replace h := hq; clear hq
    refine And.intro nofun ?_
    refine LWp.sim ?_ (f12_j1_ok h)
    exact simI (M := []) rfl (And.intro (Vw.same _ rfl) trivial) trivial

theorem f12_L1_ok {a0 : List UInt8} {a1 : List G_TextEdit} {v1 : Int} {v2 : Int} {v3 : Int} {m : Option Nat} {o : Int} (h : S_textedit_Validate_l1 m a0 a1 v1 v2 v3 = some o) :
    LWp Try.prog f12_lay 0 (.loop f12_c1) (QBlock 0 (QSeq Try.prog f12_lay 0 f12_c0 (f12_Q a0 a1 o))) [(0, .str a0), (5, .int .i64 v1), (6, .int .i64 v2), (19, .isl 3 (a1.map e_TextEdit) false), (20, .int .i64 ((a1.map e_TextEdit).length : Int)), (21, .int .i64 v3)] [] 0 :=
  LWp_loopM (m := m) (s := ((v1, v2, v3) : (Int × Int × Int))) (r := o) (fun (s : (Int × Int × Int)) => S_textedit_Validate_b1 m a0 a1 s.1 s.2.1 s.2.2) (f12_L1_env a0 a1) (f12_L1_hp a0 a1) (f12_L1_Q a0 a1) (fun s o h => f12_L1_bok h) h

noncomputable def S_textedit_Validate (m : Option Nat) (a0 : List UInt8) (a1 : List G_TextEdit) : Option Int :=
  if ((decide ((a0.length : Int) > 2000)) || (decide (((a1.map e_TextEdit).length : Int) > 50))) = true then
    some 2
  else
    S_textedit_Validate_l1 m a0 a1 (-1) (a0.length : Int) 0

theorem f12_start {a0 : List UInt8} {a1 : List G_TextEdit} {m : Option Nat} {o : Int} (h : S_textedit_Validate m a0 a1 = some o) : LWp Try.prog f12_lay 0 f12_c2 (f12_Q a0 a1 o) (initEnv 0 [.str a0, .isl 3 (a1.map e_TextEdit) false]) [] 0 := by
  unfold S_textedit_Validate at h
  refine seqI ?_
  refine regI ?_
  refine seqI ?_
  refine seqI ?_
  refine regI ?_
  refine And.intro (fun hp => hp) ?_
  show yops _ _ _ [(14, .cnd ((decide ((a0.length : Int) > 2000)) == false) (.int .i64 ((a1.map e_TextEdit).length : Int))), (13, .cnd ((decide ((a0.length : Int) > 2000)) == false) (.isl 3 (a1.map e_TextEdit) false)), (12, .bool (decide ((a0.length : Int) > 2000))), (11, .bool (decide ((a0.length : Int) > 2000))), (10, .int .i64 (a0.length : Int)), (9, .str a0), (4, .int .i64 0), (0, .str a0), (1, .isl 3 (a1.map e_TextEdit) false)] _ _
  refine And.intro (fun hp => hp) ?_
  refine And.intro (fun hc => (bqf hc)) ?_
  refine LWp.sim (e := [(0, .str a0), (1, .isl 3 (a1.map e_TextEdit) false), (16, .bool ((decide ((a0.length : Int) > 2000)) || (decide (((a1.map e_TextEdit).length : Int) > 50))))]) (L := []) (n := 0) ?_ ?_
  · exact simI (M := []) rfl (And.intro (Vw.same _ rfl) (And.intro (Vw.same _ rfl) (And.intro (Vw.same _ rfl) trivial))) trivial
  refine condI (v := ((decide ((a0.length : Int) > 2000)) || (decide (((a1.map e_TextEdit).length : Int) > 50)))) rfl trivial (fun h1 => ?_) (fun h1 => ?_)
  · have h := ite_tt h1 h
    refine seqI ?_
    refine regI ?_
    refine retI ?_
    cases h
    exact And.intro trivial (And.intro rfl (Vw.same _ rfl))
  · have h := ite_ff h1 h
    refine skipI ?_
    refine seqI ?_
    refine regI ?_
    refine seqI ?_
    refine seqI ?_
    refine regI ?_
    refine blockI ?_
    refine LWp.sim ?_ (f12_L1_ok h)
    exact simI (M := []) rfl (And.intro (Vw.same _ rfl) (And.intro (Vw.same _ rfl) (And.intro (Vw.same _ rfl) (And.intro (Vw.same _ rfl) (And.intro (Vw.same _ rfl) (And.intro (Vw.same _ rfl) trivial)))))) trivial

theorem f12_ok {a0 : List UInt8} {a1 : List G_TextEdit} {m : Option Nat} {o : Int} (h : S_textedit_Validate m a0 a1 = some o) : PFn Try.prog 12 [.str a0, .isl 3 (a1.map e_TextEdit) false] (.int .i64 o) := PFn.ofFnW (L := f12_L) f12_low f12_fok (Nat.le_of_ble_eq_true rfl) rfl (f12_start h)

def f7_c1 : LCode := (.seq (.region [⟨some 20, .bin .lss (.t 19) (.t 18), none⟩])
 (.seq (.cond (.t 20)
  .skip
  (.exit 0))
 (.seq (.block 1
  (.seq (.region [⟨some 21, .iaddr 3 (.t 17) (.t 19), none⟩,
    ⟨some 22, .load true 3 (.t 21), none⟩,
    ⟨some 10, .alloc [(.int .i64 0), (.int .i64 0), (.str [])], none⟩,
    ⟨none, .store 3 (.t 10) (.t 22), none⟩])
  (.seq (.draw [⟨⟨some 23, .mv (.t 0), none⟩, []⟩,
    ⟨⟨some 24, .mv (.t 8), none⟩, []⟩,
    ⟨⟨some 25, .faddr 0 (.t 10), none⟩, []⟩,
    ⟨⟨some 26, .load false 1 (.t 25), none⟩, []⟩,
    ⟨⟨some 27, .slStr (.t 23) (some (.t 24)) (some (.t 26)), none⟩, []⟩,
    ⟨⟨some 28, .faddr 2 (.t 10), none⟩, []⟩,
    ⟨⟨some 29, .load false 1 (.t 28), none⟩, []⟩,
    ⟨⟨some 30, .bin .add (.t 27) (.t 29), none⟩, []⟩,
    ⟨⟨some 31, .call 19 [(.t 7), (.t 30)], none⟩, []⟩])
  (.region [⟨some 32, .faddr 1 (.t 10), none⟩,
    ⟨some 33, .load false 1 (.t 32), none⟩,
    ⟨some 8, .mv (.t 33), none⟩]))))
 (.region [⟨some 34, .bin .add (.t 19) (.c (.int .i64 1)), none⟩,
   ⟨some 19, .mv (.t 34), none⟩]))))
def f7_c0 : LCode := (.seq (.region [⟨some 35, .mv (.t 0), none⟩,
   ⟨some 36, .mv (.t 8), none⟩,
   ⟨some 37, .slStr (.t 35) (some (.t 36)) none, none⟩,
   ⟨some 38, .call 19 [(.t 7), (.t 37)], none⟩])
 (.seq (.region [⟨some 39, .call 20 [(.t 7)], none⟩,
   ⟨some 4, .mv (.t 39), none⟩,
   ⟨some 5, .mv (.c (.int .i64 0)), none⟩])
 .ret))
def f7_c2 : LCode := (.seq (.region [⟨some 4, .mv (.c (.str [])), none⟩,
   ⟨some 5, .mv (.c (.int .i64 0)), none⟩])
 (.seq (.seq (.region [⟨some 11, .mv (.t 0), none⟩,
   ⟨some 12, .mv (.t 1), none⟩,
   ⟨some 13, .call 12 [(.t 11), (.t 12)], none⟩,
   ⟨some 6, .mv (.t 13), none⟩])
 (.seq (.region [⟨some 14, .mv (.t 6), none⟩,
   ⟨some 15, .bin .neq (.t 14) (.c (.int .i64 0)), none⟩])
 (.cond (.t 15)
  (.seq (.region [⟨some 16, .mv (.t 6), none⟩,
    ⟨some 4, .mv (.c (.str [])), none⟩,
    ⟨some 5, .mv (.t 16), none⟩])
  .ret)
  .skip)))
 (.seq (.region [⟨some 7, .allocB 48 5, none⟩])
 (.seq (.region [⟨some 8, .mv (.c (.int .i64 0)), none⟩])
 (.seq (.seq (.region [⟨some 17, .mv (.t 1), none⟩,
   ⟨some 18, .len false (.t 17), none⟩,
   ⟨some 19, .mv (.c (.int .i64 0)), none⟩])
 (.block 0
  (.loop
   f7_c1)))
 f7_c0)))))
def f7_lay : Lay := ⟨40, [7], false⟩
def f7_res : List LRes := [.t 4, .t 5]
def f7_L : LFn := ⟨2, f7_lay, f7_c2, f7_res⟩
theorem f7_low : lowFn Try.prog [7] 7 = some f7_L := by kernel_rfl
theorem f7_fok : FnOk Try.prog 7 := ⟨_, Try.func7, rfl, rfl⟩
def f7_Q (a0 : List UInt8) (a1 : List G_TextEdit) (o : (List UInt8) × Int) : Exit → Env → AHeap → Nat → Prop := FinK f7_res (PureEnd (.tup [.str o.1, .int .i64 o.2]))

def f7_L1_env (a0 : List UInt8) (a1 : List G_TextEdit) (s : (Int × Int × (List UInt8))) : Env := [(0, .str a0), (7, .ptr (0, 0) 0 0), (8, .int .i64 s.1), (17, .isl 3 (a1.map e_TextEdit) false), (18, .int .i64 ((a1.map e_TextEdit).length : Int)), (19, .int .i64 s.2.1)]
def f7_L1_hp (a0 : List UInt8) (a1 : List G_TextEdit) (s : (Int × Int × (List UInt8))) : AHeap := [((0, 0), .bld 48 (1, 0)), ((1, 0), .buf 5 s.2.2)]
def f7_L1_Q (a0 : List UInt8) (a1 : List G_TextEdit) (o : ((List UInt8) × Int)) : Exit → Env → AHeap → Nat → Prop := (QBlock 0 (QSeq Try.prog f7_lay 0 f7_c0 (f7_Q a0 a1 o)))

noncomputable def S_textedit_Apply_j1 (m : Option Nat) (a0 : List UInt8) (v2 : Int) (v4 : List UInt8) : Option ((List UInt8) × Int) :=
  if (0 : Int) ≤ v2 ∧ v2 ≤ (a0.length : Int) then
  if v4.length + ((a0.take a0.length).drop v2.toNat).length ≤ 140737488355328 then
  if (v4 ++ ((a0.take a0.length).drop v2.toNat)).length ≤ 9223372036854775807 then
  some ((v4 ++ ((a0.take a0.length).drop v2.toNat)), 0)
  else none
  else none
  else none

noncomputable def S_textedit_Apply_b1 (m : Option Nat) (a0 : List UInt8) (a1 : List G_TextEdit) (v2 : Int) (v3 : Int) (v4 : List UInt8) : Option ((Int × Int × (List UInt8)) ⊕ ((List UInt8) × Int)) :=
  if (decide (v3 < ((a1.map e_TextEdit).length : Int))) = true then
    if (0 : Int) ≤ v3 ∧ v3 < ((a1.map e_TextEdit).length : Int) then
    if (0 : Int) ≤ v2 ∧ v2 ≤ (a1.getD v3.toNat default).f_Start ∧ (a1.getD v3.toNat default).f_Start ≤ (a0.length : Int) then
    if (((((a0.take ((a1.getD v3.toNat default).f_Start).toNat).drop v2.toNat).length + ((a1.getD v3.toNat default).f_NewText).length : Nat) : Int) ≤ 9223372036854775807) then
    if v4.length + (((a0.take ((a1.getD v3.toNat default).f_Start).toNat).drop v2.toNat) ++ (a1.getD v3.toNat default).f_NewText).length ≤ 140737488355328 then
    some (.inl ((a1.getD v3.toNat default).f_End, (W (v3 + 1)), (v4 ++ (((a0.take ((a1.getD v3.toNat default).f_Start).toNat).drop v2.toNat) ++ (a1.getD v3.toNat default).f_NewText))))
    else none
    else none
    else none
    else none
  else
    Option.map Sum.inr (
      S_textedit_Apply_j1 m a0 v2 v4)

noncomputable def S_textedit_Apply_l1 (m : Option Nat) (a0 : List UInt8) (a1 : List G_TextEdit) (v2 : Int) (v3 : Int) (v4 : List UInt8) : Option ((List UInt8) × Int) := loopM m (fun (s : (Int × Int × (List UInt8))) => S_textedit_Apply_b1 m a0 a1 s.1 s.2.1 s.2.2) (v2, v3, v4)

theorem f7_j1_ok {a1 : List G_TextEdit} {a0 : List UInt8} {v2 : Int} {v4 : List UInt8} {m : Option Nat} {o : ((List UInt8) × Int)} (h : S_textedit_Apply_j1 m a0 v2 v4 = some o) :
    LWp Try.prog f7_lay 0 f7_c0 (f7_Q a0 a1 o) [(0, .str a0), (7, .ptr (0, 0) 0 0), (8, .int .i64 v2)] [((0, 0), .bld 48 (1, 0)), ((1, 0), .buf 5 v4)] 2 := by
  unfold S_textedit_Apply_j1 at h
  refine seqI ?_
  refine regI ?_
  obtain ⟨h18, h⟩ := ite_some h
  refine And.intro (And.intro (And.left h18) (And.intro (And.right h18) (Int.le_refl _))) ?_
  obtain ⟨h19, h⟩ := ite_some h
  refine bld_write (b := (0, 0)) (g := (1, 0)) (bs := v4) bWriteString rfl rfl h19 ?_
  refine seqI ?_
  refine regI ?_
  obtain ⟨h20, h⟩ := ite_some h
  refine bld_string (b := (0, 0)) (g := (2, 0)) (bs := (v4 ++ ((a0.take a0.length).drop v2.toNat))) bString rfl rfl h20 ?_
  show yops _ _ _ [(39, .str (v4 ++ ((a0.take a0.length).drop v2.toNat))), (38, .tup [.int .i64 (((a0.take a0.length).drop v2.toNat).length : Int), .val .nilIface]), (37, .str ((a0.take a0.length).drop v2.toNat)), (36, .int .i64 v2), (35, .str a0), (0, .str a0), (7, .ptr (0, 0) 0 0), (8, .int .i64 v2)] _ _
  refine retI ?_
  cases h
  exact And.intro trivial (And.intro trivial (And.intro rfl (Vw.same _ rfl)))

theorem f7_L1_bok {a0 : List UInt8} {a1 : List G_TextEdit} {v2 : Int} {v3 : Int} {v4 : List UInt8} {m : Option Nat} {o : (Int × Int × (List UInt8)) ⊕ ((List UInt8) × Int)} (h : S_textedit_Apply_b1 m a0 a1 v2 v3 v4 = some o) :
    LWp Try.prog f7_lay 0 f7_c1 (BodyQ 0 2 (f7_L1_env a0 a1) (f7_L1_hp a0 a1) (f7_L1_Q a0 a1) o) [(0, .str a0), (7, .ptr (0, 0) 0 0), (8, .int .i64 v2), (17, .isl 3 (a1.map e_TextEdit) false), (18, .int .i64 ((a1.map e_TextEdit).length : Int)), (19, .int .i64 v3)] [((0, 0), .bld 48 (1, 0)), ((1, 0), .buf 5 v4)] 2 := by
  unfold S_textedit_Apply_b1 at h
  refine seqI ?_
  refine regI ?_
  refine seqI ?_
  refine condI (v := (decide (v3 < ((a1.map e_TextEdit).length : Int)))) rfl trivial (fun h13 => ?_) (fun h13 => ?_)
  · have h := ite_tt h13 h
    refine skipI ?_
    refine seqI ?_
    refine blockI ?_
    refine seqI ?_
    refine regI ?_
    obtain ⟨h14, h⟩ := ite_some h
    refine And.intro h14 ?_
    refine Exists.intro (e_TextEdit (a1.getD v3.toNat default)) (And.intro (getD_enc e_TextEdit _ _ (idx_ltL e_TextEdit h14)) (And.intro (And.intro (idx_lt h14) (Nat.le_of_ble_eq_true rfl)) ?_))
    refine seqI ?_
    refine drawO rfl ?_
    obtain ⟨h15, h⟩ := ite_some h
    refine And.intro h15 ?_
    show yops _ _ _ [(27, .str ((a0.take ((a1.getD v3.toNat default).f_Start).toNat).drop v2.toNat)), (26, .int .i64 ((a1.getD v3.toNat default).f_Start)), (25, .ptr (2, 0) 0 0), (24, .int .i64 v2), (23, .str a0), (10, .ptr (2, 0) 0 0), (22, .agg [.int .i64 ((a1.getD v3.toNat default).f_Start), .int .i64 ((a1.getD v3.toNat default).f_End), .str ((a1.getD v3.toNat default).f_NewText)]), (21, .iptr 3 (a1.map e_TextEdit) v3.toNat 0), (20, .bool (decide (v3 < ((a1.map e_TextEdit).length : Int)))), (0, .str a0), (7, .ptr (0, 0) 0 0), (8, .int .i64 v2), (17, .isl 3 (a1.map e_TextEdit) false), (18, .int .i64 ((a1.map e_TextEdit).length : Int)), (19, .int .i64 v3)] _ _
    obtain ⟨h16, h⟩ := ite_some h
    refine And.intro h16 ?_
    obtain ⟨h17, h⟩ := ite_some h
    refine bld_write (b := (0, 0)) (g := (1, 0)) (bs := v4) bWriteString rfl rfl h17 ?_
    refine LWp.sim (e := [(0, .str a0), (7, .ptr (0, 0) 0 0), (10, .ptr (1, 0) 0 0), (17, .isl 3 (a1.map e_TextEdit) false), (18, .int .i64 ((a1.map e_TextEdit).length : Int)), (19, .int .i64 v3)]) (L := [((0, 0), .bld 48 (2, 0)), ((1, 0), .one [.int .i64 ((a1.getD v3.toNat default).f_Start), .int .i64 ((a1.getD v3.toNat default).f_End), .str ((a1.getD v3.toNat default).f_NewText)]), ((2, 0), .buf 5 (v4 ++ (((a0.take ((a1.getD v3.toNat default).f_Start).toNat).drop v2.toNat) ++ (a1.getD v3.toNat default).f_NewText)))]) (n := 3) ?_ ?_
    · exact simI (M := [((0, 0), (0, 0)), ((1, 0), (2, 0)), ((2, 0), (3, 0))]) rfl (And.intro (Vw.same _ rfl) (And.intro (Vw.ptr _ _ _ _ rfl) (And.intro (Vw.ptr _ _ _ _ rfl) (And.intro (Vw.same _ rfl) (And.intro (Vw.same _ rfl) (And.intro (Vw.same _ rfl) trivial)))))) (And.intro (And.intro rfl (BVw.bld _ _ _ rfl)) (And.intro (And.intro rfl (BVw.oneL (And.intro (Vw.same _ rfl) (And.intro (Vw.same _ rfl) (And.intro (Vw.same _ rfl) trivial))))) (And.intro (And.intro rfl (BVw.buf _ (v4 ++ (((a0.take ((a1.getD v3.toNat default).f_Start).toNat).drop v2.toNat) ++ (a1.getD v3.toNat default).f_NewText)))) trivial)))
    refine regI ?_
    refine regI ?_
    cases h
    exact And.intro rfl (simI (M := [((0, 0), (0, 0)), ((1, 0), (2, 0))]) rfl (And.intro (Vw.same _ rfl) (And.intro (Vw.ptr _ _ _ _ rfl) (And.intro (Vw.same _ rfl) (And.intro (Vw.same _ rfl) (And.intro (Vw.same _ rfl) (And.intro (Vw.same _ rfl) trivial)))))) (And.intro (And.intro rfl (BVw.bld _ _ _ rfl)) (And.intro (And.intro rfl (BVw.buf _ (v4 ++ (((a0.take ((a1.getD v3.toNat default).f_Start).toNat).drop v2.toNat) ++ (a1.getD v3.toNat default).f_NewText)))) trivial)))
  · have h := ite_ff h13 h
    refine exitI ?_
    obtain ⟨o, hq, rfl⟩ := Option.map_eq_some_iff.1 h
    replace h := hq; clear hq
    refine And.intro nofun ?_
    refine LWp.sim ?_ (f7_j1_ok h)
    exact simI (M := [((0, 0), (0, 0)), ((1, 0), (1, 0))]) rfl (And.intro (Vw.same _ rfl) (And.intro (Vw.ptr _ _ _ _ rfl) (And.intro (Vw.same _ rfl) trivial))) (And.intro (And.intro rfl (BVw.bld _ _ _ rfl)) (And.intro (And.intro rfl (BVw.buf _ v4)) trivial))

theorem f7_L1_ok {a0 : List UInt8} {a1 : List G_TextEdit} {v2 : Int} {v3 : Int} {v4 : List UInt8} {m : Option Nat} {o : ((List UInt8) × Int)} (h : S_textedit_Apply_l1 m a0 a1 v2 v3 v4 = some o) :
    LWp Try.prog f7_lay 0 (.loop f7_c1) (QBlock 0 (QSeq Try.prog f7_lay 0 f7_c0 (f7_Q a0 a1 o))) [(0, .str a0), (7, .ptr (0, 0) 0 0), (8, .int .i64 v2), (17, .isl 3 (a1.map e_TextEdit) false), (18, .int .i64 ((a1.map e_TextEdit).length : Int)), (19, .int .i64 v3)] [((0, 0), .bld 48 (1, 0)), ((1, 0), .buf 5 v4)] 2 :=
  LWp_loopM (m := m) (s := ((v2, v3, v4) : (Int × Int × (List UInt8)))) (r := o) (fun (s : (Int × Int × (List UInt8))) => S_textedit_Apply_b1 m a0 a1 s.1 s.2.1 s.2.2) (f7_L1_env a0 a1) (f7_L1_hp a0 a1) (f7_L1_Q a0 a1) (fun s o h => f7_L1_bok h) h

noncomputable def S_textedit_Apply (m : Option Nat) (a0 : List UInt8) (a1 : List G_TextEdit) : Option ((List UInt8) × Int) :=
  (S_textedit_Validate m a0 a1).bind fun v1 =>
  if (v1 != 0) = true then
    some (([] : List UInt8), v1)
  else
    S_textedit_Apply_l1 m a0 a1 0 0 ([] : List UInt8)

theorem f7_start {a0 : List UInt8} {a1 : List G_TextEdit} {m : Option Nat} {o : (List UInt8) × Int} (h : S_textedit_Apply m a0 a1 = some o) : LWp Try.prog f7_lay 0 f7_c2 (f7_Q a0 a1 o) (initEnv 0 [.str a0, .isl 3 (a1.map e_TextEdit) false]) [] 0 := by
  unfold S_textedit_Apply at h
  refine seqI ?_
  refine regI ?_
  refine seqI ?_
  refine seqI ?_
  refine regI ?_
  obtain ⟨v1, h1, h⟩ := bind_some h
  refine PFn.call (f12_ok h1) (And.intro (Vw.same _ rfl) (And.intro (Vw.same _ rfl) trivial)) ?_
  show yops _ _ _ [(13, .int .i64 v1), (12, .isl 3 (a1.map e_TextEdit) false), (11, .str a0), (5, .int .i64 0), (4, .str ([] : List UInt8)), (0, .str a0), (1, .isl 3 (a1.map e_TextEdit) false)] _ _
  refine seqI ?_
  refine regI ?_
  refine LWp.sim (e := [(0, .str a0), (1, .isl 3 (a1.map e_TextEdit) false), (6, .int .i64 v1), (15, .bool (v1 != 0))]) (L := []) (n := 0) ?_ ?_
  · exact simI (M := []) rfl (And.intro (Vw.same _ rfl) (And.intro (Vw.same _ rfl) (And.intro (Vw.same _ rfl) (And.intro (Vw.same _ rfl) trivial)))) trivial
  refine condI (v := (v1 != 0)) rfl trivial (fun h2 => ?_) (fun h2 => ?_)
  · have h := ite_tt h2 h
    refine seqI ?_
    refine regI ?_
    refine retI ?_
    cases h
    exact And.intro trivial (And.intro trivial (And.intro rfl (Vw.same _ rfl)))
  · have h := ite_ff h2 h
    refine skipI ?_
    refine seqI ?_
    refine regI ?_
    refine seqI ?_
    refine regI ?_
    refine seqI ?_
    refine seqI ?_
    refine regI ?_
    refine blockI ?_
    refine LWp.sim ?_ (f7_L1_ok h)
    exact simI (M := [((0, 0), (0, 0)), ((1, 0), (0, 1))]) rfl (And.intro (Vw.same _ rfl) (And.intro (Vw.ptr _ _ _ _ rfl) (And.intro (Vw.same _ rfl) (And.intro (Vw.same _ rfl) (And.intro (Vw.same _ rfl) (And.intro (Vw.same _ rfl) trivial)))))) (And.intro (And.intro rfl (BVw.bld _ _ _ rfl)) (And.intro (And.intro rfl (BVw.buf _ ([] : List UInt8))) trivial))

theorem f7_ok {a0 : List UInt8} {a1 : List G_TextEdit} {m : Option Nat} {o : (List UInt8) × Int} (h : S_textedit_Apply m a0 a1 = some o) : PFn Try.prog 7 [.str a0, .isl 3 (a1.map e_TextEdit) false] (.tup [.str o.1, .int .i64 o.2]) := PFn.ofFnW (L := f7_L) f7_low f7_fok (Nat.le_of_ble_eq_true rfl) rfl (f7_start h)

def f8_c1 : LCode := (.seq (.region [⟨some 21, .bin .lss (.t 20) (.t 19), none⟩])
 (.seq (.cond (.t 21)
  .skip
  (.exit 0))
 (.seq (.block 1
  (.seq (.region [⟨some 22, .iaddr 3 (.t 18) (.t 20), none⟩,
    ⟨some 23, .load true 3 (.t 22), none⟩,
    ⟨some 10, .alloc [(.int .i64 0), (.int .i64 0), (.str [])], none⟩,
    ⟨none, .store 3 (.t 10) (.t 23), none⟩])
  (.seq (.region [⟨some 24, .faddr 0 (.t 10), none⟩,
    ⟨some 25, .load false 1 (.t 24), none⟩,
    ⟨some 26, .mv (.t 8), none⟩,
    ⟨some 27, .bin .add (.t 25) (.t 26), none⟩,
    ⟨some 11, .mv (.t 27), none⟩])
  (.seq (.draw [⟨⟨some 28, .mv (.t 7), none⟩, []⟩,
    ⟨⟨some 29, .mv (.t 11), none⟩, []⟩,
    ⟨⟨some 30, .mv (.t 11), none⟩, []⟩,
    ⟨⟨some 31, .faddr 2 (.t 10), none⟩, []⟩,
    ⟨⟨some 32, .load false 1 (.t 31), none⟩, []⟩,
    ⟨⟨some 33, .len true (.t 32), none⟩, []⟩,
    ⟨⟨some 34, .bin .add (.t 30) (.t 33), none⟩, []⟩,
    ⟨⟨some 35, .mv (.t 0), none⟩, []⟩,
    ⟨⟨some 36, .faddr 0 (.t 10), none⟩, []⟩,
    ⟨⟨some 37, .load false 1 (.t 36), none⟩, []⟩,
    ⟨⟨some 38, .faddr 1 (.t 10), none⟩, []⟩,
    ⟨⟨some 39, .load false 1 (.t 38), none⟩, []⟩,
    ⟨⟨some 40, .slStr (.t 35) (some (.t 37)) (some (.t 39)), none⟩, []⟩,
    ⟨⟨some 41, .build [(.int .i64 0), (.int .i64 0), (.str [])] [(0, 1, (.t 29)), (1, 1, (.t 34)), (2, 1, (.t 40))], none⟩, []⟩,
    ⟨⟨some 42, .mkSl true 3 [(.int .i64 0), (.int .i64 0), (.str [])] 1 [(0, (.t 41))], none⟩, []⟩,
    ⟨⟨some 43, .app true 3 32 (.t 28) (.t 42), none⟩, []⟩,
    ⟨⟨some 7, .mv (.t 43), none⟩, []⟩])
  (.region [⟨some 44, .mv (.t 8), none⟩,
    ⟨some 45, .faddr 2 (.t 10), none⟩,
    ⟨some 46, .load false 1 (.t 45), none⟩,
    ⟨some 47, .len true (.t 46), none⟩,
    ⟨some 48, .faddr 1 (.t 10), none⟩,
    ⟨some 49, .load false 1 (.t 48), none⟩,
    ⟨some 50, .faddr 0 (.t 10), none⟩,
    ⟨some 51, .load false 1 (.t 50), none⟩,
    ⟨some 52, .bin .sub (.t 49) (.t 51), none⟩,
    ⟨some 53, .bin .sub (.t 47) (.t 52), none⟩,
    ⟨some 54, .bin .add (.t 44) (.t 53), none⟩,
    ⟨some 8, .mv (.t 54), none⟩])))))
 (.region [⟨some 55, .bin .add (.t 20) (.c (.int .i64 1)), none⟩,
   ⟨some 20, .mv (.t 55), none⟩]))))
def f8_c0 : LCode := (.seq (.region [⟨some 56, .mv (.t 7), none⟩,
   ⟨some 4, .mv (.t 56), none⟩,
   ⟨some 5, .mv (.c (.int .i64 0)), none⟩])
 .ret)
def f8_c2 : LCode := (.seq (.region [⟨some 4, .mv (.c (.val (.slice none 0 0))), none⟩,
   ⟨some 5, .mv (.c (.int .i64 0)), none⟩])
 (.seq (.seq (.region [⟨some 12, .mv (.t 0), none⟩,
   ⟨some 13, .mv (.t 1), none⟩,
   ⟨some 14, .call 12 [(.t 12), (.t 13)], none⟩,
   ⟨some 6, .mv (.t 14), none⟩])
 (.seq (.region [⟨some 15, .mv (.t 6), none⟩,
   ⟨some 16, .bin .neq (.t 15) (.c (.int .i64 0)), none⟩])
 (.cond (.t 16)
  (.seq (.region [⟨some 17, .mv (.t 6), none⟩,
    ⟨some 4, .mv (.c (.val (.slice none 0 0))), none⟩,
    ⟨some 5, .mv (.t 17), none⟩])
  .ret)
  .skip)))
 (.seq (.region [⟨some 7, .mv (.c (.val (.slice none 0 0))), none⟩])
 (.seq (.region [⟨some 8, .mv (.c (.int .i64 0)), none⟩])
 (.seq (.seq (.region [⟨some 18, .mv (.t 1), none⟩,
   ⟨some 19, .len false (.t 18), none⟩,
   ⟨some 20, .mv (.c (.int .i64 0)), none⟩])
 (.block 0
  (.loop
   f8_c1)))
 f8_c0)))))
def f8_lay : Lay := ⟨57, [], false⟩
def f8_res : List LRes := [.t 4, .t 5]
def f8_L : LFn := ⟨2, f8_lay, f8_c2, f8_res⟩
theorem f8_low : lowFn Try.prog [] 8 = some f8_L := by kernel_rfl
theorem f8_fok : FnOk Try.prog 8 := ⟨_, Try.func8, rfl, rfl⟩
def f8_Q (a0 : List UInt8) (a1 : List G_TextEdit) (o : (List G_TextEdit) × Int) : Exit → Env → AHeap → Nat → Prop := FinK f8_res (PureEnd (.tup [.isl 3 (o.1.map e_TextEdit) false, .int .i64 o.2]))

def f8_L1_env (a0 : List UInt8) (a1 : List G_TextEdit) (s : ((List G_TextEdit) × Int × Int)) : Env := [(0, .str a0), (7, .osl (0, 0) 3 (s.1.map e_TextEdit)), (8, .int .i64 s.2.1), (18, .isl 3 (a1.map e_TextEdit) false), (19, .int .i64 ((a1.map e_TextEdit).length : Int)), (20, .int .i64 s.2.2)]
def f8_L1_hp (a0 : List UInt8) (a1 : List G_TextEdit) (s : ((List G_TextEdit) × Int × Int)) : AHeap := [((0, 0), .tok)]
def f8_L1_Q (a0 : List UInt8) (a1 : List G_TextEdit) (o : ((List G_TextEdit) × Int)) : Exit → Env → AHeap → Nat → Prop := (QBlock 0 (QSeq Try.prog f8_lay 0 f8_c0 (f8_Q a0 a1 o)))

noncomputable def S_textedit_Invert_j1 (m : Option Nat) (v2 : List G_TextEdit) : Option ((List G_TextEdit) × Int) :=
  some (v2, 0)

noncomputable def S_textedit_Invert_b1 (m : Option Nat) (a0 : List UInt8) (a1 : List G_TextEdit) (v2 : List G_TextEdit) (v3 : Int) (v4 : Int) : Option (((List G_TextEdit) × Int × Int) ⊕ ((List G_TextEdit) × Int)) :=
  if (decide (v4 < ((a1.map e_TextEdit).length : Int))) = true then
    if (0 : Int) ≤ v4 ∧ v4 < ((a1.map e_TextEdit).length : Int) then
    if (0 : Int) ≤ (a1.getD v4.toNat default).f_Start ∧ (a1.getD v4.toNat default).f_Start ≤ (a1.getD v4.toNat default).f_End ∧ (a1.getD v4.toNat default).f_End ≤ (a0.length : Int) then
    if ((v2 ++ ([(G_TextEdit.mk (W ((a1.getD v4.toNat default).f_Start + v3)) (W ((W ((a1.getD v4.toNat default).f_Start + v3)) + (((a1.getD v4.toNat default).f_NewText).length : Int))) ((a0.take ((a1.getD v4.toNat default).f_End).toNat).drop ((a1.getD v4.toNat default).f_Start).toNat))] : List G_TextEdit)).map e_TextEdit).length * 32 ≤ 140737488355328 then
    some (.inl ((v2 ++ ([(G_TextEdit.mk (W ((a1.getD v4.toNat default).f_Start + v3)) (W ((W ((a1.getD v4.toNat default).f_Start + v3)) + (((a1.getD v4.toNat default).f_NewText).length : Int))) ((a0.take ((a1.getD v4.toNat default).f_End).toNat).drop ((a1.getD v4.toNat default).f_Start).toNat))] : List G_TextEdit)), (W (v3 + (W ((((a1.getD v4.toNat default).f_NewText).length : Int) - (W ((a1.getD v4.toNat default).f_End - (a1.getD v4.toNat default).f_Start)))))), (W (v4 + 1))))
    else none
    else none
    else none
  else
    Option.map Sum.inr (
      S_textedit_Invert_j1 m v2)

noncomputable def S_textedit_Invert_l1 (m : Option Nat) (a0 : List UInt8) (a1 : List G_TextEdit) (v2 : List G_TextEdit) (v3 : Int) (v4 : Int) : Option ((List G_TextEdit) × Int) := loopM m (fun (s : ((List G_TextEdit) × Int × Int)) => S_textedit_Invert_b1 m a0 a1 s.1 s.2.1 s.2.2) (v2, v3, v4)

theorem f8_j1_ok {a0 : List UInt8} {a1 : List G_TextEdit} {v2 : List G_TextEdit} {m : Option Nat} {o : ((List G_TextEdit) × Int)} (h : S_textedit_Invert_j1 m v2 = some o) :
    LWp Try.prog f8_lay 0 f8_c0 (f8_Q a0 a1 o) [(7, .osl (0, 0) 3 (v2.map e_TextEdit))] [((0, 0), .tok)] 1 := by
  unfold S_textedit_Invert_j1 at h
  refine seqI ?_
  refine regI ?_
  refine retI ?_
  cases h
  exact And.intro trivial (And.intro trivial (And.intro rfl (Vw.tupL (And.intro (Vw.oslI _ _ _) (And.intro (Vw.same _ rfl) trivial)))))

theorem f8_L1_bok {a0 : List UInt8} {a1 : List G_TextEdit} {v2 : List G_TextEdit} {v3 : Int} {v4 : Int} {m : Option Nat} {o : ((List G_TextEdit) × Int × Int) ⊕ ((List G_TextEdit) × Int)} (h : S_textedit_Invert_b1 m a0 a1 v2 v3 v4 = some o) :
    LWp Try.prog f8_lay 0 f8_c1 (BodyQ 0 1 (f8_L1_env a0 a1) (f8_L1_hp a0 a1) (f8_L1_Q a0 a1) o) [(0, .str a0), (7, .osl (0, 0) 3 (v2.map e_TextEdit)), (8, .int .i64 v3), (18, .isl 3 (a1.map e_TextEdit) false), (19, .int .i64 ((a1.map e_TextEdit).length : Int)), (20, .int .i64 v4)] [((0, 0), .tok)] 1 := by
  unfold S_textedit_Invert_b1 at h
  refine seqI ?_
  refine regI ?_
  refine seqI ?_
  refine condI (v := (decide (v4 < ((a1.map e_TextEdit).length : Int)))) rfl trivial (fun h11 => ?_) (fun h11 => ?_)
  · have h := ite_tt h11 h
    refine skipI ?_
    refine seqI ?_
    refine blockI ?_
    refine seqI ?_
    refine regI ?_
    obtain ⟨h12, h⟩ := ite_some h
    refine And.intro h12 ?_
    refine Exists.intro (e_TextEdit (a1.getD v4.toNat default)) (And.intro (getD_enc e_TextEdit _ _ (idx_ltL e_TextEdit h12)) (And.intro (And.intro (idx_lt h12) (Nat.le_of_ble_eq_true rfl)) ?_))
    refine seqI ?_
    refine regI ?_
    refine LWp.sim (e := [(0, .str a0), (7, .osl (0, 0) 3 (v2.map e_TextEdit)), (8, .int .i64 v3), (10, .ptr (1, 0) 0 0), (11, .int .i64 (W ((a1.getD v4.toNat default).f_Start + v3))), (18, .isl 3 (a1.map e_TextEdit) false), (19, .int .i64 ((a1.map e_TextEdit).length : Int)), (20, .int .i64 v4)]) (L := [((0, 0), .tok), ((1, 0), .one [.int .i64 ((a1.getD v4.toNat default).f_Start), .int .i64 ((a1.getD v4.toNat default).f_End), .str ((a1.getD v4.toNat default).f_NewText)])]) (n := 2) ?_ ?_
    · exact simI (M := [((0, 0), (0, 0)), ((1, 0), (1, 0))]) rfl (And.intro (Vw.same _ rfl) (And.intro (Vw.osl _ _ _ _ rfl) (And.intro (Vw.same _ rfl) (And.intro (Vw.ptr _ _ _ _ rfl) (And.intro (Vw.same _ rfl) (And.intro (Vw.same _ rfl) (And.intro (Vw.same _ rfl) (And.intro (Vw.same _ rfl) trivial)))))))) (And.intro (And.intro rfl BVw.tok) (And.intro (And.intro rfl (BVw.oneL (And.intro (Vw.same _ rfl) (And.intro (Vw.same _ rfl) (And.intro (Vw.same _ rfl) trivial))))) trivial))
    refine seqI ?_
    refine drawO rfl ?_
    obtain ⟨h13, h⟩ := ite_some h
    refine And.intro h13 ?_
    show yops _ _ _ [(40, .str ((a0.take ((a1.getD v4.toNat default).f_End).toNat).drop ((a1.getD v4.toNat default).f_Start).toNat)), (39, .int .i64 ((a1.getD v4.toNat default).f_End)), (38, .ptr (1, 0) 0 1), (37, .int .i64 ((a1.getD v4.toNat default).f_Start)), (36, .ptr (1, 0) 0 0), (35, .str a0), (34, .int .i64 (W ((W ((a1.getD v4.toNat default).f_Start + v3)) + (((a1.getD v4.toNat default).f_NewText).length : Int)))), (33, .int .i64 (((a1.getD v4.toNat default).f_NewText).length : Int)), (32, .str ((a1.getD v4.toNat default).f_NewText)), (31, .ptr (1, 0) 0 2), (30, .int .i64 (W ((a1.getD v4.toNat default).f_Start + v3))), (29, .int .i64 (W ((a1.getD v4.toNat default).f_Start + v3))), (28, .osl (0, 0) 3 (v2.map e_TextEdit)), (0, .str a0), (7, .osl (0, 0) 3 (v2.map e_TextEdit)), (8, .int .i64 v3), (10, .ptr (1, 0) 0 0), (11, .int .i64 (W ((a1.getD v4.toNat default).f_Start + v3))), (18, .isl 3 (a1.map e_TextEdit) false), (19, .int .i64 ((a1.map e_TextEdit).length : Int)), (20, .int .i64 v4)] _ _
    obtain ⟨h14, h⟩ := ite_some h
    refine Exists.intro ((v2 ++ ([(G_TextEdit.mk (W ((a1.getD v4.toNat default).f_Start + v3)) (W ((W ((a1.getD v4.toNat default).f_Start + v3)) + (((a1.getD v4.toNat default).f_NewText).length : Int))) ((a0.take ((a1.getD v4.toNat default).f_End).toNat).drop ((a1.getD v4.toNat default).f_Start).toNat))] : List G_TextEdit)).map e_TextEdit) (And.intro (app_enc e_TextEdit v2 ([(G_TextEdit.mk (W ((a1.getD v4.toNat default).f_Start + v3)) (W ((W ((a1.getD v4.toNat default).f_Start + v3)) + (((a1.getD v4.toNat default).f_NewText).length : Int))) ((a0.take ((a1.getD v4.toNat default).f_End).toNat).drop ((a1.getD v4.toNat default).f_Start).toNat))] : List G_TextEdit)) (And.intro h14 ?_))
    refine LWp.sim (e := [(0, .str a0), (7, .osl (0, 0) 3 ((v2 ++ ([(G_TextEdit.mk (W ((a1.getD v4.toNat default).f_Start + v3)) (W ((W ((a1.getD v4.toNat default).f_Start + v3)) + (((a1.getD v4.toNat default).f_NewText).length : Int))) ((a0.take ((a1.getD v4.toNat default).f_End).toNat).drop ((a1.getD v4.toNat default).f_Start).toNat))] : List G_TextEdit)).map e_TextEdit)), (8, .int .i64 v3), (10, .ptr (1, 0) 0 0), (18, .isl 3 (a1.map e_TextEdit) false), (19, .int .i64 ((a1.map e_TextEdit).length : Int)), (20, .int .i64 v4)]) (L := [((0, 0), .tok), ((1, 0), .one [.int .i64 ((a1.getD v4.toNat default).f_Start), .int .i64 ((a1.getD v4.toNat default).f_End), .str ((a1.getD v4.toNat default).f_NewText)])]) (n := 2) ?_ ?_
    · exact simI (M := [((0, 0), (2, 0)), ((1, 0), (1, 0))]) rfl (And.intro (Vw.same _ rfl) (And.intro (Vw.osl _ _ _ _ rfl) (And.intro (Vw.same _ rfl) (And.intro (Vw.ptr _ _ _ _ rfl) (And.intro (Vw.same _ rfl) (And.intro (Vw.same _ rfl) (And.intro (Vw.same _ rfl) trivial))))))) (And.intro (And.intro rfl BVw.tok) (And.intro (And.intro rfl (BVw.oneL (And.intro (Vw.same _ rfl) (And.intro (Vw.same _ rfl) (And.intro (Vw.same _ rfl) trivial))))) trivial))
    refine regI ?_
    refine LWp.sim (e := [(0, .str a0), (7, .osl (0, 0) 3 ((v2 ++ ([(G_TextEdit.mk (W ((a1.getD v4.toNat default).f_Start + v3)) (W ((W ((a1.getD v4.toNat default).f_Start + v3)) + (((a1.getD v4.toNat default).f_NewText).length : Int))) ((a0.take ((a1.getD v4.toNat default).f_End).toNat).drop ((a1.getD v4.toNat default).f_Start).toNat))] : List G_TextEdit)).map e_TextEdit)), (8, .int .i64 (W (v3 + (W ((((a1.getD v4.toNat default).f_NewText).length : Int) - (W ((a1.getD v4.toNat default).f_End - (a1.getD v4.toNat default).f_Start))))))), (18, .isl 3 (a1.map e_TextEdit) false), (19, .int .i64 ((a1.map e_TextEdit).length : Int)), (20, .int .i64 v4)]) (L := [((0, 0), .tok)]) (n := 1) ?_ ?_
    · exact simI (M := [((0, 0), (0, 0))]) rfl (And.intro (Vw.same _ rfl) (And.intro (Vw.osl _ _ _ _ rfl) (And.intro (Vw.same _ rfl) (And.intro (Vw.same _ rfl) (And.intro (Vw.same _ rfl) (And.intro (Vw.same _ rfl) trivial)))))) (And.intro (And.intro rfl BVw.tok) trivial)
    refine regI ?_
    cases h
    exact And.intro rfl (simI (M := [((0, 0), (0, 0))]) rfl (And.intro (Vw.same _ rfl) (And.intro (Vw.osl _ _ _ _ rfl) (And.intro (Vw.same _ rfl) (And.intro (Vw.same _ rfl) (And.intro (Vw.same _ rfl) (And.intro (Vw.same _ rfl) trivial)))))) (And.intro (And.intro rfl BVw.tok) trivial))
  · have h := ite_ff h11 h
    refine exitI ?_
    obtain ⟨o, hq, rfl⟩ := Option.map_eq_some_iff.1 h
    replace h := hq; clear hq
    refine And.intro nofun ?_
    refine LWp.sim ?_ (f8_j1_ok h)
    exact simI (M := [((0, 0), (0, 0))]) rfl (And.intro (Vw.osl _ _ _ _ rfl) trivial) (And.intro (And.intro rfl BVw.tok) trivial)

theorem f8_L1_ok {a0 : List UInt8} {a1 : List G_TextEdit} {v2 : List G_TextEdit} {v3 : Int} {v4 : Int} {m : Option Nat} {o : ((List G_TextEdit) × Int)} (h : S_textedit_Invert_l1 m a0 a1 v2 v3 v4 = some o) :
    LWp Try.prog f8_lay 0 (.loop f8_c1) (QBlock 0 (QSeq Try.prog f8_lay 0 f8_c0 (f8_Q a0 a1 o))) [(0, .str a0), (7, .osl (0, 0) 3 (v2.map e_TextEdit)), (8, .int .i64 v3), (18, .isl 3 (a1.map e_TextEdit) false), (19, .int .i64 ((a1.map e_TextEdit).length : Int)), (20, .int .i64 v4)] [((0, 0), .tok)] 1 :=
  LWp_loopM (m := m) (s := ((v2, v3, v4) : ((List G_TextEdit) × Int × Int))) (r := o) (fun (s : ((List G_TextEdit) × Int × Int)) => S_textedit_Invert_b1 m a0 a1 s.1 s.2.1 s.2.2) (f8_L1_env a0 a1) (f8_L1_hp a0 a1) (f8_L1_Q a0 a1) (fun s o h => f8_L1_bok h) h

noncomputable def S_textedit_Invert (m : Option Nat) (a0 : List UInt8) (a1 : List G_TextEdit) : Option ((List G_TextEdit) × Int) :=
  (S_textedit_Validate m a0 a1).bind fun v1 =>
  if (v1 != 0) = true then
    some ([], v1)
  else
    S_textedit_Invert_l1 m a0 a1 [] 0 0

theorem f8_start {a0 : List UInt8} {a1 : List G_TextEdit} {m : Option Nat} {o : (List G_TextEdit) × Int} (h : S_textedit_Invert m a0 a1 = some o) : LWp Try.prog f8_lay 0 f8_c2 (f8_Q a0 a1 o) (initEnv 0 [.str a0, .isl 3 (a1.map e_TextEdit) false]) [] 0 := by
  unfold S_textedit_Invert at h
  refine seqI ?_
  refine regI ?_
  refine seqI ?_
  refine seqI ?_
  refine regI ?_
  obtain ⟨v1, h1, h⟩ := bind_some h
  refine PFn.call (f12_ok h1) (And.intro (Vw.same _ rfl) (And.intro (Vw.same _ rfl) trivial)) ?_
  show yops _ _ _ [(14, .int .i64 v1), (13, .isl 3 (a1.map e_TextEdit) false), (12, .str a0), (5, .int .i64 0), (4, .val (.slice none 0 0)), (0, .str a0), (1, .isl 3 (a1.map e_TextEdit) false)] _ _
  refine seqI ?_
  refine regI ?_
  refine LWp.sim (e := [(0, .str a0), (1, .isl 3 (a1.map e_TextEdit) false), (6, .int .i64 v1), (16, .bool (v1 != 0))]) (L := []) (n := 0) ?_ ?_
  · exact simI (M := []) rfl (And.intro (Vw.same _ rfl) (And.intro (Vw.same _ rfl) (And.intro (Vw.same _ rfl) (And.intro (Vw.same _ rfl) trivial)))) trivial
  refine condI (v := (v1 != 0)) rfl trivial (fun h2 => ?_) (fun h2 => ?_)
  · have h := ite_tt h2 h
    refine seqI ?_
    refine regI ?_
    refine retI ?_
    cases h
    exact And.intro trivial (And.intro trivial (And.intro rfl (Vw.tupL (And.intro (Vw.nilI _ _) (And.intro (Vw.same _ rfl) trivial)))))
  · have h := ite_ff h2 h
    refine skipI ?_
    refine seqI ?_
    refine regI ?_
    refine seqI ?_
    refine regI ?_
    refine seqI ?_
    refine seqI ?_
    refine regI ?_
    refine blockI ?_
    refine LWp.sim ?_ (f8_L1_ok h)
    exact simI (M := []) rfl (And.intro (Vw.same _ rfl) (And.intro (Vw.nilO _ _ (by decide)) (And.intro (Vw.same _ rfl) (And.intro (Vw.same _ rfl) (And.intro (Vw.same _ rfl) (And.intro (Vw.same _ rfl) trivial)))))) (And.intro (And.intro rfl (And.intro (by decide) (by decide))) trivial)

theorem f8_ok {a0 : List UInt8} {a1 : List G_TextEdit} {m : Option Nat} {o : (List G_TextEdit) × Int} (h : S_textedit_Invert m a0 a1 = some o) : PFn Try.prog 8 [.str a0, .isl 3 (a1.map e_TextEdit) false] (.tup [.isl 3 (o.1.map e_TextEdit) false, .int .i64 o.2]) := PFn.ofFnW (L := f8_L) f8_low f8_fok (Nat.le_of_ble_eq_true rfl) rfl (f8_start h)

def f23_c1 : LCode := (.seq (.region [⟨some 11, .bin .lss (.t 10) (.t 9), none⟩])
 (.seq (.cond (.t 11)
  .skip
  (.exit 0))
 (.seq (.block 1
  (.seq (.region [⟨some 12, .mv (.t 10), none⟩,
    ⟨some 4, .mv (.t 12), none⟩])
  (.region [⟨some 13, .mv (.t 3), none⟩,
    ⟨some 14, .mv (.t 4), none⟩,
    ⟨some 15, .mv (.t 0), none⟩,
    ⟨some 16, .mv (.t 4), none⟩,
    ⟨some 17, .idxS (.t 15) (.t 16), none⟩,
    ⟨some 18, .mv (.t 4), none⟩,
    ⟨some 19, .build [(.int .u8 0), (.int .i64 0)] [(0, 1, (.t 17)), (1, 1, (.t 18))], none⟩,
    ⟨some 20, .iaddr 2 (.t 13) (.t 14), none⟩,
    ⟨none, .store 2 (.t 20) (.t 19), none⟩])))
 (.region [⟨some 21, .bin .add (.t 10) (.c (.int .i64 1)), none⟩,
   ⟨some 10, .mv (.t 21), none⟩]))))
def f23_c0 : LCode := (.seq (.region [⟨some 22, .mv (.t 3), none⟩,
   ⟨some 2, .mv (.t 22), none⟩])
 .ret)
def f23_c2 : LCode := (.seq (.region [⟨some 2, .mv (.c (.val (.slice none 0 0))), none⟩])
 (.seq (.region [⟨some 5, .mv (.t 0), none⟩,
   ⟨some 6, .len true (.t 5), none⟩,
   ⟨some 7, .mkslice false 2 16 [(.int .u8 0), (.int .i64 0)] (.t 6) (.t 6), none⟩,
   ⟨some 3, .mv (.t 7), none⟩])
 (.seq (.seq (.region [⟨some 8, .mv (.t 3), none⟩,
   ⟨some 9, .len false (.t 8), none⟩,
   ⟨some 10, .mv (.c (.int .i64 0)), none⟩])
 (.block 0
  (.loop
   f23_c1)))
 f23_c0)))
def f23_lay : Lay := ⟨23, [7], false⟩
def f23_res : List LRes := [.t 2]
def f23_L : LFn := ⟨1, f23_lay, f23_c2, f23_res⟩
theorem f23_low : lowFn Try.prog [7] 23 = some f23_L := by kernel_rfl
theorem f23_fok : FnOk Try.prog 23 := ⟨_, Try.func23, rfl, rfl⟩
def f23_Q (a0 : List UInt8) (o : (List G_tracedByte)) : Exit → Env → AHeap → Nat → Prop := FinK f23_res (PureEnd (.isl 2 (o.map e_tracedByte) false))

def f23_L1_env (a0 : List UInt8) (s : (Int × (List G_tracedByte))) : Env := [(0, .str a0), (3, .msl (0, 0) 2 0 s.2.length true), (9, .int .i64 ((((List.replicate (a0.length : Int).toNat (G_tracedByte.mk 0 0)).map e_tracedByte).length : Nat) : Int)), (10, .int .i64 s.1)]
def f23_L1_hp (a0 : List UInt8) (s : (Int × (List G_tracedByte))) : AHeap := [((0, 0), .rows 2 (s.2.map e_tracedByte))]
def f23_L1_Q (a0 : List UInt8) (o : (List G_tracedByte)) : Exit → Env → AHeap → Nat → Prop := (QBlock 0 (QSeq Try.prog f23_lay 0 f23_c0 (f23_Q a0 o)))

noncomputable def S_textedit_trace_j1 (m : Option Nat) (v2 : List G_tracedByte) : Option (List G_tracedByte) :=
  some v2

noncomputable def S_textedit_trace_b1 (m : Option Nat) (a0 : List UInt8) (v1 : Int) (v2 : List G_tracedByte) : Option ((Int × (List G_tracedByte)) ⊕ (List G_tracedByte)) :=
  if (decide (v1 < ((((List.replicate (a0.length : Int).toNat (G_tracedByte.mk 0 0)).map e_tracedByte).length : Nat) : Int))) = true then
    if (0 : Int) ≤ v1 ∧ v1 < (a0.length : Int) then
    if (0 : Int) ≤ v1 ∧ v1 < ((v2.length : Nat) : Int) then
    if (0 + v1.toNat) < v2.length then
    some (.inl ((W (v1 + 1)), (v2.set (0 + v1.toNat) (G_tracedByte.mk (((a0.getD v1.toNat 0).toNat : Nat) : Int) v1))))
    else none
    else none
    else none
  else
    Option.map Sum.inr (
      S_textedit_trace_j1 m v2)

noncomputable def S_textedit_trace_l1 (m : Option Nat) (a0 : List UInt8) (v1 : Int) (v2 : List G_tracedByte) : Option (List G_tracedByte) := loopM m (fun (s : (Int × (List G_tracedByte))) => S_textedit_trace_b1 m a0 s.1 s.2) (v1, v2)

theorem f23_j1_ok {a0 : List UInt8} {v2 : List G_tracedByte} {m : Option Nat} {o : (List G_tracedByte)} (h : S_textedit_trace_j1 m v2 = some o) :
    LWp Try.prog f23_lay 0 f23_c0 (f23_Q a0 o) [(3, .msl (0, 0) 2 0 v2.length true)] [((0, 0), .rows 2 (v2.map e_tracedByte))] 1 := by
  unfold S_textedit_trace_j1 at h
  refine seqI ?_
  refine regI ?_
  refine retI ?_
  cases h
  exact And.intro trivial (And.intro rfl (Vw.frzB e_tracedByte e_tracedByte_ok (fun h => Bool.noConfusion h) rfl rfl (by first | rfl | simp)))

theorem f23_L1_bok {a0 : List UInt8} {v1 : Int} {v2 : List G_tracedByte} {m : Option Nat} {o : (Int × (List G_tracedByte)) ⊕ (List G_tracedByte)} (h : S_textedit_trace_b1 m a0 v1 v2 = some o) :
    LWp Try.prog f23_lay 0 f23_c1 (BodyQ 0 1 (f23_L1_env a0) (f23_L1_hp a0) (f23_L1_Q a0) o) [(0, .str a0), (3, .msl (0, 0) 2 0 v2.length true), (9, .int .i64 ((((List.replicate (a0.length : Int).toNat (G_tracedByte.mk 0 0)).map e_tracedByte).length : Nat) : Int)), (10, .int .i64 v1)] [((0, 0), .rows 2 (v2.map e_tracedByte))] 1 := by
  unfold S_textedit_trace_b1 at h
  refine seqI ?_
  refine regI ?_
  refine seqI ?_
  refine condI (v := (decide (v1 < ((((List.replicate (a0.length : Int).toNat (G_tracedByte.mk 0 0)).map e_tracedByte).length : Nat) : Int)))) rfl trivial (fun h10 => ?_) (fun h10 => ?_)
  · have h := ite_tt h10 h
    refine skipI ?_
    refine seqI ?_
    refine blockI ?_
    refine seqI ?_
    refine regI ?_
    refine regI ?_
    obtain ⟨h11, h⟩ := ite_some h
    refine And.intro h11 ?_
    show yops _ _ _ [(17, .int .u8 (((a0.getD v1.toNat 0).toNat : Nat) : Int)), (16, .int .i64 v1), (15, .str a0), (14, .int .i64 v1), (13, .msl (0, 0) 2 0 v2.length true), (4, .int .i64 v1), (12, .int .i64 v1), (11, .bool (decide (v1 < ((((List.replicate (a0.length : Int).toNat (G_tracedByte.mk 0 0)).map e_tracedByte).length : Nat) : Int)))), (0, .str a0), (3, .msl (0, 0) 2 0 v2.length true), (9, .int .i64 ((((List.replicate (a0.length : Int).toNat (G_tracedByte.mk 0 0)).map e_tracedByte).length : Nat) : Int)), (10, .int .i64 v1)] _ _
    obtain ⟨h12, h⟩ := ite_some h
    refine And.intro h12 ?_
    obtain ⟨h13, h⟩ := ite_some h
    refine Exists.intro ((v2.set (0 + v1.toNat) (G_tracedByte.mk (((a0.getD v1.toNat 0).toNat : Nat) : Int) v1)).map e_tracedByte) (And.intro (set_enc e_tracedByte _ _ _ _ _ h13 rfl) (And.intro (And.intro rfl (And.intro (lt_map e_tracedByte h13) (Nat.le_of_ble_eq_true rfl))) ?_))
    refine LWp.sim (e := [(0, .str a0), (3, .msl (0, 0) 2 0 v2.length true), (9, .int .i64 ((((List.replicate (a0.length : Int).toNat (G_tracedByte.mk 0 0)).map e_tracedByte).length : Nat) : Int)), (10, .int .i64 v1)]) (L := [((0, 0), .rows 2 ((v2.set (0 + v1.toNat) (G_tracedByte.mk (((a0.getD v1.toNat 0).toNat : Nat) : Int) v1)).map e_tracedByte))]) (n := 1) ?_ ?_
    · exact simI (M := [((0, 0), (0, 0))]) rfl (And.intro (Vw.same _ rfl) (And.intro (Vw.mslE rfl (by first | rfl | simp) rfl) (And.intro (Vw.same _ rfl) (And.intro (Vw.same _ rfl) trivial)))) (And.intro (And.intro rfl (BVw.enc e_tracedByte (fun _ => rfl) _ (v2.set (0 + v1.toNat) (G_tracedByte.mk (((a0.getD v1.toNat 0).toNat : Nat) : Int) v1)))) trivial)
    refine regI ?_
    cases h
    exact And.intro rfl (simI (M := [((0, 0), (0, 0))]) rfl (And.intro (Vw.same _ rfl) (And.intro (Vw.mslE rfl (by first | rfl | simp) rfl) (And.intro (Vw.same _ rfl) (And.intro (Vw.same _ rfl) trivial)))) (And.intro (And.intro rfl (BVw.enc e_tracedByte (fun _ => rfl) _ (v2.set (0 + v1.toNat) (G_tracedByte.mk (((a0.getD v1.toNat 0).toNat : Nat) : Int) v1)))) trivial))
  · have h := ite_ff h10 h
    refine exitI ?_
    obtain ⟨o, hq, rfl⟩ := Option.map_eq_some_iff.1 h
    replace h := hq; clear hq
    refine And.intro nofun ?_
    refine LWp.sim ?_ (f23_j1_ok h)
    exact simI (M := [((0, 0), (0, 0))]) rfl (And.intro (Vw.mslE rfl (by first | rfl | simp) rfl) trivial) (And.intro (And.intro rfl (BVw.enc e_tracedByte (fun _ => rfl) _ v2)) trivial)

theorem f23_L1_ok {a0 : List UInt8} {v1 : Int} {v2 : List G_tracedByte} {m : Option Nat} {o : (List G_tracedByte)} (h : S_textedit_trace_l1 m a0 v1 v2 = some o) :
    LWp Try.prog f23_lay 0 (.loop f23_c1) (QBlock 0 (QSeq Try.prog f23_lay 0 f23_c0 (f23_Q a0 o))) [(0, .str a0), (3, .msl (0, 0) 2 0 v2.length true), (9, .int .i64 ((((List.replicate (a0.length : Int).toNat (G_tracedByte.mk 0 0)).map e_tracedByte).length : Nat) : Int)), (10, .int .i64 v1)] [((0, 0), .rows 2 (v2.map e_tracedByte))] 1 :=
  LWp_loopM (m := m) (s := ((v1, v2) : (Int × (List G_tracedByte)))) (r := o) (fun (s : (Int × (List G_tracedByte))) => S_textedit_trace_b1 m a0 s.1 s.2) (f23_L1_env a0) (f23_L1_hp a0) (f23_L1_Q a0) (fun s o h => f23_L1_bok h) h

noncomputable def S_textedit_trace (m : Option Nat) (a0 : List UInt8) : Option (List G_tracedByte) :=
  if (0 : Int) ≤ (a0.length : Int) ∧ (a0.length : Int) ≤ (a0.length : Int) ∧ (a0.length : Int) * 16 ≤ 140737488355328 then
  S_textedit_trace_l1 m a0 0 (List.replicate (a0.length : Int).toNat (G_tracedByte.mk 0 0))
  else none

theorem f23_start {a0 : List UInt8} {m : Option Nat} {o : (List G_tracedByte)} (h : S_textedit_trace m a0 = some o) : LWp Try.prog f23_lay 0 f23_c2 (f23_Q a0 o) (initEnv 0 [.str a0]) [] 0 := by
  unfold S_textedit_trace at h
  refine seqI ?_
  refine regI ?_
  refine seqI ?_
  refine regI ?_
  obtain ⟨h1, h⟩ := ite_some h
  refine Exists.intro ((List.replicate (a0.length : Int).toNat (G_tracedByte.mk 0 0)).map e_tracedByte) (Exists.intro true (And.intro (repl_enc e_tracedByte (a0.length : Int).toNat (G_tracedByte.mk 0 0)) (And.intro (by simp) (And.intro h1 ?_))))
  refine seqI ?_
  refine seqI ?_
  refine regI ?_
  refine LWp.sim (e := [(0, .str a0), (3, .msl (0, 0) 2 0 (((List.replicate (a0.length : Int).toNat (G_tracedByte.mk 0 0)).map e_tracedByte).length) true), (9, .int .i64 ((((List.replicate (a0.length : Int).toNat (G_tracedByte.mk 0 0)).map e_tracedByte).length : Nat) : Int)), (10, .int .i64 0)]) (L := [((0, 0), .rows 2 ((List.replicate (a0.length : Int).toNat (G_tracedByte.mk 0 0)).map e_tracedByte))]) (n := 1) ?_ ?_
  · exact simI (M := [((0, 0), (0, 0))]) rfl (And.intro (Vw.same _ rfl) (And.intro (Vw.mslE rfl (by first | rfl | simp) rfl) (And.intro (Vw.same _ rfl) (And.intro (Vw.same _ rfl) trivial)))) (And.intro (And.intro rfl (BVw.enc e_tracedByte (fun _ => rfl) _ (List.replicate (a0.length : Int).toNat (G_tracedByte.mk 0 0)))) trivial)
  refine blockI ?_
  refine LWp.sim ?_ (f23_L1_ok h)
  exact simI (M := [((0, 0), (0, 0))]) rfl (And.intro (Vw.same _ rfl) (And.intro (Vw.mslE rfl (by first | rfl | simp) rfl) (And.intro (Vw.same _ rfl) (And.intro (Vw.same _ rfl) trivial)))) (And.intro (And.intro rfl (BVw.enc e_tracedByte (fun _ => rfl) _ (List.replicate (a0.length : Int).toNat (G_tracedByte.mk 0 0)))) trivial)

theorem f23_ok {a0 : List UInt8} {m : Option Nat} {o : (List G_tracedByte)} (h : S_textedit_trace m a0 = some o) : PFn Try.prog 23 [.str a0] (.isl 2 (o.map e_tracedByte) false) := PFn.ofFnW (L := f23_L) f23_low f23_fok (Nat.le_of_ble_eq_true rfl) rfl (f23_start h)

def f22_c2 : LCode := (.seq (.region [⟨some 29, .bin .lss (.t 28) (.t 27), none⟩])
 (.seq (.cond (.t 29)
  .skip
  (.exit 2))
 (.seq (.block 3
  (.seq (.region [⟨some 30, .iaddr 1 (.t 26) (.t 28), none⟩,
    ⟨some 31, .load false 1 (.t 30), none⟩,
    ⟨some 10, .mv (.t 31), none⟩])
  (.region [⟨some 32, .mv (.t 5), none⟩,
    ⟨some 33, .mv (.t 10), none⟩,
    ⟨some 34, .build [(.int .u8 0), (.int .i64 0)] [(0, 1, (.t 33)), (1, 1, (.c (.int .i64 (-1))))], none⟩,
    ⟨some 35, .mkSl true 2 [(.int .u8 0), (.int .i64 0)] 1 [(0, (.t 34))], none⟩,
    ⟨some 36, .app true 2 16 (.t 32) (.t 35), none⟩,
    ⟨some 5, .mv (.t 36), none⟩])))
 (.region [⟨some 37, .bin .add (.t 28) (.c (.int .i64 1)), none⟩,
   ⟨some 28, .mv (.t 37), none⟩]))))
def f22_c0 : LCode := (.region [⟨some 38, .faddr 1 (.t 8), none⟩,
   ⟨some 39, .load false 1 (.t 38), none⟩,
   ⟨some 6, .mv (.t 39), none⟩])
def f22_c1 : LCode := (.region [⟨some 40, .bin .add (.t 13) (.c (.int .i64 1)), none⟩,
   ⟨some 13, .mv (.t 40), none⟩])
def f22_c4 : LCode := (.seq (.region [⟨some 14, .bin .lss (.t 13) (.t 12), none⟩])
 (.seq (.cond (.t 14)
  .skip
  (.exit 0))
 (.seq (.block 1
  (.seq (.region [⟨some 15, .iaddr 3 (.t 11) (.t 13), none⟩,
    ⟨some 16, .load true 3 (.t 15), none⟩,
    ⟨some 8, .alloc [(.int .i64 0), (.int .i64 0), (.str [])], none⟩,
    ⟨none, .store 3 (.t 8) (.t 16), none⟩])
  (.seq (.region [⟨some 17, .mv (.t 5), none⟩,
    ⟨some 18, .mv (.t 0), none⟩,
    ⟨some 19, .mv (.t 6), none⟩,
    ⟨some 20, .faddr 0 (.t 8), none⟩,
    ⟨some 21, .load false 1 (.t 20), none⟩,
    ⟨some 22, .slSl 2 (.t 18) (some (.t 19)) (some (.t 21)) none, none⟩,
    ⟨some 23, .app true 2 16 (.t 17) (.t 22), none⟩,
    ⟨some 5, .mv (.t 23), none⟩])
  (.seq (.seq (.region [⟨some 24, .faddr 2 (.t 8), none⟩,
    ⟨some 25, .load false 1 (.t 24), none⟩,
    ⟨some 26, .conv (.s2b true) (.t 25), none⟩,
    ⟨some 27, .len false (.t 26), none⟩,
    ⟨some 28, .mv (.c (.int .i64 0)), none⟩])
  (.block 2
   (.loop
    f22_c2)))
  f22_c0))))
 f22_c1)))
def f22_c3 : LCode := (.seq (.region [⟨some 41, .mv (.t 5), none⟩,
   ⟨some 42, .mv (.t 0), none⟩,
   ⟨some 43, .mv (.t 6), none⟩,
   ⟨some 44, .slSl 2 (.t 42) (some (.t 43)) none none, none⟩,
   ⟨some 45, .app true 2 16 (.t 41) (.t 44), none⟩,
   ⟨some 4, .mv (.t 45), none⟩])
 .ret)
def f22_c5 : LCode := (.seq (.region [⟨some 4, .mv (.c (.val (.slice none 0 0))), none⟩])
 (.seq (.region [⟨some 5, .mv (.c (.val (.slice none 0 0))), none⟩])
 (.seq (.region [⟨some 6, .mv (.c (.int .i64 0)), none⟩])
 (.seq (.seq (.region [⟨some 11, .mv (.t 1), none⟩,
   ⟨some 12, .len false (.t 11), none⟩,
   ⟨some 13, .mv (.c (.int .i64 0)), none⟩])
 (.block 0
  (.loop
   f22_c4)))
 f22_c3))))
def f22_lay : Lay := ⟨46, [], false⟩
def f22_res : List LRes := [.t 4]
def f22_L : LFn := ⟨2, f22_lay, f22_c5, f22_res⟩
theorem f22_low : lowFn Try.prog [] 22 = some f22_L := by kernel_rfl
theorem f22_fok : FnOk Try.prog 22 := ⟨_, Try.func22, rfl, rfl⟩
def f22_Q (a0 : List G_tracedByte) (a1 : List G_TextEdit) (o : (List G_tracedByte)) : Exit → Env → AHeap → Nat → Prop := FinK f22_res (PureEnd (.isl 2 (o.map e_tracedByte) false))

def f22_L3_env (a0 : List G_tracedByte) (a1 : List G_TextEdit) (s : ((List G_tracedByte) × Int × Int)) : Env := [(0, .isl 2 (a0.map e_tracedByte) false), (5, .osl (0, 0) 2 (s.1.map e_tracedByte)), (6, .int .i64 s.2.1), (11, .isl 3 (a1.map e_TextEdit) false), (12, .int .i64 ((a1.map e_TextEdit).length : Int)), (13, .int .i64 s.2.2)]
def f22_L3_hp (a0 : List G_tracedByte) (a1 : List G_TextEdit) (s : ((List G_tracedByte) × Int × Int)) : AHeap := [((0, 0), .tok)]
def f22_L3_Q (a0 : List G_tracedByte) (a1 : List G_TextEdit) (o : (List G_tracedByte)) : Exit → Env → AHeap → Nat → Prop := (QBlock 0 (QSeq Try.prog f22_lay 0 f22_c3 (f22_Q a0 a1 o)))

def f22_L4_env (a0 : List G_tracedByte) (a1 : List G_TextEdit) (v5 : Int) (s : ((List G_tracedByte) × Int)) : Env := [(0, .isl 2 (a0.map e_tracedByte) false), (5, .osl (0, 0) 2 (s.1.map e_tracedByte)), (8, .ptr (1, 0) 0 0), (11, .isl 3 (a1.map e_TextEdit) false), (12, .int .i64 ((a1.map e_TextEdit).length : Int)), (13, .int .i64 v5), (26, .isl 1 ((((a1.getD v5.toNat default).f_NewText).map ofU8).map e_u8) false), (27, .int .i64 (((((a1.getD v5.toNat default).f_NewText).map ofU8).map e_u8).length : Int)), (28, .int .i64 s.2)]
def f22_L4_hp (a0 : List G_tracedByte) (a1 : List G_TextEdit) (v5 : Int) (s : ((List G_tracedByte) × Int)) : AHeap := [((0, 0), .tok), ((1, 0), .one [.int .i64 ((a1.getD v5.toNat default).f_Start), .int .i64 ((a1.getD v5.toNat default).f_End), .str ((a1.getD v5.toNat default).f_NewText)])]
def f22_L4_Q (a0 : List G_tracedByte) (a1 : List G_TextEdit) (o : (((List G_tracedByte) × Int × Int) ⊕ (List G_tracedByte))) : Exit → Env → AHeap → Nat → Prop := (QBlock 2 (QSeq Try.prog f22_lay 0 f22_c0 (QBlock 1 (QSeq Try.prog f22_lay 0 f22_c1 (BodyQ 0 1 (f22_L3_env a0 a1) (f22_L3_hp a0 a1) (f22_L3_Q a0 a1) o)))))

noncomputable def S_textedit_applyTraced_j6 (m : Option Nat) (a0 : List G_tracedByte) (a1 : List G_TextEdit) (v5 : Int) (v8 : List G_tracedByte) : Option (((List G_tracedByte) × Int × Int) ⊕ (List G_tracedByte)) :=
  some (.inl (v8, (a1.getD v5.toNat default).f_End, (W (v5 + 1))))

noncomputable def S_textedit_applyTraced_j5 (m : Option Nat) (a0 : List G_tracedByte) (a1 : List G_TextEdit) (v5 : Int) (v8 : List G_tracedByte) : Option (((List G_tracedByte) × Int × Int) ⊕ (List G_tracedByte)) :=
  S_textedit_applyTraced_j6 m a0 a1 v5 v8

noncomputable def S_textedit_applyTraced_b4 (m : Option Nat) (a0 : List G_tracedByte) (a1 : List G_TextEdit) (v5 : Int) (v8 : List G_tracedByte) (v9 : Int) : Option (((List G_tracedByte) × Int) ⊕ (((List G_tracedByte) × Int × Int) ⊕ (List G_tracedByte))) :=
  if (decide (v9 < (((((a1.getD v5.toNat default).f_NewText).map ofU8).map e_u8).length : Int))) = true then
    if (0 : Int) ≤ v9 ∧ v9 < (((((a1.getD v5.toNat default).f_NewText).map ofU8).map e_u8).length : Int) then
    if ((v8 ++ ([(G_tracedByte.mk ((((a1.getD v5.toNat default).f_NewText).map ofU8).getD v9.toNat default) (-1))] : List G_tracedByte)).map e_tracedByte).length * 16 ≤ 140737488355328 then
    some (.inl ((v8 ++ ([(G_tracedByte.mk ((((a1.getD v5.toNat default).f_NewText).map ofU8).getD v9.toNat default) (-1))] : List G_tracedByte)), (W (v9 + 1))))
    else none
    else none
  else
    Option.map Sum.inr (
      S_textedit_applyTraced_j5 m a0 a1 v5 v8)

noncomputable def S_textedit_applyTraced_l4 (m : Option Nat) (a0 : List G_tracedByte) (a1 : List G_TextEdit) (v5 : Int) (v8 : List G_tracedByte) (v9 : Int) : Option (((List G_tracedByte) × Int × Int) ⊕ (List G_tracedByte)) := loopM m (fun (s : ((List G_tracedByte) × Int)) => S_textedit_applyTraced_b4 m a0 a1 v5 s.1 s.2) (v8, v9)

theorem f22_j6_ok {a0 : List G_tracedByte} {a1 : List G_TextEdit} {v5 : Int} {v8 : List G_tracedByte} {m : Option Nat} {o : (((List G_tracedByte) × Int × Int) ⊕ (List G_tracedByte))} (h : S_textedit_applyTraced_j6 m a0 a1 v5 v8 = some o) :
    LWp Try.prog f22_lay 0 f22_c1 (BodyQ 0 1 (f22_L3_env a0 a1) (f22_L3_hp a0 a1) (f22_L3_Q a0 a1) o) [(0, .isl 2 (a0.map e_tracedByte) false), (5, .osl (0, 0) 2 (v8.map e_tracedByte)), (6, .int .i64 ((a1.getD v5.toNat default).f_End)), (11, .isl 3 (a1.map e_TextEdit) false), (12, .int .i64 ((a1.map e_TextEdit).length : Int)), (13, .int .i64 v5)] [((0, 0), .tok)] 1 := by
  unfold S_textedit_applyTraced_j6 at h
  refine regI ?_
  cases h
  exact And.intro rfl (simI (M := [((0, 0), (0, 0))]) rfl (And.intro (Vw.same _ rfl) (And.intro (Vw.osl _ _ _ _ rfl) (And.intro (Vw.same _ rfl) (And.intro (Vw.same _ rfl) (And.intro (Vw.same _ rfl) (And.intro (Vw.same _ rfl) trivial)))))) (And.intro (And.intro rfl BVw.tok) trivial))

theorem f22_j5_ok {a0 : List G_tracedByte} {a1 : List G_TextEdit} {v5 : Int} {v8 : List G_tracedByte} {m : Option Nat} {o : (((List G_tracedByte) × Int × Int) ⊕ (List G_tracedByte))} (h : S_textedit_applyTraced_j5 m a0 a1 v5 v8 = some o) :
    LWp Try.prog f22_lay 0 f22_c0 (QBlock 1 (QSeq Try.prog f22_lay 0 f22_c1 (BodyQ 0 1 (f22_L3_env a0 a1) (f22_L3_hp a0 a1) (f22_L3_Q a0 a1) o))) [(0, .isl 2 (a0.map e_tracedByte) false), (5, .osl (0, 0) 2 (v8.map e_tracedByte)), (8, .ptr (1, 0) 0 0), (11, .isl 3 (a1.map e_TextEdit) false), (12, .int .i64 ((a1.map e_TextEdit).length : Int)), (13, .int .i64 v5)] [((0, 0), .tok), ((1, 0), .one [.int .i64 ((a1.getD v5.toNat default).f_Start), .int .i64 ((a1.getD v5.toNat default).f_End), .str ((a1.getD v5.toNat default).f_NewText)])] 2 := by
  unfold S_textedit_applyTraced_j5 at h
  refine regI ?_
  refine LWp.sim ?_ (f22_j6_ok h)
  exact simI (M := [((0, 0), (0, 0))]) rfl (And.intro (Vw.same _ rfl) (And.intro (Vw.osl _ _ _ _ rfl) (And.intro (Vw.same _ rfl) (And.intro (Vw.same _ rfl) (And.intro (Vw.same _ rfl) (And.intro (Vw.same _ rfl) trivial)))))) (And.intro (And.intro rfl BVw.tok) trivial)

theorem f22_L4_bok {a0 : List G_tracedByte} {a1 : List G_TextEdit} {v5 : Int} {v8 : List G_tracedByte} {v9 : Int} {m : Option Nat} {o : ((List G_tracedByte) × Int) ⊕ (((List G_tracedByte) × Int × Int) ⊕ (List G_tracedByte))} (h : S_textedit_applyTraced_b4 m a0 a1 v5 v8 v9 = some o) :
    LWp Try.prog f22_lay 0 f22_c2 (BodyQ 0 2 (f22_L4_env a0 a1 v5) (f22_L4_hp a0 a1 v5) (f22_L4_Q a0 a1) o) [(0, .isl 2 (a0.map e_tracedByte) false), (5, .osl (0, 0) 2 (v8.map e_tracedByte)), (8, .ptr (1, 0) 0 0), (11, .isl 3 (a1.map e_TextEdit) false), (12, .int .i64 ((a1.map e_TextEdit).length : Int)), (13, .int .i64 v5), (26, .isl 1 ((((a1.getD v5.toNat default).f_NewText).map ofU8).map e_u8) false), (27, .int .i64 (((((a1.getD v5.toNat default).f_NewText).map ofU8).map e_u8).length : Int)), (28, .int .i64 v9)] [((0, 0), .tok), ((1, 0), .one [.int .i64 ((a1.getD v5.toNat default).f_Start), .int .i64 ((a1.getD v5.toNat default).f_End), .str ((a1.getD v5.toNat default).f_NewText)])] 2 := by
  unfold S_textedit_applyTraced_b4 at h
  refine seqI ?_
  refine regI ?_
  refine seqI ?_
  refine condI (v := (decide (v9 < (((((a1.getD v5.toNat default).f_NewText).map ofU8).map e_u8).length : Int)))) rfl trivial (fun h37 => ?_) (fun h37 => ?_)
  · have h := ite_tt h37 h
    refine skipI ?_
    refine seqI ?_
    refine blockI ?_
    refine seqI ?_
    refine regI ?_
    obtain ⟨h38, h⟩ := ite_some h
    refine And.intro h38 ?_
    refine Exists.intro (e_u8 ((((a1.getD v5.toNat default).f_NewText).map ofU8).getD v9.toNat default)) (And.intro (getD_enc e_u8 _ _ (idx_ltL e_u8 h38)) (And.intro (And.intro (idx_lt h38) (Nat.le_of_ble_eq_true rfl)) ?_))
    refine regI ?_
    obtain ⟨h39, h⟩ := ite_some h
    refine Exists.intro ((v8 ++ ([(G_tracedByte.mk ((((a1.getD v5.toNat default).f_NewText).map ofU8).getD v9.toNat default) (-1))] : List G_tracedByte)).map e_tracedByte) (And.intro (app_enc e_tracedByte v8 ([(G_tracedByte.mk ((((a1.getD v5.toNat default).f_NewText).map ofU8).getD v9.toNat default) (-1))] : List G_tracedByte)) (And.intro h39 ?_))
    refine LWp.sim (e := [(0, .isl 2 (a0.map e_tracedByte) false), (5, .osl (0, 0) 2 ((v8 ++ ([(G_tracedByte.mk ((((a1.getD v5.toNat default).f_NewText).map ofU8).getD v9.toNat default) (-1))] : List G_tracedByte)).map e_tracedByte)), (8, .ptr (1, 0) 0 0), (11, .isl 3 (a1.map e_TextEdit) false), (12, .int .i64 ((a1.map e_TextEdit).length : Int)), (13, .int .i64 v5), (26, .isl 1 ((((a1.getD v5.toNat default).f_NewText).map ofU8).map e_u8) false), (27, .int .i64 (((((a1.getD v5.toNat default).f_NewText).map ofU8).map e_u8).length : Int)), (28, .int .i64 v9)]) (L := [((0, 0), .tok), ((1, 0), .one [.int .i64 ((a1.getD v5.toNat default).f_Start), .int .i64 ((a1.getD v5.toNat default).f_End), .str ((a1.getD v5.toNat default).f_NewText)])]) (n := 2) ?_ ?_
    · exact simI (M := [((0, 0), (2, 0)), ((1, 0), (1, 0))]) rfl (And.intro (Vw.same _ rfl) (And.intro (Vw.osl _ _ _ _ rfl) (And.intro (Vw.ptr _ _ _ _ rfl) (And.intro (Vw.same _ rfl) (And.intro (Vw.same _ rfl) (And.intro (Vw.same _ rfl) (And.intro (Vw.same _ rfl) (And.intro (Vw.same _ rfl) (And.intro (Vw.same _ rfl) trivial))))))))) (And.intro (And.intro rfl BVw.tok) (And.intro (And.intro rfl (BVw.oneL (And.intro (Vw.same _ rfl) (And.intro (Vw.same _ rfl) (And.intro (Vw.same _ rfl) trivial))))) trivial))
    refine regI ?_
    cases h
    exact And.intro rfl (simI (M := [((0, 0), (0, 0)), ((1, 0), (1, 0))]) rfl (And.intro (Vw.same _ rfl) (And.intro (Vw.osl _ _ _ _ rfl) (And.intro (Vw.ptr _ _ _ _ rfl) (And.intro (Vw.same _ rfl) (And.intro (Vw.same _ rfl) (And.intro (Vw.same _ rfl) (And.intro (Vw.same _ rfl) (And.intro (Vw.same _ rfl) (And.intro (Vw.same _ rfl) trivial))))))))) (And.intro (And.intro rfl BVw.tok) (And.intro (And.intro rfl (BVw.oneL (And.intro (Vw.same _ rfl) (And.intro (Vw.same _ rfl) (And.intro (Vw.same _ rfl) trivial))))) trivial)))
  · have h := ite_ff h37 h
    refine exitI ?_
    obtain ⟨o, hq, rfl⟩ := Option.map_eq_some_iff.1 h
    replace h := hq; clear hq
    refine And.intro nofun ?_
    refine LWp.sim ?_ (f22_j5_ok h)
    exact simI (M := [((0, 0), (0, 0)), ((1, 0), (1, 0))]) rfl (And.intro (Vw.same _ rfl) (And.intro (Vw.osl _ _ _ _ rfl) (And.intro (Vw.ptr _ _ _ _ rfl) (And.intro (Vw.same _ rfl) (And.intro (Vw.same _ rfl) (And.intro (Vw.same _ rfl) trivial)))))) (And.intro (And.intro rfl BVw.tok) (And.intro (And.intro rfl (BVw.oneL (And.intro (Vw.same _ rfl) (And.intro (Vw.same _ rfl) (And.intro (Vw.same _ rfl) trivial))))) trivial))

theorem f22_L4_ok {a0 : List G_tracedByte} {a1 : List G_TextEdit} {v5 : Int} {v8 : List G_tracedByte} {v9 : Int} {m : Option Nat} {o : (((List G_tracedByte) × Int × Int) ⊕ (List G_tracedByte))} (h : S_textedit_applyTraced_l4 m a0 a1 v5 v8 v9 = some o) :
    LWp Try.prog f22_lay 0 (.loop f22_c2) (QBlock 2 (QSeq Try.prog f22_lay 0 f22_c0 (QBlock 1 (QSeq Try.prog f22_lay 0 f22_c1 (BodyQ 0 1 (f22_L3_env a0 a1) (f22_L3_hp a0 a1) (f22_L3_Q a0 a1) o))))) [(0, .isl 2 (a0.map e_tracedByte) false), (5, .osl (0, 0) 2 (v8.map e_tracedByte)), (8, .ptr (1, 0) 0 0), (11, .isl 3 (a1.map e_TextEdit) false), (12, .int .i64 ((a1.map e_TextEdit).length : Int)), (13, .int .i64 v5), (26, .isl 1 ((((a1.getD v5.toNat default).f_NewText).map ofU8).map e_u8) false), (27, .int .i64 (((((a1.getD v5.toNat default).f_NewText).map ofU8).map e_u8).length : Int)), (28, .int .i64 v9)] [((0, 0), .tok), ((1, 0), .one [.int .i64 ((a1.getD v5.toNat default).f_Start), .int .i64 ((a1.getD v5.toNat default).f_End), .str ((a1.getD v5.toNat default).f_NewText)])] 2 :=
  LWp_loopM (m := m) (s := ((v8, v9) : ((List G_tracedByte) × Int))) (r := o) (fun (s : ((List G_tracedByte) × Int)) => S_textedit_applyTraced_b4 m a0 a1 v5 s.1 s.2) (f22_L4_env a0 a1 v5) (f22_L4_hp a0 a1 v5) (f22_L4_Q a0 a1) (fun s o h => f22_L4_bok h) h

noncomputable def S_textedit_applyTraced_j7 (m : Option Nat) (a0 : List G_tracedByte) (v3 : List G_tracedByte) (v4 : Int) : Option (List G_tracedByte) :=
  if (0 : Int) ≤ v4 ∧ v4 ≤ ((a0.map e_tracedByte).length : Int) then
  if ((v3 ++ (a0.drop v4.toNat)).map e_tracedByte).length * 16 ≤ 140737488355328 then
  some (v3 ++ (a0.drop v4.toNat))
  else none
  else none

noncomputable def S_textedit_applyTraced_b3 (m : Option Nat) (a0 : List G_tracedByte) (a1 : List G_TextEdit) (v3 : List G_tracedByte) (v4 : Int) (v5 : Int) : Option (((List G_tracedByte) × Int × Int) ⊕ (List G_tracedByte)) :=
  if (decide (v5 < ((a1.map e_TextEdit).length : Int))) = true then
    if (0 : Int) ≤ v5 ∧ v5 < ((a1.map e_TextEdit).length : Int) then
    if (0 : Int) ≤ v4 ∧ v4 ≤ (a1.getD v5.toNat default).f_Start ∧ (a1.getD v5.toNat default).f_Start ≤ ((a0.map e_tracedByte).length : Int) then
    if ((v3 ++ ((a0.take ((a1.getD v5.toNat default).f_Start).toNat).drop v4.toNat)).map e_tracedByte).length * 16 ≤ 140737488355328 then
    S_textedit_applyTraced_l4 m a0 a1 v5 (v3 ++ ((a0.take ((a1.getD v5.toNat default).f_Start).toNat).drop v4.toNat)) 0
    else none
    else none
    else none
  else
    Option.map Sum.inr (
      S_textedit_applyTraced_j7 m a0 v3 v4)

noncomputable def S_textedit_applyTraced_l3 (m : Option Nat) (a0 : List G_tracedByte) (a1 : List G_TextEdit) (v3 : List G_tracedByte) (v4 : Int) (v5 : Int) : Option (List G_tracedByte) := loopM m (fun (s : ((List G_tracedByte) × Int × Int)) => S_textedit_applyTraced_b3 m a0 a1 s.1 s.2.1 s.2.2) (v3, v4, v5)

theorem f22_j7_ok {a1 : List G_TextEdit} {a0 : List G_tracedByte} {v3 : List G_tracedByte} {v4 : Int} {m : Option Nat} {o : (List G_tracedByte)} (h : S_textedit_applyTraced_j7 m a0 v3 v4 = some o) :
    LWp Try.prog f22_lay 0 f22_c3 (f22_Q a0 a1 o) [(0, .isl 2 (a0.map e_tracedByte) false), (5, .osl (0, 0) 2 (v3.map e_tracedByte)), (6, .int .i64 v4)] [((0, 0), .tok)] 1 := by
  unfold S_textedit_applyTraced_j7 at h
  refine seqI ?_
  refine regI ?_
  obtain ⟨h40, h⟩ := ite_some h
  refine Exists.intro (.isl 2 ((a0.drop v4.toNat).map e_tracedByte) false) (And.intro (sl_eq e_tracedByte (slA e_tracedByte a0 _) rfl) (And.intro (And.intro rfl (And.intro (And.left h40) (And.intro (And.right h40) (Int.le_refl _)))) ?_))
  obtain ⟨h41, h⟩ := ite_some h
  refine Exists.intro ((v3 ++ (a0.drop v4.toNat)).map e_tracedByte) (And.intro (app_enc e_tracedByte v3 (a0.drop v4.toNat)) (And.intro h41 ?_))
  refine retI ?_
  cases h
  exact And.intro trivial (And.intro rfl (Vw.oslI _ _ _))

theorem f22_L3_bok {a0 : List G_tracedByte} {a1 : List G_TextEdit} {v3 : List G_tracedByte} {v4 : Int} {v5 : Int} {m : Option Nat} {o : ((List G_tracedByte) × Int × Int) ⊕ (List G_tracedByte)} (h : S_textedit_applyTraced_b3 m a0 a1 v3 v4 v5 = some o) :
    LWp Try.prog f22_lay 0 f22_c4 (BodyQ 0 1 (f22_L3_env a0 a1) (f22_L3_hp a0 a1) (f22_L3_Q a0 a1) o) [(0, .isl 2 (a0.map e_tracedByte) false), (5, .osl (0, 0) 2 (v3.map e_tracedByte)), (6, .int .i64 v4), (11, .isl 3 (a1.map e_TextEdit) false), (12, .int .i64 ((a1.map e_TextEdit).length : Int)), (13, .int .i64 v5)] [((0, 0), .tok)] 1 := by
  unfold S_textedit_applyTraced_b3 at h
  refine seqI ?_
  refine regI ?_
  refine seqI ?_
  refine condI (v := (decide (v5 < ((a1.map e_TextEdit).length : Int)))) rfl trivial (fun h27 => ?_) (fun h27 => ?_)
  · have h := ite_tt h27 h
    refine skipI ?_
    refine seqI ?_
    refine blockI ?_
    refine seqI ?_
    refine regI ?_
    obtain ⟨h28, h⟩ := ite_some h
    refine And.intro h28 ?_
    refine Exists.intro (e_TextEdit (a1.getD v5.toNat default)) (And.intro (getD_enc e_TextEdit _ _ (idx_ltL e_TextEdit h28)) (And.intro (And.intro (idx_lt h28) (Nat.le_of_ble_eq_true rfl)) ?_))
    refine seqI ?_
    refine regI ?_
    obtain ⟨h29, h⟩ := ite_some h
    refine Exists.intro (.isl 2 (((a0.take ((a1.getD v5.toNat default).f_Start).toNat).drop v4.toNat).map e_tracedByte) false) (And.intro (sl_eq e_tracedByte (slAB e_tracedByte a0 _ _) rfl) (And.intro (And.intro rfl h29) ?_))
    obtain ⟨h30, h⟩ := ite_some h
    refine Exists.intro ((v3 ++ ((a0.take ((a1.getD v5.toNat default).f_Start).toNat).drop v4.toNat)).map e_tracedByte) (And.intro (app_enc e_tracedByte v3 ((a0.take ((a1.getD v5.toNat default).f_Start).toNat).drop v4.toNat)) (And.intro h30 ?_))
    refine LWp.sim (e := [(0, .isl 2 (a0.map e_tracedByte) false), (5, .osl (0, 0) 2 ((v3 ++ ((a0.take ((a1.getD v5.toNat default).f_Start).toNat).drop v4.toNat)).map e_tracedByte)), (8, .ptr (1, 0) 0 0), (11, .isl 3 (a1.map e_TextEdit) false), (12, .int .i64 ((a1.map e_TextEdit).length : Int)), (13, .int .i64 v5)]) (L := [((0, 0), .tok), ((1, 0), .one [.int .i64 ((a1.getD v5.toNat default).f_Start), .int .i64 ((a1.getD v5.toNat default).f_End), .str ((a1.getD v5.toNat default).f_NewText)])]) (n := 2) ?_ ?_
    · exact simI (M := [((0, 0), (2, 0)), ((1, 0), (1, 0))]) rfl (And.intro (Vw.same _ rfl) (And.intro (Vw.osl _ _ _ _ rfl) (And.intro (Vw.ptr _ _ _ _ rfl) (And.intro (Vw.same _ rfl) (And.intro (Vw.same _ rfl) (And.intro (Vw.same _ rfl) trivial)))))) (And.intro (And.intro rfl BVw.tok) (And.intro (And.intro rfl (BVw.oneL (And.intro (Vw.same _ rfl) (And.intro (Vw.same _ rfl) (And.intro (Vw.same _ rfl) trivial))))) trivial))
    refine seqI ?_
    refine seqI ?_
    refine regI ?_
    refine Exists.intro ((((a1.getD v5.toNat default).f_NewText).map ofU8).map e_u8) (And.intro (s2b_enc _) ?_)
    refine blockI ?_
    refine LWp.sim ?_ (f22_L4_ok h)
    exact simI (M := [((0, 0), (0, 0)), ((1, 0), (1, 0))]) rfl (And.intro (Vw.same _ rfl) (And.intro (Vw.osl _ _ _ _ rfl) (And.intro (Vw.ptr _ _ _ _ rfl) (And.intro (Vw.same _ rfl) (And.intro (Vw.same _ rfl) (And.intro (Vw.same _ rfl) (And.intro (Vw.same _ rfl) (And.intro (Vw.same _ rfl) (And.intro (Vw.same _ rfl) trivial))))))))) (And.intro (And.intro rfl BVw.tok) (And.intro (And.intro rfl (BVw.oneL (And.intro (Vw.same _ rfl) (And.intro (Vw.same _ rfl) (And.intro (Vw.same _ rfl) trivial))))) trivial))
  · have h := ite_ff h27 h
    refine exitI ?_
    obtain ⟨o, hq, rfl⟩ := Option.map_eq_some_iff.1 h
    replace h := hq; clear hq
    refine And.intro nofun ?_
    refine LWp.sim ?_ (f22_j7_ok h)
    exact simI (M := [((0, 0), (0, 0))]) rfl (And.intro (Vw.same _ rfl) (And.intro (Vw.osl _ _ _ _ rfl) (And.intro (Vw.same _ rfl) trivial))) (And.intro (And.intro rfl BVw.tok) trivial)

theorem f22_L3_ok {a0 : List G_tracedByte} {a1 : List G_TextEdit} {v3 : List G_tracedByte} {v4 : Int} {v5 : Int} {m : Option Nat} {o : (List G_tracedByte)} (h : S_textedit_applyTraced_l3 m a0 a1 v3 v4 v5 = some o) :
    LWp Try.prog f22_lay 0 (.loop f22_c4) (QBlock 0 (QSeq Try.prog f22_lay 0 f22_c3 (f22_Q a0 a1 o))) [(0, .isl 2 (a0.map e_tracedByte) false), (5, .osl (0, 0) 2 (v3.map e_tracedByte)), (6, .int .i64 v4), (11, .isl 3 (a1.map e_TextEdit) false), (12, .int .i64 ((a1.map e_TextEdit).length : Int)), (13, .int .i64 v5)] [((0, 0), .tok)] 1 :=
  LWp_loopM (m := m) (s := ((v3, v4, v5) : ((List G_tracedByte) × Int × Int))) (r := o) (fun (s : ((List G_tracedByte) × Int × Int)) => S_textedit_applyTraced_b3 m a0 a1 s.1 s.2.1 s.2.2) (f22_L3_env a0 a1) (f22_L3_hp a0 a1) (f22_L3_Q a0 a1) (fun s o h => f22_L3_bok h) h

noncomputable def S_textedit_applyTraced (m : Option Nat) (a0 : List G_tracedByte) (a1 : List G_TextEdit) : Option (List G_tracedByte) :=
  S_textedit_applyTraced_l3 m a0 a1 [] 0 0

theorem f22_start {a0 : List G_tracedByte} {a1 : List G_TextEdit} {m : Option Nat} {o : (List G_tracedByte)} (h : S_textedit_applyTraced m a0 a1 = some o) : LWp Try.prog f22_lay 0 f22_c5 (f22_Q a0 a1 o) (initEnv 0 [.isl 2 (a0.map e_tracedByte) false, .isl 3 (a1.map e_TextEdit) false]) [] 0 := by
  unfold S_textedit_applyTraced at h
  refine seqI ?_
  refine regI ?_
  refine seqI ?_
  refine regI ?_
  refine seqI ?_
  refine regI ?_
  refine seqI ?_
  refine seqI ?_
  refine regI ?_
  refine blockI ?_
  refine LWp.sim ?_ (f22_L3_ok h)
  exact simI (M := []) rfl (And.intro (Vw.same _ rfl) (And.intro (Vw.nilO _ _ (by decide)) (And.intro (Vw.same _ rfl) (And.intro (Vw.same _ rfl) (And.intro (Vw.same _ rfl) (And.intro (Vw.same _ rfl) trivial)))))) (And.intro (And.intro rfl (And.intro (by decide) (by decide))) trivial)

theorem f22_ok {a0 : List G_tracedByte} {a1 : List G_TextEdit} {m : Option Nat} {o : (List G_tracedByte)} (h : S_textedit_applyTraced m a0 a1 = some o) : PFn Try.prog 22 [.isl 2 (a0.map e_tracedByte) false, .isl 3 (a1.map e_TextEdit) false] (.isl 2 (o.map e_tracedByte) false) := PFn.ofFnW (L := f22_L) f22_low f22_fok (Nat.le_of_ble_eq_true rfl) rfl (f22_start h)

def f30b1_c0 : LCode := (.region [⟨some 21, .mv (.t 0), none⟩,
   ⟨some 22, .bin .add (.t 21) (.c (.int .i64 1)), none⟩,
   ⟨none, .store 1 (.t 1) (.t 22), none⟩,
   ⟨none, .store 1 (.t 2) (.c (.val (.slice none 0 0))), none⟩])
def f30b1_c1 : LCode := (.seq (.seq (.region [⟨some 5, .load false 1 (.t 1), none⟩,
   ⟨some 6, .mv (.t 0), none⟩,
   ⟨some 7, .bin .lss (.t 5) (.t 6), none⟩,
   ⟨some 8, .mv (.t 7), none⟩,
   ⟨some 9, .load false 1 (.t 2), some (8, false)⟩,
   ⟨some 10, .len false (.t 9), some (8, false)⟩,
   ⟨some 11, .bin .gtr (.t 10) (.c (.int .i64 0)), some (8, false)⟩,
   ⟨some 12, .pick (.t 8) (.c (.bool true)) (.t 11), none⟩])
 (.cond (.t 12)
  (.region [⟨some 13, .load false 1 (.t 3), none⟩,
    ⟨some 14, .load false 1 (.t 1), none⟩,
    ⟨some 15, .mv (.t 0), none⟩,
    ⟨some 16, .load false 1 (.t 2), none⟩,
    ⟨some 17, .conv .b2s (.t 16), none⟩,
    ⟨some 18, .build [(.int .i64 0), (.int .i64 0), (.str [])] [(0, 1, (.t 14)), (1, 1, (.t 15)), (2, 1, (.t 17))], none⟩,
    ⟨some 19, .mkSl true 3 [(.int .i64 0), (.int .i64 0), (.str [])] 1 [(0, (.t 18))], none⟩,
    ⟨some 20, .app false 3 32 (.t 13) (.t 19), none⟩,
    ⟨none, .store 1 (.t 3) (.t 20), none⟩])
  .skip))
 f30b1_c0)
def f30b1_lay : Lay := ⟨23, [20], false⟩
def f30b1_res : List LRes := []
def f30b1_L : LFn := ⟨4, f30b1_lay, f30b1_c1, f30b1_res⟩
theorem f30b1_low : lowFn Try.prog [20] 30 = some f30b1_L := by kernel_rfl
theorem f30b1_fok : FnOk Try.prog 30 := ⟨_, Try.func30, rfl, rfl⟩
noncomputable def S_textedit_canonical_1_30_j1 (m : Option Nat) (a0 : Int) (a1 : Int) (a2 : List Int) (v1 : List G_TextEdit) : Option (Int × (List G_TextEdit)) :=
  some ((W (a0 + 1)), v1)

def f30b1_Q (a0 : Int) (a1 : Int) (a2 : List Int) (a3 : List G_TextEdit) (o : Int × (List G_TextEdit)) : Exit → Env → AHeap → Nat → Prop := FinK f30b1_res (FinTo 3 4 (.tup []) [((0, 0), .one [.int .i64 o.1]), ((0, 1), .one [.val (.slice none 0 0)]), ((0, 2), .one [.msl (3, 0) 3 0 o.2.length false]), ((3, 0), .rows 3 (o.2.map e_TextEdit))])

theorem f30b1_j1_ok {a3 : List G_TextEdit} {a0 : Int} {a1 : Int} {a2 : List Int} {v1 : List G_TextEdit} {m : Option Nat} {o : (Int × (List G_TextEdit))} (h : S_textedit_canonical_1_30_j1 m a0 a1 a2 v1 = some o) :
    LWp Try.prog f30b1_lay 3 f30b1_c0 (f30b1_Q a0 a1 a2 a3 o) [(0, .int .i64 a0), (1, .ptr (0, 0) 0 0), (2, .ptr (0, 1) 0 0)] [((0, 0), .one [.int .i64 a1]), ((0, 1), .one [.osl (3, 0) 1 (a2.map e_u8)]), ((0, 2), .one [.msl (4, 0) 3 0 v1.length false]), ((3, 0), .tok), ((4, 0), .rows 3 (v1.map e_TextEdit))] 5 := by
  unfold S_textedit_canonical_1_30_j1 at h
  refine regI ?_
  cases h
  exact finI (n' := 5) [((3, 0), (4, 0))] [] rfl rfl (Vw.same _ rfl) (And.intro (And.intro rfl (BVw.oneL (And.intro (Vw.same _ rfl) trivial))) (And.intro (And.intro rfl (BVw.oneL (And.intro (Vw.same _ rfl) trivial))) (And.intro (And.intro rfl (BVw.oneL (And.intro (Vw.mslE rfl (by first | rfl | simp) rfl) trivial))) (And.intro (And.intro rfl (BVw.enc e_TextEdit (fun _ => rfl) _ v1)) trivial))))

noncomputable def S_textedit_canonical_1_30 (m : Option Nat) (a0 : Int) (a1 : Int) (a2 : List Int) (a3 : List G_TextEdit) : Option (Int × (List G_TextEdit)) :=
  if ((decide (a1 < a0)) || (decide (((a2.map e_u8).length : Int) > 0))) = true then
    if ((a3 ++ ([(G_TextEdit.mk a1 a0 (a2.map toU8))] : List G_TextEdit)).map e_TextEdit).length * 32 ≤ 140737488355328 then
    S_textedit_canonical_1_30_j1 m a0 a1 a2 (a3 ++ ([(G_TextEdit.mk a1 a0 (a2.map toU8))] : List G_TextEdit))
    else none
  else
    S_textedit_canonical_1_30_j1 m a0 a1 a2 a3

theorem f30b1_start {a0 : Int} {a1 : Int} {a2 : List Int} {a3 : List G_TextEdit} {m : Option Nat} {o : Int × (List G_TextEdit)} (h : S_textedit_canonical_1_30 m a0 a1 a2 a3 = some o) : LWp Try.prog f30b1_lay 3 f30b1_c1 (f30b1_Q a0 a1 a2 a3 o) (initEnv 0 [.int .i64 a0, .ptr (0, 0) 0 0, .ptr (0, 1) 0 0, .ptr (0, 2) 0 0]) [((0, 0), .one [.int .i64 a1]), ((0, 1), .one [.osl (0, 3) 1 (a2.map e_u8)]), ((0, 2), .one [.msl (0, 4) 3 0 a3.length false]), ((0, 3), .tok), ((0, 4), .rows 3 (a3.map e_TextEdit))] 3 := by
  unfold S_textedit_canonical_1_30 at h
  refine seqI ?_
  refine seqI ?_
  refine regI ?_
  refine And.intro (fun hp => hp) ?_
  show yops _ _ _ [(10, .cnd ((decide (a1 < a0)) == false) (.int .i64 ((a2.map e_u8).length : Int))), (9, .cnd ((decide (a1 < a0)) == false) (.osl (0, 3) 1 (a2.map e_u8))), (8, .bool (decide (a1 < a0))), (7, .bool (decide (a1 < a0))), (6, .int .i64 a0), (5, .int .i64 a1), (0, .int .i64 a0), (1, .ptr (0, 0) 0 0), (2, .ptr (0, 1) 0 0), (3, .ptr (0, 2) 0 0)] _ _
  refine And.intro (fun hp => hp) ?_
  refine And.intro (fun hc => (bqf hc)) ?_
  refine LWp.sim (e := [(0, .int .i64 a0), (1, .ptr (0, 0) 0 0), (2, .ptr (0, 1) 0 0), (3, .ptr (0, 2) 0 0), (12, .bool ((decide (a1 < a0)) || (decide (((a2.map e_u8).length : Int) > 0))))]) (L := [((0, 0), .one [.int .i64 a1]), ((0, 1), .one [.osl (3, 0) 1 (a2.map e_u8)]), ((0, 2), .one [.msl (4, 0) 3 0 a3.length false]), ((3, 0), .tok), ((4, 0), .rows 3 (a3.map e_TextEdit))]) (n := 5) ?_ ?_
  · exact simI (M := [((3, 0), (0, 3)), ((4, 0), (0, 4))]) rfl (And.intro (Vw.same _ rfl) (And.intro (Vw.ptr _ _ _ _ rfl) (And.intro (Vw.ptr _ _ _ _ rfl) (And.intro (Vw.ptr _ _ _ _ rfl) (And.intro (Vw.same _ rfl) trivial))))) (And.intro (And.intro rfl (BVw.oneL (And.intro (Vw.same _ rfl) trivial))) (And.intro (And.intro rfl (BVw.oneL (And.intro (Vw.osl _ _ _ _ rfl) trivial))) (And.intro (And.intro rfl (BVw.oneL (And.intro (Vw.mslE rfl (by first | rfl | simp) rfl) trivial))) (And.intro (And.intro rfl BVw.tok) (And.intro (And.intro rfl (BVw.enc e_TextEdit (fun _ => rfl) _ a3)) trivial)))))
  refine condI (v := ((decide (a1 < a0)) || (decide (((a2.map e_u8).length : Int) > 0)))) rfl trivial (fun h1 => ?_) (fun h1 => ?_)
  · have h := ite_tt h1 h
    refine regI ?_
    refine Exists.intro (a2.map toU8) (And.intro (b2s_enc a2) (And.intro (b2s_all a2) ?_))
    obtain ⟨h2, h⟩ := ite_some h
    refine And.intro (fun h => Bool.noConfusion h) (And.intro (lenW e_TextEdit (by first | rfl | simp)) (Exists.intro ((a3 ++ ([(G_TextEdit.mk a1 a0 (a2.map toU8))] : List G_TextEdit)).map e_TextEdit) (And.intro (appW e_TextEdit a3 ([(G_TextEdit.mk a1 a0 (a2.map toU8))] : List G_TextEdit) (by first | rfl | simp)) (And.intro h2 ?_))))
    refine LWp.sim ?_ (f30b1_j1_ok h)
    exact simI (M := [((3, 0), (3, 0)), ((4, 0), (5, 0))]) rfl (And.intro (Vw.same _ rfl) (And.intro (Vw.ptr _ _ _ _ rfl) (And.intro (Vw.ptr _ _ _ _ rfl) trivial))) (And.intro (And.intro rfl (BVw.oneL (And.intro (Vw.same _ rfl) trivial))) (And.intro (And.intro rfl (BVw.oneL (And.intro (Vw.osl _ _ _ _ rfl) trivial))) (And.intro (And.intro rfl (BVw.oneL (And.intro (Vw.mslE rfl (by first | rfl | simp) rfl) trivial))) (And.intro (And.intro rfl BVw.tok) (And.intro (And.intro rfl (BVw.enc e_TextEdit (fun _ => rfl) _ (a3 ++ ([(G_TextEdit.mk a1 a0 (a2.map toU8))] : List G_TextEdit)))) trivial)))))
  · have h := ite_ff h1 h
    refine skipI ?_
    refine LWp.sim ?_ (f30b1_j1_ok h)
    exact simI (M := [((3, 0), (3, 0)), ((4, 0), (4, 0))]) rfl (And.intro (Vw.same _ rfl) (And.intro (Vw.ptr _ _ _ _ rfl) (And.intro (Vw.ptr _ _ _ _ rfl) trivial))) (And.intro (And.intro rfl (BVw.oneL (And.intro (Vw.same _ rfl) trivial))) (And.intro (And.intro rfl (BVw.oneL (And.intro (Vw.osl _ _ _ _ rfl) trivial))) (And.intro (And.intro rfl (BVw.oneL (And.intro (Vw.mslE rfl (by first | rfl | simp) rfl) trivial))) (And.intro (And.intro rfl BVw.tok) (And.intro (And.intro rfl (BVw.enc e_TextEdit (fun _ => rfl) _ a3)) trivial)))))

theorem f30b1_ok {a0 : Int} {a1 : Int} {a2 : List Int} {a3 : List G_TextEdit} {m : Option Nat} {o : Int × (List G_TextEdit)} (h : S_textedit_canonical_1_30 m a0 a1 a2 a3 = some o) : ACalls Try.prog 30 [.int .i64 a0, .ptr (0, 0) 0 0, .ptr (0, 1) 0 0, .ptr (0, 2) 0 0] [((0, 0), .one [.int .i64 a1]), ((0, 1), .one [.osl (0, 3) 1 (a2.map e_u8)]), ((0, 2), .one [.msl (0, 4) 3 0 a3.length false]), ((0, 3), .tok), ((0, 4), .rows 3 (a3.map e_TextEdit))] 3 (Gives 4 (.tup []) [((0, 0), .one [.int .i64 o.1]), ((0, 1), .one [.val (.slice none 0 0)]), ((0, 2), .one [.msl (3, 0) 3 0 o.2.length false]), ((3, 0), .rows 3 (o.2.map e_TextEdit))]) := bfn_of (L := f30b1_L) f30b1_low f30b1_fok (Nat.le_of_ble_eq_true rfl) (f30b1_start h)

def f21_c1 : LCode := (.region [⟨some 31, .bin .add (.t 15) (.c (.int .i64 1)), none⟩,
   ⟨some 15, .mv (.t 31), none⟩])
def f21_c2 : LCode := (.seq (.region [⟨some 16, .bin .lss (.t 15) (.t 14), none⟩])
 (.seq (.cond (.t 16)
  .skip
  (.exit 0))
 (.seq (.block 1
  (.seq (.region [⟨some 17, .iaddr 2 (.t 13) (.t 15), none⟩,
    ⟨some 18, .load true 2 (.t 17), none⟩,
    ⟨some 11, .alloc [(.int .u8 0), (.int .i64 0)], none⟩,
    ⟨none, .store 2 (.t 11) (.t 18), none⟩])
  (.seq (.region [⟨some 19, .faddr 1 (.t 11), none⟩,
    ⟨some 20, .load false 1 (.t 19), none⟩,
    ⟨some 21, .bin .eql (.t 20) (.c (.int .i64 (-1))), none⟩])
  (.cond (.t 21)
   (.region [⟨some 22, .load false 1 (.t 8), none⟩,
     ⟨some 23, .faddr 0 (.t 11), none⟩,
     ⟨some 24, .load false 1 (.t 23), none⟩,
     ⟨some 25, .mkSl true 1 [(.int .u8 0)] 1 [(0, (.t 24))], none⟩,
     ⟨some 26, .app true 1 1 (.t 22) (.t 25), none⟩,
     ⟨none, .store 1 (.t 8) (.t 26), none⟩])
   (.region [⟨some 27, .mv (.t 9), none⟩,
     ⟨some 28, .faddr 1 (.t 11), none⟩,
     ⟨some 29, .load false 1 (.t 28), none⟩,
     ⟨some 30, .callv (.t 27) [(.t 29)], none⟩])))))
 f21_c1)))
def f21_c0 : LCode := (.seq (.region [⟨some 32, .mv (.t 9), none⟩,
   ⟨some 33, .mv (.t 0), none⟩,
   ⟨some 34, .callv (.t 32) [(.t 33)], none⟩])
 (.seq (.seq (.region [⟨some 35, .load false 1 (.t 6), none⟩,
   ⟨some 36, .len false (.t 35), none⟩,
   ⟨some 37, .bin .gtr (.t 36) (.c (.int .i64 50)), none⟩])
 (.cond (.t 37)
  (.seq (.region [⟨some 4, .mv (.c (.val (.slice none 0 0))), none⟩,
    ⟨some 5, .mv (.c (.int .i64 2)), none⟩])
  .ret)
  .skip))
 (.seq (.region [⟨some 38, .load false 1 (.t 6), none⟩,
   ⟨some 4, .mv (.t 38), none⟩,
   ⟨some 5, .mv (.c (.int .i64 0)), none⟩])
 .ret)))
def f21_c3 : LCode := (.seq (.region [⟨some 4, .mv (.c (.val (.slice none 0 0))), none⟩,
   ⟨some 5, .mv (.c (.int .i64 0)), none⟩])
 (.seq (.region [⟨some 6, .alloc [(.isl 3 [] true)], none⟩])
 (.seq (.region [⟨some 7, .alloc [(.int .i64 0)], none⟩,
   ⟨none, .store 1 (.t 7) (.c (.int .i64 0)), none⟩])
 (.seq (.region [⟨some 8, .alloc [(.isl 1 [] true)], none⟩])
 (.seq (.region [⟨some 12, .mkfn (.func 30) [] [(.t 7), (.t 8), (.t 6)], none⟩,
   ⟨some 9, .mv (.t 12), none⟩])
 (.seq (.seq (.region [⟨some 13, .mv (.t 1), none⟩,
   ⟨some 14, .len false (.t 13), none⟩,
   ⟨some 15, .mv (.c (.int .i64 0)), none⟩])
 (.block 0
  (.loop
   f21_c2)))
 f21_c0))))))
def f21_lay : Lay := ⟨39, [6], false⟩
def f21_res : List LRes := [.t 4, .t 5]
def f21_L : LFn := ⟨2, f21_lay, f21_c3, f21_res⟩
theorem f21_low : lowFn Try.prog [6] 21 = some f21_L := by kernel_rfl
theorem f21_fok : FnOk Try.prog 21 := ⟨_, Try.func21, rfl, rfl⟩
def f21_Q (a0 : Int) (a1 : List G_tracedByte) (o : (List G_TextEdit) × Int) : Exit → Env → AHeap → Nat → Prop := FinK f21_res (PureEnd (.tup [.isl 3 (o.1.map e_TextEdit) false, .int .i64 o.2]))

def f21_L1_env (a0 : Int) (a1 : List G_tracedByte) (s : (Int × (List Int) × Int × (List G_TextEdit))) : Env := [(0, .int .i64 a0), (6, .ptr (0, 0) 0 0), (8, .ptr (1, 0) 0 0), (9, .fn (.func 30) [] [.ptr (2, 0) 0 0, .ptr (1, 0) 0 0, .ptr (0, 0) 0 0]), (13, .isl 2 (a1.map e_tracedByte) false), (14, .int .i64 ((a1.map e_tracedByte).length : Int)), (15, .int .i64 s.1)]
def f21_L1_hp (a0 : Int) (a1 : List G_tracedByte) (s : (Int × (List Int) × Int × (List G_TextEdit))) : AHeap := [((0, 0), .one [.msl (3, 0) 3 0 s.2.2.2.length false]), ((1, 0), .one [.osl (4, 0) 1 (s.2.1.map e_u8)]), ((2, 0), .one [.int .i64 s.2.2.1]), ((3, 0), .rows 3 (s.2.2.2.map e_TextEdit)), ((4, 0), .tok)]
def f21_L1_Q (a0 : Int) (a1 : List G_tracedByte) (o : ((List G_TextEdit) × Int)) : Exit → Env → AHeap → Nat → Prop := (QBlock 0 (QSeq Try.prog f21_lay 0 f21_c0 (f21_Q a0 a1 o)))

noncomputable def S_textedit_canonical_j3 (m : Option Nat) (a0 : Int) (a1 : List G_tracedByte) (v5 : Int) (v14 : List Int) (v15 : Int) (v16 : List G_TextEdit) : Option ((Int × (List Int) × Int × (List G_TextEdit)) ⊕ ((List G_TextEdit) × Int)) :=
  some (.inl ((W (v5 + 1)), v14, v15, v16))

theorem f21_j3_ok {a0 : Int} {a1 : List G_tracedByte} {v5 : Int} {v14 : List Int} {v15 : Int} {v16 : List G_TextEdit} {m : Option Nat} {o : ((Int × (List Int) × Int × (List G_TextEdit)) ⊕ ((List G_TextEdit) × Int))} (h : S_textedit_canonical_j3 m a0 a1 v5 v14 v15 v16 = some o) :
    LWp Try.prog f21_lay 0 f21_c1 (BodyQ 0 5 (f21_L1_env a0 a1) (f21_L1_hp a0 a1) (f21_L1_Q a0 a1) o) [(0, .int .i64 a0), (6, .ptr (0, 0) 0 0), (8, .ptr (1, 0) 0 0), (9, .fn (.func 30) [] [.ptr (2, 0) 0 0, .ptr (1, 0) 0 0, .ptr (0, 0) 0 0]), (13, .isl 2 (a1.map e_tracedByte) false), (14, .int .i64 ((a1.map e_tracedByte).length : Int)), (15, .int .i64 v5)] [((0, 0), .one [.msl (3, 0) 3 0 v16.length false]), ((1, 0), .one [.osl (4, 0) 1 (v14.map e_u8)]), ((2, 0), .one [.int .i64 v15]), ((3, 0), .rows 3 (v16.map e_TextEdit)), ((4, 0), .tok)] 5 := by
  unfold S_textedit_canonical_j3 at h
  refine regI ?_
  cases h
  exact And.intro rfl (simI (M := [((0, 0), (0, 0)), ((1, 0), (1, 0)), ((2, 0), (2, 0)), ((3, 0), (3, 0)), ((4, 0), (4, 0))]) rfl (And.intro (Vw.same _ rfl) (And.intro (Vw.ptr _ _ _ _ rfl) (And.intro (Vw.ptr _ _ _ _ rfl) (And.intro (Vw.fnL trivial (And.intro (Vw.ptr _ _ _ _ rfl) (And.intro (Vw.ptr _ _ _ _ rfl) (And.intro (Vw.ptr _ _ _ _ rfl) trivial)))) (And.intro (Vw.same _ rfl) (And.intro (Vw.same _ rfl) (And.intro (Vw.same _ rfl) trivial))))))) (And.intro (And.intro rfl (BVw.oneL (And.intro (Vw.mslE rfl (by first | rfl | simp) rfl) trivial))) (And.intro (And.intro rfl (BVw.oneL (And.intro (Vw.osl _ _ _ _ rfl) trivial))) (And.intro (And.intro rfl (BVw.oneL (And.intro (Vw.same _ rfl) trivial))) (And.intro (And.intro rfl (BVw.enc e_TextEdit (fun _ => rfl) _ v16)) (And.intro (And.intro rfl BVw.tok) trivial))))))

noncomputable def S_textedit_canonical_j4 (m : Option Nat) (a0 : Int) (v6 : List Int) (v7 : Int) (v8 : List G_TextEdit) : Option ((List G_TextEdit) × Int) :=
  (S_textedit_canonical_1_30 m a0 v7 v6 v8).bind fun v17 =>
  if (decide (((v17.2.length : Nat) : Int) > 50)) = true then
    some ([], 2)
  else
    some (v17.2, 0)

noncomputable def S_textedit_canonical_b1 (m : Option Nat) (a0 : Int) (a1 : List G_tracedByte) (v5 : Int) (v6 : List Int) (v7 : Int) (v8 : List G_TextEdit) : Option ((Int × (List Int) × Int × (List G_TextEdit)) ⊕ ((List G_TextEdit) × Int)) :=
  if (decide (v5 < ((a1.map e_tracedByte).length : Int))) = true then
    if (0 : Int) ≤ v5 ∧ v5 < ((a1.map e_tracedByte).length : Int) then
    if ((a1.getD v5.toNat default).f_origin == (-1)) = true then
      if ((v6 ++ ([(a1.getD v5.toNat default).f_value] : List Int)).map e_u8).length * 1 ≤ 140737488355328 then
      S_textedit_canonical_j3 m a0 a1 v5 (v6 ++ ([(a1.getD v5.toNat default).f_value] : List Int)) v7 v8
      else none
    else
      (S_textedit_canonical_1_30 m ((a1.getD v5.toNat default).f_origin) v7 v6 v8).bind fun v13 =>
      S_textedit_canonical_j3 m a0 a1 v5 [] v13.1 v13.2
    else none
  else
    Option.map Sum.inr (
      S_textedit_canonical_j4 m a0 v6 v7 v8)

noncomputable def S_textedit_canonical_l1 (m : Option Nat) (a0 : Int) (a1 : List G_tracedByte) (v5 : Int) (v6 : List Int) (v7 : Int) (v8 : List G_TextEdit) : Option ((List G_TextEdit) × Int) := loopM m (fun (s : (Int × (List Int) × Int × (List G_TextEdit))) => S_textedit_canonical_b1 m a0 a1 s.1 s.2.1 s.2.2.1 s.2.2.2) (v5, v6, v7, v8)

theorem f21_j4_ok {a1 : List G_tracedByte} {a0 : Int} {v6 : List Int} {v7 : Int} {v8 : List G_TextEdit} {m : Option Nat} {o : ((List G_TextEdit) × Int)} (h : S_textedit_canonical_j4 m a0 v6 v7 v8 = some o) :
    LWp Try.prog f21_lay 0 f21_c0 (f21_Q a0 a1 o) [(0, .int .i64 a0), (6, .ptr (0, 0) 0 0), (9, .fn (.func 30) [] [.ptr (1, 0) 0 0, .ptr (2, 0) 0 0, .ptr (0, 0) 0 0])] [((0, 0), .one [.msl (3, 0) 3 0 v8.length false]), ((1, 0), .one [.int .i64 v7]), ((2, 0), .one [.osl (4, 0) 1 (v6.map e_u8)]), ((3, 0), .rows 3 (v8.map e_TextEdit)), ((4, 0), .tok)] 5 := by
  unfold S_textedit_canonical_j4 at h
  refine seqI ?_
  refine regI ?_
  obtain ⟨v17, h16, h⟩ := bind_some h
  refine bcall (k := 3) (m := 1) (L' := [((1, 0), .one [.int .i64 v17.1]), ((2, 0), .one [.val (.slice none 0 0)]), ((0, 0), .one [.msl (5, 0) 3 0 v17.2.length false]), ((5, 0), .rows 3 (v17.2.map e_TextEdit))]) (rest := []) (R' := .tup []) [((0, 0), (1, 0)), ((0, 1), (2, 0)), ((0, 2), (0, 0)), ((0, 3), (4, 0)), ((0, 4), (3, 0))] (f30b1_ok h16) rfl rfl rfl (And.intro (Vw.same _ rfl) (And.intro (Vw.ptr _ _ _ _ rfl) (And.intro (Vw.ptr _ _ _ _ rfl) (And.intro (Vw.ptr _ _ _ _ rfl) trivial)))) (And.intro (h0I (1, 0) rfl rfl (BVw.oneL (And.intro (Vw.same _ rfl) trivial))) (And.intro (h0I (2, 0) rfl rfl (BVw.oneL (And.intro (Vw.osl _ _ _ _ rfl) trivial))) (And.intro (h0I (0, 0) rfl rfl (BVw.oneL (And.intro (Vw.mslE rfl (by first | rfl | simp) rfl) trivial))) (And.intro (h0I (4, 0) rfl rfl BVw.tok) (And.intro (h0I (3, 0) rfl rfl (BVw.enc e_TextEdit (fun _ => rfl) _ v8)) trivial))))) (nid_ren _ rfl) (And.intro rfl (And.intro rfl (And.intro rfl (And.intro rfl (And.intro rfl (And.intro rfl (And.intro rfl (And.intro (rows_ren e_TextEdit (fun _ => rfl) _ _) trivial)))))))) rfl ?_
  refine seqI ?_
  refine seqI ?_
  refine regI ?_
  refine condI (v := (decide (((v17.2.length : Nat) : Int) > 50))) rfl trivial (fun h17 => ?_) (fun h17 => ?_)
  · have h := ite_tt h17 h
    refine seqI ?_
    refine regI ?_
    refine LWp.sim (e := [(4, .val (.slice none 0 0)), (5, .int .i64 2)]) (L := []) (n := 0) ?_ ?_
    · exact simI (M := []) rfl (And.intro (Vw.same _ rfl) (And.intro (Vw.same _ rfl) trivial)) trivial
    refine retI ?_
    cases h
    exact And.intro trivial (And.intro trivial (And.intro rfl (Vw.tupL (And.intro (Vw.nilI _ _) (And.intro (Vw.same _ rfl) trivial)))))
  · have h := ite_ff h17 h
    refine skipI ?_
    refine seqI ?_
    refine regI ?_
    refine LWp.sim (e := [(4, .msl (0, 0) 3 0 v17.2.length false), (5, .int .i64 0)]) (L := [((0, 0), .rows 3 (v17.2.map e_TextEdit))]) (n := 1) ?_ ?_
    · exact simI (M := [((0, 0), (5, 0))]) rfl (And.intro (Vw.mslE rfl (by first | rfl | simp) rfl) (And.intro (Vw.same _ rfl) trivial)) (And.intro (And.intro rfl (BVw.enc e_TextEdit (fun _ => rfl) _ v17.2)) trivial)
    refine retI ?_
    cases h
    exact And.intro trivial (And.intro trivial (And.intro rfl (Vw.tupL (And.intro (Vw.frzB e_TextEdit e_TextEdit_ok (fun h => h) rfl rfl (by first | rfl | simp)) (And.intro (Vw.same _ rfl) trivial)))))

theorem f21_L1_bok {a0 : Int} {a1 : List G_tracedByte} {v5 : Int} {v6 : List Int} {v7 : Int} {v8 : List G_TextEdit} {m : Option Nat} {o : (Int × (List Int) × Int × (List G_TextEdit)) ⊕ ((List G_TextEdit) × Int)} (h : S_textedit_canonical_b1 m a0 a1 v5 v6 v7 v8 = some o) :
    LWp Try.prog f21_lay 0 f21_c2 (BodyQ 0 5 (f21_L1_env a0 a1) (f21_L1_hp a0 a1) (f21_L1_Q a0 a1) o) [(0, .int .i64 a0), (6, .ptr (0, 0) 0 0), (8, .ptr (1, 0) 0 0), (9, .fn (.func 30) [] [.ptr (2, 0) 0 0, .ptr (1, 0) 0 0, .ptr (0, 0) 0 0]), (13, .isl 2 (a1.map e_tracedByte) false), (14, .int .i64 ((a1.map e_tracedByte).length : Int)), (15, .int .i64 v5)] [((0, 0), .one [.msl (3, 0) 3 0 v8.length false]), ((1, 0), .one [.osl (4, 0) 1 (v6.map e_u8)]), ((2, 0), .one [.int .i64 v7]), ((3, 0), .rows 3 (v8.map e_TextEdit)), ((4, 0), .tok)] 5 := by
  unfold S_textedit_canonical_b1 at h
  refine seqI ?_
  refine regI ?_
  refine seqI ?_
  refine condI (v := (decide (v5 < ((a1.map e_tracedByte).length : Int)))) rfl trivial (fun h11 => ?_) (fun h11 => ?_)
  · have h := ite_tt h11 h
    refine skipI ?_
    refine seqI ?_
    refine blockI ?_
    refine seqI ?_
    refine regI ?_
    obtain ⟨h12, h⟩ := ite_some h
    refine And.intro h12 ?_
    refine Exists.intro (e_tracedByte (a1.getD v5.toNat default)) (And.intro (getD_enc e_tracedByte _ _ (idx_ltL e_tracedByte h12)) (And.intro (And.intro (idx_lt h12) (Nat.le_of_ble_eq_true rfl)) ?_))
    refine seqI ?_
    refine regI ?_
    refine LWp.sim (e := [(0, .int .i64 a0), (6, .ptr (0, 0) 0 0), (8, .ptr (1, 0) 0 0), (9, .fn (.func 30) [] [.ptr (2, 0) 0 0, .ptr (1, 0) 0 0, .ptr (0, 0) 0 0]), (11, .ptr (3, 0) 0 0), (13, .isl 2 (a1.map e_tracedByte) false), (14, .int .i64 ((a1.map e_tracedByte).length : Int)), (15, .int .i64 v5), (21, .bool ((a1.getD v5.toNat default).f_origin == (-1)))]) (L := [((0, 0), .one [.msl (4, 0) 3 0 v8.length false]), ((1, 0), .one [.osl (5, 0) 1 (v6.map e_u8)]), ((2, 0), .one [.int .i64 v7]), ((3, 0), .one [.int .u8 ((a1.getD v5.toNat default).f_value), .int .i64 ((a1.getD v5.toNat default).f_origin)]), ((4, 0), .rows 3 (v8.map e_TextEdit)), ((5, 0), .tok)]) (n := 6) ?_ ?_
    · exact simI (M := [((0, 0), (0, 0)), ((1, 0), (1, 0)), ((2, 0), (2, 0)), ((3, 0), (5, 0)), ((4, 0), (3, 0)), ((5, 0), (4, 0))]) rfl (And.intro (Vw.same _ rfl) (And.intro (Vw.ptr _ _ _ _ rfl) (And.intro (Vw.ptr _ _ _ _ rfl) (And.intro (Vw.fnL trivial (And.intro (Vw.ptr _ _ _ _ rfl) (And.intro (Vw.ptr _ _ _ _ rfl) (And.intro (Vw.ptr _ _ _ _ rfl) trivial)))) (And.intro (Vw.ptr _ _ _ _ rfl) (And.intro (Vw.same _ rfl) (And.intro (Vw.same _ rfl) (And.intro (Vw.same _ rfl) (And.intro (Vw.same _ rfl) trivial))))))))) (And.intro (And.intro rfl (BVw.oneL (And.intro (Vw.mslE rfl (by first | rfl | simp) rfl) trivial))) (And.intro (And.intro rfl (BVw.oneL (And.intro (Vw.osl _ _ _ _ rfl) trivial))) (And.intro (And.intro rfl (BVw.oneL (And.intro (Vw.same _ rfl) trivial))) (And.intro (And.intro rfl (BVw.oneL (And.intro (Vw.same _ rfl) (And.intro (Vw.same _ rfl) trivial)))) (And.intro (And.intro rfl (BVw.enc e_TextEdit (fun _ => rfl) _ v8)) (And.intro (And.intro rfl BVw.tok) trivial))))))
    refine condI (v := ((a1.getD v5.toNat default).f_origin == (-1))) rfl trivial (fun h13 => ?_) (fun h13 => ?_)
    · have h := ite_tt h13 h
      refine regI ?_
      obtain ⟨h14, h⟩ := ite_some h
      refine Exists.intro ((v6 ++ ([(a1.getD v5.toNat default).f_value] : List Int)).map e_u8) (And.intro (app_enc e_u8 v6 ([(a1.getD v5.toNat default).f_value] : List Int)) (And.intro h14 ?_))
      refine LWp.sim ?_ (f21_j3_ok h)
      exact simI (M := [((0, 0), (0, 0)), ((1, 0), (1, 0)), ((2, 0), (2, 0)), ((3, 0), (4, 0)), ((4, 0), (6, 0))]) rfl (And.intro (Vw.same _ rfl) (And.intro (Vw.ptr _ _ _ _ rfl) (And.intro (Vw.ptr _ _ _ _ rfl) (And.intro (Vw.fnL trivial (And.intro (Vw.ptr _ _ _ _ rfl) (And.intro (Vw.ptr _ _ _ _ rfl) (And.intro (Vw.ptr _ _ _ _ rfl) trivial)))) (And.intro (Vw.same _ rfl) (And.intro (Vw.same _ rfl) (And.intro (Vw.same _ rfl) trivial))))))) (And.intro (And.intro rfl (BVw.oneL (And.intro (Vw.mslE rfl (by first | rfl | simp) rfl) trivial))) (And.intro (And.intro rfl (BVw.oneL (And.intro (Vw.osl _ _ _ _ rfl) trivial))) (And.intro (And.intro rfl (BVw.oneL (And.intro (Vw.same _ rfl) trivial))) (And.intro (And.intro rfl (BVw.enc e_TextEdit (fun _ => rfl) _ v8)) (And.intro (And.intro rfl BVw.tok) trivial)))))
    · have h := ite_ff h13 h
      refine regI ?_
      obtain ⟨v13, h15, h⟩ := bind_some h
      refine bcall (k := 3) (m := 1) (L' := [((2, 0), .one [.int .i64 v13.1]), ((1, 0), .one [.val (.slice none 0 0)]), ((0, 0), .one [.msl (6, 0) 3 0 v13.2.length false]), ((6, 0), .rows 3 (v13.2.map e_TextEdit))]) (rest := [((3, 0), .one [.int .u8 ((a1.getD v5.toNat default).f_value), .int .i64 ((a1.getD v5.toNat default).f_origin)])]) (R' := .tup []) [((0, 0), (2, 0)), ((0, 1), (1, 0)), ((0, 2), (0, 0)), ((0, 3), (5, 0)), ((0, 4), (4, 0))] (f30b1_ok h15) rfl rfl rfl (And.intro (Vw.same _ rfl) (And.intro (Vw.ptr _ _ _ _ rfl) (And.intro (Vw.ptr _ _ _ _ rfl) (And.intro (Vw.ptr _ _ _ _ rfl) trivial)))) (And.intro (h0I (2, 0) rfl rfl (BVw.oneL (And.intro (Vw.same _ rfl) trivial))) (And.intro (h0I (1, 0) rfl rfl (BVw.oneL (And.intro (Vw.osl _ _ _ _ rfl) trivial))) (And.intro (h0I (0, 0) rfl rfl (BVw.oneL (And.intro (Vw.mslE rfl (by first | rfl | simp) rfl) trivial))) (And.intro (h0I (5, 0) rfl rfl BVw.tok) (And.intro (h0I (4, 0) rfl rfl (BVw.enc e_TextEdit (fun _ => rfl) _ v8)) trivial))))) (nid_ren _ rfl) (And.intro rfl (And.intro rfl (And.intro rfl (And.intro rfl (And.intro rfl (And.intro rfl (And.intro rfl (And.intro (rows_ren e_TextEdit (fun _ => rfl) _ _) trivial)))))))) rfl ?_
      refine LWp.sim ?_ (f21_j3_ok h)
      exact simI (M := [((0, 0), (0, 0)), ((1, 0), (1, 0)), ((2, 0), (2, 0)), ((3, 0), (6, 0))]) rfl (And.intro (Vw.same _ rfl) (And.intro (Vw.ptr _ _ _ _ rfl) (And.intro (Vw.ptr _ _ _ _ rfl) (And.intro (Vw.fnL trivial (And.intro (Vw.ptr _ _ _ _ rfl) (And.intro (Vw.ptr _ _ _ _ rfl) (And.intro (Vw.ptr _ _ _ _ rfl) trivial)))) (And.intro (Vw.same _ rfl) (And.intro (Vw.same _ rfl) (And.intro (Vw.same _ rfl) trivial))))))) (And.intro (And.intro rfl (BVw.oneL (And.intro (Vw.mslE rfl (by first | rfl | simp) rfl) trivial))) (And.intro (And.intro rfl (BVw.oneL (And.intro (Vw.nilO _ _ (by decide)) trivial))) (And.intro (And.intro rfl (BVw.oneL (And.intro (Vw.same _ rfl) trivial))) (And.intro (And.intro rfl (BVw.enc e_TextEdit (fun _ => rfl) _ v13.2)) (And.intro (And.intro rfl (And.intro (by decide) (by decide))) trivial)))))
  · have h := ite_ff h11 h
    refine exitI ?_
    obtain ⟨o, hq, rfl⟩ := Option.map_eq_some_iff.1 h
    replace h := hq; clear hq
    refine And.intro nofun ?_
    refine LWp.sim ?_ (f21_j4_ok h)
    exact simI (M := [((0, 0), (0, 0)), ((1, 0), (2, 0)), ((2, 0), (1, 0)), ((3, 0), (3, 0)), ((4, 0), (4, 0))]) rfl (And.intro (Vw.same _ rfl) (And.intro (Vw.ptr _ _ _ _ rfl) (And.intro (Vw.fnL trivial (And.intro (Vw.ptr _ _ _ _ rfl) (And.intro (Vw.ptr _ _ _ _ rfl) (And.intro (Vw.ptr _ _ _ _ rfl) trivial)))) trivial))) (And.intro (And.intro rfl (BVw.oneL (And.intro (Vw.mslE rfl (by first | rfl | simp) rfl) trivial))) (And.intro (And.intro rfl (BVw.oneL (And.intro (Vw.same _ rfl) trivial))) (And.intro (And.intro rfl (BVw.oneL (And.intro (Vw.osl _ _ _ _ rfl) trivial))) (And.intro (And.intro rfl (BVw.enc e_TextEdit (fun _ => rfl) _ v8)) (And.intro (And.intro rfl BVw.tok) trivial)))))

theorem f21_L1_ok {a0 : Int} {a1 : List G_tracedByte} {v5 : Int} {v6 : List Int} {v7 : Int} {v8 : List G_TextEdit} {m : Option Nat} {o : ((List G_TextEdit) × Int)} (h : S_textedit_canonical_l1 m a0 a1 v5 v6 v7 v8 = some o) :
    LWp Try.prog f21_lay 0 (.loop f21_c2) (QBlock 0 (QSeq Try.prog f21_lay 0 f21_c0 (f21_Q a0 a1 o))) [(0, .int .i64 a0), (6, .ptr (0, 0) 0 0), (8, .ptr (1, 0) 0 0), (9, .fn (.func 30) [] [.ptr (2, 0) 0 0, .ptr (1, 0) 0 0, .ptr (0, 0) 0 0]), (13, .isl 2 (a1.map e_tracedByte) false), (14, .int .i64 ((a1.map e_tracedByte).length : Int)), (15, .int .i64 v5)] [((0, 0), .one [.msl (3, 0) 3 0 v8.length false]), ((1, 0), .one [.osl (4, 0) 1 (v6.map e_u8)]), ((2, 0), .one [.int .i64 v7]), ((3, 0), .rows 3 (v8.map e_TextEdit)), ((4, 0), .tok)] 5 :=
  LWp_loopM (m := m) (s := ((v5, v6, v7, v8) : (Int × (List Int) × Int × (List G_TextEdit)))) (r := o) (fun (s : (Int × (List Int) × Int × (List G_TextEdit))) => S_textedit_canonical_b1 m a0 a1 s.1 s.2.1 s.2.2.1 s.2.2.2) (f21_L1_env a0 a1) (f21_L1_hp a0 a1) (f21_L1_Q a0 a1) (fun s o h => f21_L1_bok h) h

noncomputable def S_textedit_canonical (m : Option Nat) (a0 : Int) (a1 : List G_tracedByte) : Option ((List G_TextEdit) × Int) :=
  S_textedit_canonical_l1 m a0 a1 0 ([] : List Int) 0 ([] : List G_TextEdit)

theorem f21_start {a0 : Int} {a1 : List G_tracedByte} {m : Option Nat} {o : (List G_TextEdit) × Int} (h : S_textedit_canonical m a0 a1 = some o) : LWp Try.prog f21_lay 0 f21_c3 (f21_Q a0 a1 o) (initEnv 0 [.int .i64 a0, .isl 2 (a1.map e_tracedByte) false]) [] 0 := by
  unfold S_textedit_canonical at h
  refine seqI ?_
  refine regI ?_
  refine seqI ?_
  refine regI ?_
  refine LWp.ghost (b := (0, 0)) 3 rfl rfl ?_
  refine LWp.sim (e := [(0, .int .i64 a0), (1, .isl 2 (a1.map e_tracedByte) false), (6, .ptr (0, 0) 0 0)]) (L := [((0, 0), .one [.msl (1, 0) 3 0 (([] : List G_TextEdit).length) false]), ((1, 0), .rows 3 (([] : List G_TextEdit).map e_TextEdit))]) (n := 2) ?_ ?_
  · exact simI (M := [((0, 0), (0, 0)), ((1, 0), (1, 0))]) rfl (And.intro (Vw.same _ rfl) (And.intro (Vw.same _ rfl) (And.intro (Vw.ptr _ _ _ _ rfl) trivial))) (And.intro (And.intro rfl (BVw.oneL (And.intro (Vw.islM _ _ _ _ _ _ rfl rfl) trivial))) (And.intro (And.intro rfl (BVw.enc e_TextEdit (fun _ => rfl) _ ([] : List G_TextEdit))) trivial))
  refine seqI ?_
  refine regI ?_
  refine seqI ?_
  refine regI ?_
  refine seqI ?_
  refine regI ?_
  refine seqI ?_
  refine seqI ?_
  refine regI ?_
  refine LWp.sim (e := [(0, .int .i64 a0), (6, .ptr (0, 0) 0 0), (8, .ptr (1, 0) 0 0), (9, .fn (.func 30) [] [.ptr (2, 0) 0 0, .ptr (1, 0) 0 0, .ptr (0, 0) 0 0]), (13, .isl 2 (a1.map e_tracedByte) false), (14, .int .i64 ((a1.map e_tracedByte).length : Int)), (15, .int .i64 0)]) (L := [((0, 0), .one [.msl (3, 0) 3 0 (([] : List G_TextEdit).length) false]), ((1, 0), .one [.isl 1 (([] : List Int).map e_u8) true]), ((2, 0), .one [.int .i64 0]), ((3, 0), .rows 3 (([] : List G_TextEdit).map e_TextEdit))]) (n := 4) ?_ ?_
  · exact simI (M := [((0, 0), (0, 0)), ((1, 0), (3, 0)), ((2, 0), (2, 0)), ((3, 0), (1, 0))]) rfl (And.intro (Vw.same _ rfl) (And.intro (Vw.ptr _ _ _ _ rfl) (And.intro (Vw.ptr _ _ _ _ rfl) (And.intro (Vw.fnL trivial (And.intro (Vw.ptr _ _ _ _ rfl) (And.intro (Vw.ptr _ _ _ _ rfl) (And.intro (Vw.ptr _ _ _ _ rfl) trivial)))) (And.intro (Vw.same _ rfl) (And.intro (Vw.same _ rfl) (And.intro (Vw.same _ rfl) trivial))))))) (And.intro (And.intro rfl (BVw.oneL (And.intro (Vw.mslE rfl (by first | rfl | simp) rfl) trivial))) (And.intro (And.intro rfl (BVw.oneL (And.intro (Vw.same _ rfl) trivial))) (And.intro (And.intro rfl (BVw.oneL (And.intro (Vw.same _ rfl) trivial))) (And.intro (And.intro rfl (BVw.enc e_TextEdit (fun _ => rfl) _ ([] : List G_TextEdit))) trivial))))
  refine blockI ?_
  refine LWp.sim ?_ (f21_L1_ok h)
  exact simI (M := [((0, 0), (0, 0)), ((1, 0), (1, 0)), ((2, 0), (2, 0)), ((3, 0), (3, 0))]) rfl (And.intro (Vw.same _ rfl) (And.intro (Vw.ptr _ _ _ _ rfl) (And.intro (Vw.ptr _ _ _ _ rfl) (And.intro (Vw.fnL trivial (And.intro (Vw.ptr _ _ _ _ rfl) (And.intro (Vw.ptr _ _ _ _ rfl) (And.intro (Vw.ptr _ _ _ _ rfl) trivial)))) (And.intro (Vw.same _ rfl) (And.intro (Vw.same _ rfl) (And.intro (Vw.same _ rfl) trivial))))))) (And.intro (And.intro rfl (BVw.oneL (And.intro (Vw.mslE rfl (by first | rfl | simp) rfl) trivial))) (And.intro (And.intro rfl (BVw.oneL (And.intro (Vw.islO _ _ _ (by decide)) trivial))) (And.intro (And.intro rfl (BVw.oneL (And.intro (Vw.same _ rfl) trivial))) (And.intro (And.intro rfl (BVw.enc e_TextEdit (fun _ => rfl) _ ([] : List G_TextEdit))) (And.intro (And.intro rfl (And.intro (by decide) (by decide))) trivial)))))

theorem f21_ok {a0 : Int} {a1 : List G_tracedByte} {m : Option Nat} {o : (List G_TextEdit) × Int} (h : S_textedit_canonical m a0 a1 = some o) : PFn Try.prog 21 [.int .i64 a0, .isl 2 (a1.map e_tracedByte) false] (.tup [.isl 3 (o.1.map e_TextEdit) false, .int .i64 o.2]) := PFn.ofFnW (L := f21_L) f21_low f21_fok (Nat.le_of_ble_eq_true rfl) rfl (f21_start h)

def f14_c0 : LCode := (.seq (.seq (.region [⟨some 21, .mv (.t 9), none⟩,
   ⟨some 22, .bin .neq (.t 21) (.c (.int .i64 0)), none⟩])
 (.cond (.t 22)
  (.seq (.region [⟨some 23, .mv (.t 9), none⟩,
    ⟨some 6, .mv (.c (.val (.slice none 0 0))), none⟩,
    ⟨some 7, .mv (.t 23), none⟩])
  .ret)
  .skip))
 (.seq (.region [⟨some 24, .mv (.t 0), none⟩,
   ⟨some 25, .len true (.t 24), none⟩,
   ⟨some 26, .mv (.t 0), none⟩,
   ⟨some 27, .call 23 [(.t 26)], none⟩,
   ⟨some 28, .mv (.t 1), none⟩,
   ⟨some 29, .call 22 [(.t 27), (.t 28)], none⟩,
   ⟨some 30, .mv (.t 2), none⟩,
   ⟨some 31, .call 22 [(.t 29), (.t 30)], none⟩,
   ⟨some 32, .call 21 [(.t 25), (.t 31)], none⟩,
   ⟨some 33, .ext 0 (.t 32), none⟩,
   ⟨some 34, .ext 1 (.t 32), none⟩,
   ⟨some 6, .mv (.t 33), none⟩,
   ⟨some 7, .mv (.t 34), none⟩])
 .ret))
def f14_c1 : LCode := (.seq (.region [⟨some 6, .mv (.c (.val (.slice none 0 0))), none⟩,
   ⟨some 7, .mv (.c (.int .i64 0)), none⟩])
 (.seq (.region [⟨some 11, .mv (.t 0), none⟩,
   ⟨some 12, .mv (.t 1), none⟩,
   ⟨some 13, .call 7 [(.t 11), (.t 12)], none⟩,
   ⟨some 10, .mv (.t 13), none⟩,
   ⟨some 14, .ext 0 (.t 10), none⟩,
   ⟨some 15, .ext 1 (.t 10), none⟩,
   ⟨some 8, .mv (.t 14), none⟩,
   ⟨some 9, .mv (.t 15), none⟩])
 (.seq (.seq (.region [⟨some 16, .mv (.t 9), none⟩,
   ⟨some 17, .bin .eql (.t 16) (.c (.int .i64 0)), none⟩])
 (.cond (.t 17)
  (.region [⟨some 18, .mv (.t 8), none⟩,
    ⟨some 19, .mv (.t 2), none⟩,
    ⟨some 20, .call 12 [(.t 18), (.t 19)], none⟩,
    ⟨some 9, .mv (.t 20), none⟩])
  .skip))
 f14_c0)))
def f14_lay : Lay := ⟨35, [], false⟩
def f14_res : List LRes := [.t 6, .t 7]
def f14_L : LFn := ⟨3, f14_lay, f14_c1, f14_res⟩
theorem f14_low : lowFn Try.prog [] 14 = some f14_L := by kernel_rfl
theorem f14_fok : FnOk Try.prog 14 := ⟨_, Try.func14, rfl, rfl⟩
noncomputable def S_textedit_Compose_j1 (m : Option Nat) (a0 : List UInt8) (a1 : List G_TextEdit) (a2 : List G_TextEdit) (v3 : Int) : Option ((List G_TextEdit) × Int) :=
  if (v3 != 0) = true then
    some ([], v3)
  else
    (S_textedit_trace m a0).bind fun v4 =>
    (S_textedit_applyTraced m v4 a1).bind fun v5 =>
    (S_textedit_applyTraced m v5 a2).bind fun v6 =>
    (S_textedit_canonical m (a0.length : Int) v6).bind fun v7 =>
    some (v7.1, v7.2)

def f14_Q (a0 : List UInt8) (a1 : List G_TextEdit) (a2 : List G_TextEdit) (o : (List G_TextEdit) × Int) : Exit → Env → AHeap → Nat → Prop := FinK f14_res (PureEnd (.tup [.isl 3 (o.1.map e_TextEdit) false, .int .i64 o.2]))

theorem f14_j1_ok {a0 : List UInt8} {a1 : List G_TextEdit} {a2 : List G_TextEdit} {v3 : Int} {m : Option Nat} {o : ((List G_TextEdit) × Int)} (h : S_textedit_Compose_j1 m a0 a1 a2 v3 = some o) :
    LWp Try.prog f14_lay 0 f14_c0 (f14_Q a0 a1 a2 o) [(0, .str a0), (1, .isl 3 (a1.map e_TextEdit) false), (2, .isl 3 (a2.map e_TextEdit) false), (9, .int .i64 v3)] [] 0 := by
  unfold S_textedit_Compose_j1 at h
  refine seqI ?_
  refine seqI ?_
  refine regI ?_
  refine condI (v := (v3 != 0)) rfl trivial (fun h4 => ?_) (fun h4 => ?_)
  · have h := ite_tt h4 h
    refine seqI ?_
    refine regI ?_
    refine retI ?_
    cases h
    exact And.intro trivial (And.intro trivial (And.intro rfl (Vw.tupL (And.intro (Vw.nilI _ _) (And.intro (Vw.same _ rfl) trivial)))))
  · have h := ite_ff h4 h
    refine skipI ?_
    refine seqI ?_
    refine regI ?_
    obtain ⟨v4, h5, h⟩ := bind_some h
    refine PFn.call (f23_ok h5) (And.intro (Vw.same _ rfl) trivial) ?_
    show yops _ _ _ [(27, .isl 2 (v4.map e_tracedByte) false), (26, .str a0), (25, .int .i64 (a0.length : Int)), (24, .str a0), (22, .bool (v3 != 0)), (21, .int .i64 v3), (0, .str a0), (1, .isl 3 (a1.map e_TextEdit) false), (2, .isl 3 (a2.map e_TextEdit) false), (9, .int .i64 v3)] _ _
    obtain ⟨v5, h6, h⟩ := bind_some h
    refine PFn.call (f22_ok h6) (And.intro (Vw.same _ rfl) (And.intro (Vw.same _ rfl) trivial)) ?_
    obtain ⟨v6, h7, h⟩ := bind_some h
    refine PFn.call (f22_ok h7) (And.intro (Vw.same _ rfl) (And.intro (Vw.same _ rfl) trivial)) ?_
    obtain ⟨v7, h8, h⟩ := bind_some h
    refine PFn.call (f21_ok h8) (And.intro (Vw.same _ rfl) (And.intro (Vw.same _ rfl) trivial)) ?_
    show yops _ _ _ [(32, .tup [.isl 3 (v7.1.map e_TextEdit) false, .int .i64 v7.2]), (31, .isl 2 (v6.map e_tracedByte) false), (30, .isl 3 (a2.map e_TextEdit) false), (29, .isl 2 (v5.map e_tracedByte) false), (28, .isl 3 (a1.map e_TextEdit) false), (27, .isl 2 (v4.map e_tracedByte) false), (26, .str a0), (25, .int .i64 (a0.length : Int)), (24, .str a0), (22, .bool (v3 != 0)), (21, .int .i64 v3), (0, .str a0), (1, .isl 3 (a1.map e_TextEdit) false), (2, .isl 3 (a2.map e_TextEdit) false), (9, .int .i64 v3)] _ _
    refine LWp.sim (e := [(6, .isl 3 (v7.1.map e_TextEdit) false), (7, .int .i64 v7.2)]) (L := []) (n := 0) ?_ ?_
    · exact simI (M := []) rfl (And.intro (Vw.same _ rfl) (And.intro (Vw.same _ rfl) trivial)) trivial
    refine retI ?_
    cases h
    exact And.intro trivial (And.intro trivial (And.intro rfl (Vw.same _ rfl)))

noncomputable def S_textedit_Compose (m : Option Nat) (a0 : List UInt8) (a1 : List G_TextEdit) (a2 : List G_TextEdit) : Option ((List G_TextEdit) × Int) :=
  (S_textedit_Apply m a0 a1).bind fun v1 =>
  if (v1.2 == 0) = true then
    (S_textedit_Validate m v1.1 a2).bind fun v2 =>
    S_textedit_Compose_j1 m a0 a1 a2 v2
  else
    S_textedit_Compose_j1 m a0 a1 a2 v1.2

theorem f14_start {a0 : List UInt8} {a1 : List G_TextEdit} {a2 : List G_TextEdit} {m : Option Nat} {o : (List G_TextEdit) × Int} (h : S_textedit_Compose m a0 a1 a2 = some o) : LWp Try.prog f14_lay 0 f14_c1 (f14_Q a0 a1 a2 o) (initEnv 0 [.str a0, .isl 3 (a1.map e_TextEdit) false, .isl 3 (a2.map e_TextEdit) false]) [] 0 := by
  unfold S_textedit_Compose at h
  refine seqI ?_
  refine regI ?_
  refine seqI ?_
  refine regI ?_
  obtain ⟨v1, h1, h⟩ := bind_some h
  refine PFn.call (f7_ok h1) (And.intro (Vw.same _ rfl) (And.intro (Vw.same _ rfl) trivial)) ?_
  show yops _ _ _ [(13, .tup [.str v1.1, .int .i64 v1.2]), (12, .isl 3 (a1.map e_TextEdit) false), (11, .str a0), (7, .int .i64 0), (6, .val (.slice none 0 0)), (0, .str a0), (1, .isl 3 (a1.map e_TextEdit) false), (2, .isl 3 (a2.map e_TextEdit) false)] _ _
  refine LWp.sim (e := [(0, .str a0), (1, .isl 3 (a1.map e_TextEdit) false), (2, .isl 3 (a2.map e_TextEdit) false), (8, .str v1.1), (9, .int .i64 v1.2)]) (L := []) (n := 0) ?_ ?_
  · exact simI (M := []) rfl (And.intro (Vw.same _ rfl) (And.intro (Vw.same _ rfl) (And.intro (Vw.same _ rfl) (And.intro (Vw.same _ rfl) (And.intro (Vw.same _ rfl) trivial))))) trivial
  refine seqI ?_
  refine seqI ?_
  refine regI ?_
  refine condI (v := (v1.2 == 0)) rfl trivial (fun h2 => ?_) (fun h2 => ?_)
  · have h := ite_tt h2 h
    refine regI ?_
    obtain ⟨v2, h3, h⟩ := bind_some h
    refine PFn.call (f12_ok h3) (And.intro (Vw.same _ rfl) (And.intro (Vw.same _ rfl) trivial)) ?_
    show yops _ _ _ [(20, .int .i64 v2), (19, .isl 3 (a2.map e_TextEdit) false), (18, .str v1.1), (17, .bool (v1.2 == 0)), (16, .int .i64 v1.2), (0, .str a0), (1, .isl 3 (a1.map e_TextEdit) false), (2, .isl 3 (a2.map e_TextEdit) false), (8, .str v1.1), (9, .int .i64 v1.2)] _ _
    refine LWp.sim ?_ (f14_j1_ok h)
    exact simI (M := []) rfl (And.intro (Vw.same _ rfl) (And.intro (Vw.same _ rfl) (And.intro (Vw.same _ rfl) (And.intro (Vw.same _ rfl) trivial)))) trivial
  · have h := ite_ff h2 h
    refine skipI ?_
    refine LWp.sim ?_ (f14_j1_ok h)
    exact simI (M := []) rfl (And.intro (Vw.same _ rfl) (And.intro (Vw.same _ rfl) (And.intro (Vw.same _ rfl) (And.intro (Vw.same _ rfl) trivial)))) trivial

theorem f14_ok {a0 : List UInt8} {a1 : List G_TextEdit} {a2 : List G_TextEdit} {m : Option Nat} {o : (List G_TextEdit) × Int} (h : S_textedit_Compose m a0 a1 a2 = some o) : PFn Try.prog 14 [.str a0, .isl 3 (a1.map e_TextEdit) false, .isl 3 (a2.map e_TextEdit) false] (.tup [.isl 3 (o.1.map e_TextEdit) false, .int .i64 o.2]) := PFn.ofFnW (L := f14_L) f14_low f14_fok (Nat.le_of_ble_eq_true rfl) rfl (f14_start h)

def f25b0_c0 : LCode := (.seq (.region [⟨some 35, .bin .lss (.t 34) (.t 33), none⟩])
 (.seq (.cond (.t 35)
  .skip
  (.exit 0))
 (.seq (.block 1
  (.seq (.region [⟨some 36, .iaddr 1 (.t 32) (.t 34), none⟩,
    ⟨some 37, .load false 1 (.t 36), none⟩,
    ⟨some 7, .mv (.t 37), none⟩])
  (.seq (.draw [⟨⟨some 38, .mv (.t 0), none⟩, []⟩,
    ⟨⟨some 39, .mv (.t 0), none⟩, []⟩,
    ⟨⟨some 40, .nilck (.t 39), none⟩, []⟩,
    ⟨⟨some 41, .faddr 2 (.t 40), none⟩, []⟩,
    ⟨⟨some 42, .load false 1 (.t 41), none⟩, []⟩,
    ⟨⟨some 43, .mv (.t 7), none⟩, []⟩,
    ⟨⟨some 44, .mv (.t 0), none⟩, []⟩,
    ⟨⟨some 45, .nilck (.t 44), none⟩, []⟩,
    ⟨⟨some 46, .faddr 1 (.t 45), none⟩, []⟩,
    ⟨⟨some 47, .load false 1 (.t 46), none⟩, []⟩,
    ⟨⟨some 48, .build [(.int .u8 0), (.int .i64 0)] [(0, 1, (.t 43)), (1, 1, (.t 47))], none⟩, []⟩,
    ⟨⟨some 49, .mkSl true 2 [(.int .u8 0), (.int .i64 0)] 1 [(0, (.t 48))], none⟩, [4]⟩,
    ⟨⟨some 50, .app false 2 16 (.t 42) (.t 49), none⟩, []⟩,
    ⟨⟨some 51, .nilck (.t 38), none⟩, []⟩,
    ⟨⟨some 52, .faddr 2 (.t 51), none⟩, []⟩,
    ⟨⟨none, .store 1 (.t 52) (.t 50), none⟩, []⟩])
  (.seq (.region [⟨some 53, .mv (.t 2), none⟩,
    ⟨some 54, .mv (.t 2), none⟩,
    ⟨some 55, .nilck (.t 54), none⟩,
    ⟨some 56, .faddr 2 (.t 55), none⟩,
    ⟨some 57, .load false 1 (.t 56), none⟩,
    ⟨some 58, .mv (.t 7), none⟩,
    ⟨some 59, .build [(.int .u8 0), (.int .i64 0)] [(0, 1, (.t 58)), (1, 1, (.c (.int .i64 (-1))))], none⟩,
    ⟨some 60, .mkSl true 2 [(.int .u8 0), (.int .i64 0)] 1 [(0, (.t 59))], none⟩,
    ⟨some 61, .app false 2 16 (.t 57) (.t 60), none⟩,
    ⟨some 62, .nilck (.t 53), none⟩,
    ⟨some 63, .faddr 2 (.t 62), none⟩,
    ⟨none, .store 1 (.t 63) (.t 61), none⟩])
  (.region [⟨some 64, .mv (.t 0), none⟩,
    ⟨some 65, .nilck (.t 64), none⟩,
    ⟨some 66, .faddr 1 (.t 65), none⟩,
    ⟨some 67, .load false 1 (.t 66), none⟩,
    ⟨some 68, .bin .add (.t 67) (.c (.int .i64 1)), none⟩,
    ⟨some 69, .nilck (.t 64), none⟩,
    ⟨some 70, .faddr 1 (.t 69), none⟩,
    ⟨none, .store 1 (.t 70) (.t 68), none⟩])))))
 (.region [⟨some 71, .bin .add (.t 34) (.c (.int .i64 1)), none⟩,
   ⟨some 34, .mv (.t 71), none⟩]))))
def f25b0_c1 : LCode := (.seq (.seq (.region [⟨some 8, .mv (.t 0), none⟩,
   ⟨some 9, .nilck (.t 8), none⟩,
   ⟨some 10, .faddr 0 (.t 9), none⟩,
   ⟨some 11, .load false 1 (.t 10), none⟩,
   ⟨some 12, .len false (.t 11), none⟩,
   ⟨some 13, .bin .eql (.t 12) (.c (.int .i64 0)), none⟩,
   ⟨some 14, .mv (.t 13), none⟩,
   ⟨some 15, .mv (.t 0), some (14, false)⟩,
   ⟨some 16, .nilck (.t 15), some (14, false)⟩,
   ⟨some 17, .faddr 0 (.t 16), some (14, false)⟩,
   ⟨some 18, .load false 1 (.t 17), some (14, false)⟩,
   ⟨some 19, .iaddr 3 (.t 18) (.c (.int .i64 0)), some (14, false)⟩,
   ⟨some 20, .faddr 0 (.t 19), some (14, false)⟩,
   ⟨some 21, .load false 1 (.t 20), some (14, false)⟩,
   ⟨some 22, .mv (.t 1), some (14, false)⟩,
   ⟨some 23, .bin .neq (.t 21) (.t 22), some (14, false)⟩,
   ⟨some 24, .pick (.t 14) (.c (.bool true)) (.t 23), none⟩])
 (.cond (.t 24)
  .ret
  .skip))
 (.seq (.region [⟨some 25, .mv (.t 0), none⟩,
   ⟨some 26, .nilck (.t 25), none⟩,
   ⟨some 27, .faddr 0 (.t 26), none⟩,
   ⟨some 28, .load false 1 (.t 27), none⟩,
   ⟨some 29, .iaddr 3 (.t 28) (.c (.int .i64 0)), none⟩,
   ⟨some 30, .faddr 2 (.t 29), none⟩,
   ⟨some 31, .load false 1 (.t 30), none⟩,
   ⟨some 32, .conv (.s2b true) (.t 31), none⟩,
   ⟨some 33, .len false (.t 32), none⟩,
   ⟨some 34, .mv (.c (.int .i64 0)), none⟩])
 (.block 0
  (.loop
   f25b0_c0))))
def f25b0_lay : Lay := ⟨72, [50, 61], false⟩
def f25b0_res : List LRes := []
def f25b0_L : LFn := ⟨3, f25b0_lay, f25b0_c1, f25b0_res⟩
theorem f25b0_low : lowFn Try.prog [50, 61] 25 = some f25b0_L := by kernel_rfl
theorem f25b0_fok : FnOk Try.prog 25 := ⟨_, Try.func25, rfl, rfl⟩
def f25b0_Q (a0 : Int) (a1 : List G_TextEdit) (a2 : Int) (a3 : List G_TextEdit) (a4 : Int) (a5 : List G_tracedByte) (a6 : List G_tracedByte) (o : Int × (List G_tracedByte) × (List G_tracedByte)) : Exit → Env → AHeap → Nat → Prop := FinK f25b0_res (FinTo 3 5 (.tup []) [((0, 0), .one [.isl 3 (a1.map e_TextEdit) false, .int .i64 o.1, .msl (3, 0) 2 0 o.2.1.length false]), ((0, 1), .one [.isl 3 (a3.map e_TextEdit) false, .int .i64 a4, .msl (4, 0) 2 0 o.2.2.length false]), ((3, 0), .rows 2 (o.2.1.map e_tracedByte)), ((4, 0), .rows 2 (o.2.2.map e_tracedByte))])

def f25b0_L1_env (a1 : List G_TextEdit) (a3 : List G_TextEdit) (a4 : Int) (s : (Int × Int × (List G_tracedByte) × (List G_tracedByte))) : Env := [(0, .ptr (0, 0) 0 0), (2, .ptr (0, 1) 0 0), (32, .isl 1 ((((a1.getD ((0 : Int).toNat) default).f_NewText).map ofU8).map e_u8) false), (33, .int .i64 (((((a1.getD ((0 : Int).toNat) default).f_NewText).map ofU8).map e_u8).length : Int)), (34, .int .i64 s.2.1)]
def f25b0_L1_hp (a1 : List G_TextEdit) (a3 : List G_TextEdit) (a4 : Int) (s : (Int × Int × (List G_tracedByte) × (List G_tracedByte))) : AHeap := [((0, 0), .one [.isl 3 (a1.map e_TextEdit) false, .int .i64 s.1, .msl (3, 0) 2 0 s.2.2.1.length false]), ((0, 1), .one [.isl 3 (a3.map e_TextEdit) false, .int .i64 a4, .msl (4, 0) 2 0 s.2.2.2.length false]), ((3, 0), .rows 2 (s.2.2.1.map e_tracedByte)), ((4, 0), .rows 2 (s.2.2.2.map e_tracedByte))]
def f25b0_L1_Q (a0 : Int) (a1 : List G_TextEdit) (a2 : Int) (a3 : List G_TextEdit) (a4 : Int) (a5 : List G_tracedByte) (a6 : List G_tracedByte) (o : (Int × (List G_tracedByte) × (List G_tracedByte))) : Exit → Env → AHeap → Nat → Prop := (QBlock 0 (f25b0_Q a0 a1 a2 a3 a4 a5 a6 o))

noncomputable def S_textedit_merger_insert_b1 (m : Option Nat) (a1 : List G_TextEdit) (a3 : List G_TextEdit) (a4 : Int) (v1 : Int) (v2 : Int) (v3 : List G_tracedByte) (v4 : List G_tracedByte) : Option ((Int × Int × (List G_tracedByte) × (List G_tracedByte)) ⊕ (Int × (List G_tracedByte) × (List G_tracedByte))) :=
  if (decide (v2 < (((((a1.getD ((0 : Int).toNat) default).f_NewText).map ofU8).map e_u8).length : Int))) = true then
    if (0 : Int) ≤ v2 ∧ v2 < (((((a1.getD ((0 : Int).toNat) default).f_NewText).map ofU8).map e_u8).length : Int) then
    if ((v3 ++ ([(G_tracedByte.mk ((((a1.getD ((0 : Int).toNat) default).f_NewText).map ofU8).getD v2.toNat default) v1)] : List G_tracedByte)).map e_tracedByte).length * 16 ≤ 140737488355328 then
    if ((v4 ++ ([(G_tracedByte.mk ((((a1.getD ((0 : Int).toNat) default).f_NewText).map ofU8).getD v2.toNat default) (-1))] : List G_tracedByte)).map e_tracedByte).length * 16 ≤ 140737488355328 then
    some (.inl ((W (v1 + 1)), (W (v2 + 1)), (v3 ++ ([(G_tracedByte.mk ((((a1.getD ((0 : Int).toNat) default).f_NewText).map ofU8).getD v2.toNat default) v1)] : List G_tracedByte)), (v4 ++ ([(G_tracedByte.mk ((((a1.getD ((0 : Int).toNat) default).f_NewText).map ofU8).getD v2.toNat default) (-1))] : List G_tracedByte))))
    else none
    else none
    else none
  else
    Option.map Sum.inr (
      some (v1, v3, v4))

noncomputable def S_textedit_merger_insert_l1 (m : Option Nat) (a1 : List G_TextEdit) (a3 : List G_TextEdit) (a4 : Int) (v1 : Int) (v2 : Int) (v3 : List G_tracedByte) (v4 : List G_tracedByte) : Option (Int × (List G_tracedByte) × (List G_tracedByte)) := loopM m (fun (s : (Int × Int × (List G_tracedByte) × (List G_tracedByte))) => S_textedit_merger_insert_b1 m a1 a3 a4 s.1 s.2.1 s.2.2.1 s.2.2.2) (v1, v2, v3, v4)

theorem f25b0_L1_bok {a0 : Int} {a2 : Int} {a5 : List G_tracedByte} {a6 : List G_tracedByte} {a1 : List G_TextEdit} {a3 : List G_TextEdit} {a4 : Int} {v1 : Int} {v2 : Int} {v3 : List G_tracedByte} {v4 : List G_tracedByte} {m : Option Nat} {o : (Int × Int × (List G_tracedByte) × (List G_tracedByte)) ⊕ (Int × (List G_tracedByte) × (List G_tracedByte))} (h : S_textedit_merger_insert_b1 m a1 a3 a4 v1 v2 v3 v4 = some o) :
    LWp Try.prog f25b0_lay 3 f25b0_c0 (BodyQ 3 5 (f25b0_L1_env a1 a3 a4) (f25b0_L1_hp a1 a3 a4) (f25b0_L1_Q a0 a1 a2 a3 a4 a5 a6) o) [(0, .ptr (0, 0) 0 0), (2, .ptr (0, 1) 0 0), (32, .isl 1 ((((a1.getD ((0 : Int).toNat) default).f_NewText).map ofU8).map e_u8) false), (33, .int .i64 (((((a1.getD ((0 : Int).toNat) default).f_NewText).map ofU8).map e_u8).length : Int)), (34, .int .i64 v2)] [((0, 0), .one [.isl 3 (a1.map e_TextEdit) false, .int .i64 v1, .msl (3, 0) 2 0 v3.length false]), ((0, 1), .one [.isl 3 (a3.map e_TextEdit) false, .int .i64 a4, .msl (4, 0) 2 0 v4.length false]), ((3, 0), .rows 2 (v3.map e_tracedByte)), ((4, 0), .rows 2 (v4.map e_tracedByte))] 5 := by
  unfold S_textedit_merger_insert_b1 at h
  refine seqI ?_
  refine regI ?_
  refine seqI ?_
  refine condI (v := (decide (v2 < (((((a1.getD ((0 : Int).toNat) default).f_NewText).map ofU8).map e_u8).length : Int)))) rfl trivial (fun h12 => ?_) (fun h12 => ?_)
  · have h := ite_tt h12 h
    refine skipI ?_
    refine seqI ?_
    refine blockI ?_
    refine seqI ?_
    refine regI ?_
    obtain ⟨h13, h⟩ := ite_some h
    refine And.intro h13 ?_
    refine Exists.intro (e_u8 ((((a1.getD ((0 : Int).toNat) default).f_NewText).map ofU8).getD v2.toNat default)) (And.intro (getD_enc e_u8 _ _ (idx_ltL e_u8 h13)) (And.intro (And.intro (idx_lt h13) (Nat.le_of_ble_eq_true rfl)) ?_))
    refine seqI ?_
    refine drawI ?_
    refine And.intro rfl ?_
    obtain ⟨h14, h⟩ := ite_some h
    refine And.intro (fun h => Bool.noConfusion h) (And.intro (lenW e_tracedByte (by first | rfl | simp)) (Exists.intro ((v3 ++ ([(G_tracedByte.mk ((((a1.getD ((0 : Int).toNat) default).f_NewText).map ofU8).getD v2.toNat default) v1)] : List G_tracedByte)).map e_tracedByte) (And.intro (appW e_tracedByte v3 ([(G_tracedByte.mk ((((a1.getD ((0 : Int).toNat) default).f_NewText).map ofU8).getD v2.toNat default) v1)] : List G_tracedByte) (by first | rfl | simp)) (And.intro h14 ?_))))
    refine LWp.sim (e := [(0, .ptr (0, 0) 0 0), (2, .ptr (0, 1) 0 0), (7, .int .u8 ((((a1.getD ((0 : Int).toNat) default).f_NewText).map ofU8).getD v2.toNat default)), (32, .isl 1 ((((a1.getD ((0 : Int).toNat) default).f_NewText).map ofU8).map e_u8) false), (33, .int .i64 (((((a1.getD ((0 : Int).toNat) default).f_NewText).map ofU8).map e_u8).length : Int)), (34, .int .i64 v2)]) (L := [((0, 0), .one [.isl 3 (a1.map e_TextEdit) false, .int .i64 v1, .msl (3, 0) 2 0 (((v3 ++ ([(G_tracedByte.mk ((((a1.getD ((0 : Int).toNat) default).f_NewText).map ofU8).getD v2.toNat default) v1)] : List G_tracedByte)).map e_tracedByte).length) false]), ((0, 1), .one [.isl 3 (a3.map e_TextEdit) false, .int .i64 a4, .msl (4, 0) 2 0 v4.length false]), ((3, 0), .rows 2 ((v3 ++ ([(G_tracedByte.mk ((((a1.getD ((0 : Int).toNat) default).f_NewText).map ofU8).getD v2.toNat default) v1)] : List G_tracedByte)).map e_tracedByte)), ((4, 0), .rows 2 (v4.map e_tracedByte))]) (n := 5) ?_ ?_
    · exact simI (M := [((3, 0), (5, 0)), ((4, 0), (4, 0))]) rfl (And.intro (Vw.ptr _ _ _ _ rfl) (And.intro (Vw.ptr _ _ _ _ rfl) (And.intro (Vw.same _ rfl) (And.intro (Vw.same _ rfl) (And.intro (Vw.same _ rfl) (And.intro (Vw.same _ rfl) trivial)))))) (And.intro (And.intro rfl (BVw.oneL (And.intro (Vw.same _ rfl) (And.intro (Vw.same _ rfl) (And.intro (Vw.mslE rfl (by first | rfl | simp) rfl) trivial))))) (And.intro (And.intro rfl (BVw.oneL (And.intro (Vw.same _ rfl) (And.intro (Vw.same _ rfl) (And.intro (Vw.mslE rfl (by first | rfl | simp) rfl) trivial))))) (And.intro (And.intro rfl (BVw.enc e_tracedByte (fun _ => rfl) _ (v3 ++ ([(G_tracedByte.mk ((((a1.getD ((0 : Int).toNat) default).f_NewText).map ofU8).getD v2.toNat default) v1)] : List G_tracedByte)))) (And.intro (And.intro rfl (BVw.enc e_tracedByte (fun _ => rfl) _ v4)) trivial))))
    refine seqI ?_
    refine regI ?_
    obtain ⟨h15, h⟩ := ite_some h
    refine And.intro (fun h => Bool.noConfusion h) (And.intro (lenW e_tracedByte (by first | rfl | simp)) (Exists.intro ((v4 ++ ([(G_tracedByte.mk ((((a1.getD ((0 : Int).toNat) default).f_NewText).map ofU8).getD v2.toNat default) (-1))] : List G_tracedByte)).map e_tracedByte) (And.intro (appW e_tracedByte v4 ([(G_tracedByte.mk ((((a1.getD ((0 : Int).toNat) default).f_NewText).map ofU8).getD v2.toNat default) (-1))] : List G_tracedByte) (by first | rfl | simp)) (And.intro h15 ?_))))
    refine LWp.sim (e := [(0, .ptr (0, 0) 0 0), (2, .ptr (0, 1) 0 0), (32, .isl 1 ((((a1.getD ((0 : Int).toNat) default).f_NewText).map ofU8).map e_u8) false), (33, .int .i64 (((((a1.getD ((0 : Int).toNat) default).f_NewText).map ofU8).map e_u8).length : Int)), (34, .int .i64 v2)]) (L := [((0, 0), .one [.isl 3 (a1.map e_TextEdit) false, .int .i64 v1, .msl (3, 0) 2 0 (((v3 ++ ([(G_tracedByte.mk ((((a1.getD ((0 : Int).toNat) default).f_NewText).map ofU8).getD v2.toNat default) v1)] : List G_tracedByte)).map e_tracedByte).length) false]), ((0, 1), .one [.isl 3 (a3.map e_TextEdit) false, .int .i64 a4, .msl (4, 0) 2 0 (((v4 ++ ([(G_tracedByte.mk ((((a1.getD ((0 : Int).toNat) default).f_NewText).map ofU8).getD v2.toNat default) (-1))] : List G_tracedByte)).map e_tracedByte).length) false]), ((3, 0), .rows 2 ((v3 ++ ([(G_tracedByte.mk ((((a1.getD ((0 : Int).toNat) default).f_NewText).map ofU8).getD v2.toNat default) v1)] : List G_tracedByte)).map e_tracedByte)), ((4, 0), .rows 2 ((v4 ++ ([(G_tracedByte.mk ((((a1.getD ((0 : Int).toNat) default).f_NewText).map ofU8).getD v2.toNat default) (-1))] : List G_tracedByte)).map e_tracedByte))]) (n := 5) ?_ ?_
    · exact simI (M := [((3, 0), (3, 0)), ((4, 0), (5, 0))]) rfl (And.intro (Vw.ptr _ _ _ _ rfl) (And.intro (Vw.ptr _ _ _ _ rfl) (And.intro (Vw.same _ rfl) (And.intro (Vw.same _ rfl) (And.intro (Vw.same _ rfl) trivial))))) (And.intro (And.intro rfl (BVw.oneL (And.intro (Vw.same _ rfl) (And.intro (Vw.same _ rfl) (And.intro (Vw.mslE rfl (by first | rfl | simp) rfl) trivial))))) (And.intro (And.intro rfl (BVw.oneL (And.intro (Vw.same _ rfl) (And.intro (Vw.same _ rfl) (And.intro (Vw.mslE rfl (by first | rfl | simp) rfl) trivial))))) (And.intro (And.intro rfl (BVw.enc e_tracedByte (fun _ => rfl) _ (v3 ++ ([(G_tracedByte.mk ((((a1.getD ((0 : Int).toNat) default).f_NewText).map ofU8).getD v2.toNat default) v1)] : List G_tracedByte)))) (And.intro (And.intro rfl (BVw.enc e_tracedByte (fun _ => rfl) _ (v4 ++ ([(G_tracedByte.mk ((((a1.getD ((0 : Int).toNat) default).f_NewText).map ofU8).getD v2.toNat default) (-1))] : List G_tracedByte)))) trivial))))
    refine regI ?_
    refine LWp.sim (e := [(0, .ptr (0, 0) 0 0), (2, .ptr (0, 1) 0 0), (32, .isl 1 ((((a1.getD ((0 : Int).toNat) default).f_NewText).map ofU8).map e_u8) false), (33, .int .i64 (((((a1.getD ((0 : Int).toNat) default).f_NewText).map ofU8).map e_u8).length : Int)), (34, .int .i64 v2)]) (L := [((0, 0), .one [.isl 3 (a1.map e_TextEdit) false, .int .i64 (W (v1 + 1)), .msl (3, 0) 2 0 (((v3 ++ ([(G_tracedByte.mk ((((a1.getD ((0 : Int).toNat) default).f_NewText).map ofU8).getD v2.toNat default) v1)] : List G_tracedByte)).map e_tracedByte).length) false]), ((0, 1), .one [.isl 3 (a3.map e_TextEdit) false, .int .i64 a4, .msl (4, 0) 2 0 (((v4 ++ ([(G_tracedByte.mk ((((a1.getD ((0 : Int).toNat) default).f_NewText).map ofU8).getD v2.toNat default) (-1))] : List G_tracedByte)).map e_tracedByte).length) false]), ((3, 0), .rows 2 ((v3 ++ ([(G_tracedByte.mk ((((a1.getD ((0 : Int).toNat) default).f_NewText).map ofU8).getD v2.toNat default) v1)] : List G_tracedByte)).map e_tracedByte)), ((4, 0), .rows 2 ((v4 ++ ([(G_tracedByte.mk ((((a1.getD ((0 : Int).toNat) default).f_NewText).map ofU8).getD v2.toNat default) (-1))] : List G_tracedByte)).map e_tracedByte))]) (n := 5) ?_ ?_
    · exact simI (M := [((3, 0), (3, 0)), ((4, 0), (4, 0))]) rfl (And.intro (Vw.ptr _ _ _ _ rfl) (And.intro (Vw.ptr _ _ _ _ rfl) (And.intro (Vw.same _ rfl) (And.intro (Vw.same _ rfl) (And.intro (Vw.same _ rfl) trivial))))) (And.intro (And.intro rfl (BVw.oneL (And.intro (Vw.same _ rfl) (And.intro (Vw.same _ rfl) (And.intro (Vw.mslE rfl (by first | rfl | simp) rfl) trivial))))) (And.intro (And.intro rfl (BVw.oneL (And.intro (Vw.same _ rfl) (And.intro (Vw.same _ rfl) (And.intro (Vw.mslE rfl (by first | rfl | simp) rfl) trivial))))) (And.intro (And.intro rfl (BVw.enc e_tracedByte (fun _ => rfl) _ (v3 ++ ([(G_tracedByte.mk ((((a1.getD ((0 : Int).toNat) default).f_NewText).map ofU8).getD v2.toNat default) v1)] : List G_tracedByte)))) (And.intro (And.intro rfl (BVw.enc e_tracedByte (fun _ => rfl) _ (v4 ++ ([(G_tracedByte.mk ((((a1.getD ((0 : Int).toNat) default).f_NewText).map ofU8).getD v2.toNat default) (-1))] : List G_tracedByte)))) trivial))))
    refine regI ?_
    cases h
    exact And.intro rfl (simI (M := [((3, 0), (3, 0)), ((4, 0), (4, 0))]) rfl (And.intro (Vw.ptr _ _ _ _ rfl) (And.intro (Vw.ptr _ _ _ _ rfl) (And.intro (Vw.same _ rfl) (And.intro (Vw.same _ rfl) (And.intro (Vw.same _ rfl) trivial))))) (And.intro (And.intro rfl (BVw.oneL (And.intro (Vw.same _ rfl) (And.intro (Vw.same _ rfl) (And.intro (Vw.mslE rfl (by first | rfl | simp) rfl) trivial))))) (And.intro (And.intro rfl (BVw.oneL (And.intro (Vw.same _ rfl) (And.intro (Vw.same _ rfl) (And.intro (Vw.mslE rfl (by first | rfl | simp) rfl) trivial))))) (And.intro (And.intro rfl (BVw.enc e_tracedByte (fun _ => rfl) _ (v3 ++ ([(G_tracedByte.mk ((((a1.getD ((0 : Int).toNat) default).f_NewText).map ofU8).getD v2.toNat default) v1)] : List G_tracedByte)))) (And.intro (And.intro rfl (BVw.enc e_tracedByte (fun _ => rfl) _ (v4 ++ ([(G_tracedByte.mk ((((a1.getD ((0 : Int).toNat) default).f_NewText).map ofU8).getD v2.toNat default) (-1))] : List G_tracedByte)))) trivial)))))
  · have h := ite_ff h12 h
    refine exitI ?_
    obtain ⟨o, hq, rfl⟩ := Option.map_eq_some_iff.1 h
    replace h := hq; clear hq
    refine And.intro nofun ?_
    cases h
    exact finI (n' := 5) [((3, 0), (3, 0)), ((4, 0), (4, 0))] [] rfl rfl (Vw.same _ rfl) (And.intro (And.intro rfl (BVw.oneL (And.intro (Vw.same _ rfl) (And.intro (Vw.same _ rfl) (And.intro (Vw.mslE rfl (by first | rfl | simp) rfl) trivial))))) (And.intro (And.intro rfl (BVw.oneL (And.intro (Vw.same _ rfl) (And.intro (Vw.same _ rfl) (And.intro (Vw.mslE rfl (by first | rfl | simp) rfl) trivial))))) (And.intro (And.intro rfl (BVw.enc e_tracedByte (fun _ => rfl) _ v3)) (And.intro (And.intro rfl (BVw.enc e_tracedByte (fun _ => rfl) _ v4)) trivial))))

theorem f25b0_L1_ok {a0 : Int} {a2 : Int} {a5 : List G_tracedByte} {a6 : List G_tracedByte} {a1 : List G_TextEdit} {a3 : List G_TextEdit} {a4 : Int} {v1 : Int} {v2 : Int} {v3 : List G_tracedByte} {v4 : List G_tracedByte} {m : Option Nat} {o : (Int × (List G_tracedByte) × (List G_tracedByte))} (h : S_textedit_merger_insert_l1 m a1 a3 a4 v1 v2 v3 v4 = some o) :
    LWp Try.prog f25b0_lay 3 (.loop f25b0_c0) (QBlock 0 (f25b0_Q a0 a1 a2 a3 a4 a5 a6 o)) [(0, .ptr (0, 0) 0 0), (2, .ptr (0, 1) 0 0), (32, .isl 1 ((((a1.getD ((0 : Int).toNat) default).f_NewText).map ofU8).map e_u8) false), (33, .int .i64 (((((a1.getD ((0 : Int).toNat) default).f_NewText).map ofU8).map e_u8).length : Int)), (34, .int .i64 v2)] [((0, 0), .one [.isl 3 (a1.map e_TextEdit) false, .int .i64 v1, .msl (3, 0) 2 0 v3.length false]), ((0, 1), .one [.isl 3 (a3.map e_TextEdit) false, .int .i64 a4, .msl (4, 0) 2 0 v4.length false]), ((3, 0), .rows 2 (v3.map e_tracedByte)), ((4, 0), .rows 2 (v4.map e_tracedByte))] 5 :=
  LWp_loopM (m := m) (s := ((v1, v2, v3, v4) : (Int × Int × (List G_tracedByte) × (List G_tracedByte)))) (r := o) (fun (s : (Int × Int × (List G_tracedByte) × (List G_tracedByte))) => S_textedit_merger_insert_b1 m a1 a3 a4 s.1 s.2.1 s.2.2.1 s.2.2.2) (f25b0_L1_env a1 a3 a4) (f25b0_L1_hp a1 a3 a4) (f25b0_L1_Q a0 a1 a2 a3 a4 a5 a6) (fun s o h => f25b0_L1_bok h) h

noncomputable def S_textedit_merger_insert (m : Option Nat) (a0 : Int) (a1 : List G_TextEdit) (a2 : Int) (a3 : List G_TextEdit) (a4 : Int) (a5 : List G_tracedByte) (a6 : List G_tracedByte) : Option (Int × (List G_tracedByte) × (List G_tracedByte)) :=
  if (((((a1.map e_TextEdit).length : Int) == 0) == false) = true → (0 : Int) ≤ 0 ∧ 0 < ((a1.map e_TextEdit).length : Int)) then
  if ((((a1.map e_TextEdit).length : Int) == 0) || ((a1.getD ((0 : Int).toNat) default).f_Start != a0)) = true then
    some (a2, a5, a6)
  else
    if (0 : Int) ≤ 0 ∧ 0 < ((a1.map e_TextEdit).length : Int) then
    S_textedit_merger_insert_l1 m a1 a3 a4 a2 0 a5 a6
    else none
  else none

theorem f25b0_start {a0 : Int} {a1 : List G_TextEdit} {a2 : Int} {a3 : List G_TextEdit} {a4 : Int} {a5 : List G_tracedByte} {a6 : List G_tracedByte} {m : Option Nat} {o : Int × (List G_tracedByte) × (List G_tracedByte)} (h : S_textedit_merger_insert m a0 a1 a2 a3 a4 a5 a6 = some o) : LWp Try.prog f25b0_lay 3 f25b0_c1 (f25b0_Q a0 a1 a2 a3 a4 a5 a6 o) (initEnv 0 [.ptr (0, 0) 0 0, .int .i64 a0, .ptr (0, 1) 0 0]) [((0, 0), .one [.isl 3 (a1.map e_TextEdit) false, .int .i64 a2, .msl (0, 2) 2 0 a5.length false]), ((0, 1), .one [.isl 3 (a3.map e_TextEdit) false, .int .i64 a4, .msl (0, 3) 2 0 a6.length false]), ((0, 2), .rows 2 (a5.map e_tracedByte)), ((0, 3), .rows 2 (a6.map e_tracedByte))] 3 := by
  unfold S_textedit_merger_insert at h
  refine seqI ?_
  refine seqI ?_
  refine regI ?_
  refine And.intro (fun hp => hp) ?_
  show yops _ _ _ [(16, .cnd ((((a1.map e_TextEdit).length : Int) == 0) == false) (.ptr (0, 0) 0 0)), (15, .cnd ((((a1.map e_TextEdit).length : Int) == 0) == false) (.ptr (0, 0) 0 0)), (14, .bool (((a1.map e_TextEdit).length : Int) == 0)), (13, .bool (((a1.map e_TextEdit).length : Int) == 0)), (12, .int .i64 ((a1.map e_TextEdit).length : Int)), (11, .isl 3 (a1.map e_TextEdit) false), (10, .ptr (0, 0) 0 0), (9, .ptr (0, 0) 0 0), (8, .ptr (0, 0) 0 0), (0, .ptr (0, 0) 0 0), (1, .int .i64 a0), (2, .ptr (0, 1) 0 0)] _ _
  refine And.intro (fun hp => hp) ?_
  refine And.intro (fun hp => hp) ?_
  obtain ⟨h1, h⟩ := ite_some h
  refine And.intro (fun hp => (And.intro hp (h1 hp))) ?_
  refine And.intro (fun hp => hp) ?_
  refine Exists.intro (e_TextEdit (a1.getD ((0 : Int).toNat) default)) (And.intro (fun hp => And.intro (getD_enc e_TextEdit _ _ (idx_ltL e_TextEdit (h1 hp))) (And.intro hp (And.intro (idx_lt (h1 hp)) (Nat.le_of_ble_eq_true rfl)))) ?_)
  refine And.intro (fun hp => (And.intro hp hp)) ?_
  show yops _ _ _ [(23, .cnd ((((a1.map e_TextEdit).length : Int) == 0) == false) (.bool ((a1.getD ((0 : Int).toNat) default).f_Start != a0))), (22, .cnd ((((a1.map e_TextEdit).length : Int) == 0) == false) (.int .i64 a0)), (21, .cnd ((((a1.map e_TextEdit).length : Int) == 0) == false) (.int .i64 ((a1.getD ((0 : Int).toNat) default).f_Start))), (20, .cnd ((((a1.map e_TextEdit).length : Int) == 0) == false) (.iptr 3 (a1.map e_TextEdit) ((0 : Int).toNat) 0)), (19, .cnd ((((a1.map e_TextEdit).length : Int) == 0) == false) (.iptr 3 (a1.map e_TextEdit) ((0 : Int).toNat) 0)), (18, .cnd ((((a1.map e_TextEdit).length : Int) == 0) == false) (.isl 3 (a1.map e_TextEdit) false)), (17, .cnd ((((a1.map e_TextEdit).length : Int) == 0) == false) (.ptr (0, 0) 0 0)), (16, .cnd ((((a1.map e_TextEdit).length : Int) == 0) == false) (.ptr (0, 0) 0 0)), (15, .cnd ((((a1.map e_TextEdit).length : Int) == 0) == false) (.ptr (0, 0) 0 0)), (14, .bool (((a1.map e_TextEdit).length : Int) == 0)), (13, .bool (((a1.map e_TextEdit).length : Int) == 0)), (12, .int .i64 ((a1.map e_TextEdit).length : Int)), (11, .isl 3 (a1.map e_TextEdit) false), (10, .ptr (0, 0) 0 0), (9, .ptr (0, 0) 0 0), (8, .ptr (0, 0) 0 0), (0, .ptr (0, 0) 0 0), (1, .int .i64 a0), (2, .ptr (0, 1) 0 0)] _ _
  refine And.intro (fun hc => (bqf hc)) ?_
  refine LWp.sim (e := [(0, .ptr (0, 0) 0 0), (2, .ptr (0, 1) 0 0), (24, .bool ((((a1.map e_TextEdit).length : Int) == 0) || ((a1.getD ((0 : Int).toNat) default).f_Start != a0)))]) (L := [((0, 0), .one [.isl 3 (a1.map e_TextEdit) false, .int .i64 a2, .msl (3, 0) 2 0 a5.length false]), ((0, 1), .one [.isl 3 (a3.map e_TextEdit) false, .int .i64 a4, .msl (4, 0) 2 0 a6.length false]), ((3, 0), .rows 2 (a5.map e_tracedByte)), ((4, 0), .rows 2 (a6.map e_tracedByte))]) (n := 5) ?_ ?_
  · exact simI (M := [((3, 0), (0, 2)), ((4, 0), (0, 3))]) rfl (And.intro (Vw.ptr _ _ _ _ rfl) (And.intro (Vw.ptr _ _ _ _ rfl) (And.intro (Vw.same _ rfl) trivial))) (And.intro (And.intro rfl (BVw.oneL (And.intro (Vw.same _ rfl) (And.intro (Vw.same _ rfl) (And.intro (Vw.mslE rfl (by first | rfl | simp) rfl) trivial))))) (And.intro (And.intro rfl (BVw.oneL (And.intro (Vw.same _ rfl) (And.intro (Vw.same _ rfl) (And.intro (Vw.mslE rfl (by first | rfl | simp) rfl) trivial))))) (And.intro (And.intro rfl (BVw.enc e_tracedByte (fun _ => rfl) _ a5)) (And.intro (And.intro rfl (BVw.enc e_tracedByte (fun _ => rfl) _ a6)) trivial))))
  refine condI (v := ((((a1.map e_TextEdit).length : Int) == 0) || ((a1.getD ((0 : Int).toNat) default).f_Start != a0))) rfl trivial (fun h2 => ?_) (fun h2 => ?_)
  · have h := ite_tt h2 h
    refine retI ?_
    cases h
    exact finI (n' := 5) [((3, 0), (3, 0)), ((4, 0), (4, 0))] [] rfl rfl (Vw.same _ rfl) (And.intro (And.intro rfl (BVw.oneL (And.intro (Vw.same _ rfl) (And.intro (Vw.same _ rfl) (And.intro (Vw.mslE rfl (by first | rfl | simp) rfl) trivial))))) (And.intro (And.intro rfl (BVw.oneL (And.intro (Vw.same _ rfl) (And.intro (Vw.same _ rfl) (And.intro (Vw.mslE rfl (by first | rfl | simp) rfl) trivial))))) (And.intro (And.intro rfl (BVw.enc e_tracedByte (fun _ => rfl) _ a5)) (And.intro (And.intro rfl (BVw.enc e_tracedByte (fun _ => rfl) _ a6)) trivial))))
  · have h := ite_ff h2 h
    refine skipI ?_
    refine seqI ?_
    refine regI ?_
    obtain ⟨h3, h⟩ := ite_some h
    refine And.intro h3 ?_
    show yops _ _ _ [(29, .iptr 3 (a1.map e_TextEdit) ((0 : Int).toNat) 0), (28, .isl 3 (a1.map e_TextEdit) false), (27, .ptr (0, 0) 0 0), (26, .ptr (0, 0) 0 0), (25, .ptr (0, 0) 0 0), (0, .ptr (0, 0) 0 0), (2, .ptr (0, 1) 0 0), (24, .bool ((((a1.map e_TextEdit).length : Int) == 0) || ((a1.getD ((0 : Int).toNat) default).f_Start != a0)))] _ _
    refine Exists.intro (e_TextEdit (a1.getD ((0 : Int).toNat) default)) (And.intro (getD_enc e_TextEdit _ _ (idx_ltL e_TextEdit h3)) (And.intro (And.intro (idx_lt h3) (Nat.le_of_ble_eq_true rfl)) ?_))
    refine Exists.intro ((((a1.getD ((0 : Int).toNat) default).f_NewText).map ofU8).map e_u8) (And.intro (s2b_enc _) ?_)
    refine LWp.sim (e := [(0, .ptr (0, 0) 0 0), (2, .ptr (0, 1) 0 0), (32, .isl 1 ((((a1.getD ((0 : Int).toNat) default).f_NewText).map ofU8).map e_u8) false), (33, .int .i64 (((((a1.getD ((0 : Int).toNat) default).f_NewText).map ofU8).map e_u8).length : Int)), (34, .int .i64 0)]) (L := [((0, 0), .one [.isl 3 (a1.map e_TextEdit) false, .int .i64 a2, .msl (3, 0) 2 0 a5.length false]), ((0, 1), .one [.isl 3 (a3.map e_TextEdit) false, .int .i64 a4, .msl (4, 0) 2 0 a6.length false]), ((3, 0), .rows 2 (a5.map e_tracedByte)), ((4, 0), .rows 2 (a6.map e_tracedByte))]) (n := 5) ?_ ?_
    · exact simI (M := [((3, 0), (3, 0)), ((4, 0), (4, 0))]) rfl (And.intro (Vw.ptr _ _ _ _ rfl) (And.intro (Vw.ptr _ _ _ _ rfl) (And.intro (Vw.same _ rfl) (And.intro (Vw.same _ rfl) (And.intro (Vw.same _ rfl) trivial))))) (And.intro (And.intro rfl (BVw.oneL (And.intro (Vw.same _ rfl) (And.intro (Vw.same _ rfl) (And.intro (Vw.mslE rfl (by first | rfl | simp) rfl) trivial))))) (And.intro (And.intro rfl (BVw.oneL (And.intro (Vw.same _ rfl) (And.intro (Vw.same _ rfl) (And.intro (Vw.mslE rfl (by first | rfl | simp) rfl) trivial))))) (And.intro (And.intro rfl (BVw.enc e_tracedByte (fun _ => rfl) _ a5)) (And.intro (And.intro rfl (BVw.enc e_tracedByte (fun _ => rfl) _ a6)) trivial))))
    refine blockI ?_
    refine LWp.sim ?_ (f25b0_L1_ok h)
    exact simI (M := [((3, 0), (3, 0)), ((4, 0), (4, 0))]) rfl (And.intro (Vw.ptr _ _ _ _ rfl) (And.intro (Vw.ptr _ _ _ _ rfl) (And.intro (Vw.same _ rfl) (And.intro (Vw.same _ rfl) (And.intro (Vw.same _ rfl) trivial))))) (And.intro (And.intro rfl (BVw.oneL (And.intro (Vw.same _ rfl) (And.intro (Vw.same _ rfl) (And.intro (Vw.mslE rfl (by first | rfl | simp) rfl) trivial))))) (And.intro (And.intro rfl (BVw.oneL (And.intro (Vw.same _ rfl) (And.intro (Vw.same _ rfl) (And.intro (Vw.mslE rfl (by first | rfl | simp) rfl) trivial))))) (And.intro (And.intro rfl (BVw.enc e_tracedByte (fun _ => rfl) _ a5)) (And.intro (And.intro rfl (BVw.enc e_tracedByte (fun _ => rfl) _ a6)) trivial))))

theorem f25b0_ok {a0 : Int} {a1 : List G_TextEdit} {a2 : Int} {a3 : List G_TextEdit} {a4 : Int} {a5 : List G_tracedByte} {a6 : List G_tracedByte} {m : Option Nat} {o : Int × (List G_tracedByte) × (List G_tracedByte)} (h : S_textedit_merger_insert m a0 a1 a2 a3 a4 a5 a6 = some o) : ACalls Try.prog 25 [.ptr (0, 0) 0 0, .int .i64 a0, .ptr (0, 1) 0 0] [((0, 0), .one [.isl 3 (a1.map e_TextEdit) false, .int .i64 a2, .msl (0, 2) 2 0 a5.length false]), ((0, 1), .one [.isl 3 (a3.map e_TextEdit) false, .int .i64 a4, .msl (0, 3) 2 0 a6.length false]), ((0, 2), .rows 2 (a5.map e_tracedByte)), ((0, 3), .rows 2 (a6.map e_tracedByte))] 3 (Gives 5 (.tup []) [((0, 0), .one [.isl 3 (a1.map e_TextEdit) false, .int .i64 o.1, .msl (3, 0) 2 0 o.2.1.length false]), ((0, 1), .one [.isl 3 (a3.map e_TextEdit) false, .int .i64 a4, .msl (4, 0) 2 0 o.2.2.length false]), ((3, 0), .rows 2 (o.2.1.map e_tracedByte)), ((4, 0), .rows 2 (o.2.2.map e_tracedByte))]) := bfn_of (L := f25b0_L) f25b0_low f25b0_fok (Nat.le_of_ble_eq_true rfl) (f25b0_start h)

def f26b0_c1 : LCode := (.seq (.seq (.region [⟨some 5, .mv (.t 0), none⟩,
   ⟨some 6, .nilck (.t 5), none⟩,
   ⟨some 7, .faddr 0 (.t 6), none⟩,
   ⟨some 8, .load false 1 (.t 7), none⟩,
   ⟨some 9, .len false (.t 8), none⟩,
   ⟨some 10, .bin .gtr (.t 9) (.c (.int .i64 0)), none⟩,
   ⟨some 11, .mv (.t 10), none⟩,
   ⟨some 12, .mv (.t 0), some (11, true)⟩,
   ⟨some 13, .nilck (.t 12), some (11, true)⟩,
   ⟨some 14, .faddr 0 (.t 13), some (11, true)⟩,
   ⟨some 15, .load false 1 (.t 14), some (11, true)⟩,
   ⟨some 16, .iaddr 3 (.t 15) (.c (.int .i64 0)), some (11, true)⟩,
   ⟨some 17, .faddr 1 (.t 16), some (11, true)⟩,
   ⟨some 18, .load false 1 (.t 17), some (11, true)⟩,
   ⟨some 19, .mv (.t 1), some (11, true)⟩,
   ⟨some 20, .bin .leq (.t 18) (.t 19), some (11, true)⟩,
   ⟨some 21, .pick (.t 11) (.t 20) (.c (.bool false)), none⟩])
 (.cond (.t 21)
  .skip
  (.exit 0)))
 (.block 1
  (.region [⟨some 22, .mv (.t 0), none⟩,
    ⟨some 23, .mv (.t 0), none⟩,
    ⟨some 24, .nilck (.t 23), none⟩,
    ⟨some 25, .faddr 0 (.t 24), none⟩,
    ⟨some 26, .load false 1 (.t 25), none⟩,
    ⟨some 27, .slSl 3 (.t 26) (some (.c (.int .i64 1))) none none, none⟩,
    ⟨some 28, .nilck (.t 22), none⟩,
    ⟨some 29, .faddr 0 (.t 28), none⟩,
    ⟨none, .store 1 (.t 29) (.t 27), none⟩])))
def f26b0_c0 : LCode := (.seq (.region [⟨some 30, .mv (.t 0), none⟩,
   ⟨some 31, .nilck (.t 30), none⟩,
   ⟨some 32, .faddr 0 (.t 31), none⟩,
   ⟨some 33, .load false 1 (.t 32), none⟩,
   ⟨some 34, .len false (.t 33), none⟩,
   ⟨some 35, .bin .gtr (.t 34) (.c (.int .i64 0)), none⟩,
   ⟨some 36, .mv (.t 35), none⟩,
   ⟨some 37, .mv (.t 0), some (36, true)⟩,
   ⟨some 38, .nilck (.t 37), some (36, true)⟩,
   ⟨some 39, .faddr 0 (.t 38), some (36, true)⟩,
   ⟨some 40, .load false 1 (.t 39), some (36, true)⟩,
   ⟨some 41, .iaddr 3 (.t 40) (.c (.int .i64 0)), some (36, true)⟩,
   ⟨some 42, .faddr 0 (.t 41), some (36, true)⟩,
   ⟨some 43, .load false 1 (.t 42), some (36, true)⟩,
   ⟨some 44, .mv (.t 1), some (36, true)⟩,
   ⟨some 45, .bin .leq (.t 43) (.t 44), some (36, true)⟩,
   ⟨some 46, .pick (.t 36) (.t 45) (.c (.bool false)), none⟩,
   ⟨some 4, .mv (.t 46), none⟩])
 .ret)
def f26b0_c2 : LCode := (.seq (.region [⟨some 4, .mv (.c (.bool false)), none⟩])
 (.seq (.block 0
  (.loop
   f26b0_c1))
 f26b0_c0))
def f26b0_lay : Lay := ⟨47, [], false⟩
def f26b0_res : List LRes := [.t 4]
def f26b0_L : LFn := ⟨2, f26b0_lay, f26b0_c2, f26b0_res⟩
theorem f26b0_low : lowFn Try.prog [] 26 = some f26b0_L := by kernel_rfl
theorem f26b0_fok : FnOk Try.prog 26 := ⟨_, Try.func26, rfl, rfl⟩
def f26b0_Q (a0 : Int) (a1 : List G_TextEdit) (a2 : Int) (a3 : List G_tracedByte) (o : Bool × (List G_TextEdit)) : Exit → Env → AHeap → Nat → Prop := FinK f26b0_res (FinTo 3 4 (.bool o.1) [((0, 0), .one [.isl 3 (o.2.map e_TextEdit) false, .int .i64 a2, .msl (3, 0) 2 0 a3.length false]), ((3, 0), .rows 2 (a3.map e_tracedByte))])

def f26b0_L1_env (a0 : Int) (a2 : Int) (a3 : List G_tracedByte) (s : (List G_TextEdit)) : Env := [(0, .ptr (0, 0) 0 0), (1, .int .i64 a0)]
def f26b0_L1_hp (a0 : Int) (a2 : Int) (a3 : List G_tracedByte) (s : (List G_TextEdit)) : AHeap := [((0, 0), .one [.isl 3 (s.map e_TextEdit) false, .int .i64 a2, .msl (3, 0) 2 0 a3.length false]), ((3, 0), .rows 2 (a3.map e_tracedByte))]
def f26b0_L1_Q (a0 : Int) (a1 : List G_TextEdit) (a2 : Int) (a3 : List G_tracedByte) (o : (Bool × (List G_TextEdit))) : Exit → Env → AHeap → Nat → Prop := (QBlock 0 (QSeq Try.prog f26b0_lay 3 f26b0_c0 (f26b0_Q a0 a1 a2 a3 o)))

noncomputable def S_textedit_merger_deletes_j1 (m : Option Nat) (a0 : Int) (a2 : Int) (a3 : List G_tracedByte) (v1 : List G_TextEdit) : Option (Bool × (List G_TextEdit)) :=
  if (((decide (((v1.map e_TextEdit).length : Int) > 0)) == true) = true → (0 : Int) ≤ 0 ∧ 0 < ((v1.map e_TextEdit).length : Int)) then
  some (((decide (((v1.map e_TextEdit).length : Int) > 0)) && (decide ((v1.getD ((0 : Int).toNat) default).f_Start ≤ a0))), v1)
  else none

noncomputable def S_textedit_merger_deletes_b1 (m : Option Nat) (a0 : Int) (a2 : Int) (a3 : List G_tracedByte) (v1 : List G_TextEdit) : Option ((List G_TextEdit) ⊕ (Bool × (List G_TextEdit))) :=
  if (((decide (((v1.map e_TextEdit).length : Int) > 0)) == true) = true → (0 : Int) ≤ 0 ∧ 0 < ((v1.map e_TextEdit).length : Int)) then
  if ((decide (((v1.map e_TextEdit).length : Int) > 0)) && (decide ((v1.getD ((0 : Int).toNat) default).f_End ≤ a0))) = true then
    if (0 : Int) ≤ 1 ∧ 1 ≤ ((v1.map e_TextEdit).length : Int) then
    some (.inl (v1.drop (1 : Int).toNat))
    else none
  else
    Option.map Sum.inr (
      S_textedit_merger_deletes_j1 m a0 a2 a3 v1)
  else none

noncomputable def S_textedit_merger_deletes_l1 (m : Option Nat) (a0 : Int) (a2 : Int) (a3 : List G_tracedByte) (v1 : List G_TextEdit) : Option (Bool × (List G_TextEdit)) := loopM m (fun (s : (List G_TextEdit)) => S_textedit_merger_deletes_b1 m a0 a2 a3 s) v1

theorem f26b0_j1_ok {a1 : List G_TextEdit} {a0 : Int} {a2 : Int} {a3 : List G_tracedByte} {v1 : List G_TextEdit} {m : Option Nat} {o : (Bool × (List G_TextEdit))} (h : S_textedit_merger_deletes_j1 m a0 a2 a3 v1 = some o) :
    LWp Try.prog f26b0_lay 3 f26b0_c0 (f26b0_Q a0 a1 a2 a3 o) [(0, .ptr (0, 0) 0 0), (1, .int .i64 a0)] [((0, 0), .one [.isl 3 (v1.map e_TextEdit) false, .int .i64 a2, .msl (3, 0) 2 0 a3.length false]), ((3, 0), .rows 2 (a3.map e_tracedByte))] 4 := by
  unfold S_textedit_merger_deletes_j1 at h
  refine seqI ?_
  refine regI ?_
  refine And.intro (fun hp => hp) ?_
  show yops _ _ _ [(38, .cnd ((decide (((v1.map e_TextEdit).length : Int) > 0)) == true) (.ptr (0, 0) 0 0)), (37, .cnd ((decide (((v1.map e_TextEdit).length : Int) > 0)) == true) (.ptr (0, 0) 0 0)), (36, .bool (decide (((v1.map e_TextEdit).length : Int) > 0))), (35, .bool (decide (((v1.map e_TextEdit).length : Int) > 0))), (34, .int .i64 ((v1.map e_TextEdit).length : Int)), (33, .isl 3 (v1.map e_TextEdit) false), (32, .ptr (0, 0) 0 0), (31, .ptr (0, 0) 0 0), (30, .ptr (0, 0) 0 0), (0, .ptr (0, 0) 0 0), (1, .int .i64 a0)] _ _
  refine And.intro (fun hp => hp) ?_
  refine And.intro (fun hp => hp) ?_
  obtain ⟨h10, h⟩ := ite_some h
  refine And.intro (fun hp => (And.intro hp (h10 hp))) ?_
  refine And.intro (fun hp => hp) ?_
  refine Exists.intro (e_TextEdit (v1.getD ((0 : Int).toNat) default)) (And.intro (fun hp => And.intro (getD_enc e_TextEdit _ _ (idx_ltL e_TextEdit (h10 hp))) (And.intro hp (And.intro (idx_lt (h10 hp)) (Nat.le_of_ble_eq_true rfl)))) ?_)
  refine And.intro (fun hp => (And.intro hp hp)) ?_
  show yops _ _ _ [(45, .cnd ((decide (((v1.map e_TextEdit).length : Int) > 0)) == true) (.bool (decide ((v1.getD ((0 : Int).toNat) default).f_Start ≤ a0)))), (44, .cnd ((decide (((v1.map e_TextEdit).length : Int) > 0)) == true) (.int .i64 a0)), (43, .cnd ((decide (((v1.map e_TextEdit).length : Int) > 0)) == true) (.int .i64 ((v1.getD ((0 : Int).toNat) default).f_Start))), (42, .cnd ((decide (((v1.map e_TextEdit).length : Int) > 0)) == true) (.iptr 3 (v1.map e_TextEdit) ((0 : Int).toNat) 0)), (41, .cnd ((decide (((v1.map e_TextEdit).length : Int) > 0)) == true) (.iptr 3 (v1.map e_TextEdit) ((0 : Int).toNat) 0)), (40, .cnd ((decide (((v1.map e_TextEdit).length : Int) > 0)) == true) (.isl 3 (v1.map e_TextEdit) false)), (39, .cnd ((decide (((v1.map e_TextEdit).length : Int) > 0)) == true) (.ptr (0, 0) 0 0)), (38, .cnd ((decide (((v1.map e_TextEdit).length : Int) > 0)) == true) (.ptr (0, 0) 0 0)), (37, .cnd ((decide (((v1.map e_TextEdit).length : Int) > 0)) == true) (.ptr (0, 0) 0 0)), (36, .bool (decide (((v1.map e_TextEdit).length : Int) > 0))), (35, .bool (decide (((v1.map e_TextEdit).length : Int) > 0))), (34, .int .i64 ((v1.map e_TextEdit).length : Int)), (33, .isl 3 (v1.map e_TextEdit) false), (32, .ptr (0, 0) 0 0), (31, .ptr (0, 0) 0 0), (30, .ptr (0, 0) 0 0), (0, .ptr (0, 0) 0 0), (1, .int .i64 a0)] _ _
  refine And.intro (fun hc => (bqt hc)) ?_
  refine LWp.sim (e := [(4, .bool ((decide (((v1.map e_TextEdit).length : Int) > 0)) && (decide ((v1.getD ((0 : Int).toNat) default).f_Start ≤ a0))))]) (L := [((0, 0), .one [.isl 3 (v1.map e_TextEdit) false, .int .i64 a2, .msl (3, 0) 2 0 a3.length false]), ((3, 0), .rows 2 (a3.map e_tracedByte))]) (n := 4) ?_ ?_
  · exact simI (M := [((3, 0), (3, 0))]) rfl (And.intro (Vw.same _ rfl) trivial) (And.intro (And.intro rfl (BVw.oneL (And.intro (Vw.same _ rfl) (And.intro (Vw.same _ rfl) (And.intro (Vw.mslE rfl (by first | rfl | simp) rfl) trivial))))) (And.intro (And.intro rfl (BVw.enc e_tracedByte (fun _ => rfl) _ a3)) trivial))
  refine retI ?_
  cases h
  exact And.intro trivial (finI (n' := 4) [((3, 0), (3, 0))] [] rfl rfl (Vw.same _ rfl) (And.intro (And.intro rfl (BVw.oneL (And.intro (Vw.same _ rfl) (And.intro (Vw.same _ rfl) (And.intro (Vw.mslE rfl (by first | rfl | simp) rfl) trivial))))) (And.intro (And.intro rfl (BVw.enc e_tracedByte (fun _ => rfl) _ a3)) trivial)))

theorem f26b0_L1_bok {a1 : List G_TextEdit} {a0 : Int} {a2 : Int} {a3 : List G_tracedByte} {v1 : List G_TextEdit} {m : Option Nat} {o : (List G_TextEdit) ⊕ (Bool × (List G_TextEdit))} (h : S_textedit_merger_deletes_b1 m a0 a2 a3 v1 = some o) :
    LWp Try.prog f26b0_lay 3 f26b0_c1 (BodyQ 3 4 (f26b0_L1_env a0 a2 a3) (f26b0_L1_hp a0 a2 a3) (f26b0_L1_Q a0 a1 a2 a3) o) [(0, .ptr (0, 0) 0 0), (1, .int .i64 a0)] [((0, 0), .one [.isl 3 (v1.map e_TextEdit) false, .int .i64 a2, .msl (3, 0) 2 0 a3.length false]), ((3, 0), .rows 2 (a3.map e_tracedByte))] 4 := by
  unfold S_textedit_merger_deletes_b1 at h
  refine seqI ?_
  refine seqI ?_
  refine regI ?_
  refine And.intro (fun hp => hp) ?_
  show yops _ _ _ [(13, .cnd ((decide (((v1.map e_TextEdit).length : Int) > 0)) == true) (.ptr (0, 0) 0 0)), (12, .cnd ((decide (((v1.map e_TextEdit).length : Int) > 0)) == true) (.ptr (0, 0) 0 0)), (11, .bool (decide (((v1.map e_TextEdit).length : Int) > 0))), (10, .bool (decide (((v1.map e_TextEdit).length : Int) > 0))), (9, .int .i64 ((v1.map e_TextEdit).length : Int)), (8, .isl 3 (v1.map e_TextEdit) false), (7, .ptr (0, 0) 0 0), (6, .ptr (0, 0) 0 0), (5, .ptr (0, 0) 0 0), (0, .ptr (0, 0) 0 0), (1, .int .i64 a0)] _ _
  refine And.intro (fun hp => hp) ?_
  refine And.intro (fun hp => hp) ?_
  obtain ⟨h7, h⟩ := ite_some h
  refine And.intro (fun hp => (And.intro hp (h7 hp))) ?_
  refine And.intro (fun hp => hp) ?_
  refine Exists.intro (e_TextEdit (v1.getD ((0 : Int).toNat) default)) (And.intro (fun hp => And.intro (getD_enc e_TextEdit _ _ (idx_ltL e_TextEdit (h7 hp))) (And.intro hp (And.intro (idx_lt (h7 hp)) (Nat.le_of_ble_eq_true rfl)))) ?_)
  refine And.intro (fun hp => (And.intro hp hp)) ?_
  show yops _ _ _ [(20, .cnd ((decide (((v1.map e_TextEdit).length : Int) > 0)) == true) (.bool (decide ((v1.getD ((0 : Int).toNat) default).f_End ≤ a0)))), (19, .cnd ((decide (((v1.map e_TextEdit).length : Int) > 0)) == true) (.int .i64 a0)), (18, .cnd ((decide (((v1.map e_TextEdit).length : Int) > 0)) == true) (.int .i64 ((v1.getD ((0 : Int).toNat) default).f_End))), (17, .cnd ((decide (((v1.map e_TextEdit).length : Int) > 0)) == true) (.iptr 3 (v1.map e_TextEdit) ((0 : Int).toNat) 1)), (16, .cnd ((decide (((v1.map e_TextEdit).length : Int) > 0)) == true) (.iptr 3 (v1.map e_TextEdit) ((0 : Int).toNat) 0)), (15, .cnd ((decide (((v1.map e_TextEdit).length : Int) > 0)) == true) (.isl 3 (v1.map e_TextEdit) false)), (14, .cnd ((decide (((v1.map e_TextEdit).length : Int) > 0)) == true) (.ptr (0, 0) 0 0)), (13, .cnd ((decide (((v1.map e_TextEdit).length : Int) > 0)) == true) (.ptr (0, 0) 0 0)), (12, .cnd ((decide (((v1.map e_TextEdit).length : Int) > 0)) == true) (.ptr (0, 0) 0 0)), (11, .bool (decide (((v1.map e_TextEdit).length : Int) > 0))), (10, .bool (decide (((v1.map e_TextEdit).length : Int) > 0))), (9, .int .i64 ((v1.map e_TextEdit).length : Int)), (8, .isl 3 (v1.map e_TextEdit) false), (7, .ptr (0, 0) 0 0), (6, .ptr (0, 0) 0 0), (5, .ptr (0, 0) 0 0), (0, .ptr (0, 0) 0 0), (1, .int .i64 a0)] _ _
  refine And.intro (fun hc => (bqt hc)) ?_
  refine LWp.sim (e := [(0, .ptr (0, 0) 0 0), (1, .int .i64 a0), (21, .bool ((decide (((v1.map e_TextEdit).length : Int) > 0)) && (decide ((v1.getD ((0 : Int).toNat) default).f_End ≤ a0))))]) (L := [((0, 0), .one [.isl 3 (v1.map e_TextEdit) false, .int .i64 a2, .msl (3, 0) 2 0 a3.length false]), ((3, 0), .rows 2 (a3.map e_tracedByte))]) (n := 4) ?_ ?_
  · exact simI (M := [((3, 0), (3, 0))]) rfl (And.intro (Vw.ptr _ _ _ _ rfl) (And.intro (Vw.same _ rfl) (And.intro (Vw.same _ rfl) trivial))) (And.intro (And.intro rfl (BVw.oneL (And.intro (Vw.same _ rfl) (And.intro (Vw.same _ rfl) (And.intro (Vw.mslE rfl (by first | rfl | simp) rfl) trivial))))) (And.intro (And.intro rfl (BVw.enc e_tracedByte (fun _ => rfl) _ a3)) trivial))
  refine condI (v := ((decide (((v1.map e_TextEdit).length : Int) > 0)) && (decide ((v1.getD ((0 : Int).toNat) default).f_End ≤ a0)))) rfl trivial (fun h8 => ?_) (fun h8 => ?_)
  · have h := ite_tt h8 h
    refine skipI ?_
    refine blockI ?_
    refine regI ?_
    obtain ⟨h9, h⟩ := ite_some h
    refine Exists.intro (.isl 3 ((v1.drop (1 : Int).toNat).map e_TextEdit) false) (And.intro (sl_eq e_TextEdit (slA e_TextEdit v1 _) rfl) (And.intro (And.intro rfl (And.intro (And.left h9) (And.intro (And.right h9) (Int.le_refl _)))) ?_))
    cases h
    exact And.intro rfl (simI (M := [((3, 0), (3, 0))]) rfl (And.intro (Vw.ptr _ _ _ _ rfl) (And.intro (Vw.same _ rfl) trivial)) (And.intro (And.intro rfl (BVw.oneL (And.intro (Vw.same _ rfl) (And.intro (Vw.same _ rfl) (And.intro (Vw.mslE rfl (by first | rfl | simp) rfl) trivial))))) (And.intro (And.intro rfl (BVw.enc e_tracedByte (fun _ => rfl) _ a3)) trivial)))
  · have h := ite_ff h8 h
    refine exitI ?_
    obtain ⟨o, hq, rfl⟩ := Option.map_eq_some_iff.1 h
    replace h := hq; clear hq
    refine And.intro nofun ?_
    refine LWp.sim ?_ (f26b0_j1_ok h)
    exact simI (M := [((3, 0), (3, 0))]) rfl (And.intro (Vw.ptr _ _ _ _ rfl) (And.intro (Vw.same _ rfl) trivial)) (And.intro (And.intro rfl (BVw.oneL (And.intro (Vw.same _ rfl) (And.intro (Vw.same _ rfl) (And.intro (Vw.mslE rfl (by first | rfl | simp) rfl) trivial))))) (And.intro (And.intro rfl (BVw.enc e_tracedByte (fun _ => rfl) _ a3)) trivial))

theorem f26b0_L1_ok {a1 : List G_TextEdit} {a0 : Int} {a2 : Int} {a3 : List G_tracedByte} {v1 : List G_TextEdit} {m : Option Nat} {o : (Bool × (List G_TextEdit))} (h : S_textedit_merger_deletes_l1 m a0 a2 a3 v1 = some o) :
    LWp Try.prog f26b0_lay 3 (.loop f26b0_c1) (QBlock 0 (QSeq Try.prog f26b0_lay 3 f26b0_c0 (f26b0_Q a0 a1 a2 a3 o))) [(0, .ptr (0, 0) 0 0), (1, .int .i64 a0)] [((0, 0), .one [.isl 3 (v1.map e_TextEdit) false, .int .i64 a2, .msl (3, 0) 2 0 a3.length false]), ((3, 0), .rows 2 (a3.map e_tracedByte))] 4 :=
  LWp_loopM (m := m) (s := (v1 : (List G_TextEdit))) (r := o) (fun (s : (List G_TextEdit)) => S_textedit_merger_deletes_b1 m a0 a2 a3 s) (f26b0_L1_env a0 a2 a3) (f26b0_L1_hp a0 a2 a3) (f26b0_L1_Q a0 a1 a2 a3) (fun s o h => f26b0_L1_bok h) h

noncomputable def S_textedit_merger_deletes (m : Option Nat) (a0 : Int) (a1 : List G_TextEdit) (a2 : Int) (a3 : List G_tracedByte) : Option (Bool × (List G_TextEdit)) :=
  S_textedit_merger_deletes_l1 m a0 a2 a3 a1

theorem f26b0_start {a0 : Int} {a1 : List G_TextEdit} {a2 : Int} {a3 : List G_tracedByte} {m : Option Nat} {o : Bool × (List G_TextEdit)} (h : S_textedit_merger_deletes m a0 a1 a2 a3 = some o) : LWp Try.prog f26b0_lay 3 f26b0_c2 (f26b0_Q a0 a1 a2 a3 o) (initEnv 0 [.ptr (0, 0) 0 0, .int .i64 a0]) [((0, 0), .one [.isl 3 (a1.map e_TextEdit) false, .int .i64 a2, .msl (0, 1) 2 0 a3.length false]), ((0, 1), .rows 2 (a3.map e_tracedByte))] 3 := by
  unfold S_textedit_merger_deletes at h
  refine seqI ?_
  refine regI ?_
  refine seqI ?_
  refine blockI ?_
  refine LWp.sim ?_ (f26b0_L1_ok h)
  exact simI (M := [((3, 0), (0, 1))]) rfl (And.intro (Vw.ptr _ _ _ _ rfl) (And.intro (Vw.same _ rfl) trivial)) (And.intro (And.intro rfl (BVw.oneL (And.intro (Vw.same _ rfl) (And.intro (Vw.same _ rfl) (And.intro (Vw.mslE rfl (by first | rfl | simp) rfl) trivial))))) (And.intro (And.intro rfl (BVw.enc e_tracedByte (fun _ => rfl) _ a3)) trivial))

theorem f26b0_ok {a0 : Int} {a1 : List G_TextEdit} {a2 : Int} {a3 : List G_tracedByte} {m : Option Nat} {o : Bool × (List G_TextEdit)} (h : S_textedit_merger_deletes m a0 a1 a2 a3 = some o) : ACalls Try.prog 26 [.ptr (0, 0) 0 0, .int .i64 a0] [((0, 0), .one [.isl 3 (a1.map e_TextEdit) false, .int .i64 a2, .msl (0, 1) 2 0 a3.length false]), ((0, 1), .rows 2 (a3.map e_tracedByte))] 3 (Gives 4 (.bool o.1) [((0, 0), .one [.isl 3 (o.2.map e_TextEdit) false, .int .i64 a2, .msl (3, 0) 2 0 a3.length false]), ((3, 0), .rows 2 (a3.map e_tracedByte))]) := bfn_of (L := f26b0_L) f26b0_low f26b0_fok (Nat.le_of_ble_eq_true rfl) (f26b0_start h)

def f21b0_c1 : LCode := (.region [⟨some 31, .bin .add (.t 15) (.c (.int .i64 1)), none⟩,
   ⟨some 15, .mv (.t 31), none⟩])
def f21b0_c2 : LCode := (.seq (.region [⟨some 16, .bin .lss (.t 15) (.t 14), none⟩])
 (.seq (.cond (.t 16)
  .skip
  (.exit 0))
 (.seq (.block 1
  (.seq (.region [⟨some 17, .iaddr 2 (.t 13) (.t 15), none⟩,
    ⟨some 18, .load true 2 (.t 17), none⟩,
    ⟨some 11, .alloc [(.int .u8 0), (.int .i64 0)], none⟩,
    ⟨none, .store 2 (.t 11) (.t 18), none⟩])
  (.seq (.region [⟨some 19, .faddr 1 (.t 11), none⟩,
    ⟨some 20, .load false 1 (.t 19), none⟩,
    ⟨some 21, .bin .eql (.t 20) (.c (.int .i64 (-1))), none⟩])
  (.cond (.t 21)
   (.region [⟨some 22, .load false 1 (.t 8), none⟩,
     ⟨some 23, .faddr 0 (.t 11), none⟩,
     ⟨some 24, .load false 1 (.t 23), none⟩,
     ⟨some 25, .mkSl true 1 [(.int .u8 0)] 1 [(0, (.t 24))], none⟩,
     ⟨some 26, .app true 1 1 (.t 22) (.t 25), none⟩,
     ⟨none, .store 1 (.t 8) (.t 26), none⟩])
   (.region [⟨some 27, .mv (.t 9), none⟩,
     ⟨some 28, .faddr 1 (.t 11), none⟩,
     ⟨some 29, .load false 1 (.t 28), none⟩,
     ⟨some 30, .callv (.t 27) [(.t 29)], none⟩])))))
 f21b0_c1)))
def f21b0_c0 : LCode := (.seq (.region [⟨some 32, .mv (.t 9), none⟩,
   ⟨some 33, .mv (.t 0), none⟩,
   ⟨some 34, .callv (.t 32) [(.t 33)], none⟩])
 (.seq (.seq (.region [⟨some 35, .load false 1 (.t 6), none⟩,
   ⟨some 36, .len false (.t 35), none⟩,
   ⟨some 37, .bin .gtr (.t 36) (.c (.int .i64 50)), none⟩])
 (.cond (.t 37)
  (.seq (.region [⟨some 4, .mv (.c (.val (.slice none 0 0))), none⟩,
    ⟨some 5, .mv (.c (.int .i64 2)), none⟩])
  .ret)
  .skip))
 (.seq (.region [⟨some 38, .load false 1 (.t 6), none⟩,
   ⟨some 4, .mv (.t 38), none⟩,
   ⟨some 5, .mv (.c (.int .i64 0)), none⟩])
 .ret)))
def f21b0_c3 : LCode := (.seq (.region [⟨some 4, .mv (.c (.val (.slice none 0 0))), none⟩,
   ⟨some 5, .mv (.c (.int .i64 0)), none⟩])
 (.seq (.region [⟨some 6, .alloc [(.isl 3 [] true)], none⟩])
 (.seq (.region [⟨some 7, .alloc [(.int .i64 0)], none⟩,
   ⟨none, .store 1 (.t 7) (.c (.int .i64 0)), none⟩])
 (.seq (.region [⟨some 8, .alloc [(.isl 1 [] true)], none⟩])
 (.seq (.region [⟨some 12, .mkfn (.func 30) [] [(.t 7), (.t 8), (.t 6)], none⟩,
   ⟨some 9, .mv (.t 12), none⟩])
 (.seq (.seq (.region [⟨some 13, .mv (.t 1), none⟩,
   ⟨some 14, .len false (.t 13), none⟩,
   ⟨some 15, .mv (.c (.int .i64 0)), none⟩])
 (.block 0
  (.loop
   f21b0_c2)))
 f21b0_c0))))))
def f21b0_lay : Lay := ⟨39, [6], false⟩
def f21b0_res : List LRes := [.t 4, .t 5]
def f21b0_L : LFn := ⟨2, f21b0_lay, f21b0_c3, f21b0_res⟩
theorem f21b0_low : lowFn Try.prog [6] 21 = some f21b0_L := by kernel_rfl
theorem f21b0_fok : FnOk Try.prog 21 := ⟨_, Try.func21, rfl, rfl⟩
def f21b0_Q (a0 : Int) (a1 : List G_tracedByte) (o : (List G_TextEdit) × Int) : Exit → Env → AHeap → Nat → Prop := FinK f21b0_res (FinTo 3 3 (.tup [.isl 3 (o.1.map e_TextEdit) false, .int .i64 o.2]) [((0, 0), .rows 2 (a1.map e_tracedByte))])

def f21b0_L1_env (a0 : Int) (a1 : List G_tracedByte) (s : (Int × (List Int) × Int × (List G_TextEdit))) : Env := [(0, .int .i64 a0), (6, .ptr (3, 0) 0 0), (8, .ptr (4, 0) 0 0), (9, .fn (.func 30) [] [.ptr (5, 0) 0 0, .ptr (4, 0) 0 0, .ptr (3, 0) 0 0]), (13, .msl (0, 0) 2 0 a1.length false), (14, .int .i64 ((a1.length : Nat) : Int)), (15, .int .i64 s.1)]
def f21b0_L1_hp (a0 : Int) (a1 : List G_tracedByte) (s : (Int × (List Int) × Int × (List G_TextEdit))) : AHeap := [((0, 0), .rows 2 (a1.map e_tracedByte)), ((3, 0), .one [.msl (6, 0) 3 0 s.2.2.2.length false]), ((4, 0), .one [.osl (7, 0) 1 (s.2.1.map e_u8)]), ((5, 0), .one [.int .i64 s.2.2.1]), ((6, 0), .rows 3 (s.2.2.2.map e_TextEdit)), ((7, 0), .tok)]
def f21b0_L1_Q (a0 : Int) (a1 : List G_tracedByte) (o : ((List G_TextEdit) × Int)) : Exit → Env → AHeap → Nat → Prop := (QBlock 0 (QSeq Try.prog f21b0_lay 3 f21b0_c0 (f21b0_Q a0 a1 o)))

noncomputable def S_textedit_canonical_21_j3 (m : Option Nat) (a0 : Int) (a1 : List G_tracedByte) (v5 : Int) (v14 : List Int) (v15 : Int) (v16 : List G_TextEdit) : Option ((Int × (List Int) × Int × (List G_TextEdit)) ⊕ ((List G_TextEdit) × Int)) :=
  some (.inl ((W (v5 + 1)), v14, v15, v16))

theorem f21b0_j3_ok {a0 : Int} {a1 : List G_tracedByte} {v5 : Int} {v14 : List Int} {v15 : Int} {v16 : List G_TextEdit} {m : Option Nat} {o : ((Int × (List Int) × Int × (List G_TextEdit)) ⊕ ((List G_TextEdit) × Int))} (h : S_textedit_canonical_21_j3 m a0 a1 v5 v14 v15 v16 = some o) :
    LWp Try.prog f21b0_lay 3 f21b0_c1 (BodyQ 3 8 (f21b0_L1_env a0 a1) (f21b0_L1_hp a0 a1) (f21b0_L1_Q a0 a1) o) [(0, .int .i64 a0), (6, .ptr (3, 0) 0 0), (8, .ptr (4, 0) 0 0), (9, .fn (.func 30) [] [.ptr (5, 0) 0 0, .ptr (4, 0) 0 0, .ptr (3, 0) 0 0]), (13, .msl (0, 0) 2 0 a1.length false), (14, .int .i64 ((a1.length : Nat) : Int)), (15, .int .i64 v5)] [((0, 0), .rows 2 (a1.map e_tracedByte)), ((3, 0), .one [.msl (6, 0) 3 0 v16.length false]), ((4, 0), .one [.osl (7, 0) 1 (v14.map e_u8)]), ((5, 0), .one [.int .i64 v15]), ((6, 0), .rows 3 (v16.map e_TextEdit)), ((7, 0), .tok)] 8 := by
  unfold S_textedit_canonical_21_j3 at h
  refine regI ?_
  cases h
  exact And.intro rfl (simI (M := [((3, 0), (3, 0)), ((4, 0), (4, 0)), ((5, 0), (5, 0)), ((6, 0), (6, 0)), ((7, 0), (7, 0))]) rfl (And.intro (Vw.same _ rfl) (And.intro (Vw.ptr _ _ _ _ rfl) (And.intro (Vw.ptr _ _ _ _ rfl) (And.intro (Vw.fnL trivial (And.intro (Vw.ptr _ _ _ _ rfl) (And.intro (Vw.ptr _ _ _ _ rfl) (And.intro (Vw.ptr _ _ _ _ rfl) trivial)))) (And.intro (Vw.mslE rfl (by first | rfl | simp) rfl) (And.intro (Vw.same _ rfl) (And.intro (Vw.same _ rfl) trivial))))))) (And.intro (And.intro rfl (BVw.enc e_tracedByte (fun _ => rfl) _ a1)) (And.intro (And.intro rfl (BVw.oneL (And.intro (Vw.mslE rfl (by first | rfl | simp) rfl) trivial))) (And.intro (And.intro rfl (BVw.oneL (And.intro (Vw.osl _ _ _ _ rfl) trivial))) (And.intro (And.intro rfl (BVw.oneL (And.intro (Vw.same _ rfl) trivial))) (And.intro (And.intro rfl (BVw.enc e_TextEdit (fun _ => rfl) _ v16)) (And.intro (And.intro rfl BVw.tok) trivial)))))))

noncomputable def S_textedit_canonical_21_j4 (m : Option Nat) (a0 : Int) (a1 : List G_tracedByte) (v6 : List Int) (v7 : Int) (v8 : List G_TextEdit) : Option ((List G_TextEdit) × Int) :=
  (S_textedit_canonical_1_30 m a0 v7 v6 v8).bind fun v17 =>
  if (decide (((v17.2.length : Nat) : Int) > 50)) = true then
    some ([], 2)
  else
    some (v17.2, 0)

noncomputable def S_textedit_canonical_21_b1 (m : Option Nat) (a0 : Int) (a1 : List G_tracedByte) (v5 : Int) (v6 : List Int) (v7 : Int) (v8 : List G_TextEdit) : Option ((Int × (List Int) × Int × (List G_TextEdit)) ⊕ ((List G_TextEdit) × Int)) :=
  if (decide (v5 < ((a1.length : Nat) : Int))) = true then
    if (0 : Int) ≤ v5 ∧ v5 < ((a1.length : Nat) : Int) then
    if (0 + v5.toNat) < a1.length then
    if ((a1.getD (0 + v5.toNat) default).f_origin == (-1)) = true then
      if ((v6 ++ ([(a1.getD (0 + v5.toNat) default).f_value] : List Int)).map e_u8).length * 1 ≤ 140737488355328 then
      S_textedit_canonical_21_j3 m a0 a1 v5 (v6 ++ ([(a1.getD (0 + v5.toNat) default).f_value] : List Int)) v7 v8
      else none
    else
      (S_textedit_canonical_1_30 m ((a1.getD (0 + v5.toNat) default).f_origin) v7 v6 v8).bind fun v13 =>
      S_textedit_canonical_21_j3 m a0 a1 v5 [] v13.1 v13.2
    else none
    else none
  else
    Option.map Sum.inr (
      S_textedit_canonical_21_j4 m a0 a1 v6 v7 v8)

noncomputable def S_textedit_canonical_21_l1 (m : Option Nat) (a0 : Int) (a1 : List G_tracedByte) (v5 : Int) (v6 : List Int) (v7 : Int) (v8 : List G_TextEdit) : Option ((List G_TextEdit) × Int) := loopM m (fun (s : (Int × (List Int) × Int × (List G_TextEdit))) => S_textedit_canonical_21_b1 m a0 a1 s.1 s.2.1 s.2.2.1 s.2.2.2) (v5, v6, v7, v8)

theorem f21b0_j4_ok {a0 : Int} {a1 : List G_tracedByte} {v6 : List Int} {v7 : Int} {v8 : List G_TextEdit} {m : Option Nat} {o : ((List G_TextEdit) × Int)} (h : S_textedit_canonical_21_j4 m a0 a1 v6 v7 v8 = some o) :
    LWp Try.prog f21b0_lay 3 f21b0_c0 (f21b0_Q a0 a1 o) [(0, .int .i64 a0), (6, .ptr (3, 0) 0 0), (9, .fn (.func 30) [] [.ptr (4, 0) 0 0, .ptr (5, 0) 0 0, .ptr (3, 0) 0 0])] [((0, 0), .rows 2 (a1.map e_tracedByte)), ((3, 0), .one [.msl (6, 0) 3 0 v8.length false]), ((4, 0), .one [.int .i64 v7]), ((5, 0), .one [.osl (7, 0) 1 (v6.map e_u8)]), ((6, 0), .rows 3 (v8.map e_TextEdit)), ((7, 0), .tok)] 8 := by
  unfold S_textedit_canonical_21_j4 at h
  refine seqI ?_
  refine regI ?_
  obtain ⟨v17, h19, h⟩ := bind_some h
  refine bcall (k := 3) (m := 1) (L' := [((4, 0), .one [.int .i64 v17.1]), ((5, 0), .one [.val (.slice none 0 0)]), ((3, 0), .one [.msl (8, 0) 3 0 v17.2.length false]), ((8, 0), .rows 3 (v17.2.map e_TextEdit))]) (rest := [((0, 0), .rows 2 (a1.map e_tracedByte))]) (R' := .tup []) [((0, 0), (4, 0)), ((0, 1), (5, 0)), ((0, 2), (3, 0)), ((0, 3), (7, 0)), ((0, 4), (6, 0))] (f30b1_ok h19) rfl rfl rfl (And.intro (Vw.same _ rfl) (And.intro (Vw.ptr _ _ _ _ rfl) (And.intro (Vw.ptr _ _ _ _ rfl) (And.intro (Vw.ptr _ _ _ _ rfl) trivial)))) (And.intro (h0I (4, 0) rfl rfl (BVw.oneL (And.intro (Vw.same _ rfl) trivial))) (And.intro (h0I (5, 0) rfl rfl (BVw.oneL (And.intro (Vw.osl _ _ _ _ rfl) trivial))) (And.intro (h0I (3, 0) rfl rfl (BVw.oneL (And.intro (Vw.mslE rfl (by first | rfl | simp) rfl) trivial))) (And.intro (h0I (7, 0) rfl rfl BVw.tok) (And.intro (h0I (6, 0) rfl rfl (BVw.enc e_TextEdit (fun _ => rfl) _ v8)) trivial))))) (nid_ren _ rfl) (And.intro rfl (And.intro rfl (And.intro rfl (And.intro rfl (And.intro rfl (And.intro rfl (And.intro rfl (And.intro (rows_ren e_TextEdit (fun _ => rfl) _ _) trivial)))))))) rfl ?_
  refine seqI ?_
  refine seqI ?_
  refine regI ?_
  refine condI (v := (decide (((v17.2.length : Nat) : Int) > 50))) rfl trivial (fun h20 => ?_) (fun h20 => ?_)
  · have h := ite_tt h20 h
    refine seqI ?_
    refine regI ?_
    refine LWp.sim (e := [(4, .val (.slice none 0 0)), (5, .int .i64 2)]) (L := [((0, 0), .rows 2 (a1.map e_tracedByte))]) (n := 3) ?_ ?_
    · exact simI (M := []) rfl (And.intro (Vw.same _ rfl) (And.intro (Vw.same _ rfl) trivial)) (And.intro (And.intro rfl (BVw.enc e_tracedByte (fun _ => rfl) _ a1)) trivial)
    refine retI ?_
    cases h
    exact And.intro trivial (And.intro trivial (finI (n' := 3) [] [] rfl rfl (Vw.tupL (And.intro (Vw.nilI _ _) (And.intro (Vw.same _ rfl) trivial))) (And.intro (And.intro rfl (BVw.enc e_tracedByte (fun _ => rfl) _ a1)) trivial)))
  · have h := ite_ff h20 h
    refine skipI ?_
    refine seqI ?_
    refine regI ?_
    refine LWp.sim (e := [(4, .msl (3, 0) 3 0 v17.2.length false), (5, .int .i64 0)]) (L := [((0, 0), .rows 2 (a1.map e_tracedByte)), ((3, 0), .rows 3 (v17.2.map e_TextEdit))]) (n := 4) ?_ ?_
    · exact simI (M := [((3, 0), (8, 0))]) rfl (And.intro (Vw.mslE rfl (by first | rfl | simp) rfl) (And.intro (Vw.same _ rfl) trivial)) (And.intro (And.intro rfl (BVw.enc e_tracedByte (fun _ => rfl) _ a1)) (And.intro (And.intro rfl (BVw.enc e_TextEdit (fun _ => rfl) _ v17.2)) trivial))
    refine retI ?_
    cases h
    exact And.intro trivial (And.intro trivial (finI (n' := 4) [] [(3, 0)] rfl rfl (Vw.tupL (And.intro (Vw.frzB e_TextEdit e_TextEdit_ok (fun h => h) rfl rfl (by first | rfl | simp)) (And.intro (Vw.same _ rfl) trivial))) (And.intro (And.intro rfl (BVw.enc e_tracedByte (fun _ => rfl) _ a1)) trivial)))

theorem f21b0_L1_bok {a0 : Int} {a1 : List G_tracedByte} {v5 : Int} {v6 : List Int} {v7 : Int} {v8 : List G_TextEdit} {m : Option Nat} {o : (Int × (List Int) × Int × (List G_TextEdit)) ⊕ ((List G_TextEdit) × Int)} (h : S_textedit_canonical_21_b1 m a0 a1 v5 v6 v7 v8 = some o) :
    LWp Try.prog f21b0_lay 3 f21b0_c2 (BodyQ 3 8 (f21b0_L1_env a0 a1) (f21b0_L1_hp a0 a1) (f21b0_L1_Q a0 a1) o) [(0, .int .i64 a0), (6, .ptr (3, 0) 0 0), (8, .ptr (4, 0) 0 0), (9, .fn (.func 30) [] [.ptr (5, 0) 0 0, .ptr (4, 0) 0 0, .ptr (3, 0) 0 0]), (13, .msl (0, 0) 2 0 a1.length false), (14, .int .i64 ((a1.length : Nat) : Int)), (15, .int .i64 v5)] [((0, 0), .rows 2 (a1.map e_tracedByte)), ((3, 0), .one [.msl (6, 0) 3 0 v8.length false]), ((4, 0), .one [.osl (7, 0) 1 (v6.map e_u8)]), ((5, 0), .one [.int .i64 v7]), ((6, 0), .rows 3 (v8.map e_TextEdit)), ((7, 0), .tok)] 8 := by
  unfold S_textedit_canonical_21_b1 at h
  refine seqI ?_
  refine regI ?_
  refine seqI ?_
  refine condI (v := (decide (v5 < ((a1.length : Nat) : Int)))) rfl trivial (fun h13 => ?_) (fun h13 => ?_)
  · have h := ite_tt h13 h
    refine skipI ?_
    refine seqI ?_
    refine blockI ?_
    refine seqI ?_
    refine regI ?_
    obtain ⟨h14, h⟩ := ite_some h
    refine And.intro h14 ?_
    obtain ⟨h15, h⟩ := ite_some h
    refine Exists.intro (e_tracedByte (a1.getD (0 + v5.toNat) default)) (And.intro (getD_enc e_tracedByte _ _ h15) (And.intro (And.intro (lt_map e_tracedByte h15) (Nat.le_of_ble_eq_true rfl)) ?_))
    refine seqI ?_
    refine regI ?_
    refine LWp.sim (e := [(0, .int .i64 a0), (6, .ptr (3, 0) 0 0), (8, .ptr (4, 0) 0 0), (9, .fn (.func 30) [] [.ptr (5, 0) 0 0, .ptr (4, 0) 0 0, .ptr (3, 0) 0 0]), (11, .ptr (6, 0) 0 0), (13, .msl (0, 0) 2 0 a1.length false), (14, .int .i64 ((a1.length : Nat) : Int)), (15, .int .i64 v5), (21, .bool ((a1.getD (0 + v5.toNat) default).f_origin == (-1)))]) (L := [((0, 0), .rows 2 (a1.map e_tracedByte)), ((3, 0), .one [.msl (7, 0) 3 0 v8.length false]), ((4, 0), .one [.osl (8, 0) 1 (v6.map e_u8)]), ((5, 0), .one [.int .i64 v7]), ((6, 0), .one [.int .u8 ((a1.getD (0 + v5.toNat) default).f_value), .int .i64 ((a1.getD (0 + v5.toNat) default).f_origin)]), ((7, 0), .rows 3 (v8.map e_TextEdit)), ((8, 0), .tok)]) (n := 9) ?_ ?_
    · exact simI (M := [((3, 0), (3, 0)), ((4, 0), (4, 0)), ((5, 0), (5, 0)), ((6, 0), (8, 0)), ((7, 0), (6, 0)), ((8, 0), (7, 0))]) rfl (And.intro (Vw.same _ rfl) (And.intro (Vw.ptr _ _ _ _ rfl) (And.intro (Vw.ptr _ _ _ _ rfl) (And.intro (Vw.fnL trivial (And.intro (Vw.ptr _ _ _ _ rfl) (And.intro (Vw.ptr _ _ _ _ rfl) (And.intro (Vw.ptr _ _ _ _ rfl) trivial)))) (And.intro (Vw.ptr _ _ _ _ rfl) (And.intro (Vw.mslE rfl (by first | rfl | simp) rfl) (And.intro (Vw.same _ rfl) (And.intro (Vw.same _ rfl) (And.intro (Vw.same _ rfl) trivial))))))))) (And.intro (And.intro rfl (BVw.enc e_tracedByte (fun _ => rfl) _ a1)) (And.intro (And.intro rfl (BVw.oneL (And.intro (Vw.mslE rfl (by first | rfl | simp) rfl) trivial))) (And.intro (And.intro rfl (BVw.oneL (And.intro (Vw.osl _ _ _ _ rfl) trivial))) (And.intro (And.intro rfl (BVw.oneL (And.intro (Vw.same _ rfl) trivial))) (And.intro (And.intro rfl (BVw.oneL (And.intro (Vw.same _ rfl) (And.intro (Vw.same _ rfl) trivial)))) (And.intro (And.intro rfl (BVw.enc e_TextEdit (fun _ => rfl) _ v8)) (And.intro (And.intro rfl BVw.tok) trivial)))))))
    refine condI (v := ((a1.getD (0 + v5.toNat) default).f_origin == (-1))) rfl trivial (fun h16 => ?_) (fun h16 => ?_)
    · have h := ite_tt h16 h
      refine regI ?_
      obtain ⟨h17, h⟩ := ite_some h
      refine Exists.intro ((v6 ++ ([(a1.getD (0 + v5.toNat) default).f_value] : List Int)).map e_u8) (And.intro (app_enc e_u8 v6 ([(a1.getD (0 + v5.toNat) default).f_value] : List Int)) (And.intro h17 ?_))
      refine LWp.sim ?_ (f21b0_j3_ok h)
      exact simI (M := [((3, 0), (3, 0)), ((4, 0), (4, 0)), ((5, 0), (5, 0)), ((6, 0), (7, 0)), ((7, 0), (9, 0))]) rfl (And.intro (Vw.same _ rfl) (And.intro (Vw.ptr _ _ _ _ rfl) (And.intro (Vw.ptr _ _ _ _ rfl) (And.intro (Vw.fnL trivial (And.intro (Vw.ptr _ _ _ _ rfl) (And.intro (Vw.ptr _ _ _ _ rfl) (And.intro (Vw.ptr _ _ _ _ rfl) trivial)))) (And.intro (Vw.mslE rfl (by first | rfl | simp) rfl) (And.intro (Vw.same _ rfl) (And.intro (Vw.same _ rfl) trivial))))))) (And.intro (And.intro rfl (BVw.enc e_tracedByte (fun _ => rfl) _ a1)) (And.intro (And.intro rfl (BVw.oneL (And.intro (Vw.mslE rfl (by first | rfl | simp) rfl) trivial))) (And.intro (And.intro rfl (BVw.oneL (And.intro (Vw.osl _ _ _ _ rfl) trivial))) (And.intro (And.intro rfl (BVw.oneL (And.intro (Vw.same _ rfl) trivial))) (And.intro (And.intro rfl (BVw.enc e_TextEdit (fun _ => rfl) _ v8)) (And.intro (And.intro rfl BVw.tok) trivial))))))
    · have h := ite_ff h16 h
      refine regI ?_
      obtain ⟨v13, h18, h⟩ := bind_some h
      refine bcall (k := 3) (m := 1) (L' := [((5, 0), .one [.int .i64 v13.1]), ((4, 0), .one [.val (.slice none 0 0)]), ((3, 0), .one [.msl (9, 0) 3 0 v13.2.length false]), ((9, 0), .rows 3 (v13.2.map e_TextEdit))]) (rest := [((0, 0), .rows 2 (a1.map e_tracedByte)), ((6, 0), .one [.int .u8 ((a1.getD (0 + v5.toNat) default).f_value), .int .i64 ((a1.getD (0 + v5.toNat) default).f_origin)])]) (R' := .tup []) [((0, 0), (5, 0)), ((0, 1), (4, 0)), ((0, 2), (3, 0)), ((0, 3), (8, 0)), ((0, 4), (7, 0))] (f30b1_ok h18) rfl rfl rfl (And.intro (Vw.same _ rfl) (And.intro (Vw.ptr _ _ _ _ rfl) (And.intro (Vw.ptr _ _ _ _ rfl) (And.intro (Vw.ptr _ _ _ _ rfl) trivial)))) (And.intro (h0I (5, 0) rfl rfl (BVw.oneL (And.intro (Vw.same _ rfl) trivial))) (And.intro (h0I (4, 0) rfl rfl (BVw.oneL (And.intro (Vw.osl _ _ _ _ rfl) trivial))) (And.intro (h0I (3, 0) rfl rfl (BVw.oneL (And.intro (Vw.mslE rfl (by first | rfl | simp) rfl) trivial))) (And.intro (h0I (8, 0) rfl rfl BVw.tok) (And.intro (h0I (7, 0) rfl rfl (BVw.enc e_TextEdit (fun _ => rfl) _ v8)) trivial))))) (nid_ren _ rfl) (And.intro rfl (And.intro rfl (And.intro rfl (And.intro rfl (And.intro rfl (And.intro rfl (And.intro rfl (And.intro (rows_ren e_TextEdit (fun _ => rfl) _ _) trivial)))))))) rfl ?_
      refine LWp.sim ?_ (f21b0_j3_ok h)
      exact simI (M := [((3, 0), (3, 0)), ((4, 0), (4, 0)), ((5, 0), (5, 0)), ((6, 0), (9, 0))]) rfl (And.intro (Vw.same _ rfl) (And.intro (Vw.ptr _ _ _ _ rfl) (And.intro (Vw.ptr _ _ _ _ rfl) (And.intro (Vw.fnL trivial (And.intro (Vw.ptr _ _ _ _ rfl) (And.intro (Vw.ptr _ _ _ _ rfl) (And.intro (Vw.ptr _ _ _ _ rfl) trivial)))) (And.intro (Vw.mslE rfl (by first | rfl | simp) rfl) (And.intro (Vw.same _ rfl) (And.intro (Vw.same _ rfl) trivial))))))) (And.intro (And.intro rfl (BVw.enc e_tracedByte (fun _ => rfl) _ a1)) (And.intro (And.intro rfl (BVw.oneL (And.intro (Vw.mslE rfl (by first | rfl | simp) rfl) trivial))) (And.intro (And.intro rfl (BVw.oneL (And.intro (Vw.nilO _ _ (by decide)) trivial))) (And.intro (And.intro rfl (BVw.oneL (And.intro (Vw.same _ rfl) trivial))) (And.intro (And.intro rfl (BVw.enc e_TextEdit (fun _ => rfl) _ v13.2)) (And.intro (And.intro rfl (And.intro (by decide) (by decide))) trivial))))))
  · have h := ite_ff h13 h
    refine exitI ?_
    obtain ⟨o, hq, rfl⟩ := Option.map_eq_some_iff.1 h
    replace h := hq; clear hq
    refine And.intro nofun ?_
    refine LWp.sim ?_ (f21b0_j4_ok h)
    exact simI (M := [((3, 0), (3, 0)), ((4, 0), (5, 0)), ((5, 0), (4, 0)), ((6, 0), (6, 0)), ((7, 0), (7, 0))]) rfl (And.intro (Vw.same _ rfl) (And.intro (Vw.ptr _ _ _ _ rfl) (And.intro (Vw.fnL trivial (And.intro (Vw.ptr _ _ _ _ rfl) (And.intro (Vw.ptr _ _ _ _ rfl) (And.intro (Vw.ptr _ _ _ _ rfl) trivial)))) trivial))) (And.intro (And.intro rfl (BVw.enc e_tracedByte (fun _ => rfl) _ a1)) (And.intro (And.intro rfl (BVw.oneL (And.intro (Vw.mslE rfl (by first | rfl | simp) rfl) trivial))) (And.intro (And.intro rfl (BVw.oneL (And.intro (Vw.same _ rfl) trivial))) (And.intro (And.intro rfl (BVw.oneL (And.intro (Vw.osl _ _ _ _ rfl) trivial))) (And.intro (And.intro rfl (BVw.enc e_TextEdit (fun _ => rfl) _ v8)) (And.intro (And.intro rfl BVw.tok) trivial))))))

theorem f21b0_L1_ok {a0 : Int} {a1 : List G_tracedByte} {v5 : Int} {v6 : List Int} {v7 : Int} {v8 : List G_TextEdit} {m : Option Nat} {o : ((List G_TextEdit) × Int)} (h : S_textedit_canonical_21_l1 m a0 a1 v5 v6 v7 v8 = some o) :
    LWp Try.prog f21b0_lay 3 (.loop f21b0_c2) (QBlock 0 (QSeq Try.prog f21b0_lay 3 f21b0_c0 (f21b0_Q a0 a1 o))) [(0, .int .i64 a0), (6, .ptr (3, 0) 0 0), (8, .ptr (4, 0) 0 0), (9, .fn (.func 30) [] [.ptr (5, 0) 0 0, .ptr (4, 0) 0 0, .ptr (3, 0) 0 0]), (13, .msl (0, 0) 2 0 a1.length false), (14, .int .i64 ((a1.length : Nat) : Int)), (15, .int .i64 v5)] [((0, 0), .rows 2 (a1.map e_tracedByte)), ((3, 0), .one [.msl (6, 0) 3 0 v8.length false]), ((4, 0), .one [.osl (7, 0) 1 (v6.map e_u8)]), ((5, 0), .one [.int .i64 v7]), ((6, 0), .rows 3 (v8.map e_TextEdit)), ((7, 0), .tok)] 8 :=
  LWp_loopM (m := m) (s := ((v5, v6, v7, v8) : (Int × (List Int) × Int × (List G_TextEdit)))) (r := o) (fun (s : (Int × (List Int) × Int × (List G_TextEdit))) => S_textedit_canonical_21_b1 m a0 a1 s.1 s.2.1 s.2.2.1 s.2.2.2) (f21b0_L1_env a0 a1) (f21b0_L1_hp a0 a1) (f21b0_L1_Q a0 a1) (fun s o h => f21b0_L1_bok h) h

noncomputable def S_textedit_canonical_21 (m : Option Nat) (a0 : Int) (a1 : List G_tracedByte) : Option ((List G_TextEdit) × Int) :=
  S_textedit_canonical_21_l1 m a0 a1 0 ([] : List Int) 0 ([] : List G_TextEdit)

theorem f21b0_start {a0 : Int} {a1 : List G_tracedByte} {m : Option Nat} {o : (List G_TextEdit) × Int} (h : S_textedit_canonical_21 m a0 a1 = some o) : LWp Try.prog f21b0_lay 3 f21b0_c3 (f21b0_Q a0 a1 o) (initEnv 0 [.int .i64 a0, .msl (0, 0) 2 0 a1.length false]) [((0, 0), .rows 2 (a1.map e_tracedByte))] 3 := by
  unfold S_textedit_canonical_21 at h
  refine seqI ?_
  refine regI ?_
  refine seqI ?_
  refine regI ?_
  refine LWp.ghost (b := (3, 0)) 3 rfl rfl ?_
  refine LWp.sim (e := [(0, .int .i64 a0), (1, .msl (0, 0) 2 0 a1.length false), (6, .ptr (3, 0) 0 0)]) (L := [((0, 0), .rows 2 (a1.map e_tracedByte)), ((3, 0), .one [.msl (4, 0) 3 0 (([] : List G_TextEdit).length) false]), ((4, 0), .rows 3 (([] : List G_TextEdit).map e_TextEdit))]) (n := 5) ?_ ?_
  · exact simI (M := [((3, 0), (3, 0)), ((4, 0), (4, 0))]) rfl (And.intro (Vw.same _ rfl) (And.intro (Vw.mslE rfl (by first | rfl | simp) rfl) (And.intro (Vw.ptr _ _ _ _ rfl) trivial))) (And.intro (And.intro rfl (BVw.enc e_tracedByte (fun _ => rfl) _ a1)) (And.intro (And.intro rfl (BVw.oneL (And.intro (Vw.islM _ _ _ _ _ _ rfl rfl) trivial))) (And.intro (And.intro rfl (BVw.enc e_TextEdit (fun _ => rfl) _ ([] : List G_TextEdit))) trivial)))
  refine seqI ?_
  refine regI ?_
  refine seqI ?_
  refine regI ?_
  refine seqI ?_
  refine regI ?_
  refine seqI ?_
  refine seqI ?_
  refine regI ?_
  refine LWp.sim (e := [(0, .int .i64 a0), (6, .ptr (3, 0) 0 0), (8, .ptr (4, 0) 0 0), (9, .fn (.func 30) [] [.ptr (5, 0) 0 0, .ptr (4, 0) 0 0, .ptr (3, 0) 0 0]), (13, .msl (0, 0) 2 0 a1.length false), (14, .int .i64 ((a1.length : Nat) : Int)), (15, .int .i64 0)]) (L := [((0, 0), .rows 2 (a1.map e_tracedByte)), ((3, 0), .one [.msl (6, 0) 3 0 (([] : List G_TextEdit).length) false]), ((4, 0), .one [.isl 1 (([] : List Int).map e_u8) true]), ((5, 0), .one [.int .i64 0]), ((6, 0), .rows 3 (([] : List G_TextEdit).map e_TextEdit))]) (n := 7) ?_ ?_
  · exact simI (M := [((3, 0), (3, 0)), ((4, 0), (6, 0)), ((5, 0), (5, 0)), ((6, 0), (4, 0))]) rfl (And.intro (Vw.same _ rfl) (And.intro (Vw.ptr _ _ _ _ rfl) (And.intro (Vw.ptr _ _ _ _ rfl) (And.intro (Vw.fnL trivial (And.intro (Vw.ptr _ _ _ _ rfl) (And.intro (Vw.ptr _ _ _ _ rfl) (And.intro (Vw.ptr _ _ _ _ rfl) trivial)))) (And.intro (Vw.mslE rfl (by first | rfl | simp) rfl) (And.intro (Vw.same _ rfl) (And.intro (Vw.same _ rfl) trivial))))))) (And.intro (And.intro rfl (BVw.enc e_tracedByte (fun _ => rfl) _ a1)) (And.intro (And.intro rfl (BVw.oneL (And.intro (Vw.mslE rfl (by first | rfl | simp) rfl) trivial))) (And.intro (And.intro rfl (BVw.oneL (And.intro (Vw.same _ rfl) trivial))) (And.intro (And.intro rfl (BVw.oneL (And.intro (Vw.same _ rfl) trivial))) (And.intro (And.intro rfl (BVw.enc e_TextEdit (fun _ => rfl) _ ([] : List G_TextEdit))) trivial)))))
  refine blockI ?_
  refine LWp.sim ?_ (f21b0_L1_ok h)
  exact simI (M := [((3, 0), (3, 0)), ((4, 0), (4, 0)), ((5, 0), (5, 0)), ((6, 0), (6, 0))]) rfl (And.intro (Vw.same _ rfl) (And.intro (Vw.ptr _ _ _ _ rfl) (And.intro (Vw.ptr _ _ _ _ rfl) (And.intro (Vw.fnL trivial (And.intro (Vw.ptr _ _ _ _ rfl) (And.intro (Vw.ptr _ _ _ _ rfl) (And.intro (Vw.ptr _ _ _ _ rfl) trivial)))) (And.intro (Vw.mslE rfl (by first | rfl | simp) rfl) (And.intro (Vw.same _ rfl) (And.intro (Vw.same _ rfl) trivial))))))) (And.intro (And.intro rfl (BVw.enc e_tracedByte (fun _ => rfl) _ a1)) (And.intro (And.intro rfl (BVw.oneL (And.intro (Vw.mslE rfl (by first | rfl | simp) rfl) trivial))) (And.intro (And.intro rfl (BVw.oneL (And.intro (Vw.islO _ _ _ (by decide)) trivial))) (And.intro (And.intro rfl (BVw.oneL (And.intro (Vw.same _ rfl) trivial))) (And.intro (And.intro rfl (BVw.enc e_TextEdit (fun _ => rfl) _ ([] : List G_TextEdit))) (And.intro (And.intro rfl (And.intro (by decide) (by decide))) trivial))))))

theorem f21b0_ok {a0 : Int} {a1 : List G_tracedByte} {m : Option Nat} {o : (List G_TextEdit) × Int} (h : S_textedit_canonical_21 m a0 a1 = some o) : ACalls Try.prog 21 [.int .i64 a0, .msl (0, 0) 2 0 a1.length false] [((0, 0), .rows 2 (a1.map e_tracedByte))] 3 (Gives 3 (.tup [.isl 3 (o.1.map e_TextEdit) false, .int .i64 o.2]) [((0, 0), .rows 2 (a1.map e_tracedByte))]) := bfn_of (L := f21b0_L) f21b0_low f21b0_fok (Nat.le_of_ble_eq_true rfl) (f21b0_start h)

def f16_c2 : LCode := (.seq (.region [⟨some 116, .mv (.t 16), none⟩,
   ⟨some 117, .un .not (.t 116), none⟩])
 (.cond (.t 117)
  (.region [⟨some 118, .mv (.t 13), none⟩,
    ⟨some 119, .nilck (.t 118), none⟩,
    ⟨some 120, .faddr 1 (.t 119), none⟩,
    ⟨some 121, .load false 1 (.t 120), none⟩,
    ⟨some 122, .bin .add (.t 121) (.c (.int .i64 1)), none⟩,
    ⟨some 123, .nilck (.t 118), none⟩,
    ⟨some 124, .faddr 1 (.t 123), none⟩,
    ⟨none, .store 1 (.t 124) (.t 122), none⟩])
  .skip))
def f16_c3 : LCode := (.seq (.seq (.region [⟨some 107, .mv (.t 15), none⟩,
   ⟨some 108, .un .not (.t 107), none⟩])
 (.cond (.t 108)
  (.region [⟨some 109, .mv (.t 12), none⟩,
    ⟨some 110, .nilck (.t 109), none⟩,
    ⟨some 111, .faddr 1 (.t 110), none⟩,
    ⟨some 112, .load false 1 (.t 111), none⟩,
    ⟨some 113, .bin .add (.t 112) (.c (.int .i64 1)), none⟩,
    ⟨some 114, .nilck (.t 109), none⟩,
    ⟨some 115, .faddr 1 (.t 114), none⟩,
    ⟨none, .store 1 (.t 115) (.t 113), none⟩])
  .skip))
 f16_c2)
def f16_c0 : LCode := (.region [⟨some 47, .mv (.t 14), none⟩,
   ⟨some 48, .bin .add (.t 47) (.c (.int .i64 1)), none⟩,
   ⟨some 14, .mv (.t 48), none⟩])
def f16_c4 : LCode := (.seq (.seq (.region [⟨some 43, .mv (.t 14), none⟩,
   ⟨some 44, .mv (.t 0), none⟩,
   ⟨some 45, .len true (.t 44), none⟩,
   ⟨some 46, .bin .leq (.t 43) (.t 45), none⟩])
 (.cond (.t 46)
  .skip
  (.exit 0)))
 (.seq (.block 1
  (.seq (.region [⟨some 49, .mv (.t 12), none⟩,
    ⟨some 50, .mv (.t 14), none⟩,
    ⟨some 51, .mv (.t 13), none⟩,
    ⟨some 52, .call 25 [(.t 49), (.t 50), (.t 51)], none⟩])
  (.seq (.region [⟨some 53, .mv (.t 13), none⟩,
    ⟨some 54, .mv (.t 14), none⟩,
    ⟨some 55, .mv (.t 12), none⟩,
    ⟨some 56, .call 25 [(.t 53), (.t 54), (.t 55)], none⟩])
  (.seq (.seq (.region [⟨some 57, .mv (.t 14), none⟩,
    ⟨some 58, .mv (.t 0), none⟩,
    ⟨some 59, .len true (.t 58), none⟩,
    ⟨some 60, .bin .eql (.t 57) (.t 59), none⟩])
  (.cond (.t 60)
   (.exit 0)
   .skip))
  (.seq (.region [⟨some 61, .mv (.t 12), none⟩,
    ⟨some 62, .mv (.t 14), none⟩,
    ⟨some 63, .call 26 [(.t 61), (.t 62)], none⟩,
    ⟨some 64, .mv (.t 13), none⟩,
    ⟨some 65, .mv (.t 14), none⟩,
    ⟨some 66, .call 26 [(.t 64), (.t 65)], none⟩,
    ⟨some 15, .mv (.t 63), none⟩,
    ⟨some 16, .mv (.t 66), none⟩])
  (.seq (.seq (.region [⟨some 67, .mv (.t 15), none⟩,
    ⟨some 68, .un .not (.t 67), none⟩,
    ⟨some 69, .mv (.t 68), none⟩,
    ⟨some 70, .mv (.t 16), some (69, true)⟩,
    ⟨some 71, .un .not (.t 70), some (69, true)⟩,
    ⟨some 72, .pick (.t 69) (.t 71) (.c (.bool false)), none⟩])
  (.cond (.t 72)
   (.seq (.draw [⟨⟨some 73, .mv (.t 12), none⟩, []⟩,
     ⟨⟨some 74, .mv (.t 12), none⟩, []⟩,
     ⟨⟨some 75, .nilck (.t 74), none⟩, []⟩,
     ⟨⟨some 76, .faddr 2 (.t 75), none⟩, []⟩,
     ⟨⟨some 77, .load false 1 (.t 76), none⟩, []⟩,
     ⟨⟨some 78, .mv (.t 0), none⟩, []⟩,
     ⟨⟨some 79, .mv (.t 14), none⟩, []⟩,
     ⟨⟨some 80, .idxS (.t 78) (.t 79), none⟩, []⟩,
     ⟨⟨some 81, .mv (.t 12), none⟩, []⟩,
     ⟨⟨some 82, .nilck (.t 81), none⟩, []⟩,
     ⟨⟨some 83, .faddr 1 (.t 82), none⟩, []⟩,
     ⟨⟨some 84, .load false 1 (.t 83), none⟩, []⟩,
     ⟨⟨some 85, .build [(.int .u8 0), (.int .i64 0)] [(0, 1, (.t 80)), (1, 1, (.t 84))], none⟩, []⟩,
     ⟨⟨some 86, .mkSl true 2 [(.int .u8 0), (.int .i64 0)] 1 [(0, (.t 85))], none⟩, [4]⟩,
     ⟨⟨some 87, .app false 2 16 (.t 77) (.t 86), none⟩, []⟩,
     ⟨⟨some 88, .nilck (.t 73), none⟩, []⟩,
     ⟨⟨some 89, .faddr 2 (.t 88), none⟩, []⟩,
     ⟨⟨none, .store 1 (.t 89) (.t 87), none⟩, []⟩])
   (.draw [⟨⟨some 90, .mv (.t 13), none⟩, []⟩,
     ⟨⟨some 91, .mv (.t 13), none⟩, []⟩,
     ⟨⟨some 92, .nilck (.t 91), none⟩, []⟩,
     ⟨⟨some 93, .faddr 2 (.t 92), none⟩, []⟩,
     ⟨⟨some 94, .load false 1 (.t 93), none⟩, []⟩,
     ⟨⟨some 95, .mv (.t 0), none⟩, []⟩,
     ⟨⟨some 96, .mv (.t 14), none⟩, []⟩,
     ⟨⟨some 97, .idxS (.t 95) (.t 96), none⟩, []⟩,
     ⟨⟨some 98, .mv (.t 13), none⟩, []⟩,
     ⟨⟨some 99, .nilck (.t 98), none⟩, []⟩,
     ⟨⟨some 100, .faddr 1 (.t 99), none⟩, []⟩,
     ⟨⟨some 101, .load false 1 (.t 100), none⟩, []⟩,
     ⟨⟨some 102, .build [(.int .u8 0), (.int .i64 0)] [(0, 1, (.t 97)), (1, 1, (.t 101))], none⟩, []⟩,
     ⟨⟨some 103, .mkSl true 2 [(.int .u8 0), (.int .i64 0)] 1 [(0, (.t 102))], none⟩, [4]⟩,
     ⟨⟨some 104, .app false 2 16 (.t 94) (.t 103), none⟩, []⟩,
     ⟨⟨some 105, .nilck (.t 90), none⟩, []⟩,
     ⟨⟨some 106, .faddr 2 (.t 105), none⟩, []⟩,
     ⟨⟨none, .store 1 (.t 106) (.t 104), none⟩, []⟩]))
   .skip))
  f16_c3))))))
 f16_c0))
def f16_c1 : LCode := (.seq (.seq (.region [⟨some 125, .mv (.t 12), none⟩,
   ⟨some 126, .nilck (.t 125), none⟩,
   ⟨some 127, .faddr 2 (.t 126), none⟩,
   ⟨some 128, .load false 1 (.t 127), none⟩,
   ⟨some 129, .len false (.t 128), none⟩,
   ⟨some 130, .bin .gtr (.t 129) (.c (.int .i64 2000)), none⟩])
 (.cond (.t 130)
  (.seq (.region [⟨some 6, .mv (.c (.val (.slice none 0 0))), none⟩,
    ⟨some 7, .mv (.c (.val (.slice none 0 0))), none⟩,
    ⟨some 8, .mv (.c (.int .i64 2)), none⟩])
  .ret)
  .skip))
 (.seq (.region [⟨some 132, .mv (.t 11), none⟩,
   ⟨some 133, .len true (.t 132), none⟩,
   ⟨some 134, .mv (.t 13), none⟩,
   ⟨some 135, .nilck (.t 134), none⟩,
   ⟨some 136, .faddr 2 (.t 135), none⟩,
   ⟨some 137, .load false 1 (.t 136), none⟩,
   ⟨some 138, .call 21 [(.t 133), (.t 137)], none⟩,
   ⟨some 131, .mv (.t 138), none⟩,
   ⟨some 139, .ext 0 (.t 131), none⟩,
   ⟨some 140, .ext 1 (.t 131), none⟩,
   ⟨some 17, .mv (.t 139), none⟩,
   ⟨some 10, .mv (.t 140), none⟩])
 (.seq (.seq (.region [⟨some 141, .mv (.t 10), none⟩,
   ⟨some 142, .bin .neq (.t 141) (.c (.int .i64 0)), none⟩])
 (.cond (.t 142)
  (.seq (.region [⟨some 143, .mv (.t 10), none⟩,
    ⟨some 6, .mv (.c (.val (.slice none 0 0))), none⟩,
    ⟨some 7, .mv (.c (.val (.slice none 0 0))), none⟩,
    ⟨some 8, .mv (.t 143), none⟩])
  .ret)
  .skip))
 (.seq (.region [⟨some 145, .mv (.t 9), none⟩,
   ⟨some 146, .len true (.t 145), none⟩,
   ⟨some 147, .mv (.t 12), none⟩,
   ⟨some 148, .nilck (.t 147), none⟩,
   ⟨some 149, .faddr 2 (.t 148), none⟩,
   ⟨some 150, .load false 1 (.t 149), none⟩,
   ⟨some 151, .call 21 [(.t 146), (.t 150)], none⟩,
   ⟨some 144, .mv (.t 151), none⟩,
   ⟨some 152, .ext 0 (.t 144), none⟩,
   ⟨some 153, .ext 1 (.t 144), none⟩,
   ⟨some 18, .mv (.t 152), none⟩,
   ⟨some 10, .mv (.t 153), none⟩])
 (.seq (.seq (.region [⟨some 154, .mv (.t 10), none⟩,
   ⟨some 155, .bin .neq (.t 154) (.c (.int .i64 0)), none⟩])
 (.cond (.t 155)
  (.seq (.region [⟨some 156, .mv (.t 10), none⟩,
    ⟨some 6, .mv (.c (.val (.slice none 0 0))), none⟩,
    ⟨some 7, .mv (.c (.val (.slice none 0 0))), none⟩,
    ⟨some 8, .mv (.t 156), none⟩])
  .ret)
  .skip))
 (.seq (.region [⟨some 157, .mv (.t 17), none⟩,
   ⟨some 158, .mv (.t 18), none⟩,
   ⟨some 6, .mv (.t 157), none⟩,
   ⟨some 7, .mv (.t 158), none⟩,
   ⟨some 8, .mv (.c (.int .i64 0)), none⟩])
 .ret))))))
def f16_c5 : LCode := (.seq (.region [⟨some 6, .mv (.c (.val (.slice none 0 0))), none⟩,
   ⟨some 7, .mv (.c (.val (.slice none 0 0))), none⟩,
   ⟨some 8, .mv (.c (.int .i64 0)), none⟩])
 (.seq (.region [⟨some 20, .mv (.t 0), none⟩,
   ⟨some 21, .mv (.t 1), none⟩,
   ⟨some 22, .call 7 [(.t 20), (.t 21)], none⟩,
   ⟨some 19, .mv (.t 22), none⟩,
   ⟨some 23, .ext 0 (.t 19), none⟩,
   ⟨some 24, .ext 1 (.t 19), none⟩,
   ⟨some 9, .mv (.t 23), none⟩,
   ⟨some 10, .mv (.t 24), none⟩])
 (.seq (.seq (.region [⟨some 25, .mv (.t 10), none⟩,
   ⟨some 26, .bin .neq (.t 25) (.c (.int .i64 0)), none⟩])
 (.cond (.t 26)
  (.seq (.region [⟨some 27, .mv (.t 10), none⟩,
    ⟨some 6, .mv (.c (.val (.slice none 0 0))), none⟩,
    ⟨some 7, .mv (.c (.val (.slice none 0 0))), none⟩,
    ⟨some 8, .mv (.t 27), none⟩])
  .ret)
  .skip))
 (.seq (.region [⟨some 29, .mv (.t 0), none⟩,
   ⟨some 30, .mv (.t 2), none⟩,
   ⟨some 31, .call 7 [(.t 29), (.t 30)], none⟩,
   ⟨some 28, .mv (.t 31), none⟩,
   ⟨some 32, .ext 0 (.t 28), none⟩,
   ⟨some 33, .ext 1 (.t 28), none⟩,
   ⟨some 11, .mv (.t 32), none⟩,
   ⟨some 10, .mv (.t 33), none⟩])
 (.seq (.seq (.region [⟨some 34, .mv (.t 10), none⟩,
   ⟨some 35, .bin .neq (.t 34) (.c (.int .i64 0)), none⟩])
 (.cond (.t 35)
  (.seq (.region [⟨some 36, .mv (.t 10), none⟩,
    ⟨some 6, .mv (.c (.val (.slice none 0 0))), none⟩,
    ⟨some 7, .mv (.c (.val (.slice none 0 0))), none⟩,
    ⟨some 8, .mv (.t 36), none⟩])
  .ret)
  .skip))
 (.seq (.region [⟨some 37, .mv (.t 1), none⟩,
   ⟨some 38, .build [(.isl 3 [] true), (.int .i64 0), (.isl 2 [] true)] [(0, 1, (.t 37))], none⟩,
   ⟨some 39, .box (.t 38), none⟩,
   ⟨some 40, .mv (.t 2), none⟩,
   ⟨some 41, .build [(.isl 3 [] true), (.int .i64 0), (.isl 2 [] true)] [(0, 1, (.t 40))], none⟩,
   ⟨some 42, .box (.t 41), none⟩,
   ⟨some 12, .mv (.t 39), none⟩,
   ⟨some 13, .mv (.t 42), none⟩])
 (.seq (.seq (.region [⟨some 14, .mv (.c (.int .i64 0)), none⟩])
 (.block 0
  (.loop
   f16_c4)))
 f16_c1)))))))
def f16_lay : Lay := ⟨159, [39, 42, 87, 104], false⟩
def f16_res : List LRes := [.t 6, .t 7, .t 8]
def f16_L : LFn := ⟨3, f16_lay, f16_c5, f16_res⟩
theorem f16_low : lowFn Try.prog [39, 42, 87, 104] 16 = some f16_L := by kernel_rfl
theorem f16_fok : FnOk Try.prog 16 := ⟨_, Try.func16, rfl, rfl⟩
def f16_Q (a0 : List UInt8) (a1 : List G_TextEdit) (a2 : List G_TextEdit) (o : (List G_TextEdit) × (List G_TextEdit) × Int) : Exit → Env → AHeap → Nat → Prop := FinK f16_res (PureEnd (.tup [.isl 3 (o.1.map e_TextEdit) false, .isl 3 (o.2.1.map e_TextEdit) false, .int .i64 o.2.2]))

def f16_L1_env (a0 : List UInt8) (v1 : (List UInt8) × Int) (v2 : (List UInt8) × Int) (s : (Int × (List G_TextEdit) × Int × (List G_TextEdit) × Int × (List G_tracedByte) × (List G_tracedByte))) : Env := [(0, .str a0), (9, .str v1.1), (11, .str v2.1), (12, .ptr (0, 0) 0 0), (13, .ptr (1, 0) 0 0), (14, .int .i64 s.1)]
def f16_L1_hp (a0 : List UInt8) (v1 : (List UInt8) × Int) (v2 : (List UInt8) × Int) (s : (Int × (List G_TextEdit) × Int × (List G_TextEdit) × Int × (List G_tracedByte) × (List G_tracedByte))) : AHeap := [((0, 0), .one [.isl 3 (s.2.1.map e_TextEdit) false, .int .i64 s.2.2.1, .msl (2, 0) 2 0 s.2.2.2.2.2.1.length false]), ((1, 0), .one [.isl 3 (s.2.2.2.1.map e_TextEdit) false, .int .i64 s.2.2.2.2.1, .msl (3, 0) 2 0 s.2.2.2.2.2.2.length false]), ((2, 0), .rows 2 (s.2.2.2.2.2.1.map e_tracedByte)), ((3, 0), .rows 2 (s.2.2.2.2.2.2.map e_tracedByte))]
def f16_L1_Q (a0 : List UInt8) (a1 : List G_TextEdit) (a2 : List G_TextEdit) (o : ((List G_TextEdit) × (List G_TextEdit) × Int)) : Exit → Env → AHeap → Nat → Prop := (QBlock 0 (QSeq Try.prog f16_lay 0 f16_c1 (f16_Q a0 a1 a2 o)))

noncomputable def S_textedit_Transform_j9 (m : Option Nat) (a0 : List UInt8) (v1 : (List UInt8) × Int) (v2 : (List UInt8) × Int) (v11 : Int) (v28 : Bool × (List G_TextEdit)) (v29 : Bool × (List G_TextEdit)) (v30 : List G_tracedByte) (v31 : List G_tracedByte) (v32 : Int) (v33 : Int) : Option ((Int × (List G_TextEdit) × Int × (List G_TextEdit) × Int × (List G_tracedByte) × (List G_tracedByte)) ⊕ ((List G_TextEdit) × (List G_TextEdit) × Int)) :=
  some (.inl ((W (v11 + 1)), v28.2, v32, v29.2, v33, v30, v31))

theorem f16_j9_ok {a1 : List G_TextEdit} {a2 : List G_TextEdit} {a0 : List UInt8} {v1 : (List UInt8) × Int} {v2 : (List UInt8) × Int} {v11 : Int} {v28 : Bool × (List G_TextEdit)} {v29 : Bool × (List G_TextEdit)} {v30 : List G_tracedByte} {v31 : List G_tracedByte} {v32 : Int} {v33 : Int} {m : Option Nat} {o : ((Int × (List G_TextEdit) × Int × (List G_TextEdit) × Int × (List G_tracedByte) × (List G_tracedByte)) ⊕ ((List G_TextEdit) × (List G_TextEdit) × Int))} (h : S_textedit_Transform_j9 m a0 v1 v2 v11 v28 v29 v30 v31 v32 v33 = some o) :
    LWp Try.prog f16_lay 0 f16_c0 (BodyQ 0 4 (f16_L1_env a0 v1 v2) (f16_L1_hp a0 v1 v2) (f16_L1_Q a0 a1 a2) o) [(0, .str a0), (9, .str v1.1), (11, .str v2.1), (12, .ptr (0, 0) 0 0), (13, .ptr (1, 0) 0 0), (14, .int .i64 v11)] [((0, 0), .one [.isl 3 (v28.2.map e_TextEdit) false, .int .i64 v32, .msl (2, 0) 2 0 v30.length false]), ((1, 0), .one [.isl 3 (v29.2.map e_TextEdit) false, .int .i64 v33, .msl (3, 0) 2 0 v31.length false]), ((2, 0), .rows 2 (v30.map e_tracedByte)), ((3, 0), .rows 2 (v31.map e_tracedByte))] 4 := by
  unfold S_textedit_Transform_j9 at h
  refine regI ?_
  cases h
  exact And.intro rfl (simI (M := [((0, 0), (0, 0)), ((1, 0), (1, 0)), ((2, 0), (2, 0)), ((3, 0), (3, 0))]) rfl (And.intro (Vw.same _ rfl) (And.intro (Vw.same _ rfl) (And.intro (Vw.same _ rfl) (And.intro (Vw.ptr _ _ _ _ rfl) (And.intro (Vw.ptr _ _ _ _ rfl) (And.intro (Vw.same _ rfl) trivial)))))) (And.intro (And.intro rfl (BVw.oneL (And.intro (Vw.same _ rfl) (And.intro (Vw.same _ rfl) (And.intro (Vw.mslE rfl (by first | rfl | simp) rfl) trivial))))) (And.intro (And.intro rfl (BVw.oneL (And.intro (Vw.same _ rfl) (And.intro (Vw.same _ rfl) (And.intro (Vw.mslE rfl (by first | rfl | simp) rfl) trivial))))) (And.intro (And.intro rfl (BVw.enc e_tracedByte (fun _ => rfl) _ v30)) (And.intro (And.intro rfl (BVw.enc e_tracedByte (fun _ => rfl) _ v31)) trivial)))))

noncomputable def S_textedit_Transform_j8 (m : Option Nat) (a0 : List UInt8) (v1 : (List UInt8) × Int) (v2 : (List UInt8) × Int) (v11 : Int) (v27 : Int × (List G_tracedByte) × (List G_tracedByte)) (v28 : Bool × (List G_TextEdit)) (v29 : Bool × (List G_TextEdit)) (v30 : List G_tracedByte) (v31 : List G_tracedByte) (v32 : Int) : Option ((Int × (List G_TextEdit) × Int × (List G_TextEdit) × Int × (List G_tracedByte) × (List G_tracedByte)) ⊕ ((List G_TextEdit) × (List G_TextEdit) × Int)) :=
  if (!v29.1) = true then
    S_textedit_Transform_j9 m a0 v1 v2 v11 v28 v29 v30 v31 v32 (W (v27.1 + 1))
  else
    S_textedit_Transform_j9 m a0 v1 v2 v11 v28 v29 v30 v31 v32 v27.1

theorem f16_j8_ok {a1 : List G_TextEdit} {a2 : List G_TextEdit} {a0 : List UInt8} {v1 : (List UInt8) × Int} {v2 : (List UInt8) × Int} {v11 : Int} {v27 : Int × (List G_tracedByte) × (List G_tracedByte)} {v28 : Bool × (List G_TextEdit)} {v29 : Bool × (List G_TextEdit)} {v30 : List G_tracedByte} {v31 : List G_tracedByte} {v32 : Int} {m : Option Nat} {o : ((Int × (List G_TextEdit) × Int × (List G_TextEdit) × Int × (List G_tracedByte) × (List G_tracedByte)) ⊕ ((List G_TextEdit) × (List G_TextEdit) × Int))} (h : S_textedit_Transform_j8 m a0 v1 v2 v11 v27 v28 v29 v30 v31 v32 = some o) :
    LWp Try.prog f16_lay 0 f16_c2 (QBlock 1 (QSeq Try.prog f16_lay 0 f16_c0 (BodyQ 0 4 (f16_L1_env a0 v1 v2) (f16_L1_hp a0 v1 v2) (f16_L1_Q a0 a1 a2) o))) [(0, .str a0), (9, .str v1.1), (11, .str v2.1), (12, .ptr (0, 0) 0 0), (13, .ptr (1, 0) 0 0), (14, .int .i64 v11), (16, .bool v29.1)] [((0, 0), .one [.isl 3 (v28.2.map e_TextEdit) false, .int .i64 v32, .msl (2, 0) 2 0 v30.length false]), ((1, 0), .one [.isl 3 (v29.2.map e_TextEdit) false, .int .i64 v27.1, .msl (3, 0) 2 0 v31.length false]), ((2, 0), .rows 2 (v30.map e_tracedByte)), ((3, 0), .rows 2 (v31.map e_tracedByte))] 4 := by
  unfold S_textedit_Transform_j8 at h
  refine seqI ?_
  refine regI ?_
  refine condI (v := (!v29.1)) rfl trivial (fun h43 => ?_) (fun h43 => ?_)
  · have h := ite_tt h43 h
    refine regI ?_
    refine LWp.sim ?_ (f16_j9_ok h)
    exact simI (M := [((0, 0), (0, 0)), ((1, 0), (1, 0)), ((2, 0), (2, 0)), ((3, 0), (3, 0))]) rfl (And.intro (Vw.same _ rfl) (And.intro (Vw.same _ rfl) (And.intro (Vw.same _ rfl) (And.intro (Vw.ptr _ _ _ _ rfl) (And.intro (Vw.ptr _ _ _ _ rfl) (And.intro (Vw.same _ rfl) trivial)))))) (And.intro (And.intro rfl (BVw.oneL (And.intro (Vw.same _ rfl) (And.intro (Vw.same _ rfl) (And.intro (Vw.mslE rfl (by first | rfl | simp) rfl) trivial))))) (And.intro (And.intro rfl (BVw.oneL (And.intro (Vw.same _ rfl) (And.intro (Vw.same _ rfl) (And.intro (Vw.mslE rfl (by first | rfl | simp) rfl) trivial))))) (And.intro (And.intro rfl (BVw.enc e_tracedByte (fun _ => rfl) _ v30)) (And.intro (And.intro rfl (BVw.enc e_tracedByte (fun _ => rfl) _ v31)) trivial))))
  · have h := ite_ff h43 h
    refine skipI ?_
    refine LWp.sim ?_ (f16_j9_ok h)
    exact simI (M := [((0, 0), (0, 0)), ((1, 0), (1, 0)), ((2, 0), (2, 0)), ((3, 0), (3, 0))]) rfl (And.intro (Vw.same _ rfl) (And.intro (Vw.same _ rfl) (And.intro (Vw.same _ rfl) (And.intro (Vw.ptr _ _ _ _ rfl) (And.intro (Vw.ptr _ _ _ _ rfl) (And.intro (Vw.same _ rfl) trivial)))))) (And.intro (And.intro rfl (BVw.oneL (And.intro (Vw.same _ rfl) (And.intro (Vw.same _ rfl) (And.intro (Vw.mslE rfl (by first | rfl | simp) rfl) trivial))))) (And.intro (And.intro rfl (BVw.oneL (And.intro (Vw.same _ rfl) (And.intro (Vw.same _ rfl) (And.intro (Vw.mslE rfl (by first | rfl | simp) rfl) trivial))))) (And.intro (And.intro rfl (BVw.enc e_tracedByte (fun _ => rfl) _ v30)) (And.intro (And.intro rfl (BVw.enc e_tracedByte (fun _ => rfl) _ v31)) trivial))))

noncomputable def S_textedit_Transform_j7 (m : Option Nat) (a0 : List UInt8) (v1 : (List UInt8) × Int) (v2 : (List UInt8) × Int) (v11 : Int) (v26 : Int × (List G_tracedByte) × (List G_tracedByte)) (v27 : Int × (List G_tracedByte) × (List G_tracedByte)) (v28 : Bool × (List G_TextEdit)) (v29 : Bool × (List G_TextEdit)) (v30 : List G_tracedByte) (v31 : List G_tracedByte) : Option ((Int × (List G_TextEdit) × Int × (List G_TextEdit) × Int × (List G_tracedByte) × (List G_tracedByte)) ⊕ ((List G_TextEdit) × (List G_TextEdit) × Int)) :=
  if (!v28.1) = true then
    S_textedit_Transform_j8 m a0 v1 v2 v11 v27 v28 v29 v30 v31 (W (v26.1 + 1))
  else
    S_textedit_Transform_j8 m a0 v1 v2 v11 v27 v28 v29 v30 v31 v26.1

theorem f16_j7_ok {a1 : List G_TextEdit} {a2 : List G_TextEdit} {a0 : List UInt8} {v1 : (List UInt8) × Int} {v2 : (List UInt8) × Int} {v11 : Int} {v26 : Int × (List G_tracedByte) × (List G_tracedByte)} {v27 : Int × (List G_tracedByte) × (List G_tracedByte)} {v28 : Bool × (List G_TextEdit)} {v29 : Bool × (List G_TextEdit)} {v30 : List G_tracedByte} {v31 : List G_tracedByte} {m : Option Nat} {o : ((Int × (List G_TextEdit) × Int × (List G_TextEdit) × Int × (List G_tracedByte) × (List G_tracedByte)) ⊕ ((List G_TextEdit) × (List G_TextEdit) × Int))} (h : S_textedit_Transform_j7 m a0 v1 v2 v11 v26 v27 v28 v29 v30 v31 = some o) :
    LWp Try.prog f16_lay 0 f16_c3 (QBlock 1 (QSeq Try.prog f16_lay 0 f16_c0 (BodyQ 0 4 (f16_L1_env a0 v1 v2) (f16_L1_hp a0 v1 v2) (f16_L1_Q a0 a1 a2) o))) [(0, .str a0), (9, .str v1.1), (11, .str v2.1), (12, .ptr (0, 0) 0 0), (13, .ptr (1, 0) 0 0), (14, .int .i64 v11), (15, .bool v28.1), (16, .bool v29.1)] [((0, 0), .one [.isl 3 (v28.2.map e_TextEdit) false, .int .i64 v26.1, .msl (2, 0) 2 0 v30.length false]), ((1, 0), .one [.isl 3 (v29.2.map e_TextEdit) false, .int .i64 v27.1, .msl (3, 0) 2 0 v31.length false]), ((2, 0), .rows 2 (v30.map e_tracedByte)), ((3, 0), .rows 2 (v31.map e_tracedByte))] 4 := by
  unfold S_textedit_Transform_j7 at h
  refine seqI ?_
  refine seqI ?_
  refine regI ?_
  refine condI (v := (!v28.1)) rfl trivial (fun h42 => ?_) (fun h42 => ?_)
  · have h := ite_tt h42 h
    refine regI ?_
    refine LWp.sim ?_ (f16_j8_ok h)
    exact simI (M := [((0, 0), (0, 0)), ((1, 0), (1, 0)), ((2, 0), (2, 0)), ((3, 0), (3, 0))]) rfl (And.intro (Vw.same _ rfl) (And.intro (Vw.same _ rfl) (And.intro (Vw.same _ rfl) (And.intro (Vw.ptr _ _ _ _ rfl) (And.intro (Vw.ptr _ _ _ _ rfl) (And.intro (Vw.same _ rfl) (And.intro (Vw.same _ rfl) trivial))))))) (And.intro (And.intro rfl (BVw.oneL (And.intro (Vw.same _ rfl) (And.intro (Vw.same _ rfl) (And.intro (Vw.mslE rfl (by first | rfl | simp) rfl) trivial))))) (And.intro (And.intro rfl (BVw.oneL (And.intro (Vw.same _ rfl) (And.intro (Vw.same _ rfl) (And.intro (Vw.mslE rfl (by first | rfl | simp) rfl) trivial))))) (And.intro (And.intro rfl (BVw.enc e_tracedByte (fun _ => rfl) _ v30)) (And.intro (And.intro rfl (BVw.enc e_tracedByte (fun _ => rfl) _ v31)) trivial))))
  · have h := ite_ff h42 h
    refine skipI ?_
    refine LWp.sim ?_ (f16_j8_ok h)
    exact simI (M := [((0, 0), (0, 0)), ((1, 0), (1, 0)), ((2, 0), (2, 0)), ((3, 0), (3, 0))]) rfl (And.intro (Vw.same _ rfl) (And.intro (Vw.same _ rfl) (And.intro (Vw.same _ rfl) (And.intro (Vw.ptr _ _ _ _ rfl) (And.intro (Vw.ptr _ _ _ _ rfl) (And.intro (Vw.same _ rfl) (And.intro (Vw.same _ rfl) trivial))))))) (And.intro (And.intro rfl (BVw.oneL (And.intro (Vw.same _ rfl) (And.intro (Vw.same _ rfl) (And.intro (Vw.mslE rfl (by first | rfl | simp) rfl) trivial))))) (And.intro (And.intro rfl (BVw.oneL (And.intro (Vw.same _ rfl) (And.intro (Vw.same _ rfl) (And.intro (Vw.mslE rfl (by first | rfl | simp) rfl) trivial))))) (And.intro (And.intro rfl (BVw.enc e_tracedByte (fun _ => rfl) _ v30)) (And.intro (And.intro rfl (BVw.enc e_tracedByte (fun _ => rfl) _ v31)) trivial))))

noncomputable def S_textedit_Transform_j10 (m : Option Nat) (v1 : (List UInt8) × Int) (v2 : (List UInt8) × Int) (v12 : List G_TextEdit) (v14 : List G_TextEdit) (v34 : Int) (v35 : Int) (v36 : List G_tracedByte) (v37 : List G_tracedByte) : Option ((List G_TextEdit) × (List G_TextEdit) × Int) :=
  if (decide (((v36.length : Nat) : Int) > 2000)) = true then
    some ([], [], 2)
  else
    (S_textedit_canonical_21 m (v2.1.length : Int) v37).bind fun v38 =>
    if (v38.2 != 0) = true then
      some ([], [], v38.2)
    else
      (S_textedit_canonical_21 m (v1.1.length : Int) v36).bind fun v39 =>
      if (v39.2 != 0) = true then
        some ([], [], v39.2)
      else
        some (v38.1, v39.1, 0)

noncomputable def S_textedit_Transform_b1 (m : Option Nat) (a0 : List UInt8) (v1 : (List UInt8) × Int) (v2 : (List UInt8) × Int) (v11 : Int) (v12 : List G_TextEdit) (v13 : Int) (v14 : List G_TextEdit) (v15 : Int) (v16 : List G_tracedByte) (v17 : List G_tracedByte) : Option ((Int × (List G_TextEdit) × Int × (List G_TextEdit) × Int × (List G_tracedByte) × (List G_tracedByte)) ⊕ ((List G_TextEdit) × (List G_TextEdit) × Int)) :=
  if (decide (v11 ≤ (a0.length : Int))) = true then
    (S_textedit_merger_insert m v11 v12 v13 v14 v15 v16 v17).bind fun v26 =>
    (S_textedit_merger_insert m v11 v14 v15 v12 v26.1 v26.2.2 v26.2.1).bind fun v27 =>
    if (v11 == (a0.length : Int)) = true then
      Option.map Sum.inr (
        S_textedit_Transform_j10 m v1 v2 v12 v14 v26.1 v27.1 v27.2.2 v27.2.1)
    else
      (S_textedit_merger_deletes m v11 v12 v26.1 v27.2.2).bind fun v28 =>
      (S_textedit_merger_deletes m v11 v14 v27.1 v27.2.1).bind fun v29 =>
      if ((!v28.1) && (!v29.1)) = true then
        if (0 : Int) ≤ v11 ∧ v11 < (a0.length : Int) then
        if ((v27.2.2 ++ ([(G_tracedByte.mk (((a0.getD v11.toNat 0).toNat : Nat) : Int) v26.1)] : List G_tracedByte)).map e_tracedByte).length * 16 ≤ 140737488355328 then
        if (0 : Int) ≤ v11 ∧ v11 < (a0.length : Int) then
        if ((v27.2.1 ++ ([(G_tracedByte.mk (((a0.getD v11.toNat 0).toNat : Nat) : Int) v27.1)] : List G_tracedByte)).map e_tracedByte).length * 16 ≤ 140737488355328 then
        S_textedit_Transform_j7 m a0 v1 v2 v11 v26 v27 v28 v29 (v27.2.2 ++ ([(G_tracedByte.mk (((a0.getD v11.toNat 0).toNat : Nat) : Int) v26.1)] : List G_tracedByte)) (v27.2.1 ++ ([(G_tracedByte.mk (((a0.getD v11.toNat 0).toNat : Nat) : Int) v27.1)] : List G_tracedByte))
        else none
        else none
        else none
        else none
      else
        S_textedit_Transform_j7 m a0 v1 v2 v11 v26 v27 v28 v29 v27.2.2 v27.2.1
  else
    Option.map Sum.inr (
      S_textedit_Transform_j10 m v1 v2 v12 v14 v13 v15 v16 v17)

noncomputable def S_textedit_Transform_l1 (m : Option Nat) (a0 : List UInt8) (v1 : (List UInt8) × Int) (v2 : (List UInt8) × Int) (v11 : Int) (v12 : List G_TextEdit) (v13 : Int) (v14 : List G_TextEdit) (v15 : Int) (v16 : List G_tracedByte) (v17 : List G_tracedByte) : Option ((List G_TextEdit) × (List G_TextEdit) × Int) := loopM m (fun (s : (Int × (List G_TextEdit) × Int × (List G_TextEdit) × Int × (List G_tracedByte) × (List G_tracedByte))) => S_textedit_Transform_b1 m a0 v1 v2 s.1 s.2.1 s.2.2.1 s.2.2.2.1 s.2.2.2.2.1 s.2.2.2.2.2.1 s.2.2.2.2.2.2) (v11, v12, v13, v14, v15, v16, v17)

theorem f16_j10_ok {a0 : List UInt8} {a1 : List G_TextEdit} {a2 : List G_TextEdit} {v1 : (List UInt8) × Int} {v2 : (List UInt8) × Int} {v12 : List G_TextEdit} {v14 : List G_TextEdit} {v34 : Int} {v35 : Int} {v36 : List G_tracedByte} {v37 : List G_tracedByte} {m : Option Nat} {o : ((List G_TextEdit) × (List G_TextEdit) × Int)} (h : S_textedit_Transform_j10 m v1 v2 v12 v14 v34 v35 v36 v37 = some o) :
    LWp Try.prog f16_lay 0 f16_c1 (f16_Q a0 a1 a2 o) [(9, .str v1.1), (11, .str v2.1), (12, .ptr (0, 0) 0 0), (13, .ptr (1, 0) 0 0)] [((0, 0), .one [.isl 3 (v12.map e_TextEdit) false, .int .i64 v34, .msl (2, 0) 2 0 v36.length false]), ((1, 0), .one [.isl 3 (v14.map e_TextEdit) false, .int .i64 v35, .msl (3, 0) 2 0 v37.length false]), ((2, 0), .rows 2 (v36.map e_tracedByte)), ((3, 0), .rows 2 (v37.map e_tracedByte))] 4 := by
  unfold S_textedit_Transform_j10 at h
  refine seqI ?_
  refine seqI ?_
  refine regI ?_
  refine condI (v := (decide (((v36.length : Nat) : Int) > 2000))) rfl trivial (fun h44 => ?_) (fun h44 => ?_)
  · have h := ite_tt h44 h
    refine seqI ?_
    refine regI ?_
    refine LWp.sim (e := [(6, .val (.slice none 0 0)), (7, .val (.slice none 0 0)), (8, .int .i64 2)]) (L := []) (n := 0) ?_ ?_
    · exact simI (M := []) rfl (And.intro (Vw.same _ rfl) (And.intro (Vw.same _ rfl) (And.intro (Vw.same _ rfl) trivial))) trivial
    refine retI ?_
    cases h
    exact And.intro trivial (And.intro trivial (And.intro trivial (And.intro rfl (Vw.tupL (And.intro (Vw.nilI _ _) (And.intro (Vw.nilI _ _) (And.intro (Vw.same _ rfl) trivial)))))))
  · have h := ite_ff h44 h
    refine skipI ?_
    refine seqI ?_
    refine regI ?_
    obtain ⟨v38, h45, h⟩ := bind_some h
    refine bcall (k := 3) (m := 0) (L' := [((3, 0), .rows 2 (v37.map e_tracedByte))]) (rest := [((0, 0), .one [.isl 3 (v12.map e_TextEdit) false, .int .i64 v34, .msl (2, 0) 2 0 v36.length false]), ((1, 0), .one [.isl 3 (v14.map e_TextEdit) false, .int .i64 v35, .msl (3, 0) 2 0 v37.length false]), ((2, 0), .rows 2 (v36.map e_tracedByte))]) (R' := .tup [.isl 3 (v38.1.map e_TextEdit) false, .int .i64 v38.2]) [((0, 0), (3, 0))] (f21b0_ok h45) rfl rfl rfl (And.intro (Vw.same _ rfl) (And.intro (Vw.mslE rfl (by first | rfl | simp) rfl) trivial)) (And.intro (h0I (3, 0) rfl rfl (BVw.enc e_tracedByte (fun _ => rfl) _ v37)) trivial) (nid_ren _ rfl) (And.intro rfl (And.intro (rows_ren e_tracedByte (fun _ => rfl) _ _) trivial)) rfl ?_
    show yops _ _ _ [(138, .tup [.isl 3 (v38.1.map e_TextEdit) false, .int .i64 v38.2]), (137, .msl (3, 0) 2 0 v37.length false), (136, .ptr (1, 0) 0 2), (135, .ptr (1, 0) 0 0), (134, .ptr (1, 0) 0 0), (133, .int .i64 (v2.1.length : Int)), (132, .str v2.1), (130, .bool (decide (((v36.length : Nat) : Int) > 2000))), (129, .int .i64 ((v36.length : Nat) : Int)), (128, .msl (2, 0) 2 0 v36.length false), (127, .ptr (0, 0) 0 2), (126, .ptr (0, 0) 0 0), (125, .ptr (0, 0) 0 0), (9, .str v1.1), (11, .str v2.1), (12, .ptr (0, 0) 0 0), (13, .ptr (1, 0) 0 0)] _ _
    refine LWp.sim (e := [(9, .str v1.1), (10, .int .i64 v38.2), (12, .ptr (0, 0) 0 0), (17, .isl 3 (v38.1.map e_TextEdit) false)]) (L := [((0, 0), .one [.isl 3 (v12.map e_TextEdit) false, .int .i64 v34, .msl (1, 0) 2 0 v36.length false]), ((1, 0), .rows 2 (v36.map e_tracedByte))]) (n := 2) ?_ ?_
    · exact simI (M := [((0, 0), (0, 0)), ((1, 0), (2, 0))]) rfl (And.intro (Vw.same _ rfl) (And.intro (Vw.same _ rfl) (And.intro (Vw.ptr _ _ _ _ rfl) (And.intro (Vw.same _ rfl) trivial)))) (And.intro (And.intro rfl (BVw.oneL (And.intro (Vw.same _ rfl) (And.intro (Vw.same _ rfl) (And.intro (Vw.mslE rfl (by first | rfl | simp) rfl) trivial))))) (And.intro (And.intro rfl (BVw.enc e_tracedByte (fun _ => rfl) _ v36)) trivial))
    refine seqI ?_
    refine seqI ?_
    refine regI ?_
    refine condI (v := (v38.2 != 0)) rfl trivial (fun h46 => ?_) (fun h46 => ?_)
    · have h := ite_tt h46 h
      refine seqI ?_
      refine regI ?_
      refine retI ?_
      cases h
      exact And.intro trivial (And.intro trivial (And.intro trivial (And.intro rfl (Vw.tupL (And.intro (Vw.nilI _ _) (And.intro (Vw.nilI _ _) (And.intro (Vw.same _ rfl) trivial)))))))
    · have h := ite_ff h46 h
      refine skipI ?_
      refine seqI ?_
      refine regI ?_
      obtain ⟨v39, h47, h⟩ := bind_some h
      refine bcall (k := 3) (m := 0) (L' := [((1, 0), .rows 2 (v36.map e_tracedByte))]) (rest := [((0, 0), .one [.isl 3 (v12.map e_TextEdit) false, .int .i64 v34, .msl (1, 0) 2 0 v36.length false])]) (R' := .tup [.isl 3 (v39.1.map e_TextEdit) false, .int .i64 v39.2]) [((0, 0), (1, 0))] (f21b0_ok h47) rfl rfl rfl (And.intro (Vw.same _ rfl) (And.intro (Vw.mslE rfl (by first | rfl | simp) rfl) trivial)) (And.intro (h0I (1, 0) rfl rfl (BVw.enc e_tracedByte (fun _ => rfl) _ v36)) trivial) (nid_ren _ rfl) (And.intro rfl (And.intro (rows_ren e_tracedByte (fun _ => rfl) _ _) trivial)) rfl ?_
      show yops _ _ _ [(151, .tup [.isl 3 (v39.1.map e_TextEdit) false, .int .i64 v39.2]), (150, .msl (1, 0) 2 0 v36.length false), (149, .ptr (0, 0) 0 2), (148, .ptr (0, 0) 0 0), (147, .ptr (0, 0) 0 0), (146, .int .i64 (v1.1.length : Int)), (145, .str v1.1), (142, .bool (v38.2 != 0)), (141, .int .i64 v38.2), (9, .str v1.1), (10, .int .i64 v38.2), (12, .ptr (0, 0) 0 0), (17, .isl 3 (v38.1.map e_TextEdit) false)] _ _
      refine LWp.sim (e := [(10, .int .i64 v39.2), (17, .isl 3 (v38.1.map e_TextEdit) false), (18, .isl 3 (v39.1.map e_TextEdit) false)]) (L := []) (n := 0) ?_ ?_
      · exact simI (M := []) rfl (And.intro (Vw.same _ rfl) (And.intro (Vw.same _ rfl) (And.intro (Vw.same _ rfl) trivial))) trivial
      refine seqI ?_
      refine seqI ?_
      refine regI ?_
      refine condI (v := (v39.2 != 0)) rfl trivial (fun h48 => ?_) (fun h48 => ?_)
      · have h := ite_tt h48 h
        refine seqI ?_
        refine regI ?_
        refine retI ?_
        cases h
        exact And.intro trivial (And.intro trivial (And.intro trivial (And.intro rfl (Vw.tupL (And.intro (Vw.nilI _ _) (And.intro (Vw.nilI _ _) (And.intro (Vw.same _ rfl) trivial)))))))
      · have h := ite_ff h48 h
        refine skipI ?_
        refine seqI ?_
        refine regI ?_
        refine retI ?_
        cases h
        exact And.intro trivial (And.intro trivial (And.intro trivial (And.intro rfl (Vw.same _ rfl))))

theorem f16_L1_bok {a1 : List G_TextEdit} {a2 : List G_TextEdit} {a0 : List UInt8} {v1 : (List UInt8) × Int} {v2 : (List UInt8) × Int} {v11 : Int} {v12 : List G_TextEdit} {v13 : Int} {v14 : List G_TextEdit} {v15 : Int} {v16 : List G_tracedByte} {v17 : List G_tracedByte} {m : Option Nat} {o : (Int × (List G_TextEdit) × Int × (List G_TextEdit) × Int × (List G_tracedByte) × (List G_tracedByte)) ⊕ ((List G_TextEdit) × (List G_TextEdit) × Int)} (h : S_textedit_Transform_b1 m a0 v1 v2 v11 v12 v13 v14 v15 v16 v17 = some o) :
    LWp Try.prog f16_lay 0 f16_c4 (BodyQ 0 4 (f16_L1_env a0 v1 v2) (f16_L1_hp a0 v1 v2) (f16_L1_Q a0 a1 a2) o) [(0, .str a0), (9, .str v1.1), (11, .str v2.1), (12, .ptr (0, 0) 0 0), (13, .ptr (1, 0) 0 0), (14, .int .i64 v11)] [((0, 0), .one [.isl 3 (v12.map e_TextEdit) false, .int .i64 v13, .msl (2, 0) 2 0 v16.length false]), ((1, 0), .one [.isl 3 (v14.map e_TextEdit) false, .int .i64 v15, .msl (3, 0) 2 0 v17.length false]), ((2, 0), .rows 2 (v16.map e_tracedByte)), ((3, 0), .rows 2 (v17.map e_tracedByte))] 4 := by
  unfold S_textedit_Transform_b1 at h
  refine seqI ?_
  refine seqI ?_
  refine regI ?_
  refine condI (v := (decide (v11 ≤ (a0.length : Int)))) rfl trivial (fun h31 => ?_) (fun h31 => ?_)
  · have h := ite_tt h31 h
    refine skipI ?_
    refine seqI ?_
    refine blockI ?_
    refine seqI ?_
    refine regI ?_
    obtain ⟨v26, h32, h⟩ := bind_some h
    refine bcall (k := 3) (m := 2) (L' := [((0, 0), .one [.isl 3 (v12.map e_TextEdit) false, .int .i64 v26.1, .msl (4, 0) 2 0 v26.2.1.length false]), ((1, 0), .one [.isl 3 (v14.map e_TextEdit) false, .int .i64 v15, .msl (5, 0) 2 0 v26.2.2.length false]), ((4, 0), .rows 2 (v26.2.1.map e_tracedByte)), ((5, 0), .rows 2 (v26.2.2.map e_tracedByte))]) (rest := []) (R' := .tup []) [((0, 0), (0, 0)), ((0, 1), (1, 0)), ((0, 2), (2, 0)), ((0, 3), (3, 0))] (f25b0_ok h32) rfl rfl rfl (And.intro (Vw.ptr _ _ _ _ rfl) (And.intro (Vw.same _ rfl) (And.intro (Vw.ptr _ _ _ _ rfl) trivial))) (And.intro (h0I (0, 0) rfl rfl (BVw.oneL (And.intro (Vw.same _ rfl) (And.intro (Vw.same _ rfl) (And.intro (Vw.mslE rfl (by first | rfl | simp) rfl) trivial))))) (And.intro (h0I (1, 0) rfl rfl (BVw.oneL (And.intro (Vw.same _ rfl) (And.intro (Vw.same _ rfl) (And.intro (Vw.mslE rfl (by first | rfl | simp) rfl) trivial))))) (And.intro (h0I (2, 0) rfl rfl (BVw.enc e_tracedByte (fun _ => rfl) _ v16)) (And.intro (h0I (3, 0) rfl rfl (BVw.enc e_tracedByte (fun _ => rfl) _ v17)) trivial)))) (nid_ren _ rfl) (And.intro rfl (And.intro rfl (And.intro rfl (And.intro rfl (And.intro rfl (And.intro (rows_ren e_tracedByte (fun _ => rfl) _ _) (And.intro rfl (And.intro (rows_ren e_tracedByte (fun _ => rfl) _ _) trivial)))))))) rfl ?_
    show yops _ _ _ [(52, .tup []), (51, .ptr (1, 0) 0 0), (50, .int .i64 v11), (49, .ptr (0, 0) 0 0), (46, .bool (decide (v11 ≤ (a0.length : Int)))), (45, .int .i64 (a0.length : Int)), (44, .str a0), (43, .int .i64 v11), (0, .str a0), (9, .str v1.1), (11, .str v2.1), (12, .ptr (0, 0) 0 0), (13, .ptr (1, 0) 0 0), (14, .int .i64 v11)] _ _
    refine LWp.sim (e := [(0, .str a0), (9, .str v1.1), (11, .str v2.1), (12, .ptr (0, 0) 0 0), (13, .ptr (1, 0) 0 0), (14, .int .i64 v11)]) (L := [((0, 0), .one [.isl 3 (v12.map e_TextEdit) false, .int .i64 v26.1, .msl (2, 0) 2 0 v26.2.1.length false]), ((1, 0), .one [.isl 3 (v14.map e_TextEdit) false, .int .i64 v15, .msl (3, 0) 2 0 v26.2.2.length false]), ((2, 0), .rows 2 (v26.2.1.map e_tracedByte)), ((3, 0), .rows 2 (v26.2.2.map e_tracedByte))]) (n := 4) ?_ ?_
    · exact simI (M := [((0, 0), (0, 0)), ((1, 0), (1, 0)), ((2, 0), (4, 0)), ((3, 0), (5, 0))]) rfl (And.intro (Vw.same _ rfl) (And.intro (Vw.same _ rfl) (And.intro (Vw.same _ rfl) (And.intro (Vw.ptr _ _ _ _ rfl) (And.intro (Vw.ptr _ _ _ _ rfl) (And.intro (Vw.same _ rfl) trivial)))))) (And.intro (And.intro rfl (BVw.oneL (And.intro (Vw.same _ rfl) (And.intro (Vw.same _ rfl) (And.intro (Vw.mslE rfl (by first | rfl | simp) rfl) trivial))))) (And.intro (And.intro rfl (BVw.oneL (And.intro (Vw.same _ rfl) (And.intro (Vw.same _ rfl) (And.intro (Vw.mslE rfl (by first | rfl | simp) rfl) trivial))))) (And.intro (And.intro rfl (BVw.enc e_tracedByte (fun _ => rfl) _ v26.2.1)) (And.intro (And.intro rfl (BVw.enc e_tracedByte (fun _ => rfl) _ v26.2.2)) trivial))))
    refine seqI ?_
    refine regI ?_
    obtain ⟨v27, h33, h⟩ := bind_some h
    refine bcall (k := 3) (m := 2) (L' := [((1, 0), .one [.isl 3 (v14.map e_TextEdit) false, .int .i64 v27.1, .msl (4, 0) 2 0 v27.2.1.length false]), ((0, 0), .one [.isl 3 (v12.map e_TextEdit) false, .int .i64 v26.1, .msl (5, 0) 2 0 v27.2.2.length false]), ((4, 0), .rows 2 (v27.2.1.map e_tracedByte)), ((5, 0), .rows 2 (v27.2.2.map e_tracedByte))]) (rest := []) (R' := .tup []) [((0, 0), (1, 0)), ((0, 1), (0, 0)), ((0, 2), (3, 0)), ((0, 3), (2, 0))] (f25b0_ok h33) rfl rfl rfl (And.intro (Vw.ptr _ _ _ _ rfl) (And.intro (Vw.same _ rfl) (And.intro (Vw.ptr _ _ _ _ rfl) trivial))) (And.intro (h0I (1, 0) rfl rfl (BVw.oneL (And.intro (Vw.same _ rfl) (And.intro (Vw.same _ rfl) (And.intro (Vw.mslE rfl (by first | rfl | simp) rfl) trivial))))) (And.intro (h0I (0, 0) rfl rfl (BVw.oneL (And.intro (Vw.same _ rfl) (And.intro (Vw.same _ rfl) (And.intro (Vw.mslE rfl (by first | rfl | simp) rfl) trivial))))) (And.intro (h0I (3, 0) rfl rfl (BVw.enc e_tracedByte (fun _ => rfl) _ v26.2.2)) (And.intro (h0I (2, 0) rfl rfl (BVw.enc e_tracedByte (fun _ => rfl) _ v26.2.1)) trivial)))) (nid_ren _ rfl) (And.intro rfl (And.intro rfl (And.intro rfl (And.intro rfl (And.intro rfl (And.intro (rows_ren e_tracedByte (fun _ => rfl) _ _) (And.intro rfl (And.intro (rows_ren e_tracedByte (fun _ => rfl) _ _) trivial)))))))) rfl ?_
    refine seqI ?_
    refine seqI ?_
    refine regI ?_
    refine LWp.sim (e := [(0, .str a0), (9, .str v1.1), (11, .str v2.1), (12, .ptr (0, 0) 0 0), (13, .ptr (1, 0) 0 0), (14, .int .i64 v11), (60, .bool (v11 == (a0.length : Int)))]) (L := [((0, 0), .one [.isl 3 (v12.map e_TextEdit) false, .int .i64 v26.1, .msl (2, 0) 2 0 v27.2.2.length false]), ((1, 0), .one [.isl 3 (v14.map e_TextEdit) false, .int .i64 v27.1, .msl (3, 0) 2 0 v27.2.1.length false]), ((2, 0), .rows 2 (v27.2.2.map e_tracedByte)), ((3, 0), .rows 2 (v27.2.1.map e_tracedByte))]) (n := 4) ?_ ?_
    · exact simI (M := [((0, 0), (0, 0)), ((1, 0), (1, 0)), ((2, 0), (5, 0)), ((3, 0), (4, 0))]) rfl (And.intro (Vw.same _ rfl) (And.intro (Vw.same _ rfl) (And.intro (Vw.same _ rfl) (And.intro (Vw.ptr _ _ _ _ rfl) (And.intro (Vw.ptr _ _ _ _ rfl) (And.intro (Vw.same _ rfl) (And.intro (Vw.same _ rfl) trivial))))))) (And.intro (And.intro rfl (BVw.oneL (And.intro (Vw.same _ rfl) (And.intro (Vw.same _ rfl) (And.intro (Vw.mslE rfl (by first | rfl | simp) rfl) trivial))))) (And.intro (And.intro rfl (BVw.oneL (And.intro (Vw.same _ rfl) (And.intro (Vw.same _ rfl) (And.intro (Vw.mslE rfl (by first | rfl | simp) rfl) trivial))))) (And.intro (And.intro rfl (BVw.enc e_tracedByte (fun _ => rfl) _ v27.2.2)) (And.intro (And.intro rfl (BVw.enc e_tracedByte (fun _ => rfl) _ v27.2.1)) trivial))))
    refine condI (v := (v11 == (a0.length : Int))) rfl trivial (fun h34 => ?_) (fun h34 => ?_)
    · have h := ite_tt h34 h
      refine exitI ?_
      obtain ⟨o, hq, rfl⟩ := Option.map_eq_some_iff.1 h
      replace h := hq; clear hq
      refine And.intro nofun ?_
      refine LWp.sim ?_ (f16_j10_ok h)
      exact simI (M := [((0, 0), (0, 0)), ((1, 0), (1, 0)), ((2, 0), (2, 0)), ((3, 0), (3, 0))]) rfl (And.intro (Vw.same _ rfl) (And.intro (Vw.same _ rfl) (And.intro (Vw.ptr _ _ _ _ rfl) (And.intro (Vw.ptr _ _ _ _ rfl) trivial)))) (And.intro (And.intro rfl (BVw.oneL (And.intro (Vw.same _ rfl) (And.intro (Vw.same _ rfl) (And.intro (Vw.mslE rfl (by first | rfl | simp) rfl) trivial))))) (And.intro (And.intro rfl (BVw.oneL (And.intro (Vw.same _ rfl) (And.intro (Vw.same _ rfl) (And.intro (Vw.mslE rfl (by first | rfl | simp) rfl) trivial))))) (And.intro (And.intro rfl (BVw.enc e_tracedByte (fun _ => rfl) _ v27.2.2)) (And.intro (And.intro rfl (BVw.enc e_tracedByte (fun _ => rfl) _ v27.2.1)) trivial))))
    · have h := ite_ff h34 h
      refine skipI ?_
      refine seqI ?_
      refine regI ?_
      obtain ⟨v28, h35, h⟩ := bind_some h
      refine bcall (k := 3) (m := 1) (L' := [((0, 0), .one [.isl 3 (v28.2.map e_TextEdit) false, .int .i64 v26.1, .msl (4, 0) 2 0 v27.2.2.length false]), ((4, 0), .rows 2 (v27.2.2.map e_tracedByte))]) (rest := [((1, 0), .one [.isl 3 (v14.map e_TextEdit) false, .int .i64 v27.1, .msl (3, 0) 2 0 v27.2.1.length false]), ((3, 0), .rows 2 (v27.2.1.map e_tracedByte))]) (R' := .bool v28.1) [((0, 0), (0, 0)), ((0, 1), (2, 0))] (f26b0_ok h35) rfl rfl rfl (And.intro (Vw.ptr _ _ _ _ rfl) (And.intro (Vw.same _ rfl) trivial)) (And.intro (h0I (0, 0) rfl rfl (BVw.oneL (And.intro (Vw.same _ rfl) (And.intro (Vw.same _ rfl) (And.intro (Vw.mslE rfl (by first | rfl | simp) rfl) trivial))))) (And.intro (h0I (2, 0) rfl rfl (BVw.enc e_tracedByte (fun _ => rfl) _ v27.2.2)) trivial)) (nid_ren _ rfl) (And.intro rfl (And.intro rfl (And.intro rfl (And.intro (rows_ren e_tracedByte (fun _ => rfl) _ _) trivial)))) rfl ?_
      obtain ⟨v29, h36, h⟩ := bind_some h
      refine bcall (k := 3) (m := 1) (L' := [((1, 0), .one [.isl 3 (v29.2.map e_TextEdit) false, .int .i64 v27.1, .msl (6, 0) 2 0 v27.2.1.length false]), ((6, 0), .rows 2 (v27.2.1.map e_tracedByte))]) (rest := [((0, 0), .one [.isl 3 (v28.2.map e_TextEdit) false, .int .i64 v26.1, .msl (4, 0) 2 0 v27.2.2.length false]), ((4, 0), .rows 2 (v27.2.2.map e_tracedByte))]) (R' := .bool v29.1) [((0, 0), (1, 0)), ((0, 1), (3, 0))] (f26b0_ok h36) rfl rfl rfl (And.intro (Vw.ptr _ _ _ _ rfl) (And.intro (Vw.same _ rfl) trivial)) (And.intro (h0I (1, 0) rfl rfl (BVw.oneL (And.intro (Vw.same _ rfl) (And.intro (Vw.same _ rfl) (And.intro (Vw.mslE rfl (by first | rfl | simp) rfl) trivial))))) (And.intro (h0I (3, 0) rfl rfl (BVw.enc e_tracedByte (fun _ => rfl) _ v27.2.1)) trivial)) (nid_ren _ rfl) (And.intro rfl (And.intro rfl (And.intro rfl (And.intro (rows_ren e_tracedByte (fun _ => rfl) _ _) trivial)))) rfl ?_
      show yops _ _ _ [(66, .bool v29.1), (65, .int .i64 v11), (64, .ptr (1, 0) 0 0), (63, .bool v28.1), (62, .int .i64 v11), (61, .ptr (0, 0) 0 0), (0, .str a0), (9, .str v1.1), (11, .str v2.1), (12, .ptr (0, 0) 0 0), (13, .ptr (1, 0) 0 0), (14, .int .i64 v11), (60, .bool (v11 == (a0.length : Int)))] _ _
      refine LWp.sim (e := [(0, .str a0), (9, .str v1.1), (11, .str v2.1), (12, .ptr (0, 0) 0 0), (13, .ptr (1, 0) 0 0), (14, .int .i64 v11), (15, .bool v28.1), (16, .bool v29.1)]) (L := [((0, 0), .one [.isl 3 (v28.2.map e_TextEdit) false, .int .i64 v26.1, .msl (2, 0) 2 0 v27.2.2.length false]), ((1, 0), .one [.isl 3 (v29.2.map e_TextEdit) false, .int .i64 v27.1, .msl (3, 0) 2 0 v27.2.1.length false]), ((2, 0), .rows 2 (v27.2.2.map e_tracedByte)), ((3, 0), .rows 2 (v27.2.1.map e_tracedByte))]) (n := 4) ?_ ?_
      · exact simI (M := [((0, 0), (0, 0)), ((1, 0), (1, 0)), ((2, 0), (4, 0)), ((3, 0), (6, 0))]) rfl (And.intro (Vw.same _ rfl) (And.intro (Vw.same _ rfl) (And.intro (Vw.same _ rfl) (And.intro (Vw.ptr _ _ _ _ rfl) (And.intro (Vw.ptr _ _ _ _ rfl) (And.intro (Vw.same _ rfl) (And.intro (Vw.same _ rfl) (And.intro (Vw.same _ rfl) trivial)))))))) (And.intro (And.intro rfl (BVw.oneL (And.intro (Vw.same _ rfl) (And.intro (Vw.same _ rfl) (And.intro (Vw.mslE rfl (by first | rfl | simp) rfl) trivial))))) (And.intro (And.intro rfl (BVw.oneL (And.intro (Vw.same _ rfl) (And.intro (Vw.same _ rfl) (And.intro (Vw.mslE rfl (by first | rfl | simp) rfl) trivial))))) (And.intro (And.intro rfl (BVw.enc e_tracedByte (fun _ => rfl) _ v27.2.2)) (And.intro (And.intro rfl (BVw.enc e_tracedByte (fun _ => rfl) _ v27.2.1)) trivial))))
      refine seqI ?_
      refine seqI ?_
      refine regI ?_
      refine And.intro (fun hp => hp) ?_
      show yops _ _ _ [(71, .cnd ((!v28.1) == true) (.bool (!v29.1))), (70, .cnd ((!v28.1) == true) (.bool v29.1)), (69, .bool (!v28.1)), (68, .bool (!v28.1)), (67, .bool v28.1), (0, .str a0), (9, .str v1.1), (11, .str v2.1), (12, .ptr (0, 0) 0 0), (13, .ptr (1, 0) 0 0), (14, .int .i64 v11), (15, .bool v28.1), (16, .bool v29.1)] _ _
      refine And.intro (fun hc => (bqt hc)) ?_
      refine condI (v := ((!v28.1) && (!v29.1))) rfl trivial (fun h37 => ?_) (fun h37 => ?_)
      · have h := ite_tt h37 h
        refine seqI ?_
        refine drawI ?_
        obtain ⟨h38, h⟩ := ite_some h
        refine And.intro h38 ?_
        show yd _ _ _ _ _ [(80, .int .u8 (((a0.getD v11.toNat 0).toNat : Nat) : Int)), (79, .int .i64 v11), (78, .str a0), (77, .msl (2, 0) 2 0 v27.2.2.length false), (76, .ptr (0, 0) 0 2), (75, .ptr (0, 0) 0 0), (74, .ptr (0, 0) 0 0), (73, .ptr (0, 0) 0 0), (72, .bool ((!v28.1) && (!v29.1))), (71, .cnd ((!v28.1) == true) (.bool (!v29.1))), (70, .cnd ((!v28.1) == true) (.bool v29.1)), (69, .bool (!v28.1)), (68, .bool (!v28.1)), (67, .bool v28.1), (0, .str a0), (9, .str v1.1), (11, .str v2.1), (12, .ptr (0, 0) 0 0), (13, .ptr (1, 0) 0 0), (14, .int .i64 v11), (15, .bool v28.1), (16, .bool v29.1)] _ _
        refine And.intro rfl ?_
        obtain ⟨h39, h⟩ := ite_some h
        refine And.intro (fun h => Bool.noConfusion h) (And.intro (lenW e_tracedByte (by first | rfl | simp)) (Exists.intro ((v27.2.2 ++ ([(G_tracedByte.mk (((a0.getD v11.toNat 0).toNat : Nat) : Int) v26.1)] : List G_tracedByte)).map e_tracedByte) (And.intro (appW e_tracedByte v27.2.2 ([(G_tracedByte.mk (((a0.getD v11.toNat 0).toNat : Nat) : Int) v26.1)] : List G_tracedByte) (by first | rfl | simp)) (And.intro h39 ?_))))
        refine LWp.sim (e := [(0, .str a0), (9, .str v1.1), (11, .str v2.1), (12, .ptr (0, 0) 0 0), (13, .ptr (1, 0) 0 0), (14, .int .i64 v11), (15, .bool v28.1), (16, .bool v29.1)]) (L := [((0, 0), .one [.isl 3 (v28.2.map e_TextEdit) false, .int .i64 v26.1, .msl (2, 0) 2 0 (((v27.2.2 ++ ([(G_tracedByte.mk (((a0.getD v11.toNat 0).toNat : Nat) : Int) v26.1)] : List G_tracedByte)).map e_tracedByte).length) false]), ((1, 0), .one [.isl 3 (v29.2.map e_TextEdit) false, .int .i64 v27.1, .msl (3, 0) 2 0 v27.2.1.length false]), ((2, 0), .rows 2 ((v27.2.2 ++ ([(G_tracedByte.mk (((a0.getD v11.toNat 0).toNat : Nat) : Int) v26.1)] : List G_tracedByte)).map e_tracedByte)), ((3, 0), .rows 2 (v27.2.1.map e_tracedByte))]) (n := 4) ?_ ?_
        · exact simI (M := [((0, 0), (0, 0)), ((1, 0), (1, 0)), ((2, 0), (4, 0)), ((3, 0), (3, 0))]) rfl (And.intro (Vw.same _ rfl) (And.intro (Vw.same _ rfl) (And.intro (Vw.same _ rfl) (And.intro (Vw.ptr _ _ _ _ rfl) (And.intro (Vw.ptr _ _ _ _ rfl) (And.intro (Vw.same _ rfl) (And.intro (Vw.same _ rfl) (And.intro (Vw.same _ rfl) trivial)))))))) (And.intro (And.intro rfl (BVw.oneL (And.intro (Vw.same _ rfl) (And.intro (Vw.same _ rfl) (And.intro (Vw.mslE rfl (by first | rfl | simp) rfl) trivial))))) (And.intro (And.intro rfl (BVw.oneL (And.intro (Vw.same _ rfl) (And.intro (Vw.same _ rfl) (And.intro (Vw.mslE rfl (by first | rfl | simp) rfl) trivial))))) (And.intro (And.intro rfl (BVw.enc e_tracedByte (fun _ => rfl) _ (v27.2.2 ++ ([(G_tracedByte.mk (((a0.getD v11.toNat 0).toNat : Nat) : Int) v26.1)] : List G_tracedByte)))) (And.intro (And.intro rfl (BVw.enc e_tracedByte (fun _ => rfl) _ v27.2.1)) trivial))))
        refine drawI ?_
        obtain ⟨h40, h⟩ := ite_some h
        refine And.intro h40 ?_
        show yd _ _ _ _ _ [(97, .int .u8 (((a0.getD v11.toNat 0).toNat : Nat) : Int)), (96, .int .i64 v11), (95, .str a0), (94, .msl (3, 0) 2 0 v27.2.1.length false), (93, .ptr (1, 0) 0 2), (92, .ptr (1, 0) 0 0), (91, .ptr (1, 0) 0 0), (90, .ptr (1, 0) 0 0), (0, .str a0), (9, .str v1.1), (11, .str v2.1), (12, .ptr (0, 0) 0 0), (13, .ptr (1, 0) 0 0), (14, .int .i64 v11), (15, .bool v28.1), (16, .bool v29.1)] _ _
        refine And.intro rfl ?_
        obtain ⟨h41, h⟩ := ite_some h
        refine And.intro (fun h => Bool.noConfusion h) (And.intro (lenW e_tracedByte (by first | rfl | simp)) (Exists.intro ((v27.2.1 ++ ([(G_tracedByte.mk (((a0.getD v11.toNat 0).toNat : Nat) : Int) v27.1)] : List G_tracedByte)).map e_tracedByte) (And.intro (appW e_tracedByte v27.2.1 ([(G_tracedByte.mk (((a0.getD v11.toNat 0).toNat : Nat) : Int) v27.1)] : List G_tracedByte) (by first | rfl | simp)) (And.intro h41 ?_))))
        refine LWp.sim ?_ (f16_j7_ok h)
        exact simI (M := [((0, 0), (0, 0)), ((1, 0), (1, 0)), ((2, 0), (2, 0)), ((3, 0), (4, 0))]) rfl (And.intro (Vw.same _ rfl) (And.intro (Vw.same _ rfl) (And.intro (Vw.same _ rfl) (And.intro (Vw.ptr _ _ _ _ rfl) (And.intro (Vw.ptr _ _ _ _ rfl) (And.intro (Vw.same _ rfl) (And.intro (Vw.same _ rfl) (And.intro (Vw.same _ rfl) trivial)))))))) (And.intro (And.intro rfl (BVw.oneL (And.intro (Vw.same _ rfl) (And.intro (Vw.same _ rfl) (And.intro (Vw.mslE rfl (by first | rfl | simp) rfl) trivial))))) (And.intro (And.intro rfl (BVw.oneL (And.intro (Vw.same _ rfl) (And.intro (Vw.same _ rfl) (And.intro (Vw.mslE rfl (by first | rfl | simp) rfl) trivial))))) (And.intro (And.intro rfl (BVw.enc e_tracedByte (fun _ => rfl) _ (v27.2.2 ++ ([(G_tracedByte.mk (((a0.getD v11.toNat 0).toNat : Nat) : Int) v26.1)] : List G_tracedByte)))) (And.intro (And.intro rfl (BVw.enc e_tracedByte (fun _ => rfl) _ (v27.2.1 ++ ([(G_tracedByte.mk (((a0.getD v11.toNat 0).toNat : Nat) : Int) v27.1)] : List G_tracedByte)))) trivial))))
      · have h := ite_ff h37 h
        refine skipI ?_
        refine LWp.sim ?_ (f16_j7_ok h)
        exact simI (M := [((0, 0), (0, 0)), ((1, 0), (1, 0)), ((2, 0), (2, 0)), ((3, 0), (3, 0))]) rfl (And.intro (Vw.same _ rfl) (And.intro (Vw.same _ rfl) (And.intro (Vw.same _ rfl) (And.intro (Vw.ptr _ _ _ _ rfl) (And.intro (Vw.ptr _ _ _ _ rfl) (And.intro (Vw.same _ rfl) (And.intro (Vw.same _ rfl) (And.intro (Vw.same _ rfl) trivial)))))))) (And.intro (And.intro rfl (BVw.oneL (And.intro (Vw.same _ rfl) (And.intro (Vw.same _ rfl) (And.intro (Vw.mslE rfl (by first | rfl | simp) rfl) trivial))))) (And.intro (And.intro rfl (BVw.oneL (And.intro (Vw.same _ rfl) (And.intro (Vw.same _ rfl) (And.intro (Vw.mslE rfl (by first | rfl | simp) rfl) trivial))))) (And.intro (And.intro rfl (BVw.enc e_tracedByte (fun _ => rfl) _ v27.2.2)) (And.intro (And.intro rfl (BVw.enc e_tracedByte (fun _ => rfl) _ v27.2.1)) trivial))))
  · have h := ite_ff h31 h
    refine exitI ?_
    obtain ⟨o, hq, rfl⟩ := Option.map_eq_some_iff.1 h
    replace h := hq; clear hq
    refine And.intro nofun ?_
    refine LWp.sim ?_ (f16_j10_ok h)
    exact simI (M := [((0, 0), (0, 0)), ((1, 0), (1, 0)), ((2, 0), (2, 0)), ((3, 0), (3, 0))]) rfl (And.intro (Vw.same _ rfl) (And.intro (Vw.same _ rfl) (And.intro (Vw.ptr _ _ _ _ rfl) (And.intro (Vw.ptr _ _ _ _ rfl) trivial)))) (And.intro (And.intro rfl (BVw.oneL (And.intro (Vw.same _ rfl) (And.intro (Vw.same _ rfl) (And.intro (Vw.mslE rfl (by first | rfl | simp) rfl) trivial))))) (And.intro (And.intro rfl (BVw.oneL (And.intro (Vw.same _ rfl) (And.intro (Vw.same _ rfl) (And.intro (Vw.mslE rfl (by first | rfl | simp) rfl) trivial))))) (And.intro (And.intro rfl (BVw.enc e_tracedByte (fun _ => rfl) _ v16)) (And.intro (And.intro rfl (BVw.enc e_tracedByte (fun _ => rfl) _ v17)) trivial))))

theorem f16_L1_ok {a1 : List G_TextEdit} {a2 : List G_TextEdit} {a0 : List UInt8} {v1 : (List UInt8) × Int} {v2 : (List UInt8) × Int} {v11 : Int} {v12 : List G_TextEdit} {v13 : Int} {v14 : List G_TextEdit} {v15 : Int} {v16 : List G_tracedByte} {v17 : List G_tracedByte} {m : Option Nat} {o : ((List G_TextEdit) × (List G_TextEdit) × Int)} (h : S_textedit_Transform_l1 m a0 v1 v2 v11 v12 v13 v14 v15 v16 v17 = some o) :
    LWp Try.prog f16_lay 0 (.loop f16_c4) (QBlock 0 (QSeq Try.prog f16_lay 0 f16_c1 (f16_Q a0 a1 a2 o))) [(0, .str a0), (9, .str v1.1), (11, .str v2.1), (12, .ptr (0, 0) 0 0), (13, .ptr (1, 0) 0 0), (14, .int .i64 v11)] [((0, 0), .one [.isl 3 (v12.map e_TextEdit) false, .int .i64 v13, .msl (2, 0) 2 0 v16.length false]), ((1, 0), .one [.isl 3 (v14.map e_TextEdit) false, .int .i64 v15, .msl (3, 0) 2 0 v17.length false]), ((2, 0), .rows 2 (v16.map e_tracedByte)), ((3, 0), .rows 2 (v17.map e_tracedByte))] 4 :=
  LWp_loopM (m := m) (s := ((v11, v12, v13, v14, v15, v16, v17) : (Int × (List G_TextEdit) × Int × (List G_TextEdit) × Int × (List G_tracedByte) × (List G_tracedByte)))) (r := o) (fun (s : (Int × (List G_TextEdit) × Int × (List G_TextEdit) × Int × (List G_tracedByte) × (List G_tracedByte))) => S_textedit_Transform_b1 m a0 v1 v2 s.1 s.2.1 s.2.2.1 s.2.2.2.1 s.2.2.2.2.1 s.2.2.2.2.2.1 s.2.2.2.2.2.2) (f16_L1_env a0 v1 v2) (f16_L1_hp a0 v1 v2) (f16_L1_Q a0 a1 a2) (fun s o h => f16_L1_bok h) h

noncomputable def S_textedit_Transform (m : Option Nat) (a0 : List UInt8) (a1 : List G_TextEdit) (a2 : List G_TextEdit) : Option ((List G_TextEdit) × (List G_TextEdit) × Int) :=
  (S_textedit_Apply m a0 a1).bind fun v1 =>
  if (v1.2 != 0) = true then
    some ([], [], v1.2)
  else
    (S_textedit_Apply m a0 a2).bind fun v2 =>
    if (v2.2 != 0) = true then
      some ([], [], v2.2)
    else
      S_textedit_Transform_l1 m a0 v1 v2 0 a1 0 a2 0 ([] : List G_tracedByte) ([] : List G_tracedByte)

theorem f16_start {a0 : List UInt8} {a1 : List G_TextEdit} {a2 : List G_TextEdit} {m : Option Nat} {o : (List G_TextEdit) × (List G_TextEdit) × Int} (h : S_textedit_Transform m a0 a1 a2 = some o) : LWp Try.prog f16_lay 0 f16_c5 (f16_Q a0 a1 a2 o) (initEnv 0 [.str a0, .isl 3 (a1.map e_TextEdit) false, .isl 3 (a2.map e_TextEdit) false]) [] 0 := by
  unfold S_textedit_Transform at h
  refine seqI ?_
  refine regI ?_
  refine seqI ?_
  refine regI ?_
  obtain ⟨v1, h1, h⟩ := bind_some h
  refine PFn.call (f7_ok h1) (And.intro (Vw.same _ rfl) (And.intro (Vw.same _ rfl) trivial)) ?_
  show yops _ _ _ [(22, .tup [.str v1.1, .int .i64 v1.2]), (21, .isl 3 (a1.map e_TextEdit) false), (20, .str a0), (8, .int .i64 0), (7, .val (.slice none 0 0)), (6, .val (.slice none 0 0)), (0, .str a0), (1, .isl 3 (a1.map e_TextEdit) false), (2, .isl 3 (a2.map e_TextEdit) false)] _ _
  refine LWp.sim (e := [(0, .str a0), (1, .isl 3 (a1.map e_TextEdit) false), (2, .isl 3 (a2.map e_TextEdit) false), (9, .str v1.1), (10, .int .i64 v1.2)]) (L := []) (n := 0) ?_ ?_
  · exact simI (M := []) rfl (And.intro (Vw.same _ rfl) (And.intro (Vw.same _ rfl) (And.intro (Vw.same _ rfl) (And.intro (Vw.same _ rfl) (And.intro (Vw.same _ rfl) trivial))))) trivial
  refine seqI ?_
  refine seqI ?_
  refine regI ?_
  refine condI (v := (v1.2 != 0)) rfl trivial (fun h2 => ?_) (fun h2 => ?_)
  · have h := ite_tt h2 h
    refine seqI ?_
    refine regI ?_
    refine retI ?_
    cases h
    exact And.intro trivial (And.intro trivial (And.intro trivial (And.intro rfl (Vw.tupL (And.intro (Vw.nilI _ _) (And.intro (Vw.nilI _ _) (And.intro (Vw.same _ rfl) trivial)))))))
  · have h := ite_ff h2 h
    refine skipI ?_
    refine seqI ?_
    refine regI ?_
    obtain ⟨v2, h3, h⟩ := bind_some h
    refine PFn.call (f7_ok h3) (And.intro (Vw.same _ rfl) (And.intro (Vw.same _ rfl) trivial)) ?_
    show yops _ _ _ [(31, .tup [.str v2.1, .int .i64 v2.2]), (30, .isl 3 (a2.map e_TextEdit) false), (29, .str a0), (26, .bool (v1.2 != 0)), (25, .int .i64 v1.2), (0, .str a0), (1, .isl 3 (a1.map e_TextEdit) false), (2, .isl 3 (a2.map e_TextEdit) false), (9, .str v1.1), (10, .int .i64 v1.2)] _ _
    refine LWp.sim (e := [(0, .str a0), (1, .isl 3 (a1.map e_TextEdit) false), (2, .isl 3 (a2.map e_TextEdit) false), (9, .str v1.1), (10, .int .i64 v2.2), (11, .str v2.1)]) (L := []) (n := 0) ?_ ?_
    · exact simI (M := []) rfl (And.intro (Vw.same _ rfl) (And.intro (Vw.same _ rfl) (And.intro (Vw.same _ rfl) (And.intro (Vw.same _ rfl) (And.intro (Vw.same _ rfl) (And.intro (Vw.same _ rfl) trivial)))))) trivial
    refine seqI ?_
    refine seqI ?_
    refine regI ?_
    refine condI (v := (v2.2 != 0)) rfl trivial (fun h4 => ?_) (fun h4 => ?_)
    · have h := ite_tt h4 h
      refine seqI ?_
      refine regI ?_
      refine retI ?_
      cases h
      exact And.intro trivial (And.intro trivial (And.intro trivial (And.intro rfl (Vw.tupL (And.intro (Vw.nilI _ _) (And.intro (Vw.nilI _ _) (And.intro (Vw.same _ rfl) trivial)))))))
    · have h := ite_ff h4 h
      refine skipI ?_
      refine seqI ?_
      refine regI ?_
      refine LWp.ghost (b := (0, 0)) 2 rfl rfl ?_
      refine LWp.ghost (b := (1, 0)) 2 rfl rfl ?_
      refine LWp.sim (e := [(0, .str a0), (9, .str v1.1), (11, .str v2.1), (12, .ptr (0, 0) 0 0), (13, .ptr (1, 0) 0 0)]) (L := [((0, 0), .one [.isl 3 (a1.map e_TextEdit) false, .int .i64 0, .msl (2, 0) 2 0 (([] : List G_tracedByte).length) false]), ((1, 0), .one [.isl 3 (a2.map e_TextEdit) false, .int .i64 0, .msl (3, 0) 2 0 (([] : List G_tracedByte).length) false]), ((2, 0), .rows 2 (([] : List G_tracedByte).map e_tracedByte)), ((3, 0), .rows 2 (([] : List G_tracedByte).map e_tracedByte))]) (n := 4) ?_ ?_
      · exact simI (M := [((0, 0), (0, 0)), ((1, 0), (1, 0)), ((2, 0), (2, 0)), ((3, 0), (3, 0))]) rfl (And.intro (Vw.same _ rfl) (And.intro (Vw.same _ rfl) (And.intro (Vw.same _ rfl) (And.intro (Vw.ptr _ _ _ _ rfl) (And.intro (Vw.ptr _ _ _ _ rfl) trivial))))) (And.intro (And.intro rfl (BVw.oneL (And.intro (Vw.same _ rfl) (And.intro (Vw.same _ rfl) (And.intro (Vw.islM _ _ _ _ _ _ rfl rfl) trivial))))) (And.intro (And.intro rfl (BVw.oneL (And.intro (Vw.same _ rfl) (And.intro (Vw.same _ rfl) (And.intro (Vw.islM _ _ _ _ _ _ rfl rfl) trivial))))) (And.intro (And.intro rfl (BVw.enc e_tracedByte (fun _ => rfl) _ ([] : List G_tracedByte))) (And.intro (And.intro rfl (BVw.enc e_tracedByte (fun _ => rfl) _ ([] : List G_tracedByte))) trivial))))
      refine seqI ?_
      refine seqI ?_
      refine regI ?_
      refine blockI ?_
      refine LWp.sim ?_ (f16_L1_ok h)
      exact simI (M := [((0, 0), (0, 0)), ((1, 0), (1, 0)), ((2, 0), (2, 0)), ((3, 0), (3, 0))]) rfl (And.intro (Vw.same _ rfl) (And.intro (Vw.same _ rfl) (And.intro (Vw.same _ rfl) (And.intro (Vw.ptr _ _ _ _ rfl) (And.intro (Vw.ptr _ _ _ _ rfl) (And.intro (Vw.same _ rfl) trivial)))))) (And.intro (And.intro rfl (BVw.oneL (And.intro (Vw.same _ rfl) (And.intro (Vw.same _ rfl) (And.intro (Vw.mslE rfl (by first | rfl | simp) rfl) trivial))))) (And.intro (And.intro rfl (BVw.oneL (And.intro (Vw.same _ rfl) (And.intro (Vw.same _ rfl) (And.intro (Vw.mslE rfl (by first | rfl | simp) rfl) trivial))))) (And.intro (And.intro rfl (BVw.enc e_tracedByte (fun _ => rfl) _ ([] : List G_tracedByte))) (And.intro (And.intro rfl (BVw.enc e_tracedByte (fun _ => rfl) _ ([] : List G_tracedByte))) trivial))))

theorem f16_ok {a0 : List UInt8} {a1 : List G_TextEdit} {a2 : List G_TextEdit} {m : Option Nat} {o : (List G_TextEdit) × (List G_TextEdit) × Int} (h : S_textedit_Transform m a0 a1 a2 = some o) : PFn Try.prog 16 [.str a0, .isl 3 (a1.map e_TextEdit) false, .isl 3 (a2.map e_TextEdit) false] (.tup [.isl 3 (o.1.map e_TextEdit) false, .isl 3 (o.2.1.map e_TextEdit) false, .int .i64 o.2.2]) := PFn.ofFnW (L := f16_L) f16_low f16_fok (Nat.le_of_ble_eq_true rfl) rfl (f16_start h)

def f13_c1 : LCode := (.seq (.seq (.region [⟨some 11, .mv (.t 5), none⟩,
   ⟨some 12, .mv (.t 0), none⟩,
   ⟨some 13, .len false (.t 12), none⟩,
   ⟨some 14, .bin .lss (.t 11) (.t 13), none⟩])
 (.cond (.t 14)
  .skip
  (.exit 0)))
 (.seq (.block 1
  (.seq (.quiet [⟨some 17, .mv (.t 0), none⟩,
    ⟨some 18, .mv (.t 5), none⟩,
    ⟨some 19, .iaddr 3 (.t 17) (.t 18), none⟩,
    ⟨some 20, .load true 3 (.t 19), none⟩,
    ⟨some 21, .mv (.t 1), none⟩,
    ⟨some 22, .mv (.t 5), none⟩,
    ⟨some 23, .iaddr 3 (.t 21) (.t 22), none⟩,
    ⟨some 24, .load true 3 (.t 23), none⟩,
    ⟨some 25, .eq true (.agg [.int, .int, .str]) (.t 20) (.t 24), none⟩])
  (.cond (.t 25)
   (.seq (.region [⟨some 4, .mv (.c (.bool false)), none⟩])
   .ret)
   .skip)))
 (.region [⟨some 15, .mv (.t 5), none⟩,
   ⟨some 16, .bin .add (.t 15) (.c (.int .i64 1)), none⟩,
   ⟨some 5, .mv (.t 16), none⟩])))
def f13_c0 : LCode := (.seq (.region [⟨some 4, .mv (.c (.bool true)), none⟩])
 .ret)
def f13_c2 : LCode := (.seq (.region [⟨some 4, .mv (.c (.bool false)), none⟩])
 (.seq (.seq (.region [⟨some 6, .mv (.t 0), none⟩,
   ⟨some 7, .len false (.t 6), none⟩,
   ⟨some 8, .mv (.t 1), none⟩,
   ⟨some 9, .len false (.t 8), none⟩,
   ⟨some 10, .bin .neq (.t 7) (.t 9), none⟩])
 (.cond (.t 10)
  (.seq (.region [⟨some 4, .mv (.c (.bool false)), none⟩])
  .ret)
  .skip))
 (.seq (.seq (.region [⟨some 5, .mv (.c (.int .i64 0)), none⟩])
 (.block 0
  (.loop
   f13_c1)))
 f13_c0)))
def f13_lay : Lay := ⟨26, [], false⟩
def f13_res : List LRes := [.t 4]
def f13_L : LFn := ⟨2, f13_lay, f13_c2, f13_res⟩
theorem f13_low : lowFn Try.prog [] 13 = some f13_L := by kernel_rfl
theorem f13_fok : FnOk Try.prog 13 := ⟨_, Try.func13, rfl, rfl⟩
def f13_Q (a0 : List G_TextEdit) (a1 : List G_TextEdit) (o : Bool) : Exit → Env → AHeap → Nat → Prop := FinK f13_res (PureEnd (.bool o))

def f13_L1_env (a0 : List G_TextEdit) (a1 : List G_TextEdit) (s : Int) : Env := [(0, .isl 3 (a0.map e_TextEdit) false), (1, .isl 3 (a1.map e_TextEdit) false), (5, .int .i64 s)]
def f13_L1_hp (a0 : List G_TextEdit) (a1 : List G_TextEdit) (s : Int) : AHeap := []
def f13_L1_Q (a0 : List G_TextEdit) (a1 : List G_TextEdit) (o : Bool) : Exit → Env → AHeap → Nat → Prop := (QBlock 0 (QSeq Try.prog f13_lay 0 f13_c0 (f13_Q a0 a1 o)))

noncomputable def S_glossatorref4_EqualEdits_j1 (m : Option Nat) : Option Bool :=
  some true

noncomputable def S_glossatorref4_EqualEdits_b1 (m : Option Nat) (a0 : List G_TextEdit) (a1 : List G_TextEdit) (v1 : Int) : Option (Int ⊕ Bool) :=
  if (decide (v1 < ((a0.map e_TextEdit).length : Int))) = true then
    if (0 : Int) ≤ v1 ∧ v1 < ((a0.map e_TextEdit).length : Int) then
    if (0 : Int) ≤ v1 ∧ v1 < ((a1.map e_TextEdit).length : Int) then
    if (!(((a0.getD v1.toNat default).f_Start == (a1.getD v1.toNat default).f_Start) && (((a0.getD v1.toNat default).f_End == (a1.getD v1.toNat default).f_End) && (((a0.getD v1.toNat default).f_NewText == (a1.getD v1.toNat default).f_NewText) && true)))) = true then
      Option.map Sum.inr (
        some false)
    else
      some (.inl (W (v1 + 1)))
    else none
    else none
  else
    Option.map Sum.inr (
      S_glossatorref4_EqualEdits_j1 m)

noncomputable def S_glossatorref4_EqualEdits_l1 (m : Option Nat) (a0 : List G_TextEdit) (a1 : List G_TextEdit) (v1 : Int) : Option Bool := loopM m (fun (s : Int) => S_glossatorref4_EqualEdits_b1 m a0 a1 s) v1

theorem f13_j1_ok {a0 : List G_TextEdit} {a1 : List G_TextEdit} {m : Option Nat} {o : Bool} (h : S_glossatorref4_EqualEdits_j1 m = some o) :
    LWp Try.prog f13_lay 0 f13_c0 (f13_Q a0 a1 o) [] [] 0 := by
  unfold S_glossatorref4_EqualEdits_j1 at h
  refine seqI ?_
  refine regI ?_
  refine retI ?_
  cases h
  exact And.intro trivial (And.intro rfl (Vw.same _ rfl))

theorem f13_L1_bok {a0 : List G_TextEdit} {a1 : List G_TextEdit} {v1 : Int} {m : Option Nat} {o : Int ⊕ Bool} (h : S_glossatorref4_EqualEdits_b1 m a0 a1 v1 = some o) :
    LWp Try.prog f13_lay 0 f13_c1 (BodyQ 0 0 (f13_L1_env a0 a1) (f13_L1_hp a0 a1) (f13_L1_Q a0 a1) o) [(0, .isl 3 (a0.map e_TextEdit) false), (1, .isl 3 (a1.map e_TextEdit) false), (5, .int .i64 v1)] [] 0 := by
  unfold S_glossatorref4_EqualEdits_b1 at h
  refine seqI ?_
  refine seqI ?_
  refine regI ?_
  refine condI (v := (decide (v1 < ((a0.map e_TextEdit).length : Int)))) rfl trivial (fun h10 => ?_) (fun h10 => ?_)
  · have h := ite_tt h10 h
    refine skipI ?_
    refine seqI ?_
    refine blockI ?_
    refine seqI ?_
    refine quietI ?_
    obtain ⟨h11, h⟩ := ite_some h
    refine And.intro h11 ?_
    show yqs _ _ [(19, .iptr 3 (a0.map e_TextEdit) v1.toNat 0), (18, .int .i64 v1), (17, .isl 3 (a0.map e_TextEdit) false), (14, .bool (decide (v1 < ((a0.map e_TextEdit).length : Int)))), (13, .int .i64 ((a0.map e_TextEdit).length : Int)), (12, .isl 3 (a0.map e_TextEdit) false), (11, .int .i64 v1), (0, .isl 3 (a0.map e_TextEdit) false), (1, .isl 3 (a1.map e_TextEdit) false), (5, .int .i64 v1)] _ _
    refine Exists.intro (e_TextEdit (a0.getD v1.toNat default)) (And.intro (getD_enc e_TextEdit _ _ (idx_ltL e_TextEdit h11)) (And.intro (And.intro (idx_lt h11) (Nat.le_of_ble_eq_true rfl)) ?_))
    obtain ⟨h12, h⟩ := ite_some h
    refine And.intro h12 ?_
    refine Exists.intro (e_TextEdit (a1.getD v1.toNat default)) (And.intro (getD_enc e_TextEdit _ _ (idx_ltL e_TextEdit h12)) (And.intro (And.intro (idx_lt h12) (Nat.le_of_ble_eq_true rfl)) ?_))
    refine LWp.sim (e := [(0, .isl 3 (a0.map e_TextEdit) false), (1, .isl 3 (a1.map e_TextEdit) false), (5, .int .i64 v1), (25, .bool (!(((a0.getD v1.toNat default).f_Start == (a1.getD v1.toNat default).f_Start) && (((a0.getD v1.toNat default).f_End == (a1.getD v1.toNat default).f_End) && (((a0.getD v1.toNat default).f_NewText == (a1.getD v1.toNat default).f_NewText) && true)))))]) (L := []) (n := 0) ?_ ?_
    · exact simI (M := []) rfl (And.intro (Vw.same _ rfl) (And.intro (Vw.same _ rfl) (And.intro (Vw.same _ rfl) (And.intro (Vw.same _ rfl) trivial)))) trivial
    refine condI (v := (!(((a0.getD v1.toNat default).f_Start == (a1.getD v1.toNat default).f_Start) && (((a0.getD v1.toNat default).f_End == (a1.getD v1.toNat default).f_End) && (((a0.getD v1.toNat default).f_NewText == (a1.getD v1.toNat default).f_NewText) && true))))) rfl trivial (fun h13 => ?_) (fun h13 => ?_)
    · have h := ite_tt h13 h
      refine seqI ?_
      refine regI ?_
      refine retI ?_
      obtain ⟨o, hq, rfl⟩ := Option.map_eq_some_iff.1 h
      replace h := hq; clear hq
      refine And.intro nofun ?_
      cases h
      exact And.intro trivial (And.intro rfl (Vw.same _ rfl))
    · have h := ite_ff h13 h
      refine skipI ?_
      refine regI ?_
      cases h
      exact And.intro rfl (simI (M := []) rfl (And.intro (Vw.same _ rfl) (And.intro (Vw.same _ rfl) (And.intro (Vw.same _ rfl) trivial))) trivial)
  · have h := ite_ff h10 h
    refine exitI ?_
    obtain ⟨o, hq, rfl⟩ := Option.map_eq_some_iff.1 h
    replace h := hq; clear hq
    refine And.intro nofun ?_
    refine LWp.sim ?_ (f13_j1_ok h)
    exact simI (M := []) rfl trivial trivial

theorem f13_L1_ok {a0 : List G_TextEdit} {a1 : List G_TextEdit} {v1 : Int} {m : Option Nat} {o : Bool} (h : S_glossatorref4_EqualEdits_l1 m a0 a1 v1 = some o) :
    LWp Try.prog f13_lay 0 (.loop f13_c1) (QBlock 0 (QSeq Try.prog f13_lay 0 f13_c0 (f13_Q a0 a1 o))) [(0, .isl 3 (a0.map e_TextEdit) false), (1, .isl 3 (a1.map e_TextEdit) false), (5, .int .i64 v1)] [] 0 :=
  LWp_loopM (m := m) (s := (v1 : Int)) (r := o) (fun (s : Int) => S_glossatorref4_EqualEdits_b1 m a0 a1 s) (f13_L1_env a0 a1) (f13_L1_hp a0 a1) (f13_L1_Q a0 a1) (fun s o h => f13_L1_bok h) h

noncomputable def S_glossatorref4_EqualEdits (m : Option Nat) (a0 : List G_TextEdit) (a1 : List G_TextEdit) : Option Bool :=
  if (((a0.map e_TextEdit).length : Int) != ((a1.map e_TextEdit).length : Int)) = true then
    some false
  else
    S_glossatorref4_EqualEdits_l1 m a0 a1 0

theorem f13_start {a0 : List G_TextEdit} {a1 : List G_TextEdit} {m : Option Nat} {o : Bool} (h : S_glossatorref4_EqualEdits m a0 a1 = some o) : LWp Try.prog f13_lay 0 f13_c2 (f13_Q a0 a1 o) (initEnv 0 [.isl 3 (a0.map e_TextEdit) false, .isl 3 (a1.map e_TextEdit) false]) [] 0 := by
  unfold S_glossatorref4_EqualEdits at h
  refine seqI ?_
  refine regI ?_
  refine seqI ?_
  refine seqI ?_
  refine regI ?_
  refine condI (v := (((a0.map e_TextEdit).length : Int) != ((a1.map e_TextEdit).length : Int))) rfl trivial (fun h1 => ?_) (fun h1 => ?_)
  · have h := ite_tt h1 h
    refine seqI ?_
    refine regI ?_
    refine retI ?_
    cases h
    exact And.intro trivial (And.intro rfl (Vw.same _ rfl))
  · have h := ite_ff h1 h
    refine skipI ?_
    refine seqI ?_
    refine seqI ?_
    refine regI ?_
    refine blockI ?_
    refine LWp.sim ?_ (f13_L1_ok h)
    exact simI (M := []) rfl (And.intro (Vw.same _ rfl) (And.intro (Vw.same _ rfl) (And.intro (Vw.same _ rfl) trivial))) trivial

theorem f13_ok {a0 : List G_TextEdit} {a1 : List G_TextEdit} {m : Option Nat} {o : Bool} (h : S_glossatorref4_EqualEdits m a0 a1 = some o) : PFn Try.prog 13 [.isl 3 (a0.map e_TextEdit) false, .isl 3 (a1.map e_TextEdit) false] (.bool o) := PFn.ofFnW (L := f13_L) f13_low f13_fok (Nat.le_of_ble_eq_true rfl) rfl (f13_start h)

end Go.Proofs.Ytnmhihopnidbcaa
