/-
  Own text Gen of this claim: what functions of the given program compute, in plain Lean, and the proof; no condition.
-/
import Derived.Test.YtlenhplodggefaaChecked
import Derived.Test.YtlenhplodggefaaFxN
import Derived.Test.YtlenhplodggefaaFxMd
import Derived.Test.YtlenhplodggefaaFxMr
import Derived.Test.YtlenhplodggefaaBd
import Derived.Test.YtlenhplodggefaaEv
import Derived.KernelRfl
namespace Go.Proofs.Ytlenhplodggefaa
open Go.Fx
set_option linter.unusedVariables false
structure G_QDocument where
  f_Name : List UInt8
  f_Version : Int
  f_Text : List UInt8
instance : Inhabited G_QDocument := ⟨(G_QDocument.mk [] 0 [])⟩
structure G_TextEdit where
  f_Start : Int
  f_End : Int
  f_NewText : List UInt8
instance : Inhabited G_TextEdit := ⟨(G_TextEdit.mk 0 0 [])⟩
structure G_QUpdate where
  f_To : Int
  f_From : Int
  f_Name : List UInt8
  f_Version : Int
  f_Edits : List G_TextEdit
instance : Inhabited G_QUpdate := ⟨(G_QUpdate.mk 0 0 [] 0 [])⟩
def e_TextEdit (x : G_TextEdit) : List AVal := [.int .i64 x.f_Start, .int .i64 x.f_End, .str x.f_NewText]
def e_QUpdate (x : G_QUpdate) : List AVal := [.int .i64 x.f_To, .int .i64 x.f_From, .str x.f_Name, .int .i64 x.f_Version, .isl 3 (x.f_Edits.map e_TextEdit) false]
def e_sl_TextEdit (x : List G_TextEdit) : List AVal := [.isl 3 (x.map e_TextEdit) false]

theorem e_TextEdit_ok (x : G_TextEdit) : AVal.nid.nidL (e_TextEdit x) = true ∧ ∀ y ∈ e_TextEdit x, y.imm = some y := ⟨rfl, by simp [e_TextEdit, AVal.imm]⟩
theorem e_QUpdate_ok (x : G_QUpdate) : AVal.nid.nidL (e_QUpdate x) = true ∧ ∀ y ∈ e_QUpdate x, y.imm = some y := ⟨rfl, by simp [e_QUpdate, AVal.imm]⟩
theorem e_sl_TextEdit_ok (x : List G_TextEdit) : AVal.nid.nidL (e_sl_TextEdit x) = true ∧ ∀ y ∈ e_sl_TextEdit x, y.imm = some y := ⟨rfl, by simp [e_sl_TextEdit, AVal.imm]⟩
def S_glossatorlaw3_syncExample (m : Option Nat) : Option (Bool) := some true
theorem f5_ok {m : Option Nat} {o : Bool} (h : S_glossatorlaw3_syncExample m = some o) : PFn Try.prog 5 [] (.bool o) := by
  cases h
  exact ev_sync

def f6b0_c0 : LCode := (.seq (.region [⟨some 1, .box (.t 0), none⟩,
   ⟨some 2, .mv (.c (.val (.pointer none))), none⟩])
 (.seq (.region [⟨some 3, .load true 3 (.t 1), none⟩,
   ⟨some 4, .build [(.str []), (.int .i64 0), (.str [])] [(0, 3, (.t 3))], none⟩,
   ⟨some 5, .box (.t 4), none⟩,
   ⟨some 2, .mv (.t 5), none⟩])
 .ret))
def f6b0_lay : Lay := ⟨6, [], false⟩
def f6b0_res : List LRes := [.t 2]
def f6b0_L : LFn := ⟨1, f6b0_lay, f6b0_c0, f6b0_res⟩
theorem f6b0_low : lowFn Try.prog [] 6 = some f6b0_L := by kernel_rfl
theorem f6b0_fok : FnOk Try.prog 6 := ⟨_, Try.func6, rfl, rfl⟩
noncomputable def S_docsync_NewReplica (m : Option Nat) (a0 : G_QDocument) : Option ((List UInt8) × Int × (List UInt8)) :=
  some (a0.f_Name, a0.f_Version, a0.f_Text)

def f6b0_Q (a0 : G_QDocument) (o : (List UInt8) × Int × (List UInt8)) : Exit → Env → AHeap → Nat → Prop := FinK f6b0_res (FinTo 3 4 (.ptr (3, 0) 0 0) [((3, 0), .one [.str o.1, .int .i64 o.2.1, .str o.2.2])])

theorem f6b0_start {a0 : G_QDocument} {m : Option Nat} {o : (List UInt8) × Int × (List UInt8)} (h : S_docsync_NewReplica m a0 = some o) : LWp Try.prog f6b0_lay 3 f6b0_c0 (f6b0_Q a0 o) (initEnv 0 [.agg [.str a0.f_Name, .int .i64 a0.f_Version, .str a0.f_Text]]) [] 3 := by
  unfold S_docsync_NewReplica at h
  refine seqI ?_
  refine regI ?_
  refine seqI ?_
  refine regI ?_
  refine retI ?_
  cases h
  exact And.intro trivial (finI (n' := 5) [((3, 0), (4, 0))] [] rfl rfl (Vw.ptr _ _ _ _ rfl) (And.intro (And.intro rfl (BVw.oneL (And.intro (Vw.same _ rfl) (And.intro (Vw.same _ rfl) (And.intro (Vw.same _ rfl) trivial))))) trivial))

theorem f6b0_ok {a0 : G_QDocument} {m : Option Nat} {o : (List UInt8) × Int × (List UInt8)} (h : S_docsync_NewReplica m a0 = some o) : ACalls Try.prog 6 [.agg [.str a0.f_Name, .int .i64 a0.f_Version, .str a0.f_Text]] [] 3 (Gives 4 (.ptr (3, 0) 0 0) [((3, 0), .one [.str o.1, .int .i64 o.2.1, .str o.2.2])]) := bfn_of (L := f6b0_L) f6b0_low f6b0_fok (Nat.le_of_ble_eq_true rfl) (f6b0_start h)

def f43_c1 : LCode := (.seq (.region [⟨some 22, .bin .lss (.t 21) (.t 20), none⟩])
 (.seq (.cond (.t 22)
  .skip
  (.exit 0))
 (.seq (.block 1
  (.seq (.region [⟨some 23, .iaddr 3 (.t 19) (.t 21), none⟩,
    ⟨some 24, .load true 3 (.t 23), none⟩,
    ⟨some 8, .alloc [(.int .i64 0), (.int .i64 0), (.str [])], none⟩,
    ⟨none, .store 3 (.t 8) (.t 24), none⟩])
  (.seq (.seq (.region [⟨some 25, .faddr 0 (.t 8), none⟩,
    ⟨some 26, .load false 1 (.t 25), none⟩,
    ⟨some 27, .mv (.t 5), none⟩,
    ⟨some 28, .bin .leq (.t 26) (.t 27), none⟩,
    ⟨some 29, .mv (.t 28), none⟩,
    ⟨some 30, .faddr 1 (.t 8), some (29, false)⟩,
    ⟨some 31, .load false 1 (.t 30), some (29, false)⟩,
    ⟨some 32, .faddr 0 (.t 8), some (29, false)⟩,
    ⟨some 33, .load false 1 (.t 32), some (29, false)⟩,
    ⟨some 34, .bin .lss (.t 31) (.t 33), some (29, false)⟩,
    ⟨some 35, .pick (.t 29) (.c (.bool true)) (.t 34), none⟩,
    ⟨some 36, .mv (.t 35), none⟩,
    ⟨some 37, .faddr 1 (.t 8), some (36, false)⟩,
    ⟨some 38, .load false 1 (.t 37), some (36, false)⟩,
    ⟨some 39, .mv (.t 0), some (36, false)⟩,
    ⟨some 40, .len true (.t 39), some (36, false)⟩,
    ⟨some 41, .bin .gtr (.t 38) (.t 40), some (36, false)⟩,
    ⟨some 42, .pick (.t 36) (.c (.bool true)) (.t 41), none⟩])
  (.cond (.t 42)
   (.seq (.region [⟨some 4, .mv (.c (.int .i64 3)), none⟩])
   .ret)
   .skip))
  (.seq (.region [⟨some 43, .faddr 1 (.t 8), none⟩,
    ⟨some 44, .load false 1 (.t 43), none⟩,
    ⟨some 5, .mv (.t 44), none⟩])
  (.region [⟨some 45, .mv (.t 6), none⟩,
    ⟨some 46, .faddr 2 (.t 8), none⟩,
    ⟨some 47, .load false 1 (.t 46), none⟩,
    ⟨some 48, .len true (.t 47), none⟩,
    ⟨some 49, .faddr 1 (.t 8), none⟩,
    ⟨some 50, .load false 1 (.t 49), none⟩,
    ⟨some 51, .faddr 0 (.t 8), none⟩,
    ⟨some 52, .load false 1 (.t 51), none⟩,
    ⟨some 53, .bin .sub (.t 50) (.t 52), none⟩,
    ⟨some 54, .bin .sub (.t 48) (.t 53), none⟩,
    ⟨some 55, .bin .add (.t 45) (.t 54), none⟩,
    ⟨some 6, .mv (.t 55), none⟩])))))
 (.region [⟨some 56, .bin .add (.t 21) (.c (.int .i64 1)), none⟩,
   ⟨some 21, .mv (.t 56), none⟩]))))
def f43_c0 : LCode := (.seq (.seq (.region [⟨some 57, .mv (.t 6), none⟩,
   ⟨some 58, .bin .gtr (.t 57) (.c (.int .i64 2000)), none⟩])
 (.cond (.t 58)
  (.seq (.region [⟨some 4, .mv (.c (.int .i64 2)), none⟩])
  .ret)
  .skip))
 (.seq (.region [⟨some 4, .mv (.c (.int .i64 0)), none⟩])
 .ret))
def f43_c2 : LCode := (.seq (.region [⟨some 4, .mv (.c (.int .i64 0)), none⟩])
 (.seq (.seq (.region [⟨some 9, .mv (.t 0), none⟩,
   ⟨some 10, .len true (.t 9), none⟩,
   ⟨some 11, .bin .gtr (.t 10) (.c (.int .i64 2000)), none⟩,
   ⟨some 12, .mv (.t 11), none⟩,
   ⟨some 13, .mv (.t 1), some (12, false)⟩,
   ⟨some 14, .len false (.t 13), some (12, false)⟩,
   ⟨some 15, .bin .gtr (.t 14) (.c (.int .i64 50)), some (12, false)⟩,
   ⟨some 16, .pick (.t 12) (.c (.bool true)) (.t 15), none⟩])
 (.cond (.t 16)
  (.seq (.region [⟨some 4, .mv (.c (.int .i64 2)), none⟩])
  .ret)
  .skip))
 (.seq (.region [⟨some 17, .mv (.t 0), none⟩,
   ⟨some 18, .len true (.t 17), none⟩,
   ⟨some 5, .mv (.c (.int .i64 (-1))), none⟩,
   ⟨some 6, .mv (.t 18), none⟩])
 (.seq (.seq (.region [⟨some 19, .mv (.t 1), none⟩,
   ⟨some 20, .len false (.t 19), none⟩,
   ⟨some 21, .mv (.c (.int .i64 0)), none⟩])
 (.block 0
  (.loop
   f43_c1)))
 f43_c0))))
def f43_lay : Lay := ⟨59, [], false⟩
def f43_res : List LRes := [.t 4]
def f43_L : LFn := ⟨2, f43_lay, f43_c2, f43_res⟩
theorem f43_low : lowFn Try.prog [] 43 = some f43_L := by kernel_rfl
theorem f43_fok : FnOk Try.prog 43 := ⟨_, Try.func43, rfl, rfl⟩
def f43_Q (a0 : List UInt8) (a1 : List G_TextEdit) (o : Int) : Exit → Env → AHeap → Nat → Prop := FinK f43_res (PureEnd (.int .i64 o))

def f43_L1_env (a0 : List UInt8) (a1 : List G_TextEdit) (s : (Int × Int × Int)) : Env := [(0, .str a0), (5, .int .i64 s.1), (6, .int .i64 s.2.1), (19, .isl 3 (a1.map e_TextEdit) false), (20, .int .i64 ((a1.map e_TextEdit).length : Int)), (21, .int .i64 s.2.2)]
def f43_L1_hp (a0 : List UInt8) (a1 : List G_TextEdit) (s : (Int × Int × Int)) : AHeap := []
def f43_L1_Q (a0 : List UInt8) (a1 : List G_TextEdit) (o : Int) : Exit → Env → AHeap → Nat → Prop := (QBlock 0 (QSeq Try.prog f43_lay 0 f43_c0 (f43_Q a0 a1 o)))

noncomputable def S_textedit_Validate_j1 (m : Option Nat) (v2 : Int) : Option Int :=
  if (decide (v2 > 2000)) = true then
    some 2
  else
    some 0

noncomputable def S_textedit_Validate_b1 (m : Option Nat) (a0 : List UInt8) (a1 : List G_TextEdit) (v1 : Int) (v2 : Int) (v3 : Int) : Option ((Int × Int × Int) ⊕ Int) :=
  if (decide (v3 < ((a1.map e_TextEdit).length : Int))) = true then
    if (0 : Int) ≤ v3 ∧ v3 < ((a1.map e_TextEdit).length : Int) then
    if (((decide ((a1.getD v3.toNat default).f_Start ≤ v1)) || (decide ((a1.getD v3.toNat default).f_End < (a1.getD v3.toNat default).f_Start))) || (decide ((a1.getD v3.toNat default).f_End > (a0.length : Int)))) = true then
      Option.map Sum.inr (
        some 3)
    else
      some (.inl ((a1.getD v3.toNat default).f_End, (W (v2 + (W ((((a1.getD v3.toNat default).f_NewText).length : Int) - (W ((a1.getD v3.toNat default).f_End - (a1.getD v3.toNat default).f_Start)))))), (W (v3 + 1))))
    else none
  else
    Option.map Sum.inr (
      S_textedit_Validate_j1 m v2)

noncomputable def S_textedit_Validate_l1 (m : Option Nat) (a0 : List UInt8) (a1 : List G_TextEdit) (v1 : Int) (v2 : Int) (v3 : Int) : Option Int := loopM m (fun (s : (Int × Int × Int)) => S_textedit_Validate_b1 m a0 a1 s.1 s.2.1 s.2.2) (v1, v2, v3)

theorem f43_j1_ok {a0 : List UInt8} {a1 : List G_TextEdit} {v2 : Int} {m : Option Nat} {o : Int} (h : S_textedit_Validate_j1 m v2 = some o) :
    LWp Try.prog f43_lay 0 f43_c0 (f43_Q a0 a1 o) [(6, .int .i64 v2)] [] 0 := by
  unfold S_textedit_Validate_j1 at h
  refine seqI ?_
  refine seqI ?_
  refine regI ?_
  refine condI (v := (decide (v2 > 2000))) rfl trivial (fun h11 => ?_) (fun h11 => ?_)
  · have h := ite_tt h11 h
    refine seqI ?_
    refine regI ?_
    refine retI ?_
    cases h
    exact And.intro trivial (And.intro rfl (Vw.same _ rfl))
  · have h := ite_ff h11 h
    refine skipI ?_
    refine seqI ?_
    refine regI ?_
    refine retI ?_
    cases h
    exact And.intro trivial (And.intro rfl (Vw.same _ rfl))

theorem f43_L1_bok {a0 : List UInt8} {a1 : List G_TextEdit} {v1 : Int} {v2 : Int} {v3 : Int} {m : Option Nat} {o : (Int × Int × Int) ⊕ Int} (h : S_textedit_Validate_b1 m a0 a1 v1 v2 v3 = some o) :
    LWp Try.prog f43_lay 0 f43_c1 (BodyQ 0 0 (f43_L1_env a0 a1) (f43_L1_hp a0 a1) (f43_L1_Q a0 a1) o) [(0, .str a0), (5, .int .i64 v1), (6, .int .i64 v2), (19, .isl 3 (a1.map e_TextEdit) false), (20, .int .i64 ((a1.map e_TextEdit).length : Int)), (21, .int .i64 v3)] [] 0 := by
  unfold S_textedit_Validate_b1 at h
  refine seqI ?_
  refine regI ?_
  refine seqI ?_
  refine condI (v := (decide (v3 < ((a1.map e_TextEdit).length : Int)))) rfl trivial (fun h8 => ?_) (fun h8 => ?_)
  · have h := ite_tt h8 h
    refine skipI ?_
    refine seqI ?_
    refine blockI ?_
    refine seqI ?_
    refine regI ?_
    obtain ⟨h9, h⟩ := ite_some h
    refine And.intro h9 ?_
    refine Exists.intro (e_TextEdit (a1.getD v3.toNat default)) (And.intro (getD_enc e_TextEdit _ _ (idx_ltL e_TextEdit h9)) (And.intro (And.intro (idx_lt h9) (Nat.le_of_ble_eq_true rfl)) ?_))
    refine seqI ?_
    refine seqI ?_
    refine regI ?_
    refine And.intro (fun hp => hp) ?_
    show yops _ _ _ [(31, .cnd ((decide ((a1.getD v3.toNat default).f_Start ≤ v1)) == false) (.int .i64 ((a1.getD v3.toNat default).f_End))), (30, .cnd ((decide ((a1.getD v3.toNat default).f_Start ≤ v1)) == false) (.ptr (0, 0) 0 1)), (29, .bool (decide ((a1.getD v3.toNat default).f_Start ≤ v1))), (28, .bool (decide ((a1.getD v3.toNat default).f_Start ≤ v1))), (27, .int .i64 v1), (26, .int .i64 ((a1.getD v3.toNat default).f_Start)), (25, .ptr (0, 0) 0 0), (8, .ptr (0, 0) 0 0), (24, .agg [.int .i64 ((a1.getD v3.toNat default).f_Start), .int .i64 ((a1.getD v3.toNat default).f_End), .str ((a1.getD v3.toNat default).f_NewText)]), (23, .iptr 3 (a1.map e_TextEdit) v3.toNat 0), (22, .bool (decide (v3 < ((a1.map e_TextEdit).length : Int)))), (0, .str a0), (5, .int .i64 v1), (6, .int .i64 v2), (19, .isl 3 (a1.map e_TextEdit) false), (20, .int .i64 ((a1.map e_TextEdit).length : Int)), (21, .int .i64 v3)] _ _
    refine And.intro (fun hp => hp) ?_
    refine And.intro (fun hp => (And.intro hp hp)) ?_
    refine And.intro (fun hc => (bqf hc)) ?_
    refine And.intro (fun hp => hp) ?_
    show yops _ _ _ [(38, .cnd (((decide ((a1.getD v3.toNat default).f_Start ≤ v1)) || (decide ((a1.getD v3.toNat default).f_End < (a1.getD v3.toNat default).f_Start))) == false) (.int .i64 ((a1.getD v3.toNat default).f_End))), (37, .cnd (((decide ((a1.getD v3.toNat default).f_Start ≤ v1)) || (decide ((a1.getD v3.toNat default).f_End < (a1.getD v3.toNat default).f_Start))) == false) (.ptr (0, 0) 0 1)), (36, .bool ((decide ((a1.getD v3.toNat default).f_Start ≤ v1)) || (decide ((a1.getD v3.toNat default).f_End < (a1.getD v3.toNat default).f_Start)))), (35, .bool ((decide ((a1.getD v3.toNat default).f_Start ≤ v1)) || (decide ((a1.getD v3.toNat default).f_End < (a1.getD v3.toNat default).f_Start)))), (34, .cnd ((decide ((a1.getD v3.toNat default).f_Start ≤ v1)) == false) (.bool (decide ((a1.getD v3.toNat default).f_End < (a1.getD v3.toNat default).f_Start)))), (33, .cnd ((decide ((a1.getD v3.toNat default).f_Start ≤ v1)) == false) (.int .i64 ((a1.getD v3.toNat default).f_Start))), (32, .cnd ((decide ((a1.getD v3.toNat default).f_Start ≤ v1)) == false) (.ptr (0, 0) 0 0)), (31, .cnd ((decide ((a1.getD v3.toNat default).f_Start ≤ v1)) == false) (.int .i64 ((a1.getD v3.toNat default).f_End))), (30, .cnd ((decide ((a1.getD v3.toNat default).f_Start ≤ v1)) == false) (.ptr (0, 0) 0 1)), (29, .bool (decide ((a1.getD v3.toNat default).f_Start ≤ v1))), (28, .bool (decide ((a1.getD v3.toNat default).f_Start ≤ v1))), (27, .int .i64 v1), (26, .int .i64 ((a1.getD v3.toNat default).f_Start)), (25, .ptr (0, 0) 0 0), (8, .ptr (0, 0) 0 0), (24, .agg [.int .i64 ((a1.getD v3.toNat default).f_Start), .int .i64 ((a1.getD v3.toNat default).f_End), .str ((a1.getD v3.toNat default).f_NewText)]), (23, .iptr 3 (a1.map e_TextEdit) v3.toNat 0), (22, .bool (decide (v3 < ((a1.map e_TextEdit).length : Int)))), (0, .str a0), (5, .int .i64 v1), (6, .int .i64 v2), (19, .isl 3 (a1.map e_TextEdit) false), (20, .int .i64 ((a1.map e_TextEdit).length : Int)), (21, .int .i64 v3)] _ _
    refine And.intro (fun hp => hp) ?_
    refine And.intro (fun hp => (And.intro hp hp)) ?_
    refine And.intro (fun hc => (bqf hc)) ?_
    refine LWp.sim (e := [(0, .str a0), (6, .int .i64 v2), (8, .ptr (0, 0) 0 0), (19, .isl 3 (a1.map e_TextEdit) false), (20, .int .i64 ((a1.map e_TextEdit).length : Int)), (21, .int .i64 v3), (42, .bool (((decide ((a1.getD v3.toNat default).f_Start ≤ v1)) || (decide ((a1.getD v3.toNat default).f_End < (a1.getD v3.toNat default).f_Start))) || (decide ((a1.getD v3.toNat default).f_End > (a0.length : Int)))))]) (L := [((0, 0), .one [.int .i64 ((a1.getD v3.toNat default).f_Start), .int .i64 ((a1.getD v3.toNat default).f_End), .str ((a1.getD v3.toNat default).f_NewText)])]) (n := 1) ?_ ?_
    · exact simI (M := [((0, 0), (0, 0))]) rfl (And.intro (Vw.same _ rfl) (And.intro (Vw.same _ rfl) (And.intro (Vw.ptr _ _ _ _ rfl) (And.intro (Vw.same _ rfl) (And.intro (Vw.same _ rfl) (And.intro (Vw.same _ rfl) (And.intro (Vw.same _ rfl) trivial))))))) (And.intro (And.intro rfl (BVw.oneL (And.intro (Vw.same _ rfl) (And.intro (Vw.same _ rfl) (And.intro (Vw.same _ rfl) trivial))))) trivial)
    refine condI (v := (((decide ((a1.getD v3.toNat default).f_Start ≤ v1)) || (decide ((a1.getD v3.toNat default).f_End < (a1.getD v3.toNat default).f_Start))) || (decide ((a1.getD v3.toNat default).f_End > (a0.length : Int))))) rfl trivial (fun h10 => ?_) (fun h10 => ?_)
    · have h := ite_tt h10 h
      refine seqI ?_
      refine regI ?_
      refine retI ?_
      obtain ⟨o, hq, rfl⟩ := Option.map_eq_some_iff.1 h
      replace h := hq; clear hq
      refine And.intro nofun ?_
      cases h
      exact And.intro trivial (And.intro rfl (Vw.same _ rfl))
    · have h := ite_ff h10 h
      refine skipI ?_
      refine seqI ?_
      refine regI ?_
      refine regI ?_
      refine LWp.sim (e := [(0, .str a0), (5, .int .i64 ((a1.getD v3.toNat default).f_End)), (6, .int .i64 (W (v2 + (W ((((a1.getD v3.toNat default).f_NewText).length : Int) - (W ((a1.getD v3.toNat default).f_End - (a1.getD v3.toNat default).f_Start))))))), (19, .isl 3 (a1.map e_TextEdit) false), (20, .int .i64 ((a1.map e_TextEdit).length : Int)), (21, .int .i64 v3)]) (L := []) (n := 0) ?_ ?_
      · exact simI (M := []) rfl (And.intro (Vw.same _ rfl) (And.intro (Vw.same _ rfl) (And.intro (Vw.same _ rfl) (And.intro (Vw.same _ rfl) (And.intro (Vw.same _ rfl) (And.intro (Vw.same _ rfl) trivial)))))) trivial
      refine regI ?_
      cases h
      exact And.intro rfl (simI (M := []) rfl (And.intro (Vw.same _ rfl) (And.intro (Vw.same _ rfl) (And.intro (Vw.same _ rfl) (And.intro (Vw.same _ rfl) (And.intro (Vw.same _ rfl) (And.intro (Vw.same _ rfl) trivial)))))) trivial)
  · have h := ite_ff h8 h
    refine exitI ?_
    obtain ⟨o, hq, rfl⟩ := Option.map_eq_some_iff.1 h
    replace h := hq; clear hq
    refine And.intro nofun ?_
    refine LWp.sim ?_ (f43_j1_ok h)
    exact simI (M := []) rfl (And.intro (Vw.same _ rfl) trivial) trivial

theorem f43_L1_ok {a0 : List UInt8} {a1 : List G_TextEdit} {v1 : Int} {v2 : Int} {v3 : Int} {m : Option Nat} {o : Int} (h : S_textedit_Validate_l1 m a0 a1 v1 v2 v3 = some o) :
    LWp Try.prog f43_lay 0 (.loop f43_c1) (QBlock 0 (QSeq Try.prog f43_lay 0 f43_c0 (f43_Q a0 a1 o))) [(0, .str a0), (5, .int .i64 v1), (6, .int .i64 v2), (19, .isl 3 (a1.map e_TextEdit) false), (20, .int .i64 ((a1.map e_TextEdit).length : Int)), (21, .int .i64 v3)] [] 0 :=
  LWp_loopM (m := m) (s := ((v1, v2, v3) : (Int × Int × Int))) (r := o) (fun (s : (Int × Int × Int)) => S_textedit_Validate_b1 m a0 a1 s.1 s.2.1 s.2.2) (f43_L1_env a0 a1) (f43_L1_hp a0 a1) (f43_L1_Q a0 a1) (fun s o h => f43_L1_bok h) h

noncomputable def S_textedit_Validate (m : Option Nat) (a0 : List UInt8) (a1 : List G_TextEdit) : Option Int :=
  if ((decide ((a0.length : Int) > 2000)) || (decide (((a1.map e_TextEdit).length : Int) > 50))) = true then
    some 2
  else
    S_textedit_Validate_l1 m a0 a1 (-1) (a0.length : Int) 0

theorem f43_start {a0 : List UInt8} {a1 : List G_TextEdit} {m : Option Nat} {o : Int} (h : S_textedit_Validate m a0 a1 = some o) : LWp Try.prog f43_lay 0 f43_c2 (f43_Q a0 a1 o) (initEnv 0 [.str a0, .isl 3 (a1.map e_TextEdit) false]) [] 0 := by
  unfold S_textedit_Validate at h
  refine seqI ?_
  refine regI ?_
  refine seqI ?_
  refine seqI ?_
  refine regI ?_
  refine And.intro (fun hp => hp) ?_
  show yops _ _ _ [(14, .cnd ((decide ((a0.length : Int) > 2000)) == false) (.int .i64 ((a1.map e_TextEdit).length : Int))), (13, .cnd ((decide ((a0.length : Int) > 2000)) == false) (.isl 3 (a1.map e_TextEdit) false)), (12, .bool (decide ((a0.length : Int) > 2000))), (11, .bool (decide ((a0.length : Int) > 2000))), (10, .int .i64 (a0.length : Int)), (9, .str a0), (4, .int .i64 0), (0, .str a0), (1, .isl 3 (a1.map e_TextEdit) false)] _ _
  refine And.intro (fun hp => hp) ?_
  refine And.intro (fun hc => (bqf hc)) ?_
  refine LWp.sim (e := [(0, .str a0), (1, .isl 3 (a1.map e_TextEdit) false), (16, .bool ((decide ((a0.length : Int) > 2000)) || (decide (((a1.map e_TextEdit).length : Int) > 50))))]) (L := []) (n := 0) ?_ ?_
  · exact simI (M := []) rfl (And.intro (Vw.same _ rfl) (And.intro (Vw.same _ rfl) (And.intro (Vw.same _ rfl) trivial))) trivial
  refine condI (v := ((decide ((a0.length : Int) > 2000)) || (decide (((a1.map e_TextEdit).length : Int) > 50)))) rfl trivial (fun h1 => ?_) (fun h1 => ?_)
  · have h := ite_tt h1 h
    refine seqI ?_
    refine regI ?_
    refine retI ?_
    cases h
    exact And.intro trivial (And.intro rfl (Vw.same _ rfl))
  · have h := ite_ff h1 h
    refine skipI ?_
    refine seqI ?_
    refine regI ?_
    refine seqI ?_
    refine seqI ?_
    refine regI ?_
    refine blockI ?_
    refine LWp.sim ?_ (f43_L1_ok h)
    exact simI (M := []) rfl (And.intro (Vw.same _ rfl) (And.intro (Vw.same _ rfl) (And.intro (Vw.same _ rfl) (And.intro (Vw.same _ rfl) (And.intro (Vw.same _ rfl) (And.intro (Vw.same _ rfl) trivial)))))) trivial

theorem f43_ok {a0 : List UInt8} {a1 : List G_TextEdit} {m : Option Nat} {o : Int} (h : S_textedit_Validate m a0 a1 = some o) : PFn Try.prog 43 [.str a0, .isl 3 (a1.map e_TextEdit) false] (.int .i64 o) := PFn.ofFnW (L := f43_L) f43_low f43_fok (Nat.le_of_ble_eq_true rfl) rfl (f43_start h)

def f22_c1 : LCode := (.seq (.region [⟨some 20, .bin .lss (.t 19) (.t 18), none⟩])
 (.seq (.cond (.t 20)
  .skip
  (.exit 0))
 (.seq (.block 1
  (.seq (.region [⟨some 21, .iaddr 3 (.t 17) (.t 19), none⟩,
    ⟨some 22, .load true 3 (.t 21), none⟩,
    ⟨some 10, .alloc [(.int .i64 0), (.int .i64 0), (.str [])], none⟩,
    ⟨none, .store 3 (.t 10) (.t 22), none⟩])
  (.seq (.draw [⟨⟨some 23, .mv (.t 0), none⟩, []⟩,
    ⟨⟨some 24, .mv (.t 8), none⟩, []⟩,
    ⟨⟨some 25, .faddr 0 (.t 10), none⟩, []⟩,
    ⟨⟨some 26, .load false 1 (.t 25), none⟩, []⟩,
    ⟨⟨some 27, .slStr (.t 23) (some (.t 24)) (some (.t 26)), none⟩, []⟩,
    ⟨⟨some 28, .faddr 2 (.t 10), none⟩, []⟩,
    ⟨⟨some 29, .load false 1 (.t 28), none⟩, []⟩,
    ⟨⟨some 30, .bin .add (.t 27) (.t 29), none⟩, []⟩,
    ⟨⟨some 31, .call 44 [(.t 7), (.t 30)], none⟩, []⟩])
  (.region [⟨some 32, .faddr 1 (.t 10), none⟩,
    ⟨some 33, .load false 1 (.t 32), none⟩,
    ⟨some 8, .mv (.t 33), none⟩]))))
 (.region [⟨some 34, .bin .add (.t 19) (.c (.int .i64 1)), none⟩,
   ⟨some 19, .mv (.t 34), none⟩]))))
def f22_c0 : LCode := (.seq (.region [⟨some 35, .mv (.t 0), none⟩,
   ⟨some 36, .mv (.t 8), none⟩,
   ⟨some 37, .slStr (.t 35) (some (.t 36)) none, none⟩,
   ⟨some 38, .call 44 [(.t 7), (.t 37)], none⟩])
 (.seq (.region [⟨some 39, .call 45 [(.t 7)], none⟩,
   ⟨some 4, .mv (.t 39), none⟩,
   ⟨some 5, .mv (.c (.int .i64 0)), none⟩])
 .ret))
def f22_c2 : LCode := (.seq (.region [⟨some 4, .mv (.c (.str [])), none⟩,
   ⟨some 5, .mv (.c (.int .i64 0)), none⟩])
 (.seq (.seq (.region [⟨some 11, .mv (.t 0), none⟩,
   ⟨some 12, .mv (.t 1), none⟩,
   ⟨some 13, .call 43 [(.t 11), (.t 12)], none⟩,
   ⟨some 6, .mv (.t 13), none⟩])
 (.seq (.region [⟨some 14, .mv (.t 6), none⟩,
   ⟨some 15, .bin .neq (.t 14) (.c (.int .i64 0)), none⟩])
 (.cond (.t 15)
  (.seq (.region [⟨some 16, .mv (.t 6), none⟩,
    ⟨some 4, .mv (.c (.str [])), none⟩,
    ⟨some 5, .mv (.t 16), none⟩])
  .ret)
  .skip)))
 (.seq (.region [⟨some 7, .allocB 99 5, none⟩])
 (.seq (.region [⟨some 8, .mv (.c (.int .i64 0)), none⟩])
 (.seq (.seq (.region [⟨some 17, .mv (.t 1), none⟩,
   ⟨some 18, .len false (.t 17), none⟩,
   ⟨some 19, .mv (.c (.int .i64 0)), none⟩])
 (.block 0
  (.loop
   f22_c1)))
 f22_c0)))))
def f22_lay : Lay := ⟨40, [7], false⟩
def f22_res : List LRes := [.t 4, .t 5]
def f22_L : LFn := ⟨2, f22_lay, f22_c2, f22_res⟩
theorem f22_low : lowFn Try.prog [7] 22 = some f22_L := by kernel_rfl
theorem f22_fok : FnOk Try.prog 22 := ⟨_, Try.func22, rfl, rfl⟩
def f22_Q (a0 : List UInt8) (a1 : List G_TextEdit) (o : (List UInt8) × Int) : Exit → Env → AHeap → Nat → Prop := FinK f22_res (PureEnd (.tup [.str o.1, .int .i64 o.2]))

def f22_L1_env (a0 : List UInt8) (a1 : List G_TextEdit) (s : (Int × Int × (List UInt8))) : Env := [(0, .str a0), (7, .ptr (0, 0) 0 0), (8, .int .i64 s.1), (17, .isl 3 (a1.map e_TextEdit) false), (18, .int .i64 ((a1.map e_TextEdit).length : Int)), (19, .int .i64 s.2.1)]
def f22_L1_hp (a0 : List UInt8) (a1 : List G_TextEdit) (s : (Int × Int × (List UInt8))) : AHeap := [((0, 0), .bld 99 (1, 0)), ((1, 0), .buf 5 s.2.2)]
def f22_L1_Q (a0 : List UInt8) (a1 : List G_TextEdit) (o : ((List UInt8) × Int)) : Exit → Env → AHeap → Nat → Prop := (QBlock 0 (QSeq Try.prog f22_lay 0 f22_c0 (f22_Q a0 a1 o)))

noncomputable def S_textedit_Apply_j1 (m : Option Nat) (a0 : List UInt8) (v2 : Int) (v4 : List UInt8) : Option ((List UInt8) × Int) :=
  if (0 : Int) ≤ v2 ∧ v2 ≤ (a0.length : Int) then
  if v4.length + ((a0.take a0.length).drop v2.toNat).length ≤ 140737488355328 then
  if (v4 ++ ((a0.take a0.length).drop v2.toNat)).length ≤ 9223372036854775807 then
  some ((v4 ++ ((a0.take a0.length).drop v2.toNat)), 0)
  else none
  else none
  else none

noncomputable def S_textedit_Apply_b1 (m : Option Nat) (a0 : List UInt8) (a1 : List G_TextEdit) (v2 : Int) (v3 : Int) (v4 : List UInt8) : Option ((Int × Int × (List UInt8)) ⊕ ((List UInt8) × Int)) :=
  if (decide (v3 < ((a1.map e_TextEdit).length : Int))) = true then
    if (0 : Int) ≤ v3 ∧ v3 < ((a1.map e_TextEdit).length : Int) then
    if (0 : Int) ≤ v2 ∧ v2 ≤ (a1.getD v3.toNat default).f_Start ∧ ((a1.getD v3.toNat default).f_Start) ≤ (a0.length : Int) then
    if (((((a0.take ((a1.getD v3.toNat default).f_Start).toNat).drop v2.toNat).length + ((a1.getD v3.toNat default).f_NewText).length : Nat) : Int) ≤ 9223372036854775807) then
    if v4.length + (((a0.take ((a1.getD v3.toNat default).f_Start).toNat).drop v2.toNat) ++ (a1.getD v3.toNat default).f_NewText).length ≤ 140737488355328 then
    some (.inl ((a1.getD v3.toNat default).f_End, (W (v3 + 1)), (v4 ++ (((a0.take ((a1.getD v3.toNat default).f_Start).toNat).drop v2.toNat) ++ (a1.getD v3.toNat default).f_NewText))))
    else none
    else none
    else none
    else none
  else
    Option.map Sum.inr (
      S_textedit_Apply_j1 m a0 v2 v4)

noncomputable def S_textedit_Apply_l1 (m : Option Nat) (a0 : List UInt8) (a1 : List G_TextEdit) (v2 : Int) (v3 : Int) (v4 : List UInt8) : Option ((List UInt8) × Int) := loopM m (fun (s : (Int × Int × (List UInt8))) => S_textedit_Apply_b1 m a0 a1 s.1 s.2.1 s.2.2) (v2, v3, v4)

theorem f22_j1_ok {a1 : List G_TextEdit} {a0 : List UInt8} {v2 : Int} {v4 : List UInt8} {m : Option Nat} {o : ((List UInt8) × Int)} (h : S_textedit_Apply_j1 m a0 v2 v4 = some o) :
    LWp Try.prog f22_lay 0 f22_c0 (f22_Q a0 a1 o) [(0, .str a0), (7, .ptr (0, 0) 0 0), (8, .int .i64 v2)] [((0, 0), .bld 99 (1, 0)), ((1, 0), .buf 5 v4)] 2 := by
  unfold S_textedit_Apply_j1 at h
  refine seqI ?_
  refine regI ?_
  obtain ⟨h18, h⟩ := ite_some h
  refine And.intro (And.intro (And.left h18) (And.intro (And.right h18) (Int.le_refl _))) ?_
  obtain ⟨h19, h⟩ := ite_some h
  refine bld_write (b := (0, 0)) (g := (1, 0)) (bs := v4) bWriteString rfl rfl h19 ?_
  refine seqI ?_
  refine regI ?_
  obtain ⟨h20, h⟩ := ite_some h
  refine bld_string (b := (0, 0)) (g := (2, 0)) (bs := (v4 ++ ((a0.take a0.length).drop v2.toNat))) bString rfl rfl h20 ?_
  show yops _ _ _ [(39, .str (v4 ++ ((a0.take a0.length).drop v2.toNat))), (38, .tup [.int .i64 (((a0.take a0.length).drop v2.toNat).length : Int), .val .nilIface]), (37, .str ((a0.take a0.length).drop v2.toNat)), (36, .int .i64 v2), (35, .str a0), (0, .str a0), (7, .ptr (0, 0) 0 0), (8, .int .i64 v2)] _ _
  refine retI ?_
  cases h
  exact And.intro trivial (And.intro trivial (And.intro rfl (Vw.same _ rfl)))

theorem f22_L1_bok {a0 : List UInt8} {a1 : List G_TextEdit} {v2 : Int} {v3 : Int} {v4 : List UInt8} {m : Option Nat} {o : (Int × Int × (List UInt8)) ⊕ ((List UInt8) × Int)} (h : S_textedit_Apply_b1 m a0 a1 v2 v3 v4 = some o) :
    LWp Try.prog f22_lay 0 f22_c1 (BodyQ 0 2 (f22_L1_env a0 a1) (f22_L1_hp a0 a1) (f22_L1_Q a0 a1) o) [(0, .str a0), (7, .ptr (0, 0) 0 0), (8, .int .i64 v2), (17, .isl 3 (a1.map e_TextEdit) false), (18, .int .i64 ((a1.map e_TextEdit).length : Int)), (19, .int .i64 v3)] [((0, 0), .bld 99 (1, 0)), ((1, 0), .buf 5 v4)] 2 := by
  unfold S_textedit_Apply_b1 at h
  refine seqI ?_
  refine regI ?_
  refine seqI ?_
  refine condI (v := (decide (v3 < ((a1.map e_TextEdit).length : Int)))) rfl trivial (fun h13 => ?_) (fun h13 => ?_)
  · have h := ite_tt h13 h
    refine skipI ?_
    refine seqI ?_
    refine blockI ?_
    refine seqI ?_
    refine regI ?_
    obtain ⟨h14, h⟩ := ite_some h
    refine And.intro h14 ?_
    refine Exists.intro (e_TextEdit (a1.getD v3.toNat default)) (And.intro (getD_enc e_TextEdit _ _ (idx_ltL e_TextEdit h14)) (And.intro (And.intro (idx_lt h14) (Nat.le_of_ble_eq_true rfl)) ?_))
    refine seqI ?_
    refine drawO rfl ?_
    obtain ⟨h15, h⟩ := ite_some h
    refine And.intro h15 ?_
    show yops _ _ _ [(27, .str ((a0.take ((a1.getD v3.toNat default).f_Start).toNat).drop v2.toNat)), (26, .int .i64 ((a1.getD v3.toNat default).f_Start)), (25, .ptr (2, 0) 0 0), (24, .int .i64 v2), (23, .str a0), (10, .ptr (2, 0) 0 0), (22, .agg [.int .i64 ((a1.getD v3.toNat default).f_Start), .int .i64 ((a1.getD v3.toNat default).f_End), .str ((a1.getD v3.toNat default).f_NewText)]), (21, .iptr 3 (a1.map e_TextEdit) v3.toNat 0), (20, .bool (decide (v3 < ((a1.map e_TextEdit).length : Int)))), (0, .str a0), (7, .ptr (0, 0) 0 0), (8, .int .i64 v2), (17, .isl 3 (a1.map e_TextEdit) false), (18, .int .i64 ((a1.map e_TextEdit).length : Int)), (19, .int .i64 v3)] _ _
    obtain ⟨h16, h⟩ := ite_some h
    refine And.intro h16 ?_
    obtain ⟨h17, h⟩ := ite_some h
    refine bld_write (b := (0, 0)) (g := (1, 0)) (bs := v4) bWriteString rfl rfl h17 ?_
    refine LWp.sim (e := [(0, .str a0), (7, .ptr (0, 0) 0 0), (10, .ptr (1, 0) 0 0), (17, .isl 3 (a1.map e_TextEdit) false), (18, .int .i64 ((a1.map e_TextEdit).length : Int)), (19, .int .i64 v3)]) (L := [((0, 0), .bld 99 (2, 0)), ((1, 0), .one [.int .i64 ((a1.getD v3.toNat default).f_Start), .int .i64 ((a1.getD v3.toNat default).f_End), .str ((a1.getD v3.toNat default).f_NewText)]), ((2, 0), .buf 5 (v4 ++ (((a0.take ((a1.getD v3.toNat default).f_Start).toNat).drop v2.toNat) ++ (a1.getD v3.toNat default).f_NewText)))]) (n := 3) ?_ ?_
    · exact simI (M := [((0, 0), (0, 0)), ((1, 0), (2, 0)), ((2, 0), (3, 0))]) rfl (And.intro (Vw.same _ rfl) (And.intro (Vw.ptr _ _ _ _ rfl) (And.intro (Vw.ptr _ _ _ _ rfl) (And.intro (Vw.same _ rfl) (And.intro (Vw.same _ rfl) (And.intro (Vw.same _ rfl) trivial)))))) (And.intro (And.intro rfl (BVw.bld _ _ _ rfl)) (And.intro (And.intro rfl (BVw.oneL (And.intro (Vw.same _ rfl) (And.intro (Vw.same _ rfl) (And.intro (Vw.same _ rfl) trivial))))) (And.intro (And.intro rfl (BVw.buf _ (v4 ++ (((a0.take ((a1.getD v3.toNat default).f_Start).toNat).drop v2.toNat) ++ (a1.getD v3.toNat default).f_NewText)))) trivial)))
    refine regI ?_
    refine regI ?_
    cases h
    exact And.intro rfl (simI (M := [((0, 0), (0, 0)), ((1, 0), (2, 0))]) rfl (And.intro (Vw.same _ rfl) (And.intro (Vw.ptr _ _ _ _ rfl) (And.intro (Vw.same _ rfl) (And.intro (Vw.same _ rfl) (And.intro (Vw.same _ rfl) (And.intro (Vw.same _ rfl) trivial)))))) (And.intro (And.intro rfl (BVw.bld _ _ _ rfl)) (And.intro (And.intro rfl (BVw.buf _ (v4 ++ (((a0.take ((a1.getD v3.toNat default).f_Start).toNat).drop v2.toNat) ++ (a1.getD v3.toNat default).f_NewText)))) trivial)))
  · have h := ite_ff h13 h
    refine exitI ?_
    obtain ⟨o, hq, rfl⟩ := Option.map_eq_some_iff.1 h
    replace h := hq; clear hq
    refine And.intro nofun ?_
    refine LWp.sim ?_ (f22_j1_ok h)
    exact simI (M := [((0, 0), (0, 0)), ((1, 0), (1, 0))]) rfl (And.intro (Vw.same _ rfl) (And.intro (Vw.ptr _ _ _ _ rfl) (And.intro (Vw.same _ rfl) trivial))) (And.intro (And.intro rfl (BVw.bld _ _ _ rfl)) (And.intro (And.intro rfl (BVw.buf _ v4)) trivial))

theorem f22_L1_ok {a0 : List UInt8} {a1 : List G_TextEdit} {v2 : Int} {v3 : Int} {v4 : List UInt8} {m : Option Nat} {o : ((List UInt8) × Int)} (h : S_textedit_Apply_l1 m a0 a1 v2 v3 v4 = some o) :
    LWp Try.prog f22_lay 0 (.loop f22_c1) (QBlock 0 (QSeq Try.prog f22_lay 0 f22_c0 (f22_Q a0 a1 o))) [(0, .str a0), (7, .ptr (0, 0) 0 0), (8, .int .i64 v2), (17, .isl 3 (a1.map e_TextEdit) false), (18, .int .i64 ((a1.map e_TextEdit).length : Int)), (19, .int .i64 v3)] [((0, 0), .bld 99 (1, 0)), ((1, 0), .buf 5 v4)] 2 :=
  LWp_loopM (m := m) (s := ((v2, v3, v4) : (Int × Int × (List UInt8)))) (r := o) (fun (s : (Int × Int × (List UInt8))) => S_textedit_Apply_b1 m a0 a1 s.1 s.2.1 s.2.2) (f22_L1_env a0 a1) (f22_L1_hp a0 a1) (f22_L1_Q a0 a1) (fun s o h => f22_L1_bok h) h

noncomputable def S_textedit_Apply (m : Option Nat) (a0 : List UInt8) (a1 : List G_TextEdit) : Option ((List UInt8) × Int) :=
  (S_textedit_Validate m a0 a1).bind fun v1 =>
  if (v1 != 0) = true then
    some (([] : List UInt8), v1)
  else
    S_textedit_Apply_l1 m a0 a1 0 0 ([] : List UInt8)

theorem f22_start {a0 : List UInt8} {a1 : List G_TextEdit} {m : Option Nat} {o : (List UInt8) × Int} (h : S_textedit_Apply m a0 a1 = some o) : LWp Try.prog f22_lay 0 f22_c2 (f22_Q a0 a1 o) (initEnv 0 [.str a0, .isl 3 (a1.map e_TextEdit) false]) [] 0 := by
  unfold S_textedit_Apply at h
  refine seqI ?_
  refine regI ?_
  refine seqI ?_
  refine seqI ?_
  refine regI ?_
  obtain ⟨v1, h1, h⟩ := bind_some h
  refine PFn.call (f43_ok h1) (And.intro (Vw.same _ rfl) (And.intro (Vw.same _ rfl) trivial)) ?_
  show yops _ _ _ [(13, .int .i64 v1), (12, .isl 3 (a1.map e_TextEdit) false), (11, .str a0), (5, .int .i64 0), (4, .str ([] : List UInt8)), (0, .str a0), (1, .isl 3 (a1.map e_TextEdit) false)] _ _
  refine seqI ?_
  refine regI ?_
  refine LWp.sim (e := [(0, .str a0), (1, .isl 3 (a1.map e_TextEdit) false), (6, .int .i64 v1), (15, .bool (v1 != 0))]) (L := []) (n := 0) ?_ ?_
  · exact simI (M := []) rfl (And.intro (Vw.same _ rfl) (And.intro (Vw.same _ rfl) (And.intro (Vw.same _ rfl) (And.intro (Vw.same _ rfl) trivial)))) trivial
  refine condI (v := (v1 != 0)) rfl trivial (fun h2 => ?_) (fun h2 => ?_)
  · have h := ite_tt h2 h
    refine seqI ?_
    refine regI ?_
    refine retI ?_
    cases h
    exact And.intro trivial (And.intro trivial (And.intro rfl (Vw.same _ rfl)))
  · have h := ite_ff h2 h
    refine skipI ?_
    refine seqI ?_
    refine regI ?_
    refine seqI ?_
    refine regI ?_
    refine seqI ?_
    refine seqI ?_
    refine regI ?_
    refine blockI ?_
    refine LWp.sim ?_ (f22_L1_ok h)
    exact simI (M := [((0, 0), (0, 0)), ((1, 0), (0, 1))]) rfl (And.intro (Vw.same _ rfl) (And.intro (Vw.ptr _ _ _ _ rfl) (And.intro (Vw.same _ rfl) (And.intro (Vw.same _ rfl) (And.intro (Vw.same _ rfl) (And.intro (Vw.same _ rfl) trivial)))))) (And.intro (And.intro rfl (BVw.bld _ _ _ rfl)) (And.intro (And.intro rfl (BVw.buf _ ([] : List UInt8))) trivial))

theorem f22_ok {a0 : List UInt8} {a1 : List G_TextEdit} {m : Option Nat} {o : (List UInt8) × Int} (h : S_textedit_Apply m a0 a1 = some o) : PFn Try.prog 22 [.str a0, .isl 3 (a1.map e_TextEdit) false] (.tup [.str o.1, .int .i64 o.2]) := PFn.ofFnW (L := f22_L) f22_low f22_fok (Nat.le_of_ble_eq_true rfl) rfl (f22_start h)

def f7_c0 : LCode := (.seq (.seq (.region [⟨some 27, .mv (.t 7), none⟩,
   ⟨some 28, .bin .neq (.t 27) (.c (.int .i64 0)), none⟩])
 (.cond (.t 28)
  (.seq (.region [⟨some 29, .load true 3 (.t 2), none⟩,
    ⟨some 30, .mv (.t 7), none⟩,
    ⟨none, .store 3 (.t 4) (.t 29), none⟩,
    ⟨some 5, .mv (.t 30), none⟩])
  .ret)
  .skip))
 (.seq (.region [⟨some 31, .faddr 0 (.t 2), none⟩,
   ⟨some 32, .load false 1 (.t 31), none⟩,
   ⟨some 33, .faddr 1 (.t 2), none⟩,
   ⟨some 34, .load false 1 (.t 33), none⟩,
   ⟨some 35, .bin .add (.t 34) (.c (.int .i64 1)), none⟩,
   ⟨some 36, .mv (.t 6), none⟩,
   ⟨some 37, .build [(.str []), (.int .i64 0), (.str [])] [(0, 1, (.t 32)), (1, 1, (.t 35)), (2, 1, (.t 36))], none⟩,
   ⟨none, .store 3 (.t 4) (.t 37), none⟩,
   ⟨some 5, .mv (.c (.int .i64 0)), none⟩])
 .ret))
def f7_c1 : LCode := (.seq (.region [⟨some 2, .box (.t 0), none⟩,
   ⟨some 4, .alloc [(.str []), (.int .i64 0), (.str [])], none⟩,
   ⟨some 5, .mv (.c (.int .i64 0)), none⟩])
 (.seq (.region [⟨some 9, .faddr 2 (.t 2), none⟩,
   ⟨some 10, .load false 1 (.t 9), none⟩,
   ⟨some 11, .mv (.t 1), none⟩,
   ⟨some 12, .call 22 [(.t 10), (.t 11)], none⟩,
   ⟨some 8, .mv (.t 12), none⟩,
   ⟨some 13, .ext 0 (.t 8), none⟩,
   ⟨some 14, .ext 1 (.t 8), none⟩,
   ⟨some 6, .mv (.t 13), none⟩,
   ⟨some 7, .mv (.t 14), none⟩])
 (.seq (.seq (.region [⟨some 15, .mv (.t 7), none⟩,
   ⟨some 16, .bin .eql (.t 15) (.c (.int .i64 0)), none⟩,
   ⟨some 17, .mv (.t 16), none⟩,
   ⟨some 18, .mv (.t 6), some (17, true)⟩,
   ⟨some 19, .len true (.t 18), some (17, true)⟩,
   ⟨some 20, .bin .gtr (.t 19) (.c (.int .i64 2000)), some (17, true)⟩,
   ⟨some 21, .mv (.t 20), some (17, true)⟩,
   ⟨some 22, .faddr 1 (.t 2), some (21, false)⟩,
   ⟨some 23, .load false 1 (.t 22), some (21, false)⟩,
   ⟨some 24, .bin .geq (.t 23) (.c (.int .i64 2147483647)), some (21, false)⟩,
   ⟨some 25, .pick (.t 21) (.c (.bool true)) (.t 24), some (17, true)⟩,
   ⟨some 26, .pick (.t 17) (.t 25) (.c (.bool false)), none⟩])
 (.cond (.t 26)
  (.region [⟨some 7, .mv (.c (.int .i64 2)), none⟩])
  .skip))
 f7_c0)))
def f7_lay : Lay := ⟨38, [], false⟩
def f7_res : List LRes := [.cell 4 true 3, .t 5]
def f7_L : LFn := ⟨2, f7_lay, f7_c1, f7_res⟩
theorem f7_low : lowFn Try.prog [] 7 = some f7_L := by kernel_rfl
theorem f7_fok : FnOk Try.prog 7 := ⟨_, Try.func7, rfl, rfl⟩
noncomputable def S_glossatorlaw3_applied_j1 (m : Option Nat) (a0 : G_QDocument) (v1 : (List UInt8) × Int) (v2 : Int) : Option (G_QDocument × Int) :=
  if (v2 != 0) = true then
    some (a0, v2)
  else
    some ((G_QDocument.mk a0.f_Name (W (a0.f_Version + 1)) v1.1), 0)

def f7_Q (a0 : G_QDocument) (a1 : List G_TextEdit) (o : G_QDocument × Int) : Exit → Env → AHeap → Nat → Prop := FinK f7_res (PureEnd (.tup [.agg [.str o.1.f_Name, .int .i64 o.1.f_Version, .str o.1.f_Text], .int .i64 o.2]))

theorem f7_j1_ok {a1 : List G_TextEdit} {a0 : G_QDocument} {v1 : (List UInt8) × Int} {v2 : Int} {m : Option Nat} {o : (G_QDocument × Int)} (h : S_glossatorlaw3_applied_j1 m a0 v1 v2 = some o) :
    LWp Try.prog f7_lay 0 f7_c0 (f7_Q a0 a1 o) [(2, .ptr (0, 0) 0 0), (4, .ptr (1, 0) 0 0), (6, .str v1.1), (7, .int .i64 v2)] [((0, 0), .one [.str a0.f_Name, .int .i64 a0.f_Version, .str a0.f_Text]), ((1, 0), .one [.str ([] : List UInt8), .int .i64 0, .str ([] : List UInt8)])] 2 := by
  unfold S_glossatorlaw3_applied_j1 at h
  refine seqI ?_
  refine seqI ?_
  refine regI ?_
  refine condI (v := (v2 != 0)) rfl trivial (fun h3 => ?_) (fun h3 => ?_)
  · have h := ite_tt h3 h
    refine seqI ?_
    refine regI ?_
    refine retI ?_
    cases h
    exact And.intro (And.intro trivial (And.intro rfl (Nat.le_of_ble_eq_true rfl))) (And.intro trivial (And.intro rfl (Vw.same _ rfl)))
  · have h := ite_ff h3 h
    refine skipI ?_
    refine seqI ?_
    refine regI ?_
    refine LWp.sim (e := [(4, .ptr (0, 0) 0 0), (5, .int .i64 0)]) (L := [((0, 0), .one [.str a0.f_Name, .int .i64 (W (a0.f_Version + 1)), .str v1.1])]) (n := 1) ?_ ?_
    · exact simI (M := [((0, 0), (1, 0))]) rfl (And.intro (Vw.ptr _ _ _ _ rfl) (And.intro (Vw.same _ rfl) trivial)) (And.intro (And.intro rfl (BVw.oneL (And.intro (Vw.same _ rfl) (And.intro (Vw.same _ rfl) (And.intro (Vw.same _ rfl) trivial))))) trivial)
    refine retI ?_
    cases h
    exact And.intro (And.intro trivial (And.intro rfl (Nat.le_of_ble_eq_true rfl))) (And.intro trivial (And.intro rfl (Vw.same _ rfl)))

noncomputable def S_glossatorlaw3_applied (m : Option Nat) (a0 : G_QDocument) (a1 : List G_TextEdit) : Option (G_QDocument × Int) :=
  (S_textedit_Apply m a0.f_Text a1).bind fun v1 =>
  if ((v1.2 == 0) && ((decide ((v1.1.length : Int) > 2000)) || (decide (a0.f_Version ≥ 2147483647)))) = true then
    S_glossatorlaw3_applied_j1 m a0 v1 2
  else
    S_glossatorlaw3_applied_j1 m a0 v1 v1.2

theorem f7_start {a0 : G_QDocument} {a1 : List G_TextEdit} {m : Option Nat} {o : G_QDocument × Int} (h : S_glossatorlaw3_applied m a0 a1 = some o) : LWp Try.prog f7_lay 0 f7_c1 (f7_Q a0 a1 o) (initEnv 0 [.agg [.str a0.f_Name, .int .i64 a0.f_Version, .str a0.f_Text], .isl 3 (a1.map e_TextEdit) false]) [] 0 := by
  unfold S_glossatorlaw3_applied at h
  refine seqI ?_
  refine regI ?_
  refine seqI ?_
  refine regI ?_
  obtain ⟨v1, h1, h⟩ := bind_some h
  refine PFn.call (f22_ok h1) (And.intro (Vw.same _ rfl) (And.intro (Vw.same _ rfl) trivial)) ?_
  show yops _ _ _ [(12, .tup [.str v1.1, .int .i64 v1.2]), (11, .isl 3 (a1.map e_TextEdit) false), (10, .str a0.f_Text), (9, .ptr (0, 0) 0 2), (5, .int .i64 0), (4, .ptr (1, 0) 0 0), (2, .ptr (0, 0) 0 0), (0, .agg [.str a0.f_Name, .int .i64 a0.f_Version, .str a0.f_Text]), (1, .isl 3 (a1.map e_TextEdit) false)] _ _
  refine LWp.sim (e := [(2, .ptr (0, 0) 0 0), (4, .ptr (1, 0) 0 0), (6, .str v1.1), (7, .int .i64 v1.2)]) (L := [((0, 0), .one [.str a0.f_Name, .int .i64 a0.f_Version, .str a0.f_Text]), ((1, 0), .one [.str ([] : List UInt8), .int .i64 0, .str ([] : List UInt8)])]) (n := 2) ?_ ?_
  · exact simI (M := [((0, 0), (0, 0)), ((1, 0), (1, 0))]) rfl (And.intro (Vw.ptr _ _ _ _ rfl) (And.intro (Vw.ptr _ _ _ _ rfl) (And.intro (Vw.same _ rfl) (And.intro (Vw.same _ rfl) trivial)))) (And.intro (And.intro rfl (BVw.oneL (And.intro (Vw.same _ rfl) (And.intro (Vw.same _ rfl) (And.intro (Vw.same _ rfl) trivial))))) (And.intro (And.intro rfl (BVw.oneL (And.intro (Vw.same _ rfl) (And.intro (Vw.same _ rfl) (And.intro (Vw.same _ rfl) trivial))))) trivial))
  refine seqI ?_
  refine seqI ?_
  refine regI ?_
  refine And.intro (fun hp => hp) ?_
  show yops _ _ _ [(19, .cnd ((v1.2 == 0) == true) (.int .i64 (v1.1.length : Int))), (18, .cnd ((v1.2 == 0) == true) (.str v1.1)), (17, .bool (v1.2 == 0)), (16, .bool (v1.2 == 0)), (15, .int .i64 v1.2), (2, .ptr (0, 0) 0 0), (4, .ptr (1, 0) 0 0), (6, .str v1.1), (7, .int .i64 v1.2)] _ _
  refine And.intro (fun hp => hp) ?_
  refine And.intro (fun hp => hp) ?_
  refine And.intro (fun hp => hp) ?_
  refine And.intro (fun hp => hp) ?_
  show yops _ _ _ [(24, .cnd (((v1.2 == 0) == true) && ((decide ((v1.1.length : Int) > 2000)) == false)) (.bool (decide (a0.f_Version ≥ 2147483647)))), (23, .cnd (((v1.2 == 0) == true) && ((decide ((v1.1.length : Int) > 2000)) == false)) (.int .i64 a0.f_Version)), (22, .cnd (((v1.2 == 0) == true) && ((decide ((v1.1.length : Int) > 2000)) == false)) (.ptr (0, 0) 0 1)), (21, .cnd ((v1.2 == 0) == true) (.bool (decide ((v1.1.length : Int) > 2000)))), (20, .cnd ((v1.2 == 0) == true) (.bool (decide ((v1.1.length : Int) > 2000)))), (19, .cnd ((v1.2 == 0) == true) (.int .i64 (v1.1.length : Int))), (18, .cnd ((v1.2 == 0) == true) (.str v1.1)), (17, .bool (v1.2 == 0)), (16, .bool (v1.2 == 0)), (15, .int .i64 v1.2), (2, .ptr (0, 0) 0 0), (4, .ptr (1, 0) 0 0), (6, .str v1.1), (7, .int .i64 v1.2)] _ _
  refine And.intro (fun hp => (And.intro hp (fun hc => (and_i hp (bqf hc))))) ?_
  refine And.intro (fun hc => (bqt hc)) ?_
  refine LWp.sim (e := [(2, .ptr (0, 0) 0 0), (4, .ptr (1, 0) 0 0), (6, .str v1.1), (7, .int .i64 v1.2), (26, .bool ((v1.2 == 0) && ((decide ((v1.1.length : Int) > 2000)) || (decide (a0.f_Version ≥ 2147483647)))))]) (L := [((0, 0), .one [.str a0.f_Name, .int .i64 a0.f_Version, .str a0.f_Text]), ((1, 0), .one [.str ([] : List UInt8), .int .i64 0, .str ([] : List UInt8)])]) (n := 2) ?_ ?_
  · exact simI (M := [((0, 0), (0, 0)), ((1, 0), (1, 0))]) rfl (And.intro (Vw.ptr _ _ _ _ rfl) (And.intro (Vw.ptr _ _ _ _ rfl) (And.intro (Vw.same _ rfl) (And.intro (Vw.same _ rfl) (And.intro (Vw.same _ rfl) trivial))))) (And.intro (And.intro rfl (BVw.oneL (And.intro (Vw.same _ rfl) (And.intro (Vw.same _ rfl) (And.intro (Vw.same _ rfl) trivial))))) (And.intro (And.intro rfl (BVw.oneL (And.intro (Vw.same _ rfl) (And.intro (Vw.same _ rfl) (And.intro (Vw.same _ rfl) trivial))))) trivial))
  refine condI (v := ((v1.2 == 0) && ((decide ((v1.1.length : Int) > 2000)) || (decide (a0.f_Version ≥ 2147483647))))) rfl trivial (fun h2 => ?_) (fun h2 => ?_)
  · have h := ite_tt h2 h
    refine regI ?_
    refine LWp.sim ?_ (f7_j1_ok h)
    exact simI (M := [((0, 0), (0, 0)), ((1, 0), (1, 0))]) rfl (And.intro (Vw.ptr _ _ _ _ rfl) (And.intro (Vw.ptr _ _ _ _ rfl) (And.intro (Vw.same _ rfl) (And.intro (Vw.same _ rfl) trivial)))) (And.intro (And.intro rfl (BVw.oneL (And.intro (Vw.same _ rfl) (And.intro (Vw.same _ rfl) (And.intro (Vw.same _ rfl) trivial))))) (And.intro (And.intro rfl (BVw.oneL (And.intro (Vw.same _ rfl) (And.intro (Vw.same _ rfl) (And.intro (Vw.same _ rfl) trivial))))) trivial))
  · have h := ite_ff h2 h
    refine skipI ?_
    refine LWp.sim ?_ (f7_j1_ok h)
    exact simI (M := [((0, 0), (0, 0)), ((1, 0), (1, 0))]) rfl (And.intro (Vw.ptr _ _ _ _ rfl) (And.intro (Vw.ptr _ _ _ _ rfl) (And.intro (Vw.same _ rfl) (And.intro (Vw.same _ rfl) trivial)))) (And.intro (And.intro rfl (BVw.oneL (And.intro (Vw.same _ rfl) (And.intro (Vw.same _ rfl) (And.intro (Vw.same _ rfl) trivial))))) (And.intro (And.intro rfl (BVw.oneL (And.intro (Vw.same _ rfl) (And.intro (Vw.same _ rfl) (And.intro (Vw.same _ rfl) trivial))))) trivial))

theorem f7_ok {a0 : G_QDocument} {a1 : List G_TextEdit} {m : Option Nat} {o : G_QDocument × Int} (h : S_glossatorlaw3_applied m a0 a1 = some o) : PFn Try.prog 7 [.agg [.str a0.f_Name, .int .i64 a0.f_Version, .str a0.f_Text], .isl 3 (a1.map e_TextEdit) false] (.tup [.agg [.str o.1.f_Name, .int .i64 o.1.f_Version, .str o.1.f_Text], .int .i64 o.2]) := PFn.ofFnW (L := f7_L) f7_low f7_fok (Nat.le_of_ble_eq_true rfl) rfl (f7_start h)

def f23_c0 : LCode := (.seq (.region [⟨some 2, .box (.t 0), none⟩,
   ⟨some 4, .alloc [(.str []), (.int .i64 0), (.str [])], none⟩,
   ⟨some 5, .mv (.c (.int .i64 0)), none⟩])
 (.seq (.region [⟨some 9, .faddr 2 (.t 2), none⟩,
   ⟨some 10, .load false 1 (.t 9), none⟩,
   ⟨some 11, .mv (.t 1), none⟩,
   ⟨some 12, .call 22 [(.t 10), (.t 11)], none⟩,
   ⟨some 8, .mv (.t 12), none⟩,
   ⟨some 13, .ext 0 (.t 8), none⟩,
   ⟨some 14, .ext 1 (.t 8), none⟩,
   ⟨some 6, .mv (.t 13), none⟩,
   ⟨some 7, .mv (.t 14), none⟩])
 (.seq (.seq (.region [⟨some 15, .mv (.t 7), none⟩,
   ⟨some 16, .bin .neq (.t 15) (.c (.int .i64 0)), none⟩])
 (.cond (.t 16)
  (.seq (.region [⟨some 17, .build [(.str []), (.int .i64 0), (.str [])] [], none⟩,
    ⟨some 18, .mv (.t 7), none⟩,
    ⟨none, .store 3 (.t 4) (.t 17), none⟩,
    ⟨some 5, .mv (.t 18), none⟩])
  .ret)
  .skip))
 (.seq (.seq (.region [⟨some 19, .mv (.t 6), none⟩,
   ⟨some 20, .len true (.t 19), none⟩,
   ⟨some 21, .bin .gtr (.t 20) (.c (.int .i64 2000)), none⟩,
   ⟨some 22, .mv (.t 21), none⟩,
   ⟨some 23, .faddr 1 (.t 2), some (22, false)⟩,
   ⟨some 24, .load false 1 (.t 23), some (22, false)⟩,
   ⟨some 25, .bin .geq (.t 24) (.c (.int .i64 2147483647)), some (22, false)⟩,
   ⟨some 26, .pick (.t 22) (.c (.bool true)) (.t 25), none⟩])
 (.cond (.t 26)
  (.seq (.region [⟨some 27, .build [(.str []), (.int .i64 0), (.str [])] [], none⟩,
    ⟨none, .store 3 (.t 4) (.t 27), none⟩,
    ⟨some 5, .mv (.c (.int .i64 2)), none⟩])
  .ret)
  .skip))
 (.seq (.region [⟨some 28, .faddr 0 (.t 2), none⟩,
   ⟨some 29, .load false 1 (.t 28), none⟩,
   ⟨some 30, .faddr 1 (.t 2), none⟩,
   ⟨some 31, .load false 1 (.t 30), none⟩,
   ⟨some 32, .bin .add (.t 31) (.c (.int .i64 1)), none⟩,
   ⟨some 33, .mv (.t 6), none⟩,
   ⟨some 34, .build [(.str []), (.int .i64 0), (.str [])] [(0, 1, (.t 29)), (1, 1, (.t 32)), (2, 1, (.t 33))], none⟩,
   ⟨none, .store 3 (.t 4) (.t 34), none⟩,
   ⟨some 5, .mv (.c (.int .i64 0)), none⟩])
 .ret)))))
def f23_lay : Lay := ⟨35, [], false⟩
def f23_res : List LRes := [.cell 4 true 3, .t 5]
def f23_L : LFn := ⟨2, f23_lay, f23_c0, f23_res⟩
theorem f23_low : lowFn Try.prog [] 23 = some f23_L := by kernel_rfl
theorem f23_fok : FnOk Try.prog 23 := ⟨_, Try.func23, rfl, rfl⟩
noncomputable def S_docsync_apply (m : Option Nat) (a0 : G_QDocument) (a1 : List G_TextEdit) : Option (G_QDocument × Int) :=
  (S_textedit_Apply m a0.f_Text a1).bind fun v1 =>
  if (v1.2 != 0) = true then
    some ((G_QDocument.mk ([] : List UInt8) 0 ([] : List UInt8)), v1.2)
  else
    if ((decide ((v1.1.length : Int) > 2000)) || (decide (a0.f_Version ≥ 2147483647))) = true then
      some ((G_QDocument.mk ([] : List UInt8) 0 ([] : List UInt8)), 2)
    else
      some ((G_QDocument.mk a0.f_Name (W (a0.f_Version + 1)) v1.1), 0)

def f23_Q (a0 : G_QDocument) (a1 : List G_TextEdit) (o : G_QDocument × Int) : Exit → Env → AHeap → Nat → Prop := FinK f23_res (PureEnd (.tup [.agg [.str o.1.f_Name, .int .i64 o.1.f_Version, .str o.1.f_Text], .int .i64 o.2]))

theorem f23_start {a0 : G_QDocument} {a1 : List G_TextEdit} {m : Option Nat} {o : G_QDocument × Int} (h : S_docsync_apply m a0 a1 = some o) : LWp Try.prog f23_lay 0 f23_c0 (f23_Q a0 a1 o) (initEnv 0 [.agg [.str a0.f_Name, .int .i64 a0.f_Version, .str a0.f_Text], .isl 3 (a1.map e_TextEdit) false]) [] 0 := by
  unfold S_docsync_apply at h
  refine seqI ?_
  refine regI ?_
  refine seqI ?_
  refine regI ?_
  obtain ⟨v1, h1, h⟩ := bind_some h
  refine PFn.call (f22_ok h1) (And.intro (Vw.same _ rfl) (And.intro (Vw.same _ rfl) trivial)) ?_
  show yops _ _ _ [(12, .tup [.str v1.1, .int .i64 v1.2]), (11, .isl 3 (a1.map e_TextEdit) false), (10, .str a0.f_Text), (9, .ptr (0, 0) 0 2), (5, .int .i64 0), (4, .ptr (1, 0) 0 0), (2, .ptr (0, 0) 0 0), (0, .agg [.str a0.f_Name, .int .i64 a0.f_Version, .str a0.f_Text]), (1, .isl 3 (a1.map e_TextEdit) false)] _ _
  refine LWp.sim (e := [(2, .ptr (0, 0) 0 0), (4, .ptr (1, 0) 0 0), (6, .str v1.1), (7, .int .i64 v1.2)]) (L := [((0, 0), .one [.str a0.f_Name, .int .i64 a0.f_Version, .str a0.f_Text]), ((1, 0), .one [.str ([] : List UInt8), .int .i64 0, .str ([] : List UInt8)])]) (n := 2) ?_ ?_
  · exact simI (M := [((0, 0), (0, 0)), ((1, 0), (1, 0))]) rfl (And.intro (Vw.ptr _ _ _ _ rfl) (And.intro (Vw.ptr _ _ _ _ rfl) (And.intro (Vw.same _ rfl) (And.intro (Vw.same _ rfl) trivial)))) (And.intro (And.intro rfl (BVw.oneL (And.intro (Vw.same _ rfl) (And.intro (Vw.same _ rfl) (And.intro (Vw.same _ rfl) trivial))))) (And.intro (And.intro rfl (BVw.oneL (And.intro (Vw.same _ rfl) (And.intro (Vw.same _ rfl) (And.intro (Vw.same _ rfl) trivial))))) trivial))
  refine seqI ?_
  refine seqI ?_
  refine regI ?_
  refine condI (v := (v1.2 != 0)) rfl trivial (fun h2 => ?_) (fun h2 => ?_)
  · have h := ite_tt h2 h
    refine seqI ?_
    refine regI ?_
    refine retI ?_
    cases h
    exact And.intro (And.intro trivial (And.intro rfl (Nat.le_of_ble_eq_true rfl))) (And.intro trivial (And.intro rfl (Vw.same _ rfl)))
  · have h := ite_ff h2 h
    refine skipI ?_
    refine seqI ?_
    refine seqI ?_
    refine regI ?_
    refine And.intro (fun hp => hp) ?_
    show yops _ _ _ [(24, .cnd ((decide ((v1.1.length : Int) > 2000)) == false) (.int .i64 a0.f_Version)), (23, .cnd ((decide ((v1.1.length : Int) > 2000)) == false) (.ptr (0, 0) 0 1)), (22, .bool (decide ((v1.1.length : Int) > 2000))), (21, .bool (decide ((v1.1.length : Int) > 2000))), (20, .int .i64 (v1.1.length : Int)), (19, .str v1.1), (16, .bool (v1.2 != 0)), (15, .int .i64 v1.2), (2, .ptr (0, 0) 0 0), (4, .ptr (1, 0) 0 0), (6, .str v1.1), (7, .int .i64 v1.2)] _ _
    refine And.intro (fun hp => hp) ?_
    refine And.intro (fun hc => (bqf hc)) ?_
    refine LWp.sim (e := [(2, .ptr (0, 0) 0 0), (4, .ptr (1, 0) 0 0), (6, .str v1.1), (26, .bool ((decide ((v1.1.length : Int) > 2000)) || (decide (a0.f_Version ≥ 2147483647))))]) (L := [((0, 0), .one [.str a0.f_Name, .int .i64 a0.f_Version, .str a0.f_Text]), ((1, 0), .one [.str ([] : List UInt8), .int .i64 0, .str ([] : List UInt8)])]) (n := 2) ?_ ?_
    · exact simI (M := [((0, 0), (0, 0)), ((1, 0), (1, 0))]) rfl (And.intro (Vw.ptr _ _ _ _ rfl) (And.intro (Vw.ptr _ _ _ _ rfl) (And.intro (Vw.same _ rfl) (And.intro (Vw.same _ rfl) trivial)))) (And.intro (And.intro rfl (BVw.oneL (And.intro (Vw.same _ rfl) (And.intro (Vw.same _ rfl) (And.intro (Vw.same _ rfl) trivial))))) (And.intro (And.intro rfl (BVw.oneL (And.intro (Vw.same _ rfl) (And.intro (Vw.same _ rfl) (And.intro (Vw.same _ rfl) trivial))))) trivial))
    refine condI (v := ((decide ((v1.1.length : Int) > 2000)) || (decide (a0.f_Version ≥ 2147483647)))) rfl trivial (fun h3 => ?_) (fun h3 => ?_)
    · have h := ite_tt h3 h
      refine seqI ?_
      refine regI ?_
      refine retI ?_
      cases h
      exact And.intro (And.intro trivial (And.intro rfl (Nat.le_of_ble_eq_true rfl))) (And.intro trivial (And.intro rfl (Vw.same _ rfl)))
    · have h := ite_ff h3 h
      refine skipI ?_
      refine seqI ?_
      refine regI ?_
      refine LWp.sim (e := [(4, .ptr (0, 0) 0 0), (5, .int .i64 0)]) (L := [((0, 0), .one [.str a0.f_Name, .int .i64 (W (a0.f_Version + 1)), .str v1.1])]) (n := 1) ?_ ?_
      · exact simI (M := [((0, 0), (1, 0))]) rfl (And.intro (Vw.ptr _ _ _ _ rfl) (And.intro (Vw.same _ rfl) trivial)) (And.intro (And.intro rfl (BVw.oneL (And.intro (Vw.same _ rfl) (And.intro (Vw.same _ rfl) (And.intro (Vw.same _ rfl) trivial))))) trivial)
      refine retI ?_
      cases h
      exact And.intro (And.intro trivial (And.intro rfl (Nat.le_of_ble_eq_true rfl))) (And.intro trivial (And.intro rfl (Vw.same _ rfl)))

theorem f23_ok {a0 : G_QDocument} {a1 : List G_TextEdit} {m : Option Nat} {o : G_QDocument × Int} (h : S_docsync_apply m a0 a1 = some o) : PFn Try.prog 23 [.agg [.str a0.f_Name, .int .i64 a0.f_Version, .str a0.f_Text], .isl 3 (a1.map e_TextEdit) false] (.tup [.agg [.str o.1.f_Name, .int .i64 o.1.f_Version, .str o.1.f_Text], .int .i64 o.2]) := PFn.ofFnW (L := f23_L) f23_low f23_fok (Nat.le_of_ble_eq_true rfl) rfl (f23_start h)

def f10b0_c1 : LCode := (.seq (.region [⟨some 17, .bin .lss (.t 16) (.t 15), none⟩])
 (.seq (.cond (.t 17)
  .skip
  (.exit 0))
 (.seq (.block 1
  (.seq (.region [⟨some 18, .iaddr 1 (.t 14) (.t 16), none⟩,
    ⟨some 19, .load false 1 (.t 18), none⟩,
    ⟨some 7, .mv (.t 19), none⟩])
  (.seq (.region [⟨some 21, .load true 3 (.t 5), none⟩,
    ⟨some 22, .mv (.t 7), none⟩,
    ⟨some 23, .call 23 [(.t 21), (.t 22)], none⟩,
    ⟨some 20, .mv (.t 23), none⟩,
    ⟨some 24, .ext 0 (.t 20), none⟩,
    ⟨some 25, .ext 1 (.t 20), none⟩,
    ⟨some 8, .alloc [(.str []), (.int .i64 0), (.str [])], none⟩,
    ⟨none, .store 3 (.t 8) (.t 24), none⟩,
    ⟨some 9, .mv (.t 25), none⟩])
  (.seq (.seq (.region [⟨some 26, .mv (.t 9), none⟩,
    ⟨some 27, .bin .neq (.t 26) (.c (.int .i64 0)), none⟩])
  (.cond (.t 27)
   (.seq (.region [⟨some 28, .mv (.t 9), none⟩,
     ⟨some 4, .mv (.t 28), none⟩])
   .ret)
   .skip))
  (.region [⟨some 29, .load true 3 (.t 8), none⟩,
    ⟨none, .store 3 (.t 5) (.t 29), none⟩])))))
 (.region [⟨some 30, .bin .add (.t 16) (.c (.int .i64 1)), none⟩,
   ⟨some 16, .mv (.t 30), none⟩]))))
def f10b0_c0 : LCode := (.seq (.region [⟨some 31, .mv (.t 0), none⟩,
   ⟨some 32, .load true 3 (.t 5), none⟩,
   ⟨some 33, .nilck (.t 31), none⟩,
   ⟨some 34, .faddr 0 (.t 33), none⟩,
   ⟨none, .store 3 (.t 34) (.t 32), none⟩])
 (.seq (.region [⟨some 4, .mv (.c (.int .i64 0)), none⟩])
 .ret))
def f10b0_c2 : LCode := (.seq (.region [⟨some 4, .mv (.c (.int .i64 0)), none⟩])
 (.seq (.region [⟨some 10, .mv (.t 0), none⟩,
   ⟨some 11, .nilck (.t 10), none⟩,
   ⟨some 12, .faddr 0 (.t 11), none⟩,
   ⟨some 13, .load true 3 (.t 12), none⟩,
   ⟨some 5, .alloc [(.str []), (.int .i64 0), (.str [])], none⟩,
   ⟨none, .store 3 (.t 5) (.t 13), none⟩])
 (.seq (.seq (.region [⟨some 14, .mv (.t 1), none⟩,
   ⟨some 15, .len false (.t 14), none⟩,
   ⟨some 16, .mv (.c (.int .i64 0)), none⟩])
 (.block 0
  (.loop
   f10b0_c1)))
 f10b0_c0)))
def f10b0_lay : Lay := ⟨35, [], false⟩
def f10b0_res : List LRes := [.t 4]
def f10b0_L : LFn := ⟨2, f10b0_lay, f10b0_c2, f10b0_res⟩
theorem f10b0_low : lowFn Try.prog [] 10 = some f10b0_L := by kernel_rfl
theorem f10b0_fok : FnOk Try.prog 10 := ⟨_, Try.func10, rfl, rfl⟩
def f10b0_Q (a0 : List (List G_TextEdit)) (a1 : List UInt8) (a2 : Int) (a3 : List UInt8) (o : Int × (List UInt8) × Int × (List UInt8)) : Exit → Env → AHeap → Nat → Prop := FinK f10b0_res (FinTo 3 3 (.int .i64 o.1) [((0, 0), .one [.str o.2.1, .int .i64 o.2.2.1, .str o.2.2.2])])

def f10b0_L1_env (a0 : List (List G_TextEdit)) (a1 : List UInt8) (a2 : Int) (a3 : List UInt8) (s : (Int × (List UInt8) × Int × (List UInt8))) : Env := [(0, .ptr (0, 0) 0 0), (5, .ptr (3, 0) 0 0), (14, .isl 1 (a0.map e_sl_TextEdit) false), (15, .int .i64 ((a0.map e_sl_TextEdit).length : Int)), (16, .int .i64 s.1)]
def f10b0_L1_hp (a0 : List (List G_TextEdit)) (a1 : List UInt8) (a2 : Int) (a3 : List UInt8) (s : (Int × (List UInt8) × Int × (List UInt8))) : AHeap := [((0, 0), .one [.str a1, .int .i64 a2, .str a3]), ((3, 0), .one [.str s.2.1, .int .i64 s.2.2.1, .str s.2.2.2])]
def f10b0_L1_Q (a0 : List (List G_TextEdit)) (a1 : List UInt8) (a2 : Int) (a3 : List UInt8) (o : (Int × (List UInt8) × Int × (List UInt8))) : Exit → Env → AHeap → Nat → Prop := (QBlock 0 (QSeq Try.prog f10b0_lay 3 f10b0_c0 (f10b0_Q a0 a1 a2 a3 o)))

noncomputable def S_docsync_Replica_CatchUp_j1 (m : Option Nat) (a1 : List UInt8) (a2 : Int) (a3 : List UInt8) (v3 : List UInt8) (v4 : Int) (v5 : List UInt8) : Option (Int × (List UInt8) × Int × (List UInt8)) :=
  some (0, v3, v4, v5)

noncomputable def S_docsync_Replica_CatchUp_b1 (m : Option Nat) (a0 : List (List G_TextEdit)) (a1 : List UInt8) (a2 : Int) (a3 : List UInt8) (v2 : Int) (v3 : List UInt8) (v4 : Int) (v5 : List UInt8) : Option ((Int × (List UInt8) × Int × (List UInt8)) ⊕ (Int × (List UInt8) × Int × (List UInt8))) :=
  if (decide (v2 < ((a0.map e_sl_TextEdit).length : Int))) = true then
    if (0 : Int) ≤ v2 ∧ v2 < ((a0.map e_sl_TextEdit).length : Int) then
    (S_docsync_apply m (G_QDocument.mk v3 v4 v5) (a0.getD v2.toNat default)).bind fun v7 =>
    if (v7.2 != 0) = true then
      Option.map Sum.inr (
        some (v7.2, a1, a2, a3))
    else
      some (.inl ((W (v2 + 1)), v7.1.f_Name, v7.1.f_Version, v7.1.f_Text))
    else none
  else
    Option.map Sum.inr (
      S_docsync_Replica_CatchUp_j1 m a1 a2 a3 v3 v4 v5)

noncomputable def S_docsync_Replica_CatchUp_l1 (m : Option Nat) (a0 : List (List G_TextEdit)) (a1 : List UInt8) (a2 : Int) (a3 : List UInt8) (v2 : Int) (v3 : List UInt8) (v4 : Int) (v5 : List UInt8) : Option (Int × (List UInt8) × Int × (List UInt8)) := loopM m (fun (s : (Int × (List UInt8) × Int × (List UInt8))) => S_docsync_Replica_CatchUp_b1 m a0 a1 a2 a3 s.1 s.2.1 s.2.2.1 s.2.2.2) (v2, v3, v4, v5)

theorem f10b0_j1_ok {a0 : List (List G_TextEdit)} {a1 : List UInt8} {a2 : Int} {a3 : List UInt8} {v3 : List UInt8} {v4 : Int} {v5 : List UInt8} {m : Option Nat} {o : (Int × (List UInt8) × Int × (List UInt8))} (h : S_docsync_Replica_CatchUp_j1 m a1 a2 a3 v3 v4 v5 = some o) :
    LWp Try.prog f10b0_lay 3 f10b0_c0 (f10b0_Q a0 a1 a2 a3 o) [(0, .ptr (0, 0) 0 0), (5, .ptr (3, 0) 0 0)] [((0, 0), .one [.str a1, .int .i64 a2, .str a3]), ((3, 0), .one [.str v3, .int .i64 v4, .str v5])] 4 := by
  unfold S_docsync_Replica_CatchUp_j1 at h
  refine seqI ?_
  refine regI ?_
  refine seqI ?_
  refine regI ?_
  refine retI ?_
  cases h
  exact And.intro trivial (finI (n' := 4) [] [] rfl rfl (Vw.same _ rfl) (And.intro (And.intro rfl (BVw.oneL (And.intro (Vw.same _ rfl) (And.intro (Vw.same _ rfl) (And.intro (Vw.same _ rfl) trivial))))) trivial))

theorem f10b0_L1_bok {a0 : List (List G_TextEdit)} {a1 : List UInt8} {a2 : Int} {a3 : List UInt8} {v2 : Int} {v3 : List UInt8} {v4 : Int} {v5 : List UInt8} {m : Option Nat} {o : (Int × (List UInt8) × Int × (List UInt8)) ⊕ (Int × (List UInt8) × Int × (List UInt8))} (h : S_docsync_Replica_CatchUp_b1 m a0 a1 a2 a3 v2 v3 v4 v5 = some o) :
    LWp Try.prog f10b0_lay 3 f10b0_c1 (BodyQ 3 4 (f10b0_L1_env a0 a1 a2 a3) (f10b0_L1_hp a0 a1 a2 a3) (f10b0_L1_Q a0 a1 a2 a3) o) [(0, .ptr (0, 0) 0 0), (5, .ptr (3, 0) 0 0), (14, .isl 1 (a0.map e_sl_TextEdit) false), (15, .int .i64 ((a0.map e_sl_TextEdit).length : Int)), (16, .int .i64 v2)] [((0, 0), .one [.str a1, .int .i64 a2, .str a3]), ((3, 0), .one [.str v3, .int .i64 v4, .str v5])] 4 := by
  unfold S_docsync_Replica_CatchUp_b1 at h
  refine seqI ?_
  refine regI ?_
  refine seqI ?_
  refine condI (v := (decide (v2 < ((a0.map e_sl_TextEdit).length : Int)))) rfl trivial (fun h9 => ?_) (fun h9 => ?_)
  · have h := ite_tt h9 h
    refine skipI ?_
    refine seqI ?_
    refine blockI ?_
    refine seqI ?_
    refine regI ?_
    obtain ⟨h10, h⟩ := ite_some h
    refine And.intro h10 ?_
    refine Exists.intro (e_sl_TextEdit (a0.getD v2.toNat default)) (And.intro (getD_enc e_sl_TextEdit _ _ (idx_ltL e_sl_TextEdit h10)) (And.intro (And.intro (idx_lt h10) (Nat.le_of_ble_eq_true rfl)) ?_))
    refine seqI ?_
    refine regI ?_
    obtain ⟨v7, h11, h⟩ := bind_some h
    refine PFn.call (f23_ok h11) (And.intro (Vw.same _ rfl) (And.intro (Vw.same _ rfl) trivial)) ?_
    show yops _ _ _ [(23, .tup [.agg [.str v7.1.f_Name, .int .i64 v7.1.f_Version, .str v7.1.f_Text], .int .i64 v7.2]), (22, .isl 3 ((a0.getD v2.toNat default).map e_TextEdit) false), (21, .agg [.str v3, .int .i64 v4, .str v5]), (7, .isl 3 ((a0.getD v2.toNat default).map e_TextEdit) false), (19, .isl 3 ((a0.getD v2.toNat default).map e_TextEdit) false), (18, .iptr 1 (a0.map e_sl_TextEdit) v2.toNat 0), (17, .bool (decide (v2 < ((a0.map e_sl_TextEdit).length : Int)))), (0, .ptr (0, 0) 0 0), (5, .ptr (3, 0) 0 0), (14, .isl 1 (a0.map e_sl_TextEdit) false), (15, .int .i64 ((a0.map e_sl_TextEdit).length : Int)), (16, .int .i64 v2)] _ _
    refine LWp.sim (e := [(0, .ptr (0, 0) 0 0), (5, .ptr (3, 0) 0 0), (8, .ptr (4, 0) 0 0), (9, .int .i64 v7.2), (14, .isl 1 (a0.map e_sl_TextEdit) false), (15, .int .i64 ((a0.map e_sl_TextEdit).length : Int)), (16, .int .i64 v2)]) (L := [((0, 0), .one [.str a1, .int .i64 a2, .str a3]), ((3, 0), .one [.str v3, .int .i64 v4, .str v5]), ((4, 0), .one [.str v7.1.f_Name, .int .i64 v7.1.f_Version, .str v7.1.f_Text])]) (n := 5) ?_ ?_
    · exact simI (M := [((3, 0), (3, 0)), ((4, 0), (4, 0))]) rfl (And.intro (Vw.ptr _ _ _ _ rfl) (And.intro (Vw.ptr _ _ _ _ rfl) (And.intro (Vw.ptr _ _ _ _ rfl) (And.intro (Vw.same _ rfl) (And.intro (Vw.same _ rfl) (And.intro (Vw.same _ rfl) (And.intro (Vw.same _ rfl) trivial))))))) (And.intro (And.intro rfl (BVw.oneL (And.intro (Vw.same _ rfl) (And.intro (Vw.same _ rfl) (And.intro (Vw.same _ rfl) trivial))))) (And.intro (And.intro rfl (BVw.oneL (And.intro (Vw.same _ rfl) (And.intro (Vw.same _ rfl) (And.intro (Vw.same _ rfl) trivial))))) (And.intro (And.intro rfl (BVw.oneL (And.intro (Vw.same _ rfl) (And.intro (Vw.same _ rfl) (And.intro (Vw.same _ rfl) trivial))))) trivial)))
    refine seqI ?_
    refine seqI ?_
    refine regI ?_
    refine condI (v := (v7.2 != 0)) rfl trivial (fun h12 => ?_) (fun h12 => ?_)
    · have h := ite_tt h12 h
      refine seqI ?_
      refine regI ?_
      refine retI ?_
      obtain ⟨o, hq, rfl⟩ := Option.map_eq_some_iff.1 h
      replace h := hq; clear hq
      refine And.intro nofun ?_
      cases h
      exact And.intro trivial (finI (n' := 5) [] [] rfl rfl (Vw.same _ rfl) (And.intro (And.intro rfl (BVw.oneL (And.intro (Vw.same _ rfl) (And.intro (Vw.same _ rfl) (And.intro (Vw.same _ rfl) trivial))))) trivial))
    · have h := ite_ff h12 h
      refine skipI ?_
      refine regI ?_
      refine regI ?_
      cases h
      exact And.intro rfl (simI (M := [((3, 0), (3, 0))]) rfl (And.intro (Vw.ptr _ _ _ _ rfl) (And.intro (Vw.ptr _ _ _ _ rfl) (And.intro (Vw.same _ rfl) (And.intro (Vw.same _ rfl) (And.intro (Vw.same _ rfl) trivial))))) (And.intro (And.intro rfl (BVw.oneL (And.intro (Vw.same _ rfl) (And.intro (Vw.same _ rfl) (And.intro (Vw.same _ rfl) trivial))))) (And.intro (And.intro rfl (BVw.oneL (And.intro (Vw.same _ rfl) (And.intro (Vw.same _ rfl) (And.intro (Vw.same _ rfl) trivial))))) trivial)))
  · have h := ite_ff h9 h
    refine exitI ?_
    obtain ⟨o, hq, rfl⟩ := Option.map_eq_some_iff.1 h
    replace h := hq; clear hq
    refine And.intro nofun ?_
    refine LWp.sim ?_ (f10b0_j1_ok h)
    exact simI (M := [((3, 0), (3, 0))]) rfl (And.intro (Vw.ptr _ _ _ _ rfl) (And.intro (Vw.ptr _ _ _ _ rfl) trivial)) (And.intro (And.intro rfl (BVw.oneL (And.intro (Vw.same _ rfl) (And.intro (Vw.same _ rfl) (And.intro (Vw.same _ rfl) trivial))))) (And.intro (And.intro rfl (BVw.oneL (And.intro (Vw.same _ rfl) (And.intro (Vw.same _ rfl) (And.intro (Vw.same _ rfl) trivial))))) trivial))

theorem f10b0_L1_ok {a0 : List (List G_TextEdit)} {a1 : List UInt8} {a2 : Int} {a3 : List UInt8} {v2 : Int} {v3 : List UInt8} {v4 : Int} {v5 : List UInt8} {m : Option Nat} {o : (Int × (List UInt8) × Int × (List UInt8))} (h : S_docsync_Replica_CatchUp_l1 m a0 a1 a2 a3 v2 v3 v4 v5 = some o) :
    LWp Try.prog f10b0_lay 3 (.loop f10b0_c1) (QBlock 0 (QSeq Try.prog f10b0_lay 3 f10b0_c0 (f10b0_Q a0 a1 a2 a3 o))) [(0, .ptr (0, 0) 0 0), (5, .ptr (3, 0) 0 0), (14, .isl 1 (a0.map e_sl_TextEdit) false), (15, .int .i64 ((a0.map e_sl_TextEdit).length : Int)), (16, .int .i64 v2)] [((0, 0), .one [.str a1, .int .i64 a2, .str a3]), ((3, 0), .one [.str v3, .int .i64 v4, .str v5])] 4 :=
  LWp_loopM (m := m) (s := ((v2, v3, v4, v5) : (Int × (List UInt8) × Int × (List UInt8)))) (r := o) (fun (s : (Int × (List UInt8) × Int × (List UInt8))) => S_docsync_Replica_CatchUp_b1 m a0 a1 a2 a3 s.1 s.2.1 s.2.2.1 s.2.2.2) (f10b0_L1_env a0 a1 a2 a3) (f10b0_L1_hp a0 a1 a2 a3) (f10b0_L1_Q a0 a1 a2 a3) (fun s o h => f10b0_L1_bok h) h

noncomputable def S_docsync_Replica_CatchUp (m : Option Nat) (a0 : List (List G_TextEdit)) (a1 : List UInt8) (a2 : Int) (a3 : List UInt8) : Option (Int × (List UInt8) × Int × (List UInt8)) :=
  S_docsync_Replica_CatchUp_l1 m a0 a1 a2 a3 0 a1 a2 a3

theorem f10b0_start {a0 : List (List G_TextEdit)} {a1 : List UInt8} {a2 : Int} {a3 : List UInt8} {m : Option Nat} {o : Int × (List UInt8) × Int × (List UInt8)} (h : S_docsync_Replica_CatchUp m a0 a1 a2 a3 = some o) : LWp Try.prog f10b0_lay 3 f10b0_c2 (f10b0_Q a0 a1 a2 a3 o) (initEnv 0 [.ptr (0, 0) 0 0, .isl 1 (a0.map e_sl_TextEdit) false]) [((0, 0), .one [.str a1, .int .i64 a2, .str a3])] 3 := by
  unfold S_docsync_Replica_CatchUp at h
  refine seqI ?_
  refine regI ?_
  refine seqI ?_
  refine regI ?_
  refine seqI ?_
  refine seqI ?_
  refine regI ?_
  refine LWp.sim (e := [(0, .ptr (0, 0) 0 0), (5, .ptr (3, 0) 0 0), (14, .isl 1 (a0.map e_sl_TextEdit) false), (15, .int .i64 ((a0.map e_sl_TextEdit).length : Int)), (16, .int .i64 0)]) (L := [((0, 0), .one [.str a1, .int .i64 a2, .str a3]), ((3, 0), .one [.str a1, .int .i64 a2, .str a3])]) (n := 4) ?_ ?_
  · exact simI (M := [((3, 0), (3, 0))]) rfl (And.intro (Vw.ptr _ _ _ _ rfl) (And.intro (Vw.ptr _ _ _ _ rfl) (And.intro (Vw.same _ rfl) (And.intro (Vw.same _ rfl) (And.intro (Vw.same _ rfl) trivial))))) (And.intro (And.intro rfl (BVw.oneL (And.intro (Vw.same _ rfl) (And.intro (Vw.same _ rfl) (And.intro (Vw.same _ rfl) trivial))))) (And.intro (And.intro rfl (BVw.oneL (And.intro (Vw.same _ rfl) (And.intro (Vw.same _ rfl) (And.intro (Vw.same _ rfl) trivial))))) trivial))
  refine blockI ?_
  refine LWp.sim ?_ (f10b0_L1_ok h)
  exact simI (M := [((3, 0), (3, 0))]) rfl (And.intro (Vw.ptr _ _ _ _ rfl) (And.intro (Vw.ptr _ _ _ _ rfl) (And.intro (Vw.same _ rfl) (And.intro (Vw.same _ rfl) (And.intro (Vw.same _ rfl) trivial))))) (And.intro (And.intro rfl (BVw.oneL (And.intro (Vw.same _ rfl) (And.intro (Vw.same _ rfl) (And.intro (Vw.same _ rfl) trivial))))) (And.intro (And.intro rfl (BVw.oneL (And.intro (Vw.same _ rfl) (And.intro (Vw.same _ rfl) (And.intro (Vw.same _ rfl) trivial))))) trivial))

theorem f10b0_ok {a0 : List (List G_TextEdit)} {a1 : List UInt8} {a2 : Int} {a3 : List UInt8} {m : Option Nat} {o : Int × (List UInt8) × Int × (List UInt8)} (h : S_docsync_Replica_CatchUp m a0 a1 a2 a3 = some o) : ACalls Try.prog 10 [.ptr (0, 0) 0 0, .isl 1 (a0.map e_sl_TextEdit) false] [((0, 0), .one [.str a1, .int .i64 a2, .str a3])] 3 (Gives 3 (.int .i64 o.1) [((0, 0), .one [.str o.2.1, .int .i64 o.2.2.1, .str o.2.2.2])]) := bfn_of (L := f10b0_L) f10b0_low f10b0_fok (Nat.le_of_ble_eq_true rfl) (f10b0_start h)

def f8b0_c0 : LCode := (.seq (.region [⟨some 3, .box (.t 1), none⟩,
   ⟨some 4, .mv (.c (.int .i64 0)), none⟩])
 (.seq (.block 0
  (.seq (.quiet [⟨some 6, .faddr 2 (.t 3), none⟩,
    ⟨some 7, .load false 1 (.t 6), none⟩,
    ⟨some 8, .mv (.t 0), none⟩,
    ⟨some 9, .nilck (.t 8), none⟩,
    ⟨some 10, .faddr 0 (.t 9), none⟩,
    ⟨some 11, .faddr 0 (.t 10), none⟩,
    ⟨some 12, .load false 1 (.t 11), none⟩,
    ⟨some 13, .bin .neq (.t 7) (.t 12), none⟩,
    ⟨some 5, .mv (.t 13), none⟩])
  (.cond (.t 5)
   (.seq (.region [⟨some 4, .mv (.c (.int .i64 5)), none⟩])
   .ret)
   (.seq (.quiet [⟨some 15, .faddr 3 (.t 3), none⟩,
     ⟨some 16, .load false 1 (.t 15), none⟩,
     ⟨some 17, .bin .eql (.t 16) (.c (.int .i64 (-9223372036854775808))), none⟩,
     ⟨some 18, .mv (.t 17), none⟩,
     ⟨some 19, .faddr 3 (.t 3), some (18, false)⟩,
     ⟨some 20, .load false 1 (.t 19), some (18, false)⟩,
     ⟨some 21, .bin .sub (.t 20) (.c (.int .i64 1)), some (18, false)⟩,
     ⟨some 22, .mv (.t 0), some (18, false)⟩,
     ⟨some 23, .nilck (.t 22), some (18, false)⟩,
     ⟨some 24, .faddr 0 (.t 23), some (18, false)⟩,
     ⟨some 25, .faddr 1 (.t 24), some (18, false)⟩,
     ⟨some 26, .load false 1 (.t 25), some (18, false)⟩,
     ⟨some 27, .bin .neq (.t 21) (.t 26), some (18, false)⟩,
     ⟨some 28, .pick (.t 18) (.c (.bool true)) (.t 27), none⟩,
     ⟨some 14, .mv (.t 28), none⟩])
   (.cond (.t 14)
    (.seq (.region [⟨some 4, .mv (.c (.int .i64 11)), none⟩])
    .ret)
    .skip)))))
 (.seq (.region [⟨some 29, .mv (.t 0), none⟩,
   ⟨some 30, .faddr 4 (.t 3), none⟩,
   ⟨some 31, .load false 1 (.t 30), none⟩,
   ⟨some 32, .mkSl true 1 [(.isl 3 [] true)] 1 [(0, (.t 31))], none⟩,
   ⟨some 33, .call 10 [(.t 29), (.t 32)], none⟩,
   ⟨some 4, .mv (.t 33), none⟩])
 .ret)))
def f8b0_lay : Lay := ⟨34, [], false⟩
def f8b0_res : List LRes := [.t 4]
def f8b0_L : LFn := ⟨2, f8b0_lay, f8b0_c0, f8b0_res⟩
theorem f8b0_low : lowFn Try.prog [] 8 = some f8b0_L := by kernel_rfl
theorem f8b0_fok : FnOk Try.prog 8 := ⟨_, Try.func8, rfl, rfl⟩
noncomputable def S_docsync_Replica_Apply (m : Option Nat) (a0 : G_QUpdate) (a1 : List UInt8) (a2 : Int) (a3 : List UInt8) : Option (Int × (List UInt8) × Int × (List UInt8)) :=
  if (!(a0.f_Name == a1)) = true then
    some (5, a1, a2, a3)
  else
    if ((a0.f_Version == (-9223372036854775808)) || ((W (a0.f_Version - 1)) != a2)) = true then
      some (11, a1, a2, a3)
    else
      (S_docsync_Replica_CatchUp m ([a0.f_Edits] : List (List G_TextEdit)) a1 a2 a3).bind fun v1 =>
      some (v1.1, v1.2.1, v1.2.2.1, v1.2.2.2)

def f8b0_Q (a0 : G_QUpdate) (a1 : List UInt8) (a2 : Int) (a3 : List UInt8) (o : Int × (List UInt8) × Int × (List UInt8)) : Exit → Env → AHeap → Nat → Prop := FinK f8b0_res (FinTo 3 3 (.int .i64 o.1) [((0, 0), .one [.str o.2.1, .int .i64 o.2.2.1, .str o.2.2.2])])

theorem f8b0_start {a0 : G_QUpdate} {a1 : List UInt8} {a2 : Int} {a3 : List UInt8} {m : Option Nat} {o : Int × (List UInt8) × Int × (List UInt8)} (h : S_docsync_Replica_Apply m a0 a1 a2 a3 = some o) : LWp Try.prog f8b0_lay 3 f8b0_c0 (f8b0_Q a0 a1 a2 a3 o) (initEnv 0 [.ptr (0, 0) 0 0, .agg [.int .i64 a0.f_To, .int .i64 a0.f_From, .str a0.f_Name, .int .i64 a0.f_Version, .isl 3 (a0.f_Edits.map e_TextEdit) false]]) [((0, 0), .one [.str a1, .int .i64 a2, .str a3])] 3 := by
  unfold S_docsync_Replica_Apply at h
  refine seqI ?_
  refine regI ?_
  refine seqI ?_
  refine blockI ?_
  refine seqI ?_
  refine quietI ?_
  refine LWp.sim (e := [(0, .ptr (0, 0) 0 0), (3, .ptr (3, 0) 0 0), (5, .bool (!(a0.f_Name == a1)))]) (L := [((0, 0), .one [.str a1, .int .i64 a2, .str a3]), ((3, 0), .one [.int .i64 a0.f_To, .int .i64 a0.f_From, .str a0.f_Name, .int .i64 a0.f_Version, .isl 3 (a0.f_Edits.map e_TextEdit) false])]) (n := 4) ?_ ?_
  · exact simI (M := [((3, 0), (3, 0))]) rfl (And.intro (Vw.ptr _ _ _ _ rfl) (And.intro (Vw.ptr _ _ _ _ rfl) (And.intro (Vw.same _ rfl) trivial))) (And.intro (And.intro rfl (BVw.oneL (And.intro (Vw.same _ rfl) (And.intro (Vw.same _ rfl) (And.intro (Vw.same _ rfl) trivial))))) (And.intro (And.intro rfl (BVw.oneL (And.intro (Vw.same _ rfl) (And.intro (Vw.same _ rfl) (And.intro (Vw.same _ rfl) (And.intro (Vw.same _ rfl) (And.intro (Vw.same _ rfl) trivial))))))) trivial))
  refine condI (v := (!(a0.f_Name == a1))) rfl trivial (fun h1 => ?_) (fun h1 => ?_)
  · have h := ite_tt h1 h
    refine seqI ?_
    refine regI ?_
    refine retI ?_
    cases h
    exact And.intro trivial (finI (n' := 4) [] [] rfl rfl (Vw.same _ rfl) (And.intro (And.intro rfl (BVw.oneL (And.intro (Vw.same _ rfl) (And.intro (Vw.same _ rfl) (And.intro (Vw.same _ rfl) trivial))))) trivial))
  · have h := ite_ff h1 h
    refine seqI ?_
    refine quietI ?_
    refine And.intro (fun hp => hp) ?_
    show yqs _ _ [(20, .cnd ((a0.f_Version == (-9223372036854775808)) == false) (.int .i64 a0.f_Version)), (19, .cnd ((a0.f_Version == (-9223372036854775808)) == false) (.ptr (3, 0) 0 3)), (18, .bool (a0.f_Version == (-9223372036854775808))), (17, .bool (a0.f_Version == (-9223372036854775808))), (16, .int .i64 a0.f_Version), (15, .ptr (3, 0) 0 3), (0, .ptr (0, 0) 0 0), (3, .ptr (3, 0) 0 0), (5, .bool (!(a0.f_Name == a1)))] _ _
    refine And.intro (fun hp => hp) ?_
    refine And.intro (fun hp => hp) ?_
    refine And.intro (fun hp => hp) ?_
    refine And.intro (fun hp => hp) ?_
    show yqs _ _ [(25, .cnd ((a0.f_Version == (-9223372036854775808)) == false) (.ptr (0, 0) 0 1)), (24, .cnd ((a0.f_Version == (-9223372036854775808)) == false) (.ptr (0, 0) 0 0)), (23, .cnd ((a0.f_Version == (-9223372036854775808)) == false) (.ptr (0, 0) 0 0)), (22, .cnd ((a0.f_Version == (-9223372036854775808)) == false) (.ptr (0, 0) 0 0)), (21, .cnd ((a0.f_Version == (-9223372036854775808)) == false) (.int .i64 (W (a0.f_Version - 1)))), (20, .cnd ((a0.f_Version == (-9223372036854775808)) == false) (.int .i64 a0.f_Version)), (19, .cnd ((a0.f_Version == (-9223372036854775808)) == false) (.ptr (3, 0) 0 3)), (18, .bool (a0.f_Version == (-9223372036854775808))), (17, .bool (a0.f_Version == (-9223372036854775808))), (16, .int .i64 a0.f_Version), (15, .ptr (3, 0) 0 3), (0, .ptr (0, 0) 0 0), (3, .ptr (3, 0) 0 0), (5, .bool (!(a0.f_Name == a1)))] _ _
    refine And.intro (fun hp => hp) ?_
    refine And.intro (fun hp => (And.intro hp hp)) ?_
    refine And.intro (fun hc => (bqf hc)) ?_
    refine LWp.sim (e := [(0, .ptr (0, 0) 0 0), (3, .ptr (3, 0) 0 0), (14, .bool ((a0.f_Version == (-9223372036854775808)) || ((W (a0.f_Version - 1)) != a2)))]) (L := [((0, 0), .one [.str a1, .int .i64 a2, .str a3]), ((3, 0), .one [.int .i64 a0.f_To, .int .i64 a0.f_From, .str a0.f_Name, .int .i64 a0.f_Version, .isl 3 (a0.f_Edits.map e_TextEdit) false])]) (n := 4) ?_ ?_
    · exact simI (M := [((3, 0), (3, 0))]) rfl (And.intro (Vw.ptr _ _ _ _ rfl) (And.intro (Vw.ptr _ _ _ _ rfl) (And.intro (Vw.same _ rfl) trivial))) (And.intro (And.intro rfl (BVw.oneL (And.intro (Vw.same _ rfl) (And.intro (Vw.same _ rfl) (And.intro (Vw.same _ rfl) trivial))))) (And.intro (And.intro rfl (BVw.oneL (And.intro (Vw.same _ rfl) (And.intro (Vw.same _ rfl) (And.intro (Vw.same _ rfl) (And.intro (Vw.same _ rfl) (And.intro (Vw.same _ rfl) trivial))))))) trivial))
    refine condI (v := ((a0.f_Version == (-9223372036854775808)) || ((W (a0.f_Version - 1)) != a2))) rfl trivial (fun h2 => ?_) (fun h2 => ?_)
    · have h := ite_tt h2 h
      refine seqI ?_
      refine regI ?_
      refine retI ?_
      cases h
      exact And.intro trivial (finI (n' := 4) [] [] rfl rfl (Vw.same _ rfl) (And.intro (And.intro rfl (BVw.oneL (And.intro (Vw.same _ rfl) (And.intro (Vw.same _ rfl) (And.intro (Vw.same _ rfl) trivial))))) trivial))
    · have h := ite_ff h2 h
      refine skipI ?_
      refine seqI ?_
      refine regI ?_
      obtain ⟨v1, h3, h⟩ := bind_some h
      refine bcall (k := 3) (m := 0) (L' := [((0, 0), .one [.str v1.2.1, .int .i64 v1.2.2.1, .str v1.2.2.2])]) (rest := [((3, 0), .one [.int .i64 a0.f_To, .int .i64 a0.f_From, .str a0.f_Name, .int .i64 a0.f_Version, .isl 3 (a0.f_Edits.map e_TextEdit) false])]) (R' := .int .i64 v1.1) [((0, 0), (0, 0))] (f10b0_ok h3) rfl rfl rfl (And.intro (Vw.ptr _ _ _ _ rfl) (And.intro (Vw.islF _ _ _) trivial)) (And.intro (h0I (0, 0) rfl rfl (BVw.oneL (And.intro (Vw.same _ rfl) (And.intro (Vw.same _ rfl) (And.intro (Vw.same _ rfl) trivial))))) trivial) (nid_ren _ rfl) (And.intro rfl (And.intro rfl trivial)) rfl ?_
      show yops _ _ _ [(33, .int .i64 v1.1), (32, .isl 1 (([a0.f_Edits] : List (List G_TextEdit)).map e_sl_TextEdit) true), (31, .isl 3 (a0.f_Edits.map e_TextEdit) false), (30, .ptr (3, 0) 0 4), (29, .ptr (0, 0) 0 0), (0, .ptr (0, 0) 0 0), (3, .ptr (3, 0) 0 0), (14, .bool ((a0.f_Version == (-9223372036854775808)) || ((W (a0.f_Version - 1)) != a2)))] _ _
      refine retI ?_
      cases h
      exact And.intro trivial (finI (n' := 5) [] [] rfl rfl (Vw.same _ rfl) (And.intro (And.intro rfl (BVw.oneL (And.intro (Vw.same _ rfl) (And.intro (Vw.same _ rfl) (And.intro (Vw.same _ rfl) trivial))))) trivial))

theorem f8b0_ok {a0 : G_QUpdate} {a1 : List UInt8} {a2 : Int} {a3 : List UInt8} {m : Option Nat} {o : Int × (List UInt8) × Int × (List UInt8)} (h : S_docsync_Replica_Apply m a0 a1 a2 a3 = some o) : ACalls Try.prog 8 [.ptr (0, 0) 0 0, .agg [.int .i64 a0.f_To, .int .i64 a0.f_From, .str a0.f_Name, .int .i64 a0.f_Version, .isl 3 (a0.f_Edits.map e_TextEdit) false]] [((0, 0), .one [.str a1, .int .i64 a2, .str a3])] 3 (Gives 3 (.int .i64 o.1) [((0, 0), .one [.str o.2.1, .int .i64 o.2.2.1, .str o.2.2.2])]) := bfn_of (L := f8b0_L) f8b0_low f8b0_fok (Nat.le_of_ble_eq_true rfl) (f8b0_start h)

def f9b0_c0 : LCode := (.seq (.region [⟨some 2, .alloc [(.str []), (.int .i64 0), (.str [])], none⟩])
 (.seq (.region [⟨some 3, .mv (.t 0), none⟩,
   ⟨some 4, .nilck (.t 3), none⟩,
   ⟨some 5, .faddr 0 (.t 4), none⟩,
   ⟨some 6, .load true 3 (.t 5), none⟩,
   ⟨none, .store 3 (.t 2) (.t 6), none⟩])
 .ret))
def f9b0_lay : Lay := ⟨7, [], false⟩
def f9b0_res : List LRes := [.cell 2 true 3]
def f9b0_L : LFn := ⟨1, f9b0_lay, f9b0_c0, f9b0_res⟩
theorem f9b0_low : lowFn Try.prog [] 9 = some f9b0_L := by kernel_rfl
theorem f9b0_fok : FnOk Try.prog 9 := ⟨_, Try.func9, rfl, rfl⟩
noncomputable def S_docsync_Replica_Document (m : Option Nat) (a0 : List UInt8) (a1 : Int) (a2 : List UInt8) : Option G_QDocument :=
  some (G_QDocument.mk a0 a1 a2)

def f9b0_Q (a0 : List UInt8) (a1 : Int) (a2 : List UInt8) (o : G_QDocument) : Exit → Env → AHeap → Nat → Prop := FinK f9b0_res (FinTo 3 3 (.agg [.str o.f_Name, .int .i64 o.f_Version, .str o.f_Text]) [((0, 0), .one [.str a0, .int .i64 a1, .str a2])])

theorem f9b0_start {a0 : List UInt8} {a1 : Int} {a2 : List UInt8} {m : Option Nat} {o : G_QDocument} (h : S_docsync_Replica_Document m a0 a1 a2 = some o) : LWp Try.prog f9b0_lay 3 f9b0_c0 (f9b0_Q a0 a1 a2 o) (initEnv 0 [.ptr (0, 0) 0 0]) [((0, 0), .one [.str a0, .int .i64 a1, .str a2])] 3 := by
  unfold S_docsync_Replica_Document at h
  refine seqI ?_
  refine regI ?_
  refine seqI ?_
  refine regI ?_
  refine retI ?_
  cases h
  exact And.intro (And.intro trivial (And.intro rfl (Nat.le_of_ble_eq_true rfl))) (finI (n' := 4) [] [] rfl rfl (Vw.same _ rfl) (And.intro (And.intro rfl (BVw.oneL (And.intro (Vw.same _ rfl) (And.intro (Vw.same _ rfl) (And.intro (Vw.same _ rfl) trivial))))) trivial))

theorem f9b0_ok {a0 : List UInt8} {a1 : Int} {a2 : List UInt8} {m : Option Nat} {o : G_QDocument} (h : S_docsync_Replica_Document m a0 a1 a2 = some o) : ACalls Try.prog 9 [.ptr (0, 0) 0 0] [((0, 0), .one [.str a0, .int .i64 a1, .str a2])] 3 (Gives 3 (.agg [.str o.f_Name, .int .i64 o.f_Version, .str o.f_Text]) [((0, 0), .one [.str a0, .int .i64 a1, .str a2])]) := bfn_of (L := f9b0_L) f9b0_low f9b0_fok (Nat.le_of_ble_eq_true rfl) (f9b0_start h)

def f3_c2 : LCode := (.seq (.region [⟨some 57, .load true 3 (.t 11), none⟩,
   ⟨none, .store 3 (.t 3) (.t 57), none⟩])
 (.seq (.draw [⟨⟨some 58, .mv (.t 7), none⟩, []⟩,
   ⟨⟨some 59, .load true 5 (.t 9), none⟩, []⟩,
   ⟨⟨some 61, .mv (.t 10), none⟩, []⟩,
   ⟨⟨some 60, .call 8 [(.t 58), (.t 59)], none⟩, []⟩,
   ⟨⟨some 62, .bin .neq (.t 60) (.t 61), none⟩, []⟩,
   ⟨⟨some 63, .mv (.t 62), none⟩, []⟩,
   ⟨⟨some 64, .mv (.t 7), some (63, false)⟩, []⟩,
   ⟨⟨some 66, .load true 3 (.t 3), some (63, false)⟩, []⟩,
   ⟨⟨some 65, .call 9 [(.t 64)], some (63, false)⟩, [7]⟩,
   ⟨⟨some 67, .eq true (.agg [.str, .int, .str]) (.t 65) (.t 66), some (63, false)⟩, []⟩,
   ⟨⟨some 68, .pick (.t 63) (.c (.bool true)) (.t 67), none⟩, []⟩])
 (.cond (.t 68)
  (.seq (.region [⟨some 6, .mv (.c (.bool false)), none⟩])
  .ret)
  .skip)))
def f3_c0 : LCode := (.region [⟨some 69, .bin .add (.t 27) (.c (.int .i64 1)), none⟩,
   ⟨some 27, .mv (.t 69), none⟩])
def f3_c3 : LCode := (.seq (.region [⟨some 28, .bin .lss (.t 27) (.t 26), none⟩])
 (.seq (.cond (.t 28)
  .skip
  (.exit 0))
 (.seq (.block 1
  (.seq (.region [⟨some 29, .iaddr 5 (.t 25) (.t 27), none⟩,
    ⟨some 30, .load true 5 (.t 29), none⟩,
    ⟨some 9, .alloc [(.int .i64 0), (.int .i64 0), (.str []), (.int .i64 0), (.isl 3 [] true)], none⟩,
    ⟨none, .store 5 (.t 9) (.t 30), none⟩])
  (.seq (.region [⟨some 10, .mv (.c (.int .i64 0)), none⟩])
  (.seq (.region [⟨some 31, .load true 3 (.t 3), none⟩,
    ⟨some 11, .alloc [(.str []), (.int .i64 0), (.str [])], none⟩,
    ⟨none, .store 3 (.t 11) (.t 31), none⟩])
  (.seq (.block 2
   (.seq (.region [⟨some 40, .faddr 2 (.t 9), none⟩,
     ⟨some 41, .load false 1 (.t 40), none⟩,
     ⟨some 42, .faddr 0 (.t 3), none⟩,
     ⟨some 43, .load false 1 (.t 42), none⟩,
     ⟨some 44, .bin .neq (.t 41) (.t 43), none⟩,
     ⟨some 39, .mv (.t 44), none⟩])
   (.cond (.t 39)
    (.region [⟨some 10, .mv (.c (.int .i64 5)), none⟩])
    (.seq (.region [⟨some 46, .faddr 3 (.t 9), none⟩,
      ⟨some 47, .load false 1 (.t 46), none⟩,
      ⟨some 48, .bin .eql (.t 47) (.c (.int .i64 (-9223372036854775808))), none⟩,
      ⟨some 49, .mv (.t 48), none⟩,
      ⟨some 50, .faddr 3 (.t 9), some (49, false)⟩,
      ⟨some 51, .load false 1 (.t 50), some (49, false)⟩,
      ⟨some 52, .bin .sub (.t 51) (.c (.int .i64 1)), some (49, false)⟩,
      ⟨some 53, .faddr 1 (.t 3), some (49, false)⟩,
      ⟨some 54, .load false 1 (.t 53), some (49, false)⟩,
      ⟨some 55, .bin .neq (.t 52) (.t 54), some (49, false)⟩,
      ⟨some 56, .pick (.t 49) (.c (.bool true)) (.t 55), none⟩,
      ⟨some 45, .mv (.t 56), none⟩])
    (.cond (.t 45)
     (.region [⟨some 10, .mv (.c (.int .i64 11)), none⟩])
     (.region [⟨some 33, .load true 3 (.t 3), none⟩,
       ⟨some 34, .faddr 4 (.t 9), none⟩,
       ⟨some 35, .load false 1 (.t 34), none⟩,
       ⟨some 36, .call 7 [(.t 33), (.t 35)], none⟩,
       ⟨some 32, .mv (.t 36), none⟩,
       ⟨some 37, .ext 0 (.t 32), none⟩,
       ⟨some 38, .ext 1 (.t 32), none⟩,
       ⟨none, .store 3 (.t 11) (.t 37), none⟩,
       ⟨some 10, .mv (.t 38), none⟩]))))))
  f3_c2)))))
 f3_c0)))
def f3_c5 : LCode := (.seq (.seq (.region [⟨some 76, .mv (.t 14), none⟩,
   ⟨some 77, .mv (.t 2), none⟩,
   ⟨some 78, .len false (.t 77), none⟩,
   ⟨some 79, .bin .lss (.t 76) (.t 78), none⟩,
   ⟨some 80, .mv (.t 79), none⟩,
   ⟨some 81, .mv (.t 13), some (80, true)⟩,
   ⟨some 82, .bin .eql (.t 81) (.c (.int .i64 0)), some (80, true)⟩,
   ⟨some 83, .pick (.t 80) (.t 82) (.c (.bool false)), none⟩])
 (.cond (.t 83)
  .skip
  (.exit 3)))
 (.seq (.block 4
  (.draw [⟨⟨some 87, .load true 3 (.t 12), none⟩, []⟩,
    ⟨⟨some 88, .mv (.t 2), none⟩, []⟩,
    ⟨⟨some 89, .mv (.t 14), none⟩, []⟩,
    ⟨⟨some 90, .iaddr 1 (.t 88) (.t 89), none⟩, []⟩,
    ⟨⟨some 91, .load false 1 (.t 90), none⟩, []⟩,
    ⟨⟨some 92, .call 7 [(.t 87), (.t 91)], none⟩, []⟩,
    ⟨⟨some 86, .mv (.t 92), none⟩, []⟩,
    ⟨⟨some 93, .ext 0 (.t 86), none⟩, []⟩,
    ⟨⟨some 94, .ext 1 (.t 86), none⟩, []⟩,
    ⟨⟨none, .store 3 (.t 12) (.t 93), none⟩, []⟩,
    ⟨⟨some 13, .mv (.t 94), none⟩, []⟩]))
 (.region [⟨some 84, .mv (.t 14), none⟩,
   ⟨some 85, .bin .add (.t 84) (.c (.int .i64 1)), none⟩,
   ⟨some 14, .mv (.t 85), none⟩])))
def f3_c6 : LCode := .ret
def f3_c7 : LCode := (.seq (.draw [⟨⟨some 98, .call 5 [], none⟩, []⟩,
   ⟨⟨some 99, .mv (.t 98), none⟩, []⟩,
   ⟨⟨some 100, .mv (.t 7), some (99, true)⟩, []⟩,
   ⟨⟨some 101, .mv (.t 2), some (99, true)⟩, []⟩,
   ⟨⟨some 103, .mv (.t 13), some (99, true)⟩, []⟩,
   ⟨⟨some 102, .call 10 [(.t 100), (.t 101)], some (99, true)⟩, []⟩,
   ⟨⟨some 104, .bin .eql (.t 102) (.t 103), some (99, true)⟩, []⟩,
   ⟨⟨some 105, .pick (.t 99) (.t 104) (.c (.bool false)), none⟩, []⟩,
   ⟨⟨some 106, .mv (.t 105), none⟩, []⟩,
   ⟨⟨some 107, .mv (.t 7), some (106, true)⟩, []⟩,
   ⟨⟨some 109, .load true 3 (.t 3), some (106, true)⟩, []⟩,
   ⟨⟨some 108, .call 9 [(.t 107)], some (106, true)⟩, [10]⟩,
   ⟨⟨some 110, .eq false (.agg [.str, .int, .str]) (.t 108) (.t 109), some (106, true)⟩, []⟩,
   ⟨⟨some 111, .pick (.t 106) (.t 110) (.c (.bool false)), none⟩, []⟩,
   ⟨⟨some 6, .mv (.t 111), none⟩, []⟩])
 f3_c6)
def f3_c4 : LCode := (.seq (.seq (.region [⟨some 95, .mv (.t 13), none⟩,
   ⟨some 96, .bin .eql (.t 95) (.c (.int .i64 0)), none⟩])
 (.cond (.t 96)
  (.region [⟨some 97, .load true 3 (.t 12), none⟩,
    ⟨none, .store 3 (.t 3) (.t 97), none⟩])
  .skip))
 f3_c7)
def f3_c1 : LCode := (.seq (.region [⟨some 70, .mv (.t 2), none⟩,
   ⟨some 71, .mv (.t 2), none⟩,
   ⟨some 72, .len false (.t 71), none⟩,
   ⟨some 73, .mnx false [(.t 72), (.c (.int .i64 8))], none⟩,
   ⟨some 74, .slSl 1 (.t 70) none (some (.t 73)) none, none⟩,
   ⟨some 2, .mv (.t 74), none⟩])
 (.seq (.region [⟨some 75, .load true 3 (.t 3), none⟩,
   ⟨some 12, .alloc [(.str []), (.int .i64 0), (.str [])], none⟩,
   ⟨none, .store 3 (.t 12) (.t 75), none⟩,
   ⟨some 13, .mv (.c (.int .i64 0)), none⟩])
 (.seq (.seq (.region [⟨some 14, .mv (.c (.int .i64 0)), none⟩])
 (.block 3
  (.loop
   f3_c5)))
 f3_c4)))
def f3_c8 : LCode := (.seq (.region [⟨some 3, .box (.t 0), none⟩,
   ⟨some 6, .mv (.c (.bool false)), none⟩])
 (.seq (.seq (.region [⟨some 15, .call 5 [], none⟩,
   ⟨some 16, .un .not (.t 15), none⟩])
 (.cond (.t 16)
  (.seq (.region [⟨some 6, .mv (.c (.bool false)), none⟩])
  .ret)
  .skip))
 (.seq (.region [⟨some 17, .load true 3 (.t 3), none⟩,
   ⟨some 18, .call 6 [(.t 17)], none⟩,
   ⟨some 7, .mv (.t 18), none⟩])
 (.seq (.seq (.region [⟨some 19, .mv (.t 7), none⟩,
   ⟨some 20, .eq false .ptr (.t 19) (.c (.val (.pointer none))), none⟩])
 (.cond (.t 20)
  (.seq (.region [⟨some 6, .mv (.c (.bool false)), none⟩])
  .ret)
  .skip))
 (.seq (.seq (.region [⟨some 21, .mv (.t 1), none⟩,
   ⟨some 22, .mv (.t 1), none⟩,
   ⟨some 23, .len false (.t 22), none⟩,
   ⟨some 24, .mnx false [(.t 23), (.c (.int .i64 15))], none⟩,
   ⟨some 25, .slSl 5 (.t 21) none (some (.t 24)) none, none⟩,
   ⟨some 26, .len false (.t 25), none⟩,
   ⟨some 27, .mv (.c (.int .i64 0)), none⟩])
 (.block 0
  (.loop
   f3_c3)))
 f3_c1)))))
def f3_lay : Lay := ⟨112, [], false⟩
def f3_res : List LRes := [.t 6]
def f3_L : LFn := ⟨3, f3_lay, f3_c8, f3_res⟩
theorem f3_low : lowFn Try.prog [] 3 = some f3_L := by kernel_rfl
theorem f3_fok : FnOk Try.prog 3 := ⟨_, Try.func3, rfl, rfl⟩
def f3_Q (a0 : G_QDocument) (a1 : List G_QUpdate) (a2 : List (List G_TextEdit)) (o : Bool) : Exit → Env → AHeap → Nat → Prop := FinK f3_res (PureEnd (.bool o))

def f3_L1_env (a1 : List G_QUpdate) (a2 : List (List G_TextEdit)) (s : (Int × (List UInt8) × Int × (List UInt8) × (List UInt8) × Int × (List UInt8))) : Env := [(2, .isl 1 (a2.map e_sl_TextEdit) false), (3, .ptr (0, 0) 0 0), (7, .ptr (1, 0) 0 0), (25, .isl 5 ((a1.take (if 15 < ((a1.map e_QUpdate).length : Int) then 15 else ((a1.map e_QUpdate).length : Int)).toNat).map e_QUpdate) false), (26, .int .i64 (((a1.take (if 15 < ((a1.map e_QUpdate).length : Int) then 15 else ((a1.map e_QUpdate).length : Int)).toNat).map e_QUpdate).length : Int)), (27, .int .i64 s.1)]
def f3_L1_hp (a1 : List G_QUpdate) (a2 : List (List G_TextEdit)) (s : (Int × (List UInt8) × Int × (List UInt8) × (List UInt8) × Int × (List UInt8))) : AHeap := [((0, 0), .one [.str s.2.1, .int .i64 s.2.2.1, .str s.2.2.2.1]), ((1, 0), .one [.str s.2.2.2.2.1, .int .i64 s.2.2.2.2.2.1, .str s.2.2.2.2.2.2])]
def f3_L1_Q (a0 : G_QDocument) (a1 : List G_QUpdate) (a2 : List (List G_TextEdit)) (o : Bool) : Exit → Env → AHeap → Nat → Prop := (QBlock 0 (QSeq Try.prog f3_lay 0 f3_c1 (f3_Q a0 a1 a2 o)))

noncomputable def S_glossatorlaw3_DocsyncReplica_j3 (m : Option Nat) (a1 : List G_QUpdate) (a2 : List (List G_TextEdit)) (v10 : Int) (v11 : List UInt8) (v12 : Int) (v13 : List UInt8) (v14 : List UInt8) (v15 : Int) (v16 : List UInt8) (v25 : Int) (v26 : List UInt8) (v27 : Int) (v28 : List UInt8) : Option ((Int × (List UInt8) × Int × (List UInt8) × (List UInt8) × Int × (List UInt8)) ⊕ Bool) :=
  (S_docsync_Replica_Apply m (G_QUpdate.mk (((a1.take (if 15 < ((a1.map e_QUpdate).length : Int) then 15 else ((a1.map e_QUpdate).length : Int)).toNat).getD v10.toNat default).f_To) (((a1.take (if 15 < ((a1.map e_QUpdate).length : Int) then 15 else ((a1.map e_QUpdate).length : Int)).toNat).getD v10.toNat default).f_From) (((a1.take (if 15 < ((a1.map e_QUpdate).length : Int) then 15 else ((a1.map e_QUpdate).length : Int)).toNat).getD v10.toNat default).f_Name) (((a1.take (if 15 < ((a1.map e_QUpdate).length : Int) then 15 else ((a1.map e_QUpdate).length : Int)).toNat).getD v10.toNat default).f_Version) (((a1.take (if 15 < ((a1.map e_QUpdate).length : Int) then 15 else ((a1.map e_QUpdate).length : Int)).toNat).getD v10.toNat default).f_Edits)) v14 v15 v16).bind fun v29 =>
  (if ((v29.1 != v25) == false) = true then S_docsync_Replica_Document m v29.2.1 v29.2.2.1 v29.2.2.2 else some default).bind fun v30 =>
  if ((v29.1 != v25) || (!((v30.f_Name == v26) && ((v30.f_Version == v27) && ((v30.f_Text == v28) && true))))) = true then
    Option.map Sum.inr (
      some false)
  else
    some (.inl ((W (v10 + 1)), v26, v27, v28, v29.2.1, v29.2.2.1, v29.2.2.2))

theorem f3_j3_ok {a0 : G_QDocument} {a1 : List G_QUpdate} {a2 : List (List G_TextEdit)} {v10 : Int} {v11 : List UInt8} {v12 : Int} {v13 : List UInt8} {v14 : List UInt8} {v15 : Int} {v16 : List UInt8} {v25 : Int} {v26 : List UInt8} {v27 : Int} {v28 : List UInt8} {m : Option Nat} {o : ((Int × (List UInt8) × Int × (List UInt8) × (List UInt8) × Int × (List UInt8)) ⊕ Bool)} (h : S_glossatorlaw3_DocsyncReplica_j3 m a1 a2 v10 v11 v12 v13 v14 v15 v16 v25 v26 v27 v28 = some o) :
    LWp Try.prog f3_lay 0 f3_c2 (QBlock 1 (QSeq Try.prog f3_lay 0 f3_c0 (BodyQ 0 2 (f3_L1_env a1 a2) (f3_L1_hp a1 a2) (f3_L1_Q a0 a1 a2) o))) [(2, .isl 1 (a2.map e_sl_TextEdit) false), (3, .ptr (0, 0) 0 0), (7, .ptr (1, 0) 0 0), (9, .ptr (2, 0) 0 0), (10, .int .i64 v25), (11, .ptr (3, 0) 0 0), (25, .isl 5 ((a1.take (if 15 < ((a1.map e_QUpdate).length : Int) then 15 else ((a1.map e_QUpdate).length : Int)).toNat).map e_QUpdate) false), (26, .int .i64 (((a1.take (if 15 < ((a1.map e_QUpdate).length : Int) then 15 else ((a1.map e_QUpdate).length : Int)).toNat).map e_QUpdate).length : Int)), (27, .int .i64 v10)] [((0, 0), .one [.str v11, .int .i64 v12, .str v13]), ((1, 0), .one [.str v14, .int .i64 v15, .str v16]), ((2, 0), .one [.int .i64 (((a1.take (if 15 < ((a1.map e_QUpdate).length : Int) then 15 else ((a1.map e_QUpdate).length : Int)).toNat).getD v10.toNat default).f_To), .int .i64 (((a1.take (if 15 < ((a1.map e_QUpdate).length : Int) then 15 else ((a1.map e_QUpdate).length : Int)).toNat).getD v10.toNat default).f_From), .str (((a1.take (if 15 < ((a1.map e_QUpdate).length : Int) then 15 else ((a1.map e_QUpdate).length : Int)).toNat).getD v10.toNat default).f_Name), .int .i64 (((a1.take (if 15 < ((a1.map e_QUpdate).length : Int) then 15 else ((a1.map e_QUpdate).length : Int)).toNat).getD v10.toNat default).f_Version), .isl 3 ((((a1.take (if 15 < ((a1.map e_QUpdate).length : Int) then 15 else ((a1.map e_QUpdate).length : Int)).toNat).getD v10.toNat default).f_Edits).map e_TextEdit) false]), ((3, 0), .one [.str v26, .int .i64 v27, .str v28])] 4 := by
  unfold S_glossatorlaw3_DocsyncReplica_j3 at h
  refine seqI ?_
  refine regI ?_
  refine seqI ?_
  refine drawI ?_
  obtain ⟨v29, h26, h⟩ := bind_some h
  refine bcall (k := 3) (m := 0) (L' := [((1, 0), .one [.str v29.2.1, .int .i64 v29.2.2.1, .str v29.2.2.2])]) (rest := [((0, 0), .one [.str v26, .int .i64 v27, .str v28]), ((2, 0), .one [.int .i64 (((a1.take (if 15 < ((a1.map e_QUpdate).length : Int) then 15 else ((a1.map e_QUpdate).length : Int)).toNat).getD v10.toNat default).f_To), .int .i64 (((a1.take (if 15 < ((a1.map e_QUpdate).length : Int) then 15 else ((a1.map e_QUpdate).length : Int)).toNat).getD v10.toNat default).f_From), .str (((a1.take (if 15 < ((a1.map e_QUpdate).length : Int) then 15 else ((a1.map e_QUpdate).length : Int)).toNat).getD v10.toNat default).f_Name), .int .i64 (((a1.take (if 15 < ((a1.map e_QUpdate).length : Int) then 15 else ((a1.map e_QUpdate).length : Int)).toNat).getD v10.toNat default).f_Version), .isl 3 ((((a1.take (if 15 < ((a1.map e_QUpdate).length : Int) then 15 else ((a1.map e_QUpdate).length : Int)).toNat).getD v10.toNat default).f_Edits).map e_TextEdit) false]), ((3, 0), .one [.str v26, .int .i64 v27, .str v28])]) (R' := .int .i64 v29.1) [((0, 0), (1, 0))] (f8b0_ok h26) rfl rfl rfl (And.intro (Vw.ptr _ _ _ _ rfl) (And.intro (Vw.same _ rfl) trivial)) (And.intro (h0I (1, 0) rfl rfl (BVw.oneL (And.intro (Vw.same _ rfl) (And.intro (Vw.same _ rfl) (And.intro (Vw.same _ rfl) trivial))))) trivial) (nid_ren _ rfl) (And.intro rfl (And.intro rfl trivial)) rfl ?_
  show yd _ _ _ _ _ [(60, .int .i64 v29.1), (61, .int .i64 v25), (59, .agg [.int .i64 (((a1.take (if 15 < ((a1.map e_QUpdate).length : Int) then 15 else ((a1.map e_QUpdate).length : Int)).toNat).getD v10.toNat default).f_To), .int .i64 (((a1.take (if 15 < ((a1.map e_QUpdate).length : Int) then 15 else ((a1.map e_QUpdate).length : Int)).toNat).getD v10.toNat default).f_From), .str (((a1.take (if 15 < ((a1.map e_QUpdate).length : Int) then 15 else ((a1.map e_QUpdate).length : Int)).toNat).getD v10.toNat default).f_Name), .int .i64 (((a1.take (if 15 < ((a1.map e_QUpdate).length : Int) then 15 else ((a1.map e_QUpdate).length : Int)).toNat).getD v10.toNat default).f_Version), .isl 3 ((((a1.take (if 15 < ((a1.map e_QUpdate).length : Int) then 15 else ((a1.map e_QUpdate).length : Int)).toNat).getD v10.toNat default).f_Edits).map e_TextEdit) false]), (58, .ptr (1, 0) 0 0), (57, .agg [.str v26, .int .i64 v27, .str v28]), (2, .isl 1 (a2.map e_sl_TextEdit) false), (3, .ptr (0, 0) 0 0), (7, .ptr (1, 0) 0 0), (9, .ptr (2, 0) 0 0), (10, .int .i64 v25), (11, .ptr (3, 0) 0 0), (25, .isl 5 ((a1.take (if 15 < ((a1.map e_QUpdate).length : Int) then 15 else ((a1.map e_QUpdate).length : Int)).toNat).map e_QUpdate) false), (26, .int .i64 (((a1.take (if 15 < ((a1.map e_QUpdate).length : Int) then 15 else ((a1.map e_QUpdate).length : Int)).toNat).map e_QUpdate).length : Int)), (27, .int .i64 v10)] _ _
  obtain ⟨v30, h27, h⟩ := bind_some h
  refine Or.inl (Exists.intro (.agg [.str v30.f_Name, .int .i64 v30.f_Version, .str v30.f_Text]) (And.intro (fun hp => And.intro hp (ACalls.same rfl (bcall (k := 3) (m := 0) (L' := [((1, 0), .one [.str v29.2.1, .int .i64 v29.2.2.1, .str v29.2.2.2])]) (rest := [((0, 0), .one [.str v26, .int .i64 v27, .str v28]), ((2, 0), .one [.int .i64 (((a1.take (if 15 < ((a1.map e_QUpdate).length : Int) then 15 else ((a1.map e_QUpdate).length : Int)).toNat).getD v10.toNat default).f_To), .int .i64 (((a1.take (if 15 < ((a1.map e_QUpdate).length : Int) then 15 else ((a1.map e_QUpdate).length : Int)).toNat).getD v10.toNat default).f_From), .str (((a1.take (if 15 < ((a1.map e_QUpdate).length : Int) then 15 else ((a1.map e_QUpdate).length : Int)).toNat).getD v10.toNat default).f_Name), .int .i64 (((a1.take (if 15 < ((a1.map e_QUpdate).length : Int) then 15 else ((a1.map e_QUpdate).length : Int)).toNat).getD v10.toNat default).f_Version), .isl 3 ((((a1.take (if 15 < ((a1.map e_QUpdate).length : Int) then 15 else ((a1.map e_QUpdate).length : Int)).toNat).getD v10.toNat default).f_Edits).map e_TextEdit) false]), ((3, 0), .one [.str v26, .int .i64 v27, .str v28])]) (R' := .agg [.str v30.f_Name, .int .i64 v30.f_Version, .str v30.f_Text]) [((0, 0), (1, 0))] (f9b0_ok (ite_tt hp h27)) rfl rfl rfl (And.intro (Vw.ptr _ _ _ _ rfl) trivial) (And.intro (h0I (1, 0) rfl rfl (BVw.oneL (And.intro (Vw.same _ rfl) (And.intro (Vw.same _ rfl) (And.intro (Vw.same _ rfl) trivial))))) trivial) (nid_ren _ rfl) (And.intro rfl (And.intro rfl trivial)) rfl (And.intro rfl (HeapTo.get (And.intro (And.intro rfl (BVw.oneL (And.intro (Vw.same _ rfl) (And.intro (Vw.same _ rfl) (And.intro (Vw.same _ rfl) trivial))))) (And.intro (And.intro rfl (BVw.oneL (And.intro (Vw.same _ rfl) (And.intro (Vw.same _ rfl) (And.intro (Vw.same _ rfl) trivial))))) (And.intro (And.intro rfl (BVw.oneL (And.intro (Vw.same _ rfl) (And.intro (Vw.same _ rfl) (And.intro (Vw.same _ rfl) (And.intro (Vw.same _ rfl) (And.intro (Vw.same _ rfl) trivial))))))) (And.intro (And.intro rfl (BVw.oneL (And.intro (Vw.same _ rfl) (And.intro (Vw.same _ rfl) (And.intro (Vw.same _ rfl) trivial))))) trivial))))))))) ?_))
  refine And.intro (And.intro rfl (fun hp => rfl)) ?_
  refine And.intro (fun hp => (And.intro hp hp)) ?_
  show yd _ _ _ _ _ [(67, .cnd ((v29.1 != v25) == false) (.bool (!((v30.f_Name == v26) && ((v30.f_Version == v27) && ((v30.f_Text == v28) && true)))))), (65, .cnd ((v29.1 != v25) == false) (.agg [.str v30.f_Name, .int .i64 v30.f_Version, .str v30.f_Text])), (66, .cnd ((v29.1 != v25) == false) (.agg [.str v26, .int .i64 v27, .str v28])), (64, .cnd ((v29.1 != v25) == false) (.ptr (1, 0) 0 0)), (63, .bool (v29.1 != v25)), (62, .bool (v29.1 != v25)), (60, .int .i64 v29.1), (61, .int .i64 v25), (59, .agg [.int .i64 (((a1.take (if 15 < ((a1.map e_QUpdate).length : Int) then 15 else ((a1.map e_QUpdate).length : Int)).toNat).getD v10.toNat default).f_To), .int .i64 (((a1.take (if 15 < ((a1.map e_QUpdate).length : Int) then 15 else ((a1.map e_QUpdate).length : Int)).toNat).getD v10.toNat default).f_From), .str (((a1.take (if 15 < ((a1.map e_QUpdate).length : Int) then 15 else ((a1.map e_QUpdate).length : Int)).toNat).getD v10.toNat default).f_Name), .int .i64 (((a1.take (if 15 < ((a1.map e_QUpdate).length : Int) then 15 else ((a1.map e_QUpdate).length : Int)).toNat).getD v10.toNat default).f_Version), .isl 3 ((((a1.take (if 15 < ((a1.map e_QUpdate).length : Int) then 15 else ((a1.map e_QUpdate).length : Int)).toNat).getD v10.toNat default).f_Edits).map e_TextEdit) false]), (58, .ptr (1, 0) 0 0), (57, .agg [.str v26, .int .i64 v27, .str v28]), (2, .isl 1 (a2.map e_sl_TextEdit) false), (3, .ptr (0, 0) 0 0), (7, .ptr (1, 0) 0 0), (9, .ptr (2, 0) 0 0), (10, .int .i64 v25), (11, .ptr (3, 0) 0 0), (25, .isl 5 ((a1.take (if 15 < ((a1.map e_QUpdate).length : Int) then 15 else ((a1.map e_QUpdate).length : Int)).toNat).map e_QUpdate) false), (26, .int .i64 (((a1.take (if 15 < ((a1.map e_QUpdate).length : Int) then 15 else ((a1.map e_QUpdate).length : Int)).toNat).map e_QUpdate).length : Int)), (27, .int .i64 v10)] _ _
  refine And.intro (fun hc => (bqf hc)) ?_
  refine LWp.sim (e := [(2, .isl 1 (a2.map e_sl_TextEdit) false), (3, .ptr (0, 0) 0 0), (7, .ptr (1, 0) 0 0), (25, .isl 5 ((a1.take (if 15 < ((a1.map e_QUpdate).length : Int) then 15 else ((a1.map e_QUpdate).length : Int)).toNat).map e_QUpdate) false), (26, .int .i64 (((a1.take (if 15 < ((a1.map e_QUpdate).length : Int) then 15 else ((a1.map e_QUpdate).length : Int)).toNat).map e_QUpdate).length : Int)), (27, .int .i64 v10), (68, .bool ((v29.1 != v25) || (!((v30.f_Name == v26) && ((v30.f_Version == v27) && ((v30.f_Text == v28) && true))))))]) (L := [((0, 0), .one [.str v26, .int .i64 v27, .str v28]), ((1, 0), .one [.str v29.2.1, .int .i64 v29.2.2.1, .str v29.2.2.2])]) (n := 2) ?_ ?_
  · exact simI (M := [((0, 0), (0, 0)), ((1, 0), (1, 0))]) rfl (And.intro (Vw.same _ rfl) (And.intro (Vw.ptr _ _ _ _ rfl) (And.intro (Vw.ptr _ _ _ _ rfl) (And.intro (Vw.same _ rfl) (And.intro (Vw.same _ rfl) (And.intro (Vw.same _ rfl) (And.intro (Vw.same _ rfl) trivial))))))) (And.intro (And.intro rfl (BVw.oneL (And.intro (Vw.same _ rfl) (And.intro (Vw.same _ rfl) (And.intro (Vw.same _ rfl) trivial))))) (And.intro (And.intro rfl (BVw.oneL (And.intro (Vw.same _ rfl) (And.intro (Vw.same _ rfl) (And.intro (Vw.same _ rfl) trivial))))) trivial))
  refine condI (v := ((v29.1 != v25) || (!((v30.f_Name == v26) && ((v30.f_Version == v27) && ((v30.f_Text == v28) && true)))))) rfl trivial (fun h28 => ?_) (fun h28 => ?_)
  · have h := ite_tt h28 h
    refine seqI ?_
    refine regI ?_
    refine retI ?_
    obtain ⟨o, hq, rfl⟩ := Option.map_eq_some_iff.1 h
    replace h := hq; clear hq
    refine And.intro nofun ?_
    cases h
    exact And.intro trivial (And.intro rfl (Vw.same _ rfl))
  · have h := ite_ff h28 h
    refine skipI ?_
    refine regI ?_
    cases h
    exact And.intro rfl (simI (M := [((0, 0), (0, 0)), ((1, 0), (1, 0))]) rfl (And.intro (Vw.same _ rfl) (And.intro (Vw.ptr _ _ _ _ rfl) (And.intro (Vw.ptr _ _ _ _ rfl) (And.intro (Vw.same _ rfl) (And.intro (Vw.same _ rfl) (And.intro (Vw.same _ rfl) trivial)))))) (And.intro (And.intro rfl (BVw.oneL (And.intro (Vw.same _ rfl) (And.intro (Vw.same _ rfl) (And.intro (Vw.same _ rfl) trivial))))) (And.intro (And.intro rfl (BVw.oneL (And.intro (Vw.same _ rfl) (And.intro (Vw.same _ rfl) (And.intro (Vw.same _ rfl) trivial))))) trivial)))

noncomputable def S_glossatorlaw3_DocsyncReplica_j7 (m : Option Nat) (v47 : Bool) : Option Bool :=
  some v47

noncomputable def S_glossatorlaw3_DocsyncReplica_j6 (m : Option Nat) (a2 : List (List G_TextEdit)) (v14 : List UInt8) (v15 : Int) (v16 : List UInt8) (v32 : Int) (v39 : List UInt8) (v40 : Int) (v41 : List UInt8) : Option Bool :=
  (S_glossatorlaw3_syncExample (some 4096)).bind fun v42 =>
  if (v42 == true) = true then
    (S_docsync_Replica_CatchUp m (a2.take (if 8 < ((a2.map e_sl_TextEdit).length : Int) then 8 else ((a2.map e_sl_TextEdit).length : Int)).toNat) v14 v15 v16).bind fun v44 =>
    (if ((v42 && (v44.1 == v32)) == true) = true then S_docsync_Replica_Document m v44.2.1 v44.2.2.1 v44.2.2.2 else some default).bind fun v45 =>
    S_glossatorlaw3_DocsyncReplica_j7 m ((v42 && (v44.1 == v32)) && ((v45.f_Name == v39) && ((v45.f_Version == v40) && ((v45.f_Text == v41) && true))))
  else
    (if ((v42 && ((0 : Int) == v32)) == true) = true then S_docsync_Replica_Document m v14 v15 v16 else some default).bind fun v46 =>
    S_glossatorlaw3_DocsyncReplica_j7 m ((v42 && ((0 : Int) == v32)) && ((v46.f_Name == v39) && ((v46.f_Version == v40) && ((v46.f_Text == v41) && true))))

noncomputable def S_glossatorlaw3_DocsyncReplica_j5 (m : Option Nat) (a2 : List (List G_TextEdit)) (v11 : List UInt8) (v12 : Int) (v13 : List UInt8) (v14 : List UInt8) (v15 : Int) (v16 : List UInt8) (v32 : Int) (v34 : List UInt8) (v35 : Int) (v36 : List UInt8) : Option Bool :=
  if (v32 == 0) = true then
    S_glossatorlaw3_DocsyncReplica_j6 m a2 v14 v15 v16 v32 v34 v35 v36
  else
    S_glossatorlaw3_DocsyncReplica_j6 m a2 v14 v15 v16 v32 v11 v12 v13

noncomputable def S_glossatorlaw3_DocsyncReplica_b2 (m : Option Nat) (a2 : List (List G_TextEdit)) (v11 : List UInt8) (v12 : Int) (v13 : List UInt8) (v14 : List UInt8) (v15 : Int) (v16 : List UInt8) (v32 : Int) (v33 : Int) (v34 : List UInt8) (v35 : Int) (v36 : List UInt8) : Option ((Int × Int × (List UInt8) × Int × (List UInt8)) ⊕ Bool) :=
  if ((decide (v33 < (((a2.take (if 8 < ((a2.map e_sl_TextEdit).length : Int) then 8 else ((a2.map e_sl_TextEdit).length : Int)).toNat).map e_sl_TextEdit).length : Int))) && (v32 == 0)) = true then
    if (0 : Int) ≤ v33 ∧ v33 < (((a2.take (if 8 < ((a2.map e_sl_TextEdit).length : Int) then 8 else ((a2.map e_sl_TextEdit).length : Int)).toNat).map e_sl_TextEdit).length : Int) then
    (S_glossatorlaw3_applied m (G_QDocument.mk v34 v35 v36) ((a2.take (if 8 < ((a2.map e_sl_TextEdit).length : Int) then 8 else ((a2.map e_sl_TextEdit).length : Int)).toNat).getD v33.toNat default)).bind fun v38 =>
    some (.inl (v38.2, (W (v33 + 1)), v38.1.f_Name, v38.1.f_Version, v38.1.f_Text))
    else none
  else
    Option.map Sum.inr (
      S_glossatorlaw3_DocsyncReplica_j5 m a2 v11 v12 v13 v14 v15 v16 v32 v34 v35 v36)

noncomputable def S_glossatorlaw3_DocsyncReplica_l2 (m : Option Nat) (a2 : List (List G_TextEdit)) (v11 : List UInt8) (v12 : Int) (v13 : List UInt8) (v14 : List UInt8) (v15 : Int) (v16 : List UInt8) (v32 : Int) (v33 : Int) (v34 : List UInt8) (v35 : Int) (v36 : List UInt8) : Option Bool := loopM m (fun (s : (Int × Int × (List UInt8) × Int × (List UInt8))) => S_glossatorlaw3_DocsyncReplica_b2 m a2 v11 v12 v13 v14 v15 v16 s.1 s.2.1 s.2.2.1 s.2.2.2.1 s.2.2.2.2) (v32, v33, v34, v35, v36)

noncomputable def S_glossatorlaw3_DocsyncReplica_j4 (m : Option Nat) (a2 : List (List G_TextEdit)) (v11 : List UInt8) (v12 : Int) (v13 : List UInt8) (v14 : List UInt8) (v15 : Int) (v16 : List UInt8) : Option Bool :=
  if (0 : Int) ≤ (if 8 < ((a2.map e_sl_TextEdit).length : Int) then 8 else ((a2.map e_sl_TextEdit).length : Int)) ∧ (if 8 < ((a2.map e_sl_TextEdit).length : Int) then 8 else ((a2.map e_sl_TextEdit).length : Int)) ≤ ((a2.map e_sl_TextEdit).length : Int) then
  S_glossatorlaw3_DocsyncReplica_l2 m a2 v11 v12 v13 v14 v15 v16 0 0 v11 v12 v13
  else none

noncomputable def S_glossatorlaw3_DocsyncReplica_b1 (m : Option Nat) (a1 : List G_QUpdate) (a2 : List (List G_TextEdit)) (v10 : Int) (v11 : List UInt8) (v12 : Int) (v13 : List UInt8) (v14 : List UInt8) (v15 : Int) (v16 : List UInt8) : Option ((Int × (List UInt8) × Int × (List UInt8) × (List UInt8) × Int × (List UInt8)) ⊕ Bool) :=
  if (decide (v10 < (((a1.take (if 15 < ((a1.map e_QUpdate).length : Int) then 15 else ((a1.map e_QUpdate).length : Int)).toNat).map e_QUpdate).length : Int))) = true then
    if (0 : Int) ≤ v10 ∧ v10 < (((a1.take (if 15 < ((a1.map e_QUpdate).length : Int) then 15 else ((a1.map e_QUpdate).length : Int)).toNat).map e_QUpdate).length : Int) then
    if (!(((a1.take (if 15 < ((a1.map e_QUpdate).length : Int) then 15 else ((a1.map e_QUpdate).length : Int)).toNat).getD v10.toNat default).f_Name == v11)) = true then
      S_glossatorlaw3_DocsyncReplica_j3 m a1 a2 v10 v11 v12 v13 v14 v15 v16 5 v11 v12 v13
    else
      if ((((a1.take (if 15 < ((a1.map e_QUpdate).length : Int) then 15 else ((a1.map e_QUpdate).length : Int)).toNat).getD v10.toNat default).f_Version == (-9223372036854775808)) || ((W (((a1.take (if 15 < ((a1.map e_QUpdate).length : Int) then 15 else ((a1.map e_QUpdate).length : Int)).toNat).getD v10.toNat default).f_Version - 1)) != v12)) = true then
        S_glossatorlaw3_DocsyncReplica_j3 m a1 a2 v10 v11 v12 v13 v14 v15 v16 11 v11 v12 v13
      else
        (S_glossatorlaw3_applied m (G_QDocument.mk v11 v12 v13) (((a1.take (if 15 < ((a1.map e_QUpdate).length : Int) then 15 else ((a1.map e_QUpdate).length : Int)).toNat).getD v10.toNat default).f_Edits)).bind fun v24 =>
        S_glossatorlaw3_DocsyncReplica_j3 m a1 a2 v10 v11 v12 v13 v14 v15 v16 v24.2 v24.1.f_Name v24.1.f_Version v24.1.f_Text
    else none
  else
    Option.map Sum.inr (
      S_glossatorlaw3_DocsyncReplica_j4 m a2 v11 v12 v13 v14 v15 v16)

noncomputable def S_glossatorlaw3_DocsyncReplica_l1 (m : Option Nat) (a1 : List G_QUpdate) (a2 : List (List G_TextEdit)) (v10 : Int) (v11 : List UInt8) (v12 : Int) (v13 : List UInt8) (v14 : List UInt8) (v15 : Int) (v16 : List UInt8) : Option Bool := loopM m (fun (s : (Int × (List UInt8) × Int × (List UInt8) × (List UInt8) × Int × (List UInt8))) => S_glossatorlaw3_DocsyncReplica_b1 m a1 a2 s.1 s.2.1 s.2.2.1 s.2.2.2.1 s.2.2.2.2.1 s.2.2.2.2.2.1 s.2.2.2.2.2.2) (v10, v11, v12, v13, v14, v15, v16)

def f3_L2_env (a2 : List (List G_TextEdit)) (v11 : List UInt8) (v12 : Int) (v13 : List UInt8) (v14 : List UInt8) (v15 : Int) (v16 : List UInt8) (s : (Int × Int × (List UInt8) × Int × (List UInt8))) : Env := [(2, .isl 1 ((a2.take (if 8 < ((a2.map e_sl_TextEdit).length : Int) then 8 else ((a2.map e_sl_TextEdit).length : Int)).toNat).map e_sl_TextEdit) false), (3, .ptr (0, 0) 0 0), (7, .ptr (1, 0) 0 0), (12, .ptr (2, 0) 0 0), (13, .int .i64 s.1), (14, .int .i64 s.2.1)]
def f3_L2_hp (a2 : List (List G_TextEdit)) (v11 : List UInt8) (v12 : Int) (v13 : List UInt8) (v14 : List UInt8) (v15 : Int) (v16 : List UInt8) (s : (Int × Int × (List UInt8) × Int × (List UInt8))) : AHeap := [((0, 0), .one [.str v11, .int .i64 v12, .str v13]), ((1, 0), .one [.str v14, .int .i64 v15, .str v16]), ((2, 0), .one [.str s.2.2.1, .int .i64 s.2.2.2.1, .str s.2.2.2.2])]
def f3_L2_Q (a0 : G_QDocument) (a1 : List G_QUpdate) (a2 : List (List G_TextEdit)) (o : Bool) : Exit → Env → AHeap → Nat → Prop := (QBlock 3 (QSeq Try.prog f3_lay 0 f3_c4 (f3_Q a0 a1 a2 o)))

theorem f3_j7_ok {a0 : G_QDocument} {a1 : List G_QUpdate} {a2 : List (List G_TextEdit)} {v47 : Bool} {m : Option Nat} {o : Bool} (h : S_glossatorlaw3_DocsyncReplica_j7 m v47 = some o) :
    LWp Try.prog f3_lay 0 f3_c6 (f3_Q a0 a1 a2 o) [(6, .bool v47)] [] 0 := by
  unfold S_glossatorlaw3_DocsyncReplica_j7 at h
  refine retI ?_
  cases h
  exact And.intro trivial (And.intro rfl (Vw.same _ rfl))

theorem f3_j6_ok {a0 : G_QDocument} {a1 : List G_QUpdate} {a2 : List (List G_TextEdit)} {v14 : List UInt8} {v15 : Int} {v16 : List UInt8} {v32 : Int} {v39 : List UInt8} {v40 : Int} {v41 : List UInt8} {m : Option Nat} {o : Bool} (h : S_glossatorlaw3_DocsyncReplica_j6 m a2 v14 v15 v16 v32 v39 v40 v41 = some o) :
    LWp Try.prog f3_lay 0 f3_c7 (f3_Q a0 a1 a2 o) [(2, .isl 1 ((a2.take (if 8 < ((a2.map e_sl_TextEdit).length : Int) then 8 else ((a2.map e_sl_TextEdit).length : Int)).toNat).map e_sl_TextEdit) false), (3, .ptr (0, 0) 0 0), (7, .ptr (1, 0) 0 0), (13, .int .i64 v32)] [((0, 0), .one [.str v39, .int .i64 v40, .str v41]), ((1, 0), .one [.str v14, .int .i64 v15, .str v16])] 2 := by
  unfold S_glossatorlaw3_DocsyncReplica_j6 at h
  refine seqI ?_
  refine drawI ?_
  obtain ⟨v42, h40, h⟩ := bind_some h
  refine PFn.call (f5_ok h40) trivial ?_
  refine Or.inr (And.intro (fun h42 => ?_) (fun h43 => ?_))
  · have h := ite_tt h42 h
    obtain ⟨v44, h44, h⟩ := bind_some h
    refine And.intro (And.intro h42 h42) ?_
    refine bcall (k := 3) (m := 0) (L' := [((1, 0), .one [.str v44.2.1, .int .i64 v44.2.2.1, .str v44.2.2.2])]) (rest := [((0, 0), .one [.str v39, .int .i64 v40, .str v41])]) (R' := .int .i64 v44.1) [((0, 0), (1, 0))] (f10b0_ok h44) rfl rfl rfl (And.intro (Vw.ptr _ _ _ _ rfl) (And.intro (Vw.same _ rfl) trivial)) (And.intro (h0I (1, 0) rfl rfl (BVw.oneL (And.intro (Vw.same _ rfl) (And.intro (Vw.same _ rfl) (And.intro (Vw.same _ rfl) trivial))))) trivial) (nid_ren _ rfl) (And.intro rfl (And.intro rfl trivial)) rfl ?_
    show yd _ _ _ _ _ [(102, .int .i64 v44.1), (103, .cnd (v42 == true) (.int .i64 v32)), (101, .cnd (v42 == true) (.isl 1 ((a2.take (if 8 < ((a2.map e_sl_TextEdit).length : Int) then 8 else ((a2.map e_sl_TextEdit).length : Int)).toNat).map e_sl_TextEdit) false)), (100, .cnd (v42 == true) (.ptr (1, 0) 0 0)), (99, .bool v42), (98, .bool v42), (2, .isl 1 ((a2.take (if 8 < ((a2.map e_sl_TextEdit).length : Int) then 8 else ((a2.map e_sl_TextEdit).length : Int)).toNat).map e_sl_TextEdit) false), (3, .ptr (0, 0) 0 0), (7, .ptr (1, 0) 0 0), (13, .int .i64 v32)] _ _
    refine And.intro (fun hp => h42) ?_
    refine And.intro (fun hc => h42) ?_
    show yd _ _ _ _ _ [(105, .bool (v42 && (v44.1 == v32))), (104, .cnd (v42 == true) (.bool (v44.1 == v32))), (102, .int .i64 v44.1), (103, .cnd (v42 == true) (.int .i64 v32)), (101, .cnd (v42 == true) (.isl 1 ((a2.take (if 8 < ((a2.map e_sl_TextEdit).length : Int) then 8 else ((a2.map e_sl_TextEdit).length : Int)).toNat).map e_sl_TextEdit) false)), (100, .cnd (v42 == true) (.ptr (1, 0) 0 0)), (99, .bool v42), (98, .bool v42), (2, .isl 1 ((a2.take (if 8 < ((a2.map e_sl_TextEdit).length : Int) then 8 else ((a2.map e_sl_TextEdit).length : Int)).toNat).map e_sl_TextEdit) false), (3, .ptr (0, 0) 0 0), (7, .ptr (1, 0) 0 0), (13, .int .i64 v32)] _ _
    obtain ⟨v45, h45, h⟩ := bind_some h
    refine Or.inl (Exists.intro (.agg [.str v45.f_Name, .int .i64 v45.f_Version, .str v45.f_Text]) (And.intro (fun hp => And.intro hp (ACalls.same rfl (bcall (k := 3) (m := 0) (L' := [((1, 0), .one [.str v44.2.1, .int .i64 v44.2.2.1, .str v44.2.2.2])]) (rest := [((0, 0), .one [.str v39, .int .i64 v40, .str v41])]) (R' := .agg [.str v45.f_Name, .int .i64 v45.f_Version, .str v45.f_Text]) [((0, 0), (1, 0))] (f9b0_ok (ite_tt hp h45)) rfl rfl rfl (And.intro (Vw.ptr _ _ _ _ rfl) trivial) (And.intro (h0I (1, 0) rfl rfl (BVw.oneL (And.intro (Vw.same _ rfl) (And.intro (Vw.same _ rfl) (And.intro (Vw.same _ rfl) trivial))))) trivial) (nid_ren _ rfl) (And.intro rfl (And.intro rfl trivial)) rfl (And.intro rfl (HeapTo.get (And.intro (And.intro rfl (BVw.oneL (And.intro (Vw.same _ rfl) (And.intro (Vw.same _ rfl) (And.intro (Vw.same _ rfl) trivial))))) (And.intro (And.intro rfl (BVw.oneL (And.intro (Vw.same _ rfl) (And.intro (Vw.same _ rfl) (And.intro (Vw.same _ rfl) trivial))))) trivial))))))) ?_))
    refine And.intro (And.intro rfl (fun hp => rfl)) ?_
    refine And.intro (fun hp => (And.intro hp hp)) ?_
    show yd _ _ _ _ _ [(110, .cnd ((v42 && (v44.1 == v32)) == true) (.bool ((v45.f_Name == v39) && ((v45.f_Version == v40) && ((v45.f_Text == v41) && true))))), (108, .cnd ((v42 && (v44.1 == v32)) == true) (.agg [.str v45.f_Name, .int .i64 v45.f_Version, .str v45.f_Text])), (109, .cnd ((v42 && (v44.1 == v32)) == true) (.agg [.str v39, .int .i64 v40, .str v41])), (107, .cnd ((v42 && (v44.1 == v32)) == true) (.ptr (1, 0) 0 0)), (106, .bool (v42 && (v44.1 == v32))), (105, .bool (v42 && (v44.1 == v32))), (104, .cnd (v42 == true) (.bool (v44.1 == v32))), (102, .int .i64 v44.1), (103, .cnd (v42 == true) (.int .i64 v32)), (101, .cnd (v42 == true) (.isl 1 ((a2.take (if 8 < ((a2.map e_sl_TextEdit).length : Int) then 8 else ((a2.map e_sl_TextEdit).length : Int)).toNat).map e_sl_TextEdit) false)), (100, .cnd (v42 == true) (.ptr (1, 0) 0 0)), (99, .bool v42), (98, .bool v42), (2, .isl 1 ((a2.take (if 8 < ((a2.map e_sl_TextEdit).length : Int) then 8 else ((a2.map e_sl_TextEdit).length : Int)).toNat).map e_sl_TextEdit) false), (3, .ptr (0, 0) 0 0), (7, .ptr (1, 0) 0 0), (13, .int .i64 v32)] _ _
    refine And.intro (fun hc => (bqt hc)) ?_
    refine LWp.sim ?_ (f3_j7_ok h)
    exact simI (M := []) rfl (And.intro (Vw.same _ rfl) trivial) trivial
  · have h := ite_ff h43 h
    refine Exists.intro (.cnd (v42 == true) (.int .i64 0)) (And.intro (Or.inr (Exists.intro _ (congrArg (fun q => AVal.cnd q _) h43))) ?_)
    refine And.intro (fun hp => (And.intro hp hp)) ?_
    show yd _ _ _ _ _ [(104, .cnd (v42 == true) (.bool ((0 : Int) == v32))), (102, .cnd (v42 == true) (.int .i64 0)), (103, .cnd (v42 == true) (.int .i64 v32)), (101, .cnd (v42 == true) (.isl 1 ((a2.take (if 8 < ((a2.map e_sl_TextEdit).length : Int) then 8 else ((a2.map e_sl_TextEdit).length : Int)).toNat).map e_sl_TextEdit) false)), (100, .cnd (v42 == true) (.ptr (1, 0) 0 0)), (99, .bool v42), (98, .bool v42), (2, .isl 1 ((a2.take (if 8 < ((a2.map e_sl_TextEdit).length : Int) then 8 else ((a2.map e_sl_TextEdit).length : Int)).toNat).map e_sl_TextEdit) false), (3, .ptr (0, 0) 0 0), (7, .ptr (1, 0) 0 0), (13, .int .i64 v32)] _ _
    refine And.intro (fun hc => (bqt hc)) ?_
    obtain ⟨v46, h46, h⟩ := bind_some h
    refine Or.inl (Exists.intro (.agg [.str v46.f_Name, .int .i64 v46.f_Version, .str v46.f_Text]) (And.intro (fun hp => And.intro hp (ACalls.same rfl (bcall (k := 3) (m := 0) (L' := [((1, 0), .one [.str v14, .int .i64 v15, .str v16])]) (rest := [((0, 0), .one [.str v39, .int .i64 v40, .str v41])]) (R' := .agg [.str v46.f_Name, .int .i64 v46.f_Version, .str v46.f_Text]) [((0, 0), (1, 0))] (f9b0_ok (ite_tt hp h46)) rfl rfl rfl (And.intro (Vw.ptr _ _ _ _ rfl) trivial) (And.intro (h0I (1, 0) rfl rfl (BVw.oneL (And.intro (Vw.same _ rfl) (And.intro (Vw.same _ rfl) (And.intro (Vw.same _ rfl) trivial))))) trivial) (nid_ren _ rfl) (And.intro rfl (And.intro rfl trivial)) rfl (And.intro rfl (HeapTo.get (And.intro (And.intro rfl (BVw.oneL (And.intro (Vw.same _ rfl) (And.intro (Vw.same _ rfl) (And.intro (Vw.same _ rfl) trivial))))) (And.intro (And.intro rfl (BVw.oneL (And.intro (Vw.same _ rfl) (And.intro (Vw.same _ rfl) (And.intro (Vw.same _ rfl) trivial))))) trivial))))))) ?_))
    refine And.intro (And.intro rfl (fun hp => rfl)) ?_
    refine And.intro (fun hp => (And.intro hp hp)) ?_
    show yd _ _ _ _ _ [(110, .cnd ((v42 && ((0 : Int) == v32)) == true) (.bool ((v46.f_Name == v39) && ((v46.f_Version == v40) && ((v46.f_Text == v41) && true))))), (108, .cnd ((v42 && ((0 : Int) == v32)) == true) (.agg [.str v46.f_Name, .int .i64 v46.f_Version, .str v46.f_Text])), (109, .cnd ((v42 && ((0 : Int) == v32)) == true) (.agg [.str v39, .int .i64 v40, .str v41])), (107, .cnd ((v42 && ((0 : Int) == v32)) == true) (.ptr (1, 0) 0 0)), (106, .bool (v42 && ((0 : Int) == v32))), (105, .bool (v42 && ((0 : Int) == v32))), (104, .cnd (v42 == true) (.bool ((0 : Int) == v32))), (102, .cnd (v42 == true) (.int .i64 0)), (103, .cnd (v42 == true) (.int .i64 v32)), (101, .cnd (v42 == true) (.isl 1 ((a2.take (if 8 < ((a2.map e_sl_TextEdit).length : Int) then 8 else ((a2.map e_sl_TextEdit).length : Int)).toNat).map e_sl_TextEdit) false)), (100, .cnd (v42 == true) (.ptr (1, 0) 0 0)), (99, .bool v42), (98, .bool v42), (2, .isl 1 ((a2.take (if 8 < ((a2.map e_sl_TextEdit).length : Int) then 8 else ((a2.map e_sl_TextEdit).length : Int)).toNat).map e_sl_TextEdit) false), (3, .ptr (0, 0) 0 0), (7, .ptr (1, 0) 0 0), (13, .int .i64 v32)] _ _
    refine And.intro (fun hc => (bqt hc)) ?_
    refine LWp.sim ?_ (f3_j7_ok h)
    exact simI (M := []) rfl (And.intro (Vw.same _ rfl) trivial) trivial

theorem f3_j5_ok {a0 : G_QDocument} {a1 : List G_QUpdate} {a2 : List (List G_TextEdit)} {v11 : List UInt8} {v12 : Int} {v13 : List UInt8} {v14 : List UInt8} {v15 : Int} {v16 : List UInt8} {v32 : Int} {v34 : List UInt8} {v35 : Int} {v36 : List UInt8} {m : Option Nat} {o : Bool} (h : S_glossatorlaw3_DocsyncReplica_j5 m a2 v11 v12 v13 v14 v15 v16 v32 v34 v35 v36 = some o) :
    LWp Try.prog f3_lay 0 f3_c4 (f3_Q a0 a1 a2 o) [(2, .isl 1 ((a2.take (if 8 < ((a2.map e_sl_TextEdit).length : Int) then 8 else ((a2.map e_sl_TextEdit).length : Int)).toNat).map e_sl_TextEdit) false), (3, .ptr (0, 0) 0 0), (7, .ptr (1, 0) 0 0), (12, .ptr (2, 0) 0 0), (13, .int .i64 v32)] [((0, 0), .one [.str v11, .int .i64 v12, .str v13]), ((1, 0), .one [.str v14, .int .i64 v15, .str v16]), ((2, 0), .one [.str v34, .int .i64 v35, .str v36])] 3 := by
  unfold S_glossatorlaw3_DocsyncReplica_j5 at h
  refine seqI ?_
  refine seqI ?_
  refine regI ?_
  refine condI (v := (v32 == 0)) rfl trivial (fun h39 => ?_) (fun h39 => ?_)
  · have h := ite_tt h39 h
    refine regI ?_
    refine LWp.sim ?_ (f3_j6_ok h)
    exact simI (M := [((0, 0), (0, 0)), ((1, 0), (1, 0))]) rfl (And.intro (Vw.same _ rfl) (And.intro (Vw.ptr _ _ _ _ rfl) (And.intro (Vw.ptr _ _ _ _ rfl) (And.intro (Vw.same _ rfl) trivial)))) (And.intro (And.intro rfl (BVw.oneL (And.intro (Vw.same _ rfl) (And.intro (Vw.same _ rfl) (And.intro (Vw.same _ rfl) trivial))))) (And.intro (And.intro rfl (BVw.oneL (And.intro (Vw.same _ rfl) (And.intro (Vw.same _ rfl) (And.intro (Vw.same _ rfl) trivial))))) trivial))
  · have h := ite_ff h39 h
    refine skipI ?_
    refine LWp.sim ?_ (f3_j6_ok h)
    exact simI (M := [((0, 0), (0, 0)), ((1, 0), (1, 0))]) rfl (And.intro (Vw.same _ rfl) (And.intro (Vw.ptr _ _ _ _ rfl) (And.intro (Vw.ptr _ _ _ _ rfl) (And.intro (Vw.same _ rfl) trivial)))) (And.intro (And.intro rfl (BVw.oneL (And.intro (Vw.same _ rfl) (And.intro (Vw.same _ rfl) (And.intro (Vw.same _ rfl) trivial))))) (And.intro (And.intro rfl (BVw.oneL (And.intro (Vw.same _ rfl) (And.intro (Vw.same _ rfl) (And.intro (Vw.same _ rfl) trivial))))) trivial))

theorem f3_L2_bok {a0 : G_QDocument} {a1 : List G_QUpdate} {a2 : List (List G_TextEdit)} {v11 : List UInt8} {v12 : Int} {v13 : List UInt8} {v14 : List UInt8} {v15 : Int} {v16 : List UInt8} {v32 : Int} {v33 : Int} {v34 : List UInt8} {v35 : Int} {v36 : List UInt8} {m : Option Nat} {o : (Int × Int × (List UInt8) × Int × (List UInt8)) ⊕ Bool} (h : S_glossatorlaw3_DocsyncReplica_b2 m a2 v11 v12 v13 v14 v15 v16 v32 v33 v34 v35 v36 = some o) :
    LWp Try.prog f3_lay 0 f3_c5 (BodyQ 0 3 (f3_L2_env a2 v11 v12 v13 v14 v15 v16) (f3_L2_hp a2 v11 v12 v13 v14 v15 v16) (f3_L2_Q a0 a1 a2) o) [(2, .isl 1 ((a2.take (if 8 < ((a2.map e_sl_TextEdit).length : Int) then 8 else ((a2.map e_sl_TextEdit).length : Int)).toNat).map e_sl_TextEdit) false), (3, .ptr (0, 0) 0 0), (7, .ptr (1, 0) 0 0), (12, .ptr (2, 0) 0 0), (13, .int .i64 v32), (14, .int .i64 v33)] [((0, 0), .one [.str v11, .int .i64 v12, .str v13]), ((1, 0), .one [.str v14, .int .i64 v15, .str v16]), ((2, 0), .one [.str v34, .int .i64 v35, .str v36])] 3 := by
  unfold S_glossatorlaw3_DocsyncReplica_b2 at h
  refine seqI ?_
  refine seqI ?_
  refine regI ?_
  refine And.intro (fun hp => hp) ?_
  show yops _ _ _ [(82, .cnd ((decide (v33 < (((a2.take (if 8 < ((a2.map e_sl_TextEdit).length : Int) then 8 else ((a2.map e_sl_TextEdit).length : Int)).toNat).map e_sl_TextEdit).length : Int))) == true) (.bool (v32 == 0))), (81, .cnd ((decide (v33 < (((a2.take (if 8 < ((a2.map e_sl_TextEdit).length : Int) then 8 else ((a2.map e_sl_TextEdit).length : Int)).toNat).map e_sl_TextEdit).length : Int))) == true) (.int .i64 v32)), (80, .bool (decide (v33 < (((a2.take (if 8 < ((a2.map e_sl_TextEdit).length : Int) then 8 else ((a2.map e_sl_TextEdit).length : Int)).toNat).map e_sl_TextEdit).length : Int)))), (79, .bool (decide (v33 < (((a2.take (if 8 < ((a2.map e_sl_TextEdit).length : Int) then 8 else ((a2.map e_sl_TextEdit).length : Int)).toNat).map e_sl_TextEdit).length : Int)))), (78, .int .i64 (((a2.take (if 8 < ((a2.map e_sl_TextEdit).length : Int) then 8 else ((a2.map e_sl_TextEdit).length : Int)).toNat).map e_sl_TextEdit).length : Int)), (77, .isl 1 ((a2.take (if 8 < ((a2.map e_sl_TextEdit).length : Int) then 8 else ((a2.map e_sl_TextEdit).length : Int)).toNat).map e_sl_TextEdit) false), (76, .int .i64 v33), (2, .isl 1 ((a2.take (if 8 < ((a2.map e_sl_TextEdit).length : Int) then 8 else ((a2.map e_sl_TextEdit).length : Int)).toNat).map e_sl_TextEdit) false), (3, .ptr (0, 0) 0 0), (7, .ptr (1, 0) 0 0), (12, .ptr (2, 0) 0 0), (13, .int .i64 v32), (14, .int .i64 v33)] _ _
  refine And.intro (fun hc => (bqt hc)) ?_
  refine LWp.sim (e := [(2, .isl 1 ((a2.take (if 8 < ((a2.map e_sl_TextEdit).length : Int) then 8 else ((a2.map e_sl_TextEdit).length : Int)).toNat).map e_sl_TextEdit) false), (3, .ptr (0, 0) 0 0), (7, .ptr (1, 0) 0 0), (12, .ptr (2, 0) 0 0), (13, .int .i64 v32), (14, .int .i64 v33), (83, .bool ((decide (v33 < (((a2.take (if 8 < ((a2.map e_sl_TextEdit).length : Int) then 8 else ((a2.map e_sl_TextEdit).length : Int)).toNat).map e_sl_TextEdit).length : Int))) && (v32 == 0)))]) (L := [((0, 0), .one [.str v11, .int .i64 v12, .str v13]), ((1, 0), .one [.str v14, .int .i64 v15, .str v16]), ((2, 0), .one [.str v34, .int .i64 v35, .str v36])]) (n := 3) ?_ ?_
  · exact simI (M := [((0, 0), (0, 0)), ((1, 0), (1, 0)), ((2, 0), (2, 0))]) rfl (And.intro (Vw.same _ rfl) (And.intro (Vw.ptr _ _ _ _ rfl) (And.intro (Vw.ptr _ _ _ _ rfl) (And.intro (Vw.ptr _ _ _ _ rfl) (And.intro (Vw.same _ rfl) (And.intro (Vw.same _ rfl) (And.intro (Vw.same _ rfl) trivial))))))) (And.intro (And.intro rfl (BVw.oneL (And.intro (Vw.same _ rfl) (And.intro (Vw.same _ rfl) (And.intro (Vw.same _ rfl) trivial))))) (And.intro (And.intro rfl (BVw.oneL (And.intro (Vw.same _ rfl) (And.intro (Vw.same _ rfl) (And.intro (Vw.same _ rfl) trivial))))) (And.intro (And.intro rfl (BVw.oneL (And.intro (Vw.same _ rfl) (And.intro (Vw.same _ rfl) (And.intro (Vw.same _ rfl) trivial))))) trivial)))
  refine condI (v := ((decide (v33 < (((a2.take (if 8 < ((a2.map e_sl_TextEdit).length : Int) then 8 else ((a2.map e_sl_TextEdit).length : Int)).toNat).map e_sl_TextEdit).length : Int))) && (v32 == 0))) rfl trivial (fun h36 => ?_) (fun h36 => ?_)
  · have h := ite_tt h36 h
    refine skipI ?_
    refine seqI ?_
    refine blockI ?_
    refine drawO rfl ?_
    obtain ⟨h37, h⟩ := ite_some h
    refine And.intro h37 ?_
    refine Exists.intro (e_sl_TextEdit ((a2.take (if 8 < ((a2.map e_sl_TextEdit).length : Int) then 8 else ((a2.map e_sl_TextEdit).length : Int)).toNat).getD v33.toNat default)) (And.intro (getD_enc e_sl_TextEdit _ _ (idx_ltL e_sl_TextEdit h37)) (And.intro (And.intro (idx_lt h37) (Nat.le_of_ble_eq_true rfl)) ?_))
    obtain ⟨v38, h38, h⟩ := bind_some h
    refine PFn.call (f7_ok h38) (And.intro (Vw.same _ rfl) (And.intro (Vw.same _ rfl) trivial)) ?_
    show yops _ _ _ [(92, .tup [.agg [.str v38.1.f_Name, .int .i64 v38.1.f_Version, .str v38.1.f_Text], .int .i64 v38.2]), (91, .isl 3 (((a2.take (if 8 < ((a2.map e_sl_TextEdit).length : Int) then 8 else ((a2.map e_sl_TextEdit).length : Int)).toNat).getD v33.toNat default).map e_TextEdit) false), (90, .iptr 1 ((a2.take (if 8 < ((a2.map e_sl_TextEdit).length : Int) then 8 else ((a2.map e_sl_TextEdit).length : Int)).toNat).map e_sl_TextEdit) v33.toNat 0), (89, .int .i64 v33), (88, .isl 1 ((a2.take (if 8 < ((a2.map e_sl_TextEdit).length : Int) then 8 else ((a2.map e_sl_TextEdit).length : Int)).toNat).map e_sl_TextEdit) false), (87, .agg [.str v34, .int .i64 v35, .str v36]), (2, .isl 1 ((a2.take (if 8 < ((a2.map e_sl_TextEdit).length : Int) then 8 else ((a2.map e_sl_TextEdit).length : Int)).toNat).map e_sl_TextEdit) false), (3, .ptr (0, 0) 0 0), (7, .ptr (1, 0) 0 0), (12, .ptr (2, 0) 0 0), (13, .int .i64 v32), (14, .int .i64 v33), (83, .bool ((decide (v33 < (((a2.take (if 8 < ((a2.map e_sl_TextEdit).length : Int) then 8 else ((a2.map e_sl_TextEdit).length : Int)).toNat).map e_sl_TextEdit).length : Int))) && (v32 == 0)))] _ _
    refine LWp.sim (e := [(2, .isl 1 ((a2.take (if 8 < ((a2.map e_sl_TextEdit).length : Int) then 8 else ((a2.map e_sl_TextEdit).length : Int)).toNat).map e_sl_TextEdit) false), (3, .ptr (0, 0) 0 0), (7, .ptr (1, 0) 0 0), (12, .ptr (2, 0) 0 0), (13, .int .i64 v38.2), (14, .int .i64 v33)]) (L := [((0, 0), .one [.str v11, .int .i64 v12, .str v13]), ((1, 0), .one [.str v14, .int .i64 v15, .str v16]), ((2, 0), .one [.str v38.1.f_Name, .int .i64 v38.1.f_Version, .str v38.1.f_Text])]) (n := 3) ?_ ?_
    · exact simI (M := [((0, 0), (0, 0)), ((1, 0), (1, 0)), ((2, 0), (2, 0))]) rfl (And.intro (Vw.same _ rfl) (And.intro (Vw.ptr _ _ _ _ rfl) (And.intro (Vw.ptr _ _ _ _ rfl) (And.intro (Vw.ptr _ _ _ _ rfl) (And.intro (Vw.same _ rfl) (And.intro (Vw.same _ rfl) trivial)))))) (And.intro (And.intro rfl (BVw.oneL (And.intro (Vw.same _ rfl) (And.intro (Vw.same _ rfl) (And.intro (Vw.same _ rfl) trivial))))) (And.intro (And.intro rfl (BVw.oneL (And.intro (Vw.same _ rfl) (And.intro (Vw.same _ rfl) (And.intro (Vw.same _ rfl) trivial))))) (And.intro (And.intro rfl (BVw.oneL (And.intro (Vw.same _ rfl) (And.intro (Vw.same _ rfl) (And.intro (Vw.same _ rfl) trivial))))) trivial)))
    refine regI ?_
    cases h
    exact And.intro rfl (simI (M := [((0, 0), (0, 0)), ((1, 0), (1, 0)), ((2, 0), (2, 0))]) rfl (And.intro (Vw.same _ rfl) (And.intro (Vw.ptr _ _ _ _ rfl) (And.intro (Vw.ptr _ _ _ _ rfl) (And.intro (Vw.ptr _ _ _ _ rfl) (And.intro (Vw.same _ rfl) (And.intro (Vw.same _ rfl) trivial)))))) (And.intro (And.intro rfl (BVw.oneL (And.intro (Vw.same _ rfl) (And.intro (Vw.same _ rfl) (And.intro (Vw.same _ rfl) trivial))))) (And.intro (And.intro rfl (BVw.oneL (And.intro (Vw.same _ rfl) (And.intro (Vw.same _ rfl) (And.intro (Vw.same _ rfl) trivial))))) (And.intro (And.intro rfl (BVw.oneL (And.intro (Vw.same _ rfl) (And.intro (Vw.same _ rfl) (And.intro (Vw.same _ rfl) trivial))))) trivial))))
  · have h := ite_ff h36 h
    refine exitI ?_
    obtain ⟨o, hq, rfl⟩ := Option.map_eq_some_iff.1 h
    replace h := hq; clear hq
    refine And.intro nofun ?_
    refine LWp.sim ?_ (f3_j5_ok h)
    exact simI (M := [((0, 0), (0, 0)), ((1, 0), (1, 0)), ((2, 0), (2, 0))]) rfl (And.intro (Vw.same _ rfl) (And.intro (Vw.ptr _ _ _ _ rfl) (And.intro (Vw.ptr _ _ _ _ rfl) (And.intro (Vw.ptr _ _ _ _ rfl) (And.intro (Vw.same _ rfl) trivial))))) (And.intro (And.intro rfl (BVw.oneL (And.intro (Vw.same _ rfl) (And.intro (Vw.same _ rfl) (And.intro (Vw.same _ rfl) trivial))))) (And.intro (And.intro rfl (BVw.oneL (And.intro (Vw.same _ rfl) (And.intro (Vw.same _ rfl) (And.intro (Vw.same _ rfl) trivial))))) (And.intro (And.intro rfl (BVw.oneL (And.intro (Vw.same _ rfl) (And.intro (Vw.same _ rfl) (And.intro (Vw.same _ rfl) trivial))))) trivial)))

theorem f3_L2_ok {a0 : G_QDocument} {a1 : List G_QUpdate} {a2 : List (List G_TextEdit)} {v11 : List UInt8} {v12 : Int} {v13 : List UInt8} {v14 : List UInt8} {v15 : Int} {v16 : List UInt8} {v32 : Int} {v33 : Int} {v34 : List UInt8} {v35 : Int} {v36 : List UInt8} {m : Option Nat} {o : Bool} (h : S_glossatorlaw3_DocsyncReplica_l2 m a2 v11 v12 v13 v14 v15 v16 v32 v33 v34 v35 v36 = some o) :
    LWp Try.prog f3_lay 0 (.loop f3_c5) (QBlock 3 (QSeq Try.prog f3_lay 0 f3_c4 (f3_Q a0 a1 a2 o))) [(2, .isl 1 ((a2.take (if 8 < ((a2.map e_sl_TextEdit).length : Int) then 8 else ((a2.map e_sl_TextEdit).length : Int)).toNat).map e_sl_TextEdit) false), (3, .ptr (0, 0) 0 0), (7, .ptr (1, 0) 0 0), (12, .ptr (2, 0) 0 0), (13, .int .i64 v32), (14, .int .i64 v33)] [((0, 0), .one [.str v11, .int .i64 v12, .str v13]), ((1, 0), .one [.str v14, .int .i64 v15, .str v16]), ((2, 0), .one [.str v34, .int .i64 v35, .str v36])] 3 :=
  LWp_loopM (m := m) (s := ((v32, v33, v34, v35, v36) : (Int × Int × (List UInt8) × Int × (List UInt8)))) (r := o) (fun (s : (Int × Int × (List UInt8) × Int × (List UInt8))) => S_glossatorlaw3_DocsyncReplica_b2 m a2 v11 v12 v13 v14 v15 v16 s.1 s.2.1 s.2.2.1 s.2.2.2.1 s.2.2.2.2) (f3_L2_env a2 v11 v12 v13 v14 v15 v16) (f3_L2_hp a2 v11 v12 v13 v14 v15 v16) (f3_L2_Q a0 a1 a2) (fun s o h => f3_L2_bok h) h

theorem f3_j4_ok {a0 : G_QDocument} {a1 : List G_QUpdate} {a2 : List (List G_TextEdit)} {v11 : List UInt8} {v12 : Int} {v13 : List UInt8} {v14 : List UInt8} {v15 : Int} {v16 : List UInt8} {m : Option Nat} {o : Bool} (h : S_glossatorlaw3_DocsyncReplica_j4 m a2 v11 v12 v13 v14 v15 v16 = some o) :
    LWp Try.prog f3_lay 0 f3_c1 (f3_Q a0 a1 a2 o) [(2, .isl 1 (a2.map e_sl_TextEdit) false), (3, .ptr (0, 0) 0 0), (7, .ptr (1, 0) 0 0)] [((0, 0), .one [.str v11, .int .i64 v12, .str v13]), ((1, 0), .one [.str v14, .int .i64 v15, .str v16])] 2 := by
  unfold S_glossatorlaw3_DocsyncReplica_j4 at h
  refine seqI ?_
  refine regI ?_
  obtain ⟨h29, h⟩ := ite_some h
  refine Exists.intro (.isl 1 ((a2.take (if 8 < ((a2.map e_sl_TextEdit).length : Int) then 8 else ((a2.map e_sl_TextEdit).length : Int)).toNat).map e_sl_TextEdit) false) (And.intro (sl_eq e_sl_TextEdit (slB e_sl_TextEdit a2 _) rfl) (And.intro (And.intro rfl (And.intro (Int.le_refl _) h29)) ?_))
  refine seqI ?_
  refine regI ?_
  refine LWp.sim (e := [(2, .isl 1 ((a2.take (if 8 < ((a2.map e_sl_TextEdit).length : Int) then 8 else ((a2.map e_sl_TextEdit).length : Int)).toNat).map e_sl_TextEdit) false), (3, .ptr (0, 0) 0 0), (7, .ptr (1, 0) 0 0), (12, .ptr (2, 0) 0 0), (13, .int .i64 0)]) (L := [((0, 0), .one [.str v11, .int .i64 v12, .str v13]), ((1, 0), .one [.str v14, .int .i64 v15, .str v16]), ((2, 0), .one [.str v11, .int .i64 v12, .str v13])]) (n := 3) ?_ ?_
  · exact simI (M := [((0, 0), (0, 0)), ((1, 0), (1, 0)), ((2, 0), (2, 0))]) rfl (And.intro (Vw.same _ rfl) (And.intro (Vw.ptr _ _ _ _ rfl) (And.intro (Vw.ptr _ _ _ _ rfl) (And.intro (Vw.ptr _ _ _ _ rfl) (And.intro (Vw.same _ rfl) trivial))))) (And.intro (And.intro rfl (BVw.oneL (And.intro (Vw.same _ rfl) (And.intro (Vw.same _ rfl) (And.intro (Vw.same _ rfl) trivial))))) (And.intro (And.intro rfl (BVw.oneL (And.intro (Vw.same _ rfl) (And.intro (Vw.same _ rfl) (And.intro (Vw.same _ rfl) trivial))))) (And.intro (And.intro rfl (BVw.oneL (And.intro (Vw.same _ rfl) (And.intro (Vw.same _ rfl) (And.intro (Vw.same _ rfl) trivial))))) trivial)))
  refine seqI ?_
  refine seqI ?_
  refine regI ?_
  refine blockI ?_
  refine LWp.sim ?_ (f3_L2_ok h)
  exact simI (M := [((0, 0), (0, 0)), ((1, 0), (1, 0)), ((2, 0), (2, 0))]) rfl (And.intro (Vw.same _ rfl) (And.intro (Vw.ptr _ _ _ _ rfl) (And.intro (Vw.ptr _ _ _ _ rfl) (And.intro (Vw.ptr _ _ _ _ rfl) (And.intro (Vw.same _ rfl) (And.intro (Vw.same _ rfl) trivial)))))) (And.intro (And.intro rfl (BVw.oneL (And.intro (Vw.same _ rfl) (And.intro (Vw.same _ rfl) (And.intro (Vw.same _ rfl) trivial))))) (And.intro (And.intro rfl (BVw.oneL (And.intro (Vw.same _ rfl) (And.intro (Vw.same _ rfl) (And.intro (Vw.same _ rfl) trivial))))) (And.intro (And.intro rfl (BVw.oneL (And.intro (Vw.same _ rfl) (And.intro (Vw.same _ rfl) (And.intro (Vw.same _ rfl) trivial))))) trivial)))

theorem f3_L1_bok {a0 : G_QDocument} {a1 : List G_QUpdate} {a2 : List (List G_TextEdit)} {v10 : Int} {v11 : List UInt8} {v12 : Int} {v13 : List UInt8} {v14 : List UInt8} {v15 : Int} {v16 : List UInt8} {m : Option Nat} {o : (Int × (List UInt8) × Int × (List UInt8) × (List UInt8) × Int × (List UInt8)) ⊕ Bool} (h : S_glossatorlaw3_DocsyncReplica_b1 m a1 a2 v10 v11 v12 v13 v14 v15 v16 = some o) :
    LWp Try.prog f3_lay 0 f3_c3 (BodyQ 0 2 (f3_L1_env a1 a2) (f3_L1_hp a1 a2) (f3_L1_Q a0 a1 a2) o) [(2, .isl 1 (a2.map e_sl_TextEdit) false), (3, .ptr (0, 0) 0 0), (7, .ptr (1, 0) 0 0), (25, .isl 5 ((a1.take (if 15 < ((a1.map e_QUpdate).length : Int) then 15 else ((a1.map e_QUpdate).length : Int)).toNat).map e_QUpdate) false), (26, .int .i64 (((a1.take (if 15 < ((a1.map e_QUpdate).length : Int) then 15 else ((a1.map e_QUpdate).length : Int)).toNat).map e_QUpdate).length : Int)), (27, .int .i64 v10)] [((0, 0), .one [.str v11, .int .i64 v12, .str v13]), ((1, 0), .one [.str v14, .int .i64 v15, .str v16])] 2 := by
  unfold S_glossatorlaw3_DocsyncReplica_b1 at h
  refine seqI ?_
  refine regI ?_
  refine seqI ?_
  refine condI (v := (decide (v10 < (((a1.take (if 15 < ((a1.map e_QUpdate).length : Int) then 15 else ((a1.map e_QUpdate).length : Int)).toNat).map e_QUpdate).length : Int)))) rfl trivial (fun h21 => ?_) (fun h21 => ?_)
  · have h := ite_tt h21 h
    refine skipI ?_
    refine seqI ?_
    refine blockI ?_
    refine seqI ?_
    refine regI ?_
    obtain ⟨h22, h⟩ := ite_some h
    refine And.intro h22 ?_
    refine Exists.intro (e_QUpdate ((a1.take (if 15 < ((a1.map e_QUpdate).length : Int) then 15 else ((a1.map e_QUpdate).length : Int)).toNat).getD v10.toNat default)) (And.intro (getD_enc e_QUpdate _ _ (idx_ltL e_QUpdate h22)) (And.intro (And.intro (idx_lt h22) (Nat.le_of_ble_eq_true rfl)) ?_))
    refine seqI ?_
    refine regI ?_
    refine seqI ?_
    refine regI ?_
    refine LWp.sim (e := [(2, .isl 1 (a2.map e_sl_TextEdit) false), (3, .ptr (0, 0) 0 0), (7, .ptr (1, 0) 0 0), (9, .ptr (2, 0) 0 0), (11, .ptr (3, 0) 0 0), (25, .isl 5 ((a1.take (if 15 < ((a1.map e_QUpdate).length : Int) then 15 else ((a1.map e_QUpdate).length : Int)).toNat).map e_QUpdate) false), (26, .int .i64 (((a1.take (if 15 < ((a1.map e_QUpdate).length : Int) then 15 else ((a1.map e_QUpdate).length : Int)).toNat).map e_QUpdate).length : Int)), (27, .int .i64 v10)]) (L := [((0, 0), .one [.str v11, .int .i64 v12, .str v13]), ((1, 0), .one [.str v14, .int .i64 v15, .str v16]), ((2, 0), .one [.int .i64 (((a1.take (if 15 < ((a1.map e_QUpdate).length : Int) then 15 else ((a1.map e_QUpdate).length : Int)).toNat).getD v10.toNat default).f_To), .int .i64 (((a1.take (if 15 < ((a1.map e_QUpdate).length : Int) then 15 else ((a1.map e_QUpdate).length : Int)).toNat).getD v10.toNat default).f_From), .str (((a1.take (if 15 < ((a1.map e_QUpdate).length : Int) then 15 else ((a1.map e_QUpdate).length : Int)).toNat).getD v10.toNat default).f_Name), .int .i64 (((a1.take (if 15 < ((a1.map e_QUpdate).length : Int) then 15 else ((a1.map e_QUpdate).length : Int)).toNat).getD v10.toNat default).f_Version), .isl 3 ((((a1.take (if 15 < ((a1.map e_QUpdate).length : Int) then 15 else ((a1.map e_QUpdate).length : Int)).toNat).getD v10.toNat default).f_Edits).map e_TextEdit) false]), ((3, 0), .one [.str v11, .int .i64 v12, .str v13])]) (n := 4) ?_ ?_
    · exact simI (M := [((0, 0), (0, 0)), ((1, 0), (1, 0)), ((2, 0), (2, 0)), ((3, 0), (3, 0))]) rfl (And.intro (Vw.same _ rfl) (And.intro (Vw.ptr _ _ _ _ rfl) (And.intro (Vw.ptr _ _ _ _ rfl) (And.intro (Vw.ptr _ _ _ _ rfl) (And.intro (Vw.ptr _ _ _ _ rfl) (And.intro (Vw.same _ rfl) (And.intro (Vw.same _ rfl) (And.intro (Vw.same _ rfl) trivial)))))))) (And.intro (And.intro rfl (BVw.oneL (And.intro (Vw.same _ rfl) (And.intro (Vw.same _ rfl) (And.intro (Vw.same _ rfl) trivial))))) (And.intro (And.intro rfl (BVw.oneL (And.intro (Vw.same _ rfl) (And.intro (Vw.same _ rfl) (And.intro (Vw.same _ rfl) trivial))))) (And.intro (And.intro rfl (BVw.oneL (And.intro (Vw.same _ rfl) (And.intro (Vw.same _ rfl) (And.intro (Vw.same _ rfl) (And.intro (Vw.same _ rfl) (And.intro (Vw.same _ rfl) trivial))))))) (And.intro (And.intro rfl (BVw.oneL (And.intro (Vw.same _ rfl) (And.intro (Vw.same _ rfl) (And.intro (Vw.same _ rfl) trivial))))) trivial))))
    refine seqI ?_
    refine blockI ?_
    refine seqI ?_
    refine regI ?_
    refine condI (v := (!(((a1.take (if 15 < ((a1.map e_QUpdate).length : Int) then 15 else ((a1.map e_QUpdate).length : Int)).toNat).getD v10.toNat default).f_Name == v11))) rfl trivial (fun h23 => ?_) (fun h23 => ?_)
    · have h := ite_tt h23 h
      refine regI ?_
      refine LWp.sim ?_ (f3_j3_ok h)
      exact simI (M := [((0, 0), (0, 0)), ((1, 0), (1, 0)), ((2, 0), (2, 0)), ((3, 0), (3, 0))]) rfl (And.intro (Vw.same _ rfl) (And.intro (Vw.ptr _ _ _ _ rfl) (And.intro (Vw.ptr _ _ _ _ rfl) (And.intro (Vw.ptr _ _ _ _ rfl) (And.intro (Vw.same _ rfl) (And.intro (Vw.ptr _ _ _ _ rfl) (And.intro (Vw.same _ rfl) (And.intro (Vw.same _ rfl) (And.intro (Vw.same _ rfl) trivial))))))))) (And.intro (And.intro rfl (BVw.oneL (And.intro (Vw.same _ rfl) (And.intro (Vw.same _ rfl) (And.intro (Vw.same _ rfl) trivial))))) (And.intro (And.intro rfl (BVw.oneL (And.intro (Vw.same _ rfl) (And.intro (Vw.same _ rfl) (And.intro (Vw.same _ rfl) trivial))))) (And.intro (And.intro rfl (BVw.oneL (And.intro (Vw.same _ rfl) (And.intro (Vw.same _ rfl) (And.intro (Vw.same _ rfl) (And.intro (Vw.same _ rfl) (And.intro (Vw.same _ rfl) trivial))))))) (And.intro (And.intro rfl (BVw.oneL (And.intro (Vw.same _ rfl) (And.intro (Vw.same _ rfl) (And.intro (Vw.same _ rfl) trivial))))) trivial))))
    · have h := ite_ff h23 h
      refine seqI ?_
      refine regI ?_
      refine And.intro (fun hp => hp) ?_
      show yops _ _ _ [(51, .cnd ((((a1.take (if 15 < ((a1.map e_QUpdate).length : Int) then 15 else ((a1.map e_QUpdate).length : Int)).toNat).getD v10.toNat default).f_Version == (-9223372036854775808)) == false) (.int .i64 (((a1.take (if 15 < ((a1.map e_QUpdate).length : Int) then 15 else ((a1.map e_QUpdate).length : Int)).toNat).getD v10.toNat default).f_Version))), (50, .cnd ((((a1.take (if 15 < ((a1.map e_QUpdate).length : Int) then 15 else ((a1.map e_QUpdate).length : Int)).toNat).getD v10.toNat default).f_Version == (-9223372036854775808)) == false) (.ptr (2, 0) 0 3)), (49, .bool (((a1.take (if 15 < ((a1.map e_QUpdate).length : Int) then 15 else ((a1.map e_QUpdate).length : Int)).toNat).getD v10.toNat default).f_Version == (-9223372036854775808))), (48, .bool (((a1.take (if 15 < ((a1.map e_QUpdate).length : Int) then 15 else ((a1.map e_QUpdate).length : Int)).toNat).getD v10.toNat default).f_Version == (-9223372036854775808))), (47, .int .i64 (((a1.take (if 15 < ((a1.map e_QUpdate).length : Int) then 15 else ((a1.map e_QUpdate).length : Int)).toNat).getD v10.toNat default).f_Version)), (46, .ptr (2, 0) 0 3), (39, .bool (!(((a1.take (if 15 < ((a1.map e_QUpdate).length : Int) then 15 else ((a1.map e_QUpdate).length : Int)).toNat).getD v10.toNat default).f_Name == v11))), (44, .bool (!(((a1.take (if 15 < ((a1.map e_QUpdate).length : Int) then 15 else ((a1.map e_QUpdate).length : Int)).toNat).getD v10.toNat default).f_Name == v11))), (43, .str v11), (42, .ptr (0, 0) 0 0), (41, .str (((a1.take (if 15 < ((a1.map e_QUpdate).length : Int) then 15 else ((a1.map e_QUpdate).length : Int)).toNat).getD v10.toNat default).f_Name)), (40, .ptr (2, 0) 0 2), (2, .isl 1 (a2.map e_sl_TextEdit) false), (3, .ptr (0, 0) 0 0), (7, .ptr (1, 0) 0 0), (9, .ptr (2, 0) 0 0), (11, .ptr (3, 0) 0 0), (25, .isl 5 ((a1.take (if 15 < ((a1.map e_QUpdate).length : Int) then 15 else ((a1.map e_QUpdate).length : Int)).toNat).map e_QUpdate) false), (26, .int .i64 (((a1.take (if 15 < ((a1.map e_QUpdate).length : Int) then 15 else ((a1.map e_QUpdate).length : Int)).toNat).map e_QUpdate).length : Int)), (27, .int .i64 v10)] _ _
      refine And.intro (fun hp => hp) ?_
      refine And.intro (fun hp => hp) ?_
      refine And.intro (fun hp => (And.intro hp hp)) ?_
      refine And.intro (fun hc => (bqf hc)) ?_
      show yops _ _ _ [(56, .bool ((((a1.take (if 15 < ((a1.map e_QUpdate).length : Int) then 15 else ((a1.map e_QUpdate).length : Int)).toNat).getD v10.toNat default).f_Version == (-9223372036854775808)) || ((W (((a1.take (if 15 < ((a1.map e_QUpdate).length : Int) then 15 else ((a1.map e_QUpdate).length : Int)).toNat).getD v10.toNat default).f_Version - 1)) != v12))), (55, .cnd ((((a1.take (if 15 < ((a1.map e_QUpdate).length : Int) then 15 else ((a1.map e_QUpdate).length : Int)).toNat).getD v10.toNat default).f_Version == (-9223372036854775808)) == false) (.bool ((W (((a1.take (if 15 < ((a1.map e_QUpdate).length : Int) then 15 else ((a1.map e_QUpdate).length : Int)).toNat).getD v10.toNat default).f_Version - 1)) != v12))), (54, .cnd ((((a1.take (if 15 < ((a1.map e_QUpdate).length : Int) then 15 else ((a1.map e_QUpdate).length : Int)).toNat).getD v10.toNat default).f_Version == (-9223372036854775808)) == false) (.int .i64 v12)), (53, .cnd ((((a1.take (if 15 < ((a1.map e_QUpdate).length : Int) then 15 else ((a1.map e_QUpdate).length : Int)).toNat).getD v10.toNat default).f_Version == (-9223372036854775808)) == false) (.ptr (0, 0) 0 1)), (52, .cnd ((((a1.take (if 15 < ((a1.map e_QUpdate).length : Int) then 15 else ((a1.map e_QUpdate).length : Int)).toNat).getD v10.toNat default).f_Version == (-9223372036854775808)) == false) (.int .i64 (W (((a1.take (if 15 < ((a1.map e_QUpdate).length : Int) then 15 else ((a1.map e_QUpdate).length : Int)).toNat).getD v10.toNat default).f_Version - 1)))), (51, .cnd ((((a1.take (if 15 < ((a1.map e_QUpdate).length : Int) then 15 else ((a1.map e_QUpdate).length : Int)).toNat).getD v10.toNat default).f_Version == (-9223372036854775808)) == false) (.int .i64 (((a1.take (if 15 < ((a1.map e_QUpdate).length : Int) then 15 else ((a1.map e_QUpdate).length : Int)).toNat).getD v10.toNat default).f_Version))), (50, .cnd ((((a1.take (if 15 < ((a1.map e_QUpdate).length : Int) then 15 else ((a1.map e_QUpdate).length : Int)).toNat).getD v10.toNat default).f_Version == (-9223372036854775808)) == false) (.ptr (2, 0) 0 3)), (49, .bool (((a1.take (if 15 < ((a1.map e_QUpdate).length : Int) then 15 else ((a1.map e_QUpdate).length : Int)).toNat).getD v10.toNat default).f_Version == (-9223372036854775808))), (48, .bool (((a1.take (if 15 < ((a1.map e_QUpdate).length : Int) then 15 else ((a1.map e_QUpdate).length : Int)).toNat).getD v10.toNat default).f_Version == (-9223372036854775808))), (47, .int .i64 (((a1.take (if 15 < ((a1.map e_QUpdate).length : Int) then 15 else ((a1.map e_QUpdate).length : Int)).toNat).getD v10.toNat default).f_Version)), (46, .ptr (2, 0) 0 3), (39, .bool (!(((a1.take (if 15 < ((a1.map e_QUpdate).length : Int) then 15 else ((a1.map e_QUpdate).length : Int)).toNat).getD v10.toNat default).f_Name == v11))), (44, .bool (!(((a1.take (if 15 < ((a1.map e_QUpdate).length : Int) then 15 else ((a1.map e_QUpdate).length : Int)).toNat).getD v10.toNat default).f_Name == v11))), (43, .str v11), (42, .ptr (0, 0) 0 0), (41, .str (((a1.take (if 15 < ((a1.map e_QUpdate).length : Int) then 15 else ((a1.map e_QUpdate).length : Int)).toNat).getD v10.toNat default).f_Name)), (40, .ptr (2, 0) 0 2), (2, .isl 1 (a2.map e_sl_TextEdit) false), (3, .ptr (0, 0) 0 0), (7, .ptr (1, 0) 0 0), (9, .ptr (2, 0) 0 0), (11, .ptr (3, 0) 0 0), (25, .isl 5 ((a1.take (if 15 < ((a1.map e_QUpdate).length : Int) then 15 else ((a1.map e_QUpdate).length : Int)).toNat).map e_QUpdate) false), (26, .int .i64 (((a1.take (if 15 < ((a1.map e_QUpdate).length : Int) then 15 else ((a1.map e_QUpdate).length : Int)).toNat).map e_QUpdate).length : Int)), (27, .int .i64 v10)] _ _
      refine LWp.sim (e := [(2, .isl 1 (a2.map e_sl_TextEdit) false), (3, .ptr (0, 0) 0 0), (7, .ptr (1, 0) 0 0), (9, .ptr (2, 0) 0 0), (11, .ptr (3, 0) 0 0), (25, .isl 5 ((a1.take (if 15 < ((a1.map e_QUpdate).length : Int) then 15 else ((a1.map e_QUpdate).length : Int)).toNat).map e_QUpdate) false), (26, .int .i64 (((a1.take (if 15 < ((a1.map e_QUpdate).length : Int) then 15 else ((a1.map e_QUpdate).length : Int)).toNat).map e_QUpdate).length : Int)), (27, .int .i64 v10), (45, .bool ((((a1.take (if 15 < ((a1.map e_QUpdate).length : Int) then 15 else ((a1.map e_QUpdate).length : Int)).toNat).getD v10.toNat default).f_Version == (-9223372036854775808)) || ((W (((a1.take (if 15 < ((a1.map e_QUpdate).length : Int) then 15 else ((a1.map e_QUpdate).length : Int)).toNat).getD v10.toNat default).f_Version - 1)) != v12)))]) (L := [((0, 0), .one [.str v11, .int .i64 v12, .str v13]), ((1, 0), .one [.str v14, .int .i64 v15, .str v16]), ((2, 0), .one [.int .i64 (((a1.take (if 15 < ((a1.map e_QUpdate).length : Int) then 15 else ((a1.map e_QUpdate).length : Int)).toNat).getD v10.toNat default).f_To), .int .i64 (((a1.take (if 15 < ((a1.map e_QUpdate).length : Int) then 15 else ((a1.map e_QUpdate).length : Int)).toNat).getD v10.toNat default).f_From), .str (((a1.take (if 15 < ((a1.map e_QUpdate).length : Int) then 15 else ((a1.map e_QUpdate).length : Int)).toNat).getD v10.toNat default).f_Name), .int .i64 (((a1.take (if 15 < ((a1.map e_QUpdate).length : Int) then 15 else ((a1.map e_QUpdate).length : Int)).toNat).getD v10.toNat default).f_Version), .isl 3 ((((a1.take (if 15 < ((a1.map e_QUpdate).length : Int) then 15 else ((a1.map e_QUpdate).length : Int)).toNat).getD v10.toNat default).f_Edits).map e_TextEdit) false]), ((3, 0), .one [.str v11, .int .i64 v12, .str v13])]) (n := 4) ?_ ?_
      · exact simI (M := [((0, 0), (0, 0)), ((1, 0), (1, 0)), ((2, 0), (2, 0)), ((3, 0), (3, 0))]) rfl (And.intro (Vw.same _ rfl) (And.intro (Vw.ptr _ _ _ _ rfl) (And.intro (Vw.ptr _ _ _ _ rfl) (And.intro (Vw.ptr _ _ _ _ rfl) (And.intro (Vw.ptr _ _ _ _ rfl) (And.intro (Vw.same _ rfl) (And.intro (Vw.same _ rfl) (And.intro (Vw.same _ rfl) (And.intro (Vw.same _ rfl) trivial))))))))) (And.intro (And.intro rfl (BVw.oneL (And.intro (Vw.same _ rfl) (And.intro (Vw.same _ rfl) (And.intro (Vw.same _ rfl) trivial))))) (And.intro (And.intro rfl (BVw.oneL (And.intro (Vw.same _ rfl) (And.intro (Vw.same _ rfl) (And.intro (Vw.same _ rfl) trivial))))) (And.intro (And.intro rfl (BVw.oneL (And.intro (Vw.same _ rfl) (And.intro (Vw.same _ rfl) (And.intro (Vw.same _ rfl) (And.intro (Vw.same _ rfl) (And.intro (Vw.same _ rfl) trivial))))))) (And.intro (And.intro rfl (BVw.oneL (And.intro (Vw.same _ rfl) (And.intro (Vw.same _ rfl) (And.intro (Vw.same _ rfl) trivial))))) trivial))))
      refine condI (v := ((((a1.take (if 15 < ((a1.map e_QUpdate).length : Int) then 15 else ((a1.map e_QUpdate).length : Int)).toNat).getD v10.toNat default).f_Version == (-9223372036854775808)) || ((W (((a1.take (if 15 < ((a1.map e_QUpdate).length : Int) then 15 else ((a1.map e_QUpdate).length : Int)).toNat).getD v10.toNat default).f_Version - 1)) != v12))) rfl trivial (fun h24 => ?_) (fun h24 => ?_)
      · have h := ite_tt h24 h
        refine regI ?_
        refine LWp.sim ?_ (f3_j3_ok h)
        exact simI (M := [((0, 0), (0, 0)), ((1, 0), (1, 0)), ((2, 0), (2, 0)), ((3, 0), (3, 0))]) rfl (And.intro (Vw.same _ rfl) (And.intro (Vw.ptr _ _ _ _ rfl) (And.intro (Vw.ptr _ _ _ _ rfl) (And.intro (Vw.ptr _ _ _ _ rfl) (And.intro (Vw.same _ rfl) (And.intro (Vw.ptr _ _ _ _ rfl) (And.intro (Vw.same _ rfl) (And.intro (Vw.same _ rfl) (And.intro (Vw.same _ rfl) trivial))))))))) (And.intro (And.intro rfl (BVw.oneL (And.intro (Vw.same _ rfl) (And.intro (Vw.same _ rfl) (And.intro (Vw.same _ rfl) trivial))))) (And.intro (And.intro rfl (BVw.oneL (And.intro (Vw.same _ rfl) (And.intro (Vw.same _ rfl) (And.intro (Vw.same _ rfl) trivial))))) (And.intro (And.intro rfl (BVw.oneL (And.intro (Vw.same _ rfl) (And.intro (Vw.same _ rfl) (And.intro (Vw.same _ rfl) (And.intro (Vw.same _ rfl) (And.intro (Vw.same _ rfl) trivial))))))) (And.intro (And.intro rfl (BVw.oneL (And.intro (Vw.same _ rfl) (And.intro (Vw.same _ rfl) (And.intro (Vw.same _ rfl) trivial))))) trivial))))
      · have h := ite_ff h24 h
        refine regI ?_
        obtain ⟨v24, h25, h⟩ := bind_some h
        refine PFn.call (f7_ok h25) (And.intro (Vw.same _ rfl) (And.intro (Vw.same _ rfl) trivial)) ?_
        refine LWp.sim ?_ (f3_j3_ok h)
        exact simI (M := [((0, 0), (0, 0)), ((1, 0), (1, 0)), ((2, 0), (2, 0)), ((3, 0), (3, 0))]) rfl (And.intro (Vw.same _ rfl) (And.intro (Vw.ptr _ _ _ _ rfl) (And.intro (Vw.ptr _ _ _ _ rfl) (And.intro (Vw.ptr _ _ _ _ rfl) (And.intro (Vw.same _ rfl) (And.intro (Vw.ptr _ _ _ _ rfl) (And.intro (Vw.same _ rfl) (And.intro (Vw.same _ rfl) (And.intro (Vw.same _ rfl) trivial))))))))) (And.intro (And.intro rfl (BVw.oneL (And.intro (Vw.same _ rfl) (And.intro (Vw.same _ rfl) (And.intro (Vw.same _ rfl) trivial))))) (And.intro (And.intro rfl (BVw.oneL (And.intro (Vw.same _ rfl) (And.intro (Vw.same _ rfl) (And.intro (Vw.same _ rfl) trivial))))) (And.intro (And.intro rfl (BVw.oneL (And.intro (Vw.same _ rfl) (And.intro (Vw.same _ rfl) (And.intro (Vw.same _ rfl) (And.intro (Vw.same _ rfl) (And.intro (Vw.same _ rfl) trivial))))))) (And.intro (And.intro rfl (BVw.oneL (And.intro (Vw.same _ rfl) (And.intro (Vw.same _ rfl) (And.intro (Vw.same _ rfl) trivial))))) trivial))))
  · have h := ite_ff h21 h
    refine exitI ?_
    obtain ⟨o, hq, rfl⟩ := Option.map_eq_some_iff.1 h
    replace h := hq; clear hq
    refine And.intro nofun ?_
    refine LWp.sim ?_ (f3_j4_ok h)
    exact simI (M := [((0, 0), (0, 0)), ((1, 0), (1, 0))]) rfl (And.intro (Vw.same _ rfl) (And.intro (Vw.ptr _ _ _ _ rfl) (And.intro (Vw.ptr _ _ _ _ rfl) trivial))) (And.intro (And.intro rfl (BVw.oneL (And.intro (Vw.same _ rfl) (And.intro (Vw.same _ rfl) (And.intro (Vw.same _ rfl) trivial))))) (And.intro (And.intro rfl (BVw.oneL (And.intro (Vw.same _ rfl) (And.intro (Vw.same _ rfl) (And.intro (Vw.same _ rfl) trivial))))) trivial))

theorem f3_L1_ok {a0 : G_QDocument} {a1 : List G_QUpdate} {a2 : List (List G_TextEdit)} {v10 : Int} {v11 : List UInt8} {v12 : Int} {v13 : List UInt8} {v14 : List UInt8} {v15 : Int} {v16 : List UInt8} {m : Option Nat} {o : Bool} (h : S_glossatorlaw3_DocsyncReplica_l1 m a1 a2 v10 v11 v12 v13 v14 v15 v16 = some o) :
    LWp Try.prog f3_lay 0 (.loop f3_c3) (QBlock 0 (QSeq Try.prog f3_lay 0 f3_c1 (f3_Q a0 a1 a2 o))) [(2, .isl 1 (a2.map e_sl_TextEdit) false), (3, .ptr (0, 0) 0 0), (7, .ptr (1, 0) 0 0), (25, .isl 5 ((a1.take (if 15 < ((a1.map e_QUpdate).length : Int) then 15 else ((a1.map e_QUpdate).length : Int)).toNat).map e_QUpdate) false), (26, .int .i64 (((a1.take (if 15 < ((a1.map e_QUpdate).length : Int) then 15 else ((a1.map e_QUpdate).length : Int)).toNat).map e_QUpdate).length : Int)), (27, .int .i64 v10)] [((0, 0), .one [.str v11, .int .i64 v12, .str v13]), ((1, 0), .one [.str v14, .int .i64 v15, .str v16])] 2 :=
  LWp_loopM (m := m) (s := ((v10, v11, v12, v13, v14, v15, v16) : (Int × (List UInt8) × Int × (List UInt8) × (List UInt8) × Int × (List UInt8)))) (r := o) (fun (s : (Int × (List UInt8) × Int × (List UInt8) × (List UInt8) × Int × (List UInt8))) => S_glossatorlaw3_DocsyncReplica_b1 m a1 a2 s.1 s.2.1 s.2.2.1 s.2.2.2.1 s.2.2.2.2.1 s.2.2.2.2.2.1 s.2.2.2.2.2.2) (f3_L1_env a1 a2) (f3_L1_hp a1 a2) (f3_L1_Q a0 a1 a2) (fun s o h => f3_L1_bok h) h

noncomputable def S_glossatorlaw3_DocsyncReplica (m : Option Nat) (a0 : G_QDocument) (a1 : List G_QUpdate) (a2 : List (List G_TextEdit)) : Option Bool :=
  (S_glossatorlaw3_syncExample (some 4096)).bind fun v1 =>
  if (!v1) = true then
    some false
  else
    (S_docsync_NewReplica m a0).bind fun v2 =>
    if (0 : Int) ≤ (if 15 < ((a1.map e_QUpdate).length : Int) then 15 else ((a1.map e_QUpdate).length : Int)) ∧ (if 15 < ((a1.map e_QUpdate).length : Int) then 15 else ((a1.map e_QUpdate).length : Int)) ≤ ((a1.map e_QUpdate).length : Int) then
    S_glossatorlaw3_DocsyncReplica_l1 m a1 a2 0 a0.f_Name a0.f_Version a0.f_Text v2.1 v2.2.1 v2.2.2
    else none

theorem f3_start {a0 : G_QDocument} {a1 : List G_QUpdate} {a2 : List (List G_TextEdit)} {m : Option Nat} {o : Bool} (h : S_glossatorlaw3_DocsyncReplica m a0 a1 a2 = some o) : LWp Try.prog f3_lay 0 f3_c8 (f3_Q a0 a1 a2 o) (initEnv 0 [.agg [.str a0.f_Name, .int .i64 a0.f_Version, .str a0.f_Text], .isl 5 (a1.map e_QUpdate) false, .isl 1 (a2.map e_sl_TextEdit) false]) [] 0 := by
  unfold S_glossatorlaw3_DocsyncReplica at h
  refine seqI ?_
  refine regI ?_
  refine seqI ?_
  refine seqI ?_
  refine regI ?_
  obtain ⟨v1, h1, h⟩ := bind_some h
  refine PFn.call (f5_ok h1) trivial ?_
  refine condI (v := (!v1)) rfl trivial (fun h2 => ?_) (fun h2 => ?_)
  · have h := ite_tt h2 h
    refine seqI ?_
    refine regI ?_
    refine retI ?_
    cases h
    exact And.intro trivial (And.intro rfl (Vw.same _ rfl))
  · have h := ite_ff h2 h
    refine skipI ?_
    refine seqI ?_
    refine regI ?_
    obtain ⟨v2, h3, h⟩ := bind_some h
    refine bcall (k := 3) (m := 1) (L' := [((1, 0), .one [.str v2.1, .int .i64 v2.2.1, .str v2.2.2])]) (rest := [((0, 0), .one [.str a0.f_Name, .int .i64 a0.f_Version, .str a0.f_Text])]) (R' := .ptr (1, 0) 0 0) [] (f6b0_ok h3) rfl rfl rfl (And.intro (Vw.same _ rfl) trivial) trivial rfl (And.intro rfl (And.intro rfl trivial)) rfl ?_
    show yops _ _ _ [(18, .ptr (1, 0) 0 0), (17, .agg [.str a0.f_Name, .int .i64 a0.f_Version, .str a0.f_Text]), (16, .bool (!v1)), (15, .bool v1), (6, .bool false), (3, .ptr (0, 0) 0 0), (0, .agg [.str a0.f_Name, .int .i64 a0.f_Version, .str a0.f_Text]), (1, .isl 5 (a1.map e_QUpdate) false), (2, .isl 1 (a2.map e_sl_TextEdit) false)] _ _
    refine seqI ?_
    refine seqI ?_
    refine regI ?_
    refine LWp.sim (e := [(1, .isl 5 (a1.map e_QUpdate) false), (2, .isl 1 (a2.map e_sl_TextEdit) false), (3, .ptr (0, 0) 0 0), (7, .ptr (1, 0) 0 0), (20, .bool false)]) (L := [((0, 0), .one [.str a0.f_Name, .int .i64 a0.f_Version, .str a0.f_Text]), ((1, 0), .one [.str v2.1, .int .i64 v2.2.1, .str v2.2.2])]) (n := 2) ?_ ?_
    · exact simI (M := [((0, 0), (0, 0)), ((1, 0), (1, 0))]) rfl (And.intro (Vw.same _ rfl) (And.intro (Vw.same _ rfl) (And.intro (Vw.ptr _ _ _ _ rfl) (And.intro (Vw.ptr _ _ _ _ rfl) (And.intro (Vw.same _ rfl) trivial))))) (And.intro (And.intro rfl (BVw.oneL (And.intro (Vw.same _ rfl) (And.intro (Vw.same _ rfl) (And.intro (Vw.same _ rfl) trivial))))) (And.intro (And.intro rfl (BVw.oneL (And.intro (Vw.same _ rfl) (And.intro (Vw.same _ rfl) (And.intro (Vw.same _ rfl) trivial))))) trivial))
    refine condI (v := false) rfl trivial (fun hc => Bool.noConfusion hc) (fun hc => ?_)
    refine skipI ?_
    refine seqI ?_
    refine seqI ?_
    refine regI ?_
    obtain ⟨h4, h⟩ := ite_some h
    refine Exists.intro (.isl 5 ((a1.take (if 15 < ((a1.map e_QUpdate).length : Int) then 15 else ((a1.map e_QUpdate).length : Int)).toNat).map e_QUpdate) false) (And.intro (sl_eq e_QUpdate (slB e_QUpdate a1 _) rfl) (And.intro (And.intro rfl (And.intro (Int.le_refl _) h4)) ?_))
    refine blockI ?_
    refine LWp.sim ?_ (f3_L1_ok h)
    exact simI (M := [((0, 0), (0, 0)), ((1, 0), (1, 0))]) rfl (And.intro (Vw.same _ rfl) (And.intro (Vw.ptr _ _ _ _ rfl) (And.intro (Vw.ptr _ _ _ _ rfl) (And.intro (Vw.same _ rfl) (And.intro (Vw.same _ rfl) (And.intro (Vw.same _ rfl) trivial)))))) (And.intro (And.intro rfl (BVw.oneL (And.intro (Vw.same _ rfl) (And.intro (Vw.same _ rfl) (And.intro (Vw.same _ rfl) trivial))))) (And.intro (And.intro rfl (BVw.oneL (And.intro (Vw.same _ rfl) (And.intro (Vw.same _ rfl) (And.intro (Vw.same _ rfl) trivial))))) trivial))

theorem f3_ok {a0 : G_QDocument} {a1 : List G_QUpdate} {a2 : List (List G_TextEdit)} {m : Option Nat} {o : Bool} (h : S_glossatorlaw3_DocsyncReplica m a0 a1 a2 = some o) : PFn Try.prog 3 [.agg [.str a0.f_Name, .int .i64 a0.f_Version, .str a0.f_Text], .isl 5 (a1.map e_QUpdate) false, .isl 1 (a2.map e_sl_TextEdit) false] (.bool o) := PFn.ofFnW (L := f3_L) f3_low f3_fok (Nat.le_of_ble_eq_true rfl) rfl (f3_start h)
end Go.Proofs.Ytlenhplodggefaa
