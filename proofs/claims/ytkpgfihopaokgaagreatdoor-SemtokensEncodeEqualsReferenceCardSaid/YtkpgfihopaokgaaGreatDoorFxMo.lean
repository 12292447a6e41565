/-
  Own framework.
-/
import Derived.Test.YtkpgfihopaokgaaGreatDoorFxEu
import Derived.Shelf.Strings.Count
import Derived.Shelf.Strings.Fields
import Derived.Test.YtkpgfihopaokgaaGreatDoorFxEz
namespace Go.Fx
open Go.Shelf
set_option linter.unusedVariables false
variable {P : Program}
theorem Ub {ρ : Ren} (L : Proofs.Lays.n138 P ρ) {f : FuncId} (hf : ρ.f 138 = f) (hok : Qh P f) (s : List UInt8) (c : UInt8) :
 PFn P f [.str s, .str [c]] (.int .i64 (Lib.countByte s c)) := by
 subst hf
 exact PFn.lib hok rfl rfl fun w => (Proofs.Any.strings_Count_one L ⟨⟨s⟩⟩ c w).mono fun e w' h => ⟨h.1, z2h h.2⟩
def Ju (fc : Nat) (f : Nat) (xs : List AVal) (S : Sh) : Option Rs :=
 match Nat.beq f fc with
 | true => match xs with
  | [.str s, .str [c]] => some (some (.int .i64 (Lib.countByte s c), S))
  | _ => none
 | false => none
theorem zb0 {fc : Nat} (h0 : ∀ (s : List UInt8) (c : UInt8), PFn P fc [.str s, .str [c]] (.int .i64 (Lib.countByte s c))) : k7 P (Ju fc) := by
 intro f xs S r S' h D H n hs
 unfold Ju at h
 split at h <;> try (cases h; done)
 rename_i hf
 have hf := y7.1 hf
 subst hf
 split at h <;> try (cases h; done)
 rename_i s c
 simp only [Option.some.injEq, Prod.mk.injEq] at h
 obtain ⟨rfl, rfl⟩ := h
 exact PFn.call (h0 s c) (And.intro (Vw.same _ rfl) (And.intro (Vw.same _ rfl) trivial)) ⟨rfl, hs⟩
open Go.Shelf Go.RowKit Go.Lib Go.Proofs
variable {P : Program}
def z2v : List Value := (List.range 256).map fun c => .int .u8 (if Lib.isSp (UInt8.ofNat c) then 1 else 0)
theorem z1y {ρ : Ren} (L : Lays.n157 P ρ) (hi9 : (P.info? (ρ.t 9)).map (fun i => (i.zero, i.size, i.bytes)) = some (some (.string ByteArray.empty), 1, 16)) {f : FuncId} (hf : ρ.f 157 = f) (hok : Qh P f) (hg : (ρ.g 0, z2v) ∈ GL) {s : List UInt8} (hs : s.length < 4294967281)
 (ha : s.all (fun b => decide (b.toNat < 128)) = true) {H : AHeap} {n : Nat} {K : AVal → AHeap → Nat → Prop} (hk : K (.msl (n, 0) 1 0 (Lib.fields s).length true) (((n, 0), .rows 1 ((Lib.fields s).map fun l => [.str l])) :: H) (n + 1)) : ACalls P f [.str s] H n K := by
 subst hf
 refine ⟨hok, fun I β w vs hI hl hr => ?_⟩
 obtain ⟨v, rfl⟩ : ∃ v, vs = [v] := by
  match vs, hl with
  | [v], _ => exact ⟨v, rfl⟩
 have hv : v = zk0 (.str s) := z5x rfl (hr 0 _ v rfl rfl)
 subst hv
 have hT : ∀ c : Nat, c < 256 → w.cell? ⟨ρ.g 0, c, none⟩ = some (.int .u8 (if Lib.isSp (UInt8.ofNat c) then 1 else 0)) := fun c hc => ((hI.glob.1 _ hg).2 c _ (by simp [z2v, hc])).2
 refine (Any.strings_Fields_core L hi9 ⟨⟨s⟩⟩ w (by simpa [ByteArray.size] using hs) (fun j b hb => by simpa using List.all_eq_true.1 ha b (List.mem_of_getElem? hb)) hT).mono ?_
 rintro e w' ⟨rfl, rfl⟩
 have hrows : RowsIn I β n w 1 0 ((Lib.fields s).map fun l => [.str l]) ((Lib.fields s).map fun l => Value.string ⟨l.toArray⟩).toArray := by
  refine ⟨by simp, fun i r hi => ?_, fun i r j x hi hj => ?_⟩
  ·simp only [List.getElem?_map, Option.map_eq_some_iff] at hi
   obtain ⟨l, _, rfl⟩ := hi
   rfl
  ·simp only [List.getElem?_map, Option.map_eq_some_iff] at hi
   obtain ⟨l, hl, rfl⟩ := hi
   cases j with
   | zero =>
    simp only [List.getElem?_cons_zero, Option.some.injEq] at hj
    subst hj
    exact ⟨.string ⟨l.toArray⟩, by simp [hl], rfl, .imm _ _ (.str _)⟩
   | succ j => simp at hj
 obtain ⟨r, H', n', I', β', g1, g2, g3, g4⟩ := Qw (K := K) hI (el := ρ.t 9) (fr := (0, 0)) (j9 w _) (fun k h => k9 k _ h) EndOk.zero hrows hk (kw (cap := (Lib.fields s).length) _ (Nat.le_refl _) (fun _ => rfl) (by simp))
 exact ⟨r, _, H', n', I', β', rfl, g1, g2, g3, g4⟩
def Y6 (ff : Nat) (f : Nat) (xs : List AVal) (S : Sh) : Option Rs :=
 match Nat.beq f ff with
 | true => match xs with
  | [.str s] => match zme s && Nat.ble s.length 4294967280 with
   | true => some (u7 (.msl (S.n, 0) 1 0 (Lib.fields s).length true) (S.new (.rows 1 ((Lib.fields s).map fun l => [.str l]))))
   | false => none
  | _ => none
 | false => none
theorem z6v : ∀ {l : List UInt8}, zme l = true → l.all (fun b => decide (b.toNat < 128)) = true
 | [], _ => rfl
 | b :: r, h => by
  unfold zme at h
  split at h <;> try (cases h; done)
  rename_i hb
  have hb := xq.1 hb
  simp only [List.all_cons, Bool.and_eq_true, decide_eq_true_eq]
  exact ⟨by omega, z6v h⟩
theorem z8i {ff : Nat} (h0 : ∀ {s : List UInt8}, s.length < 4294967281 → s.all (fun b => decide (b.toNat < 128)) = true → ∀ {H : AHeap} {n : Nat} {K : AVal → AHeap → Nat → Prop}, K (.msl (n, 0) 1 0 (Lib.fields s).length true) (((n, 0), .rows 1 ((Lib.fields s).map fun l => [.str l])) :: H) (n + 1) → ACalls P ff [.str s] H n K) : k7 P (Y6 ff) := by
 intro f xs S r S' h D H n hs
 unfold Y6 at h
 split at h <;> try (cases h; done)
 rename_i hf
 have hf := y7.1 hf
 subst hf
 split at h <;> try (cases h; done)
 rename_i s
 split at h <;> try (cases h; done)
 rename_i hc
 simp only [Bool.and_eq_true, xq] at hc
 simp only [Option.some.injEq] at h
 obtain ⟨rfl, hw⟩ := jf h
 exact h0 (by omega) (z6v hc.1) ⟨by rw [hs.n], hs.new hw⟩
def eqI : Int → Int → Bool
 | .ofNat a, .ofNat b => Nat.beq a b
 | .negSucc a, .negSucc b => Nat.beq a b
 | _, _ => false
theorem zko {a b : Int} (h : eqI a b = true) : a = b := by
 cases a <;> cases b <;> simp only [eqI, Bool.false_eq_true] at h <;> exact congrArg _ (Nat.eq_of_beq_eq_true h)
def zmz : List UInt8 → List UInt8 → Bool
 | [], [] => true
 | a :: r, b :: s => Nat.beq a.toNat b.toNat && zmz r s
 | _, _ => false
theorem z53 : ∀ {a b : List UInt8}, zmz a b = true → a = b
 | [], [], _ => rfl
 | a :: r, b :: s, h => by
  simp only [zmz, Bool.and_eq_true] at h
  rw [UInt8.toNat_inj.1 (Nat.eq_of_beq_eq_true h.1), z53 h.2]
 | [], _ :: _, h => by cases h
 | _ :: _, [], h => by cases h
def zk1 (a b : Id) : Bool := Nat.beq a.1 b.1 && Nat.beq a.2 b.2
theorem z14 {a b : Id} (h : zk1 a b = true) : a = b := by
 simp only [zk1, Bool.and_eq_true] at h
 exact Prod.ext (Nat.eq_of_beq_eq_true h.1) (Nat.eq_of_beq_eq_true h.2)
def ziv : Value → Value → Bool
 | .pointer none, .pointer none => true
 | .slice none 0 0, .slice none 0 0 => true
 | .map none, .map none => true
 | .nilFunc, .nilFunc => true
 | .nilIface, .nilIface => true
 | _, _ => false
theorem zg2 {a b : Value} (h : ziv a b = true) : a = b := by
 unfold ziv at h
 split at h <;> first | rfl | cases h
mutual
def eqA : AVal → AVal → Bool
 | .any, .any => true
 | .bool a, .bool b => a == b
 | .int k a, .int k' b => Kp k k' && eqI a b
 | .str l, .str l' => zmz l l'
 | .val v, .val v' => ziv v v'
 | .agg l, .agg l' => eqL l l'
 | .tup l, .tup l' => eqL l l'
 | .isl s es f, .isl s' es' f' => Nat.beq s s' && zia es es' && (f == f')
 | .ptr b i o, .ptr b' i' o' => zk1 b b' && Nat.beq i i' && Nat.beq o o'
 | .msl b s o l f, .msl b' s' o' l' f' => zk1 b b' && Nat.beq s s' && Nat.beq o o' && Nat.beq l l' && (f == f')
 | .map b, .map b' => zk1 b b'
 | .fn (.func f) a c, .fn (.func f') a' c' => Nat.beq f f' && eqL a a' && eqL c c'
 | .ifc t v, .ifc t' v' => Nat.beq t t' && eqA v v'
 | .cnd p x, .cnd p' x' => (p == p') && eqA x x'
 | _, _ => false
def eqL : List AVal → List AVal → Bool
 | [], [] => true
 | x :: r, y :: s => eqA x y && eqL r s
 | _, _ => false
def zia : List (List AVal) → List (List AVal) → Bool
 | [], [] => true
 | x :: r, y :: s => eqL x y && zia r s
 | _, _ => false
end
mutual
theorem z1n : ∀ {x y : AVal}, eqA x y = true → x = y := by
 intro x y h
 unfold eqA at h
 split at h
 case h_1 => rfl
 case h_2 => rw [eq_of_beq h]
 case h_3 => simp only [Bool.and_eq_true, Yk] at h; rw [h.1, zko h.2]
 case h_4 => rw [z53 h]
 case h_5 => rw [zg2 h]
 case h_6 => rw [Jx h]
 case h_7 => rw [Jx h]
 case h_8 => simp only [Bool.and_eq_true, y7] at h; rw [h.1.1, z4t h.1.2, eq_of_beq h.2]
 case h_9 => simp only [Bool.and_eq_true, y7] at h; rw [z14 h.1.1, h.1.2, h.2]
 case h_10 => simp only [Bool.and_eq_true, y7] at h; rw [z14 h.1.1.1.1, h.1.1.1.2, h.1.1.2, h.1.2, eq_of_beq h.2]
 case h_11 => rw [z14 h]
 case h_12 => simp only [Bool.and_eq_true, y7] at h; rw [h.1.1, Jx h.1.2, Jx h.2]
 case h_13 => simp only [Bool.and_eq_true, y7] at h; rw [h.1, z1n h.2]
 case h_14 => simp only [Bool.and_eq_true] at h; rw [eq_of_beq h.1, z1n h.2]
 case h_15 => cases h
theorem Jx : ∀ {x y : List AVal}, eqL x y = true → x = y
 | [], [], _ => rfl
 | a :: r, b :: s, h => by
  simp only [eqL, Bool.and_eq_true] at h
  rw [z1n h.1, Jx h.2]
 | [], _ :: _, h => by simp [eqL] at h
 | _ :: _, [], h => by simp [eqL] at h
theorem z4t : ∀ {x y : List (List AVal)}, zia x y = true → x = y
 | [], [], _ => rfl
 | a :: r, b :: s, h => by
  simp only [zia, Bool.and_eq_true] at h
  rw [Jx h.1, z4t h.2]
 | [], _ :: _, h => by simp [zia] at h
 | _ :: _, [], h => by simp [zia] at h
end
def eqM : List (AVal × AVal) → List (AVal × AVal) → Bool
 | [], [] => true
 | x :: r, y :: s => eqA x.1 y.1 && eqA x.2 y.2 && eqM r s
 | _, _ => false
theorem zh3 : ∀ {x y : List (AVal × AVal)}, eqM x y = true → x = y
 | [], [], _ => rfl
 | a :: r, b :: s, h => by
  simp only [eqM, Bool.and_eq_true] at h
  rw [Prod.ext (z1n h.1.1) (z1n h.1.2), zh3 h.2]
 | [], _ :: _, h => by cases h
 | _ :: _, [], h => by cases h
def eqB : ABlock → ABlock → Bool
 | .rows s es, .rows s' es' => Nat.beq s s' && zia es es'
 | .one l, .one l' => eqL l l'
 | .amap l, .amap l' => eqM l l'
 | .tok, .tok => true
 | .bld T g, .bld T' g' => Nat.beq T T' && zk1 g g'
 | .buf e l, .buf e' l' => Nat.beq e e' && zmz l l'
 | _, _ => false
theorem zmb {x y : ABlock} (h : eqB x y = true) : x = y := by
 unfold eqB at h
 split at h
 case h_1 => simp only [Bool.and_eq_true, y7] at h; rw [h.1, z4t h.2]
 case h_2 => rw [Jx h]
 case h_3 => rw [zh3 h]
 case h_4 => rfl
 case h_5 => simp only [Bool.and_eq_true, y7] at h; rw [h.1, z14 h.2]
 case h_6 => simp only [Bool.and_eq_true, y7] at h; rw [h.1, z53 h.2]
 case h_7 => cases h
def eqO : Option ABlock → Option ABlock → Bool
 | none, none => true
 | some a, some b => eqB a b
 | _, _ => false
def eqT : Tr ABlock → Tr ABlock → Bool
 | .nil, .nil => true
 | .nd v l r, .nd v' l' r' => eqO v v' && eqT l l' && eqT r r'
 | _, _ => false
theorem znb {x y : Option ABlock} (h : eqO x y = true) : x = y := by
 cases x <;> cases y <;> simp only [eqO, Bool.false_eq_true] at h
 ·rfl
 ·rw [zmb h]
theorem zb8 : ∀ {x y : Tr ABlock}, eqT x y = true → x = y
 | .nil, .nil, _ => rfl
 | .nd v l r, .nd v' l' r', h => by
  simp only [eqT, Bool.and_eq_true] at h
  rw [znb h.1.1, zb8 h.1.2, zb8 h.2]
 | .nil, .nd .., h => by cases h
 | .nd .., .nil, h => by cases h
def z8e (f0 : Nat) (args0 : List AVal) (S0 : Sh) (r : AVal) (S1 : Sh) (f : Nat) (xs : List AVal) (S : Sh) : Option Rs :=
 match Nat.beq f f0 with
 | true => match Nat.beq S.n S0.n && eqL xs args0 && eqT S.t S0.t with
  | true => some (some (r, S1))
  | false => none
 | false => none
variable {P : Program}
theorem Wh {F : Nat → Option LFn} {X : Nat → List AVal → Sh → Option Rs} {B : Nat → Option (Bool × Nat)} (hF : z3c P F) (hX : k7 P X) (hB : U6 P B) {m f0 : Nat} {args0 : List AVal} {S0 S1 : Sh} {r : AVal} (h0 : (ev F X B m).1 f0 args0 S0 = some (r, S1)) : k7 P (z8e f0 args0 S0 r S1) := by
 intro f xs S r' S' h D H n hs
 unfold z8e at h
 split at h <;> try (cases h; done)
 rename_i hf
 split at h <;> try (cases h; done)
 rename_i hc
 simp only [Bool.and_eq_true] at hc
 simp only [Option.some.injEq, Prod.mk.injEq] at h
 obtain ⟨rfl, rfl⟩ := h
 have e1 := Nat.eq_of_beq_eq_true hf
 have e2 := Jx hc.1.2
 have e3 := zb8 hc.2
 have e4 := Nat.eq_of_beq_eq_true hc.1.1
 have e5 : S = S0 := by cases S; cases S0; simp_all
 subst e1 e2 e5
 exact (z5u hF hX hB m).1 _ _ _ _ _ h0 H n hs
end Go.Fx
