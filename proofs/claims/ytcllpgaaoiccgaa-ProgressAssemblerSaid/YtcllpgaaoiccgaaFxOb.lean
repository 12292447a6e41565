/-
  Own framework.
-/
import Derived.Test.YtcllpgaaoiccgaaFxMr
namespace Go.Fx
set_option linter.unusedVariables false

inductive Ref where
  | nil
  | foc
  | oth (j : Nat)
instance : DecidableEq Ref := fun a b => match a, b with
  | .nil, .nil => isTrue rfl
  | .foc, .foc => isTrue rfl
  | .oth i, .oth j => if h : i = j then isTrue (by rw [h]) else isFalse (fun e => h (Ref.oth.inj e))
  | .nil, .foc => isFalse (fun e => Ref.noConfusion e)
  | .nil, .oth _ => isFalse (fun e => Ref.noConfusion e)
  | .foc, .nil => isFalse (fun e => Ref.noConfusion e)
  | .foc, .oth _ => isFalse (fun e => Ref.noConfusion e)
  | .oth _, .nil => isFalse (fun e => Ref.noConfusion e)
  | .oth _, .foc => isFalse (fun e => Ref.noConfusion e)
instance : Inhabited Ref := ⟨.nil⟩
def eR (f : Option Id) : Ref → AVal
  | .nil => .val (.map none)
  | .foc => match f with
    | some i => .map i
    | none => .val (.map none)
  | .oth j => .map (1, j)
def noFoc {κ : Type} (l : List (κ × Ref)) : Bool := l.all fun p => decide (p.2 ≠ .foc)

section
variable {F : Id → Bool} {H : AHeap} {ρ : Id → Option Id} {n : Nat} {κ : Type} {ek : κ → AVal}
theorem eR_ren {g : Id → Id} {f f' : Option Id} (h1 : ∀ p, g (1, p) = (1, p)) (hf : f.map g = f') (r : Ref) : (eR f r).ren g = eR f' r := by
  subst hf
  cases r with
  | nil => rfl
  | foc => cases f <;> rfl
  | oth j => simp only [eR, AVal.ren, h1]
theorem refm_ren {g : Id → Id} {f f' : Option Id} (hk : ∀ x, (ek x).nid = true) (h1 : ∀ p, g (1, p) = (1, p)) (hf : f.map g = f') (l : List (κ × Ref)) : (ABlock.amap (l.map (em ek (eR f)))).ren g = .amap (l.map (em ek (eR f'))) := by
  simp only [ABlock.ren, List.map_map]
  congr 1
  refine List.map_congr_left fun x _ => ?_
  simp only [Function.comp, em, nid_ren _ (hk _), eR_ren h1 hf]
theorem eR_inP {p : Id → Bool} {f : Option Id} (h1 : ∀ j, p (1, j) = true) (hf : ∀ i, f = some i → p i = true) (r : Ref) : (eR f r).inP p = true := by
  cases r with
  | nil => rfl
  | foc =>
    cases f with
    | none => rfl
    | some i => exact hf i rfl
  | oth j => exact h1 j
theorem refm_inP {p : Id → Bool} {f : Option Id} (hk : ∀ x, (ek x).nid = true) (h1 : ∀ j, p (1, j) = true) (hf : ∀ i, f = some i → p i = true) (l : List (κ × Ref)) : (ABlock.amap (l.map (em ek (eR f)))).inP p = true := by
  simp only [ABlock.inP, List.all_eq_true, List.mem_map, Bool.and_eq_true]
  rintro x ⟨y, _, rfl⟩
  exact ⟨nid_inP _ (hk _), eR_inP h1 hf _⟩
theorem BVw.refmF (hk : ∀ x, (ek x).nid = true) (l : List (κ × Ref)) {i i' : Id} (hi : ρ i' = some i) (hc : (!(Nat.beq i.1 1) && Nat.ble (i'.1 + 1) n && Nat.ble 2 n) = true) (h1 : ∀ p, ρ (1, p) = some (1, p)) : BVw F H ρ n (.amap (l.map (em ek (eR (some i))))) (.amap (l.map (em ek (eR (some i'))))) := by
  simp only [Bool.and_eq_true] at hc
  have hne := bne_of hc.1.1
  have hlt := Nat.le_of_ble_eq_true hc.1.2
  have hn := Nat.le_of_ble_eq_true hc.2
  have := BVw.mov (F := F) (H := H) (ρ := ρ) (n := n) (fun id => Nat.beq id.1 1 || decide (id = i)) (fun id => if id.1 = 1 then id else i') (.amap (l.map (em ek (eR (some i)))))
    (refm_inP hk (fun j => rfl) (fun j hj => by simp only [Option.some.injEq] at hj; subst hj; simp) l) (fun id hid => by
      by_cases h : id.1 = 1
      · simp only [if_pos h]
        refine ⟨by omega, ?_⟩
        rw [show id = (1, id.2) by rw [← h]]; exact h1 _
      · simp only [if_neg h]
        have : id = i := by
          simp only [Bool.or_eq_true, decide_eq_true_eq] at hid
          rcases hid with h' | h'
          · exact absurd (Nat.eq_of_beq_eq_true h') h
          · exact h'
        subst this
        exact ⟨by omega, hi⟩)
  rwa [refm_ren hk (f' := some i') (fun p => by simp) (by simp [hne])] at this
theorem BVw.refmN (hk : ∀ x, (ek x).nid = true) (l : List (κ × Ref)) (hc : Nat.ble 2 n = true) (h1 : ∀ p, ρ (1, p) = some (1, p)) : BVw F H ρ n (.amap (l.map (em ek (eR none)))) (.amap (l.map (em ek (eR none)))) := by
  have hn := Nat.le_of_ble_eq_true hc
  have := BVw.mov (F := F) (H := H) (ρ := ρ) (n := n) (fun id => Nat.beq id.1 1) (fun id => id) (.amap (l.map (em ek (eR none))))
    (refm_inP hk (fun j => rfl) (fun j hj => by cases hj) l) (fun id hid => by
      have h := Nat.eq_of_beq_eq_true hid
      refine ⟨by omega, ?_⟩
      rw [show id = (1, id.2) by rw [← h]]; exact h1 _)
  rwa [renB_id] at this
theorem BVw.itr0 {arr : Array MapEntry} {ck : Nat} {seen : List Nat} : BVw F H ρ n (.itr none arr ck seen) (.itr none arr ck seen) :=
  BVw.mov (fun _ => false) (fun i => i) (.itr none arr ck seen) rfl (fun _ h => Bool.noConfusion h)
end
section
variable {κ : Type} {ks : List CK} {ek : κ → AVal} {q : κ → κ → Bool} {k : κ} {l : List (κ × Ref)}
theorem mlookF (hq : ∀ a b, keyEq ks (ek a) (ek b) = some (q a b)) {g : Bool} {zs : List AVal} {i : Id} (h : lk q l k = some .foc) : mres g false zs ((mfind ks (ek k) (l.map (em ek (eR (some i))))).getD none) = .map i := by
  rw [mfind_enc hq, h]; rfl
theorem mlookFo (hq : ∀ a b, keyEq ks (ek a) (ek b) = some (q a b)) {g : Bool} {zs : List AVal} {i : Id} (h : lk q l k = some .foc) : mres g true zs ((mfind ks (ek k) (l.map (em ek (eR (some i))))).getD none) = .tup [.map i, .bool true] := by
  rw [mfind_enc hq, h]; rfl
theorem mlookN (hq : ∀ a b, keyEq ks (ek a) (ek b) = some (q a b)) {g : Bool} {zs : List AVal} {f : Option Id} (hz : zeroV g zs = .val (.map none)) (h : lk q l k = none) : mres g false zs ((mfind ks (ek k) (l.map (em ek (eR f)))).getD none) = .val (.map none) := by
  rw [mfind_enc hq, h]; simp [mres, hz]
theorem mlookNo (hq : ∀ a b, keyEq ks (ek a) (ek b) = some (q a b)) {g : Bool} {zs : List AVal} {f : Option Id} (hz : zeroV g zs = .val (.map none)) (h : lk q l k = none) : mres g true zs ((mfind ks (ek k) (l.map (em ek (eR f)))).getD none) = .tup [.val (.map none), .bool false] := by
  rw [mfind_enc hq, h]; simp [mres, hz]
theorem mput_ref (hq : ∀ a b, keyEq ks (ek a) (ek b) = some (q a b)) {i : Id} (hn : noFoc l = true) (k : κ) : mput ks (ek k) (.map i) (l.map (em ek (eR none))) = some ((mp q l k .foc).map (em ek (eR (some i)))) := by
  have : l.map (em ek (eR none)) = l.map (em ek (eR (some i))) := by
    refine List.map_congr_left fun x hx => ?_
    unfold noFoc at hn
    rw [List.all_eq_true] at hn
    have h1 := hn x hx
    simp only [decide_eq_true_eq] at h1
    unfold em
    cases hx2 : x.2 with
    | foc => exact absurd hx2 h1
    | nil => rfl
    | oth j => rfl
  rw [this]
  exact mput_enc (ev := eR (some i)) hq k .foc l
end
end Go.Fx
