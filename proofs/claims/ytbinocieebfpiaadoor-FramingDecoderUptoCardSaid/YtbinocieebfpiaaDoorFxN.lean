/-
  Own framework.
-/
import Derived.Test.YtbinocieebfpiaaDoorFxS
namespace Go.Fx
set_option linter.unusedVariables false
variable {P : Program}
theorem ACalls.sub {f : Fn} {args : List AVal} {H : AHeap} {n : Nat} {K : AVal → AHeap → Nat → Prop}
 (h : ACalls P f args H n (fun r H' n' => ∃ H2, (∀ id blk, H2.get id = some blk → H'.get id = some blk) ∧ K r H2 n')) : ACalls P f args H n K := by
 refine ⟨h.1, fun I β w vs hI hl hr => (h.2 I β w vs hI hl hr).mono ?_⟩
 rintro ee w' ⟨r, v, H', n', I', β', he, ⟨H2, h1, h2⟩, hI', hr', hx⟩
 exact ⟨r, v, H2, n', I', β', he, h2, Inv.sub h1 hI', hr', Ext.sub h1 hx⟩
theorem Qv {H : AHeap} {id : Id} {b : ABlock} (h : H.get id = some b) : (id, b) ∈ H := by
 induction H with
 | nil => simp [AHeap.get] at h
 | cons x r ih =>
  obtain ⟨k, c⟩ := x
  by_cases hk : k = id
  ·subst hk; rw [AHeap.get_cons_same] at h; simp only [Option.some.injEq] at h; subst h; exact List.mem_cons_self ..
  ·rw [AHeap.get_cons_other _ _ hk] at h; exact List.mem_cons_of_mem _ (ih h)
theorem z2p {H : AHeap} {id : Id} {b : ABlock} (hn : (H.map (·.1)).Nodup) (h : (id, b) ∈ H) : H.get id = some b := by
 induction H with
 | nil => cases h
 | cons x r ih =>
  obtain ⟨k, c⟩ := x
  simp only [List.map_cons, List.nodup_cons] at hn
  rcases List.mem_cons.1 h with h | h
  ·simp only [Prod.mk.injEq] at h; obtain ⟨rfl, rfl⟩ := h; exact AHeap.get_cons_same _ _ _
  ·have : k ≠ id := fun hk => by subst hk; exact hn.1 (List.mem_map.2 ⟨_, h, rfl⟩)
   rw [AHeap.get_cons_other _ _ this]; exact ih hn.2 h
def noR (r : Nat) (H : AHeap) : Bool := H.all fun x => !(Nat.beq x.1.1 r)
theorem Q7 {r : Nat} {H : AHeap} (h : noR r H = true) {id : Id} (hid : id.1 = r) : H.get id = none := by
 cases hg : H.get id with
 | none => rfl
 | some b =>
  have hm := Qv hg
  unfold noR at h
  rw [List.all_eq_true] at h
  have := h _ hm
  simp only [hid] at this
  simp at this
mutual
theorem kq {g h : Id → Id} : ∀ (x : AVal), (x.ren g).ren h = x.ren (fun i => h (g i))
 | .any => rfl
 | .bool _ => rfl
 | .int _ _ => rfl
 | .str _ => rfl
 | .val _ => rfl
 | .isl _ _ _ => rfl
 | .iptr _ _ _ _ => rfl
 | .osl _ _ _ => rfl
 | .ptr _ _ _ => rfl
 | .msl _ _ _ _ _ => rfl
 | .map _ => rfl
 | .optp _ => rfl
 | .tup cs => by simp only [AVal.ren]; rw [wr cs]
 | .agg cs => by simp only [AVal.ren]; rw [wr cs]
 | .fn f a c => by simp only [AVal.ren]; rw [wr a, wr c]
 | .ifc t x => by simp only [AVal.ren]; rw [kq x]
 | .cnd p x => by simp only [AVal.ren]; rw [kq x]
theorem wr {g h : Id → Id} : ∀ (cs : List AVal), AVal.ren.renL h (AVal.ren.renL g cs) = AVal.ren.renL (fun i => h (g i)) cs
 | [] => rfl
 | x :: r => by simp only [AVal.ren.renL]; rw [kq x, wr r]
end
mutual
theorem w5 {p : Id → Bool} {g h : Id → Id} (hgh : ∀ id : Id, p id = true → g id = h id) : ∀ (x : AVal), x.inP p = true → x.ren g = x.ren h
 | .any, _ => rfl
 | .bool _, _ => rfl
 | .int _ _, _ => rfl
 | .str _, _ => rfl
 | .val _, _ => rfl
 | .isl _ _ _, _ => rfl
 | .iptr _ _ _ _, _ => rfl
 | .osl t _ _, hp => by simp only [AVal.ren]; rw [hgh t hp]
 | .ptr t _ _, hp => by simp only [AVal.ren]; rw [hgh t hp]
 | .msl t _ _ _ _, hp => by simp only [AVal.ren]; rw [hgh t hp]
 | .map t, hp => by simp only [AVal.ren]; rw [hgh t hp]
 | .optp t, hp => by simp only [AVal.ren]; rw [hgh t hp]
 | .tup cs, hp => by simp only [AVal.ren]; rw [jn hgh cs hp]
 | .agg cs, hp => by simp only [AVal.ren]; rw [jn hgh cs hp]
 | .fn f a c, hp => by
  simp only [AVal.inP, Bool.and_eq_true] at hp
  simp only [AVal.ren]; rw [jn hgh a hp.1, jn hgh c hp.2]
 | .ifc t x, hp => by simp only [AVal.ren]; rw [w5 hgh x hp]
 | .cnd q x, hp => by simp only [AVal.ren]; rw [w5 hgh x hp]
theorem jn {p : Id → Bool} {g h : Id → Id} (hgh : ∀ id : Id, p id = true → g id = h id) : ∀ (cs : List AVal), AVal.inP.inPL p cs = true → AVal.ren.renL g cs = AVal.ren.renL h cs
 | [], _ => rfl
 | x :: r, hp => by
  simp only [AVal.inP.inPL, Bool.and_eq_true] at hp
  simp only [AVal.ren.renL]; rw [w5 hgh x hp.1, jn hgh r hp.2]
end
mutual
theorem ky {p q : Id → Bool} {g : Id → Id} (hg : ∀ id : Id, p id = true → q (g id) = true) : ∀ (x : AVal), x.inP p = true → (x.ren g).inP q = true
 | .any, _ => rfl
 | .bool _, _ => rfl
 | .int _ _, _ => rfl
 | .str _, _ => rfl
 | .val _, _ => rfl
 | .isl _ _ _, _ => rfl
 | .iptr _ _ _ _, _ => rfl
 | .osl t _ _, hp => hg t hp
 | .ptr t _ _, hp => hg t hp
 | .msl t _ _ _ _, hp => hg t hp
 | .map t, hp => hg t hp
 | .optp t, hp => hg t hp
 | .tup cs, hp => kh hg cs hp
 | .agg cs, hp => kh hg cs hp
 | .fn f a c, hp => by
  simp only [AVal.inP, Bool.and_eq_true] at hp
  simp only [AVal.ren, AVal.inP, Bool.and_eq_true]
  exact ⟨kh hg a hp.1, kh hg c hp.2⟩
 | .ifc t x, hp => ky hg x hp
 | .cnd r x, hp => ky hg x hp
theorem kh {p q : Id → Bool} {g : Id → Id} (hg : ∀ id : Id, p id = true → q (g id) = true) : ∀ (cs : List AVal), AVal.inP.inPL p cs = true → AVal.inP.inPL q (AVal.ren.renL g cs) = true
 | [], _ => rfl
 | x :: r, hp => by
  simp only [AVal.inP.inPL, Bool.and_eq_true] at hp
  simp only [AVal.ren.renL, AVal.inP.inPL, Bool.and_eq_true]
  exact ⟨ky hg x hp.1, kh hg r hp.2⟩
end
theorem z7a {g h : Id → Id} (b : ABlock) : (b.ren g).ren h = b.ren (fun i => h (g i)) := by
 cases b with
 | rows s es => simp only [ABlock.ren, jo, List.map_map]; congr 1; exact List.map_congr_left fun x _ => wr x
 | one cs => simp only [ABlock.ren]; rw [wr]
 | amap es => simp only [ABlock.ren, List.map_map]; congr 1; refine List.map_congr_left fun x _ => ?_; simp only [Function.comp]; rw [kq, kq]
 | tok => rfl
 | bld T g0 => rfl
 | buf e bs => rfl
 | lrec l r e => simp only [ABlock.ren, List.map_map]; congr 1; refine List.map_congr_left fun x _ => ?_; simp only [Function.comp]; rw [kq]
 | rmap es arr ck => simp only [ABlock.ren, List.map_map]; congr 1; refine List.map_congr_left fun x _ => ?_; simp only [Function.comp]; rw [kq, kq]
 | itr m arr ck seen => simp only [ABlock.ren, Option.map_map]; rfl
 | mbox b => rfl
theorem Y9 {p : Id → Bool} {g h : Id → Id} (hgh : ∀ id : Id, p id = true → g id = h id) (b : ABlock) (hp : b.inP p = true) : b.ren g = b.ren h := by
 cases b with
 | rows s es =>
  simp only [ABlock.inP, List.all_eq_true] at hp
  simp only [ABlock.ren, jo]; congr 1; exact List.map_congr_left fun x hx => jn hgh x (hp x hx)
 | one cs => simp only [ABlock.ren]; rw [jn hgh cs hp]
 | amap es =>
  simp only [ABlock.inP, List.all_eq_true, Bool.and_eq_true] at hp
  simp only [ABlock.ren]; congr 1; refine List.map_congr_left fun x hx => ?_; rw [w5 hgh _ (hp x hx).1, w5 hgh _ (hp x hx).2]
 | tok => rfl
 | bld T g0 => simp only [ABlock.ren]; rw [hgh g0 hp]
 | buf e bs => rfl
 | lrec l r e =>
  simp only [ABlock.inP, List.all_eq_true] at hp
  simp only [ABlock.ren]; congr 1; refine List.map_congr_left fun x hx => ?_; rw [w5 hgh _ (hp x hx)]
 | rmap es arr ck =>
  simp only [ABlock.inP, List.all_eq_true, Bool.and_eq_true] at hp
  simp only [ABlock.ren]; congr 1; refine List.map_congr_left fun x hx => ?_; rw [w5 hgh _ (hp x hx).1, w5 hgh _ (hp x hx).2]
 | itr m arr ck seen =>
  cases m with
  | none => rfl
  | some b => simp only [ABlock.ren, Option.map_some]; rw [hgh b hp]
 | mbox b => simp only [ABlock.ren]; rw [hgh b hp]
theorem Jy {p q : Id → Bool} {g : Id → Id} (hg : ∀ id : Id, p id = true → q (g id) = true) (b : ABlock) (hp : b.inP p = true) : (b.ren g).inP q = true := by
 cases b with
 | rows s es =>
  simp only [ABlock.inP, List.all_eq_true] at hp
  simp only [ABlock.ren, jo, ABlock.inP, List.all_eq_true, List.mem_map]
  rintro x ⟨y, hy, rfl⟩
  exact kh hg y (hp y hy)
 | one cs => exact kh hg cs hp
 | amap es =>
  simp only [ABlock.inP, List.all_eq_true, Bool.and_eq_true] at hp
  simp only [ABlock.ren, ABlock.inP, List.all_eq_true, List.mem_map, Bool.and_eq_true]
  rintro x ⟨y, hy, rfl⟩
  exact ⟨ky hg _ (hp y hy).1, ky hg _ (hp y hy).2⟩
 | tok => rfl
 | bld T g0 => exact hg g0 hp
 | buf e bs => rfl
 | lrec l r e =>
  simp only [ABlock.inP, List.all_eq_true] at hp
  simp only [ABlock.ren, ABlock.inP, List.all_eq_true, List.mem_map]
  rintro x ⟨y, hy, rfl⟩
  exact ky hg _ (hp y hy)
 | rmap es arr ck =>
  simp only [ABlock.inP, List.all_eq_true, Bool.and_eq_true] at hp
  simp only [ABlock.ren, ABlock.inP, List.all_eq_true, List.mem_map, Bool.and_eq_true]
  rintro x ⟨y, hy, rfl⟩
  exact ⟨ky hg _ (hp y hy).1, ky hg _ (hp y hy).2⟩
 | itr m arr ck seen =>
  cases m with
  | none => rfl
  | some b => exact hg b hp
 | mbox b => exact hg b hp
mutual
theorem Ze : ∀ (x : AVal), x.ren (fun i => i) = x
 | .any => rfl
 | .bool _ => rfl
 | .int _ _ => rfl
 | .str _ => rfl
 | .val _ => rfl
 | .isl _ _ _ => rfl
 | .iptr _ _ _ _ => rfl
 | .osl _ _ _ => rfl
 | .ptr _ _ _ => rfl
 | .msl _ _ _ _ _ => rfl
 | .map _ => rfl
 | .optp _ => rfl
 | .tup cs => by simp only [AVal.ren]; rw [uv cs]
 | .agg cs => by simp only [AVal.ren]; rw [uv cs]
 | .fn f a c => by simp only [AVal.ren]; rw [uv a, uv c]
 | .ifc t x => by simp only [AVal.ren]; rw [Ze x]
 | .cnd p x => by simp only [AVal.ren]; rw [Ze x]
theorem uv : ∀ (cs : List AVal), AVal.ren.renL (fun i => i) cs = cs
 | [] => rfl
 | x :: r => by simp only [AVal.ren.renL]; rw [Ze x, uv r]
end
mutual
theorem z72 {p : Id → Bool} : ∀ (x : AVal), x.nid = true → x.inP p = true
 | .bool _, _ => rfl
 | .int _ _, _ => rfl
 | .str _, _ => rfl
 | .val _, _ => rfl
 | .isl _ _ _, _ => rfl
 | .iptr _ _ _ _, _ => rfl
 | .tup cs, h => Zb cs h
 | .agg cs, h => Zb cs h
 | .fn f a c, h => by
  simp only [AVal.nid, Bool.and_eq_true] at h
  simp only [AVal.inP, Bool.and_eq_true]
  exact ⟨Zb a h.1, Zb c h.2⟩
 | .ifc t x, h => z72 x h
theorem Zb {p : Id → Bool} : ∀ (cs : List AVal), AVal.nid.nidL cs = true → AVal.inP.inPL p cs = true
 | [], _ => rfl
 | x :: r, h => by
  simp only [AVal.nid.nidL, Bool.and_eq_true] at h
  simp only [AVal.inP.inPL, Bool.and_eq_true]
  exact ⟨z72 x h.1, Zb r h.2⟩
end
mutual
theorem ut {g : Id → Id} : ∀ (x : AVal), x.nid = true → x.ren g = x
 | .bool _, _ => rfl
 | .int _ _, _ => rfl
 | .str _, _ => rfl
 | .val _, _ => rfl
 | .isl _ _ _, _ => rfl
 | .iptr _ _ _ _, _ => rfl
 | .tup cs, h => by simp only [AVal.ren]; rw [Zn cs h]
 | .agg cs, h => by simp only [AVal.ren]; rw [Zn cs h]
 | .fn f a c, h => by
  simp only [AVal.nid, Bool.and_eq_true] at h
  simp only [AVal.ren]; rw [Zn a h.1, Zn c h.2]
 | .ifc t x, h => by simp only [AVal.ren]; rw [ut x h]
theorem Zn {g : Id → Id} : ∀ (cs : List AVal), AVal.nid.nidL cs = true → AVal.ren.renL g cs = cs
 | [], _ => rfl
 | x :: r, h => by
  simp only [AVal.nid.nidL, Bool.and_eq_true] at h
  simp only [AVal.ren.renL]; rw [ut x h.1, Zn r h.2]
end
theorem z6v (b : ABlock) : b.ren (fun i => i) = b := by
 cases b with
 | rows s es =>
  simp only [ABlock.ren, jo]; congr 1
  conv => rhs; rw [← List.map_id es]
  exact List.map_congr_left fun x _ => uv x
 | one cs => simp only [ABlock.ren]; rw [uv]
 | amap es =>
  simp only [ABlock.ren]; congr 1
  conv => rhs; rw [← List.map_id es]
  refine List.map_congr_left fun x _ => ?_
  rw [Ze, Ze]; rfl
 | tok => rfl
 | bld T g0 => rfl
 | buf e bs => rfl
 | lrec l r e =>
  simp only [ABlock.ren]; congr 1
  conv => rhs; rw [← List.map_id e]
  refine List.map_congr_left fun x _ => ?_
  rw [Ze]; rfl
 | rmap es arr ck =>
  simp only [ABlock.ren]; congr 1
  conv => rhs; rw [← List.map_id es]
  refine List.map_congr_left fun x _ => ?_
  rw [Ze, Ze]; rfl
 | itr m arr ck seen => cases m <;> rfl
 | mbox b => rfl
def RenL (g : Id → Id) : AHeap → AHeap → Prop
 | [], [] => True
 | (k, b) :: r, (k', b') :: r' => g k = k' ∧ b.ren g = b' ∧ RenL g r r'
 | _, _ => False
theorem RenL.eq {g : Id → Id} : ∀ {L L' : AHeap}, RenL g L L' → AHeap.renamed g L = L'
 | [], [], _ => rfl
 | [], _ :: _, h => h.elim
 | _ :: _, [], h => h.elim
 | (k, b) :: r, (k', b') :: r', h => by
  obtain ⟨h1, h2, h3⟩ := h
  have := RenL.eq h3
  simp only [AHeap.renamed, List.map_cons] at this ⊢
  rw [h1, h2, this]
def mv (a b : Nat) (id : Id) : Id := if id.1 = a then (b, id.2) else id
def p12 (id : Id) : Bool := Nat.beq id.1 1 || Nat.beq id.1 2
structure Tl (T : AHeap) : Prop where
 key : ∀ x ∈ T, p12 x.1 = true
 val : ∀ x ∈ T, x.2.inP (fun id => p12 id && (T.get id).isSome) = true
 nd : (T.map (·.1)).Nodup
def up (q : Nat) (T : AHeap) : AHeap := AHeap.renamed (mv 2 q) T
theorem kv {id : Id} (h : p12 id = true) : id.1 = 1 ∨ id.1 = 2 := by
 unfold p12 at h
 simp only [Bool.or_eq_true] at h
 rcases h with h | h
 ·exact .inl (Nat.eq_of_beq_eq_true h)
 ·exact .inr (Nat.eq_of_beq_eq_true h)
theorem zd5 {q : Nat} {id : Id} (h : p12 id = true) : (mv 2 q id).1 = 1 ∨ (mv 2 q id).1 = q := by
 unfold mv
 rcases kv h with h | h
 ·left; rw [if_neg (by omega)]; exact h
 ·right; rw [if_pos h]
def p1q (q : Nat) (id : Id) : Bool := Nat.beq id.1 1 || Nat.beq id.1 q
theorem V6 {q : Nat} {id : Id} (h : id.1 = 1 ∨ id.1 = q) : p1q q id = true := by
 unfold p1q
 rcases h with h | h <;> simp [h]
theorem Tl.val' {T : AHeap} (t : Tl T) (x) (hx : x ∈ T) : x.2.inP p12 = true := by
 have := t.val x hx
 have h2 := Jy (q := p12) (g := fun i => i) (fun id hid => by simp only [Bool.and_eq_true] at hid; exact hid.1) _ this
 rwa [z6v] at h2
theorem Z6 {q : Nat} {id : Id} (h : p1q q id = true) : id.1 = 1 ∨ id.1 = q := by
 unfold p1q at h
 simp only [Bool.or_eq_true] at h
 rcases h with h | h
 ·exact .inl (Nat.eq_of_beq_eq_true h)
 ·exact .inr (Nat.eq_of_beq_eq_true h)
theorem z24 {q : Nat} {T : AHeap} (t : Tl T) {x : Id × ABlock} (hx : x ∈ up q T) : (x.1.1 = 1 ∨ x.1.1 = q) ∧ x.2.inP (p1q q) = true := by
 unfold up AHeap.renamed at hx
 obtain ⟨y, hy, rfl⟩ := List.mem_map.1 hx
 exact ⟨zd5 (t.key y hy), Jy (fun id hid => V6 (zd5 hid)) _ (t.val' y hy)⟩
theorem zem {q : Nat} (hq : q ≠ 1) {i j : Id} (hi : p12 i = true) (hj : p12 j = true) (h : mv 2 q i = mv 2 q j) : i = j := by
 unfold mv at h
 rcases kv hi with hi | hi <;> rcases kv hj with hj | hj
 ·rwa [if_neg (by omega), if_neg (by omega)] at h
 ·rw [if_neg (by omega), if_pos hj] at h
  have : i.1 = q := by rw [h]
  omega
 ·rw [if_pos hi, if_neg (by omega)] at h
  have : j.1 = q := by rw [← h]
  omega
 ·rw [if_pos hi, if_pos hj] at h
  simp only [Prod.mk.injEq] at h
  ext
  ·omega
  ·exact h.2
theorem zdm {q : Nat} (hq : q ≠ 1) {T : AHeap} (t : Tl T) : ((up q T).map (·.1)).Nodup := by
 unfold up AHeap.renamed
 rw [List.map_map]
 have : (T.map ((fun x => x.1) ∘ fun x => (mv 2 q x.1, x.2.ren (mv 2 q)))) = (T.map (·.1)).map (mv 2 q) := by rw [List.map_map]; rfl
 rw [this]
 refine List.pairwise_map.2 (List.Pairwise.imp_of_mem (fun {a b} ha hb hab he => hab ?_) t.nd)
 obtain ⟨x, hx, rfl⟩ := List.mem_map.1 ha
 obtain ⟨y, hy, rfl⟩ := List.mem_map.1 hb
 exact zem hq (t.key x hx) (t.key y hy) he
theorem zfs {q : Nat} (hq : q ≠ 1) {T : AHeap} (t : Tl T) {k : Id} {b0 : ABlock} (h : T.get k = some b0) : (up q T).get (mv 2 q k) = some (b0.ren (mv 2 q)) :=
 z2p (zdm hq t) (List.mem_map.2 ⟨(k, b0), Qv h, rfl⟩)
theorem zf2 {a q q' : Nat} (hq : q ≠ 1) {id : Id} (h : p12 id = true) : mv q q' (mv 2 q id) = mv 2 q' id := by
 unfold mv
 rcases kv h with h | h
 ·rw [if_neg (by omega : ¬ id.1 = 2), if_neg (by omega), if_neg (by omega)]
 ·rw [if_pos h, if_pos h]; simp
theorem z0d {q q' : Nat} (hq : q ≠ 1) {b0 : ABlock} (h : b0.inP p12 = true) : (b0.ren (mv 2 q)).ren (mv q q') = b0.ren (mv 2 q') := by
 rw [z7a]
 exact Y9 (fun id hid => zf2 (a := 0) hq hid) b0 h
theorem zgu {q : Nat} (hq : q ≠ 1) {q' : Nat} {T : AHeap} (t : Tl T) : AHeap.renamed (mv q q') (up q T) = up q' T := by
 unfold up AHeap.renamed
 rw [List.map_map]
 refine List.map_congr_left fun x hx => ?_
 simp only [Function.comp]
 rw [zf2 (a := 0) hq (t.key x hx), z0d hq (t.val' x hx)]
theorem zf8 {q : Nat} {T lit : AHeap} (t : Tl T) (h1 : noR 1 lit = true) (hq : noR q lit = true) {id : Id} {b : ABlock} (hg : (up q T).get id = some b) : AHeap.get (lit ++ up q T) id = some b := by
 rw [AHeap.get_append]
 have : lit.get id = none := by
  rcases (z24 t (Qv hg)).1 with h | h
  ·exact Q7 h1 h
  ·exact Q7 hq h
 rw [this]; simpa using hg
def zhu (q : Nat) (M : List (Id × Id)) (id : Id) : Option Id := if id.1 = 3 then some (q, id.2) else rho 3 M id
def zht (n q : Nat) (lit' : AHeap) (M : List (Id × Id)) : Bool :=
 Nat.ble 4 n && Nat.ble 3 q && Ya 3 n lit' M && M.all (fun x => Nat.ble 4 x.1.1 && !(Nat.beq x.2.1 q) && !(Nat.beq x.2.1 1)) && noR 1 lit' && noR q lit'
structure ChkT (n q : Nat) (lit' : AHeap) (M : List (Id × Id)) : Prop where
 n4 : 4 ≤ n
 q3 : 3 ≤ q
 rc : RhoChk 3 n lit' M
 all : ∀ x ∈ M, 4 ≤ x.1.1 ∧ x.2.1 ≠ q ∧ x.2.1 ≠ 1
 no1 : noR 1 lit' = true
 noq : noR q lit' = true
theorem z0v {a b : Nat} (h : (!(Nat.beq a b)) = true) : a ≠ b := by
 intro e; subst e; simp at h
theorem zhb {n0 : Nat} {Fs : List Id} (hF : (Fs.all fun x => Nat.ble n0 x.1) = true) (i : Id) (hi : i.1 < n0) : Fs.contains i = false := by
 rw [List.all_eq_true] at hF
 simp only [List.contains_eq_any_beq, List.any_eq_false, beq_iff_eq]
 intro x hx hix
 have := Nat.le_of_ble_eq_true (hF x hx)
 subst hix; omega
theorem z9e {n0 n n' : Nat} {r R : AVal} {H' L : AHeap} (M : List (Id × Id)) (Fs : List Id) (hρ : Ya n0 n H' M = true) (hF : (Fs.all fun x => Nat.ble n0 x.1) = true) (hv : Vw (fun x => Fs.contains x) H' (rho n0 M) n r R)
 (hH : HeapTo (fun x => Fs.contains x) H' (rho n0 M) n0 n L) : K7 n0 n R L r H' n' :=
 ⟨_, _, za1 hρ (zhb hF), hv, hH.get⟩
theorem Ks {f : FuncId} {bm : List Nat} {L : LFn} (hL : wb P bm f = some L) (hok : k6 P f) {args : List AVal} (hlen : args.length ≤ L.lay.n) {H Lh : AHeap} {n0 n : Nat} {R : AVal}
 (h : LWp P L.lay n0 L.body (Ys L.res (K7 n0 n R Lh)) (qk 0 args) H n0) : ACalls P f args H n0 (Ym n R Lh) := ACalls.fin (ACalls.ofFnW hL hok hlen h)
def zhr (H : AHeap) (id : Id) : Option Id := if id.1 = 3 then (if (H.get (2, id.2)).isSome = true then some (2, id.2) else none) else if id.1 < 3 then (if id.1 = 2 ∧ (H.get id).isSome = true then none else some id) else none
def zfz (k n : Nat) (M : List (Id × Id)) : Bool := M.all (fun x => Nat.ble (x.1.1 + 1) k && Nat.ble (x.2.1 + 1) n) && (M.map (·.2)).Nodup
theorem Z4 : ∀ {M : List (Id × Id)} {k : Id}, k ∈ M.map (·.2) → (M.map (·.1)).Nodup → ∃ i, Uo M i = some k
 | [], k, h, _ => by cases h
 | (a, b) :: r, k, h, hn => by
  simp only [List.map_cons, List.nodup_cons] at hn
  simp only [List.map_cons, List.mem_cons] at h
  rcases h with rfl | h
  ·exact ⟨a, by simp [Uo]⟩
  ·obtain ⟨i, hi⟩ := Z4 h hn.2
   refine ⟨i, ?_⟩
   have : a ≠ i := fun hai => by subst hai; exact hn.1 (List.mem_map.2 ⟨_, jl hi, rfl⟩)
   simp [Uo, this, hi]
def H0To (H : AHeap) (ρ : Id → Option Id) (k : Nat) : AHeap → Prop
 | [] => True
 | (i, b) :: r => (∃ x b', ρ i = some x ∧ H.get x = some b' ∧ BVw (fun _ => false) H ρ k b' b) ∧ H0To H ρ k r
theorem H0To.get {H : AHeap} {ρ : Id → Option Id} {k : Nat} : ∀ {H0 : AHeap}, H0To H ρ k H0 → ∀ i b, H0.get i = some b → ∃ x b', ρ i = some x ∧ H.get x = some b' ∧ BVw (fun _ => false) H ρ k b' b
 | [], _, i, b, h => by simp [AHeap.get] at h
 | (j, c) :: r, h, i, b, hg => by
  by_cases hj : j = i
  ·subst hj; rw [AHeap.get_cons_same] at hg; simp only [Option.some.injEq] at hg; subst hg; exact h.1
  ·rw [AHeap.get_cons_other _ _ hj] at hg; exact H0To.get h.2 i b hg
theorem h0I {H : AHeap} {ρ : Id → Option Id} {k : Nat} {i : Id} {b b' : ABlock} (x : Id) (h1 : ρ i = some x) (h2 : H.get x = some b') (h3 : BVw (fun _ => false) H ρ k b' b) : ∃ x b', ρ i = some x ∧ H.get x = some b' ∧ BVw (fun _ => false) H ρ k b' b := ⟨x, b', h1, h2, h3⟩
def z9x (M : List (Id × Id)) : Bool := (M.map (·.1)).Nodup
def Xv (L : AHeap) : Bool := (L.map (·.1)).Nodup
theorem z5a {f : Fn} {args args0 : List AVal} {H H0 L L' rest : AHeap} {n k m : Nat} {R R' : AVal} {K : AVal → AHeap → Nat → Prop} (M : List (Id × Id)) (h : ACalls P f args0 H0 k (Ym (k + m) R L))
 (hM : zfz k n M = true) (hM1 : z9x M = true) (hnd : Xv L = true) (ha : ArgsTo (fun _ => false) H (Uo M) k args args0) (hH : H0To H (Uo M) k H0)
 (hR : R.ren (Yt (Uo M) k n m) = R') (hL : RenL (Yt (Uo M) k n m) L L') (hrest : AHeap.without (fun x => (M.map (·.2)).contains x) H = rest)
 (hk : K R' (L' ++ rest) (n + m + 1)) : ACalls P f args H n K := by
 unfold zfz at hM
 simp only [Bool.and_eq_true, List.all_eq_true, decide_eq_true_eq] at hM
 have hM' : ∀ x ∈ M, x.1.1 < k ∧ x.2.1 < n := fun x hx => ⟨Nat.le_of_ble_eq_true (hM.1 x hx).1, Nat.le_of_ble_eq_true (hM.1 x hx).2⟩
 refine ACalls.frame (F := fun _ => false) (ρ := Uo M) h (fun i j x hi hj => X3 hM.2 (jl hi) (jl hj)) (fun i x hi => ⟨(hM' _ (jl hi)).1, (hM' _ (jl hi)).2, rfl⟩) (fun x hx => by cases hx) ha hH.get
  (fun x => (M.map (·.2)).contains x) (fun x => ?_) (by simpa [Xv] using hnd) ?_
 ·simp only [List.contains_eq_any_beq, List.any_eq_true, beq_iff_eq, exists_eq_right', Bool.false_eq_true, false_or]
  constructor
  ·intro hy
   exact Z4 hy (by simpa [z9x] using hM1)
  ·rintro ⟨i, hi⟩
   exact List.mem_map.2 ⟨_, jl hi, rfl⟩
 ·rw [hR, hL.eq, hrest]; exact hk
theorem Zd {p : Id → Bool} : ∀ {H : AHeap}, (∀ x ∈ H, p x.1 = false) → AHeap.without p H = H
 | [], _ => rfl
 | (k, b) :: r, h => by
  have := h (k, b) (List.mem_cons_self ..)
  simp only at this
  simp only [AHeap.without, this, Bool.false_eq_true, if_false]
  rw [Zd (fun x hx => h x (List.mem_cons_of_mem _ hx))]
def vu (q : Nat) (M : List (Id × Id)) (id : Id) : Option Id := if id.1 = 1 then some id else if id.1 = 2 then some (q, id.2) else Uo M id
theorem zdo {f : Fn} {args args0 : List AVal} {lit0 lit L L' rest T T' : AHeap} {n q m : Nat} {R R' : AVal} {K : AVal → AHeap → Nat → Prop} (t : Tl T) (t' : Tl T') (M : List (Id × Id)) (h : ACalls P f args0 (lit0 ++ T) 3 (Ym (3 + m) R (L ++ up 3 T')))
 (hM : zfz 3 n M = true) (hM1 : z9x M = true) (hM2 : (M.all fun x => Nat.beq x.1.1 0 && !(Nat.beq x.2.1 1) && !(Nat.beq x.2.1 q)) = true) (hn : (Nat.ble 3 q && Nat.ble (q + 1) n && Nat.ble 1 m) = true) (hnd : Xv L = true) (hnr : (noR 1 L && noR 3 L && noR n lit && noR 1 lit && noR q lit) = true)
 (ha : ArgsTo (fun _ => false) (lit ++ up q T) (vu q M) 3 args args0) (hH : H0To (lit ++ up q T) (vu q M) 3 lit0)
 (hR : R.ren (Yt (vu q M) 3 n m) = R') (hL : RenL (Yt (vu q M) 3 n m) L L') (hrest : AHeap.without (fun x => (M.map (·.2)).contains x) lit = rest)
 (hk : K R' (L' ++ (rest ++ up n T')) (n + m + 1)) : ACalls P f args (lit ++ up q T) n K := by
 unfold zfz at hM
 simp only [Bool.and_eq_true, List.all_eq_true, decide_eq_true_eq] at hM hM2 hn hnr
 have hM' : ∀ x ∈ M, x.1.1 < 3 ∧ x.2.1 < n := fun x hx => ⟨Nat.le_of_ble_eq_true (hM.1 x hx).1, Nat.le_of_ble_eq_true (hM.1 x hx).2⟩
 have hM3 : ∀ x ∈ M, x.1.1 = 0 ∧ x.2.1 ≠ 1 ∧ x.2.1 ≠ q := fun x hx => ⟨Nat.eq_of_beq_eq_true (hM2 x hx).1.1, z0v (by simpa using (hM2 x hx).1.2), z0v (by simpa using (hM2 x hx).2)⟩
 have q3 := Nat.le_of_ble_eq_true hn.1.1
 have qn := Nat.le_of_ble_eq_true hn.1.2
 have m1 := Nat.le_of_ble_eq_true hn.2
 have q1 : q ≠ 1 := by omega
 have cases : ∀ {i k : Id}, vu q M i = some k → (i.1 = 1 ∧ k = i) ∨ (i.1 = 2 ∧ k = (q, i.2)) ∨ ((i, k) ∈ M ∧ i.1 = 0 ∧ k.1 ≠ 1 ∧ k.1 ≠ q) := by
  intro i k h
  unfold vu at h
  split at h
  ·rename_i h1; simp only [Option.some.injEq] at h; exact .inl ⟨h1, h.symm⟩
  ·split at h
   ·rename_i h1; simp only [Option.some.injEq] at h; exact .inr (.inl ⟨h1, h.symm⟩)
   ·have := jl h; exact .inr (.inr ⟨this, hM3 _ this⟩)
 have l1 : ∀ p, vu q M (1, p) = some (1, p) := fun p => by simp [vu]
 have l2 : ∀ p, vu q M (2, p) = some (q, p) := fun p => by simp [vu]
 refine ACalls.sub ?_
 refine ACalls.frame (F := fun _ => false) (ρ := vu q M) h (fun i j x hi hj => ?_) (fun i x hi => ?_) (fun x hx => by cases hx) ha (fun i b hb => ?_)
  (fun x => p1q q x || (M.map (·.2)).contains x) (fun x => ?_) ?_ ?_
 ·rcases cases hi with ⟨a1, a2⟩ | ⟨a1, a2⟩ | ⟨a1, a2, a3, a4⟩ <;> rcases cases hj with ⟨b1, b2⟩ | ⟨b1, b2⟩ | ⟨b1, b2, b3, b4⟩
  ·rw [← a2, ← b2]
  ·rw [b2] at a2; have : i.1 = q := by rw [← a2]
   omega
  ·subst a2; omega
  ·rw [a2] at b2; have : j.1 = q := by rw [← b2]
   omega
  ·rw [a2] at b2; simp only [Prod.mk.injEq, true_and] at b2; ext
   ·omega
   ·exact b2
  ·rw [a2] at b4; exact absurd rfl b4
  ·subst b2; omega
  ·rw [b2] at a4; exact absurd rfl a4
  ·exact X3 hM.2 a1 b1
 ·rcases cases hi with ⟨a1, a2⟩ | ⟨a1, a2⟩ | ⟨a1, a2, a3, a4⟩
  ·subst a2; exact ⟨by omega, by omega, rfl⟩
  ·subst a2; exact ⟨by omega, by simp only; omega, rfl⟩
  ·exact ⟨by omega, (hM' _ a1).2, rfl⟩
 ·rw [AHeap.get_append] at hb
  cases hl : lit0.get i with
  | some b0 =>
   rw [hl] at hb
   simp only [Option.some_or, Option.some.injEq] at hb
   subst hb
   exact hH.get i b0 hl
  | none =>
   rw [hl] at hb
   simp only [Option.none_or] at hb
   have hm := Qv hb
   have hat : vu q M i = some (mv 2 q i) := by
    have hk : p12 i = true := t.key _ hm
    rcases kv hk with h1 | h1
    ·unfold mv; rw [if_neg (by omega), show i = (1, i.2) by rw [← h1]]; exact l1 _
    ·unfold mv; rw [if_pos h1, show i = (2, i.2) by rw [← h1]]; exact l2 _
   refine ⟨_, _, hat, zf8 t hnr.1.2 hnr.2 (zfs q1 t hb), ?_⟩
   have e : (b.ren (mv 2 q)).ren (mv q 2) = b := by
    rw [z0d q1 (t.val' _ hm)]
    have := Y9 (g := mv 2 2) (h := fun i => i) (p := p12) (fun id hid => by
     unfold mv
     split
     ·rename_i h; rw [← h]
     ·rfl) b (t.val' _ hm)
    rw [this, z6v]
   have := BVw.mov (F := fun _ => false) (H := lit ++ up q T) (ρ := vu q M) (n := 3) (p1q q) (mv q 2) (b.ren (mv 2 q)) (Jy (fun id hid => V6 (zd5 hid)) _ (t.val' _ hm)) (fun id hid => by
    rcases Z6 hid with h1 | h1
    ·have e : mv q 2 id = id := by unfold mv; rw [if_neg (by omega)]
     rw [e, show id = (1, id.2) by rw [← h1]]
     exact ⟨by simp only; omega, l1 _⟩
    ·have e : mv q 2 id = (2, id.2) := by unfold mv; rw [if_pos h1]
     rw [e]
     refine ⟨by simp only; omega, ?_⟩
     rw [l2, ← h1])
   rwa [e] at this
 ·simp only [Bool.false_eq_true, false_or, Bool.or_eq_true]
  constructor
  ·rintro (h1 | h1)
   ·rcases Z6 h1 with h1 | h1
    ·exact ⟨x, by rw [show x = (1, x.2) by rw [← h1]]; exact l1 _⟩
    ·exact ⟨(2, x.2), by rw [l2, ← h1]⟩
   ·simp only [List.contains_eq_any_beq, List.any_eq_true, beq_iff_eq, exists_eq_right'] at h1
    obtain ⟨i, hi⟩ := Z4 (M := M) h1 (by simpa [z9x] using hM1)
    have := (hM3 _ (jl hi)).1
    exact ⟨i, by unfold vu; rw [if_neg (by simp only at this; omega), if_neg (by simp only at this; omega)]; exact hi⟩
  ·rintro ⟨i, hi⟩
   rcases cases hi with ⟨a1, a2⟩ | ⟨a1, a2⟩ | ⟨a1, a2, a3, a4⟩
   ·left; subst a2; exact V6 (.inl a1)
   ·left; subst a2; exact V6 (.inr rfl)
   ·right
    simp only [List.contains_eq_any_beq, List.any_eq_true, beq_iff_eq, exists_eq_right']
    exact List.mem_map.2 ⟨_, a1, rfl⟩
 ·rw [List.map_append, List.nodup_append]
  refine ⟨by simpa [Xv] using hnd, zdm (by omega) t', fun a ha b hb hab => ?_⟩
  obtain ⟨x, hx, rfl⟩ := List.mem_map.1 ha
  obtain ⟨y, hy, rfl⟩ := List.mem_map.1 hb
  have h1 := hnr.1.1.1.1
  have h3 := hnr.1.1.1.2
  unfold noR at h1 h3
  rw [List.all_eq_true] at h1 h3
  rcases (z24 t' hy).1 with g | g
  ·exact z0v (h1 x hx) (by rw [hab]; exact g)
  ·exact z0v (h3 x hx) (by rw [hab]; exact g)
 ·have hu : ∀ id : Id, p1q 3 id = true → Yt (vu q M) 3 n m id = mv 3 n id := by
   intro id hid
   rcases Z6 hid with h1 | h1
   ·unfold Yt mv; rw [if_pos (by omega), if_neg (by omega), show id = (1, id.2) by rw [← h1], l1]; rfl
   ·unfold Yt mv; rw [if_neg (by omega), if_pos h1, h1]; simp
  have eT : AHeap.renamed (Yt (vu q M) 3 n m) (up 3 T') = up n T' := by
   rw [← zgu (q := 3) (q' := n) (by omega) t']
   unfold AHeap.renamed
   refine List.map_congr_left fun x hx => ?_
   obtain ⟨g1, g2⟩ := z24 t' hx
   rw [hu _ (V6 g1), Y9 hu _ g2]
  have eL : AHeap.renamed (Yt (vu q M) 3 n m) (L ++ up 3 T') = L' ++ up n T' := by
   have := hL.eq
   unfold AHeap.renamed at this eT ⊢
   rw [List.map_append, this, eT]
  rw [hR, eL]
  refine ⟨_, fun id blk hb => ?_, hk⟩
  rw [AHeap.get_append] at hb ⊢
  rw [AHeap.get_append]
  cases g1 : L'.get id with
  | some b => rw [g1] at hb; simpa using hb
  | none =>
   rw [g1] at hb
   simp only [Option.none_or] at hb ⊢
   rw [AHeap.get_append] at hb
   cases g2 : rest.get id with
   | none =>
    rw [g2] at hb
    simp only [Option.none_or] at hb
    rw [hb]; rfl
   | some b =>
    rw [g2] at hb
    simp only [Option.some_or, Option.some.injEq] at hb
    subst hb
    -- an old block: not under 1, nor under n
    have hg : lit.get id = some b ∧ (M.map (·.2)).contains id = false := by
     rw [← hrest, AHeap.get_without] at g2
     split at g2
     ·cases g2
     ·rename_i hc; exact ⟨g2, by simpa using hc⟩
    have hlt : id.1 ≠ 1 ∧ id.1 ≠ q := ⟨fun h => by rw [Q7 hnr.1.2 h] at hg; exact absurd hg.1 (by simp), fun h => by rw [Q7 hnr.2 h] at hg; exact absurd hg.1 (by simp)⟩
    have hu0 : (up n T').get id = none := by
     cases hh : (up n T').get id with
     | none => rfl
     | some b' =>
      rcases (z24 t' (Qv hh)).1 with h1 | h1
      ·exact absurd h1 hlt.1
      ·rw [Q7 hnr.1.1.2 h1] at hg; exact absurd hg.1 (by simp)
    have hp : (p1q q id || (M.map (·.2)).contains id) = false := by
     rw [hg.2, Bool.or_false]
     cases hh : p1q q id with
     | false => rfl
     | true =>
      rcases Z6 hh with h1 | h1
      ·exact absurd h1 hlt.1
      ·exact absurd h1 hlt.2
    rw [hu0, AHeap.get_without, hp, AHeap.get_append, hg.1]
    simp
structure Clo (P : Program) (fid : Fn) (first caps : List AVal) {σ α τ : Type} (Hc : σ → AHeap) (ea : α → List AVal) (rb : τ → AVal) (g : σ → α → Option (τ × σ)) : Prop where
 tl : ∀ s, Tl (Hc s)
 hf : AVal.inP.inPL (fun id => Nat.beq id.1 1) first = true
 hc : AVal.inP.inPL (fun id => Nat.beq id.1 1) caps = true
 hb : ∀ b, (rb b).nid = true
 yc : (∃ f, fid = .func f) ∨ caps = []
 call : ∀ s x o, g s x = some o → ACalls P fid (first ++ ea x ++ caps) (Hc s) 3 (Ym 4 (rb o.1) (up 3 (Hc o.2)))
theorem Y0 {F : Id → Bool} {H : AHeap} {ρ : Id → Option Id} {n : Nat} : ∀ {a b c d : List AVal}, ArgsTo F H ρ n a b → ArgsTo F H ρ n c d → ArgsTo F H ρ n (a ++ c) (b ++ d)
 | [], [], _, _, _, h => h
 | [], _ :: _, _, _, h, _ => h.elim
 | _ :: _, [], _, _, h, _ => h.elim
 | x :: xs, y :: ys, _, _, h, h' => ⟨h.1, Y0 h.2 h'⟩
theorem Vw.fix1 {F : Id → Bool} {H : AHeap} {ρ : Id → Option Id} {n : Nat} {x : AVal} (hx : x.inP (fun id => Nat.beq id.1 1) = true) (hn : 1 < n) (hρ : ∀ p, ρ (1, p) = some (1, p)) : Vw F H ρ n x x := by
 have := Vw.mov (F := F) (H := H) (ρ := ρ) (n := n) (fun id => Nat.beq id.1 1) (fun i => i) x hx (fun id hid => by
  have h1 := Nat.eq_of_beq_eq_true hid
  refine ⟨by omega, ?_⟩
  rw [show id = (1, id.2) by rw [← h1]]; exact hρ _)
 rwa [Ze] at this
theorem Y3 {F : Id → Bool} {H : AHeap} {ρ : Id → Option Id} {n : Nat} (hn : 1 < n) (hρ : ∀ p, ρ (1, p) = some (1, p)) : ∀ {a : List AVal}, AVal.inP.inPL (fun id => Nat.beq id.1 1) a = true → ArgsTo F H ρ n a a
 | [], _ => trivial
 | x :: r, h => by
  simp only [AVal.inP.inPL, Bool.and_eq_true] at h
  exact ⟨.fix1 h.1 hn hρ, Y3 hn hρ h.2⟩
theorem z7b (q : Nat) (M : List (Id × Id)) (p : Nat) : vu q M (1, p) = some (1, p) := by simp [vu]
theorem Clo.use {fid : Fn} {first caps : List AVal} {σ α τ : Type} {Hc : σ → AHeap} {ea : α → List AVal} {rb : τ → AVal} {g : σ → α → Option (τ × σ)} (c : Clo P fid first caps Hc ea rb g) {s : σ} {x : α} {o : τ × σ} (h : g s x = some o)
 {args : List AVal} {lit : AHeap} {n q : Nat} {K : AVal → AHeap → Nat → Prop} (hn : (Nat.ble 3 q && Nat.ble (q + 1) n) = true) (hnr : (noR n lit && noR 1 lit && noR q lit) = true) (ha : ArgsTo (fun _ => false) (lit ++ up q (Hc s)) (vu q []) 3 args (ea x))
 (hk : K (rb o.1) (lit ++ up n (Hc o.2)) (n + 2)) : ACallsC P fid first args caps (lit ++ up q (Hc s)) n K := by
 have key : ∀ {f : Fn}, (∃ f', f = .func f') ∨ caps = [] → ACalls P f (first ++ args ++ caps) (lit ++ up q (Hc s)) n K → ACallsC P f first args caps (lit ++ up q (Hc s)) n K := by
  intro f h1 h2
  cases f with
  | func g => exact h2
  | _ =>
   rcases h1 with ⟨f', h1⟩ | h1
   ·cases h1
   ·exact ⟨h1, h2⟩
 refine key c.yc ?_
 refine zdo (m := 1) (L := []) (L' := []) (lit0 := []) (rest := lit) (R' := rb o.1) (c.tl s) (c.tl o.2) [] (c.call s x o h) rfl rfl rfl ?_ rfl ?_ (Y0 (Y0 (Y3 (by omega) (z7b q []) c.hf) ha) (Y3 (by omega) (z7b q []) c.hc)) trivial
  (ut _ (c.hb _)) trivial (Zd (fun _ _ => rfl)) hk
 ·simp only [Bool.and_eq_true] at hn ⊢
  exact ⟨hn, rfl⟩
 ·simp only [Bool.and_eq_true] at hnr ⊢
  exact ⟨⟨⟨⟨rfl, rfl⟩, hnr.1.1⟩, hnr.1.2⟩, hnr.2⟩
theorem ACalls.same {f : Fn} {args : List AVal} {H : AHeap} {n : Nat} {R : AVal} (hR : R.nid = true) (h : ACalls P f args H n (fun r H' n' => r = R ∧ Wj (fun _ => false) H' (rho n []) n n H)) : ACalls P f args H n (fun r H' n' => r = R ∧ H' = H ∧ n' = n) := by
 refine ⟨h.1, fun I β w vs hI hl hr => (h.2 I β w vs hI hl hr).mono ?_⟩
 rintro ee w' ⟨r, v, H', n', I', β', he, ⟨rfl, hH⟩, hI', hr', hx⟩
 have hρ : RhoOk n n (fun _ => false) H' (rho n []) := za1 (by simp [Ya]) (fun _ _ => rfl)
 obtain ⟨k1, k2⟩ := z1v hx hI' hρ hH
 exact ⟨_, v, H, n, _, _, he, ⟨rfl, rfl, rfl⟩, k2, kw (fun _ _ h => .inl h) _ hR hr', k1⟩
theorem ACalls.sim {f : Fn} {args args' : List AVal} {H L : AHeap} {n n2 : Nat} {K : AVal → AHeap → Nat → Prop} (hc : Nat.ble n n2 = true) (ha : ArgsTo (fun _ => false) H (rho n []) n2 args args') (hH : HeapTo (fun _ => false) H (rho n []) n n2 L)
 (h : ACalls P f args' L n2 K) : ACalls P f args H n K := by
 refine ⟨h.1, fun I β w vs hI hl hr => ?_⟩
 have hρ : RhoOk n n2 (fun _ => false) H (rho n []) := za1 (by simp [Ya, hc]) (fun _ _ => rfl)
 obtain ⟨k1, k2⟩ := z1v (Ext.refl I β n H w hI.fresh) hI hρ hH.get
 obtain ⟨ha1, ha2⟩ := ha.get
 refine (h.2 _ _ w vs k2 (by rw [hl, ha1]) (fun i y v hy hv => ?_)).mono ?_
 ·have hlt : i < args.length := by rw [ha1]; exact kn hy
  exact Qs hI hρ (ha2 i args[i] y (List.getElem?_eq_getElem hlt) hy) (hr i _ v (List.getElem?_eq_getElem hlt) hv)
 ·rintro ee w' ⟨r, v, H', n', I', β', he, hk, hI', hr', hx⟩
  exact ⟨r, v, H', n', I', β', he, hk, hI', hr', k1.trans hx⟩
def zci (p : Id → Bool) : AHeap → Prop
 | [] => True
 | (_, b) :: r => b.inP p = true ∧ zci p r
theorem Vo {p : Id → Bool} : ∀ {T : AHeap}, zci p T → ∀ x ∈ T, x.2.inP p = true
 | [], _, x, hx => by cases hx
 | (_, b) :: r, h, x, hx => by
  rcases List.mem_cons.1 hx with e | hx
  ·rw [e]; exact h.1
  ·exact Vo h.2 x hx
theorem Tl.lit {T : AHeap} (hk : (T.all fun x => p12 x.1) = true) (hv : zci (fun id => p12 id && (T.get id).isSome) T) (hn : Xv T = true) : Tl T :=
 ⟨by rw [List.all_eq_true] at hk; exact hk, Vo hv, by simpa [Xv] using hn⟩
def lk {κ α : Type} (q : κ → κ → Bool) : List (κ × α) → κ → Option α
 | [], _ => none
 | (k', v) :: r, k => if q k k' = true then some v else lk q r k
def mp {κ α : Type} (q : κ → κ → Bool) : List (κ × α) → κ → α → List (κ × α)
 | [], k, v => [(k, v)]
 | (k', v') :: r, k, v => if q k k' = true then (k, v) :: r else (k', v') :: mp q r k v
def md {κ α : Type} (q : κ → κ → Bool) : List (κ × α) → κ → List (κ × α)
 | [], _ => []
 | (k', v') :: r, k => if q k k' = true then r else (k', v') :: md q r k
def em {κ α : Type} (ek : κ → AVal) (ev : α → AVal) (p : κ × α) : AVal × AVal := (ek p.1, ev p.2)
end Go.Fx
