/-
  Own framework.
-/
import Derived.Test.YteepckliibfnkaaFxIn3
namespace Go.Fx
open Go.Shelf Go.RowKit Go.Lib Go.Proofs
set_option linter.unusedVariables false
set_option linter.unusedSimpArgs false
variable {P : Program} {ρ : Ren}
structure DelL (P : Program) (ρ : Ren) : Prop where
  mixed : P.follows .mixedOrders = true
  f24 : ∃ nm, P.funcs[ρ.f 24]? = some { Body2.n24 ρ with name := nm }
  t0 : P.underlying (ρ.t 0) = some (TypeDesc.tuple #[])
  a0 : ∀ w, (isAgg (ρ.t 0)).run P w = .ok false w
  z0 : ∀ w, (Go.sizeOf (ρ.t 0)).run P w = .ok 1 w
  v0 : ∀ w, (zeroValue (ρ.t 0)).run P w = .ok (Value.tuple #[]) w
  t3 : P.underlying (ρ.t 3) = some (TypeDesc.int IntKind.i64)
  a3 : ∀ w, (isAgg (ρ.t 3)).run P w = .ok false w
  z3 : ∀ w, (Go.sizeOf (ρ.t 3)).run P w = .ok 1 w
  v3 : ∀ w, (zeroValue (ρ.t 3)).run P w = .ok (Value.int IntKind.i64 0) w
  t4 : P.underlying (ρ.t 4) = some (TypeDesc.bool)
  a4 : ∀ w, (isAgg (ρ.t 4)).run P w = .ok false w
  z4 : ∀ w, (Go.sizeOf (ρ.t 4)).run P w = .ok 1 w
  v4 : ∀ w, (zeroValue (ρ.t 4)).run P w = .ok (Value.bool false) w
  t24 : P.underlying (ρ.t 24) = some (TypeDesc.slice (ρ.t 9))
  a24 : ∀ w, (isAgg (ρ.t 24)).run P w = .ok false w
  z24 : ∀ w, (Go.sizeOf (ρ.t 24)).run P w = .ok 1 w
  v24 : ∀ w, (zeroValue (ρ.t 24)).run P w = .ok (Value.slice none 0 0) w
theorem step_append_runI {ops : Array Oper} {o : Oper} {a : Act} {w : World} {K : Act → World → Prop} {Q : Exit → Act → World → Prop} {E : Prop}
    (hg : o.guard = none) (d x : Operand) (dT sT : TypeId) (hop : o.op = Op.call { callee := Callee.builtin Builtin.append, args := #[d, x], argTypes := #[dT, sT] })
    (v u : Value) (hd : a.eval d = v) (hx : a.eval x = u) {v' : Value} {w' : World} (hr : (Builtin.append_ #[dT, sT] o.type #[v, u]).run P w = .ok v' w') (hK : K (a.put o.dst v') w') :
    if Region.wanted o (yielded ops a.tmps) = true then Oper.wp P o a w K Q else E := by
  have hw : Region.wanted o (yielded ops a.tmps) = true := by simp [Region.wanted, hg]
  rw [if_pos hw]
  unfold Oper.wp
  simp [execOp, hop, resolve, invoke, builtin, hd, hx, hr, Result.andThen]
  exact hK
section
variable {s : Nat}
set_option maxHeartbeats 4000000 in
set_option maxRecDepth 100000 in
theorem del_walk (L : DelL P ρ) (hsz : sizeT P (ρ.t 9) = some s) (b off n c i : Nat) (w w1 w2 : World) (hi : i < n) (hnc : n ≤ c) (hn63 : n < 4611686018427387904) (hci : ¬ (c = i + 1)) (r : Value)
    (hap : ∀ ty yc, (Builtin.append_ #[(ρ.t 24), (ρ.t 24)] ty #[.slice (some ⟨b, off, none⟩) i c, .slice (some ⟨b, off + (i + 1) * s, none⟩) (n - (i + 1)) yc]).run P w.drew = .ok (.slice (some ⟨b, off, none⟩) (n - 1) c) w1)
    (hcl : ∀ ty yc, (Builtin.clear_ #[(ρ.t 24)] ty #[.slice (some ⟨b, off + (n - 1) * s, none⟩) (n - (n - 1)) yc]).run P w1 = .ok r w2) :
    Calls P (ρ.f 24) #[.slice (some ⟨b, off, none⟩) n c, .int .i64 i, .int .i64 ((i : Int) + 1)] w fun e w' => e = .returned (.slice (some ⟨b, off, none⟩) (n - 1) c) ∧ w' = w2 := by
  have t0 := L.t0; have a0 := L.a0; have z0 := L.z0; have v0 := L.v0; have t3 := L.t3; have a3 := L.a3; have z3 := L.z3; have v3 := L.v3; have t4 := L.t4; have a4 := L.a4; have z4 := L.z4; have v4 := L.v4; have t24 := L.t24; have a24 := L.a24; have z24 := L.z24; have v24 := L.v24
  have u0 := run_underlying L.t0; have u3 := run_underlying L.t3; have u4 := run_underlying L.t4; have u24 := run_underlying L.t24
  have z9 : ∀ w, (Go.sizeOf (ρ.t 9)).run P w = .ok s w := run_sizeOf hsz
  have mixed := L.mixed
  have hz2 : ¬ ((i : Int) = (i : Int) + 1) := by omega
  have hb1 : (0 : Int) ≤ (i : Int) + 1 := by omega
  have hin : i ≤ n := by omega
  have htn : ((i : Int) + 1).toNat = i + 1 := by omega
  have hb3 : (i : Int) + 1 ≤ (n : Int) := by omega
  have hb5 : (i : Int) + 1 ≤ (c : Int) := by omega
  have hcn1 : ¬ (c = n - 1) := by omega
  have hic : i ≤ c := by omega
  have hn1 : n - 1 ≤ n := by omega
  obtain ⟨nm, hf24⟩ := L.f24
  go_enter hf24, Body2.n24_ntmps ρ
  go_wp2
  go_region_law_o (refine step_append_runI rfl _ _ (ρ.t 24) (ρ.t 24) rfl _ _ (by simp [Act.eval, Act.put]) (by simp [Act.eval, Act.put]) (hap _ (c - (i + 1))) ?_)
  go_wp2
  go_ret
  exact ⟨rfl, rfl⟩
set_option maxHeartbeats 4000000 in
set_option maxRecDepth 100000 in
theorem del_walk_last (L : DelL P ρ) (hsz : sizeT P (ρ.t 9) = some s) (b off i : Nat) (w w2 : World) (hn63 : i < 4611686018427387904) (r : Value)
    (hap : ∀ ty, (Builtin.append_ #[(ρ.t 24), (ρ.t 24)] ty #[.slice (some ⟨b, off, none⟩) i (i + 1), .slice (some ⟨b, off, none⟩) 0 0]).run P w.drew = .ok (.slice (some ⟨b, off, none⟩) i (i + 1)) w.drew)
    (hcl : ∀ ty yc, (Builtin.clear_ #[(ρ.t 24)] ty #[.slice (some ⟨b, off + i * s, none⟩) 1 yc]).run P w.drew = .ok r w2) :
    Calls P (ρ.f 24) #[.slice (some ⟨b, off, none⟩) (i + 1) (i + 1), .int .i64 i, .int .i64 ((i : Int) + 1)] w fun e w' => e = .returned (.slice (some ⟨b, off, none⟩) i (i + 1)) ∧ w' = w2 := by
  have t0 := L.t0; have a0 := L.a0; have z0 := L.z0; have v0 := L.v0; have t3 := L.t3; have a3 := L.a3; have z3 := L.z3; have v3 := L.v3; have t4 := L.t4; have a4 := L.a4; have z4 := L.z4; have v4 := L.v4; have t24 := L.t24; have a24 := L.a24; have z24 := L.z24; have v24 := L.v24
  have u0 := run_underlying L.t0; have u3 := run_underlying L.t3; have u4 := run_underlying L.t4; have u24 := run_underlying L.t24
  have z9 : ∀ w, (Go.sizeOf (ρ.t 9)).run P w = .ok s w := run_sizeOf hsz
  have mixed := L.mixed
  have hz2 : ¬ ((i : Int) = (i : Int) + 1) := by omega
  have hb1 : (0 : Int) ≤ (i : Int) + 1 := by omega
  have hin : i ≤ i + 1 := by omega
  have htn : ((i : Int) + 1).toNat = i + 1 := by omega
  have hle : (i : Int) ≤ (i : Int) + 1 := by omega
  obtain ⟨nm, hf24⟩ := L.f24
  go_enter hf24, Body2.n24_ntmps ρ
  go_wp2
  go_region_law_o (refine step_append_runI rfl _ _ (ρ.t 24) (ρ.t 24) rfl _ _ (by simp [Act.eval, Act.put]) (by simp [Act.eval, Act.put]) (hap _) ?_)
  go_wp2
  go_ret
  exact ⟨rfl, rfl⟩
theorem app_room0 {t u c rt : TypeId} {z : Nat} (ht : P.underlying t = some (.slice c)) (hu : P.underlying u = some (.slice c)) (hsz : sizeT P c = some z) (w w' : World) (b o len cap m : Nat) (h : len + m ≤ cap) {vy : Value} {a2 : Array Value}
    (hly : (Builtin.lenOf vy).run P w = .ok m w) (f2 : (Builtin.firstCells z m vy).run P w = .ok a2 w) (hst : (storeCells ⟨b, o + len * z, none⟩ a2.toList 0).run P w = .ok () w') :
    (Builtin.append_ #[t, u] rt #[.slice (some ⟨b, o, none⟩) len cap, vy]).run P w = .ok (.slice (some ⟨b, o, none⟩) (len + m) cap) w' := by
  unfold Builtin.append_
  simp only [List.getElem?_toArray, List.getElem?_cons_zero, List.getElem?_cons_succ, Sem.run_bind, run_under ht, run_under hu, Result.andThen_ok, run_sizeOf hsz, Sem.run_pure, hly, Bool.false_eq_true, if_false, Bool.not_false, if_true]
  rw [if_pos h]
  simp only [Sem.run_bind, f2, Result.andThen_ok, add_plain, hst, Sem.run_pure]
theorem app_room {t u c rt : TypeId} {z : Nat} (ht : P.underlying t = some (.slice c)) (hu : P.underlying u = some (.slice c)) (hsz : sizeT P c = some z) (w w' : World) (b o len cap m : Nat) (h : len + m ≤ cap) (yb : Option Addr) (yc : Nat) {a2 : Array Value}
    (hf : (Builtin.firstCells z m (.slice yb m yc)).run P w = .ok a2 w) (hst : (storeCells ⟨b, o + len * z, none⟩ a2.toList 0).run P w = .ok () w') :
    (Builtin.append_ #[t, u] rt #[.slice (some ⟨b, o, none⟩) len cap, .slice yb m yc]).run P w = .ok (.slice (some ⟨b, o, none⟩) (len + m) cap) w' :=
  app_room0 ht hu hsz w w' b o len cap m h rfl hf hst
theorem clear_row {t c : TypeId} {zs : List AVal} (ht : P.underlying t = some (.slice c)) (hz : zerosOf P c = some zs) (hzs : zs.length = s) {w : World} {b o : Nat} (h1 : ∀ j, j < s → ∃ u, w.cell? ⟨b, o + j, none⟩ = some u) (h2 : ∀ j, j < s → w.frozen? ⟨b, o + j, none⟩ = false) :
    ∃ w', (∀ ty yc, (Builtin.clear_ #[t] ty #[.slice (some ⟨b, o, none⟩) 1 yc]).run P w = .ok (.tuple #[]) w') ∧ Chg w w' (fun b' k => b' = b ∧ o ≤ k ∧ k < o + s) := by
  obtain ⟨zv, zi, hzi, _, hzl, hzv, hzr⟩ := zeros_rep (I := fun _ _ => False) (β := fun _ => none) (n := 0) (w := w) hz
  have hzc : zv.cells.size = s := by have := hzr.1; omega
  have hl : (Builtin.zeroCells zv.cells 1).toList.length = s := by simp [Builtin.zeroCells, hzc]
  obtain ⟨w', g1, g2, _, _⟩ := storeCells_chg (P := P) (vs := (Builtin.zeroCells zv.cells 1).toList) (w := w) (b := b) (o := o) (by rw [hl]; exact h1) (by rw [hl]; exact h2) (fun v hv => by
    simp only [Builtin.zeroCells, Array.toList_map, List.mem_map] at hv
    obtain ⟨k, hk, rfl⟩ := hv
    have hk' : k < 1 * zv.cells.size := by simpa using hk
    have hm : k % zv.cells.size < zv.cells.size := Nat.mod_lt _ (by omega)
    rw [getElem!_pos zv.cells (k % zv.cells.size) hm]
    exact hzr.2.1 _ (by simp))
  rw [hl] at g2
  refine ⟨w', fun ty yc => ?_, g2⟩
  have g1' : (storeCells ⟨b, o, none⟩ (Builtin.zeroCells zv.cells 1).toList).run P w = .ok () w' := g1
  unfold Builtin.clear_
  simp only [List.getElem?_toArray, List.getElem?_cons_zero, Sem.run_bind, run_under ht, Result.andThen_ok, hzv, g1', Sem.run_pure]
end
section
variable {s b : Nat} {zs : List AVal}
theorem del_acalls (L : DelL P ρ) (hz : zerosOf P (ρ.t 9) = some zs) (hsz : sizeT P (ρ.t 9) = some s) (hs : 0 < s) (hzs : zs.length = s) (hok : FnOk P (ρ.f 24)) {f : FuncId} (hf : ρ.f 24 = f) {es : List (List AVal)} {i : Nat} (hi : i < es.length) (hbig : es.length < 4611686018427387904) (fl : Bool) :
    ACalls P f [.msl (0, 0) s 0 es.length fl, .int .i64 i, .int .i64 ((i : Int) + 1)] [((0, 0), .rows s es)] 3 (Gives 4 (.msl (3, 0) s 0 (es.length - 1) false) [((3, 0), .rows s (es.take i ++ es.drop (i + 1)))]) := by
  subst hf
  refine ⟨hok, fun I β w vs hI hlen hr => ?_⟩
  match vs, hlen with
  | [v0, v1, v2], _ =>
  have hr0 := hr 0 _ _ rfl rfl
  have hr1 := hr 1 _ _ rfl rfl
  have hr2 := hr 2 _ _ rfl rfl
  have hv1 : v1 = .int .i64 i := by cases hr1 with | imm _ _ h => cases h; rfl
  have hv2 : v2 = .int .i64 ((i : Int) + 1) := by cases hr2 with | imm _ _ h => cases h; rfl
  subst hv1
  subst hv2
  obtain ⟨c, hc, hcs, hA, h3, h4, h5, h6, h7⟩ := hI.blocks (0, 0) _ rfl
  obtain ⟨a, cap, rfl, q1, q2, q3⟩ : ∃ a cap, v0 = .slice a es.length cap ∧ (es.length ≤ cap ∧ (a = none → cap = 0)) ∧ (fl = true → cap = es.length) ∧ (∀ c, β (0, 0) = some c → c.s = s ∧ (cap ≠ 0 → a = some ⟨c.blk, c.base + 0 * s, none⟩ ∧ c.base + (0 + cap) * s ≤ c.size)) := by
    cases hr0 with
    | imm _ _ h => cases h
    | msl _ _ _ _ _ a cap _ g1 g2 g3 => exact ⟨a, cap, rfl, g1, g2, g3⟩
  show Calls P (ρ.f 24) #[.slice a es.length cap, .int .i64 i, .int .i64 ((i : Int) + 1)] w _
  obtain ⟨q31, q32⟩ := q3 c hc
  obtain ⟨rfl, hcsz⟩ := q32 (by omega)
  rw [Nat.zero_add] at hcsz
  rw [Nat.zero_mul, Nat.add_zero] at hr0 ⊢
  obtain ⟨hId, hXd⟩ := drew_ok hI
  have hcap : es.length * s ≤ cap * s := Nat.mul_le_mul_right _ q1.1
  have hrest : (es.length - (i + 1)) * s + (i + 1) * s = es.length * s := by rw [← Nat.add_mul]; congr 1; omega
  have hstep : (i + 1) * s = i * s + s := Nat.succ_mul i s
  have hlast : (es.length - 1) * s + s = es.length * s := by rw [← Nat.succ_mul]; congr 1; omega
  have hmid : i * s + (es.length - (i + 1)) * s = (es.length - 1) * s := by rw [← Nat.add_mul]; congr 1; omega
  obtain ⟨arr, el, fr, p1, p2, p3⟩ : ∃ arr el fr, w.heap[c.blk]? = some (.cells arr el fr) ∧ c.size ≤ arr.size ∧ (c.lo < c.size → c.lo = 0 ∧ c.size = arr.size ∧ EndOk c.s arr fr) := by
    rcases hA with hA | ⟨_, z2, z3⟩
    · exact hA
    · rw [z3] at hi; simp at hi
  have hcellw : ∀ k, k < c.size → ∃ u, w.drew.cell? ⟨c.blk, k, none⟩ = some u := fun k hk => by
    have hlt : k < arr.size := by omega
    exact ⟨arr[k], by show w.cell? _ = _; unfold World.cell?; simp [p1, hlt]⟩
  have hfrw : ∀ k, c.lo ≤ k → k < c.size → w.drew.frozen? ⟨c.blk, k, none⟩ = false := h3
  -- the rows behind the element, read at w.drew
  have hx2 : Rep I β 3 w.drew (.msl (0, 0) s (i + 1) (es.length - (i + 1)) false) (.slice (if cap = i + 1 then some ⟨c.blk, c.base, none⟩ else some ⟨c.blk, c.base + (i + 1) * s, none⟩) (es.length - (i + 1)) (cap - (i + 1))) := by
    refine .msl _ _ _ _ _ _ _ (by decide) ⟨by omega, fun h => by split at h <;> cases h⟩ nofun fun d hd => ?_
    rw [hc] at hd
    simp only [Option.some.injEq] at hd
    subst hd
    exact ⟨q31, fun hne => ⟨by rw [if_neg (by omega)], by rw [show i + 1 + (cap - (i + 1)) = cap by omega]; exact hcsz⟩⟩
  obtain ⟨_, hread⟩ := rows_read (P := P) hId hs hx2 (p := s = s ∧ s = s ∧ i + 1 + (es.length - (i + 1)) ≤ es.length) (rows := (es.drop (i + 1)).take (es.length - (i + 1))) rfl ⟨rfl, rfl, by omega⟩
  have hdt : (es.drop (i + 1)).take (es.length - (i + 1)) = es.drop (i + 1) := List.take_of_length_le (by simp)
  rw [hdt] at hread
  obtain ⟨a2, f2, f2s, f2c, f2r, _⟩ := hread (es.length - (i + 1)) (by simp)
  rw [List.take_of_length_le (by simp)] at f2r
  obtain ⟨w1, t1, t2, _, t4⟩ := storeCells_chg (P := P) (vs := a2.toList) (w := w.drew) (b := c.blk) (o := c.base + i * s)
    (fun j hj => by simp only [Array.length_toList, f2s] at hj; exact hcellw _ (by omega))
    (fun j hj => by simp only [Array.length_toList, f2s] at hj; exact hfrw _ (by omega) (by omega)) f2c
  simp only [Array.length_toList, f2s] at t2 t4
  have hblk : c.blk < w.drew.heap.size := by
    rcases Nat.lt_or_ge c.blk w.heap.size with h | h
    · exact h
    · rw [Array.getElem?_eq_none h] at p1; cases p1
  have hcell1 : ∀ k, k < c.size → ∃ u, w1.cell? ⟨c.blk, k, none⟩ = some u := fun k hk => by
    by_cases hin : c.base + i * s ≤ k ∧ k < c.base + i * s + (es.length - (i + 1)) * s
    · have := t4 (k - (c.base + i * s)) (by omega)
      rw [show c.base + i * s + (k - (c.base + i * s)) = k by omega] at this
      rw [this]
      exact ⟨a2.toList[k - (c.base + i * s)]'(by simp only [Array.length_toList, f2s]; omega), List.getElem?_eq_getElem _⟩
    · obtain ⟨u, hu⟩ := hcellw k hk
      exact ⟨u, (t2.cell c.blk k hblk (fun h => hin ⟨h.2.1, h.2.2⟩)).trans hu⟩
  have hfr1 : ∀ k, c.lo ≤ k → k < c.size → w1.frozen? ⟨c.blk, k, none⟩ = false := fun k hk1 hk2 => by
    obtain ⟨u, hu⟩ := hcellw k hk2
    rw [t2.frozen hu]
    exact hfrw k hk1 hk2
  obtain ⟨w2, u1, u2⟩ := clear_row (P := P) (s := s) (w := w1) (b := c.blk) (o := c.base + (es.length - 1) * s) L.t24 hz hzs (fun j hj => hcell1 _ (by omega)) (fun j hj => hfr1 _ (by omega) (by omega))
  have hch : Chg w.drew w2 c.has := (t2.mono (fun b k h => by obtain ⟨rfl, g1, g2⟩ := h; exact ⟨rfl, by omega, by omega⟩)).trans (u2.mono (fun b k h => by obtain ⟨rfl, g1, g2⟩ := h; exact ⟨rfl, by omega, by omega⟩))
  have hblk1 : c.blk < w1.heap.size := Nat.lt_of_lt_of_le hblk t2.size
  have hlen' : (es.take i ++ es.drop (i + 1)).length = es.length - 1 := by simp; omega
  obtain ⟨I', z1, z2⟩ := inv_move hId (off := 0) (es' := es.take i ++ es.drop (i + 1)) rfl hc hch (fun he => by rw [he] at hi; simp at hi) (by rw [hlen']; omega)
    (fun q r hq => by
      rw [List.getElem?_append] at hq
      split at hq
      · rw [List.getElem?_take] at hq; split at hq
        · exact h6 _ r hq
        · cases hq
      · rw [List.getElem?_drop] at hq; exact h6 _ r hq)
    (fun q r j x hq hj => by
      rw [Nat.zero_mul, Nat.add_zero]
      have hqr : r.length = s ∧ q < es.length - 1 := by
        refine ⟨?_, by rw [← hlen']; exact (List.getElem?_eq_some_iff.1 hq).1⟩
        rw [List.getElem?_append] at hq
        split at hq
        · rw [List.getElem?_take] at hq; split at hq
          · exact h6 _ r hq
          · cases hq
        · rw [List.getElem?_drop] at hq; exact h6 _ r hq
      have hjs : j < s := by have := (List.getElem?_eq_some_iff.1 hj).1; omega
      have hqs : q * s + s ≤ (es.length - 1) * s := by rw [← Nat.succ_mul]; exact Nat.mul_le_mul_right _ hqr.2
      have hout2 : w2.cell? ⟨c.blk, c.base + q * s + j, none⟩ = w1.cell? ⟨c.blk, c.base + q * s + j, none⟩ := u2.cell _ _ hblk1 (fun h => by omega)
      rw [List.getElem?_append] at hq
      split at hq
      · rename_i hlt
        rw [List.length_take] at hlt
        rw [List.getElem?_take] at hq
        split at hq
        · rename_i hq1
          obtain ⟨v, g1, g2, g3⟩ := h7 q r j x hq hj
          have hqi : q * s + s ≤ i * s := by rw [← Nat.succ_mul]; exact Nat.mul_le_mul_right _ hq1
          exact ⟨v, by rw [hout2, t2.cell _ _ hblk (fun h => by omega)]; exact g1, g2, g3.mono hXd hI⟩
        · cases hq
      · rename_i hge
        rw [List.length_take] at hge
        have hq' : q - min i es.length = q - i := by omega
        rw [List.length_take, hq'] at hq
        obtain ⟨v, g1, g2, g3⟩ := f2r.2.2 _ r j x hq hj
        rw [Nat.zero_add] at g1
        have hlt2 : q - i < es.length - (i + 1) := by omega
        have hpos : (q - i) * s + j < (es.length - (i + 1)) * s := by
          have : (q - i) * s + s ≤ (es.length - (i + 1)) * s := by rw [← Nat.succ_mul]; exact Nat.mul_le_mul_right _ hlt2
          omega
        have := t4 ((q - i) * s + j) hpos
        rw [Array.getElem?_toList, g1] at this
        refine ⟨v, ?_, g2, g3⟩
        rw [hout2, ← this]
        have e : q * s = i * s + (q - i) * s := by rw [← Nat.add_mul]; congr 1; omega
        congr 2
        omega)
  rw [Nat.zero_mul, Nat.add_zero] at z1 z2
  have hfin : ∀ (e : Ending) w', (e = .returned (.slice (some ⟨c.blk, c.base, none⟩) (es.length - 1) cap) ∧ w' = w2) → ∃ r v' H' n' I' β', e = .returned v' ∧ Gives 4 (.msl (3, 0) s 0 (es.length - 1) false) [((3, 0), .rows s (es.take i ++ es.drop (i + 1)))] r H' n' ∧ Inv I' β' n' H' w' ∧ Rep I' β' n' w' r v' ∧ Ext I β 3 [((0, 0), .rows s es)] w I' β' n' H' w' := by
    rintro e w' ⟨rfl, rfl⟩
    refine ⟨_, _, _, _, I', _, rfl, ⟨rfl, rfl, rfl⟩, z1, ?_, hXd.trans z2⟩
    refine .msl _ _ _ _ _ _ _ (by decide) ⟨by omega, nofun⟩ nofun fun d hd => ?_
    rw [upd_same] at hd
    simp only [Option.some.injEq] at hd
    subst hd
    exact ⟨rfl, fun _ => ⟨by simp, by simpa using hcsz⟩⟩
  have hsub : es.length - (es.length - 1) = 1 := by omega
  by_cases hci : cap = i + 1
  · have hle : es.length = i + 1 := by omega
    have hm0 : es.length - (i + 1) = 0 := by omega
    rw [if_pos hci, hm0] at f2
    rw [hm0, Nat.zero_mul] at f2s
    have ha2 : a2 = #[] := Array.size_eq_zero_iff.1 f2s
    subst ha2
    have hw1 : w1 = w.drew := by
      have : (Result.ok () w.drew : Result Unit) = .ok () w1 := t1
      cases this; rfl
    subst hw1
    have hl1 : es.length - 1 = i := by omega
    have hap : ∀ ty, (Builtin.append_ #[(ρ.t 24), (ρ.t 24)] ty #[.slice (some ⟨c.blk, c.base, none⟩) i (i + 1), .slice (some ⟨c.blk, c.base, none⟩) 0 0]).run P w.drew = .ok (.slice (some ⟨c.blk, c.base, none⟩) i (i + 1)) w.drew := fun ty =>
      app_room (rt := ty) L.t24 L.t24 hsz w.drew w.drew c.blk c.base i (i + 1) 0 (by omega) _ 0 (a2 := #[]) (by
        have e : cap - (i + 1) = 0 := by omega
        rw [e] at f2
        exact f2) rfl
    have hC := del_walk_last L hsz c.blk c.base i w w2 (by omega) (.tuple #[]) hap (fun ty yc => by rw [hl1] at u1; exact u1 ty yc)
    rw [hle, hci]
    refine hC.mono fun e w' h => ?_
    have := hfin e w' (by rw [hl1, hci]; exact h)
    rw [hle] at this
    exact this
  · rw [if_neg hci] at f2
    have hC := del_walk L hsz c.blk c.base es.length cap i w w1 w2 hi q1.1 hbig hci (.tuple #[]) (fun ty yc => by
      have h := app_room (rt := ty) L.t24 L.t24 hsz w.drew w1 c.blk c.base i cap (es.length - (i + 1)) (by omega) (some ⟨c.blk, c.base + (i + 1) * s, none⟩) yc (a2 := a2) f2 t1
      rw [show i + (es.length - (i + 1)) = es.length - 1 by omega] at h
      exact h) (fun ty yc => by rw [hsub]; exact u1 ty yc)
    exact hC.mono hfin
end
end Go.Fx
