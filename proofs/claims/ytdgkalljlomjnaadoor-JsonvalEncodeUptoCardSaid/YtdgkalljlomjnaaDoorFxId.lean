/-
  Own framework.
-/
import Derived.Test.YtdgkalljlomjnaaDoorFxL
import Derived.RecoverIn
namespace Go.Fx
theorem zo1 {P : Program} {f : FuncId} {fn : Func} {i0 i1 : Nat} {o0 o1 o2 o3 : Oper} {X : Code} (hf : P.funcs[f]? = some fn) (hn : (fn.name == "runtime.NumGoroutine") = false) (hb : fn.body = some (.seq (.region i0 #[o0, o1] false) (.seq (.region i1 #[o2, o3] false) (.cond (.tmp 7) X .skip)))) (hr : fn.results = #[]) (hm : 8 ≤ fn.ntmps)
 {T U : TypeId} {ms : Array (String × TypeId)} (hT : P.underlying T = some (.interface ms)) (h0 : o0.op = .call { callee := .builtin .recover, args := #[], argTypes := #[] } ∧ o0.dst = some 5 ∧ o0.guard = none) (h1 : o1.op = .assign (.tmp 5) ∧ o1.dst = some 2 ∧ o1.guard = none)
 (h2 : o2.op = .move (.tmp 2) ∧ o2.dst = some 6 ∧ o2.guard = none) (h3 : o3.op = .binOp .neq T (.tmp 6) (.const .nilIface) U ∧ o3.dst = some 7 ∧ o3.guard = none) : z3i P f := by
 intro caps w
 refine ⟨.func f, caps, f, caps, rfl, ?_, ?_⟩
 ·simp only [invoke]
  unfold callFunc
  simp only [Sem.run_bind, run_program, Result.andThen_ok, hf, hn, hb, Option.isNone_some, Bool.false_eq_true, if_false, Sem.run_pure]
  simp
 ·refine callsDIn_of_wpSIn hf hb trivial fun c₀ cs hc => ?_
  obtain ⟨t, ht⟩ : ∃ t, t = caps ++ Array.replicate (fn.ntmps - caps.size) undef := ⟨_, rfl⟩
  have hsz : 8 ≤ t.size := by rw [ht]; simp; omega
  rw [← ht]
  refine wpSIn_seq (wpSIn_region ?_)
  have hrec : recoverD (c₀ :: cs) = none := by simp [recoverD, hc]
  obtain ⟨d0, p0, t0, s0, a0, g0⟩ := o0
  obtain ⟨d1, p1, t1, s1, a1, g1⟩ := o1
  obtain ⟨d2, p2, t2, s2, a2, g2⟩ := o2
  obtain ⟨d3, p3, t3, s3, a3, g3⟩ := o3
  simp only at h0 h1 h2 h3
  obtain ⟨rfl, rfl, rfl⟩ := h0
  obtain ⟨rfl, rfl, rfl⟩ := h1
  obtain ⟨rfl, rfl, rfl⟩ := h2
  obtain ⟨rfl, rfl, rfl⟩ := h3
  show wpOpsSIn _ 0 P _ _ [0, 1] _ _ w
  unfold wpOpsSIn
  simp only [List.getElem?_toArray, List.getElem?_cons_zero]
  refine ⟨fun _ _ => trivial, ?_⟩
  rw [if_pos (jv rfl _)]
  have e0 : ∀ ρ : Operand → Value, (execOp ρ { dst := some 5, op := .call { callee := .builtin .recover, args := #[], argTypes := #[] }, type := t0, pos := s0, after := a0, guard := none }).run P w = .ok .recover w := fun ρ => by
   simp [execOp, resolve, invoke, builtin]
  simp only [e0, hrec]
  unfold wpOpsSIn
  simp only [List.getElem?_toArray, List.getElem?_cons_zero, List.getElem?_cons_succ]
  refine ⟨fun _ _ => trivial, ?_⟩
  rw [if_pos (jv rfl _)]
  simp only [execOp, Sem.run_pure]
  unfold wpOpsSIn
  refine wpSIn_seq (wpSIn_region ?_)
  show wpOpsSIn _ 0 P _ _ [0, 1] _ _ w
  unfold wpOpsSIn
  simp only [List.getElem?_toArray, List.getElem?_cons_zero]
  refine ⟨fun _ _ => trivial, ?_⟩
  rw [if_pos (jv rfl _)]
  simp only [execOp, Sem.run_pure]
  unfold wpOpsSIn
  simp only [List.getElem?_toArray, List.getElem?_cons_zero, List.getElem?_cons_succ]
  refine ⟨fun _ _ => trivial, ?_⟩
  rw [if_pos (jv rfl _)]
  have hv : ∀ (a : Act), a.tmps.size = t.size → ∀ (k : Nat) (v : Value), k < 8 → (a.put (some k) v).eval (.tmp k) = v := by
   intro a ha k v hk
   have : k < a.tmps.size := by omega
   simp [Act.eval, Act.put, this]
  rw [hv _ rfl 5 _ (by omega), hv _ (by simp [Act.put]) 2 _ (by omega)]
  have e3 : (execOp (((({ tmps := t, defers := [] } : Act).put (some 5) Value.nilIface).put (some 2) Value.nilIface).put (some 6) Value.nilIface).eval
   { dst := some 7, op := Op.binOp BinOp.neq T (Operand.tmp 6) (Operand.const Value.nilIface) U, type := t3, pos := s3, after := a3, guard := none }).run P w = .ok (.value (.bool false)) w := by
   have he : (Op.equal T .nilIface .nilIface).run P w = .ok true w := by
    obtain ⟨d, hd⟩ : ∃ d, Op.maxDepth = d + 1 := ⟨_, rfl⟩
    unfold Op.equal
    rw [hd]
    simp only [Op.equalIn, Sem.run_bind, z7 hT, Result.andThen_ok, Sem.run_pure]
   simp only [execOp]
   rw [hv _ (by simp [Act.put]) 6 _ (by omega)]
   have hz : ∀ a : Act, a.eval (.const .nilIface) = .nilIface := fun _ => rfl
   simp [eqGuard, binOp, he, hz]
  rw [e3]
  simp only
  unfold wpOpsSIn
  refine wpSIn_cond (t := false) (hv _ (by simp [Act.put]) 7 _ (by omega)) ?_
  simp only [Bool.false_eq_true, if_false]
  intro b k _ _ hF hroom
  refine ⟨.normal, _, _, w, rfl, ⟨rfl, .returning, ?_, .tuple #[], ?_, ⟨_, rfl⟩, rfl, rfl⟩, .one (fenced_calm hF hroom rfl) stepR_skip⟩
  ·rw [← hc]
  ·rw [z0w, hr, Array.mapM_eq_mapM_toList]
   simp
end Go.Fx
