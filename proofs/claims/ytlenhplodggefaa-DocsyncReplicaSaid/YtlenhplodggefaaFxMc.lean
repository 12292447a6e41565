/-
  Own framework.
-/
import Derived.Test.YtlenhplodggefaaFxN
import Derived.Test.YtlenhplodggefaaFxMb
import Derived.Test.YtlenhplodggefaaFxMg
import Derived.Laws.Externs
import Derived.Tactics
/-! maps.Clone, said of abstract values -/
namespace Go.Fx
open Go
section
variable {P : Program} {I : Nat → Nat → Prop} {β : Id → Option CLoc} {n : Nat} {H : AHeap} {w : World}

theorem inv_newmapE (hI : Inv I β n H w) {es : List (AVal × AVal)} {arr : Array MapEntry} {ck : Nat} (hin : MapIn I β n w es arr ck) :
    Inv I (upd β (n, 0) (some ⟨w.heap.size, 0, 1, 0, 0⟩)) (n + 1) (((n, 0), .amap es) :: H) (w.alloc (.map arr ck)) ∧ Ext I β n H w I (upd β (n, 0) (some ⟨w.heap.size, 0, 1, 0, 0⟩)) (n + 1) (((n, 0), .amap es) :: H) (w.alloc (.map arr ck)) := by
  have hp : Pushed w (w.alloc (.map arr ck)) (.map arr ck) := ⟨rfl, ⟨rfl, fun _ => Nat.le_refl _⟩, rfl, rfl⟩
  have hsz : (w.alloc (.map arr ck)).heap.size = w.heap.size + 1 := by rw [hp.heap]; simp
  have hheap : ∀ b, b < w.heap.size → (w.alloc (.map arr ck)).heap[b]? = w.heap[b]? := fun b hb => by
    rw [hp.heap, Array.getElem?_push_lt hb, Array.getElem?_eq_getElem hb]
  have hcell : ∀ b k, b < w.heap.size → (w.alloc (.map arr ck)).cell? ⟨b, k, none⟩ = w.cell? ⟨b, k, none⟩ := fun b k hb => cell?_of_heap (hheap b hb)
  have hup : ∀ id c, id.1 < n → upd β (n, 0) (some ⟨w.heap.size, 0, 1, 0, 0⟩) id = some c → β id = some c := fun id c hid hc => by
    rwa [upd_other _ _ (fun h => by subst h; exact absurd hid (Nat.lt_irrefl n))] at hc
  refine inv_gen hI hp.chg (Nat.le_succ n) (fun _ _ h => h.elim) (fun _ _ h => h) (fun _ _ h h' => absurd h h') (fun id hid => .inl (upd_other _ _ (id_ne hid))) ?_ ?_ ?_ (fun _ _ _ _ _ _ h => h) ?_ ?_
  · intro id c b k hid hc hk
    rcases upd_new hc hI.fresh with ⟨_, rfl⟩ | ⟨h, _⟩
    · have hb : w.heap.size = b := hk.1
      exact ⟨by omega, .inl (by omega)⟩
    · omega
  · intro id hid
    rw [upd_other _ _ (fun h => by subst h; exact absurd hid (Nat.not_succ_le_self n))]
    exact hI.fresh id (by omega)
  · intro i j c d b k hi hj hc hd hj'
    rcases upd_new hj hI.fresh with ⟨rfl, rfl⟩ | ⟨h, _⟩
    · rcases upd_new hi hI.fresh with ⟨rfl, _⟩ | ⟨_, h⟩
      · rfl
      · exact (no_new hI h hc (by rw [← hd.1]; exact Nat.le_refl _)).elim
    · omega
  · intro id hid hg
    rwa [AHeap.get_cons_other _ _ (id_ne hid).symm] at hg
  · intro id blk hid
    by_cases h : (n, 0) = id
    · subst h
      rw [AHeap.get_cons_same] at hid
      simp only [Option.some.injEq] at hid
      subst hid
      refine .inr ⟨_, upd_same _ _ _, rfl, Nat.one_pos, arr, ck, hp.new, hin.len, fun i k x m hi hx => ?_, hin.born, hin.clk⟩
      obtain ⟨g1, g2⟩ := hin.ent i k x m hi hx
      have hc : ∀ b k, I b k → (w.alloc (.map arr ck)).cell? ⟨b, k, none⟩ = w.cell? ⟨b, k, none⟩ := fun b k hb => by
        obtain ⟨v, hv⟩ := hI.imm b k hb
        refine hcell b k ?_
        rcases Nat.lt_or_ge b w.heap.size with h | h
        · exact h
        · unfold World.cell? at hv; simp only [Array.getElem?_eq_none h] at hv; cases hv
      exact ⟨g1.mono (fun _ _ h => h) hc, g2.mono' (fun _ _ h => h) hc (Nat.le_succ n) hup⟩
    · rw [AHeap.get_cons_other _ _ h] at hid
      have hne : id ≠ (n, 0) := fun h' => h h'.symm
      exact .inl ⟨hid, upd_other _ _ hne, fun _ _ _ _ _ h => h⟩

def Clones (P : Program) (f : FuncId) : Prop := ∀ (b : Nat) (es : Array MapEntry) (ck : Nat) (w : World), w.heap[b]? = some (.map es ck) →
  Calls P f #[.map (some b)] w fun e w' => e = .returned (.map (some w.heap.size)) ∧ w' = w.alloc (.map es ck)

theorem eql_map_nil {t k e : TypeId} (h : P.underlying t = some (.map k e)) (b : Nat) (xo yo : Operand) (w : World) :
    (do eqGuard .eql t xo yo (.map (some b)) (.map none); binOp .eql t (.map (some b)) (.map none) : Sem Value).run P w = .ok (.bool false) w := by
  have h1 : (eqGuard .eql t xo yo (.map (some b)) (.map none)).run P w = .ok () w := rfl
  have h2 : binOp .eql t (.map (some b)) (.map none) = (do pure (.bool (← Op.equal t (.map (some b)) (.map none))) : Sem Value) := rfl
  have h3 : (Op.equal t (.map (some b)) (.map none)).run P w = .ok false w := equalIn_nilmap h 9999 b
  rw [Sem.run_bind, h1, Result.andThen_ok, h2, Sem.run_bind, h3, Result.andThen_ok]
  rfl
theorem wp_val {o : Oper} {a : Act} {w w' : World} {next : Act → World → Prop} {Q : Exit → Act → World → Prop} {s : Sem Value} {v : Value} (he : execOp a.eval o = (do pure (.value (← s)) : Sem Next)) (hs : s.run P w = .ok v w') (h : next (a.put o.dst v) w') : o.wp P a w next Q := by
  unfold Oper.wp
  rw [he, Sem.run_bind, hs]
  exact h
set_option maxHeartbeats 2000000 in
theorem clones_of {f g : FuncId} {fn fg : Func} {tM tI tB kt et t0 t1 t2 t3 t4 t5 : TypeId} {p1 p2 p3 p4 p5 p6 p7 p8 p9 : String} {a1 a2 a3 a4 a5 a6 a7 a8 a9 : Array Edge} {i0 i1 i2 i3 : Nat} {v0 v1 : Value}
    (hfn : P.funcs[f]? = some fn) (hfg : P.funcs[g]? = some fg) (hM : P.underlying tM = some (.map kt et)) (hn : (fg.name == "runtime.NumGoroutine") = false) (hbg : fg.body.isNone = true) (hx : Extern.findNext fg = none) (he : Extern.find fg = some Extern.MapsClone.clone)
    (hb : fn.body = some (.seq (.region i0 #[⟨some 2, .assign (.const v0), t0, p1, a1, none⟩] false)
      (.seq (.seq (.region i1 #[⟨some 3, .move (.tmp 0), t1, p2, a2, none⟩, ⟨some 4, .binOp .eql tM (.tmp 3) (.const (.map none)) tM, tB, p3, a3, none⟩] false)
        (.cond (.tmp 4) (.seq (.region i2 #[⟨some 2, .assign (.const v1), t2, p4, a4, none⟩] false) .ret) .skip))
      (.seq (.region i3 #[⟨some 5, .move (.tmp 0), t3, p5, a5, none⟩, ⟨some 6, .makeInterface tM (.tmp 5), tI, p6, a6, none⟩, ⟨some 7, .call { callee := .value (.func g), args := #[.tmp 6], argTypes := #[tI] }, tI, p7, a7, none⟩, ⟨some 8, .typeAssert (.tmp 7) tI tM false, t4, p8, a8, none⟩, ⟨some 2, .assign (.tmp 8), t5, p9, a9, none⟩] false) .ret))))
    (hnt : fn.ntmps = 9) (hr : fn.results = #[.tmp 2]) : Clones P f := by
  intro b es ck w hw
  have hcl : (Extern.MapsClone.clone #[.iface tM (.map (some b))]).run P w = .ok (.iface tM (.map (some w.heap.size))) (w.alloc (.map es ck)) := by
    have e : Extern.MapsClone.clone #[.iface tM (.map (some b))] = (getObj b >>= fun o => match o with
      | .map entries clock => (newObj (.map entries clock) >>= fun n => pure (.iface tM (.map (some n))))
      | _ => stuck "maps.clone: a map expected") := rfl
    rw [e]
    have hg : (getObj b).run P w = .ok (.map es ck) w := by simp [getObj, hw, Sem.run]
    simp [hg, Result.andThen, go_sem]
  have hta : ∀ w' : World, (Instr.typeAssert (.iface tM (.map (some w.heap.size))) tI tM false).run P w' = .ok (.map (some w.heap.size)) w' := fun w' => by
    simp [Instr.typeAssert, run_underlying hM, go_sem, Result.andThen]
  have hmi : (Instr.makeInterface tM (.map (some b))).run P w = .ok (.iface tM (.map (some b))) w := by
    simp [Instr.makeInterface, run_underlying hM, go_sem, Result.andThen]
  refine calls_of_wp hfn hb (wp_seq (wp_region_list (wpList_plain rfl fun K0 hK0 => ?_)))
  have ht : (#[Value.map (some b)] ++ Array.replicate (9 - (#[Value.map (some b)] : Array Value).size) undef) = #[.map (some b), undef, undef, undef, undef, undef, undef, undef, undef] := by simp [Array.replicate, List.replicate]
  rw [hnt, ht]
  refine hK0 _ _ (wpList_nil ?_)
  refine wp_seq (wp_seq (wp_region_list (wpList_plain rfl fun K1 hK1 => hK1 _ _ (wpList_plain rfl fun K2 hK2 => ?_))))
  refine wp_val (s := do eqGuard .eql tM (.tmp 3) (.const (.map none)) (.map (some b)) (.map none); binOp .eql tM (.map (some b)) (.map none)) rfl (eql_map_nil hM b _ _ w) (hK2 _ _ (wpList_nil ?_))
  refine wp_cond_false rfl (wp_skip ?_)
  refine wp_seq (wp_region_list (wpList_plain rfl fun K3 hK3 => hK3 _ _ (wpList_plain rfl fun K4 hK4 => ?_)))
  refine wp_val (s := Instr.makeInterface tM (.map (some b))) rfl hmi (hK4 _ _ (wpList_plain rfl fun K5 hK5 => ?_))
  unfold Oper.wp
  have hcall : (execOp (Act.eval (Act.put (Act.put (Act.put (Act.put (Act.put (⟨#[.map (some b), undef, undef, undef, undef, undef, undef, undef, undef], []⟩ : Act) (some 2) v0) (some 3) (.map (some b))) (some 4) (.bool false)) (some 5) (.map (some b))) (some 6) (.iface tM (.map (some b))))) ⟨some 7, .call { callee := .value (.func g), args := #[.tmp 6], argTypes := #[tI] }, tI, p7, a7, none⟩).run P w = (callFunc g #[.iface tM (.map (some b))]).run P w := by
    simp only [execOp, resolve, Act.eval, Deferred.ofValue, invoke, pure_bind, Array.empty_append, Array.append_empty, List.map_toArray, List.map_cons, List.map_nil]
    rfl
  have hx2 : (callFunc g #[.iface tM (.map (some b))]).run P w = .ok (.value (.iface tM (.map (some w.heap.size)))) (w.alloc (.map es ck)) := by
    rw [run_callFunc_extern hfg hn hbg hx he, hcl]
    rfl
  refine (congrArg (Oper.upon P _ _ K5 _) (hcall.trans hx2)).mpr ?_
  rw [Oper.upon_value]
  refine hK5 _ _ (wpList_plain rfl fun K6 hK6 => ?_)
  refine wp_val (s := Instr.typeAssert (.iface tM (.map (some w.heap.size))) tI tM false) rfl (hta _) (hK6 _ _ (wpList_plain rfl fun K7 hK7 => hK7 _ _ (wpList_nil ?_)))
  refine wp_ret ⟨rfl, .map (some w.heap.size), ?_, rfl, rfl⟩
  refine results_run (vs := [.map (some w.heap.size)]) ?_
  rw [hr]
  rfl

theorem clone_acalls {f : FuncId} (hf : FnOk P f) (hc : Clones P f) (es : List (AVal × AVal)) :
    ACalls P f [.map (0, 0)] [((0, 0), .amap es)] 3 (Gives 4 (.map (3, 0)) [((3, 0), .amap es), ((0, 0), .amap es)]) := by
  refine ⟨hf, fun I β w vs hI hl hr => ?_⟩
  match vs, hl with
  | [v], _ =>
    have h1 := hr 0 _ _ rfl rfl
    obtain ⟨c, hb, _, h0, arr, ck, hm, hin⟩ := hI.blocks (0, 0) (.amap es) rfl
    cases h1 with
    | imm _ _ h => cases h
    | map _ r _ hr' =>
      have := hr' c hb
      subst this
      refine (hc c.blk arr ck w hm).mono ?_
      rintro e w' ⟨rfl, rfl⟩
      obtain ⟨g1, g2⟩ := inv_newmapE hI hin
      exact ⟨_, _, _, _, _, _, rfl, ⟨rfl, rfl, rfl⟩, g1, .map _ _ (by decide) (fun c hc => by rw [upd_same] at hc; simp only [Option.some.injEq] at hc; subst hc; rfl), g2⟩
end
end Go.Fx
