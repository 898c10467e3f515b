/- A walk of a function's code that computes what is to be shown: operations that change memory, and calls. -/
import Derived.Test.YtmbiffmfcloepaaGreatDoorXSteps
namespace Go.X

section
variable {P : Program}

theorem wp_value {o : Oper} {a : Act} {w w' : World} {next : Act → World → Prop} {Q : Exit → Act → World → Prop} {v : Value}
    (h : (execOp a.eval o).run P w = .ok (.value v) w') (hn : next (a.put o.dst v) w') : o.wp P a w next Q := by
  unfold Oper.wp; rw [h]; exact hn

theorem wp_skip' {o : Oper} {a : Act} {w w' : World} {next : Act → World → Prop} {Q : Exit → Act → World → Prop}
    (h : (execOp a.eval o).run P w = .ok .skip w') (hn : next (a.put o.dst undef) w') : o.wp P a w next Q := by
  unfold Oper.wp; rw [h]; exact hn

theorem run_newVar (t : TypeId) (v : Value) (w : World) : (newVar t v).run P w = .ok ⟨w.heap.size, 0, none⟩ (w.alloc (.cells v.cells t)) := by
  simp only [newVar, newRow, Sem.run_bind, run_newObj, Result.andThen, Sem.run_pure]; rfl

theorem run_newRow (t : TypeId) (cs : Array Value) (w : World) : (newRow t cs).run P w = .ok ⟨w.heap.size, 0, none⟩ (w.alloc (.cells cs t)) := by
  simp only [newRow, Sem.run_bind, run_newObj, Result.andThen, Sem.run_pure]; rfl

theorem oneCell_eq {v : Value} (h : oneCell v = true) : v.oneCell' = true := by
  cases v <;> first | rfl | (simp [oneCell] at h)

theorem run_store1 {w : World} {a : Addr} {v : Value} (hv : oneCell v = true) (h1 : (w.cell? a).isSome = true) (h2 : w.frozen? a = false) :
    (store a v).run P w = .ok () (w.setCell a v) := by
  rw [run_store P w a v _ (oneCell_eq hv)]
  cases hc : w.cell? a with
  | none => rw [hc] at h1; cases h1
  | some u => simp [h2]

theorem run_stores {a : Addr} {K : World → Prop} : ∀ (vs : List Value) (i : Nat) (w : World), allOne vs = true → XStores a i vs w K →
    ∃ w', (storeCells a vs i).run P w = .ok () w' ∧ K w'
  | [], _, w, _, h => ⟨w, rfl, h⟩
  | v :: vs, i, w, ho, h => by
    simp only [allOne] at ho
    split at ho
    · rename_i hv
      obtain ⟨w', hr, hk⟩ := run_stores vs (i + 1) _ ho h.2.2
      refine ⟨w', ?_, hk⟩
      simp only [storeCells, Sem.run_bind, run_store1 hv h.1 h.2.1, Result.andThen, hr]
    · cases ho

theorem run_call {f : FuncId} {args : Array Value} {w : World} (h : hasBody P f = true) : (callFunc f args).run P w = .ok (.enter f args) w := by
  unfold hasBody at h
  split at h
  · rename_i fn hf
    split at h
    · rename_i c hb
      split at h
      · cases h
      · rename_i hn
        have hf' : P.funcs[f]? = some fn := by rw [nth_eq] at hf; simpa using hf
        have hn' : ¬ fn.name = "runtime.NumGoroutine" := of_decide_eq_false hn
        simp only [callFunc, Sem.run_bind, run_program, Result.andThen, hf']
        simp [hn', hb]
    · cases h
  · cases h

theorem xret_ok {t : TypeId} {s : Sem Value} {w : World} {K : Value → World → Prop} (h : xret P t s w K) : ∃ v w', s.run P w = .ok v w' ∧ K v w' := by
  unfold xret at h
  split at h
  · obtain ⟨x, w', hr, hk⟩ := h; exact ⟨_, w', hr, hk⟩
  · obtain ⟨x, w', hr, hk⟩ := h; exact ⟨_, w', hr, hk⟩
  · exact h.elim

theorem ext_ok {f : FuncId} {args : Array Value} {w w' : World} {v : Value} (h : (extRun P f args).run P w = .ok v w') : (callFunc f args).run P w = .ok (.value v) w' := by
  simp only [extRun, Sem.run_bind] at h
  cases hr : (callFunc f args).run P w with
  | halt x w1 => rw [hr] at h; cases h
  | ok n w1 =>
    rw [hr] at h
    simp only [Result.andThen] at h
    cases n <;> first
      | (cases h; rfl)
      | (cases h)

theorem exec_func {ρ : Operand → Value} {f : FuncId} {args : Array Operand} {ts : Array TypeId} {type : TypeId} {dst pos after guard} (hf : ρ (.func f) = .func (.func f) #[] #[]) :
    execOp ρ { dst, op := .call { callee := .value (.func f), args, argTypes := ts }, type, pos, after, guard } = callFunc f (args.map ρ) := by
  simp [execOp, resolve, hf, Deferred.ofValue, invoke]

theorem exec_builtin {ρ : Operand → Value} {b : Builtin} {args : Array Operand} {ts : Array TypeId} {type : TypeId} {dst pos after guard} :
    execOp ρ { dst, op := .call { callee := .builtin b, args, argTypes := ts }, type, pos, after, guard } =
      builtin b ts type (args.map fun | .const _ => true | _ => false) (args.map ρ) := by
  simp [execOp, resolve, invoke]; rfl

theorem sliceCells_ok {t elem : TypeId} {n : Nat} {parts : List (Nat × Value)} {cells : Array Value} (hu : under P t = some (.slice elem)) (h : sliceCells P elem n parts = some cells) (w : World) :
    (Instr.buildSlice t n ⟨parts⟩).run P w = .ok (.slice (some ⟨w.heap.size, 0, none⟩) n n) (w.alloc (.cells cells elem)) := by
  unfold sliceCells at h
  split at h
  · rename_i i hi
    split at h
    · rename_i hle
      have hle' : ¬ n * i.size > 2 ^ 24 := by have := Nat.le_of_ble_eq_true hle; omega
      split at h
      · rename_i h0
        have h0' := Nat.eq_of_beq_eq_true h0
        have : ∀ f : Nat → Value, Array.map f (Array.range 0) = #[] := fun f => by simp
        simp only [Instr.buildSlice, Sem.run_bind, run_under hu, Result.andThen, run_size hi, h0', if_true, Sem.run_pure, Sem.run_ite]
        simp only [show ¬ (0 > 2 ^ 24) by omega, if_false, Sem.run_bind, Sem.run_pure, Result.andThen, this, h, run_newRow]
      · rename_i h0
        have h0' : ¬ n * i.size = 0 := fun e => by rw [e] at h0; simp at h0
        split at h
        · rename_i z hz
          have hzr : (zeroValue elem).run P w = .ok z w := run_zero (by unfold zeroOf; rw [hi]; exact hz) w
          simp only [Instr.buildSlice, Sem.run_bind, run_under hu, Result.andThen, run_size hi, hle', if_false, h0', hzr, Sem.run_pure, h, run_newRow]
        · cases h
    · cases h
  · cases h

theorem func_enter {o : Oper} {a : Act} {w : World} {next : Act → World → Prop} {Q : Exit → Act → World → Prop} {f : FuncId} {args : Array Value} {R : Ending → World → Prop}
    (h : (execOp a.eval o).run P w = .ok (.enter f args) w) (hc : Calls P f args w R) (hR : ∀ e w', R e w' → ∃ v, e = .returned v ∧ next (a.put o.dst v) w') : o.wp P a w next Q := by
  unfold Oper.wp; rw [h]
  refine hc.mono fun e w' he => ?_
  obtain ⟨v, rfl, hn⟩ := hR e w' he
  exact hn

set_option maxHeartbeats 1000000 in
theorem xeff_ok {ρ : Operand → Option Value} {a : Act} (hρ : ∀ x v, ρ x = some v → a.eval x = v) (o : Oper) {next : Act → World → Prop} {Q : Exit → Act → World → Prop} {K : Value → World → Prop} {w : World}
    (h : xeff P o ρ K w) (hK : ∀ v w', K v w' → next (a.put o.dst v) w') : o.wp P a w next Q := by
  obtain ⟨dst, op, type, pos, after, guard⟩ := o
  cases op
  case alloc elem =>
    simp only [xeff] at h
    split at h
    · rename_i z hz
      refine wp_value (v := .pointer (some ⟨w.heap.size, 0, none⟩)) (w' := w.alloc (.cells z.cells elem)) ?_ (hK _ _ h)
      simp only [execOp]
      refine run_v ?_
      simp only [Instr.alloc, Sem.run_bind, run_zero hz, Result.andThen, run_newVar, Sem.run_pure]
    · exact h.elim
  case box elem x =>
    simp only [xeff] at h
    split at h
    · rename_i v hv
      refine wp_value (v := .pointer (some ⟨w.heap.size, 0, none⟩)) (w' := w.alloc (.cells v.cells elem)) ?_ (hK _ _ h)
      simp only [execOp, hρ x v hv]
      refine run_v ?_
      simp only [Instr.box, Sem.run_bind, run_newVar, Result.andThen, Sem.run_pure]
    · exact h.elim
  case buildSlice t n parts =>
    obtain ⟨parts⟩ := parts
    simp only [xeff] at h
    split at h
    · rename_i ps elem hps hu
      split at h
      · rename_i cells hc
        have h1 : (Array.map (fun (i, x) => (i, a.eval x)) (⟨parts⟩ : Array (Nat × Operand))) = ⟨ps⟩ := by rw [← evalParts_eq hρ _ _ hps]; apply Array.ext'; simp
        refine wp_value (v := .slice (some ⟨w.heap.size, 0, none⟩) n n) (w' := w.alloc (.cells cells elem)) ?_ (hK _ _ h)
        simp only [execOp, h1]
        exact run_v (sliceCells_ok hu hc w)
      · exact h.elim
    · exact h.elim
  case store t x y =>
    simp only [xeff] at h
    split at h
    · rename_i b v i hb hv hi
      have exec : ∀ {s : Sem Unit} {w' : World}, s = Instr.storeAt t (.pointer (some b)) v → s.run P w = .ok () w' → (execOp a.eval { dst, op := .store t x y, type, pos, after, guard }).run P w = .ok .skip w' := by
        intro s w' hs hr
        simp only [execOp, hρ x _ hb, hρ y _ hv, ← hs, Sem.run_bind, hr, Result.andThen, Sem.run_pure]
      split at h
      · rename_i cs
        split at h
        · rename_i hlen hall
          obtain ⟨w', hr, hk⟩ := run_stores (P := P) cs 0 w hall h
          refine wp_skip' (w' := w') (exec rfl ?_) (hK _ _ hk)
          have hl : cs.length = i.size := Nat.eq_of_beq_eq_true hlen
          have hl' : ¬ (Value.agg ⟨cs⟩).cells.size ≠ i.size := fun e => e hl
          simp only [Instr.storeAt, Instr.sureAddr, storeVar, Sem.run_bind, Sem.run_pure, Result.andThen, run_size hi, hl', if_false]
          exact hr
        · exact h.elim
      · rename_i hnot
        split at h
        · rename_i ho hlen
          refine wp_skip' (w' := w.setCell b v) (exec rfl ?_) (hK _ _ h.2.2)
          have hl : 1 = i.size := Nat.eq_of_beq_eq_true hlen
          have hcs : v.cells = #[v] := by
            cases v <;> first | rfl | exact (hnot _ rfl).elim
          simp only [Instr.storeAt, Instr.sureAddr, storeVar, Sem.run_bind, Sem.run_pure, Result.andThen, run_size hi, hcs, ← hl]
          have hr := run_store1 (P := P) ho h.1 h.2.1
          simp only [List.size_toArray, List.length_singleton, ne_eq, not_true_eq_false, if_false, Sem.run_pure, Result.andThen, storeCells, Sem.run_bind]
          rw [show b.add 0 = b from rfl, hr]
        · exact h.elim
    · exact h.elim
  case makeSlice t l c =>
    simp only [xeff] at h
    split at h
    · rename_i lv cv hl hc
      obtain ⟨v, w', hr, hk⟩ := xret_ok h
      refine wp_value (v := v) (w' := w') ?_ (hK _ _ hk)
      simp only [execOp, hρ l _ hl, hρ c _ hc]
      exact run_v hr
    · exact h.elim
  case makeMap t r =>
    cases r with
    | some r => exact h.elim
    | none =>
      simp only [xeff] at h
      obtain ⟨v, w', hr, hk⟩ := xret_ok h
      refine wp_value (v := v) (w' := w') ?_ (hK _ _ hk)
      simp only [execOp, Option.map_none]
      exact run_v hr
  case lookup t x i ok =>
    simp only [xeff] at h
    split at h
    · rename_i xv iv hx hi
      obtain ⟨v, w', hr, hk⟩ := xret_ok h
      refine wp_value (v := v) (w' := w') ?_ (hK _ _ hk)
      simp only [execOp, hρ x _ hx, hρ i _ hi]
      exact run_v hr
    · exact h.elim
  case mapUpdate t m k v =>
    simp only [xeff] at h
    split at h
    · rename_i mv kv vv hm hk hv
      obtain ⟨w', hr, hkk⟩ := h
      refine wp_skip' (w' := w') ?_ (hK _ _ hkk)
      simp only [execOp, hρ m _ hm, hρ k _ hk, hρ v _ hv, Sem.run_bind, hr, Result.andThen, Sem.run_pure]
    · exact h.elim
  case convert src dst' x =>
    simp only [xeff] at h
    split at h
    · rename_i v hv
      obtain ⟨u, w', hr, hk⟩ := xret_ok h
      refine wp_value (v := u) (w' := w') ?_ (hK _ _ hk)
      simp only [execOp, hρ x _ hv]
      exact run_v hr
    · exact h.elim
  case binOp op t x y u =>
    simp only [xeff] at h
    split at h
    · rename_i p q hp hq
      split at h
      · obtain ⟨v, w', hr, hk⟩ := xret_ok h
        refine wp_value (v := v) (w' := w') ?_ (hK _ _ hk)
        simp only [execOp, hρ x _ hp, hρ y _ hq, Sem.run_bind]
        have hg : (eqGuard .eql t x y (.pointer p) (.pointer q)).run P w = .ok () w := rfl
        have hr' : (binOp .eql t (.pointer p) (.pointer q)).run P w = .ok v w' := hr
        simp only [hg, hr', Result.andThen, Sem.run_pure]
      · obtain ⟨v, w', hr, hk⟩ := xret_ok h
        refine wp_value (v := v) (w' := w') ?_ (hK _ _ hk)
        simp only [execOp, hρ x _ hp, hρ y _ hq, Sem.run_bind]
        have hg : (eqGuard .neq t x y (.pointer p) (.pointer q)).run P w = .ok () w := rfl
        have hr' : (binOp .neq t (.pointer p) (.pointer q)).run P w = .ok v w' := hr
        simp only [hg, hr', Result.andThen, Sem.run_pure]
      · exact h.elim
    · exact h.elim
  case call c =>
    obtain ⟨callee, args, ts⟩ := c
    simp only [xeff] at h
    split at h
    · rename_i vs hvs
      have hargs : args.map a.eval = ⟨vs⟩ := by rw [← evals_eq hρ _ _ hvs]; apply Array.ext'; simp
      split at h
      · rename_i b
        have exec : ∀ {s : Sem Value} {v : Value} {w' : World}, builtin b ts type (args.map fun | .const _ => true | _ => false) ⟨vs⟩ = (do pure (Next.value (← s))) → s.run P w = .ok v w' →
            (execOp a.eval { dst, op := .call { callee := .builtin b, args, argTypes := ts }, type, pos, after, guard }).run P w = .ok (.value v) w' := by
          intro s v w' hs hr
          rw [exec_builtin, hargs, hs]
          exact run_v hr
        split at h
        · obtain ⟨u, w', hr, hk⟩ := xret_ok h
          exact wp_value (v := u) (w' := w') (exec rfl hr) (hK _ _ hk)
        · obtain ⟨u, w', hr, hk⟩ := xret_ok h
          exact wp_value (v := u) (w' := w') (exec rfl hr) (hK _ _ hk)
        · obtain ⟨u, w', hr, hk⟩ := xret_ok h
          exact wp_value (v := u) (w' := w') (exec rfl hr) (hK _ _ hk)
        · obtain ⟨u, w', hr, hk⟩ := xret_ok h
          exact wp_value (v := u) (w' := w') (exec rfl hr) (hK _ _ hk)
        · obtain ⟨u, w', hr, hk⟩ := xret_ok h
          exact wp_value (v := u) (w' := w') (exec rfl hr) (hK _ _ hk)
        · obtain ⟨u, w', hr, hk⟩ := xret_ok h
          exact wp_value (v := u) (w' := w') (exec rfl hr) (hK _ _ hk)
        · obtain ⟨u, w', hr, hk⟩ := xret_ok h
          exact wp_value (v := u) (w' := w') (exec rfl hr) (hK _ _ hk)
        · exact h.elim
      · rename_i f
        have hrun : execOp a.eval { dst, op := .call { callee := .value (.func f), args, argTypes := ts }, type, pos, after, guard } = callFunc f ⟨vs⟩ := by
          rw [exec_func rfl, hargs]
        split at h
        · rename_i hb
          split at h
          · refine func_enter (by rw [hrun]; exact run_call hb) h fun e w' he => ?_
            obtain ⟨x, rfl, hk⟩ := he
            exact ⟨_, rfl, hK _ _ hk⟩
          · refine func_enter (by rw [hrun]; exact run_call hb) h fun e w' he => ?_
            obtain ⟨x, rfl, hk⟩ := he
            exact ⟨_, rfl, hK _ _ hk⟩
          · exact h.elim
        · obtain ⟨u, w', hr, hk⟩ := xret_ok h
          exact wp_value (v := u) (w' := w') (by rw [hrun]; exact ext_ok hr) (hK _ _ hk)
      · rename_i x hnf
        split at h
        · rename_i v t hv ht
          unfold XCallV at h
          split at h
          · rename_i f first captured
            split at h
            · rename_i hb
              have hrun : execOp a.eval { dst, op := .call { callee := .value x, args, argTypes := ts }, type, pos, after, guard } = callFunc f ⟨first ++ vs ++ captured⟩ := by
                simp only [execOp, resolve, hρ x _ hv, Deferred.ofValue, hargs]
                simp [invoke]
              refine func_enter (by rw [hrun]; exact run_call hb) h fun e w' he => ?_
              obtain ⟨y, rfl, hk⟩ := he
              exact ⟨_, rfl, hK _ _ hk⟩
            · exact h.elim
          · exact h.elim
        · exact h.elim
      · exact h.elim
    · exact h.elim
  all_goals exact h.elim

theorem xop_ok {ρ : Operand → Option Value} {a : Act} (hρ : ∀ x v, ρ x = some v → a.eval x = v) (o : Oper) {next : Act → World → Prop} {Q : Exit → Act → World → Prop} {K : Value → World → Prop} {w : World}
    (h : xop P o ρ K w) (hK : ∀ v w', K v w' → next (a.put o.dst v) w') : o.wp P a w next Q := by
  unfold xop at h
  split at h
  · obtain ⟨v, hv, hk⟩ := xpure_ok hρ o _ h
    exact wp_value (hv w) (hK _ _ hk)
  · obtain ⟨v, S, hv, hS, hk⟩ := xread_ok hρ o w _ h
    exact wp_value (hv w hS) (hK _ _ hk)
  · exact xeff_ok hρ o h hK

end
end Go.X
