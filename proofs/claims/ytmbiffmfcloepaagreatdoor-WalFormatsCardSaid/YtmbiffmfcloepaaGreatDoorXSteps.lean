/- A walk of a function's code that computes what is to be shown: each operation of a code. -/
import Derived.Test.YtmbiffmfcloepaaGreatDoorXOps
namespace Go.X

section
variable {P : Program}

theorem run_v {s : Sem Value} {v : Value} {w w' : World} (h : s.run P w = .ok v w') : (do pure (Next.value (← s)) : Sem Next).run P w = .ok (.value v) w' := by
  simp only [Sem.run_bind, h, Result.andThen, Sem.run_pure]

theorem of_go {s : Sem Value} {r : PR} (hr : r.Ok P s) {K : Value → Prop} (h : r.go K) :
    ∃ v, (∀ w, (do pure (Next.value (← s)) : Sem Next).run P w = .ok (.value v) w) ∧ K v := by
  obtain ⟨v, hv, hk⟩ := PR.go_ok hr h
  exact ⟨v, fun w => run_v (hv w), hk⟩

theorem optV_eq {ρ : Operand → Option Value} {ρ' : Operand → Value} (hρ : ∀ x v, ρ x = some v → ρ' x = v) {x : Option Operand} {v : Option Value} (h : optV ρ x = some v) : x.map ρ' = v := by
  unfold optV at h
  split at h
  · cases h; rfl
  · split at h
    · rename_i u hu; cases h; simp [hρ _ _ hu]
    · cases h

theorem callee_arg1 {ρ' : Operand → Value} {b : Builtin} {x : Operand} {ts : Array TypeId} {type : TypeId} {dst pos after guard} :
    execOp ρ' { dst, op := .call { callee := .builtin b, args := ⟨[x]⟩, argTypes := ts }, type, pos, after, guard } =
      builtin b ts type ((⟨[x]⟩ : Array Operand).map fun | .const _ => true | _ => false) ⟨[ρ' x]⟩ := by
  simp [execOp, resolve, invoke]; rfl

theorem callee_arg2 {ρ' : Operand → Value} {b : Builtin} {x y : Operand} {ts : Array TypeId} {type : TypeId} {dst pos after guard} :
    execOp ρ' { dst, op := .call { callee := .builtin b, args := ⟨[x, y]⟩, argTypes := ts }, type, pos, after, guard } =
      builtin b ts type ((⟨[x, y]⟩ : Array Operand).map fun | .const _ => true | _ => false) ⟨[ρ' x, ρ' y]⟩ := by
  simp [execOp, resolve, invoke]; rfl

theorem callee_arg3 {ρ' : Operand → Value} {b : Builtin} {x y z : Operand} {ts : Array TypeId} {type : TypeId} {dst pos after guard} :
    execOp ρ' { dst, op := .call { callee := .builtin b, args := ⟨[x, y, z]⟩, argTypes := ts }, type, pos, after, guard } =
      builtin b ts type ((⟨[x, y, z]⟩ : Array Operand).map fun | .const _ => true | _ => false) ⟨[ρ' x, ρ' y, ρ' z]⟩ := by
  simp [execOp, resolve, invoke]; rfl

theorem getD_eq (s : ByteArray) (i : Nat) (h : i < s.size) : s[i]? = some (s.data.toList.getD i 0) := by
  have h' : i < s.data.size := h
  have : s[i]? = some s[i] := by simp [h]
  rw [this, List.getD_eq_getElem?_getD, Array.getElem?_toList, Array.getElem?_eq_getElem h']
  rfl

set_option maxHeartbeats 1000000 in
theorem xpure_ok {ρ : Operand → Option Value} {ρ' : Operand → Value} (hρ : ∀ x v, ρ x = some v → ρ' x = v) (o : Oper) (K : Value → Prop)
    (h : (xpure P o.op ρ).go K) : ∃ v, (∀ w, (execOp ρ' o).run P w = .ok (.value v) w) ∧ K v := by
  obtain ⟨dst, op, type, pos, after, guard⟩ := o
  cases op
  case move x =>
    simp only [xpure] at h
    split at h
    · rename_i v hv; exact ⟨v, fun w => by simp [execOp, hρ x v hv], h⟩
    · exact h.elim
  case assign x =>
    simp only [xpure] at h
    split at h
    · rename_i v hv; exact ⟨v, fun w => by simp [execOp, hρ x v hv], h⟩
    · exact h.elim
  case pick c a b =>
    simp only [xpure] at h
    split at h
    · rename_i t ht
      split at h
      · split at h
        · rename_i v hv; exact ⟨v, fun w => by simp [execOp, hρ c _ ht, asBool, hρ a v hv], h⟩
        · exact h.elim
      · split at h
        · rename_i v hv; exact ⟨v, fun w => by simp [execOp, hρ c _ ht, asBool, hρ b v hv], h⟩
        · exact h.elim
    · exact h.elim
  case nilCheck x =>
    simp only [xpure] at h
    split at h
    · rename_i p hp
      cases p with
      | none => exact h.elim
      | some a => exact ⟨_, fun w => by simp [execOp, hρ x _ hp], h⟩
    · rename_i f fs cs hp
      exact ⟨_, fun w => by simp [execOp, hρ x _ hp], h⟩
    · exact h.elim
  case binOp op t x y u =>
    simp only [xpure] at h
    split at h
    · rename_i a b ha hb
      have hne : xbin P op t a b ≠ .no := by intro e; rw [e] at h; exact h.elim
      obtain ⟨v, hv, hk⟩ := PR.go_ok (xbin_ok op t a b) h
      refine ⟨v, fun w => ?_, hk⟩
      have hg := eqGuard_run (P := P) op t x y a b hne w
      simp only [execOp, hρ x a ha, hρ y b hb, Sem.run_bind, hg, hv w, Result.andThen, Sem.run_pure]
    · exact h.elim
  case unOp op t x =>
    simp only [xpure] at h
    split at h
    · rename_i a ha
      have := of_go (P := P) (xun_ok op a) h
      simpa only [execOp, hρ x a ha] using this
    · exact h.elim
  case convert src dst x =>
    simp only [xpure] at h
    split at h
    · rename_i k n d k' hx hs hd
      refine ⟨_, fun w => ?_, h⟩
      simp only [execOp, hρ x _ hx]
      refine run_v ?_
      simp only [convert, Sem.run_bind, run_under hs, run_under hd, Result.andThen]
      rfl
    · rename_i s hx hs hd
      refine ⟨_, fun w => ?_, h⟩
      simp only [execOp, hρ x _ hx]
      refine run_v ?_
      simp only [convert, Sem.run_bind, run_under hs, run_under hd, Result.andThen]
      rfl
    · exact h.elim
  case makeInterface t x =>
    simp only [xpure] at h
    split at h
    · exact h.elim
    · rename_i hne hx ht
      refine ⟨_, fun w => ?_, h⟩
      simp only [execOp, hρ x _ hx]
      refine run_v ?_
      rename_i d _ _ _
      simp only [Instr.makeInterface, Sem.run_bind, run_under ht, Result.andThen]
      cases d <;> first | rfl | exact (hne _ rfl).elim
    · exact h.elim
  case makeFunc fn first captured =>
    simp only [xpure] at h
    split at h
    · rename_i fs cs hf hc
      refine ⟨_, fun w => ?_, h⟩
      have h1 : first.map ρ' = ⟨fs⟩ := by rw [← evals_eq hρ _ _ hf]; apply Array.ext'; simp
      have h2 : captured.map ρ' = ⟨cs⟩ := by rw [← evals_eq hρ _ _ hc]; apply Array.ext'; simp
      simp only [execOp, h1, h2]
      exact run_v rfl
    · exact h.elim
  case build t parts =>
    simp only [xpure] at h
    split at h
    · rename_i ps hps
      have h1 : (parts.map fun (i, x) => (i, ρ' x)) = ⟨ps⟩ := by rw [← evalParts_eq hρ _ _ hps]; apply Array.ext'; simp
      have := of_go (xbuild_ok t ps) h
      simpa only [execOp, h1] using this
    · exact h.elim
  case fieldAddr s x f =>
    simp only [xpure] at h
    split at h
    · rename_i a ha
      split at h
      · rename_i fields hu
        split at h
        · rename_i fl hf
          split at h
          · rename_i i hi
            split at h
            · exact h.elim
            · rename_i n hn
              refine ⟨_, fun w => ?_, h⟩
              simp only [execOp, hρ x _ ha]
              refine run_v ?_
              rw [nth_eq] at hf
              have hf' : (⟨fields⟩ : Array Field)[f]? = some fl := by simpa using hf
              simp [Instr.fieldAt, run_under hu, hf', Instr.sureAddr, fieldPlace, run_size hi, hn]
          · exact h.elim
        · exact h.elim
      · exact h.elim
    · exact h.elim
  case field t x f =>
    simp only [xpure] at h
    split at h
    · rename_i cs hx
      split at h
      · rename_i fields hu
        split at h
        · rename_i fl hf
          have hf' : (⟨fields⟩ : Array Field)[f]? = some fl := by rw [nth_eq] at hf; simpa using hf
          obtain ⟨v, hv, hk⟩ := PR.go_ok (xpart_ok fl.type cs fl.offset) h
          refine ⟨v, fun w => ?_, hk⟩
          simp only [execOp, hρ x _ hx]
          refine run_v ?_
          simp only [Instr.field, Sem.run_bind, run_under hu, Result.andThen, hf', asAgg, Sem.run_pure]
          exact hv w
        · exact h.elim
      · exact h.elim
    · exact h.elim
  case indexAddr t x ix =>
    simp only [xpure] at h
    split at h
    · rename_i a len c k i elem hx hix hu
      split at h
      · rename_i e he
        cases a with
        | none => exact h.elim
        | some b =>
          refine ⟨_, fun w => ?_, h.2⟩
          simp only [execOp, hρ x _ hx, hρ ix _ hix]
          refine run_v ?_
          simp [Instr.indexAt, asIntOf, run_under hu, h.1, run_size he]
      · exact h.elim
    · rename_i b k i len elem hx hix hu
      split at h
      · rename_i e he
        refine ⟨_, fun w => ?_, h.2⟩
        simp only [execOp, hρ x _ hx, hρ ix _ hix]
        refine run_v ?_
        simp [Instr.indexAt, asIntOf, run_under hu, h.1, run_size he, Instr.sureAddr]
      · exact h.elim
    · exact h.elim
  case index t x ix =>
    simp only [xpure] at h
    split at h
    · rename_i s k i hx hix hu
      refine ⟨_, fun w => ?_, h.2⟩
      simp only [execOp, hρ x _ hx, hρ ix _ hix]
      refine run_v ?_
      have hb := getD_eq s i.toNat (by have := h.1; omega)
      simp only [Instr.index, asIntOf, Sem.run_bind, Sem.run_pure, run_under hu, Result.andThen, h.1.1, if_true, hb]
    · exact h.elim
  case slice t x lo hi mx =>
    cases mx with
    | some m =>
      cases hi with
      | none => exact h.elim
      | some hi =>
        simp only [xpure] at h
        split at h
        · rename_i v l k hh k' mm hx hlo hhi hmx
          have := of_go (xslice3_ok t v l k k' hh mm) h
          simpa only [execOp, hρ x _ hx, optV_eq hρ hlo, Option.map_some, hρ hi _ hhi, hρ m _ hmx] using this
        · exact h.elim
    | none =>
      simp only [xpure] at h
      split at h
      · rename_i v l hh hx hlo hhi
        have := of_go (xslice_ok t v l hh) h
        simpa only [execOp, hρ x _ hx, optV_eq hρ hlo, optV_eq hρ hhi, Option.map_none] using this
      · exact h.elim
  case extract x i =>
    simp only [xpure] at h
    split at h
    · rename_i vs hx
      split at h
      · rename_i v hv
        refine ⟨v, fun w => ?_, h⟩
        simp only [execOp, hρ x _ hx]
        refine run_v ?_
        have hv' : (⟨vs⟩ : Array Value)[i]? = some v := by rw [nth_eq] at hv; simpa using hv
        simp only [Instr.extract, hv']
        rfl
      · exact h.elim
    · exact h.elim
  case call c =>
    obtain ⟨callee, args, ts⟩ := c
    simp only [xpure] at h
    split at h
    · rename_i x
      split at h
      · rename_i v t hx
        split at h
        · rename_i s hu
          refine ⟨_, fun w => ?_, h⟩
          rw [callee_arg1, hρ x _ hx]
          refine run_v ?_
          simp [Builtin.len_, run_under hu, goInt]
        · rename_i e p n c hu
          refine ⟨_, fun w => ?_, h⟩
          rw [callee_arg1, hρ x _ hx]
          refine run_v ?_
          simp [Builtin.len_, run_under hu, goInt]
        · rename_i n e hu
          refine ⟨_, fun w => ?_, h⟩
          rw [callee_arg1, hρ x _ hx]
          refine run_v ?_
          simp [Builtin.len_, run_under hu, goInt]
        · exact h.elim
      · exact h.elim
    · rename_i x
      split at h
      · rename_i v t hx
        split at h
        · rename_i e p n c hu
          refine ⟨_, fun w => ?_, h⟩
          rw [callee_arg1, hρ x _ hx]
          refine run_v ?_
          simp [Builtin.cap_, run_under hu, goInt]
        · exact h.elim
      · exact h.elim
    · rename_i x y
      split at h
      · rename_i a b ha hb
        obtain ⟨v, hv, hk⟩ := PR.go_ok (minmax_ok (P := P) .max ts type a b) h
        refine ⟨v, fun w => ?_, hk⟩
        rw [callee_arg2, hρ x _ ha, hρ y _ hb]
        exact run_v (hv w)
      · exact h.elim
    · rename_i x y
      split at h
      · rename_i a b ha hb
        obtain ⟨v, hv, hk⟩ := PR.go_ok (minmax_ok (P := P) .min ts type a b) h
        refine ⟨v, fun w => ?_, hk⟩
        rw [callee_arg2, hρ x _ ha, hρ y _ hb]
        exact run_v (hv w)
      · exact h.elim
    · rename_i x y z
      split at h
      · rename_i k1 a k2 b k3 c ha hb hc
        refine ⟨_, fun w => ?_, h⟩
        rw [callee_arg3, hρ x _ ha, hρ y _ hb, hρ z _ hc]
        refine run_v ?_
        simp [Builtin.min_, Builtin.min2]
      · exact h.elim
    · exact h.elim
  all_goals exact h.elim

theorem add_zero' (a : Addr) : a.add 0 = a := rfl

theorem cellsAt_get {w : World} {a : Addr} : ∀ (vs : List Value) (i j : Nat) (v : Value), cellsAt w a i vs → vs[j]? = some v → w.cell? (a.add (i + j)) = some v
  | [], _, _, _, _, h => by simp at h
  | u :: us, i, 0, v, hc, h => by simp at h; rw [← h]; exact hc.1
  | u :: us, i, j + 1, v, hc, h => by
    have := cellsAt_get us (i + 1) j v hc.2 (by simpa using h)
    rwa [show i + (j + 1) = i + 1 + j by omega]

theorem bytesAt_cells {w : World} {a : Addr} : ∀ (bs : List UInt8) (i : Nat), bytesAt w a i bs → cellsAt w a i (bs.map fun b => .int .u8 b.toNat)
  | [], _, _ => trivial
  | _ :: bs, i, h => ⟨h.1, bytesAt_cells bs (i + 1) h.2⟩

theorem run_cells {w : World} {a : Addr} {vs : List Value} (h : cellsAt w a 0 vs) : (loadCells a vs.length).run P w = .ok ⟨vs⟩ w := by
  have := run_loadCells_list (P := P) w a vs fun j v hv => by have := cellsAt_get vs 0 j v h hv; rwa [Nat.zero_add] at this
  rw [this]

theorem HL.cells_length : ∀ (ls : List Leaf) (x : HL ls), (HL.cells ls x).length = ls.length
  | [], _ => rfl
  | _ :: ls, x => by simp [HL.cells, HL.cells_length ls x.2]

theorem leavesOf_length : ∀ (vs : List Value), (leavesOf vs).length = vs.length
  | [] => rfl
  | _ :: vs => by simp [leavesOf, leavesOf_length vs]

theorem bytes_fold (g : Value → ByteArray → Sem (ForInStep ByteArray)) (hg : ∀ (b : UInt8) s w, (g (.int .u8 b.toNat) s).run P w = .ok (.yield (s.push b)) w)
    (bs : List UInt8) : ∀ (s : ByteArray) (w : World), (forIn (bs.map fun b => Value.int .u8 b.toNat) s g).run P w = .ok ⟨s.data ++ bs.toArray⟩ w := by
  induction bs with
  | nil => intro s w; simp
  | cons b bs ih =>
    intro s w
    simp only [List.map_cons, List.forIn_cons, Sem.run_bind, hg, Result.andThen]
    rw [ih]
    congr 2
    apply Array.ext'
    simp [ByteArray.push]

theorem xread_ok {ρ : Operand → Option Value} {ρ' : Operand → Value} (hρ : ∀ x v, ρ x = some v → ρ' x = v) (o : Oper) (w : World)
    (K : Value → (World → Prop) → Prop) (h : (xread P o.op ρ).go w K) :
    ∃ v S, (∀ w, S w → (execOp ρ' o).run P w = .ok (.value v) w) ∧ S w ∧ K v S := by
  obtain ⟨dst, op, type, pos, after, guard⟩ := o
  cases op
  case load t x =>
    simp only [xread] at h
    split at h
    · rename_i a ha
      split at h
      · rename_i cs i hzc hag hi
        split at h
        case h_2 => exact h.elim
        rename_i hlen
        obtain ⟨x', hx', hk⟩ := h
        refine ⟨_, _, fun w' hw' => ?_, hx', hk⟩
        simp only [execOp, hρ x _ ha]
        refine run_v ?_
        have hl : i.size = (HL.cells (leavesOf cs) x').length := by rw [HL.cells_length, leavesOf_length]; exact (Nat.eq_of_beq_eq_true hlen).symm
        simp only [Instr.loadAt, Instr.sureAddr, loadVar, Sem.run_bind, Sem.run_pure, Result.andThen, run_agg hag, if_true, run_size hi, hl, run_cells hw']
      · rename_i hzv hag
        obtain ⟨x', hx', hk⟩ := h
        refine ⟨_, _, fun w' hw' => ?_, hx', hk⟩
        simp only [execOp, hρ x _ ha]
        refine run_v ?_
        simp only [Instr.loadAt, Instr.sureAddr, loadVar, Sem.run_bind, Sem.run_pure, Result.andThen, run_agg hag, Bool.false_eq_true, if_false, run_load, hw']
      · exact h.elim
    · exact h.elim
  case convert src dst x =>
    simp only [xread] at h
    split at h
    · rename_i a len c e hx hs hd
      split at h
      · rename_i he
        obtain ⟨s, hs', hk⟩ := h
        refine ⟨_, _, fun w' hw' => ?_, hs', hk⟩
        simp only [execOp, hρ x _ hx]
        refine run_v ?_
        simp only [convert, Sem.run_bind, run_under hs, run_under hd, run_under he, Result.andThen]
        cases a with
        | none =>
          simp only [sliceBytes] at hw'
          subst hw'
          rfl
        | some a =>
          simp only [sliceBytes] at hw'
          have hc := bytesAt_cells _ _ hw'.2
          have hlen : len = (s.data.toList.map fun b => Value.int .u8 b.toNat).length := by simp only [List.length_map]; rw [← hw'.1]; rfl
          have hl := run_cells (P := P) hc
          rw [← hlen] at hl
          have hb := fun g hg => bytes_fold (P := P) g hg s.data.toList ByteArray.empty w'
          simp only [Conv.bytesToString, Sem.run_bind, hl, Result.andThen, Sem.run_pure]
          have hforin : ∀ (f : Value → ByteArray → Sem (ForInStep ByteArray)) (l : List Value) (s0 : ByteArray), forIn (⟨l⟩ : Array Value) s0 f = forIn l s0 f := fun f l s0 => by
            rw [← Array.forIn_toList]
          rw [hforin]
          have : (⟨ByteArray.empty.data ++ s.data.toList.toArray⟩ : ByteArray) = s := by
            cases s; simp
          simp only [this] at hb
          rw [hb]
          intro b s w
          simp
      · exact h.elim
    · exact h.elim
  all_goals exact h.elim

end
end Go.X
