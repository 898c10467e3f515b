/- A walk of a function's code that computes what is to be shown: each operation's answer is its run. -/
import Derived.Test.YtmbiffmfcloepaaGreatDoorXDefs
import Derived.Laws.Sem
import Derived.Laws.Cells
import Derived.Laws.Entries
namespace Go.X

section
variable {P : Program}

theorem nth_eq {α : Type} : ∀ (l : List α) (n : Nat), nth l n = l[n]?
  | [], _ => by simp [nth]
  | _ :: _, 0 => by simp [nth]
  | _ :: xs, n + 1 => by simp [nth, nth_eq xs n]

theorem ti_info {t : TypeId} {i : TypeInfo} (h : ti P t = some i) : P.info? t = some i := by
  unfold ti at h
  rw [nth_eq] at h
  have h' : P.types[t]? = some i := by rw [← Array.getElem?_toList]; exact h
  have hlt : t < P.types.size := (Array.getElem?_eq_some_iff.1 h').1
  show P.toTables.info? t = some i
  unfold Tables.info?
  rw [if_pos hlt]; exact h'

theorem run_ti {t : TypeId} {i : TypeInfo} (h : ti P t = some i) (w : World) : (typeInfo t).run P w = .ok i w := by
  simp [typeInfo, ti_info h]

theorem under_eq {t : TypeId} {d : TypeDesc} (h : under P t = some d) : P.underlying t = some d := by
  unfold under at h
  unfold Program.underlying
  split at h
  · rename_i i hi
    rw [ti_info hi]
    split at h
    · rename_i nm u hd
      split at h
      · rename_i j hj
        cases i
        simp only at hd
        subst hd
        simp only [ti_info hj]
        simpa using h
      · cases h
    · rename_i hd
      cases i
      rename_i desc _ _ _ _ _ _ _ _ _
      simp only at hd h ⊢
      split
      · rename_i x hx
        simp at hx
        exact absurd hx.1 (hd _ _)
      · rename_i x hx; cases hx; exact h
      · rename_i hx; cases hx
  · cases h

theorem run_under {t : TypeId} {d : TypeDesc} (h : under P t = some d) (w : World) : (underlying t).run P w = .ok d w :=
  run_underlying (under_eq h) w

theorem run_zero {t : TypeId} {v : Value} (h : zeroOf P t = some v) (w : World) : (zeroValue t).run P w = .ok v w := by
  unfold zeroOf at h
  split at h
  · rename_i i hi
    simp [zeroValue, run_ti hi, h]
  · cases h

theorem run_size {t : TypeId} {i : TypeInfo} (h : ti P t = some i) (w : World) : (sizeOf t).run P w = .ok i.size w := by
  simp [sizeOf, run_ti h]

theorem run_agg {t : TypeId} {b : Bool} (h : isAggT P t = some b) (w : World) : (isAgg t).run P w = .ok b w := by
  unfold isAggT at h
  split at h
  · rename_i h'; cases h; simp [isAgg, run_under h']
  · rename_i h'; cases h; simp [isAgg, run_under h']
  · rename_i h1 h2 h'; cases h
    rename_i d
    simp only [isAgg, Sem.run_bind, run_under h', Result.andThen]
    cases d <;> first | rfl | exact (h1 _ rfl).elim | exact (h2 _ _ rfl).elim
  · cases h

/-- The run that belongs to what an operation comes to. -/
def PR.Ok (P : Program) (s : Sem Value) : PR → Prop
  | .no => True
  | .val v => ∀ w, s.run P w = .ok v w
  | .cond c v => c → ∀ w, s.run P w = .ok v w
  | .ptr p f => ∀ a, p = some a → ∀ w, s.run P w = .ok (f a) w
  | .ptrc p c f => ∀ a, p = some a → c → ∀ w, s.run P w = .ok (f a) w

theorem PR.go_ok {s : Sem Value} {r : PR} (h : r.Ok P s) {K : Value → Prop} (hk : r.go K) : ∃ v, (∀ w, s.run P w = .ok v w) ∧ K v := by
  cases r with
  | no => exact hk.elim
  | val v => exact ⟨v, h, hk⟩
  | cond c v => exact ⟨v, h hk.1, hk.2⟩
  | ptr p f =>
    simp only [PR.go] at hk
    cases p with
    | none => exact hk.elim
    | some a => exact ⟨_, h a rfl, hk⟩
  | ptrc p c f =>
    simp only [PR.go] at hk
    cases p with
    | none => exact hk.elim
    | some a => exact ⟨_, h a rfl hk.1, hk.2⟩

theorem equalIn_bool {t : TypeId} (hu : under P t = some .bool) (d : Nat) (a b : Bool) (w : World) :
    (Op.equalIn (d + 1) t (.bool a) (.bool b)).run P w = .ok (a == b) w := by
  simp only [Op.equalIn, Sem.run_bind, run_under hu, Result.andThen, Sem.run_pure]

theorem equalIn_ptr {t e : TypeId} (hu : under P t = some (.pointer e)) (d : Nat) (p : Option Addr) (w : World) :
    (Op.equalIn (d + 1) t (.pointer p) (.pointer none)).run P w = .ok p.isNone w := by
  cases p <;> simp only [Op.equalIn, Sem.run_bind, run_under hu, Result.andThen, Sem.run_pure] <;> rfl

theorem equalIn_slice {t e : TypeId} (hu : under P t = some (.slice e)) (d : Nat) (p : Option Addr) (l c l' c' : Nat) (w : World) :
    (Op.equalIn (d + 1) t (.slice p l c) (.slice none l' c')).run P w = .ok p.isNone w := by
  cases p <;> simp only [Op.equalIn, Sem.run_bind, run_under hu, Result.andThen, Sem.run_pure] <;> rfl

theorem binOp_eql_of {t : TypeId} {x y : Value} {b : Bool} {w : World} (h1 : binOp .eql t x y = (do pure (.bool (← Op.equal t x y)))) (h : (Op.equalIn (9999 + 1) t x y).run P w = .ok b w) :
    (binOp .eql t x y).run P w = .ok (.bool b) w := by
  rw [h1]
  have : (Op.equal t x y).run P w = .ok b w := h
  simp only [Sem.run_bind, this, Result.andThen, Sem.run_pure]

theorem binOp_neq_of {t : TypeId} {x y : Value} {b : Bool} {w : World} (h1 : binOp .neq t x y = (do pure (.bool (!(← Op.equal t x y))))) (h : (Op.equalIn (9999 + 1) t x y).run P w = .ok b w) :
    (binOp .neq t x y).run P w = .ok (.bool (!b)) w := by
  rw [h1]
  have : (Op.equal t x y).run P w = .ok b w := h
  simp only [Sem.run_bind, this, Result.andThen, Sem.run_pure]

theorem xbin_ok (op : BinOp) (t : TypeId) (x y : Value) : (xbin P op t x y).Ok P (binOp op t x y) := by
  unfold xbin
  split
  · rename_i k a k' b
    split
    · intro hb w; simp only [binOp, Op.shift]; rw [if_neg (by omega)]; rfl
    · intro hb w; simp only [binOp, Op.shift]; rw [if_neg (by omega)]; rfl
    · rename_i h1 h2
      split
      · rename_i hk
        subst hk
        have hb : binOp op t (.int k a) (.int k b) = (match op with
            | .add | .sub | .mul => Op.intArith op k a b
            | .quo | .rem => Op.intDiv op k a b
            | .and | .or | .xor | .andNot => Op.intBits op k a b
            | _ => Op.intCmp op a b) := by
          cases op <;> first | (exact absurd rfl h1) | (exact absurd rfl h2) | (simp [binOp])
        rw [hb]
        cases op <;> simp only [PR.Ok] <;> first
          | (intro w; rfl)
          | (intro h0 w; simp only [Op.intDiv]; rw [if_neg h0]; rfl)
          | (intros; trivial)
          | trivial
      · trivial
  · rename_i a b
    cases op <;> simp only [PR.Ok] <;> first
      | (intro h w; simp only [binOp, Op.stringOp]; rw [if_neg (by omega)]; rfl)
      | (intro w; simp [binOp, Op.stringOp, sEq, sLt])
      | trivial
  · rename_i a b
    split
    · rename_i hu
      cases op <;> simp only [PR.Ok] <;> first
        | (intro w; exact binOp_eql_of rfl (equalIn_bool hu _ _ _ _))
        | (intro w; exact binOp_neq_of rfl (equalIn_bool hu _ _ _ _))
        | trivial
    · trivial
  · rename_i p
    split
    · rename_i e hu
      cases op <;> simp only [PR.Ok] <;> first
        | (intro w; exact binOp_eql_of rfl (equalIn_ptr hu _ _ _))
        | (intro w; exact binOp_neq_of rfl (equalIn_ptr hu _ _ _))
        | trivial
    · trivial
  · rename_i p l c l' c'
    split
    · rename_i e hu
      cases op <;> simp only [PR.Ok] <;> first
        | (intro w; exact binOp_eql_of rfl (equalIn_slice hu _ _ _ _ _ _ _))
        | (intro w; exact binOp_neq_of rfl (equalIn_slice hu _ _ _ _ _ _ _))
        | trivial
    · trivial
  · trivial

theorem eqGuard_run (op : BinOp) (t : TypeId) (x y : Operand) (a b : Value) (h : (xbin P op t a b) ≠ .no) (w : World) :
    (eqGuard op t x y a b).run P w = .ok () w := by
  have key : ∀ (s : Sem Unit), (match a, b with
      | .nilIface, .nilIface => s
      | .agg _, .agg _ => s
      | _, _ => pure ()) = pure () → True := fun _ _ => trivial
  clear key
  unfold eqGuard
  unfold xbin at h
  split at h <;> first
    | exact absurd rfl h
    | (split <;> rfl)

theorem xun_ok (op : UnOp) (x : Value) : (xun op x).Ok P (Op.unary op x) := by
  unfold xun
  split
  · intro w; rfl
  · intro w; rfl
  · intro w; rfl
  · trivial

theorem evals_eq {ρ : Operand → Option Value} {ρ' : Operand → Value} (hρ : ∀ x v, ρ x = some v → ρ' x = v) :
    ∀ (xs : List Operand) (vs : List Value), evals ρ xs = some vs → xs.map ρ' = vs
  | [], vs, h => by simp [evals] at h; simp [← h]
  | x :: xs, vs, h => by
    simp only [evals] at h
    split at h
    · rename_i v hv
      split at h
      · rename_i us hus
        cases h
        simp [hρ x v hv, evals_eq hρ xs us hus]
      · cases h
    · cases h

theorem evalParts_eq {ρ : Operand → Option Value} {ρ' : Operand → Value} (hρ : ∀ x v, ρ x = some v → ρ' x = v) :
    ∀ (xs : List (Nat × Operand)) (vs : List (Nat × Value)), evalParts ρ xs = some vs → (xs.map fun (i, x) => (i, ρ' x)) = vs
  | [], vs, h => by simp [evalParts] at h; simp [← h]
  | x :: xs, vs, h => by
    simp only [evalParts] at h
    split at h
    · rename_i v hv
      split at h
      · rename_i us hus
        cases h
        simp only [List.map_cons, evalParts_eq hρ xs us hus, hρ _ v hv]
      · cases h
    · cases h

theorem placesOf_ok : ∀ (fields : List Field) (ps : List (Nat × Nat)), placesOf P fields = some ps → ∀ w,
    (fields.mapM fun f => do pure (f.offset, ← sizeOf f.type) : Sem (List (Nat × Nat))).run P w = .ok ps w
  | [], ps, h, w => by simp [placesOf] at h; simp [← h]
  | f :: fs, ps, h, w => by
    simp only [placesOf] at h
    split at h
    · rename_i i hi
      split at h
      · rename_i qs hqs
        cases h
        have := placesOf_ok fs qs hqs w
        simp only [List.mapM_cons, Sem.run_bind, run_size hi, Result.andThen, Sem.run_pure] at this ⊢
        rw [this]
      · cases h
    · cases h

theorem xbuild_ok (t : TypeId) (parts : List (Nat × Value)) : (xbuild P t parts).Ok P (Instr.build t ⟨parts⟩) := by
  unfold xbuild
  split
  · rename_i z hz
    split
    · rename_i fields hu
      split
      · rename_i ps hps
        split
        · rename_i cells hc
          intro w
          have hm : (Array.mapM (fun f => do pure (f.offset, ← sizeOf f.type)) (⟨fields⟩ : Array Field) : Sem (Array (Nat × Nat))).run P w = .ok ⟨ps⟩ w := by
            rw [← Array.toArray_toList (xs := (⟨fields⟩ : Array Field)), List.mapM_toArray]
            simp only [Sem.run_map, placesOf_ok fields ps hps w]
            rfl
          have hf : (fun (i : Nat) => (⟨ps⟩ : Array (Nat × Nat))[i]?) = fun i => nth ps i := by funext i; rw [nth_eq]; simp
          simp only [Instr.build, Sem.run_bind, run_zero hz, run_under hu, Result.andThen, hm, hf, hc]
          rfl
        · trivial
      · trivial
    · rename_i n e hu
      split
      · rename_i i hi
        split
        · rename_i cells hc
          intro w
          simp only [Instr.build, Sem.run_bind, run_zero hz, run_under hu, Result.andThen, run_size hi, hc]
          rfl
        · trivial
      · trivial
    · trivial
  · trivial

theorem xpart_ok (t : TypeId) (cs : List Value) (off : Nat) : (xpart P t cs off).Ok P (part t ⟨cs⟩ off) := by
  unfold xpart
  split
  · rename_i h
    split
    · rename_i i hi
      intro w
      simp only [part, Sem.run_bind, run_agg h, Result.andThen, if_true, run_size hi, Sem.run_pure]
      congr 2
      apply Array.ext'
      simp [List.extract_eq_take_drop]
    · trivial
  · rename_i h
    split
    · rename_i v hv
      intro w
      rw [nth_eq] at hv
      simp only [part, Sem.run_bind, run_agg h, Result.andThen, Bool.false_eq_true, if_false]
      have : (⟨cs⟩ : Array Value)[off]? = some v := by simpa using hv
      rw [this]; rfl
    · trivial
  · trivial

theorem lowOf_some {lo : Option Value} {l : Int} (h : lowOf lo = some l) : (lo = none ∧ l = 0) ∨ ∃ k, lo = some (.int k l) := by
  unfold lowOf at h
  split at h
  · cases h; exact .inl ⟨rfl, rfl⟩
  · cases h; exact .inr ⟨_, rfl⟩
  · cases h

theorem highOf_some {len : Nat} {hi : Option Value} {h : Int} (hh : highOf len hi = some h) : (hi = none ∧ h = len) ∨ ∃ k, hi = some (.int k h) := by
  unfold highOf at hh
  split at hh
  · cases hh; exact .inl ⟨rfl, rfl⟩
  · cases hh; exact .inr ⟨_, rfl⟩
  · cases hh

theorem sliceBounds_run (s : Bool) (len cap : Nat) (lo hi : Option Value) (l h : Int) (hl : lowOf lo = some l) (hh : highOf len hi = some h)
    (h1 : 0 ≤ h ∧ h ≤ hiCap hi cap len) (h2 : 0 ≤ l ∧ l ≤ h) (w : World) :
    (Instr.sliceBounds s len cap lo hi none).run P w = .ok (l.toNat, h.toNat, cap) w := by
  unfold Instr.sliceBounds
  rcases lowOf_some hl with ⟨rfl, rfl⟩ | ⟨k, rfl⟩ <;> rcases highOf_some hh with ⟨rfl, rfl⟩ | ⟨k', rfl⟩
  · simp
  · simp only [hiCap] at h1
    simp [Instr.sliceBound, asIntOf, h1]
  · have : l ≤ (len : Int) := h2.2
    simp [Instr.sliceBound, asIntOf, h2.1, this]
  · simp only [hiCap] at h1
    obtain ⟨n, rfl⟩ := Int.eq_ofNat_of_zero_le h1.1
    have h3 : n ≤ cap := by omega
    simp [Instr.sliceBound, asIntOf, h3, h2.1, h2.2]

theorem xslice_ok (t : TypeId) (x : Value) (lo hi : Option Value) : (xslice P t x lo hi).Ok P (Instr.sliceAt t x lo hi none) := by
  unfold xslice
  split
  · rename_i s hu
    split
    · rename_i l h hl hh
      intro hc w
      have hs := sliceBounds_run (P := P) false s.size s.size lo hi l h hl hh (by cases hi <;> exact hc.1) hc.2 w
      simp [Instr.sliceAt, Instr.slice, run_under hu, hs]
    · trivial
  · rename_i elem a len cap hu
    split
    · rename_i i hi'
      split
      · rename_i l h hl hh
        intro hc w
        have hs := sliceBounds_run (P := P) true len cap lo hi l h hl hh hc.1 hc.2 w
        simp [Instr.sliceAt, Instr.slice, run_under hu, hs, run_size hi']
      · trivial
    · trivial
  · trivial

theorem sliceBounds3_run (len cap : Nat) (lo : Option Value) (k k' : IntKind) (l h m : Int) (hl : lowOf lo = some l)
    (h0 : 0 ≤ m ∧ m ≤ cap) (h1 : 0 ≤ h ∧ h ≤ m) (h2 : 0 ≤ l ∧ l ≤ h) (w : World) :
    (Instr.sliceBounds true len cap lo (some (.int k h)) (some (.int k' m))).run P w = .ok (l.toNat, h.toNat, m.toNat) w := by
  obtain ⟨m, rfl⟩ := Int.eq_ofNat_of_zero_le h0.1
  obtain ⟨h, rfl⟩ := Int.eq_ofNat_of_zero_le h1.1
  unfold Instr.sliceBounds
  have a0 : m ≤ cap := by omega
  have a1 : h ≤ m := by omega
  rcases lowOf_some hl with ⟨rfl, rfl⟩ | ⟨k'', rfl⟩
  · simp [Instr.sliceBound, asIntOf, a0, a1]
  · simp [Instr.sliceBound, asIntOf, a0, a1, h2.1, h2.2]

theorem xslice3_ok (t : TypeId) (x : Value) (lo : Option Value) (k k' : IntKind) (h m : Int) : (xslice3 P t x lo h m).Ok P (Instr.sliceAt t x lo (some (.int k h)) (some (.int k' m))) := by
  unfold xslice3
  split
  · rename_i elem a len cap hu
    split
    · rename_i i hi'
      split
      · rename_i l hl
        intro hc w
        have hs := sliceBounds3_run (P := P) len cap lo k k' l h m hl hc.1 hc.2.1 hc.2.2 w
        simp [Instr.sliceAt, Instr.slice, run_under hu, hs, run_size hi']
      · trivial
    · trivial
  · trivial

theorem minmax_ok (b : Builtin) (argTypes : Array TypeId) (type : TypeId) (x y : Value) :
    (minmax b x y).Ok P (match b with | .max => Builtin.max_ argTypes type ⟨[x, y]⟩ | _ => Builtin.min_ argTypes type ⟨[x, y]⟩) := by
  cases b <;> first
    | trivial
    | (cases x <;> first
        | trivial
        | (cases y <;> first
            | trivial
            | (intro w; simp [Builtin.max_, Builtin.max2]; done)
            | (intro w; simp [Builtin.min_, Builtin.min2]; done)))

end
end Go.X
