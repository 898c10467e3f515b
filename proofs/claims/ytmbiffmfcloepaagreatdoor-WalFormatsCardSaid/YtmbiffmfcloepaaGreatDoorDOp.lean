/- The laws' calls as data: a slice of them that came as an argument. -/
import Derived.Test.YtmbiffmfcloepaaGreatDoorXEnd
namespace Go.X
open Go.ChangeShapes Go.WideShapes Go.RowKit

/-- A call as data. -/
structure Op where
  kind : Int
  at_ : Int
  n : Int
  name : ByteArray
  to : ByteArray
  text : ByteArray
  fates : Sl
  xs : List Int

def opCells (o : Op) : List Value := [.int .i64 o.kind, .int .i64 o.at_, .int .i64 o.n, .string o.name, .string o.to, .string o.text, .slice o.fates.a o.fates.len o.fates.cap]

structure OpOk (W : World) (o : Op) : Prop where
  at_ : -9223372036854775808 ≤ o.at_ ∧ o.at_ ≤ 9223372036854775807
  n : -9223372036854775808 ≤ o.n ∧ o.n ≤ 9223372036854775807
  name : o.name.size ≤ maxLen
  to : o.to.size ≤ maxLen
  text : o.text.size ≤ maxLen
  len : o.fates.len ≤ maxLen
  fates : ∀ A, ROInts W A o.fates o.xs

/-- Calls that can be read wherever a part of memory stands. -/
def ROOps (W : World) (A : SP) (s : Sl) (os : List Op) : Prop :=
  os.length = s.len ∧ (∀ o ∈ os, OpOk W o) ∧ ∀ (w : World) (L : List SP), Sat W w (A :: L) → ∀ k o, os[k]? = some o → ∃ b off, s.a = some ⟨b, off, none⟩ ∧ ∀ j v, (opCells o)[j]? = some v → w.cell? ⟨b, off + (k * 7 + j), none⟩ = some v

def fInt (P : Program) (f : Field) (o : Nat) : Bool := Nat.beq f.offset o && Nat.beq (P.cellsOf f.type) 1 && (match under P f.type with
  | some (.int .i64) => true
  | _ => false)
def fStr (P : Program) (f : Field) (o : Nat) : Bool := Nat.beq f.offset o && Nat.beq (P.cellsOf f.type) 1 && (match under P f.type with
  | some .string => true
  | _ => false)
def fInts (P : Program) (f : Field) (o : Nat) : Bool := Nat.beq f.offset o && Nat.beq (P.cellsOf f.type) 1 && (match under P f.type with
  | some (.slice e) => Nat.beq (P.cellsOf e) 1 && (match under P e with
    | some (.int .i64) => true
    | _ => false)
  | _ => false)

def opTypesB (P : Program) (t : TypeId) : Bool :=
  match under P t with
  | some (.slice e) => Nat.beq (P.cellsOf e) 7 && (match under P e with
    | some (.struct ⟨[f0, f1, f2, f3, f4, f5, f6]⟩) => fInt P f0 0 && fInt P f1 1 && fInt P f2 2 && fStr P f3 3 && fStr P f4 4 && fStr P f5 5 && fInts P f6 6
    | _ => false)
  | _ => false

def OpTypes (P : Program) (t : TypeId) : Prop := opTypesB P t = true
theorem opTypes_of {P : Program} {t : TypeId} (h : opTypesB P t = true) : OpTypes P t := h

section
variable {H : Type} {enc : TypeId × Value → H} {P : Program}

theorem ints_of_trod {W : World} {t e : TypeId} {cs : List Value} {x : DataW H × List MemPlace} {fuel : Nat} (ht : P.underlying t = some (.slice e)) (he : P.underlying e = some (.int .i64)) (hc : P.cellsOf e = 1)
    (h : DataW.trod enc P W 0 (fun _ => true) true fuel t cs = some x) : ∃ (s : Sl) (xs : List Int), cs = [.slice s.a s.len s.cap] ∧ s.len ≤ maxLen ∧ ∀ A, ROInts W A s xs := by
  rcases open_ints ht he hc h with ⟨h1, _⟩ | ⟨b, len, cap, zs, h1, _, hlc, hcm, hzl, _, hcell, _⟩
  · exact ⟨⟨none, 0, 0⟩, [], h1, Nat.zero_le _, fun A => ⟨rfl, fun _ _ _ k x hx => by simp at hx⟩⟩
  · simp only [if_true] at hzl
    refine ⟨⟨some b, len, cap⟩, zs.take len, h1, Nat.le_trans hlc hcm, fun A => ⟨by rw [List.length_take]; show min len _ = len; omega, fun w L hw k x hx => ?_⟩⟩
    have hk : k < len := by have := (List.getElem?_eq_some_iff.1 hx).1; rw [List.length_take] at this; omega
    rw [List.getElem?_take_of_lt hk] at hx
    have hck := hcell k (by omega)
    rw [List.getD_eq_getElem?_getD, hx, Option.getD_some] at hck
    have h0 : ∃ b0 o, b = ⟨b0, o, none⟩ := by
      have hc0 := hcell 0 (by omega)
      obtain ⟨b0, o, sp⟩ := b
      cases sp with
      | none => exact ⟨b0, o, rfl⟩
      | some sp =>
        unfold World.cell? at hc0
        simp only [Addr.add, if_true] at hc0
        split at hc0 <;> simp at hc0
    obtain ⟨b0, o, rfl⟩ := h0
    rw [Addr.add_mk] at hck
    exact ⟨b0, o, rfl, hw.old_cell hck⟩

theorem fInt_spec {W : World} {f : Field} {o n : Nat} {cs : List Value} {c : Value} {x : Option (DataW H × List MemPlace)} {y : DataW H × List MemPlace} (hf : fInt P f o = true) (hc : (cs.drop o).take 1 = [c])
    (h : DataW.trod enc P W 0 (fun _ => true) true n f.type ((cs.drop f.offset).take (P.cellsOf f.type)) = x) (hx : x = some y) : ∃ k, c = .int .i64 k ∧ -9223372036854775808 ≤ k ∧ k ≤ 9223372036854775807 := by
  unfold fInt at hf
  simp only [Bool.and_eq_true] at hf
  obtain ⟨⟨h1, h2⟩, h3⟩ := hf
  split at h3
  · rename_i hu
    rw [Nat.eq_of_beq_eq_true h1, Nat.eq_of_beq_eq_true h2, hc, hx] at h
    obtain ⟨k, hk, _, hw⟩ := DataW.trod_int (under_eq hu) h
    simp only [List.cons.injEq, and_true] at hk
    refine ⟨k, hk, ?_⟩
    simp only [Lit.wf, Bool.and_eq_true, decide_eq_true_eq] at hw
    have e1 : IntKind.min .i64 = -9223372036854775808 := rfl
    have e2 : IntKind.max .i64 = 9223372036854775807 := rfl
    omega
  · cases h3

theorem fStr_spec {W : World} {f : Field} {o n : Nat} {cs : List Value} {c : Value} {x : Option (DataW H × List MemPlace)} {y : DataW H × List MemPlace} (hf : fStr P f o = true) (hc : (cs.drop o).take 1 = [c])
    (h : DataW.trod enc P W 0 (fun _ => true) true n f.type ((cs.drop f.offset).take (P.cellsOf f.type)) = x) (hx : x = some y) : ∃ s, c = .string s ∧ s.size ≤ maxLen := by
  unfold fStr at hf
  simp only [Bool.and_eq_true] at hf
  obtain ⟨⟨h1, h2⟩, h3⟩ := hf
  split at h3
  · rename_i hu
    rw [Nat.eq_of_beq_eq_true h1, Nat.eq_of_beq_eq_true h2, hc, hx] at h
    obtain ⟨s, hs, _, hw⟩ := DataW.trod_string (under_eq hu) h
    simp only [List.cons.injEq, and_true] at hs
    exact ⟨s, hs, hw⟩
  · cases h3

theorem fInts_spec {W : World} {f : Field} {o n : Nat} {cs : List Value} {c : Value} {x : Option (DataW H × List MemPlace)} {y : DataW H × List MemPlace} (hf : fInts P f o = true) (hc : (cs.drop o).take 1 = [c])
    (h : DataW.trod enc P W 0 (fun _ => true) true n f.type ((cs.drop f.offset).take (P.cellsOf f.type)) = x) (hx : x = some y) :
    ∃ (s : Sl) (xs : List Int), c = .slice s.a s.len s.cap ∧ s.len ≤ maxLen ∧ ∀ A, ROInts W A s xs := by
  unfold fInts at hf
  simp only [Bool.and_eq_true] at hf
  obtain ⟨⟨h1, h2⟩, h3⟩ := hf
  split at h3
  · rename_i e hu
    simp only [Bool.and_eq_true] at h3
    obtain ⟨h4, h5⟩ := h3
    split at h5
    · rename_i hu2
      rw [Nat.eq_of_beq_eq_true h1, Nat.eq_of_beq_eq_true h2, hc, hx] at h
      obtain ⟨s, xs, hs, hl, hr⟩ := ints_of_trod (under_eq hu) (under_eq hu2) (Nat.eq_of_beq_eq_true h4) h
      simp only [List.cons.injEq, and_true] at hs
      exact ⟨s, xs, hs, hl, hr⟩
    · cases h5
  · cases h3

/-- One call, out of its cells. -/
theorem op_of_trod {W : World} {e : TypeId} {f0 f1 f2 f3 f4 f5 f6 : Field} {cs : List Value} {x : DataW H × List MemPlace} {fuel : Nat} (he : P.underlying e = some (.struct ⟨[f0, f1, f2, f3, f4, f5, f6]⟩)) (hc : P.cellsOf e = 7)
    (h0 : fInt P f0 0 = true) (h1 : fInt P f1 1 = true) (h2 : fInt P f2 2 = true) (h3 : fStr P f3 3 = true) (h4 : fStr P f4 4 = true) (h5 : fStr P f5 5 = true) (h6 : fInts P f6 6 = true)
    (h : DataW.trod enc P W 0 (fun _ => true) true fuel e cs = some x) : ∃ o : Op, cs = opCells o ∧ OpOk W o := by
  obtain ⟨ys, n, _, _, hl, hyl, hf⟩ := DataW.trod_struct he h
  rw [hc] at hl
  match cs, hl with
  | [c0, c1, c2, c3, c4, c5, c6], _ =>
    have hy : ∀ i, i < 7 → ∃ y, ys[i]? = some y := fun i hi => ⟨_, List.getElem?_eq_getElem (by rw [hyl]; exact hi)⟩
    obtain ⟨y0, e0⟩ := hy 0 (by omega)
    obtain ⟨y1, e1⟩ := hy 1 (by omega)
    obtain ⟨y2, e2⟩ := hy 2 (by omega)
    obtain ⟨y3, e3⟩ := hy 3 (by omega)
    obtain ⟨y4, e4⟩ := hy 4 (by omega)
    obtain ⟨y5, e5⟩ := hy 5 (by omega)
    obtain ⟨y6, e6⟩ := hy 6 (by omega)
    obtain ⟨k, rfl, _⟩ := fInt_spec h0 rfl (hf 0 f0 rfl) e0
    obtain ⟨a, rfl, ha⟩ := fInt_spec h1 rfl (hf 1 f1 rfl) e1
    obtain ⟨m, rfl, hm⟩ := fInt_spec h2 rfl (hf 2 f2 rfl) e2
    obtain ⟨nm, rfl, hnm⟩ := fStr_spec h3 rfl (hf 3 f3 rfl) e3
    obtain ⟨to, rfl, hto⟩ := fStr_spec h4 rfl (hf 4 f4 rfl) e4
    obtain ⟨tx, rfl, htx⟩ := fStr_spec h5 rfl (hf 5 f5 rfl) e5
    obtain ⟨s, xs, rfl, hsl, hro⟩ := fInts_spec h6 rfl (hf 6 f6 rfl) e6
    exact ⟨⟨k, a, m, nm, to, tx, s, xs⟩, rfl, ha, hm, hnm, hto, htx, hsl, hro⟩

theorem choose_list {α β : Type} {p : α → β → Prop} : ∀ {l : List α}, (∀ a ∈ l, ∃ b, p a b) → ∃ m : List β, m.length = l.length ∧ ∀ (i : Nat) a b, l[i]? = some a → m[i]? = some b → p a b
  | [], _ => ⟨[], rfl, fun i a b h => by simp at h⟩
  | a :: l, h => by
    obtain ⟨b, hb⟩ := h a List.mem_cons_self
    obtain ⟨m, hm, hp⟩ := choose_list fun a h' => h a (List.mem_cons_of_mem _ h')
    refine ⟨b :: m, by simp [hm], fun i x y hx hy => ?_⟩
    cases i with
    | zero => simp at hx hy; subst hx hy; exact hb
    | succ i => exact hp i x y (by simpa using hx) (by simpa using hy)

/-- An argument that is a slice of calls. -/
theorem open_opsA {W : World} {t : TypeId} {v : Value} {d : DataW H} {ps : List MemPlace} {base : Nat} (ht : OpTypes P t)
    (hval : Value.okWide P W .any base t v) (h : DataW.Trod enc P W 0 (fun _ => true) true t v d ps) : ∃ (s : Sl) (os : List Op), v = .slice s.a s.len s.cap ∧ s.len ≤ maxLen ∧ ∀ A, ROOps W A s os := by
  unfold OpTypes opTypesB at ht
  split at ht
  · rename_i e hu
    simp only [Bool.and_eq_true] at ht
    obtain ⟨hc, ht⟩ := ht
    have hc := Nat.eq_of_beq_eq_true hc
    split at ht
    · rename_i f0 f1 f2 f3 f4 f5 f6 hu2
      simp only [Bool.and_eq_true] at ht
      obtain ⟨⟨⟨⟨⟨⟨h0, h1⟩, h2⟩, h3⟩, h4⟩, h5⟩, h6⟩ := ht
      obtain ⟨a, len, cap, rfl⟩ := okWide_slice (under_eq hu) hval
      obtain ⟨fuel, h⟩ := h
      rcases DataW.trod_slice (under_eq hu) h with ⟨hn, _⟩ | ⟨b, len', cap', elems, rest, n, _, hn, _, _, hlc, hcm, hel, hget, _⟩
      · simp only [Value.cells, List.cons.injEq, Value.slice.injEq, and_true] at hn
        obtain ⟨rfl, rfl, rfl⟩ := hn
        exact ⟨⟨none, 0, 0⟩, [], rfl, Nat.zero_le _, fun A => ⟨rfl, fun o ho => by simp at ho, fun _ _ _ k o ho => by simp at ho⟩⟩
      · simp only [Value.cells, List.cons.injEq, Value.slice.injEq, and_true] at hn
        obtain ⟨rfl, rfl, rfl⟩ := hn
        have each : ∀ i, i < len → ∃ o : Op, OpOk W o ∧ ∀ j v, (opCells o)[j]? = some v → W.cell? ((b.add (i * 7)).add j) = some v := by
          intro i hi
          have hg := hget i hi
          rw [hc, List.getElem?_eq_getElem (by omega)] at hg
          obtain ⟨cs, hcs, htr⟩ := Option.bind_eq_some_iff.1 hg
          obtain ⟨o, rfl, hok⟩ := op_of_trod (under_eq hu2) hc h0 h1 h2 h3 h4 h5 h6 htr
          obtain ⟨_, hcl, hcell⟩ := World.cells?_some hcs
          refine ⟨o, hok, fun j v hj => ?_⟩
          have hj7 := (List.getElem?_eq_some_iff.1 hj).1
          rw [hcell j (by omega), hj]
        obtain ⟨os, hol, hop⟩ := choose_list (l := List.range len) (p := fun i (o : Op) => OpOk W o ∧ ∀ j v, (opCells o)[j]? = some v → W.cell? ((b.add (i * 7)).add j) = some v) fun i hi => each i (by simpa using hi)
        rw [List.length_range] at hol
        refine ⟨⟨some b, len, cap⟩, os, rfl, Nat.le_trans hlc hcm, fun A => ⟨hol, fun o ho => ?_, fun w L hw k o ho => ?_⟩⟩
        · obtain ⟨i, hi⟩ := List.getElem?_of_mem ho
          have hil := (List.getElem?_eq_some_iff.1 hi).1
          exact (hop i i o (by rw [List.getElem?_range (by omega)]) hi).1
        · have hkl := (List.getElem?_eq_some_iff.1 ho).1
          have hk := (hop k k o (by rw [List.getElem?_range (by omega)]) ho).2
          have hb0 : ∃ b0 off, b = ⟨b0, off, none⟩ := by
            have o0 := os[0]?
            have hc0 := (hop 0 0 os[0] (by rw [List.getElem?_range (by omega)]) (List.getElem?_eq_getElem (by omega))).2 0 _ rfl
            obtain ⟨b0, off, sp⟩ := b
            cases sp with
            | none => exact ⟨b0, off, rfl⟩
            | some sp =>
              unfold World.cell? at hc0
              simp only [Nat.zero_mul, Addr.add, if_true] at hc0
              split at hc0 <;> simp at hc0
          obtain ⟨b0, off, rfl⟩ := hb0
          refine ⟨b0, off, rfl, fun j v hj => hw.old_cell ?_⟩
          have := hk j v hj
          rwa [Addr.add_mk, Addr.add_mk, Nat.add_assoc] at this
    · cases ht
  · cases ht

end
end Go.X
