/- What memory holds, part by part: each part in blocks of its own, all of them made behind a first world, whose blocks stay as they are. -/
import Derived.Test.YtmbiffmfcloepaaGreatDoorXRule
namespace Go.X

/-! ### Parts of memory -/

abbrev Hp := Nat → Option Obj
abbrev SP := Hp → Prop

def Disj (h g : Hp) : Prop := ∀ b, h b = none ∨ g b = none
def join (h g : Hp) : Hp := fun b => match h b with
  | some o => some o
  | none => g b

theorem Disj.symm {h g : Hp} (d : Disj h g) : Disj g h := fun b => (d b).symm

theorem join_none {h g : Hp} {b : Nat} : join h g b = none ↔ h b = none ∧ g b = none := by
  unfold join
  cases h b <;> simp

theorem join_comm {h g : Hp} (d : Disj h g) : join h g = join g h := by
  funext b
  unfold join
  rcases d b with e | e
  · rw [e]; cases g b <;> rfl
  · rw [e]; cases h b <;> rfl

theorem join_assoc (f g h : Hp) : join (join f g) h = join f (join g h) := by
  funext b
  unfold join
  cases f b <;> rfl

theorem disj_join {f g h : Hp} : Disj (join f g) h ↔ Disj f h ∧ Disj g h := by
  constructor
  · intro d
    constructor <;> intro b <;> rcases d b with e | e
    · exact .inl (join_none.1 e).1
    · exact .inr e
    · exact .inl (join_none.1 e).2
    · exact .inr e
  · rintro ⟨d1, d2⟩ b
    rcases d1 b with e | e
    · rcases d2 b with e' | e'
      · exact .inl (join_none.2 ⟨e, e'⟩)
      · exact .inr e'
    · exact .inr e

def sep (A B : SP) : SP := fun h => ∃ f g, Disj f g ∧ h = join f g ∧ A f ∧ B g

/-- Several parts, and whatever else there is. -/
def star : List SP → SP
  | [] => fun _ => True
  | A :: L => sep A (star L)

theorem sep_swap {A B : SP} {L : List SP} {h : Hp} (s : star (A :: B :: L) h) : star (B :: A :: L) h := by
  obtain ⟨f, g, d, rfl, ha, f', g', d', rfl, hb, hl⟩ := s
  obtain ⟨d1, d2⟩ := disj_join.1 d.symm
  refine ⟨f', join f g', (disj_join.2 ⟨d1.symm, d'.symm⟩).symm, ?_, hb, f, g', d2.symm, rfl, ha, hl⟩
  rw [← join_assoc, join_comm d1.symm, join_assoc]

theorem star_mono {A : SP} {L L' : List SP} (hl : ∀ h, star L h → star L' h) {h : Hp} (s : star (A :: L) h) : star (A :: L') h := by
  obtain ⟨f, g, d, e, ha, hb⟩ := s
  exact ⟨f, g, d, e, ha, hl g hb⟩

theorem star_head {A B : SP} {L : List SP} (hab : ∀ h, A h → B h) {h : Hp} (s : star (A :: L) h) : star (B :: L) h := by
  obtain ⟨f, g, d, e, ha, hb⟩ := s
  exact ⟨f, g, d, e, hab f ha, hb⟩

/-- The part at a place, ahead of the others. -/
def bringL : Nat → List SP → List SP
  | 0, L => L
  | _ + 1, [] => []
  | n + 1, A :: L => match bringL n L with
    | [] => [A]
    | B :: L' => B :: A :: L'

theorem star_bring : ∀ (n : Nat) (L : List SP) (h : Hp), star L h → star (bringL n L) h
  | 0, _, _, s => s
  | _ + 1, [], _, s => s
  | n + 1, A :: L, h, s => by
    have ih := star_bring n L
    simp only [bringL]
    have s' := star_mono ih s
    cases hb : bringL n L with
    | nil => rw [hb] at s'; exact s'
    | cons B L' => rw [hb] at s'; exact sep_swap s'

/-- These parts (by their places) in this order, ahead of the others. -/
def arrN : Nat → List Nat → List SP → List SP
  | n + 1, i :: is, L => match bringL i L with
    | [] => []
    | A :: L' => A :: arrN n (is.map fun j => match Nat.blt j i with | true => j | false => j - 1) L'
  | _, _, L => L

def arrL (is : List Nat) (L : List SP) : List SP := arrN is.length is L

theorem star_arrN : ∀ (n : Nat) (is : List Nat) (L : List SP) (h : Hp), star L h → star (arrN n is L) h
  | 0, [], _, _, s => s
  | 0, _ :: _, _, _, s => s
  | _ + 1, [], _, _, s => s
  | n + 1, i :: is, L, h, s => by
    have s' := star_bring i L h s
    simp only [arrN]
    cases hb : bringL i L with
    | nil => rw [hb] at s'; exact s'
    | cons A L' =>
      rw [hb] at s'
      exact star_mono (fun h s => star_arrN n _ L' h s) s'

theorem star_arr (is : List Nat) (L : List SP) (h : Hp) (s : star L h) : star (arrL is L) h := star_arrN _ is L h s

/-- The first part, put behind so many others. -/
def sinkL : Nat → List SP → List SP
  | 0, L => L
  | _ + 1, [] => []
  | _ + 1, [A] => [A]
  | n + 1, A :: B :: L => B :: sinkL n (A :: L)

theorem star_sink : ∀ (n : Nat) (L : List SP) (h : Hp), star L h → star (sinkL n L) h
  | 0, _, _, s => s
  | _ + 1, [], _, s => s
  | _ + 1, [_], _, s => s
  | n + 1, A :: B :: L, h, s => by
    simp only [sinkL]
    exact star_mono (star_sink n (A :: L)) (sep_swap s)

theorem star_drop {A : SP} {L : List SP} {h : Hp} (s : star (A :: L) h) (up : ∀ L' : List SP, ∀ h g, star L' g → star L' (join h g)) : star L h := by
  obtain ⟨f, g, _, rfl, _, hb⟩ := s
  exact up L f g hb

/-! ### Worlds -/

/-- What stands in blocks that are not of the first world. -/
def World.fresh (W w : World) : Hp := fun b => if b < W.heap.size then none else w.heap[b]?

/-- In 'w', behind 'W': nothing that was there has turned; what was made since has these parts. -/
structure Sat (W w : World) (L : List SP) : Prop where
  os : w.os = W.os
  tape : w.tape = W.tape
  output : w.output = W.output
  size : W.heap.size ≤ w.heap.size
  old : ∀ k, k < W.heap.size → w.heap[k]? = W.heap[k]?
  new : star L (World.fresh W w)

theorem Sat.start (W : World) : Sat W W [] := ⟨rfl, rfl, rfl, Nat.le_refl _, fun _ _ => rfl, trivial⟩

section
variable {W w : World} {A B : SP} {L L' : List SP}

theorem Sat.of_star (hs : Sat W w L) (h : ∀ h, star L h → star L' h) : Sat W w L' := ⟨hs.os, hs.tape, hs.output, hs.size, hs.old, h _ hs.new⟩
theorem Sat.bring (hs : Sat W w L) (n : Nat) : Sat W w (bringL n L) := hs.of_star (star_bring n L)
theorem Sat.arr (hs : Sat W w L) (is : List Nat) : Sat W w (arrL is L) := hs.of_star fun h s => star_arr is L h s
theorem Sat.sink (hs : Sat W w L) (n : Nat) : Sat W w (sinkL n L) := hs.of_star (star_sink n L)
theorem Sat.swap (hs : Sat W w (A :: B :: L)) : Sat W w (B :: A :: L) := hs.of_star fun _ => sep_swap
theorem Sat.head (hs : Sat W w (A :: L)) (h : ∀ h, A h → B h) : Sat W w (B :: L) := hs.of_star fun _ => star_head h

/-- A part that is there 'somehow'. -/
def ex {α : Type} (A : α → SP) : SP := fun h => ∃ x, A x h
/-- A fact. -/
def fact (p : Prop) : SP := fun _ => p
/-- Several parts as one. -/
def all (L : List SP) : SP := star L
def emp : SP := fun _ => True

theorem Sat.open_ex {α : Type} {A : α → SP} (hs : Sat W w (ex A :: L)) : ∃ x, Sat W w (A x :: L) := by
  obtain ⟨f, g, d, e, ⟨x, hx⟩, hb⟩ := hs.new
  exact ⟨x, hs.os, hs.tape, hs.output, hs.size, hs.old, f, g, d, e, hx, hb⟩

theorem Sat.shut_ex {α : Type} {A : α → SP} (x : α) (hs : Sat W w (A x :: L)) : Sat W w (ex A :: L) := hs.head fun _ h => ⟨x, h⟩

theorem star_all : ∀ (As L : List SP) (h : Hp), star (all As :: L) h → star (As ++ L) h
  | [], L, h, s => by
    obtain ⟨f, g, d, e, _, hb⟩ := s
    -- what the empty part holds is let go
    have up : ∀ (L : List SP) (f g : Hp), Disj f g → star L g → star L (join f g) := by
      intro L
      induction L with
      | nil => intro f g _ _; trivial
      | cons A L ih =>
        intro f g d s
        obtain ⟨f', g', d', e', ha, hb⟩ := s
        subst e'
        obtain ⟨d1, d2⟩ := disj_join.1 d.symm
        refine ⟨f', join f g', (disj_join.2 ⟨d1.symm, d'.symm⟩).symm, ?_, ha, ih f g' d2.symm hb⟩
        rw [← join_assoc, join_comm d1.symm, join_assoc]
    rw [e]
    exact up L f g d hb
  | A :: As, L, h, s => by
    obtain ⟨f, g, d, e, ⟨f', g', d', e', ha, hb⟩, hl⟩ := s
    subst e e'
    obtain ⟨d1, d2⟩ := disj_join.1 d
    refine ⟨f', join g' g, (disj_join.2 ⟨d'.symm, d1.symm⟩).symm, join_assoc _ _ _, ha, star_all As L _ ⟨g', g, d2, rfl, hb, hl⟩⟩

theorem star_unall : ∀ (As L : List SP) (h : Hp), star (As ++ L) h → star (all As :: L) h
  | [], L, h, s => ⟨fun _ => none, h, fun _ => .inl rfl, rfl, trivial, s⟩
  | A :: As, L, h, s => by
    obtain ⟨f, g, d, e, ha, hb⟩ := s
    obtain ⟨f', g', d', e', ha', hb'⟩ := star_unall As L g hb
    subst e e'
    obtain ⟨d1, d2⟩ := disj_join.1 d.symm
    exact ⟨join f f', g', disj_join.2 ⟨d2.symm, d'⟩, (join_assoc _ _ _).symm, ⟨f, f', d1.symm, rfl, ha, ha'⟩, hb'⟩

theorem Sat.open_all {As : List SP} (hs : Sat W w (all As :: L)) : Sat W w (As ++ L) := hs.of_star fun h s => star_all As L h s
theorem Sat.shut_all {As : List SP} (hs : Sat W w (As ++ L)) : Sat W w (all As :: L) := hs.of_star fun h s => star_unall As L h s
theorem Sat.drop (hs : Sat W w (A :: L)) : Sat W w L :=
  (hs.head (B := all []) fun _ _ => trivial).open_all

theorem Sat.open_fact {p : Prop} (hs : Sat W w (fact p :: L)) : p ∧ Sat W w L := by
  obtain ⟨f, g, d, e, hp, hb⟩ := hs.new
  exact ⟨hp, hs.drop⟩
theorem Sat.shut_fact {p : Prop} (hp : p) (hs : Sat W w L) : Sat W w (fact p :: L) :=
  (Sat.shut_all (As := []) hs).head fun _ _ => hp

theorem Sat.add_emp (hs : Sat W w L) : Sat W w (emp :: L) := (Sat.shut_all (As := []) hs).head fun _ _ => trivial

/-! ### Blocks of cells -/

/-- The block 'b' holds just these cells, and may be written. -/
def pts (b : Nat) (cs : List Value) : SP := fun h => ∃ t lo hi, h b = some (.cells ⟨cs⟩ t (lo, hi)) ∧ ∀ o, o < cs.length → (decide (lo ≤ o) && decide (o < hi)) = false

theorem Sat.pts_heap {b : Nat} {cs : List Value} (hs : Sat W w (pts b cs :: L)) : ∃ t lo hi, w.heap[b]? = some (.cells ⟨cs⟩ t (lo, hi)) ∧ (∀ o, o < cs.length → (decide (lo ≤ o) && decide (o < hi)) = false) ∧ W.heap.size ≤ b := by
  obtain ⟨f, g, d, e, ⟨t, lo, hi, h1, h2⟩, hb⟩ := hs.new
  have : World.fresh W w b = some (.cells ⟨cs⟩ t (lo, hi)) := by rw [e]; unfold join; rw [h1]
  unfold World.fresh at this
  split at this
  · cases this
  · exact ⟨t, lo, hi, this, h2, by omega⟩

theorem Sat.cell {b o : Nat} {cs : List Value} {v : Value} (hs : Sat W w (pts b cs :: L)) (h : cs[o]? = some v) : w.cell? ⟨b, o, none⟩ = some v := by
  obtain ⟨t, lo, hi, h1, _, _⟩ := hs.pts_heap
  simp [World.cell?, h1, h]

theorem Sat.free {b o : Nat} {cs : List Value} (hs : Sat W w (pts b cs :: L)) (h : o < cs.length) : w.frozen? ⟨b, o, none⟩ = false := by
  obtain ⟨t, lo, hi, h1, h2, _⟩ := hs.pts_heap
  simpa [World.frozen?, h1] using h2 o h

theorem Sat.lt {b : Nat} {cs : List Value} (hs : Sat W w (pts b cs :: L)) : b < w.heap.size := by
  obtain ⟨t, lo, hi, h1, _, _⟩ := hs.pts_heap
  exact (Array.getElem?_eq_some_iff.1 h1).1

/-- Two parts lie in blocks of their own. -/
theorem Sat.ne {b c : Nat} {cs ds : List Value} (hs : Sat W w (pts b cs :: pts c ds :: L)) : b ≠ c := by
  obtain ⟨f, g, d, e, ⟨t, lo, hi, h1, h2⟩, f', g', d', e', ⟨t', lo', hi', h1', h2'⟩, hb⟩ := hs.new
  rintro rfl
  subst e'
  have := d b
  unfold join at this
  rw [h1, h1'] at this
  rcases this with h | h <;> cases h

theorem fresh_set {b : Nat} {o' : Obj} (hb : W.heap.size ≤ b) (w' : World) (h1 : w'.heap[b]? = some o') (h2 : ∀ k, k ≠ b → w'.heap[k]? = w.heap[k]?) (f g : Hp) (d : Disj f g) (e : World.fresh W w = join f g) (o : Obj) (hf : f b = some o) :
    ∃ f', Disj f' g ∧ World.fresh W w' = join f' g ∧ f' b = some o' := by
  refine ⟨fun k => if k = b then some o' else f k, fun k => ?_, ?_, if_pos rfl⟩
  · by_cases hk : k = b
    · subst hk
      rcases d k with h | h
      · rw [hf] at h; cases h
      · exact .inr h
    · rcases d k with h | h
      · exact .inl (by simp only [if_neg hk]; exact h)
      · exact .inr h
  · funext k
    by_cases hk : k = b
    · subst hk
      simp [World.fresh, join, h1, Nat.not_lt.2 hb]
    · have := congrFun e k
      unfold World.fresh join at this ⊢
      simp only [h2 k hk, this, if_neg hk]

theorem setCell_heap (w : World) (b o : Nat) (v : Value) {cs : List Value} {t : TypeId} {fz : Nat × Nat} (h : w.heap[b]? = some (.cells ⟨cs⟩ t fz)) :
    (w.setCell ⟨b, o, none⟩ v).heap[b]? = some (.cells ⟨cs.set o v⟩ t fz) := by
  simp [World.setCell, Array.getElem?_modify, h]

theorem setCell_other (w : World) (b o : Nat) (v : Value) {k : Nat} (h : k ≠ b) : (w.setCell ⟨b, o, none⟩ v).heap[k]? = w.heap[k]? := by
  simp [World.setCell, Array.getElem?_modify, Ne.symm h]

theorem Sat.set {b o : Nat} {cs : List Value} (hs : Sat W w (pts b cs :: L)) (v : Value) : Sat W (w.setCell ⟨b, o, none⟩ v) (pts b (cs.set o v) :: L) := by
  obtain ⟨t, lo, hi, h1, h2, h3⟩ := hs.pts_heap
  obtain ⟨f, g, d, e, ⟨t', lo', hi', h1', _⟩, hb⟩ := hs.new
  obtain ⟨f', d', e', hf'⟩ := fresh_set (w := w) h3 (w.setCell ⟨b, o, none⟩ v) (setCell_heap w b o v h1) (fun k hk => setCell_other w b o v hk) f g d e _ h1'
  refine ⟨hs.os, hs.tape, hs.output, by simpa using hs.size, fun k hk => ?_, f', g, d', e', ⟨t, lo, hi, hf', by simpa using h2⟩, hb⟩
  rw [setCell_other w b o v (by omega)]
  exact hs.old k hk

theorem Sat.new_block {cs : List Value} {t : TypeId} (hs : Sat W w L) : Sat W (w.alloc (.cells ⟨cs⟩ t)) (pts w.heap.size cs :: L) := by
  have hold : ∀ k, k < w.heap.size → (w.alloc (.cells ⟨cs⟩ t)).heap[k]? = w.heap[k]? := fun k hk => by
    show (w.heap.push _)[k]? = _
    rw [Array.getElem?_push, if_neg (by omega)]
  have hnew : (w.alloc (.cells ⟨cs⟩ t)).heap[w.heap.size]? = some (.cells ⟨cs⟩ t (0, 0)) := by
    show (w.heap.push _)[w.heap.size]? = _
    simp
  refine ⟨hs.os, hs.tape, hs.output, ?_, fun k hk => ?_, fun k => if k = w.heap.size then some (.cells ⟨cs⟩ t (0, 0)) else none, World.fresh W w, ?_, ?_, ⟨t, 0, 0, if_pos rfl, by simp⟩, hs.new⟩
  · rw [World.size_alloc]; exact Nat.le_succ_of_le hs.size
  · rw [hold k (Nat.lt_of_lt_of_le hk hs.size)]; exact hs.old k hk
  · intro k
    by_cases hk : k = w.heap.size
    · right
      subst hk
      unfold World.fresh
      split
      · rfl
      · simp
    · exact .inl (if_neg hk)
  · funext k
    unfold World.fresh join
    by_cases hk : k = w.heap.size
    · subst hk
      simp only [if_true, hnew, if_neg (Nat.not_lt.2 hs.size)]
    · simp only [if_neg hk]
      split
      · rfl
      · by_cases hlt : k < w.heap.size
        · exact hold k hlt
        · have h1 : (w.alloc (.cells ⟨cs⟩ t)).heap[k]? = none := by rw [Array.getElem?_eq_none]; rw [World.size_alloc]; omega
          have h2 : w.heap[k]? = none := by rw [Array.getElem?_eq_none]; omega
          rw [h1, h2]

theorem Sat.drew (hs : Sat W w L) : Sat W w.drew L := ⟨hs.os, hs.tape, hs.output, hs.size, hs.old, hs.new⟩

end

/-- Nothing in memory has turned. -/
structure Quiet (w w' : World) : Prop where
  heap : w'.heap = w.heap
  os : w'.os = w.os
  tape : w'.tape = w.tape
  output : w'.output = w.output

theorem Quiet.refl (w : World) : Quiet w w := ⟨rfl, rfl, rfl, rfl⟩
theorem Quiet.trans {a b c : World} (h : Quiet a b) (k : Quiet b c) : Quiet a c := ⟨k.heap.trans h.heap, k.os.trans h.os, k.tape.trans h.tape, k.output.trans h.output⟩
theorem Quiet.drew {a b : World} (h : Quiet a b) : Quiet a b.drew := ⟨h.heap, h.os, h.tape, h.output⟩
theorem Quiet.cell {w w' : World} (h : Quiet w w') (a : Addr) : w'.cell? a = w.cell? a := by unfold World.cell?; rw [h.heap]

section
variable {W w : World} {A B : SP} {L L' : List SP}

theorem Sat.quiet {w' : World} (hs : Sat W w L) (h : Quiet w w') : Sat W w' L := by
  refine ⟨h.os.trans hs.os, h.tape.trans hs.tape, h.output.trans hs.output, by rw [h.heap]; exact hs.size, fun k hk => by rw [h.heap]; exact hs.old k hk, ?_⟩
  have : World.fresh W w' = World.fresh W w := by funext b; unfold World.fresh; rw [h.heap]
  rw [this]; exact hs.new

/-- A cell that was there in the first world reads as it did. -/
theorem Sat.old_cell {a : Addr} {v : Value} (hs : Sat W w L) (h : W.cell? a = some v) : w.cell? a = some v := by
  have hlt : a.block < W.heap.size := by
    unfold World.cell? at h
    split at h
    · rename_i hb; exact (Array.getElem?_eq_some_iff.1 hb).1
    · cases h
  unfold World.cell? at h ⊢
  rw [hs.old a.block hlt]
  exact h
end

/-! ### The words' rules -/

section
variable {P : Program} {W w : World} {L : List SP}

/-- A cell of a list, read by its kind. -/
def readL (l : Leaf) (cs : List Value) (o : Nat) : Option l.T :=
  match cs[o]? with
  | some v => l.un v
  | none => none

theorem readL_mk {l : Leaf} {cs : List Value} {o : Nat} {x : l.T} (h : readL l cs o = some x) : cs[o]? = some (l.mk x) := by
  unfold readL at h
  split at h
  · rename_i v hv
    rw [hv, Leaf.mk_un l v x h]
  · cases h

theorem xnil {a : Addr} {K : Addr → Prop} (h : K a) : XNil (some a) K := h

theorem xload {l : Leaf} {a : Addr} {K : l.T → Prop} {b : Nat} {cs : List Value} (hs : Sat W w (pts b cs :: L)) (o : Nat) (ha : a = ⟨b, o, none⟩) {x : l.T} (hx : readL l cs o = some x) (hk : K x) : XLoad l a w K :=
  ⟨x, by rw [ha]; exact hs.cell (readL_mk hx), hk⟩

theorem xload_at {l : Leaf} {a : Addr} {K : l.T → Prop} {x : l.T} (h : w.cell? a = some (l.mk x)) (hk : K x) : XLoad l a w K := ⟨x, h, hk⟩

theorem xstore {a : Addr} {v : Value} {K : World → Prop} {b : Nat} {cs : List Value} (hs : Sat W w (pts b cs :: L)) (o : Nat) (ha : a = ⟨b, o, none⟩) (ho : o < cs.length)
    (hk : ∀ w', Sat W w' (pts b (cs.set o v) :: L) → K w') : XStore a v w K := by
  subst ha
  refine ⟨?_, hs.free ho, hk _ (hs.set v)⟩
  rw [hs.cell (List.getElem?_eq_getElem ho)]
  rfl

theorem xnew {t : TypeId} {cs : List Value} {K : Addr → World → Prop} (hs : Sat W w L) (hk : ∀ b w', Sat W w' (pts b cs :: L) → K ⟨b, 0, none⟩ w') : XNew t cs w K := hk _ _ hs.new_block

theorem Addr.add_mk (b o n : Nat) : Addr.add ⟨b, o, none⟩ n = ⟨b, o + n, none⟩ := by
  unfold Addr.add
  split
  · rename_i h; subst h; rfl
  · rfl

/-- What a call yields. -/
def Ret (P : Program) (f : FuncId) (args : List Value) (w : World) (Q : Value → World → Prop) : Prop :=
  Calls P f ⟨args⟩ w fun e w' => ∃ v, e = .returned v ∧ Q v w'

theorem Ret.mono {f : FuncId} {args : List Value} {Q Q' : Value → World → Prop} (h : Ret P f args w Q) (hq : ∀ v w', Q v w' → Q' v w') : Ret P f args w Q' :=
  Calls.mono h fun _ _ ⟨v, e, q⟩ => ⟨v, e, hq v _ q⟩

theorem xcall {f : FuncId} {args : List Value} {t : Ty} {K : t.T → World → Prop} {Q : Value → World → Prop} (h : Ret P f args w Q) (hk : ∀ v w', Q v w' → ∃ x, v = t.mk x ∧ K x w') : XCall P f args t w K :=
  Calls.mono h fun _ w' ⟨v, e, q⟩ => let ⟨x, hv, k⟩ := hk v w' q; ⟨x, by rw [e, hv], k⟩

theorem xcalls {f : FuncId} {args : List Value} {ts : List Ty} {K : HT ts → World → Prop} {Q : Value → World → Prop} (h : Ret P f args w Q) (hk : ∀ v w', Q v w' → ∃ x, v = .tuple ⟨HT.vals ts x⟩ ∧ K x w') : XCalls P f args ts w K :=
  Calls.mono h fun _ w' ⟨v, e, q⟩ => let ⟨x, hv, k⟩ := hk v w' q; ⟨x, by rw [e, hv], k⟩

theorem XIf.yes {b : Bool} {A B : Prop} (h : b = true) (a : A) : XIf b A B := by subst h; exact a
theorem XIf.no {b : Bool} {A B : Prop} (h : b = false) (x : B) : XIf b A B := by subst h; exact x

/-- A loop: what holds at each round's head, and what falls. -/
theorem xloop {α : Type} {body : (α → World → Prop) → α → World → Prop} (I : α → World → Prop) (μ : α → Nat) {s : α} (h0 : I s w)
    (hr : ∀ next s w, I s w → (∀ s' w', I s' w' → μ s' < μ s → next s' w') → body next s w) : XLoop body s w := by
  have key : ∀ n s w, μ s < n → I s w → iterL body n s w := by
    intro n
    induction n with
    | zero => intro s w h _; omega
    | succ n ih =>
      intro s w h hi
      exact hr _ s w hi fun s' w' hi' hlt => ih s' w' (by omega) hi'
  exact ⟨μ s + 1, key _ s w (Nat.lt_succ_self _) h0⟩

theorem xlet {α : Type} {v : α} (v' : α) {K : α → Prop} (h : v = v') (hk : K v') : XLet v K := by subst h; exact hk
theorem xlet0 {α : Type} {v : α} {K : α → Prop} (hk : K v) : XLet v K := hk

theorem xjoin0 {α : Type} {rest : α → World → Prop} {body : (α → World → Prop) → Prop} (h : body rest) : XJoin rest body := h

/-- Ways that meet again: what holds there. -/
theorem xjoin {α : Type} {rest : α → World → Prop} {body : (α → World → Prop) → Prop} (Q : α → World → Prop) (hb : ∀ J, (∀ s w, Q s w → J s w) → body J) (hr : ∀ s w, Q s w → rest s w) : XJoin rest body :=
  hb rest hr

end
end Go.X
