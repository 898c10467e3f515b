/- Texts joined: XSep, XMem, XExt, DModel, DSmall, DPlace, XMem2, DOps, DWrite, DRead, DCrash, XMem3, DInsert, DCreate, XGen, XEnd, DPlain, DPieces. -/
import Derived.Test.YtjhifcooocjagaaGreatDoorKVaultNobodyW0
import Derived.Test.YtjhifcooocjagaaGreatDoorKVaultNobodyW1
import Derived.Laws.AppendOwn
import Derived.Laws.MakeOwn
import Derived.Laws.Strings
import Derived.Lib.Overlaps
import Derived.ProofKit
set_option linter.unusedVariables false
set_option linter.unusedSimpArgs false
set_option linter.unnecessarySimpa false

/-! What memory holds, part by part: each part in blocks of its own, all of them made behind a first world, whose blocks stay as they are. -/
namespace Go.X

/-! ### Parts of memory -/

abbrev Hp := Nat → Option Obj
abbrev SP := Hp → Prop

def Disj (h g : Hp) : Prop := ∀ b, h b = none ∨ g b = none
def join (h g : Hp) : Hp := fun b => match h b with
  | some o => some o
  | none => g b

theorem Disj.symm {h g : Hp} (d : Disj h g) : Disj g h := fun b => (d b).symm

theorem join_none {h g : Hp} {b : Nat} : join h g b = none ↔ h b = none ∧ g b = none := by
  unfold join
  cases h b <;> simp

theorem join_comm {h g : Hp} (d : Disj h g) : join h g = join g h := by
  funext b
  unfold join
  rcases d b with e | e
  · rw [e]; cases g b <;> rfl
  · rw [e]; cases h b <;> rfl

theorem join_assoc (f g h : Hp) : join (join f g) h = join f (join g h) := by
  funext b
  unfold join
  cases f b <;> rfl

theorem disj_join {f g h : Hp} : Disj (join f g) h ↔ Disj f h ∧ Disj g h := by
  constructor
  · intro d
    constructor <;> intro b <;> rcases d b with e | e
    · exact .inl (join_none.1 e).1
    · exact .inr e
    · exact .inl (join_none.1 e).2
    · exact .inr e
  · rintro ⟨d1, d2⟩ b
    rcases d1 b with e | e
    · rcases d2 b with e' | e'
      · exact .inl (join_none.2 ⟨e, e'⟩)
      · exact .inr e'
    · exact .inr e

def sep (A B : SP) : SP := fun h => ∃ f g, Disj f g ∧ h = join f g ∧ A f ∧ B g

/-- Several parts, and whatever else there is. -/
def star : List SP → SP
  | [] => fun _ => True
  | A :: L => sep A (star L)

theorem sep_swap {A B : SP} {L : List SP} {h : Hp} (s : star (A :: B :: L) h) : star (B :: A :: L) h := by
  obtain ⟨f, g, d, rfl, ha, f', g', d', rfl, hb, hl⟩ := s
  obtain ⟨d1, d2⟩ := disj_join.1 d.symm
  refine ⟨f', join f g', (disj_join.2 ⟨d1.symm, d'.symm⟩).symm, ?_, hb, f, g', d2.symm, rfl, ha, hl⟩
  rw [← join_assoc, join_comm d1.symm, join_assoc]

theorem star_mono {A : SP} {L L' : List SP} (hl : ∀ h, star L h → star L' h) {h : Hp} (s : star (A :: L) h) : star (A :: L') h := by
  obtain ⟨f, g, d, e, ha, hb⟩ := s
  exact ⟨f, g, d, e, ha, hl g hb⟩

theorem star_head {A B : SP} {L : List SP} (hab : ∀ h, A h → B h) {h : Hp} (s : star (A :: L) h) : star (B :: L) h := by
  obtain ⟨f, g, d, e, ha, hb⟩ := s
  exact ⟨f, g, d, e, hab f ha, hb⟩

/-- The part at a place, ahead of the others. -/
def bringL : Nat → List SP → List SP
  | 0, L => L
  | _ + 1, [] => []
  | n + 1, A :: L => match bringL n L with
    | [] => [A]
    | B :: L' => B :: A :: L'

theorem star_bring : ∀ (n : Nat) (L : List SP) (h : Hp), star L h → star (bringL n L) h
  | 0, _, _, s => s
  | _ + 1, [], _, s => s
  | n + 1, A :: L, h, s => by
    have ih := star_bring n L
    simp only [bringL]
    have s' := star_mono ih s
    cases hb : bringL n L with
    | nil => rw [hb] at s'; exact s'
    | cons B L' => rw [hb] at s'; exact sep_swap s'

/-- These parts (by their places) in this order, ahead of the others. -/
def arrN : Nat → List Nat → List SP → List SP
  | n + 1, i :: is, L => match bringL i L with
    | [] => []
    | A :: L' => A :: arrN n (is.map fun j => match Nat.blt j i with | true => j | false => j - 1) L'
  | _, _, L => L

def arrL (is : List Nat) (L : List SP) : List SP := arrN is.length is L

theorem star_arrN : ∀ (n : Nat) (is : List Nat) (L : List SP) (h : Hp), star L h → star (arrN n is L) h
  | 0, [], _, _, s => s
  | 0, _ :: _, _, _, s => s
  | _ + 1, [], _, _, s => s
  | n + 1, i :: is, L, h, s => by
    have s' := star_bring i L h s
    simp only [arrN]
    cases hb : bringL i L with
    | nil => rw [hb] at s'; exact s'
    | cons A L' =>
      rw [hb] at s'
      exact star_mono (fun h s => star_arrN n _ L' h s) s'

theorem star_arr (is : List Nat) (L : List SP) (h : Hp) (s : star L h) : star (arrL is L) h := star_arrN _ is L h s

/-- The first part, put behind so many others. -/
def sinkL : Nat → List SP → List SP
  | 0, L => L
  | _ + 1, [] => []
  | _ + 1, [A] => [A]
  | n + 1, A :: B :: L => B :: sinkL n (A :: L)

theorem star_sink : ∀ (n : Nat) (L : List SP) (h : Hp), star L h → star (sinkL n L) h
  | 0, _, _, s => s
  | _ + 1, [], _, s => s
  | _ + 1, [_], _, s => s
  | n + 1, A :: B :: L, h, s => by
    simp only [sinkL]
    exact star_mono (star_sink n (A :: L)) (sep_swap s)

theorem star_drop {A : SP} {L : List SP} {h : Hp} (s : star (A :: L) h) (up : ∀ L' : List SP, ∀ h g, star L' g → star L' (join h g)) : star L h := by
  obtain ⟨f, g, _, rfl, _, hb⟩ := s
  exact up L f g hb

/-! ### Worlds -/

/-- What stands in blocks that are not of the first world. -/
def World.fresh (W w : World) : Hp := fun b => if b < W.heap.size then none else w.heap[b]?

/-- In 'w', behind 'W': nothing that was there has turned; what was made since has these parts. -/
structure Sat (W w : World) (L : List SP) : Prop where
  os : w.os = W.os
  tape : w.tape = W.tape
  output : w.output = W.output
  size : W.heap.size ≤ w.heap.size
  old : ∀ k, k < W.heap.size → w.heap[k]? = W.heap[k]?
  new : star L (World.fresh W w)

theorem Sat.start (W : World) : Sat W W [] := ⟨rfl, rfl, rfl, Nat.le_refl _, fun _ _ => rfl, trivial⟩

section
variable {W w : World} {A B : SP} {L L' : List SP}

theorem Sat.of_star (hs : Sat W w L) (h : ∀ h, star L h → star L' h) : Sat W w L' := ⟨hs.os, hs.tape, hs.output, hs.size, hs.old, h _ hs.new⟩
theorem Sat.bring (hs : Sat W w L) (n : Nat) : Sat W w (bringL n L) := hs.of_star (star_bring n L)
theorem Sat.arr (hs : Sat W w L) (is : List Nat) : Sat W w (arrL is L) := hs.of_star fun h s => star_arr is L h s
theorem Sat.sink (hs : Sat W w L) (n : Nat) : Sat W w (sinkL n L) := hs.of_star (star_sink n L)
theorem Sat.swap (hs : Sat W w (A :: B :: L)) : Sat W w (B :: A :: L) := hs.of_star fun _ => sep_swap
theorem Sat.head (hs : Sat W w (A :: L)) (h : ∀ h, A h → B h) : Sat W w (B :: L) := hs.of_star fun _ => star_head h

/-- A part that is there 'somehow'. -/
def ex {α : Type} (A : α → SP) : SP := fun h => ∃ x, A x h
/-- A fact. -/
def fact (p : Prop) : SP := fun _ => p
/-- Several parts as one. -/
def all (L : List SP) : SP := star L
def emp : SP := fun _ => True

theorem Sat.open_ex {α : Type} {A : α → SP} (hs : Sat W w (ex A :: L)) : ∃ x, Sat W w (A x :: L) := by
  obtain ⟨f, g, d, e, ⟨x, hx⟩, hb⟩ := hs.new
  exact ⟨x, hs.os, hs.tape, hs.output, hs.size, hs.old, f, g, d, e, hx, hb⟩

theorem Sat.shut_ex {α : Type} {A : α → SP} (x : α) (hs : Sat W w (A x :: L)) : Sat W w (ex A :: L) := hs.head fun _ h => ⟨x, h⟩

theorem star_all : ∀ (As L : List SP) (h : Hp), star (all As :: L) h → star (As ++ L) h
  | [], L, h, s => by
    obtain ⟨f, g, d, e, _, hb⟩ := s
    -- what the empty part holds is let go
    have up : ∀ (L : List SP) (f g : Hp), Disj f g → star L g → star L (join f g) := by
      intro L
      induction L with
      | nil => intro f g _ _; trivial
      | cons A L ih =>
        intro f g d s
        obtain ⟨f', g', d', e', ha, hb⟩ := s
        subst e'
        obtain ⟨d1, d2⟩ := disj_join.1 d.symm
        refine ⟨f', join f g', (disj_join.2 ⟨d1.symm, d'.symm⟩).symm, ?_, ha, ih f g' d2.symm hb⟩
        rw [← join_assoc, join_comm d1.symm, join_assoc]
    rw [e]
    exact up L f g d hb
  | A :: As, L, h, s => by
    obtain ⟨f, g, d, e, ⟨f', g', d', e', ha, hb⟩, hl⟩ := s
    subst e e'
    obtain ⟨d1, d2⟩ := disj_join.1 d
    refine ⟨f', join g' g, (disj_join.2 ⟨d'.symm, d1.symm⟩).symm, join_assoc _ _ _, ha, star_all As L _ ⟨g', g, d2, rfl, hb, hl⟩⟩

theorem star_unall : ∀ (As L : List SP) (h : Hp), star (As ++ L) h → star (all As :: L) h
  | [], L, h, s => ⟨fun _ => none, h, fun _ => .inl rfl, rfl, trivial, s⟩
  | A :: As, L, h, s => by
    obtain ⟨f, g, d, e, ha, hb⟩ := s
    obtain ⟨f', g', d', e', ha', hb'⟩ := star_unall As L g hb
    subst e e'
    obtain ⟨d1, d2⟩ := disj_join.1 d.symm
    exact ⟨join f f', g', disj_join.2 ⟨d2.symm, d'⟩, (join_assoc _ _ _).symm, ⟨f, f', d1.symm, rfl, ha, ha'⟩, hb'⟩

theorem Sat.open_all {As : List SP} (hs : Sat W w (all As :: L)) : Sat W w (As ++ L) := hs.of_star fun h s => star_all As L h s
theorem Sat.shut_all {As : List SP} (hs : Sat W w (As ++ L)) : Sat W w (all As :: L) := hs.of_star fun h s => star_unall As L h s
theorem Sat.drop (hs : Sat W w (A :: L)) : Sat W w L :=
  (hs.head (B := all []) fun _ _ => trivial).open_all

theorem Sat.open_fact {p : Prop} (hs : Sat W w (fact p :: L)) : p ∧ Sat W w L := by
  obtain ⟨f, g, d, e, hp, hb⟩ := hs.new
  exact ⟨hp, hs.drop⟩
theorem Sat.shut_fact {p : Prop} (hp : p) (hs : Sat W w L) : Sat W w (fact p :: L) :=
  (Sat.shut_all (As := []) hs).head fun _ _ => hp

theorem Sat.add_emp (hs : Sat W w L) : Sat W w (emp :: L) := (Sat.shut_all (As := []) hs).head fun _ _ => trivial

/-! ### Blocks of cells -/

/-- The block 'b' holds just these cells, and may be written. -/
def pts (b : Nat) (cs : List Value) : SP := fun h => ∃ t lo hi, h b = some (.cells ⟨cs⟩ t (lo, hi)) ∧ ∀ o, o < cs.length → (decide (lo ≤ o) && decide (o < hi)) = false

theorem Sat.pts_heap {b : Nat} {cs : List Value} (hs : Sat W w (pts b cs :: L)) : ∃ t lo hi, w.heap[b]? = some (.cells ⟨cs⟩ t (lo, hi)) ∧ (∀ o, o < cs.length → (decide (lo ≤ o) && decide (o < hi)) = false) ∧ W.heap.size ≤ b := by
  obtain ⟨f, g, d, e, ⟨t, lo, hi, h1, h2⟩, hb⟩ := hs.new
  have : World.fresh W w b = some (.cells ⟨cs⟩ t (lo, hi)) := by rw [e]; unfold join; rw [h1]
  unfold World.fresh at this
  split at this
  · cases this
  · exact ⟨t, lo, hi, this, h2, by omega⟩

theorem Sat.cell {b o : Nat} {cs : List Value} {v : Value} (hs : Sat W w (pts b cs :: L)) (h : cs[o]? = some v) : w.cell? ⟨b, o, none⟩ = some v := by
  obtain ⟨t, lo, hi, h1, _, _⟩ := hs.pts_heap
  simp [World.cell?, h1, h]

theorem Sat.free {b o : Nat} {cs : List Value} (hs : Sat W w (pts b cs :: L)) (h : o < cs.length) : w.frozen? ⟨b, o, none⟩ = false := by
  obtain ⟨t, lo, hi, h1, h2, _⟩ := hs.pts_heap
  simpa [World.frozen?, h1] using h2 o h

theorem Sat.lt {b : Nat} {cs : List Value} (hs : Sat W w (pts b cs :: L)) : b < w.heap.size := by
  obtain ⟨t, lo, hi, h1, _, _⟩ := hs.pts_heap
  exact (Array.getElem?_eq_some_iff.1 h1).1

/-- Two parts lie in blocks of their own. -/
theorem Sat.ne {b c : Nat} {cs ds : List Value} (hs : Sat W w (pts b cs :: pts c ds :: L)) : b ≠ c := by
  obtain ⟨f, g, d, e, ⟨t, lo, hi, h1, h2⟩, f', g', d', e', ⟨t', lo', hi', h1', h2'⟩, hb⟩ := hs.new
  rintro rfl
  subst e'
  have := d b
  unfold join at this
  rw [h1, h1'] at this
  rcases this with h | h <;> cases h

theorem fresh_set {b : Nat} {o' : Obj} (hb : W.heap.size ≤ b) (w' : World) (h1 : w'.heap[b]? = some o') (h2 : ∀ k, k ≠ b → w'.heap[k]? = w.heap[k]?) (f g : Hp) (d : Disj f g) (e : World.fresh W w = join f g) (o : Obj) (hf : f b = some o) :
    ∃ f', Disj f' g ∧ World.fresh W w' = join f' g ∧ f' b = some o' := by
  refine ⟨fun k => if k = b then some o' else f k, fun k => ?_, ?_, if_pos rfl⟩
  · by_cases hk : k = b
    · subst hk
      rcases d k with h | h
      · rw [hf] at h; cases h
      · exact .inr h
    · rcases d k with h | h
      · exact .inl (by simp only [if_neg hk]; exact h)
      · exact .inr h
  · funext k
    by_cases hk : k = b
    · subst hk
      simp [World.fresh, join, h1, Nat.not_lt.2 hb]
    · have := congrFun e k
      unfold World.fresh join at this ⊢
      simp only [h2 k hk, this, if_neg hk]

theorem setCell_heap (w : World) (b o : Nat) (v : Value) {cs : List Value} {t : TypeId} {fz : Nat × Nat} (h : w.heap[b]? = some (.cells ⟨cs⟩ t fz)) :
    (w.setCell ⟨b, o, none⟩ v).heap[b]? = some (.cells ⟨cs.set o v⟩ t fz) := by
  simp [World.setCell, Array.getElem?_modify, h]

theorem setCell_other (w : World) (b o : Nat) (v : Value) {k : Nat} (h : k ≠ b) : (w.setCell ⟨b, o, none⟩ v).heap[k]? = w.heap[k]? := by
  simp [World.setCell, Array.getElem?_modify, Ne.symm h]

theorem Sat.set {b o : Nat} {cs : List Value} (hs : Sat W w (pts b cs :: L)) (v : Value) : Sat W (w.setCell ⟨b, o, none⟩ v) (pts b (cs.set o v) :: L) := by
  obtain ⟨t, lo, hi, h1, h2, h3⟩ := hs.pts_heap
  obtain ⟨f, g, d, e, ⟨t', lo', hi', h1', _⟩, hb⟩ := hs.new
  obtain ⟨f', d', e', hf'⟩ := fresh_set (w := w) h3 (w.setCell ⟨b, o, none⟩ v) (setCell_heap w b o v h1) (fun k hk => setCell_other w b o v hk) f g d e _ h1'
  refine ⟨hs.os, hs.tape, hs.output, by simpa using hs.size, fun k hk => ?_, f', g, d', e', ⟨t, lo, hi, hf', by simpa using h2⟩, hb⟩
  rw [setCell_other w b o v (by omega)]
  exact hs.old k hk

theorem Sat.new_block {cs : List Value} {t : TypeId} (hs : Sat W w L) : Sat W (w.alloc (.cells ⟨cs⟩ t)) (pts w.heap.size cs :: L) := by
  have hold : ∀ k, k < w.heap.size → (w.alloc (.cells ⟨cs⟩ t)).heap[k]? = w.heap[k]? := fun k hk => by
    show (w.heap.push _)[k]? = _
    rw [Array.getElem?_push, if_neg (by omega)]
  have hnew : (w.alloc (.cells ⟨cs⟩ t)).heap[w.heap.size]? = some (.cells ⟨cs⟩ t (0, 0)) := by
    show (w.heap.push _)[w.heap.size]? = _
    simp
  refine ⟨hs.os, hs.tape, hs.output, ?_, fun k hk => ?_, fun k => if k = w.heap.size then some (.cells ⟨cs⟩ t (0, 0)) else none, World.fresh W w, ?_, ?_, ⟨t, 0, 0, if_pos rfl, by simp⟩, hs.new⟩
  · rw [World.size_alloc]; exact Nat.le_succ_of_le hs.size
  · rw [hold k (Nat.lt_of_lt_of_le hk hs.size)]; exact hs.old k hk
  · intro k
    by_cases hk : k = w.heap.size
    · right
      subst hk
      unfold World.fresh
      split
      · rfl
      · simp
    · exact .inl (if_neg hk)
  · funext k
    unfold World.fresh join
    by_cases hk : k = w.heap.size
    · subst hk
      simp only [if_true, hnew, if_neg (Nat.not_lt.2 hs.size)]
    · simp only [if_neg hk]
      split
      · rfl
      · by_cases hlt : k < w.heap.size
        · exact hold k hlt
        · have h1 : (w.alloc (.cells ⟨cs⟩ t)).heap[k]? = none := by rw [Array.getElem?_eq_none]; rw [World.size_alloc]; omega
          have h2 : w.heap[k]? = none := by rw [Array.getElem?_eq_none]; omega
          rw [h1, h2]

theorem Sat.drew (hs : Sat W w L) : Sat W w.drew L := ⟨hs.os, hs.tape, hs.output, hs.size, hs.old, hs.new⟩

end

/-- Nothing in memory has turned. -/
structure Quiet (w w' : World) : Prop where
  heap : w'.heap = w.heap
  os : w'.os = w.os
  tape : w'.tape = w.tape
  output : w'.output = w.output

theorem Quiet.refl (w : World) : Quiet w w := ⟨rfl, rfl, rfl, rfl⟩
theorem Quiet.trans {a b c : World} (h : Quiet a b) (k : Quiet b c) : Quiet a c := ⟨k.heap.trans h.heap, k.os.trans h.os, k.tape.trans h.tape, k.output.trans h.output⟩
theorem Quiet.drew {a b : World} (h : Quiet a b) : Quiet a b.drew := ⟨h.heap, h.os, h.tape, h.output⟩
theorem Quiet.cell {w w' : World} (h : Quiet w w') (a : Addr) : w'.cell? a = w.cell? a := by unfold World.cell?; rw [h.heap]

section
variable {W w : World} {A B : SP} {L L' : List SP}

theorem Sat.quiet {w' : World} (hs : Sat W w L) (h : Quiet w w') : Sat W w' L := by
  refine ⟨h.os.trans hs.os, h.tape.trans hs.tape, h.output.trans hs.output, by rw [h.heap]; exact hs.size, fun k hk => by rw [h.heap]; exact hs.old k hk, ?_⟩
  have : World.fresh W w' = World.fresh W w := by funext b; unfold World.fresh; rw [h.heap]
  rw [this]; exact hs.new

/-- A cell that was there in the first world reads as it did. -/
theorem Sat.old_cell {a : Addr} {v : Value} (hs : Sat W w L) (h : W.cell? a = some v) : w.cell? a = some v := by
  have hlt : a.block < W.heap.size := by
    unfold World.cell? at h
    split at h
    · rename_i hb; exact (Array.getElem?_eq_some_iff.1 hb).1
    · cases h
  unfold World.cell? at h ⊢
  rw [hs.old a.block hlt]
  exact h
end

/-! ### The words' rules -/

section
variable {P : Program} {W w : World} {L : List SP}

/-- A cell of a list, read by its kind. -/
def readL (l : Leaf) (cs : List Value) (o : Nat) : Option l.T :=
  match cs[o]? with
  | some v => l.un v
  | none => none

theorem readL_mk {l : Leaf} {cs : List Value} {o : Nat} {x : l.T} (h : readL l cs o = some x) : cs[o]? = some (l.mk x) := by
  unfold readL at h
  split at h
  · rename_i v hv
    rw [hv, Leaf.mk_un l v x h]
  · cases h

theorem xnil {a : Addr} {K : Addr → Prop} (h : K a) : XNil (some a) K := h

theorem xload {l : Leaf} {a : Addr} {K : l.T → Prop} {b : Nat} {cs : List Value} (hs : Sat W w (pts b cs :: L)) (o : Nat) (ha : a = ⟨b, o, none⟩) {x : l.T} (hx : readL l cs o = some x) (hk : K x) : XLoad l a w K :=
  ⟨x, by rw [ha]; exact hs.cell (readL_mk hx), hk⟩

theorem xload_at {l : Leaf} {a : Addr} {K : l.T → Prop} {x : l.T} (h : w.cell? a = some (l.mk x)) (hk : K x) : XLoad l a w K := ⟨x, h, hk⟩

theorem xstore {a : Addr} {v : Value} {K : World → Prop} {b : Nat} {cs : List Value} (hs : Sat W w (pts b cs :: L)) (o : Nat) (ha : a = ⟨b, o, none⟩) (ho : o < cs.length)
    (hk : ∀ w', Sat W w' (pts b (cs.set o v) :: L) → K w') : XStore a v w K := by
  subst ha
  refine ⟨?_, hs.free ho, hk _ (hs.set v)⟩
  rw [hs.cell (List.getElem?_eq_getElem ho)]
  rfl

theorem xnew {t : TypeId} {cs : List Value} {K : Addr → World → Prop} (hs : Sat W w L) (hk : ∀ b w', Sat W w' (pts b cs :: L) → K ⟨b, 0, none⟩ w') : XNew t cs w K := hk _ _ hs.new_block

theorem Addr.add_mk (b o n : Nat) : Addr.add ⟨b, o, none⟩ n = ⟨b, o + n, none⟩ := by
  unfold Addr.add
  split
  · rename_i h; subst h; rfl
  · rfl

/-- What a call yields. -/
def Ret (P : Program) (f : FuncId) (args : List Value) (w : World) (Q : Value → World → Prop) : Prop :=
  Calls P f ⟨args⟩ w fun e w' => ∃ v, e = .returned v ∧ Q v w'

theorem Ret.mono {f : FuncId} {args : List Value} {Q Q' : Value → World → Prop} (h : Ret P f args w Q) (hq : ∀ v w', Q v w' → Q' v w') : Ret P f args w Q' :=
  Calls.mono h fun _ _ ⟨v, e, q⟩ => ⟨v, e, hq v _ q⟩

theorem xcall {f : FuncId} {args : List Value} {t : Ty} {K : t.T → World → Prop} {Q : Value → World → Prop} (h : Ret P f args w Q) (hk : ∀ v w', Q v w' → ∃ x, v = t.mk x ∧ K x w') : XCall P f args t w K :=
  Calls.mono h fun _ w' ⟨v, e, q⟩ => let ⟨x, hv, k⟩ := hk v w' q; ⟨x, by rw [e, hv], k⟩

theorem xcalls {f : FuncId} {args : List Value} {ts : List Ty} {K : HT ts → World → Prop} {Q : Value → World → Prop} (h : Ret P f args w Q) (hk : ∀ v w', Q v w' → ∃ x, v = .tuple ⟨HT.vals ts x⟩ ∧ K x w') : XCalls P f args ts w K :=
  Calls.mono h fun _ w' ⟨v, e, q⟩ => let ⟨x, hv, k⟩ := hk v w' q; ⟨x, by rw [e, hv], k⟩

theorem XIf.yes {b : Bool} {A B : Prop} (h : b = true) (a : A) : XIf b A B := by subst h; exact a
theorem XIf.no {b : Bool} {A B : Prop} (h : b = false) (x : B) : XIf b A B := by subst h; exact x

/-- A loop: what holds at each round's head, and what falls. -/
theorem xloop {α : Type} {body : (α → World → Prop) → α → World → Prop} (I : α → World → Prop) (μ : α → Nat) {s : α} (h0 : I s w)
    (hr : ∀ next s w, I s w → (∀ s' w', I s' w' → μ s' < μ s → next s' w') → body next s w) : XLoop body s w := by
  have key : ∀ n s w, μ s < n → I s w → iterL body n s w := by
    intro n
    induction n with
    | zero => intro s w h _; omega
    | succ n ih =>
      intro s w h hi
      exact hr _ s w hi fun s' w' hi' hlt => ih s' w' (by omega) hi'
  exact ⟨μ s + 1, key _ s w (Nat.lt_succ_self _) h0⟩

theorem xlet {α : Type} {v : α} (v' : α) {K : α → Prop} (h : v = v') (hk : K v') : XLet v K := by subst h; exact hk
theorem xlet0 {α : Type} {v : α} {K : α → Prop} (hk : K v) : XLet v K := hk

theorem xjoin0 {α : Type} {rest : α → World → Prop} {body : (α → World → Prop) → Prop} (h : body rest) : XJoin rest body := h

/-- Ways that meet again: what holds there. -/
theorem xjoin {α : Type} {rest : α → World → Prop} {body : (α → World → Prop) → Prop} (Q : α → World → Prop) (hb : ∀ J, (∀ s w, Q s w → J s w) → body J) (hr : ∀ s w, Q s w → rest s w) : XJoin rest body :=
  hb rest hr

end
end Go.X

/-! Slices that own their blocks: what append, copy, make and the like do to them. -/
namespace Go.X

section
variable {P : Program} {W w : World} {L : List SP}

/-- A slice that has its block for itself: 's.len' elements of 'sz' cells each: the cells 'xs'. -/
def own (sz : Nat) (s : Sl) (xs : List Value) : SP := fun h =>
  (s.a = none ∧ s.len = 0 ∧ s.cap = 0 ∧ xs = []) ∨
  ∃ b rest, s.a = some ⟨b, 0, none⟩ ∧ xs.length = s.len * sz ∧ (xs ++ rest).length = s.cap * sz ∧ s.len ≤ s.cap ∧ pts b (xs ++ rest) h

theorem Sat.open_own {sz : Nat} {s : Sl} {xs : List Value} (hs : Sat W w (own sz s xs :: L)) :
    (s.a = none ∧ s.len = 0 ∧ s.cap = 0 ∧ xs = [] ∧ Sat W w L) ∨
    ∃ b rest, s.a = some ⟨b, 0, none⟩ ∧ xs.length = s.len * sz ∧ (xs ++ rest).length = s.cap * sz ∧ s.len ≤ s.cap ∧ Sat W w (pts b (xs ++ rest) :: L) := by
  obtain ⟨f, g, d, e, h, hb⟩ := hs.new
  rcases h with ⟨h1, h2, h3, h4⟩ | ⟨b, rest, h1, h2, h3, h4, h5⟩
  · exact .inl ⟨h1, h2, h3, h4, hs.drop⟩
  · exact .inr ⟨b, rest, h1, h2, h3, h4, hs.os, hs.tape, hs.output, hs.size, hs.old, f, g, d, e, h5, hb⟩

theorem Sat.shut_own {sz : Nat} {s : Sl} {xs : List Value} {b : Nat} {rest : List Value} (ha : s.a = some ⟨b, 0, none⟩) (hl : xs.length = s.len * sz) (hc : (xs ++ rest).length = s.cap * sz) (hlc : s.len ≤ s.cap)
    (hs : Sat W w (pts b (xs ++ rest) :: L)) : Sat W w (own sz s xs :: L) :=
  hs.head fun _ h => .inr ⟨b, rest, ha, hl, hc, hlc, h⟩

theorem Sat.own_nil {sz : Nat} (hs : Sat W w L) : Sat W w (own sz ⟨none, 0, 0⟩ [] :: L) := hs.add_emp.head fun _ _ => .inl ⟨rfl, rfl, rfl, rfl⟩

theorem Sat.own_len {sz : Nat} {s : Sl} {xs : List Value} (hs : Sat W w (own sz s xs :: L)) : xs.length = s.len * sz := by
  rcases hs.open_own with ⟨_, h, _, rfl, _⟩ | ⟨_, _, _, h, _⟩
  · rw [h, Nat.zero_mul]; rfl
  · exact h

theorem Sat.own_cells {sz : Nat} {s : Sl} {xs : List Value} (hs : Sat W w (own sz s xs :: L)) {a : Addr} (ha : s.a = some a) :
    ∃ b, a = ⟨b, 0, none⟩ ∧ ∀ j v, xs[j]? = some v → w.cell? ⟨b, j, none⟩ = some v := by
  rcases hs.open_own with ⟨h, _⟩ | ⟨b, rest, h, _, _, _, h'⟩
  · rw [h] at ha; cases ha
  · rw [h] at ha; cases ha
    refine ⟨b, rfl, fun j v hj => h'.cell ?_⟩
    rw [List.getElem?_append_left (List.getElem?_eq_some_iff.1 hj).1]
    exact hj

theorem Sat.own_some {sz : Nat} {s : Sl} {xs : List Value} (hs : Sat W w (own sz s xs :: L)) (h : 0 < s.len) : ∃ b, s.a = some ⟨b, 0, none⟩ ∧ ∀ j v, xs[j]? = some v → w.cell? ⟨b, j, none⟩ = some v := by
  rcases hs.open_own with ⟨_, h0, _⟩ | ⟨b, rest, ha, _⟩
  · omega
  · obtain ⟨b', hb, hc⟩ := hs.own_cells ha
    exact ⟨b', by rw [ha, hb], hc⟩

/-! ### Elements of one cell -/

/-- Reading an element. -/
theorem xelem {l : Leaf} {s : Sl} {xs : List Value} {i : Int} {n : Nat} {K : Addr → l.T → Prop} (hs : Sat W w (own 1 s xs :: L)) (k : Nat) (hi : i = k) {x : l.T} (hx : readL l xs k = some x) (hn : n = k) (hk : ∀ a, K a x) :
    XNil s.a fun a => ((0 : Int) ≤ i ∧ i < ((s.len : Nat) : Int)) ∧ XLoad l (Addr.add a n) w (K a) := by
  have hx' := readL_mk hx
  have hlt := (List.getElem?_eq_some_iff.1 hx').1
  have hlen := hs.own_len
  obtain ⟨b, hb, hc⟩ := hs.own_some (by omega)
  rw [hb]
  refine ⟨by omega, x, ?_, hk _⟩
  rw [Addr.add_mk, Nat.zero_add, hn]
  exact hc k _ hx'

theorem set_append_left' {α : Type} (xs ys : List α) (k : Nat) (v : α) (h : k < xs.length) : (xs ++ ys).set k v = xs.set k v ++ ys := by
  rw [List.set_append_left k v h]

/-- Writing an element. -/
theorem xput {v : Value} {s : Sl} {xs : List Value} {i : Int} {n : Nat} {K : Addr → World → Prop} (hs : Sat W w (own 1 s xs :: L)) (k : Nat) (hi : i = k) (hlt : k < s.len) (hn : n = k)
    (hk : ∀ a w', Sat W w' (own 1 s (xs.set k v) :: L) → K a w') : XNil s.a fun a => ((0 : Int) ≤ i ∧ i < ((s.len : Nat) : Int)) ∧ XStore (Addr.add a n) v w (K a) := by
  rcases hs.open_own with ⟨_, h0, _⟩ | ⟨b, rest, ha, hl, hc, hlc, hs'⟩
  · omega
  · rw [ha]
    refine ⟨by omega, xstore hs' k (by rw [Addr.add_mk, Nat.zero_add, hn]) (by rw [List.length_append]; omega) fun w' hw => hk _ w' ?_⟩
    rw [set_append_left' xs rest k v (by omega)] at hw
    exact Sat.shut_own ha (by rw [List.length_set]; exact hl) (by rw [List.length_append, List.length_set, ← List.length_append]; exact hc) hlc hw

/-! ### Rows of cells -/

def splice (cs : List Value) (k : Nat) (vs : List Value) : List Value := cs.take k ++ vs ++ cs.drop (k + vs.length)

theorem splice_nil (cs : List Value) (k : Nat) : splice cs k [] = cs := by simp [splice]

theorem splice_length {cs vs : List Value} {k : Nat} (h : k + vs.length ≤ cs.length) : (splice cs k vs).length = cs.length := by
  simp [splice]; omega

theorem splice_cons (cs vs : List Value) (k : Nat) (v : Value) (h : k < cs.length) : splice cs k (v :: vs) = splice (cs.set k v) (k + 1) vs := by
  unfold splice
  have h1 : (cs.set k v).take (k + 1) = cs.take k ++ [v] := by
    rw [List.take_succ_eq_append_getElem (by simpa using h), List.take_set_of_le (Nat.le_refl _), List.getElem_set_self]
  rw [h1, List.drop_set_of_lt (by omega)]
  simp only [List.length_cons, List.append_assoc, List.singleton_append]
  rw [show k + (vs.length + 1) = k + 1 + vs.length by omega]

theorem xstores {b o : Nat} {K : World → Prop} : ∀ (vs : List Value) (i : Nat) (w : World) (cs : List Value), Sat W w (pts b cs :: L) → o + i + vs.length ≤ cs.length →
    (∀ w', Sat W w' (pts b (splice cs (o + i) vs) :: L) → K w') → XStores ⟨b, o, none⟩ i vs w K
  | [], i, w, cs, hs, _, hk => hk w (by rw [splice_nil]; exact hs)
  | v :: vs, i, w, cs, hs, hl, hk => by
    simp only [List.length_cons] at hl
    refine xstore hs (o + i) (Addr.add_mk _ _ _) (by omega) fun w' hw => ?_
    refine xstores vs (i + 1) w' _ hw (by rw [List.length_set]; omega) fun w'' hw' => hk w'' ?_
    rw [splice_cons cs vs (o + i) v (by omega)]
    exact hw'

def allOneL (vs : List Value) : Prop := allOne vs = true

/-- The cells that a slice of that many elements has. -/
def Reads (w : World) (s : Sl) (vs : List Value) : Prop := ∀ a, s.a = some a → ∀ j v, vs[j]? = some v → w.cell? (a.add j) = some v

theorem reads_own {sz : Nat} {s : Sl} {xs : List Value} (hs : Sat W w (own sz s xs :: L)) : Reads w s xs := by
  intro a ha j v hj
  obtain ⟨b, rfl, hc⟩ := hs.own_cells ha
  rw [Addr.add_mk, Nat.zero_add]
  exact hc j v hj

theorem reads_pts {b n c : Nat} {cs : List Value} (hs : Sat W w (pts b cs :: L)) : Reads w ⟨some ⟨b, 0, none⟩, n, c⟩ cs := by
  intro a ha j v hj
  cases ha
  rw [Addr.add_mk, Nat.zero_add]
  exact hs.cell hj

theorem run_first {sz n : Nat} {s : Sl} {vs : List Value} (hr : Reads w s vs) (hl : vs.length = n * sz) (h0 : s.a = none → vs = []) (len cap : Nat) :
    (Builtin.firstCells sz n (.slice s.a len cap)).run P w = .ok ⟨vs⟩ w := by
  cases ha : s.a with
  | none => rw [h0 ha]; simp [Builtin.firstCells]
  | some a =>
    have := run_loadCells_list (P := P) w a vs (hr a ha)
    simp only [Builtin.firstCells, ← hl]
    rw [this]

/-- The closed facts that an append asks of the types. -/
def okApp (P : Program) (t u : TypeId) (sz : Nat) : Bool :=
  match under P t, under P u with
  | some (.slice e), some (.slice _) => match ti P e with
    | some i => Nat.beq i.size sz && Nat.ble i.bytes 128 && (match i.zero with
      | some z => Nat.beq z.cells.size sz
      | none => false)
    | none => false
  | _, _ => false

theorem okApp_spec {t u : TypeId} {sz : Nat} (h : okApp P t u sz = true) : ∃ e e' i z, P.underlying t = some (.slice e) ∧ P.underlying u = some (.slice e') ∧ P.info? e = some i ∧ i.size = sz ∧ i.bytes ≤ 128 ∧ i.zero = some z ∧ z.cells.size = sz := by
  unfold okApp at h
  split at h
  · rename_i e e' h1 h2
    split at h
    · rename_i i hi
      simp only [Bool.and_eq_true] at h
      obtain ⟨⟨h3, h4⟩, h5⟩ := h
      split at h5
      · rename_i z hz
        exact ⟨e, e', i, z, under_eq h1, under_eq h2, ti_info hi, Nat.eq_of_beq_eq_true h3, Nat.le_of_ble_eq_true h4, hz, Nat.eq_of_beq_eq_true h5⟩
      · cases h5
    · cases h
  · cases h

theorem run_size' {t : TypeId} {i : TypeInfo} (h : P.info? t = some i) (w : World) : (sizeOf t).run P w = .ok i.size w := by
  simp [sizeOf, typeInfo, h]

theorem run_info' {t : TypeId} {i : TypeInfo} (h : P.info? t = some i) (w : World) : (typeInfo t).run P w = .ok i w := by
  simp [typeInfo, h]

theorem run_zero' {t : TypeId} {i : TypeInfo} {z : Value} (h : P.info? t = some i) (hz : i.zero = some z) (w : World) : (zeroValue t).run P w = .ok z w := by
  simp [zeroValue, typeInfo, h, hz]

/-- Where an append grows: a new block. -/
theorem run_append_new {t u ty e e' : TypeId} {i : TypeInfo} {z : Value} (ht : P.underlying t = some (.slice e)) (hu : P.underlying u = some (.slice e')) (hi : P.info? e = some i) (hz : i.zero = some z) (hb : i.bytes ≤ 128)
    {s x : Sl} {olds news : List Value} (hro : Reads w s olds) (hrn : Reads w x news) (hlo : olds.length = s.len * i.size) (hln : news.length = x.len * i.size) (ho0 : s.a = none → olds = []) (hn0 : x.a = none → news = [])
    (hg : s.cap < s.len + x.len) (hsz : s.len + x.len ≤ 2 ^ 40) :
    (Builtin.append_ #[t, u] ty ⟨[.slice s.a s.len s.cap, .slice x.a x.len x.cap]⟩).run P w =
      .ok (.slice (some ⟨w.heap.size, 0, none⟩) (s.len + x.len) (grownCap w (s.len + x.len) s.cap e))
        (w.drew.alloc (.cells ⟨olds ++ news ++ (Builtin.zeroCells z.cells (grownCap w (s.len + x.len) s.cap e - (s.len + x.len))).toList⟩ e)) := by
  have hn : ¬ (s.len + x.len ≤ s.cap) := by omega
  have h63' : ¬ (9223372036854775807 < ((s.len : Int) + (x.len : Int))) := by omega
  have hfit : Builtin.nextslicecap (s.len + x.len) s.cap * i.bytes ≤ 281474976710656 := growslice_fits hg (Nat.le_trans (Nat.mul_le_mul hsz hb) (by decide))
  have h48' : ¬ (281474976710656 < Builtin.nextslicecap (s.len + x.len) s.cap * i.bytes) := by omega
  have hfo := run_first (P := P) (w := w.drew) (sz := i.size) (n := s.len) (s := s) (vs := olds) hro hlo ho0 s.len s.cap
  have hfn := run_first (P := P) (w := w.drew) (sz := i.size) (n := x.len) (s := x) (vs := news) hrn hln hn0 x.len x.cap
  simp [Builtin.append_, run_underlying ht, run_underlying hu, run_size' hi, run_info' hi, run_zero' hi hz, Builtin.lenOf, hn, h63', h48', Question.forced, hfo, hfn, newRow, grownCap]
  congr 2
  apply Array.ext'
  simp

theorem zeroCells_length (z : Array Value) (n : Nat) : (Builtin.zeroCells z n).toList.length = n * z.size := by simp [Builtin.zeroCells]

theorem oneCell_of_allOne : ∀ {vs : List Value}, allOne vs = true → ∀ v ∈ vs, oneCell v = true
  | u :: us, h, v, hv => by
    simp only [allOne] at h
    split at h
    · rename_i hu
      rcases List.mem_cons.1 hv with e | e
      · rw [e]; exact hu
      · exact oneCell_of_allOne h v e
    · cases h

/-- **append** to a slice that has its block for itself. -/
theorem xappend {t u ty : TypeId} {sz : Nat} {s x : Sl} {xs news : List Value} {K : Sl → World → Prop} (hok : okApp P t u sz = true) (hs : Sat W w (own sz s xs :: L))
    (hrn : Reads w x news) (hln : news.length = x.len * sz) (hn0 : x.a = none → news = []) (h1 : allOne news = true) (hsz : s.len + x.len ≤ 2 ^ 40)
    (hk : ∀ s' w', Sat W w' (own sz s' (xs ++ news) :: L) → s'.len = s.len + x.len → K s' w') :
    XDo P (Builtin.append_ #[t, u] ty ⟨[.slice s.a s.len s.cap, .slice x.a x.len x.cap]⟩) (.leaf .slice) w K := by
  obtain ⟨e, e', i, z, ht, hu, hi, rfl, hb, hz, hzs⟩ := okApp_spec hok
  have grow : s.cap < s.len + x.len → (s.a = none → xs = []) → Reads w s xs → xs.length = s.len * i.size → XDo P (Builtin.append_ #[t, u] ty ⟨[.slice s.a s.len s.cap, .slice x.a x.len x.cap]⟩) (.leaf .slice) w K := by
    intro hg ho0 hro hlo
    have hr := run_append_new (P := P) (ty := ty) ht hu hi hz hb hro hrn hlo hln ho0 hn0 hg hsz
    refine ⟨⟨some ⟨w.heap.size, 0, none⟩, s.len + x.len, grownCap w (s.len + x.len) s.cap e⟩, _, hr, hk _ _ ?_ rfl⟩
    have hnew := (hs.drop.drew).new_block (cs := xs ++ news ++ (Builtin.zeroCells z.cells (grownCap w (s.len + x.len) s.cap e - (s.len + x.len))).toList) (t := e)
    have hcap := grownCap_ge w (s.len + x.len) s.cap e
    refine Sat.shut_own rfl ?_ ?_ hcap hnew
    · rw [List.length_append, hlo, hln, Nat.add_mul]
    · simp only [List.length_append, zeroCells_length, hzs, hlo, hln, ← Nat.add_mul]
      congr 1
      omega
  rcases hs.open_own with ⟨ha, hl, hc, hx, hs'⟩ | ⟨b, rest, ha, hl, hc, hlc, hs'⟩
  · by_cases h0 : x.len = 0
    · -- nothing to nothing
      have hn : news = [] := List.eq_nil_of_length_eq_zero (by rw [hln, h0, Nat.zero_mul])
      have hf := run_first (P := P) (w := w) (sz := i.size) (n := x.len) (s := x) (vs := news) hrn hln hn0 x.len x.cap
      rw [h0] at hf
      have hr : (Builtin.append_ #[t, u] ty ⟨[.slice s.a s.len s.cap, .slice x.a x.len x.cap]⟩).run P w = .ok (.slice none 0 0) w := by
        rw [ha, hl, hc, h0]
        simp [Builtin.append_, run_underlying ht, run_underlying hu, run_size' hi, run_info' hi, Builtin.lenOf, hf]
      refine ⟨⟨none, 0, 0⟩, w, hr, hk _ _ ?_ (by simp [hl, h0])⟩
      rw [hx, hn]
      exact hs'.own_nil
    · exact grow (by omega) (fun _ => hx) (fun a h => by rw [ha] at h; cases h) (by rw [hx, hl, Nat.zero_mul]; rfl)
  · by_cases hroom : s.len + x.len ≤ s.cap
    · have hf := run_first (P := P) (w := w) (sz := i.size) (n := x.len) (s := x) (vs := news) hrn hln hn0 x.len x.cap
      have hfit : s.len * i.size + news.length ≤ (xs ++ rest).length := by
        rw [hc, hln, ← Nat.add_mul]; exact Nat.mul_le_mul_right _ hroom
      have hst := xstores (W := W) (L := L) (b := b) (o := s.len * i.size) (K := fun w' => Sat W w' (pts b (splice (xs ++ rest) (s.len * i.size) news) :: L)) news 0 w _ hs' (by simpa using hfit) (fun w' h => by simpa using h)
      obtain ⟨w', hr, hw⟩ := run_stores (P := P) news 0 w h1 hst
      have hr' : (Builtin.append_ #[t, u] ty ⟨[.slice s.a s.len s.cap, .slice x.a x.len x.cap]⟩).run P w = .ok (.slice (some ⟨b, 0, none⟩) (s.len + x.len) s.cap) w' := by
        rw [ha]
        simp [Builtin.append_, run_underlying ht, run_underlying hu, run_size' hi, Builtin.lenOf, hroom, hf, Addr.add_mk, hr]
      refine ⟨⟨some ⟨b, 0, none⟩, s.len + x.len, s.cap⟩, w', hr', hk _ _ ?_ rfl⟩
      have hsp : splice (xs ++ rest) (s.len * i.size) news = (xs ++ news) ++ rest.drop news.length := by
        unfold splice
        rw [← hl, List.take_left, List.drop_append, List.drop_eq_nil_of_le (by omega), List.nil_append]
        congr 2
        omega
      rw [hsp] at hw
      refine Sat.shut_own rfl ?_ ?_ hroom hw
      · rw [List.length_append, hl, hln, Nat.add_mul]
      · rw [← hsp, splice_length hfit, hc]
    · exact grow (by omega) (fun h => by rw [ha] at h; cases h) (reads_own hs) hl

/-- **append** of one element. -/
theorem xappend1 {t u ty T : TypeId} {sz : Nat} {s : Sl} {xs cs : List Value} {K : Addr → Sl → World → Prop} (hok : okApp P t u sz = true) (hs : Sat W w (own sz s xs :: L)) (hl : cs.length = sz) (h1 : allOne cs = true) (hsz : s.len + 1 ≤ 2 ^ 40)
    (hk : ∀ a s' w', Sat W w' (own sz s' (xs ++ cs) :: L) → s'.len = s.len + 1 → K a s' w') :
    XNew T cs w fun a w1 => XDo P (Builtin.append_ #[t, u] ty ⟨[.slice s.a s.len s.cap, .slice (some a) 1 1]⟩) (.leaf .slice) w1 (K a) := by
  refine xnew hs fun b w1 hs1 => ?_
  refine xappend (x := ⟨some ⟨b, 0, none⟩, 1, 1⟩) hok hs1.swap (reads_pts hs1) (by rw [hl, Nat.one_mul]) (fun h => by cases h) h1 hsz fun s' w' hs' hl' => hk _ s' w' ?_ hl'
  exact hs'.swap.drop

end
end Go.X

/-! Functions of the model's own: how two texts stand to each other, and whether two slices overlap. -/
namespace Go.X
open Go.Proofs

section
variable {P : Program} {W w : World} {L : List SP}

theorem ext_run {f : FuncId} {fn : Func} {e : Array Value → Sem Value} {args : Array Value} (hf : P.funcs[f]? = some fn) (hb : fn.body.isNone = true) (hn : (fn.name == "runtime.NumGoroutine") = false)
    (h1 : (Extern.findNext fn).isNone = true) (h2 : Extern.find fn = some e) (w : World) : (extRun P f args).run P w = (e args).run P w := by
  have h1' : Extern.findNext fn = none := by cases h : Extern.findNext fn with
    | none => rfl
    | some x => rw [h] at h1; cases h1
  unfold extRun
  simp only [Sem.run_bind, callFunc, run_program, Result.andThen, hf, hn, hb, Bool.false_eq_true, if_false, if_true, run_mark, h1', h2, Sem.run_pure]
  cases (e args).run P w <;> rfl

/-- How two lists of bytes stand to each other. -/
def cmpL : List UInt8 → List UInt8 → Int
  | [], [] => 0
  | [], _ :: _ => -1
  | _ :: _, [] => 1
  | a :: x, b :: y => if a < b then -1 else if b < a then 1 else cmpL x y

def cmpS (a b : ByteArray) : Int := cmpL a.data.toList b.data.toList

theorem find_range_succ' (p : Nat → Bool) (n : Nat) : (List.range (n + 1)).find? p = if p 0 then some 0 else ((List.range n).find? fun i => p (i + 1)).map (· + 1) := by
  rw [List.range_succ_eq_map, List.find?_cons]
  cases p 0
  · simp only [Bool.false_eq_true, if_false, List.find?_map]; rfl
  · rfl

theorem u8_lt_irrefl (a : UInt8) : ¬ a < a := by
  rw [UInt8.lt_iff_toNat_lt]; omega

theorem u8_eq_of_not {a b : UInt8} (h1 : ¬ a < b) (h2 : ¬ b < a) : a = b := by
  rw [UInt8.lt_iff_toNat_lt] at *
  exact UInt8.toNat.inj (by omega)

theorem cmp_lists : ∀ (x y : List UInt8) (f : Nat → UInt8) (g : Nat → UInt8), (∀ i, i < x.length → f i = x.getD i 0) → (∀ i, i < y.length → g i = y.getD i 0) →
    (match (List.range (min x.length y.length)).find? fun i => f i != g i with
      | some i => if f i < g i then (-1 : Int) else 1
      | none => if x.length < y.length then -1 else if x.length > y.length then 1 else 0) = cmpL x y
  | [], [], f, g, _, _ => by simp [cmpL]
  | [], b :: y, f, g, _, _ => by simp [cmpL]
  | a :: x, [], f, g, _, _ => by simp [cmpL]
  | a :: x, b :: y, f, g, hf, hg => by
    have hf0 : f 0 = a := by have := hf 0 (by simp); simpa using this
    have hg0 : g 0 = b := by have := hg 0 (by simp); simpa using this
    have ih := cmp_lists x y (fun i => f (i + 1)) (fun i => g (i + 1)) (fun i hi => by have := hf (i + 1) (by simp; omega); simpa using this) (fun i hi => by have := hg (i + 1) (by simp; omega); simpa using this)
    have hmin : min (a :: x).length (b :: y).length = min x.length y.length + 1 := by simp only [List.length_cons]; omega
    rw [hmin, find_range_succ']
    simp only [hf0, hg0, cmpL]
    by_cases hab : a = b
    · subst hab
      simp only [bne_self_eq_false, Bool.false_eq_true, if_false, u8_lt_irrefl]
      rw [← ih]
      cases (List.range (min x.length y.length)).find? (fun i => f (i + 1) != g (i + 1)) with
      | some i => simp
      | none =>
        simp only [Option.map_none, List.length_cons]
        by_cases h1 : x.length < y.length
        · rw [if_pos h1, if_pos (by omega)]
        · rw [if_neg h1, if_neg (by omega)]
          by_cases h2 : x.length > y.length
          · rw [if_pos h2, if_pos (by omega)]
          · rw [if_neg h2, if_neg (by omega)]
    · have : (a != b) = true := by simpa using hab
      simp only [this, if_true]
      by_cases hlt : a < b
      · simp [hlt, hf0, hg0]
      · have : b < a := by
          rcases Nat.lt_trichotomy a.toNat b.toNat with h | h | h
          · exact absurd (UInt8.lt_iff_toNat_lt.2 h) hlt
          · exact absurd (UInt8.toNat.inj h) hab
          · exact UInt8.lt_iff_toNat_lt.2 h
        simp [hlt, this, hf0, hg0]

theorem cmp_eq (a b : ByteArray) : Extern.BytealgCompare.cmp a b = cmpS a b := by
  have h := cmp_lists a.data.toList b.data.toList (fun i => a[i]!) (fun i => b[i]!) (fun i hi => ?_) (fun i hi => ?_)
  · unfold Extern.BytealgCompare.cmp cmpS
    exact h
  · have hi' : i < a.size := by simpa using hi
    have hi'' : i < a.data.size := hi'
    rw [getElem!_pos a i hi', List.getD_eq_getElem?_getD, Array.getElem?_toList, Array.getElem?_eq_getElem hi'']
    rfl
  · have hi' : i < b.size := by simpa using hi
    have hi'' : i < b.data.size := hi'
    rw [getElem!_pos b i hi', List.getD_eq_getElem?_getD, Array.getElem?_toList, Array.getElem?_eq_getElem hi'']
    rfl

theorem run_compare (a b : ByteArray) (w : World) : (Extern.BytealgCompare.compare #[.string a, .string b]).run P w = .ok (.int .i64 (cmpS a b)) w := by
  have hc : Extern.BytealgCompare.compare #[.string a, .string b] = (do pure (goInt (Extern.BytealgCompare.cmp (← Extern.Bytes.bytesOf (.string a)) (← Extern.Bytes.bytesOf (.string b))))) := rfl
  rw [hc]
  simp only [Sem.run_bind]
  have h : ∀ s : ByteArray, (Extern.Bytes.bytesOf (.string s)).run P w = .ok s w := fun s => rfl
  simp only [h, Result.andThen, Sem.run_pure, cmp_eq]
  rfl

end

theorem cmpstring_run (a b : ByteArray) (w : World) : (extRun Tryz.prog F.internal_bytealg_abigen_runtime_cmpstring ⟨[.string a, .string b]⟩).run Tryz.prog w = .ok (.int .i64 (cmpS a b)) w := by
  rw [ext_run Fu.internal_bytealg_abigen_runtime_cmpstring (by kernel_rfl) (by kernel_rfl) (by kernel_rfl) (e := Extern.BytealgCompare.compare) (by kernel_rfl)]
  exact run_compare a b w

end Go.X

/-! A plain model of the device: its files by name, what waits, its counts. -/
namespace Go.X

structure DF where
  id : Int
  name : ByteArray
  last : List UInt8
  seen : List UInt8

/-- A piece that waits: of which file, at which byte, what. -/
structure DW where
  id : Int
  at_ : Nat
  text : List UInt8

structure DD where
  files : List DF
  wait : List DW
  most : Int
  fuse : Int
  off : Bool
  count : Int
  made : Int

def secs (n : Nat) : Nat := (n + 63) / 64
def DF.takes (f : DF) : Nat := secs (max f.seen.length f.last.length)
def takesAll : List DF → Nat
  | [] => 0
  | f :: fs => f.takes + takesAll fs
def DD.free (D : DD) : Int := D.most - takesAll D.files

def bcells (l : List UInt8) : List Value := l.map fun b => .int .u8 b.toNat
def wcells (p : DW) : List Value := [.int .i64 p.id, .int .i64 (p.at_ / 64 : Nat), .int .i64 (p.at_ % 64 : Nat), .string ⟨p.text.toArray⟩]
def ptr (p : Nat) : Value := .pointer (some ⟨p, 0, none⟩)

/-- A file in memory. -/
def FileP (x : Nat × DF) : SP := ex fun (g : Sl × Sl) => all [pts x.1 [.int .i64 x.2.id, .string x.2.name, .slice g.1.a g.1.len g.1.cap, .slice g.2.a g.2.len g.2.cap], own 1 g.1 (bcells x.2.last), own 1 g.2 (bcells x.2.seen)]

def FilesP (l : List (Nat × DF)) : SP := all (l.map FileP)

/-- The device in memory. -/
def DiskP (d : Nat) (D : DD) : SP := ex fun (g : List (Nat × DF) × Sl × Sl) => all [fact (g.1.map (·.2) = D.files),
  pts d [.slice g.2.1.a g.2.1.len g.2.1.cap, .slice g.2.2.a g.2.2.len g.2.2.cap, .int .i64 D.most, .int .i64 D.fuse, .bool D.off, .int .i64 D.count, .int .i64 D.made],
  own 1 g.2.1 (g.1.map fun x => ptr x.1), FilesP g.1, own 4 g.2.2 (D.wait.flatMap wcells)]

section
variable {W w : World} {L : List SP}

theorem DiskP.open {d : Nat} {D : DD} (hs : Sat W w (DiskP d D :: L)) : ∃ (l : List (Nat × DF)) (fs ws : Sl), l.map (·.2) = D.files ∧
    Sat W w (pts d [.slice fs.a fs.len fs.cap, .slice ws.a ws.len ws.cap, .int .i64 D.most, .int .i64 D.fuse, .bool D.off, .int .i64 D.count, .int .i64 D.made] ::
      own 1 fs (l.map fun x => ptr x.1) :: FilesP l :: own 4 ws (D.wait.flatMap wcells) :: L) := by
  obtain ⟨⟨l, fs, ws⟩, h⟩ := hs.open_ex
  obtain ⟨h1, h⟩ := h.open_all.open_fact
  exact ⟨l, fs, ws, h1, h⟩

theorem DiskP.shut {d : Nat} {D : DD} {l : List (Nat × DF)} {fs ws : Sl} (hl : l.map (·.2) = D.files)
    (hs : Sat W w (pts d [.slice fs.a fs.len fs.cap, .slice ws.a ws.len ws.cap, .int .i64 D.most, .int .i64 D.fuse, .bool D.off, .int .i64 D.count, .int .i64 D.made] ::
      own 1 fs (l.map fun x => ptr x.1) :: FilesP l :: own 4 ws (D.wait.flatMap wcells) :: L)) : Sat W w (DiskP d D :: L) :=
  Sat.shut_ex (l, fs, ws) (Sat.shut_all (As := [_, _, _, _, _]) (Sat.shut_fact hl hs))

theorem FileP.open {x : Nat × DF} (hs : Sat W w (FileP x :: L)) : ∃ ls ss : Sl,
    Sat W w (pts x.1 [.int .i64 x.2.id, .string x.2.name, .slice ls.a ls.len ls.cap, .slice ss.a ss.len ss.cap] :: own 1 ls (bcells x.2.last) :: own 1 ss (bcells x.2.seen) :: L) := by
  obtain ⟨⟨ls, ss⟩, h⟩ := hs.open_ex
  exact ⟨ls, ss, h.open_all⟩

theorem FileP.shut {p : Nat} {f : DF} {ls ss : Sl}
    (hs : Sat W w (pts p [.int .i64 f.id, .string f.name, .slice ls.a ls.len ls.cap, .slice ss.a ss.len ss.cap] :: own 1 ls (bcells f.last) :: own 1 ss (bcells f.seen) :: L)) : Sat W w (FileP (p, f) :: L) :=
  Sat.shut_ex (ls, ss) (Sat.shut_all (As := [_, _, _]) hs)

theorem star_perm {A : SP} : ∀ (l1 l2 L : List SP) (h : Hp), star (l1 ++ A :: l2 ++ L) h ↔ star (A :: (l1 ++ l2 ++ L)) h
  | [], _, _, _ => Iff.rfl
  | B :: l1, l2, L, h => by
    constructor
    · intro s
      exact sep_swap (star_mono (fun h s => (star_perm l1 l2 L h).1 s) s)
    · intro s
      exact star_mono (fun h s => (star_perm l1 l2 L h).2 s) (sep_swap s)

/-- One of the files, ahead of the others. -/
theorem FilesP.take {l1 l2 : List (Nat × DF)} {x : Nat × DF} (hs : Sat W w (FilesP (l1 ++ x :: l2) :: L)) : Sat W w (FileP x :: FilesP (l1 ++ l2) :: L) := by
  have h := hs.open_all
  simp only [List.map_append, List.map_cons] at h
  have h' := h.of_star fun h s => (star_perm (l1.map FileP) (l2.map FileP) L h).1 s
  rw [← List.map_append] at h'
  exact h'.of_star fun h s => star_mono (fun h s => star_unall _ _ h s) s

theorem FilesP.put {l1 l2 : List (Nat × DF)} {x : Nat × DF} (hs : Sat W w (FileP x :: FilesP (l1 ++ l2) :: L)) : Sat W w (FilesP (l1 ++ x :: l2) :: L) := by
  refine Sat.shut_all ?_
  simp only [List.map_append, List.map_cons]
  refine (hs.of_star fun h s => star_mono (fun h s => star_all _ _ h s) s).of_star fun h s => ?_
  rw [List.map_append] at s
  exact (star_perm (l1.map FileP) (l2.map FileP) L h).2 s

theorem split_at {α : Type} {l : List α} {k : Nat} (h : k < l.length) : ∃ l1 l2, l = l1 ++ l[k] :: l2 ∧ l1.length = k := by
  refine ⟨l.take k, l.drop (k + 1), ?_, by simp; omega⟩
  simp

end

theorem wi {n : Int} (h1 : -9223372036854775808 ≤ n) (h2 : n ≤ 9223372036854775807) : IntKind.wrap .i64 n = n := by
  unfold IntKind.wrap
  have hb : IntKind.bits .i64 = 64 := rfl
  have hs : IntKind.signed .i64 = true := rfl
  simp only [hb, hs, Bool.true_and, decide_eq_true_eq]
  by_cases h : n % 2 ^ 64 ≥ 2 ^ (64 - 1)
  · rw [if_pos h]; omega
  · rw [if_neg h]; omega

theorem wu {n : Int} (h1 : 0 ≤ n) (h2 : n ≤ 18446744073709551615) : IntKind.wrap .u64 n = n := by
  unfold IntKind.wrap
  have hb : IntKind.bits .u64 = 64 := rfl
  have hs : IntKind.signed .u64 = false := rfl
  simp only [hb, hs, Bool.false_and, Bool.false_eq_true, if_false]
  omega

end Go.X

/-! The device's small calls. -/
namespace Go.X
open Go.Proofs

section
variable {W w : World} {L : List SP} {d : Nat} {D : DD}

theorem ready_spec (hs : Sat W w (DiskP d D :: L)) : Ret Tryz.prog F.disk_Disk_ready [ptr d] w fun v w' => v = .int .i64 (if D.off then 14 else 0) ∧ Quiet w w' := by
  refine S.disk_Disk_ready_ok _ _ _ ?_
  refine XIf.no rfl (xnil ?_)
  obtain ⟨l, fs, ws, hl, h⟩ := DiskP.open hs
  refine xload h 4 rfl rfl ?_
  cases hoff : D.off
  · exact XIf.no rfl ⟨rfl, Quiet.refl w⟩
  · exact XIf.yes rfl ⟨rfl, Quiet.refl w⟩

theorem ready_none : Ret Tryz.prog F.disk_Disk_ready [.pointer none] w fun v w' => v = .int .i64 1 ∧ w' = w := by
  refine S.disk_Disk_ready_ok _ _ _ ?_
  exact XIf.yes rfl ⟨rfl, rfl⟩

theorem sectors_spec (n : Nat) (hn : n ≤ 2 ^ 60) : Ret Tryz.prog F.disk_sectors [.int .i64 n] w fun v w' => v = .int .i64 (secs n) ∧ w' = w := by
  refine S.disk_sectors_ok _ _ _ ?_
  refine ⟨by decide, ?_, rfl⟩
  have h1 : IntKind.wrap .i64 ((n : Int) + 64) = n + 64 := wi (by omega) (by omega)
  have h2 : IntKind.wrap .i64 ((n : Int) + 64 - 1) = n + 63 := by rw [wi (by omega) (by omega)]; omega
  have h3 : ((n : Int) + 63).tdiv 64 = ((n : Int) + 63) / 64 := Int.tdiv_eq_ediv_of_nonneg (by omega)
  rw [h1, h2, h3, wi (by omega) (by omega)]
  unfold secs
  congr 1

theorem New_no (n : Int) (h : n < 0 ∨ 32768 < n) : Ret Tryz.prog F.disk_New [.int .i64 n] w fun v w' => v = .tuple ⟨[.pointer none, .int .i64 1]⟩ ∧ w' = w := by
  refine S.disk_New_ok _ _ _ ?_
  refine xjoin0 ?_
  by_cases h0 : n < 0
  · exact XIf.yes (by simpa using h0) (XIf.yes rfl ⟨rfl, rfl⟩)
  · exact XIf.no (by simpa using h0) (XIf.yes (by simp; omega) ⟨rfl, rfl⟩)

def DD.empty (n : Int) : DD := { files := [], wait := [], most := n, fuse := -1, off := false, count := 0, made := 0 }

theorem New_yes (n : Int) (h0 : 0 ≤ n) (h1 : n ≤ 32768) (hs : Sat W w L) : Ret Tryz.prog F.disk_New [.int .i64 n] w fun v w' => ∃ d, v = .tuple ⟨[ptr d, .int .i64 0]⟩ ∧ Sat W w' (DiskP d (DD.empty n) :: L) := by
  refine S.disk_New_ok _ _ _ ?_
  refine xjoin0 ?_
  refine XIf.no (by simp; omega) (XIf.no (by simp; omega) (xnew hs fun b w' hw => ⟨b, rfl, ?_⟩))
  refine DiskP.shut (l := []) (fs := ⟨none, 0, 0⟩) (ws := ⟨none, 0, 0⟩) rfl ?_
  have h2 : Sat W w' (FilesP [] :: own 4 ⟨none, 0, 0⟩ [] :: pts b _ :: L) := Sat.shut_all (As := []) hw.own_nil
  exact (h2.own_nil.bring 3)


end
end Go.X

/-! Where a file stands among the others, by name. -/
namespace Go.X
open Go.Proofs

/-! ### The order of names -/

theorem u8_lt_trans {a b c : UInt8} (h1 : a < b) (h2 : b < c) : a < c := by
  rw [UInt8.lt_iff_toNat_lt] at *; omega

theorem u8_asymm {a b : UInt8} (h1 : a < b) : ¬ b < a := by
  rw [UInt8.lt_iff_toNat_lt] at *; omega

theorem cmpL_range : ∀ (x y : List UInt8), cmpL x y = -1 ∨ cmpL x y = 0 ∨ cmpL x y = 1
  | [], [] => .inr (.inl rfl)
  | [], _ :: _ => .inl rfl
  | _ :: _, [] => .inr (.inr rfl)
  | a :: x, b :: y => by
    unfold cmpL
    split
    · exact .inl rfl
    · split
      · exact .inr (.inr rfl)
      · exact cmpL_range x y

theorem cmpL_eq : ∀ {x y : List UInt8}, cmpL x y = 0 → x = y
  | [], [], _ => rfl
  | [], _ :: _, h => by simp [cmpL] at h
  | _ :: _, [], h => by simp [cmpL] at h
  | a :: x, b :: y, h => by
    unfold cmpL at h
    split at h
    · cases h
    · split at h
      · cases h
      · rename_i h1 h2
        rw [u8_eq_of_not h1 h2, cmpL_eq h]

theorem cmpL_refl : ∀ (x : List UInt8), cmpL x x = 0
  | [] => rfl
  | a :: x => by unfold cmpL; rw [if_neg (u8_lt_irrefl a), if_neg (u8_lt_irrefl a)]; exact cmpL_refl x

theorem cmpL_swap : ∀ (x y : List UInt8), cmpL y x = - cmpL x y
  | [], [] => rfl
  | [], _ :: _ => rfl
  | _ :: _, [] => rfl
  | a :: x, b :: y => by
    unfold cmpL
    by_cases h1 : a < b
    · rw [if_pos h1, if_neg (u8_asymm h1), if_pos h1]; rfl
    · by_cases h2 : b < a
      · rw [if_pos h2, if_neg h1, if_pos h2]
      · rw [if_neg h2, if_neg h1, if_neg h1, if_neg h2]; exact cmpL_swap x y

theorem cmpL_trans : ∀ {x y z : List UInt8}, cmpL x y < 0 → cmpL y z < 0 → cmpL x z < 0
  | [], [], [], h1, _ => h1
  | [], _ :: _, [], _, h2 => by simp [cmpL] at h2
  | [], _, _ :: _, _, _ => by simp [cmpL]
  | _ :: _, [], _, h1, _ => by simp [cmpL] at h1
  | _ :: _, _ :: _, [], _, h2 => by simp [cmpL] at h2
  | a :: x, b :: y, c :: z, h1, h2 => by
    unfold cmpL at h1 h2 ⊢
    by_cases hab : a < b
    · by_cases hbc : b < c
      · rw [if_pos (u8_lt_trans hab hbc)]; decide
      · rw [if_neg hbc] at h2
        by_cases hcb : c < b
        · rw [if_pos hcb] at h2; exact absurd h2 (by decide)
        · rw [← u8_eq_of_not hbc hcb, if_pos hab]; decide
    · rw [if_neg hab] at h1
      by_cases hba : b < a
      · rw [if_pos hba] at h1; exact absurd h1 (by decide)
      · rw [if_neg hba] at h1
        have e := u8_eq_of_not hab hba
        subst e
        by_cases hbc : a < c
        · rw [if_pos hbc]; decide
        · rw [if_neg hbc] at h2 ⊢
          by_cases hcb : c < a
          · rw [if_pos hcb] at h2; exact absurd h2 (by decide)
          · rw [if_neg hcb] at h2 ⊢
            exact cmpL_trans h1 h2

theorem bytes_ext {a b : ByteArray} (h : a.data.toList = b.data.toList) : a = b := by
  cases a; cases b; congr; exact Array.ext' h

theorem cmpS_eq {a b : ByteArray} (h : cmpS a b = 0) : a = b := bytes_ext (cmpL_eq h)
theorem cmpS_refl (a : ByteArray) : cmpS a a = 0 := cmpL_refl _
theorem cmpS_trans {a b c : ByteArray} (h1 : cmpS a b < 0) (h2 : cmpS b c < 0) : cmpS a c < 0 := cmpL_trans h1 h2
theorem cmpS_swap (a b : ByteArray) : cmpS b a = - cmpS a b := cmpL_swap _ _

/-- Files whose names rise. -/
def Rising : List DF → Prop
  | [] => True
  | f :: fs => (∀ g ∈ fs, cmpS f.name g.name < 0) ∧ Rising fs

def lessB (name : ByteArray) (f : DF) : Bool := decide (cmpS f.name name < 0)
/-- The files ahead of a name, and the others. -/
def ahead (name : ByteArray) (fs : List DF) : List DF := fs.takeWhile (lessB name)
def behind (name : ByteArray) (fs : List DF) : List DF := fs.dropWhile (lessB name)

theorem ahead_behind (name : ByteArray) (fs : List DF) : ahead name fs ++ behind name fs = fs := List.takeWhile_append_dropWhile

/-- Is the first of these files the one of the name? -/
def isHead (name : ByteArray) : List DF → Bool
  | [] => false
  | f :: _ => decide (cmpS f.name name = 0)

theorem rising_lt : ∀ {fs : List DF} {i j : Nat} {f g : DF}, Rising fs → i < j → fs[i]? = some f → fs[j]? = some g → cmpS f.name g.name < 0
  | h :: fs, 0, j + 1, f, g, hr, _, h1, h2 => by
    simp at h1 h2; subst h1
    exact hr.1 g (List.mem_of_getElem? h2)
  | h :: fs, i + 1, j + 1, f, g, hr, hlt, h1, h2 => by
    simp at h1 h2
    exact rising_lt hr.2 (by omega) h1 h2

theorem takeWhile_len {α : Type} {p : α → Bool} : ∀ {l : List α} {k : Nat}, k ≤ l.length → (∀ i x, i < k → l[i]? = some x → p x = true) → (∀ x, l[k]? = some x → p x = false) → (l.takeWhile p).length = k
  | [], k, h, _, _ => by simp at h; simp [h]
  | x :: l, 0, _, _, h2 => by simp [h2 x rfl]
  | x :: l, k + 1, h, h1, h2 => by
    rw [List.takeWhile_cons, h1 0 x (by omega) rfl]
    simp only [if_true, List.length_cons]
    rw [takeWhile_len (k := k) (by simpa using h) (fun i y hi hy => h1 (i + 1) y (by omega) (by simpa using hy)) (fun y hy => h2 y (by simpa using hy))]

section
variable {W w : World} {L : List SP} {d : Nat} {D : DD}

theorem Compare_spec (a b : ByteArray) : Ret Tryz.prog F.strings_Compare [.string a, .string b] w fun v w' => v = .int .i64 (cmpS a b) ∧ w' = w := by
  refine S.strings_Compare_ok _ _ _ _ ?_
  have h : Ret Tryz.prog F.internal_bytealg_CompareString [.string a, .string b] w fun v w' => v = .int .i64 (cmpS a b) ∧ w' = w := by
    refine S.internal_bytealg_CompareString_ok _ _ _ _ ?_
    exact ⟨cmpS a b, w, cmpstring_run a b w, rfl, rfl⟩
  refine xcall h ?_
  rintro v w' ⟨rfl, rfl⟩
  exact ⟨_, rfl, rfl, rfl⟩

theorem half (i j : Nat) (h : i + j ≤ 2 ^ 62) : IntKind.wrap .i64 (ishr .u64 (IntKind.wrap .u64 (IntKind.wrap .i64 ((i : Int) + j))) 1) = ((i + j) / 2 : Nat) := by
  have e1 : IntKind.wrap .i64 ((i : Int) + j) = i + j := wi (by omega) (by omega)
  have e2 : IntKind.wrap .u64 ((i : Int) + j) = i + j := wu (by omega) (by omega)
  rw [e1, e2]
  have : ishr .u64 ((i : Int) + j) 1 = ((i + j) / 2 : Nat) := by
    unfold ishr
    have h1 : min (1 : Int).toNat (IntKind.bits .u64) = 1 := rfl
    rw [h1]
    rw [Int.fdiv_eq_ediv_of_nonneg _ (by decide)]
    omega
  rw [this, wi (by omega) (by omega)]

/-- A search by halves: the callee tells of each element how it stands to the target. -/
theorem bs_spec {A : SP} {s : Sl} {ps : List Nat} {name : ByteArray} {c : Nat → Int} {g : FuncId} (hb : hasBody Tryz.prog g = true) (hn : s.len ≤ 2 ^ 40)
    (hs : Sat W w (own 1 s (ps.map ptr) :: A :: L))
    (hc : ∀ k p w, ps[k]? = some p → Sat W w (own 1 s (ps.map ptr) :: A :: L) → Ret Tryz.prog g [ptr p, .string name] w fun v w' => v = .int .i64 (c k) ∧ Quiet w w')
    (hm : ∀ i j, i < j → j < ps.length → c j < 0 → c i < 0) :
    Ret Tryz.prog F.slices_BinarySearchFunc [.slice s.a s.len s.cap, .string name, .func (.func g) #[] #[]] w fun v w' =>
      ∃ k : Nat, v = .tuple ⟨[.int .i64 k, .bool (decide (k < ps.length ∧ c k = 0))]⟩ ∧ k ≤ ps.length ∧ (∀ i, i < k → c i < 0) ∧ (k < ps.length → 0 ≤ c k) ∧ Quiet w w' := by
  refine S.slices_BinarySearchFunc_ok _ _ _ _ _ ?_
  obtain ⟨w0, hw0⟩ : ∃ x : World, x = w := ⟨w, rfl⟩
  subst hw0
  have hlen : ps.length = s.len := by have := hs.own_len; simpa using this
  have call : ∀ (k p : Nat) (w : World) (K : Int → World → Prop), ps[k]? = some p → Sat W w (own 1 s (ps.map ptr) :: A :: L) →
      (∀ w', Quiet w w' → K (c k) w') → XCallV Tryz.prog (.func (.func g) #[] #[]) [ptr p, .string name] (.leaf (.int .i64)) w K := by
    intro k p w K hp hs hk
    unfold XCallV
    simp only [hb, List.nil_append, List.append_nil]
    exact xcall (t := .leaf (.int .i64)) (hc k p w hp hs) fun v w' ⟨e, h⟩ => ⟨c k, e, hk w' h⟩
  refine xloop (fun st w => ∃ i j : Nat, st = ((i : Int), (j : Int), ()) ∧ i ≤ j ∧ j ≤ ps.length ∧ (∀ k, k < i → c k < 0) ∧ (j < ps.length → 0 ≤ c j) ∧ Quiet w0 w)
    (fun st => (st.2.1 - st.1).toNat) ⟨0, ps.length, by rw [hlen]; rfl, by omega, Nat.le_refl _, by omega, by omega, Quiet.refl _⟩ ?_
  rintro next _ w ⟨i, j, rfl, hij, hj, h1, h2, hq⟩ hnext
  have hs := hs.quiet hq
  by_cases hlt : i < j
  · refine XIf.yes (by simpa using hlt) ⟨by decide, ?_⟩
    have hh := half i j (by omega)
    have hk : (i + j) / 2 < ps.length := by omega
    obtain ⟨p, hp⟩ : ∃ p, ps[(i + j) / 2]? = some p := ⟨_, List.getElem?_eq_getElem hk⟩
    refine xelem hs ((i + j) / 2) hh (x := some ⟨p, 0, none⟩) (by simp [readL, hp, ptr, Leaf.un]) (by show Int.toNat _ * 1 = _; rw [hh, Nat.mul_one, Int.toNat_natCast]) fun a => ?_
    refine call ((i + j) / 2) p w _ hp hs fun w' hs' => ?_
    by_cases hneg : c ((i + j) / 2) < 0
    · refine XIf.yes (by simpa using hneg) (hnext _ w' ⟨(i + j) / 2 + 1, j, ?_, by omega, hj, ?_, h2, hq.trans hs'⟩ ?_)
      · show (_, _, ()) = _
        rw [hh, wi (by omega) (by omega)]; simp
      · intro k hk'
        by_cases hlt' : k < (i + j) / 2
        · exact hm k _ hlt' hk hneg
        · have : k = (i + j) / 2 := by omega
          rw [this]; exact hneg
      · show (_ - _ : Int).toNat < (_ - _ : Int).toNat
        rw [hh, wi (by omega) (by omega)]; simp only; omega
    · refine XIf.no (by simpa using hneg) (hnext _ w' ⟨i, (i + j) / 2, ?_, by omega, by omega, h1, fun _ => by omega, hq.trans hs'⟩ ?_)
      · show (_, _, ()) = _
        rw [hh]
      · show (_ - _ : Int).toNat < (_ - _ : Int).toNat
        rw [hh]; simp only; omega
  · have e : i = j := by omega
    subst e
    refine XIf.no (by simp) (xjoin0 ?_)
    by_cases hk : i < ps.length
    · obtain ⟨p, hp⟩ : ∃ p, ps[i]? = some p := ⟨_, List.getElem?_eq_getElem hk⟩
      refine XIf.yes (by simp; omega) (xelem hs i rfl (x := some ⟨p, 0, none⟩) (by simp [readL, hp, ptr, Leaf.un]) (by show Int.toNat _ * 1 = _; simp) fun a => ?_)
      refine call i p w _ hp hs fun w' hs' => ⟨i, ?_, hj, h1, h2, hq.trans hs'⟩
      simp only [hk, true_and]
      rfl
    · refine XIf.no (by simp; omega) ⟨i, ?_, hj, h1, h2, hq⟩
      simp only [hk, false_and]
      rfl

/-- A file's name, by its place. -/
theorem place1_spec {l : List (Nat × DF)} {k : Nat} {x : Nat × DF} {A : SP} {name : ByteArray} (hx : l[k]? = some x) (hs : Sat W w (A :: FilesP l :: L)) :
    Ret Tryz.prog F.disk_Disk_place_1 [ptr x.1, .string name] w fun v w' => v = .int .i64 (cmpS x.2.name name) ∧ Quiet w w' := by
  obtain ⟨l1, l2, e, hl⟩ := split_at (List.getElem?_eq_some_iff.1 hx).1
  rw [(List.getElem?_eq_some_iff.1 hx).2] at e
  have h1 := hs.swap
  rw [e] at h1
  obtain ⟨ls, ss, h2⟩ := FileP.open (FilesP.take h1)
  refine S.disk_Disk_place_1_ok _ _ _ _ (xnil (xload h2 1 rfl rfl (xcall (Compare_spec _ _) ?_)))
  rintro v w' ⟨rfl, rfl⟩
  exact ⟨_, rfl, rfl, Quiet.refl _⟩

/-- Where a name stands among the files. -/
theorem place_spec {name : ByteArray} (hs : Sat W w (DiskP d D :: L)) (hr : Rising D.files) (hn : D.files.length ≤ 2 ^ 40) :
    Ret Tryz.prog F.disk_Disk_place [ptr d, .string name] w fun v w' =>
      v = .tuple ⟨[.int .i64 (ahead name D.files).length, .bool (isHead name (behind name D.files))]⟩ ∧ Quiet w w' := by
  refine S.disk_Disk_place_ok _ _ _ _ (xnil ?_)
  obtain ⟨l, fs, ws, hl, h⟩ := DiskP.open hs
  refine xload h 0 rfl rfl ?_
  have hll : l.length = D.files.length := by rw [← hl, List.length_map]
  have hlen : fs.len = l.length := by have := (h.bring 1).own_len; simpa using this.symm
  have hfile : ∀ (k : Nat) (x : Nat × DF), l[k]? = some x → D.files[k]? = some x.2 := fun k x hx => by rw [← hl, List.getElem?_map, hx]; rfl
  have hget : ∀ k p, (l.map (·.1))[k]? = some p → ∃ f, l[k]? = some (p, f) ∧ D.files[k]? = some f := fun k p hp => by
    rw [List.getElem?_map] at hp
    cases hx : l[k]? with
    | none => rw [hx] at hp; cases hp
    | some x => rw [hx] at hp; cases hp; exact ⟨x.2, hx, hfile k x hx⟩
  have hmap : l.map (fun x => ptr x.1) = (l.map (·.1)).map ptr := by rw [List.map_map]; rfl
  have h1 := h.sink 2
  rw [hmap] at h1
  have hlk : ∀ {k : Nat}, k < (l.map (·.1)).length → k < D.files.length := fun {k} h => by rw [List.length_map, hll] at h; exact h
  refine xcalls (bs_spec (c := fun k => match D.files[k]? with | some f => cmpS f.name name | none => 0) (g := F.disk_Disk_place_1) (by kernel_rfl) (show fs.len ≤ _ by omega) h1 ?_ ?_) ?_
  · intro k p w hp hs
    obtain ⟨f, hx, hf⟩ := hget k p hp
    simp only [hf]
    exact place1_spec hx hs
  · intro i j hij hj hneg
    have hj' := hlk hj
    simp only [List.getElem?_eq_getElem hj', List.getElem?_eq_getElem (Nat.lt_trans hij hj')] at hneg ⊢
    exact cmpS_trans (rising_lt hr hij (List.getElem?_eq_getElem _) (List.getElem?_eq_getElem hj')) hneg
  · rintro v w' ⟨k, rfl, hk, h2, h3, hs'⟩
    refine ⟨((k : Int), _, ()), rfl, ?_, ?_⟩
    · have hk' : k ≤ D.files.length := by rw [List.length_map, hll] at hk; exact hk
      have hkl : (ahead name D.files).length = k := by
        refine takeWhile_len hk' (fun i f hi hf => ?_) fun f hf => ?_
        · have := h2 i hi
          simp only [hf] at this
          simpa [lessB] using this
        · have := h3 (by rw [List.length_map, hll]; exact (List.getElem?_eq_some_iff.1 hf).1)
          simp only [hf] at this
          simpa [lessB] using this
      have hbh : behind name D.files = D.files.drop k := by
        have e : (ahead name D.files ++ behind name D.files).drop (ahead name D.files).length = behind name D.files := List.drop_left
        rw [ahead_behind, hkl] at e
        exact e.symm
      have hbool : decide (k < (l.map (·.1)).length ∧ (match D.files[k]? with | some f => cmpS f.name name | none => 0) = 0) = isHead name (behind name D.files) := by
        rw [hbh, List.length_map, hll]
        cases hf : D.files[k]? with
        | none =>
          have : D.files.length ≤ k := by simpa using hf
          rw [List.drop_eq_nil_of_le this]
          simp only [isHead, decide_eq_false_iff_not]; omega
        | some f =>
          have hlt := (List.getElem?_eq_some_iff.1 hf).1
          rw [List.drop_eq_getElem_cons hlt, (List.getElem?_eq_some_iff.1 hf).2]
          simp [isHead, hlt]
      show Value.tuple ⟨[.int .i64 k, .bool (decide (k < (l.map (·.1)).length ∧ (match D.files[k]? with | some f => cmpS f.name name | none => 0) = 0))]⟩ = _
      rw [hbool, hkl]
    · exact hs'

theorem find_spec {name : ByteArray} (hs : Sat W w (DiskP d D :: L)) (hr : Rising D.files) (hn : D.files.length ≤ 2 ^ 40) :
    Ret Tryz.prog F.disk_Disk_find [ptr d, .string name] w fun v w' =>
      (isHead name (behind name D.files) = false → v = .pointer none ∧ Quiet w w') ∧
      (isHead name (behind name D.files) = true → ∃ l1 l2 p f fs ws, v = ptr p ∧ l1.map (·.2) = ahead name D.files ∧ f :: l2.map (·.2) = behind name D.files ∧ Quiet w w' ∧
        Sat W w' (pts d [.slice fs.a fs.len fs.cap, .slice ws.a ws.len ws.cap, .int .i64 D.most, .int .i64 D.fuse, .bool D.off, .int .i64 D.count, .int .i64 D.made] ::
          own 1 fs ((l1 ++ (p, f) :: l2).map fun x => ptr x.1) :: FilesP (l1 ++ (p, f) :: l2) :: own 4 ws (D.wait.flatMap wcells) :: L)) := by
  refine S.disk_Disk_find_ok _ _ _ _ (xcalls (place_spec (name := name) hs hr hn) ?_)
  rintro v w' ⟨rfl, hq⟩
  have hs' := hs.quiet hq
  refine ⟨(_, _, ()), rfl, ?_⟩
  cases hh : isHead name (behind name D.files) with
  | false => exact XIf.no hh ⟨fun _ => ⟨rfl, hq⟩, fun h => by cases h⟩
  | true =>
    refine XIf.yes hh (xnil ?_)
    obtain ⟨l, fs, ws, hl, h⟩ := DiskP.open hs'
    refine xload h 0 rfl rfl ?_
    have hb : ∃ f r, behind name D.files = f :: r := by
      cases hb : behind name D.files with
      | nil => rw [hb] at hh; cases hh
      | cons f r => exact ⟨f, r, rfl⟩
    obtain ⟨f, r, hb⟩ := hb
    have hD : D.files = ahead name D.files ++ f :: r := by rw [← hb]; exact (ahead_behind name D.files).symm
    have hll : l.length = D.files.length := by rw [← hl, List.length_map]
    have hk : (ahead name D.files).length < l.length := by rw [hll]; conv => rhs; rw [hD]
                                                           simp
    obtain ⟨l1, l2, e, hl1⟩ := split_at hk
    generalize hx : l[(ahead name D.files).length] = x at e
    obtain ⟨p, f'⟩ := x
    have hl' : l1.map (·.2) ++ f' :: l2.map (·.2) = ahead name D.files ++ f :: r := by
      rw [← hD, ← hl, e, List.map_append, List.map_cons]
    obtain ⟨e1, e2⟩ := List.append_inj hl' (by rw [List.length_map, hl1])
    obtain ⟨e3, e4⟩ := List.cons.inj e2
    subst e3
    refine xelem (h.bring 1) (ahead name D.files).length rfl (x := some ⟨p, 0, none⟩) ?_ (by show Int.toNat _ * 1 = _; simp) fun a => ?_
    · have : l[(ahead name D.files).length]? = some (p, f') := by rw [← hx]; exact List.getElem?_eq_getElem hk
      simp [readL, this, ptr, Leaf.un]
    · refine ⟨(fun h => by cases h), fun _ => ⟨l1, l2, p, f', fs, ws, rfl, e1, ?_, hq, ?_⟩⟩
      · rw [hb, e4]
      · rw [← e]; exact h

end
end Go.X

/-! Bytes: growing by noughts, copying into a slice, reading as a text. -/
namespace Go.X

section
variable {P : Program} {W w : World} {L : List SP}

theorem bcells_append (a b : List UInt8) : bcells (a ++ b) = bcells a ++ bcells b := by simp [bcells]
theorem bcells_length (a : List UInt8) : (bcells a).length = a.length := by simp [bcells]
theorem bcells_one : ∀ (a : List UInt8), allOne (bcells a) = true
  | [] => rfl
  | _ :: a => bcells_one a

/-- The closed facts that growing by noughts asks of the types. -/
def okZeros (P : Program) (t u : TypeId) : Bool :=
  match under P t, under P u with
  | some (.slice e), some (.int _) => match ti P e with
    | some i => Nat.beq i.size 1 && Nat.beq i.bytes 1 && (match i.zero with
      | some (.int .u8 0) => true
      | _ => false)
    | none => false
  | _, _ => false

theorem okZeros_spec {t u : TypeId} (h : okZeros P t u = true) : ∃ e k i, P.underlying t = some (.slice e) ∧ P.underlying u = some (.int k) ∧ P.info? e = some i ∧ i.size = 1 ∧ i.bytes = 1 ∧ i.zero = some (.int .u8 0) := by
  unfold okZeros at h
  split at h
  · rename_i e k h1 h2
    split at h
    · rename_i i hi
      simp only [Bool.and_eq_true] at h
      obtain ⟨⟨h3, h4⟩, h5⟩ := h
      split at h5
      · rename_i hz
        exact ⟨e, k, i, under_eq h1, under_eq h2, ti_info hi, Nat.eq_of_beq_eq_true h3, Nat.eq_of_beq_eq_true h4, hz⟩
      · cases h5
    · cases h
  · cases h

theorem zero_bytes (n : Nat) : (Builtin.zeroCells (#[.int .u8 0] : Array Value) n).toList = bcells (List.replicate n 0) := by
  unfold Builtin.zeroCells bcells
  apply List.ext_getElem
  · simp
  · intro i h1 h2
    simp [Nat.mod_one]

theorem xgrow {t u ty : TypeId} {s : Sl} {l : List UInt8} {m : Nat} {k : Int} {K : Sl → World → Prop} (hok : okZeros P t u = true) (hs : Sat W w (own 1 s (bcells l) :: L)) (hm : k = m) (hsz : s.len + m ≤ 2 ^ 40)
    (hk : ∀ s' w', Sat W w' (own 1 s' (bcells (l ++ List.replicate m 0)) :: L) → s'.len = s.len + m → K s' w') :
    XDo P (Builtin.append_ #[t, u] ty ⟨[.slice s.a s.len s.cap, .int .i64 k]⟩) (.leaf .slice) w K := by
  obtain ⟨e, ki, i, ht, hu, hi, h1, hb, hz⟩ := okZeros_spec hok
  subst hm
  have hw : IntKind.wrap .i64 (m : Int) = m := wi (by omega) (by omega)
  have hl : l.length = s.len := by have := hs.own_len; rw [bcells_length] at this; omega
  have hn0 : ¬ ((m : Int) < 0) := by omega
  have h48 : ¬ (281474976710656 < (m : Int)) := by omega
  have h63 : ¬ (9223372036854775807 < (s.len : Int) + (m : Int)) := by omega
  have hzc : (Value.int IntKind.u8 0).cells = #[.int .u8 0] := rfl
  have hz0 : Builtin.zeroCells (#[.int .u8 0] : Array Value) 0 = #[] := by simp [Builtin.zeroCells]
  have grow : s.cap < s.len + m → (s.a = none → bcells l = []) → Reads w s (bcells l) → XDo P (Builtin.append_ #[t, u] ty ⟨[.slice s.a s.len s.cap, .int .i64 (m : Int)]⟩) (.leaf .slice) w K := by
    intro hg ho0 hro
    have hn : ¬ (s.len + m ≤ s.cap) := by omega
    have hfit := growslice_fits (need := s.len + m) (old := s.cap) (bytes := 1) hg (by omega)
    have hg' : ¬ (281474976710656 < Builtin.nextslicecap (s.len + m) s.cap) := by omega
    have hfo := run_first (P := P) (w := w.drew) (sz := 1) (n := s.len) (s := s) (vs := bcells l) hro (by rw [bcells_length, hl, Nat.mul_one]) ho0 s.len s.cap
    have hz1 : (if m = 0 then pure #[] else (zeroValue e >>= fun z => pure (Builtin.zeroCells z.cells m)) : Sem (Array Value)).run P w.drew = .ok ⟨bcells (List.replicate m 0)⟩ w.drew := by
      split
      · rename_i h; subst h; rfl
      · simp only [Sem.run_bind, run_zero' hi hz, Result.andThen, Sem.run_pure, hzc]
        congr 1
        apply Array.ext'
        exact zero_bytes m
    have hr : (Builtin.append_ #[t, u] ty ⟨[.slice s.a s.len s.cap, .int .i64 (m : Int)]⟩).run P w = .ok (.slice (some ⟨w.heap.size, 0, none⟩) (s.len + m) (grownCap w (s.len + m) s.cap e))
        (w.drew.alloc (.cells ⟨bcells l ++ bcells (List.replicate m 0) ++ (Builtin.zeroCells #[.int .u8 0] (grownCap w (s.len + m) s.cap e - (s.len + m))).toList⟩ e)) := by
      simp [Builtin.append_, run_underlying ht, run_underlying hu, run_size' hi, run_info' hi, run_zero' hi hz, asInt, asIntOf, hb, h1, hw, hn0, h48, h63, hn, hg', Question.forced, newRow, grownCap, hfo, hzc]
      by_cases h0 : m = 0
      · subst h0
        simp [bcells]
        congr 2
        apply Array.ext'
        simp
      · simp only [h0, if_false]
        congr 3
        apply Array.ext'
        simp [← zero_bytes]
    refine ⟨⟨some ⟨w.heap.size, 0, none⟩, s.len + m, grownCap w (s.len + m) s.cap e⟩, _, hr, hk _ _ ?_ rfl⟩
    have hcap := grownCap_ge w (s.len + m) s.cap e
    have hnew := (hs.drop.drew).new_block (cs := bcells l ++ bcells (List.replicate m 0) ++ (Builtin.zeroCells #[.int .u8 0] (grownCap w (s.len + m) s.cap e - (s.len + m))).toList) (t := e)
    rw [bcells_append]
    refine Sat.shut_own rfl ?_ ?_ hcap hnew
    · simp [bcells_length, hl]
    · simp only [List.length_append, bcells_length, zeroCells_length, List.length_replicate, hl]
      show _ + _ * 1 = _
      omega
  rcases hs.open_own with ⟨ha, hl0, hc, hx, hs'⟩ | ⟨b, rest, ha, hl', hc, hlc, hs'⟩
  · by_cases h0 : m = 0
    · subst h0
      refine ⟨⟨none, 0, 0⟩, w, ?_, hk _ _ ?_ (by simp [hl0])⟩
      · rw [ha, hl0, hc]
        simp [Builtin.append_, run_underlying ht, run_underlying hu, run_size' hi, run_info' hi, asInt, asIntOf, hb, h1]
        exact if_neg (by decide)
      · have : l = [] := List.eq_nil_of_length_eq_zero (by omega)
        rw [this]
        exact hs'.own_nil
    · exact grow (by omega) (fun _ => hx) (fun a h => by rw [ha] at h; cases h)
  · by_cases hroom : s.len + m ≤ s.cap
    · have hlen : (bcells l).length = s.len := by rw [bcells_length, hl]
      have hfit : s.len + (bcells (List.replicate m 0)).length ≤ (bcells l ++ rest).length := by rw [hc, bcells_length, List.length_replicate]; omega
      have hst := xstores (W := W) (L := L) (b := b) (o := s.len) (K := fun w' => Sat W w' (pts b (splice (bcells l ++ rest) s.len (bcells (List.replicate m 0))) :: L)) (bcells (List.replicate m 0)) 0 w _ hs' (by simpa using hfit) (fun w' h => by simpa using h)
      obtain ⟨w', hr, hw'⟩ := run_stores (P := P) (bcells (List.replicate m 0)) 0 w (bcells_one _) hst
      have hr' : (Builtin.append_ #[t, u] ty ⟨[.slice s.a s.len s.cap, .int .i64 (m : Int)]⟩).run P w = .ok (.slice (some ⟨b, 0, none⟩) (s.len + m) s.cap) w' := by
        rw [ha]
        simp [Builtin.append_, run_underlying ht, run_underlying hu, run_size' hi, run_info' hi, run_zero' hi hz, asInt, asIntOf, hb, h1, hw, hn0, h48, hroom, hzc]
        by_cases h0 : m = 0
        · subst h0
          simp [storeCells]
          cases hr
          rfl
        · simp only [h0, if_false, Result.andThen, Addr.add_mk, Nat.zero_add, zero_bytes, hr]
      refine ⟨⟨some ⟨b, 0, none⟩, s.len + m, s.cap⟩, w', hr', hk _ _ ?_ rfl⟩
      have hsp : splice (bcells l ++ rest) s.len (bcells (List.replicate m 0)) = bcells (l ++ List.replicate m 0) ++ rest.drop (bcells (List.replicate m 0)).length := by
        unfold splice
        rw [bcells_append, ← hlen, List.take_left, List.drop_append, List.drop_eq_nil_of_le (by omega), List.nil_append]
        congr 2
        omega
      rw [hsp] at hw'
      refine Sat.shut_own rfl ?_ ?_ hroom hw'
      · simp [bcells_length, hl]
      · rw [← hsp, splice_length hfit, hc]
    · exact grow (by omega) (fun h => by rw [ha] at h; cases h) (reads_own hs)

/-! ### Copying -/

def okCopy (P : Program) (t : TypeId) (sz : Nat) : Bool :=
  match under P t with
  | some (.slice e) => match ti P e with
    | some i => Nat.beq i.size sz
    | none => false
  | _ => false

theorem okCopy_spec {t : TypeId} {sz : Nat} (h : okCopy P t sz = true) : ∃ e i, P.underlying t = some (.slice e) ∧ P.info? e = some i ∧ i.size = sz := by
  unfold okCopy at h
  split at h
  · rename_i e h1
    split at h
    · rename_i i hi
      exact ⟨e, i, under_eq h1, ti_info hi, Nat.eq_of_beq_eq_true h⟩
    · cases h
  · cases h

/-- Copying into a slice from an element on. -/
theorem xcopy {dT sT ty : TypeId} {sz : Nat} {s : Sl} {xs vs : List Value} {src : Value} {p : Option Addr} {dl dc k m n : Nat} {K : Int → World → Prop} (hok : okCopy P dT sz = true) (hs : Sat W w (own sz s xs :: L))
    (hp : ∀ b, s.a = some ⟨b, 0, none⟩ → k < s.cap → p = some ⟨b, k * sz, none⟩) (hk0 : k ≤ s.len) (hdl : dl = s.len - k)
    (hlen : (Builtin.lenOf src).run P w = .ok m w) (hn : n = Nat.min m dl) (hf : (Builtin.firstCells sz n src).run P w = .ok ⟨vs⟩ w) (hvs : vs.length = n * sz) (h1 : allOne vs = true)
    (hk : ∀ w', Sat W w' (own sz s (splice xs (k * sz) vs) :: L) → K n w') :
    XDo P (Builtin.copy_ #[dT, sT] ty ⟨[.slice p dl dc, src]⟩) (.leaf (.int .i64)) w K := by
  obtain ⟨e, i, ht, hi, rfl⟩ := okCopy_spec hok
  by_cases hn0 : n = 0
  · have hv : vs = [] := List.eq_nil_of_length_eq_zero (by rw [hvs, hn0, Nat.zero_mul])
    refine ⟨n, w, ?_, hk w (by rw [hv, splice_nil]; exact hs)⟩
    cases p <;> simp [Builtin.copy_, run_underlying ht, run_size' hi, hlen, ← hn, hf, hv, storeCells, goInt, Ty.mk, Leaf.mk]
  · have hmin : n ≤ dl := by rw [hn]; exact Nat.min_le_right _ _
    rcases hs.open_own with ⟨_, hl0, _⟩ | ⟨b, rest, ha, hl', hc, hlc, hs'⟩
    · omega
    · have hkc : k < s.cap := by omega
      rw [hp b ha hkc]
      have hfit : k * i.size + vs.length ≤ xs.length := by rw [hvs, hl', ← Nat.add_mul]; exact Nat.mul_le_mul_right _ (by omega)
      have hst := xstores (W := W) (L := L) (b := b) (o := k * i.size) (K := fun w' => Sat W w' (pts b (splice (xs ++ rest) (k * i.size) vs) :: L)) vs 0 w _ hs' (by rw [List.length_append]; omega) (fun w' h => by simpa using h)
      obtain ⟨w', hr, hw'⟩ := run_stores (P := P) vs 0 w h1 hst
      refine ⟨n, w', ?_, hk w' ?_⟩
      · simp [Builtin.copy_, run_underlying ht, run_size' hi, hlen, ← hn, hf, hr, goInt, Ty.mk, Leaf.mk]
      · have hsp : splice (xs ++ rest) (k * i.size) vs = splice xs (k * i.size) vs ++ rest := by
          unfold splice
          rw [List.take_append_of_le_length (by omega), List.drop_append_of_le_length (by omega)]
          simp
        rw [hsp] at hw'
        refine Sat.shut_own ha ?_ ?_ hlc hw'
        · rw [splice_length hfit, hl']
        · rw [List.length_append, splice_length hfit, ← List.length_append, hc]

theorem view_ptr {a : Option Addr} {cap k b sz : Nat} (ha : a = some ⟨b, 0, none⟩) (hk : k < cap) : (if cap = k then a else Option.map (fun b => Addr.add b (k * sz)) a) = some ⟨b, k * sz, none⟩ := by
  rw [if_neg (by omega), ha]
  simp [Addr.add_mk]

/-- Bytes laid over others. -/
def over (l : List UInt8) (k : Nat) (t : List UInt8) : List UInt8 := l.take k ++ t ++ l.drop (k + t.length)

theorem splice_bytes (l t : List UInt8) (k : Nat) : splice (bcells l) k (bcells t) = bcells (over l k t) := by
  simp [splice, over, bcells]

theorem first_str (t : ByteArray) (n : Nat) (_h : n ≤ t.size) (w : World) : (Builtin.firstCells 1 n (.string t)).run P w = .ok ⟨bcells (t.data.toList.take n)⟩ w := by
  simp only [Builtin.firstCells, Sem.run_pure]
  congr 1
  apply Array.ext'
  simp [bcells, List.map_take]

/-- Copying a text's bytes. -/
theorem xcopyS {dT sT ty : TypeId} {s : Sl} {l : List UInt8} {t : ByteArray} {p : Option Addr} {dl dc k : Nat} {K : Int → World → Prop} (hok : okCopy P dT 1 = true) (hs : Sat W w (own 1 s (bcells l) :: L))
    (hp : ∀ b, s.a = some ⟨b, 0, none⟩ → k < s.cap → p = some ⟨b, k * 1, none⟩) (hk0 : k + t.size ≤ l.length) (hdl : dl = s.len - k)
    (hk : ∀ w', Sat W w' (own 1 s (bcells (over l k t.data.toList)) :: L) → K t.size w') :
    XDo P (Builtin.copy_ #[dT, sT] ty ⟨[.slice p dl dc, .string t]⟩) (.leaf (.int .i64)) w K := by
  have hl : l.length = s.len := by have := hs.own_len; rw [bcells_length] at this; omega
  have hsz : t.size = t.data.toList.length := by simp
  refine xcopy (n := t.size) (m := t.size) (vs := bcells t.data.toList) hok hs hp (by omega) hdl rfl ?_ ?_ ?_ (bcells_one _) ?_
  · have : t.size ≤ dl := by omega
    exact (Nat.min_eq_left this).symm
  · rw [first_str t t.size (Nat.le_refl _), List.take_of_length_le (by omega)]
  · rw [bcells_length, Nat.mul_one, hsz]
  · intro w' h
    rw [Nat.mul_one, splice_bytes] at h
    exact hk w' h

/-! ### Reading bytes as a text -/

def str (l : List UInt8) : ByteArray := ⟨l.toArray⟩

theorem str_toList (l : List UInt8) : (str l).data.toList = l := by simp [str]
theorem str_size (l : List UInt8) : (str l).size = l.length := by show l.toArray.size = _; simp
theorem str_data (s : ByteArray) : str s.data.toList = s := by cases s; simp [str]

theorem bytesAt_of {a : Addr} : ∀ (l : List UInt8) (i : Nat), (∀ j b, l[j]? = some b → w.cell? (a.add (i + j)) = some (.int .u8 b.toNat)) → bytesAt w a i l
  | [], _, _ => trivial
  | b :: l, i, h => ⟨h 0 b rfl, bytesAt_of l (i + 1) fun j c hc => by have := h (j + 1) c (by simpa using hc); rwa [show i + (j + 1) = i + 1 + j by omega] at this⟩

/-- A part of a slice of bytes, as a text. -/
theorem xbytes {s : Sl} {l : List UInt8} {p : Option Addr} {n k : Nat} {K : ByteArray → Prop} (hs : Sat W w (own 1 s (bcells l) :: L))
    (hp : ∀ b, s.a = some ⟨b, 0, none⟩ → k < s.cap → p = some ⟨b, k, none⟩) (hp0 : s.a = none → p = none) (hkn : k + n ≤ l.length) (hk0 : s.cap = k → p = s.a) (hk : K (str ((l.drop k).take n))) : XBytes p n w K := by
  refine ⟨_, ?_, hk⟩
  have hl : l.length = s.len := by have := hs.own_len; rw [bcells_length] at this; omega
  cases ha : s.a with
  | none =>
    rw [hp0 ha]
    rcases hs.open_own with ⟨_, h0, _⟩ | ⟨b, rest, ha', _⟩
    · have : (l.drop k).take n = [] := by
        have : l = [] := List.eq_nil_of_length_eq_zero (by omega)
        rw [this]; simp
      rw [this]
      rfl
    · rw [ha] at ha'; cases ha'
  | some a =>
    obtain ⟨b, rfl, hc⟩ := hs.own_cells ha
    by_cases hkc : k < s.cap
    · rw [hp b ha hkc]
      refine ⟨by rw [str_size]; simp; omega, ?_⟩
      rw [str_toList]
      refine bytesAt_of _ 0 fun j c hj => ?_
      rw [Addr.add_mk]
      refine hc _ _ ?_
      have : l[k + j]? = some c := by
        rw [List.getElem?_take] at hj
        split at hj
        · rw [List.getElem?_drop] at hj; exact hj
        · cases hj
      simp only [bcells, List.getElem?_map, Nat.zero_add]
      rw [show k + j = k + j from rfl, this]
      rfl
    · have hn : n = 0 := by
        rcases hs.open_own with ⟨h, _⟩ | ⟨b', rest, ha', h2, h3, h4, _⟩
        · rw [ha] at h; cases h
        · omega
      have hcap : s.cap = k := by
        rcases hs.open_own with ⟨h, _⟩ | ⟨b', rest, ha', h2, h3, h4, _⟩
        · rw [ha] at h; cases h
        · omega
      rw [hk0 hcap, ha, hn]
      exact ⟨rfl, trivial⟩

/-! ### A text's bytes as a slice -/

def okToBytes (P : Program) (t u : TypeId) : Bool :=
  match under P t, under P u with
  | some .string, some (.slice e) => match under P e with
    | some (.int .u8) => true
    | _ => false
  | _, _ => false

theorem okToBytes_spec {t u : TypeId} (h : okToBytes P t u = true) : ∃ e, P.underlying t = some .string ∧ P.underlying u = some (.slice e) ∧ P.underlying e = some (.int .u8) := by
  unfold okToBytes at h
  split at h
  · rename_i e h1 h2
    split at h
    · rename_i h3
      exact ⟨e, under_eq h1, under_eq h2, under_eq h3⟩
    · cases h
  · cases h

theorem Sat.refreeze {b : Nat} {cs : List Value} {w' : World} {t : TypeId} {lo hi : Nat} (hs : Sat W w (pts b cs :: L)) (h1 : w'.heap[b]? = some (.cells ⟨cs⟩ t (lo, hi))) (h2 : ∀ k, k ≠ b → w'.heap[k]? = w.heap[k]?)
    (hf : ∀ o, o < cs.length → (decide (lo ≤ o) && decide (o < hi)) = false) (ho : w'.os = w.os) (ht : w'.tape = w.tape) (hu : w'.output = w.output) (hz : w'.heap.size = w.heap.size) : Sat W w' (pts b cs :: L) := by
  obtain ⟨_, _, _, _, _, h3⟩ := hs.pts_heap
  obtain ⟨f, g, d, e, ⟨t', lo', hi', h1', _⟩, hb⟩ := hs.new
  obtain ⟨f', d', e', hf'⟩ := fresh_set (w := w) h3 w' h1 h2 f g d e _ h1'
  refine ⟨ho.trans hs.os, ht.trans hs.tape, hu.trans hs.output, by rw [hz]; exact hs.size, fun k hk => ?_, f', g, d', e', ⟨t, lo, hi, hf', hf⟩, hb⟩
  rw [h2 k (by omega)]
  exact hs.old k hk

theorem xtobytes {src dst : TypeId} {t : ByteArray} {K : Sl → World → Prop} (hok : okToBytes P src dst = true) (hs : Sat W w L)
    (hk : ∀ s w', Sat W w' (own 1 s (bcells t.data.toList) :: L) → s.len = t.size → K s w') : XDo P (convert src dst (.string t)) (.leaf .slice) w K := by
  obtain ⟨e, h1, h2, h3⟩ := okToBytes_spec hok
  let c := grownCap w t.size 0 e
  let cs := bcells t.data.toList ++ List.replicate (c - t.size) (Value.int .u8 0)
  have hcs : ((Array.map (fun b : UInt8 => Value.int .u8 b.toNat) t.data) ++ Array.replicate (c - t.size) (Value.int .u8 0)) = ⟨cs⟩ := by
    apply Array.ext'
    simp [cs, bcells]
  have hcap : t.size ≤ c := grownCap_ge w t.size 0 e
  have hsz : t.data.toList.length = t.size := by simp
  have hlen : cs.length = c := by simp [cs, bcells_length]; omega
  let w1 := w.drew.alloc (.cells ⟨cs⟩ e)
  have hw1 : w1.heap[w.heap.size]? = some (.cells ⟨cs⟩ e (0, 0)) := by
    show (w.heap.push _)[w.heap.size]? = _
    simp
  let w2 := w1.freeze { block := w.heap.size, off := cs.length } 1
  have hr : (convert src dst (.string t)).run P w = .ok (.slice (some ⟨w.heap.size, 0, none⟩) t.size c) w2 := by
    have hshape : w1.shape? w.heap.size = some (e, cs.length) := by simp [World.shape?, hw1]
    have hconv : convert src dst (.string t) = (do
        let d ← underlying src
        let d' ← underlying dst
        match d, d', Value.string t with
        | _, .int k, .int _ n => Conv.intToInt k n
        | _, .float k, .int _ n => Conv.intToFloat k n
        | _, .int k, .float s b => Conv.floatToInt s b k
        | _, .float k, .float s b => Conv.floatToFloat s b k
        | _, .complex k, .complex s a b => Conv.complexToComplex s a b k
        | _, .string, .int _ n => Conv.intToString n
        | _, .string, .string _ => pure (Value.string t)
        | _, .slice e, .string s =>
          match ← underlying e with
          | .int .u8 => Conv.stringToBytes e s
          | .int .i32 => Conv.stringToRunes e s
          | _ => stuck "Convert: string to a slice of what?"
        | .slice _, .slice e, .slice (some a) _ _ =>
          match src == dst, ← underlying e with
          | true, .int .u8 => do markStringish a; pure (Value.string t)
          | _, _ => unsupported (.noEntry "convert/other")
        | .slice e, .string, x =>
          match ← underlying e with
          | .int .u8 => Conv.bytesToString x
          | .int .i32 => Conv.runesToString x
          | _ => stuck "Convert: a slice of what to string?"
        | .unsafePointer, _, x | _, .unsafePointer, x => Conv.unsafePointer src dst x
        | .int _, _, .pointer (some _) => unsupported .addressObserved
        | _, _, _ => unsupported (.noEntry "convert/other")) := rfl
    rw [hconv]
    simp only [Sem.run_bind, run_underlying h1, run_underlying h2, run_underlying h3, Result.andThen]
    simp only [Conv.stringToBytes, Sem.run_bind, run_choose, Question.forced, Bool.false_eq_true, if_false, Result.andThen]
    have hc' : (Question.appendCap t.size 0 e).cut (w.tape w.drawn (.appendCap t.size 0 e)) = c := rfl
    simp only [hc', hcs, run_newRow, markStringish, Sem.run_bind, run_shape, Result.andThen]
    have hsame : (World.alloc { w with drawn := w.drawn + 1 } (.cells ⟨cs⟩ e)) = w1 := rfl
    simp only [hsame, hshape, run_freeze, Sem.run_pure]
    rfl
  have hs1 : Sat W w1 (pts w.heap.size cs :: L) := hs.drew.new_block
  have hs2 : Sat W w2 (pts w.heap.size cs :: L) := by
    refine hs1.refreeze (t := e) (lo := cs.length) (hi := cs.length + 1) ?_ (fun k hk => ?_) (fun o ho => ?_) rfl rfl rfl ?_
    · simp [w2, World.freeze, Array.getElem?_modify, hw1]
    · simp [w2, World.freeze, Array.getElem?_modify, Ne.symm hk]
    · simp; omega
    · simp [w2, World.freeze]
  refine ⟨⟨some ⟨w.heap.size, 0, none⟩, t.size, c⟩, w2, hr, hk _ _ ?_ rfl⟩
  refine Sat.shut_own rfl ?_ ?_ hcap hs2
  · rw [bcells_length, hsz, Nat.mul_one]
  · rw [Nat.mul_one]; exact hlen

end
end Go.X

/-! The device's calls that change no file. -/
namespace Go.X
open Go.Proofs

section
variable {W w : World} {L : List SP} {d : Nat} {D : DD}

theorem FileP.lens {x : Nat × DF} {ls ss : Sl} (h : Sat W w (pts x.1 [.int .i64 x.2.id, .string x.2.name, .slice ls.a ls.len ls.cap, .slice ss.a ss.len ss.cap] :: own 1 ls (bcells x.2.last) :: own 1 ss (bcells x.2.seen) :: L)) :
    ls.len = x.2.last.length ∧ ss.len = x.2.seen.length := by
  have h1 := (h.bring 1).own_len
  have h2 := (h.bring 2).own_len
  rw [bcells_length] at h1 h2
  omega

theorem takesAll_append : ∀ (a b : List DF), takesAll (a ++ b) = takesAll a + takesAll b
  | [], b => by simp [takesAll]
  | f :: a, b => by simp [takesAll, takesAll_append a b]; omega

theorem secs_le {n m : Nat} (h : n ≤ 64 * m) : secs n ≤ m := by unfold secs; omega

def Small (fs : List DF) : Prop := ∀ f ∈ fs, f.seen.length ≤ 2097152 ∧ f.last.length ≤ 2097152

theorem takes_le {f : DF} (h : f.seen.length ≤ 2097152 ∧ f.last.length ≤ 2097152) : f.takes ≤ 32768 := secs_le (by omega)

theorem takesAll_le : ∀ {fs : List DF}, Small fs → takesAll fs ≤ 32768 * fs.length
  | [], _ => Nat.le_refl _
  | f :: fs, h => by
    have h1 := takes_le (h f List.mem_cons_self)
    have h2 := takesAll_le (fs := fs) fun g hg => h g (List.mem_cons_of_mem _ hg)
    simp only [takesAll, List.length_cons]; omega

theorem max_if (a b : Nat) : (if ((a : Nat) : Int) > ((b : Nat) : Int) then ((a : Nat) : Int) else ((b : Nat) : Int)) = ((max b a : Nat) : Int) := by
  split <;> omega

theorem min_if (a b : Nat) : (if ((a : Nat) : Int) < ((b : Nat) : Int) then ((a : Nat) : Int) else ((b : Nat) : Int)) = ((min b a : Nat) : Int) := by
  split <;> omega

theorem used_spec (hs : Sat W w (DiskP d D :: L)) (hsm : Small D.files) (hn : D.files.length ≤ 2 ^ 30) :
    Ret Tryz.prog F.disk_Disk_used [ptr d] w fun v w' => v = .int .i64 (takesAll D.files) ∧ Quiet w w' := by
  obtain ⟨w0, hw0⟩ : ∃ x : World, x = w := ⟨w, rfl⟩
  subst hw0
  refine S.disk_Disk_used_ok _ _ _ (xnil ?_)
  obtain ⟨l, fs, ws, hl, h⟩ := DiskP.open hs
  refine xload h 0 rfl rfl ?_
  have hll : l.length = D.files.length := by rw [← hl, List.length_map]
  have hlen : fs.len = l.length := by have := (h.bring 1).own_len; simpa using this.symm
  refine xloop (fun st w => ∃ l1 l2 : List (Nat × DF), l = l1 ++ l2 ∧ st = ((takesAll (l1.map (·.2)) : Int), ((l1.length : Nat) : Int), ()) ∧ Quiet w0 w)
    (fun st => (fs.len - st.2.1).toNat) ⟨[], l, rfl, rfl, Quiet.refl _⟩ ?_
  rintro next _ w ⟨l1, l2, e, rfl, hq⟩ hnext
  have h := h.quiet hq
  cases l2 with
  | nil =>
    rw [List.append_nil] at e
    subst e
    refine XIf.no (by rw [decide_eq_false_iff_not]; (try dsimp only); omega) ⟨?_, hq⟩
    rw [hl]
  | cons x l2 =>
    have hlt : l1.length < l.length := by rw [e]; simp
    have hsmx := hsm x.2 (by rw [← hl, e]; simp)
    have hbound : takesAll (l1.map (·.2)) + x.2.takes ≤ 32768 * D.files.length := by
      have h1 := takesAll_le hsm
      have h2 : takesAll D.files = takesAll (l1.map (·.2)) + (x.2.takes + takesAll (l2.map (·.2))) := by
        rw [← hl, e, List.map_append, takesAll_append, List.map_cons, takesAll]
      omega
    refine XIf.yes (by rw [decide_eq_true_iff]; (try dsimp only); omega) (xelem (h.bring 1) l1.length rfl (x := some ⟨x.1, 0, none⟩) ?_ (by show Int.toNat _ * 1 = _; simp) fun a => xnil ?_)
    · simp [readL, e, ptr, Leaf.un]
    · have h1 := h.bring 2
      rw [e] at h1
      obtain ⟨ls, ss, h2⟩ := FileP.open (FilesP.take h1)
      obtain ⟨hls, hss⟩ := FileP.lens h2
      refine xload h2.drew 3 rfl rfl (xnil (xload h2.drew 2 rfl rfl (xlet ((max x.2.seen.length x.2.last.length : Nat) : Int) ?_ ?_)))
      · rw [max_if, hls, hss]
      · refine xcall (sectors_spec _ (by omega)) ?_
        rintro v w' ⟨rfl, rfl⟩
        refine ⟨_, rfl, h2.drew.cell rfl, h2.drew.cell rfl, xlet ((takesAll (l1.map (·.2)) + x.2.takes : Nat) : Int) ?_ (xlet ((l1.length + 1 : Nat) : Int) ?_ (hnext _ _ ⟨l1 ++ [x], l2, by simp [e], ?_, hq.drew⟩ ?_))⟩
        · dsimp only
          rw [show secs (max x.2.seen.length x.2.last.length) = x.2.takes from rfl, wi (by omega) (by omega)]
          omega
        · dsimp only
          rw [wi (by omega) (by omega)]; omega
        · simp [takesAll_append, takesAll]
        · dsimp only; omega

theorem Free_spec (hs : Sat W w (DiskP d D :: L)) (hsm : Small D.files) (hn : D.files.length ≤ 2 ^ 30) (hm : 0 ≤ D.most ∧ D.most ≤ 32768) :
    Ret Tryz.prog F.disk_Disk_Free [ptr d] w fun v w' => v = .int .i64 D.free ∧ Quiet w w' := by
  refine S.disk_Disk_Free_ok _ _ _ (XIf.no rfl (xnil ?_))
  obtain ⟨l, fs, ws, hl, h⟩ := DiskP.open hs
  refine xload h.drew 2 rfl rfl (xcall (used_spec hs.drew hsm hn) ?_)
  rintro v w' ⟨rfl, hq⟩
  have hb := takesAll_le hsm
  refine ⟨_, rfl, (h.drew.quiet hq).cell rfl, xlet D.free ?_ ⟨rfl, (Quiet.refl w).drew.trans hq⟩⟩
  unfold DD.free
  rw [wi (by omega) (by omega)]


theorem Up_spec (hs : Sat W w (DiskP d D :: L)) : Ret Tryz.prog F.disk_Disk_Up [ptr d] w fun v w' => v = .bool (!D.off) ∧ Quiet w w' := by
  refine S.disk_Disk_Up_ok _ _ _ (xjoin0 (XIf.yes rfl (xnil ?_)))
  obtain ⟨l, fs, ws, hl, h⟩ := DiskP.open hs
  exact xload h 4 rfl rfl ⟨rfl, Quiet.refl w⟩

def errOff (D : DD) : Int := if D.off then 14 else 0

theorem off_yes (h : D.off = true) : ((if D.off then 14 else 0 : Int) != 0) = true := by rw [h]; rfl
theorem off_no (h : D.off = false) : ((if D.off then 14 else 0 : Int) != 0) = false := by rw [h]; rfl
theorem off_14 (h : D.off = true) : (if D.off then 14 else 0 : Int) = 14 := by rw [h]; rfl

theorem Arm_spec (n : Int) (hs : Sat W w (DiskP d D :: L)) : Ret Tryz.prog F.disk_Disk_Arm [ptr d, .int .i64 n] w fun v w' =>
    (D.off = true → v = .int .i64 14 ∧ Sat W w' (DiskP d D :: L)) ∧ (D.off = false → n < 0 → v = .int .i64 1 ∧ Sat W w' (DiskP d D :: L)) ∧
    (D.off = false → 0 ≤ n → v = .int .i64 0 ∧ Sat W w' (DiskP d { D with fuse := n } :: L)) := by
  refine S.disk_Disk_Arm_ok _ _ _ _ (xcall (ready_spec hs) ?_)
  rintro v w' ⟨rfl, hq⟩
  have hs' := hs.quiet hq
  refine ⟨_, rfl, ?_⟩
  by_cases hoff : D.off = true
  · exact XIf.yes (off_yes hoff) ⟨fun _ => ⟨by rw [off_14 hoff], hs'⟩, fun h => absurd hoff (by rw [h]; decide), fun h => absurd hoff (by rw [h]; decide)⟩
  · have hoff' : D.off = false := by simpa using hoff
    refine XIf.no (off_no hoff') ?_
    by_cases hn : n < 0
    · exact XIf.yes (by simpa using hn) ⟨fun h => absurd h hoff, fun _ _ => ⟨rfl, hs'⟩, fun _ h => absurd hn (by omega)⟩
    · refine XIf.no (by simpa using hn) (xnil ?_)
      obtain ⟨l, fs, ws, hl, h⟩ := DiskP.open hs'
      refine xstore h 3 rfl (by simp) fun w'' h' => ⟨fun h => absurd h hoff, fun _ h => absurd h hn, fun _ _ => ⟨rfl, ?_⟩⟩
      exact DiskP.shut (D := { D with fuse := n }) hl h'

theorem grown_spec {s : Sl} {l : List UInt8} {n : Nat} (hs : Sat W w (own 1 s (bcells l) :: L)) (hn : n ≤ 2 ^ 40) :
    Ret Tryz.prog F.disk_grown [.slice s.a s.len s.cap, .int .i64 n] w fun v w' => ∃ s' : Sl, v = .slice s'.a s'.len s'.cap ∧ Sat W w' (own 1 s' (bcells (l ++ List.replicate (n - l.length) 0)) :: L) := by
  refine S.disk_grown_ok ⟨s.a, s.len, s.cap⟩ _ _ _ ?_
  refine xloop (fun st w => ∃ (s' : Sl) (l' : List UInt8), st = (s', ()) ∧ l' ++ List.replicate (n - l'.length) 0 = l ++ List.replicate (n - l.length) 0 ∧ Sat W w (own 1 s' (bcells l') :: L))
    (fun st => n - st.1.len) ⟨s, l, rfl, rfl, hs⟩ ?_
  rintro next _ w ⟨s', l', rfl, e, h⟩ hnext
  have hl : l'.length = s'.len := by have := h.own_len; rw [bcells_length] at this; omega
  by_cases hlt : s'.len < n
  · refine XIf.yes (by rw [decide_eq_true_iff]; (try dsimp only); omega) (xlet ((n - s'.len : Nat) : Int) (by (try dsimp only); rw [wi (by omega) (by omega)]; (try omega)) (xgrow (by kernel_rfl) h rfl (by (try dsimp only); omega) fun s'' w'' h'' hl'' => ?_))
    have hl3 : s''.len = s'.len + (n - s'.len) := hl''
    refine hnext _ w'' ⟨s'', _, rfl, ?_, h''⟩ (by (try dsimp only); omega)
    rw [← e]
    simp only [List.length_append, List.length_replicate, hl]
    rw [show n - (s'.len + (n - s'.len)) = 0 by omega]
    simp
  · refine XIf.no (by rw [decide_eq_false_iff_not]; (try dsimp only); omega) ⟨s', rfl, ?_⟩
    rw [← e, show n - l'.length = 0 by omega]
    simpa using h

/-- May a text be a name? -/
def nameB (s : ByteArray) : Bool := !(s.data.toList.isEmpty) && decide (s.size ≤ 24) && s.data.toList.all fun c => decide (33 ≤ c.toNat) && decide (c.toNat ≤ 126)

theorem sEq_empty (s : ByteArray) : sEq s ByteArray.empty = s.data.toList.isEmpty := by
  unfold sEq
  rw [ByteArray.toList_eq, ByteArray.toList_eq]
  cases h : s.data.toList with
  | nil => rfl
  | cons a l => rfl

theorem named_spec (s : ByteArray) (hs : Sat W w L) : Ret Tryz.prog F.disk_named [.string s] w fun v w' => v = .bool (nameB s) ∧ Sat W w' L := by
  refine S.disk_named_ok _ _ _ (xjoin0 ?_)
  by_cases h0 : s.data.toList.isEmpty = true
  · refine XIf.yes (by rw [sEq_empty]; exact h0) (XIf.yes rfl ⟨?_, hs⟩)
    simp [nameB, h0]
  · have h0' : s.data.toList.isEmpty = false := by simpa using h0
    refine XIf.no (by rw [sEq_empty]; exact h0') ?_
    by_cases h1 : s.size ≤ 24
    · refine XIf.no (by rw [decide_eq_false_iff_not]; (try dsimp only); omega) (xtobytes (by kernel_rfl) hs fun x w' h hlen => ?_)
      refine xloop (fun st w => ∃ k : Nat, st.2.1 = (k : Int) ∧ k ≤ s.size ∧ (s.data.toList.take k).all (fun c => decide (33 ≤ c.toNat) && decide (c.toNat ≤ 126)) = true ∧ Sat W w (own 1 x (bcells s.data.toList) :: L))
        (fun st => ((s.size : Int) - st.2.1).toNat) ⟨0, rfl, by omega, by simp, h⟩ ?_
      rintro next ⟨b, i, _⟩ w ⟨k, hk, hks, hall, h⟩ hnext
      simp only at hk
      subst hk
      have hsz : s.data.toList.length = s.size := by simp
      by_cases hlt : k < s.size
      · have hget : s.data.toList[k]? = some s.data.toList[k] := List.getElem?_eq_getElem (by omega)
        generalize s.data.toList[k] = c at hget
        refine XIf.yes (by rw [decide_eq_true_iff]; (try dsimp only); omega) (xelem h k rfl (x := (c.toNat : Int)) (by simp [readL, bcells, hget, Leaf.un]) (by show Int.toNat _ * 1 = _; simp) fun a => xjoin0 ?_)
        have hmem : c ∈ s.data.toList := List.mem_of_getElem? hget
        have hbad : ¬ (33 ≤ c.toNat ∧ c.toNat ≤ 126) → nameB s = false := fun hb => by
          have : (s.data.toList.all fun c => decide (33 ≤ c.toNat) && decide (c.toNat ≤ 126)) = false := by
            rw [List.all_eq_false]
            exact ⟨c, hmem, by simpa using hb⟩
          simp only [nameB, this, Bool.and_false]
        by_cases h33 : c.toNat < 33
        · refine XIf.yes (by rw [decide_eq_true_iff]; (try dsimp only); omega) (XIf.yes rfl ⟨by rw [hbad (by omega)], h.drop⟩)
        · refine XIf.no (by rw [decide_eq_false_iff_not]; (try dsimp only); omega) ?_
          by_cases h126 : c.toNat ≤ 126
          · refine XIf.no (by rw [decide_eq_false_iff_not]; (try dsimp only); omega) (xlet ((k + 1 : Nat) : Int) (by (try dsimp only); rw [wi (by omega) (by omega)]; (try omega)) (hnext _ _ ⟨k + 1, rfl, by omega, ?_, h⟩ (by (try dsimp only); omega)))
            rw [List.take_add_one, hget, List.all_append, hall]
            simp; omega
          · refine XIf.yes (by rw [decide_eq_true_iff]; (try dsimp only); omega) ⟨by rw [hbad (by omega)], h.drop⟩
      · refine XIf.no (by rw [decide_eq_false_iff_not]; (try dsimp only); omega) ⟨?_, h.drop⟩
        have : k = s.size := by omega
        rw [List.take_of_length_le (by omega)] at hall
        simp only [nameB, h0', hall]
        simp [h1]
    · refine XIf.yes (by rw [decide_eq_true_iff]; (try dsimp only); omega) ⟨?_, hs⟩
      simp [nameB, h1]

end
end Go.X

/-! The device's calls Size, Read, Write, Append. -/
namespace Go.X
open Go.Proofs

/-- What a write turns. -/
structure WS where
  seen : List UInt8
  wait : List DW
  fuse : Int
  count : Int
  off : Bool

def pieceLen (at_ n : Nat) : Nat := min n (64 - at_ % 64)

def burn (n : Int) : Int := if 0 < n then n - 1 else n

/-- A piece is taken. -/
def wstep (id : Int) (at_ : Nat) (t : List UInt8) (S : WS) : WS :=
  { seen := over (S.seen ++ List.replicate (at_ + t.length - S.seen.length) 0) at_ t
    wait := S.wait ++ [⟨id, at_, t⟩]
    fuse := burn S.fuse
    count := S.count + 1
    off := S.off }

def wr : Nat → Int → Nat → List UInt8 → WS → WS
  | 0, _, _, _, S => S
  | k + 1, id, at_, t, S =>
    if t = [] then S
    else if S.fuse = 0 then { S with off := true }
    else wr k id (at_ + pieceLen at_ t.length) (t.drop (pieceLen at_ t.length)) (wstep id at_ (t.take (pieceLen at_ t.length)) S)

theorem pieceLen_pos {at_ n : Nat} (h : 0 < n) : 0 < pieceLen at_ n := by unfold pieceLen; omega
theorem pieceLen_le (at_ n : Nat) : pieceLen at_ n ≤ n := by unfold pieceLen; omega

theorem wr_fuel : ∀ (k : Nat) (id : Int) (at_ : Nat) (t : List UInt8) (S : WS), t.length ≤ k → wr k id at_ t S = wr t.length id at_ t S
  | 0, id, at_, t, S, h => by
    have : t = [] := List.eq_nil_of_length_eq_zero (by omega)
    subst this; rfl
  | k + 1, id, at_, [], S, h => by simp [wr]
  | k + 1, id, at_, c :: t, S, h => by
    have hp := pieceLen_pos (at_ := at_) (n := (c :: t).length) (by simp)
    have hl : ((c :: t).drop (pieceLen at_ (c :: t).length)).length ≤ t.length := by
      rw [List.length_drop]; simp only [List.length_cons] at hp ⊢; omega
    simp only [List.length_cons] at h
    rw [wr, show (c :: t).length = t.length + 1 from rfl, wr]
    split
    · rfl
    · split
      · rfl
      · rw [show t.length + 1 = (c :: t).length from rfl, wr_fuel k _ _ _ _ (by omega), wr_fuel t.length _ _ _ _ hl]

def downE : Bool → Int
  | true => 14
  | false => 0

def DD.write (D : DD) (name : ByteArray) (at_ : Int) (t : List UInt8) : Int × DD :=
  if D.off then (14, D) else
  match behind name D.files with
  | [] => (8, D)
  | f :: rest =>
    if cmpS f.name name ≠ 0 then (8, D)
    else if at_ < 0 ∨ 2097152 - (t.length : Int) < at_ then (2, D)
    else if t ≠ [] ∧ D.free < (secs (at_.toNat + t.length) : Int) - f.takes then (7, D)
    else
      let R := wr t.length f.id at_.toNat t ⟨f.seen, D.wait, D.fuse, D.count, false⟩
      (downE R.off, { D with files := ahead name D.files ++ { f with seen := R.seen } :: rest, wait := R.wait, fuse := R.fuse, count := R.count, off := R.off })

theorem ext_list (s : ByteArray) (i j : Nat) : (s.extract i j).data.toList = (s.data.toList.take j).drop i := by
  rw [ByteArray.data_extract, Array.toList_extract, List.extract_eq_take_drop, List.drop_take]

theorem ext_str (s : ByteArray) (i j : Nat) : s.extract i j = str ((s.data.toList.take j).drop i) := by
  rw [← ext_list, str_data]

theorem size_list (s : ByteArray) : s.size = s.data.toList.length := by simp

theorem tmod64 (n : Nat) : Int.tmod (n : Int) 64 = ((n % 64 : Nat) : Int) := by
  rw [Int.tmod_eq_emod_of_nonneg (by omega)]; omega
theorem tdiv64 (n : Nat) : Int.tdiv (n : Int) 64 = ((n / 64 : Nat) : Int) := by
  rw [Int.tdiv_eq_ediv_of_nonneg (by omega)]; omega

section
variable {W w : World} {L : List SP} {d : Nat} {D : DD}

theorem Size_spec {name : ByteArray} (hs : Sat W w (DiskP d D :: L)) (hr : Rising D.files) (hn : D.files.length ≤ 2 ^ 40) :
    Ret Tryz.prog F.disk_Disk_Size [ptr d, .string name] w fun v w' => Quiet w w' ∧
      (D.off = true → v = .tuple ⟨[.int .i64 0, .int .i64 14]⟩) ∧
      (D.off = false → isHead name (behind name D.files) = false → v = .tuple ⟨[.int .i64 0, .int .i64 8]⟩) ∧
      (D.off = false → isHead name (behind name D.files) = true → ∀ f r, behind name D.files = f :: r → v = .tuple ⟨[.int .i64 f.seen.length, .int .i64 0]⟩) := by
  refine S.disk_Disk_Size_ok _ _ _ _ (xcall (ready_spec hs) ?_)
  rintro v w1 ⟨rfl, hq1⟩
  have hs1 := hs.quiet hq1
  refine ⟨_, rfl, ?_⟩
  by_cases hoff : D.off = true
  · exact XIf.yes (off_yes hoff) ⟨hq1, fun _ => by rw [off_14 hoff], fun h => absurd hoff (by rw [h]; decide), fun h => absurd hoff (by rw [h]; decide)⟩
  · have hoff' : D.off = false := by simpa using hoff
    refine XIf.no (off_no hoff') (xcall (find_spec (name := name) hs1 hr hn) ?_)
    rintro v w2 ⟨hno, hyes⟩
    cases hh : isHead name (behind name D.files) with
    | false =>
      obtain ⟨rfl, hq2⟩ := hno hh
      exact ⟨_, rfl, XIf.yes rfl ⟨hq1.trans hq2, fun h => absurd h hoff, fun _ _ => rfl, fun _ h => by cases h⟩⟩
    | true =>
      obtain ⟨l1, l2, p, f, fs, ws, rfl, e1, e2, hq2, h⟩ := hyes hh
      refine ⟨_, rfl, XIf.no rfl (xnil ?_)⟩
      obtain ⟨ls, ss, h2⟩ := FileP.open (FilesP.take (h.bring 2))
      have hl := FileP.lens (x := (p, f)) h2
      refine xload h2 3 rfl rfl ⟨hq1.trans hq2, fun h => absurd h hoff, (fun _ h => by cases h), fun _ _ g r hg => ?_⟩
      rw [hg] at e2
      obtain ⟨e3, _⟩ := List.cons.inj e2
      simp only at hl
      rw [← e3, ← hl.2]

theorem pl_int (at_ : Nat) (n : Nat) : (if ((64 : Int) - ((at_ % 64 : Nat) : Int)) < ((n : Nat) : Int) then ((64 : Int) - ((at_ % 64 : Nat) : Int)) else ((n : Nat) : Int)) = ((pieceLen at_ n : Nat) : Int) := by
  unfold pieceLen; split <;> omega

theorem burn_yes {n : Int} (h : 0 < n) : burn n = n - 1 := if_pos h
theorem burn_no {n : Int} (h : ¬ 0 < n) : burn n = n := if_neg h

theorem str_take (t : List UInt8) (m : Nat) : ByteArray.extract (str t) 0 m = str (t.take m) := by rw [ext_str, str_toList, List.drop_zero]
theorem str_drop (t : List UInt8) (m n : Nat) (h : t.length ≤ n) : ByteArray.extract (str t) m n = str (t.drop m) := by rw [ext_str, str_toList, List.take_of_length_le h]

theorem wcells_len (l : List DW) : (l.flatMap wcells).length = l.length * 4 := by
  induction l with
  | nil => rfl
  | cons p l ih => simp only [List.flatMap_cons, List.length_append, ih, List.length_cons]; simp [wcells]; omega

/-- A device's parts in memory, one of its files apart from the others. -/
def parts (d : Nat) (D : DD) (ps : List Nat) (l : List (Nat × DF)) (fs ws : Sl) (fuse count : Int) (off : Bool) (wait : List DW) (L : List SP) : List SP :=
  pts d [.slice fs.a fs.len fs.cap, .slice ws.a ws.len ws.cap, .int .i64 D.most, .int .i64 fuse, .bool off, .int .i64 count, .int .i64 D.made] ::
    own 1 fs (ps.map ptr) :: FilesP l :: own 4 ws (wait.flatMap wcells) :: L

theorem over_length {l t : List UInt8} {k : Nat} (h : k + t.length ≤ l.length) : (over l k t).length = l.length := by
  simp [over]; omega

theorem Write_spec {name : ByteArray} {at_ : Int} {t : ByteArray} (hs : Sat W w (DiskP d D :: L)) (hr : Rising D.files) (hsm : Small D.files) (hn : D.files.length ≤ 2 ^ 30) (hm : 0 ≤ D.most ∧ D.most ≤ 32768)
    (hfuse : D.fuse ≤ 9223372036854775807) (hfuse0 : -1 ≤ D.fuse) (hcount0 : 0 ≤ D.count) (hcount : D.count + t.size ≤ 2 ^ 60) (hwait : D.wait.length + t.size ≤ 2 ^ 38) :
    Ret Tryz.prog F.disk_Disk_Write [ptr d, .string name, .int .i64 at_, .string t] w fun v w' => v = .int .i64 (D.write name at_ t.data.toList).1 ∧ Sat W w' (DiskP d (D.write name at_ t.data.toList).2 :: L) := by
  suffices H : ∀ K : Value → World → Prop, (∀ v w', v = .int .i64 (D.write name at_ t.data.toList).1 ∧ Sat W w' (DiskP d (D.write name at_ t.data.toList).2 :: L) → K v w') →
      S.disk_Disk_Write (some ⟨d, 0, none⟩) name at_ t K w from S.disk_Disk_Write_ok _ _ _ _ _ _ (H _ fun _ _ h => h)
  intro K hK
  refine xcall (ready_spec hs) ?_
  rintro v w1 ⟨rfl, hq1⟩
  have hs1 := hs.quiet hq1
  refine ⟨_, rfl, ?_⟩
  by_cases hoff : D.off = true
  · refine XIf.yes (off_yes hoff) ?_
    have : D.write name at_ t.data.toList = (14, D) := by unfold DD.write; rw [if_pos hoff]
    rw [this] at hK
    exact hK _ _ ⟨by rw [off_14 hoff], hs1⟩
  have hoff' : D.off = false := by simpa using hoff
  refine XIf.no (off_no hoff') (xcall (find_spec (name := name) hs1 hr (by omega)) ?_)
  rintro v w2 ⟨hno, hyes⟩
  cases hh : isHead name (behind name D.files) with
  | false =>
    obtain ⟨rfl, hq2⟩ := hno hh
    have hs2 := hs1.quiet hq2
    refine ⟨_, rfl, XIf.yes rfl ?_⟩
    have : D.write name at_ t.data.toList = (8, D) := by
      unfold DD.write
      rw [if_neg hoff]
      split
      · rfl
      · rename_i f r hb
        rw [hb] at hh
        simp only [isHead, decide_eq_false_iff_not] at hh
        rw [if_pos hh]
    rw [this] at hK
    exact hK _ _ ⟨rfl, hs2⟩
  | true =>
    obtain ⟨l1, l2, p, f, fs, ws, rfl, e1, e2, hq2, h⟩ := hyes hh
    have hfiles : (l1 ++ (p, f) :: l2).map (·.2) = D.files := by rw [List.map_append, List.map_cons, e1, e2, ahead_behind]
    have hname : ¬ cmpS f.name name ≠ 0 := by
      rw [← e2] at hh
      simpa [isHead] using hh
    have hfm : f.seen.length ≤ 2097152 ∧ f.last.length ≤ 2097152 := hsm f (by rw [← hfiles]; simp)
    have hsz : t.size = t.data.toList.length := size_list t
    refine ⟨_, rfl, XIf.no rfl ?_⟩
    have hwrite : D.write name at_ t.data.toList = (if at_ < 0 ∨ 2097152 - (t.data.toList.length : Int) < at_ then (2, D)
        else if t.data.toList ≠ [] ∧ D.free < (secs (at_.toNat + t.data.toList.length) : Int) - f.takes then (7, D)
        else
          let R := wr t.data.toList.length f.id at_.toNat t.data.toList ⟨f.seen, D.wait, D.fuse, D.count, false⟩
          (downE R.off, { D with files := ahead name D.files ++ { f with seen := R.seen } :: l2.map (·.2), wait := R.wait, fuse := R.fuse, count := R.count, off := R.off })) := by
      unfold DD.write
      rw [if_neg hoff, ← e2]
      simp only [if_neg hname]
    have hsat := DiskP.shut hfiles h
    have htl : t.data.toList.length ≤ 2 ^ 38 := by omega
    refine xjoin (fun (s : Bool × Unit) w => s.1 = decide (at_ < 0 ∨ 2097152 - (t.data.toList.length : Int) < at_) ∧ w = w2) (fun J hJ => ?_) ?_
    · by_cases h0 : at_ < 0
      · exact XIf.yes (by simpa using h0) (hJ _ _ ⟨by simp [h0], rfl⟩)
      · refine XIf.no (by simpa using h0) (xlet (2097152 - (t.data.toList.length : Int)) (by rw [hsz, wi (by omega) (by omega)]) (hJ _ _ ⟨?_, rfl⟩))
        simp [h0]
    rintro ⟨b, _⟩ w3 ⟨hb, rfl⟩
    simp only at hb
    subst hb
    by_cases hrange : at_ < 0 ∨ 2097152 - (t.data.toList.length : Int) < at_
    · refine XIf.yes (by simpa using hrange) ?_
      rw [hwrite, if_pos hrange] at hK
      exact hK _ _ ⟨rfl, hsat⟩
    rw [if_neg hrange] at hwrite
    refine XIf.no (by simpa using hrange) ?_
    obtain ⟨at', rfl⟩ : ∃ n : Nat, at_ = n := ⟨at_.toNat, by omega⟩
    simp only [Int.toNat_natCast] at hwrite
    have hat : at' + t.data.toList.length ≤ 2097152 := by omega
    obtain ⟨ls, ss, h2⟩ := FileP.open (FilesP.take (h.bring 2))
    obtain ⟨hls, hss⟩ := FileP.lens (x := (p, f)) h2
    simp only at hls hss
    refine xlet ((at' + t.data.toList.length : Nat) : Int) (by rw [hsz, wi (by omega) (by omega)]; omega) (xnil (xload h2.drew 3 rfl rfl (xnil (xload h2.drew 2 rfl rfl ?_))))
    refine xlet ((max f.seen.length f.last.length : Nat) : Int) (by rw [max_if, hls, hss]) (xcall (sectors_spec _ (by omega)) ?_)
    rintro v w4 ⟨rfl, rfl⟩
    refine ⟨_, rfl, h2.drew.cell rfl, h2.drew.cell rfl, xcall (sectors_spec _ (by omega)) ?_⟩
    rintro v w4 ⟨rfl, rfl⟩
    refine ⟨_, rfl, h2.drew.cell rfl, h2.drew.cell rfl, xlet ((secs (at' + t.data.toList.length) : Int) - f.takes) ?_ ?_⟩
    · have h1 := secs_le (n := at' + t.data.toList.length) (m := 32768) (by omega)
      have h2 := takes_le hfm
      show IntKind.wrap .i64 ((secs (at' + t.data.toList.length) : Int) - (f.takes : Int)) = _
      rw [wi (by omega) (by omega)]
    refine xjoin (fun (s : Bool × Unit) w => s.1 = decide (t.data.toList ≠ [] ∧ D.free < (secs (at' + t.data.toList.length) : Int) - f.takes) ∧ Quiet w3 w) (fun J hJ => ?_) ?_
    · by_cases h0 : 0 < t.data.toList.length
      · refine XIf.yes (by rw [hsz]; simpa using h0) (xcall (Free_spec hsat.drew hsm hn hm) ?_)
        rintro v w5 ⟨rfl, hq5⟩
        refine ⟨_, rfl, hJ _ _ ⟨?_, (Quiet.refl w3).drew.trans hq5⟩⟩
        have : t.data.toList ≠ [] := fun e => by rw [e] at h0; simp at h0
        simp [this]
      · refine XIf.no (by rw [hsz]; simpa using h0) (hJ _ _ ⟨?_, (Quiet.refl w3).drew⟩)
        have : t.data.toList = [] := List.eq_nil_of_length_eq_zero (by omega)
        simp [this]
    rintro ⟨b, _⟩ w5 ⟨hb, hq5⟩
    simp only at hb
    subst hb
    have hs5 := hsat.quiet hq5
    have h := h.quiet hq5
    by_cases hfull : t.data.toList ≠ [] ∧ D.free < (secs (at' + t.data.toList.length) : Int) - f.takes
    · refine XIf.yes (by simpa using hfull) ?_
      rw [hwrite, if_pos hfull] at hK
      exact hK _ _ ⟨rfl, hs5⟩
    refine XIf.no (by simpa using hfull) ?_
    rw [hwrite, if_neg hfull] at hK
    clear hwrite hs5 hsat hs hs1 hyes hno
    obtain ⟨R, hR⟩ : ∃ R, wr t.data.toList.length f.id at' t.data.toList ⟨f.seen, D.wait, D.fuse, D.count, false⟩ = R := ⟨_, rfl⟩
    rw [hR] at hK
    have hps : (l1 ++ (p, f) :: l2).map (fun x => ptr x.1) = ((l1 ++ (p, f) :: l2).map (·.1)).map ptr := by rw [List.map_map]; rfl
    obtain ⟨ps, hpsd⟩ : ∃ ps, (l1 ++ (p, f) :: l2).map (fun x => ptr x.1) = ps := ⟨_, rfl⟩
    rw [hpsd] at h
    have fin : ∀ (w : World) (ws : Sl) (S : WS), Sat W w (pts d [.slice fs.a fs.len fs.cap, .slice ws.a ws.len ws.cap, .int .i64 D.most, .int .i64 S.fuse, .bool S.off, .int .i64 S.count, .int .i64 D.made] ::
        own 1 fs ps :: FilesP (l1 ++ (p, { f with seen := S.seen }) :: l2) :: own 4 ws (S.wait.flatMap wcells) :: L) →
        Sat W w (DiskP d { D with files := ahead name D.files ++ { f with seen := S.seen } :: l2.map (·.2), wait := S.wait, fuse := S.fuse, count := S.count, off := S.off } :: L) := by
      intro w ws S h
      refine DiskP.shut (l := l1 ++ (p, { f with seen := S.seen }) :: l2) (fs := fs) (ws := ws) ?_ ?_
      · rw [List.map_append, List.map_cons, e1]
      · rw [show (l1 ++ (p, { f with seen := S.seen }) :: l2).map (fun x => ptr x.1) = ps from by rw [← hpsd]; simp]
        exact h
    refine xloop (fun (st : Int × ByteArray × Int × Unit) w => ∃ (k : Nat) (u : List UInt8) (S : WS) (ws : Sl) (n : Int), st = ((k : Int), str u, n, ()) ∧ wr u.length f.id k u S = R ∧ S.off = false ∧
        k + u.length ≤ 2097152 ∧ -1 ≤ S.fuse ∧ S.fuse ≤ 9223372036854775807 ∧ 0 ≤ S.count ∧ S.count + u.length ≤ 2 ^ 60 ∧ S.wait.length + u.length ≤ 2 ^ 38 ∧
        Sat W w (pts d [.slice fs.a fs.len fs.cap, .slice ws.a ws.len ws.cap, .int .i64 D.most, .int .i64 S.fuse, .bool S.off, .int .i64 S.count, .int .i64 D.made] ::
          own 1 fs ps :: FilesP (l1 ++ (p, { f with seen := S.seen }) :: l2) :: own 4 ws (S.wait.flatMap wcells) :: L))
      (fun st => st.2.1.size) ⟨at', t.data.toList, ⟨f.seen, D.wait, D.fuse, D.count, false⟩, ws, 0, by rw [str_data], hR, rfl, hat, hfuse0, hfuse, hcount0, (by (try dsimp only); omega), (by (try dsimp only); omega), by rw [← hoff']; exact h⟩ ?_
    clear h hR hpsd hps hq5 hq2 hq1 h2 hfull hls hss
    rintro next _ w ⟨k, u, S, ws, n, rfl, hR, hSoff, hk, hf1, hf2, hc1, hc2, hw2, h⟩ hnext
    have hul : (str u).size = u.length := str_size u
    by_cases hu : u = []
    · subst hu
      refine XIf.no (by rw [hul]; rfl) ?_
      have : S = R := by rw [← hR]; rfl
      subst this
      refine hK _ _ ⟨?_, fin w ws S h⟩
      rw [hSoff]; rfl
    have hupos : 0 < u.length := List.length_pos_iff.2 hu
    obtain ⟨m, hm'⟩ : ∃ m, pieceLen k u.length = m := ⟨_, rfl⟩
    refine XIf.yes (by rw [hul]; simpa using hupos) ⟨by decide, xlet ((k % 64 : Nat) : Int) (tmod64 k) (xlet ((64 : Int) - ((k % 64 : Nat) : Int)) (by (try dsimp only); rw [wi (by omega) (by omega)]; (try omega)) (xlet (m : Int) (by rw [hul, ← hm']; exact pl_int k u.length) (xnil (xload h 3 rfl rfl ?_))))⟩
    have hm0 : 0 < m := hm' ▸ pieceLen_pos hupos
    have hm1 : m ≤ u.length := hm' ▸ pieceLen_le _ _
    by_cases hfz : S.fuse = 0
    · refine XIf.yes (by simpa using hfz) (xnil (xstore h 4 rfl (by simp) fun w' h' => ?_))
      have hRe : R = { S with off := true } := by
        rw [← hR, show u.length = (u.length - 1) + 1 by omega, wr, if_neg hu, if_pos hfz]
      subst hRe
      exact hK _ _ ⟨rfl, fin w' ws { S with off := true } h'⟩
    refine XIf.no (by simpa using hfz) ?_
    have hRs : wr (u.length - m) f.id (k + m) (u.drop m) (wstep f.id k (u.take m) S) = R := by
      obtain ⟨c, u', rfl⟩ : ∃ c u', u = c :: u' := by cases u with
        | nil => exact absurd rfl hu
        | cons c u' => exact ⟨c, u', rfl⟩
      rw [← hR]
      simp only [List.length_cons] at hm' ⊢
      rw [wr, if_neg hu, if_neg hfz]
      simp only [List.length_cons, hm']
      rw [wr_fuel u'.length _ _ _ _ (by rw [List.length_drop]; simp only [List.length_cons]; omega), List.length_drop]
      rfl
    refine xjoin (fun _ w => Sat W w (pts d [.slice fs.a fs.len fs.cap, .slice ws.a ws.len ws.cap, .int .i64 D.most, .int .i64 (burn S.fuse), .bool S.off, .int .i64 S.count, .int .i64 D.made] ::
          own 1 fs ps :: FilesP (l1 ++ (p, { f with seen := S.seen }) :: l2) :: own 4 ws (S.wait.flatMap wcells) :: L)) (fun J hJ => ?_) ?_
    · refine xnil (xload h 3 rfl rfl ?_)
      by_cases hpos : 0 < S.fuse
      · refine XIf.yes (by simpa using hpos) (xnil (xload h 3 rfl rfl (xlet (S.fuse - 1) (wi (by omega) (by omega)) (xnil (xstore h 3 rfl (by simp) fun w' h' => hJ _ _ ?_)))))
        rw [burn_yes hpos]
        exact h'
      · refine XIf.no (by simpa using hpos) (hJ _ _ ?_)
        rw [burn_no hpos]
        exact h
    clear h
    rintro _ w' h
    refine xnil (xload h 5 rfl rfl (xlet (S.count + 1) (wi (by omega) (by omega)) (xnil (xstore h 5 rfl (by simp) fun w' h => xnil (xload h.drew 1 rfl rfl (xnil ?_))))))
    obtain ⟨ls, ss, h2⟩ := FileP.open (FilesP.take (h.drew.bring 2))
    obtain ⟨_, hss⟩ := FileP.lens (x := (p, { f with seen := S.seen })) h2
    simp only at hss
    refine xload h2 0 rfl rfl ⟨by decide, xlet ((k / 64 : Nat) : Int) (by rw [tdiv64, wi (by omega) (by omega)]) ⟨by decide, xlet ((k % 64 : Nat) : Int) (tmod64 k) ⟨⟨⟨by omega, by rw [hul]; omega⟩, by omega, by omega⟩, xlet (str (u.take m)) (by rw [Int.toNat_natCast, str_take]) ?_⟩⟩⟩
    refine xnew h2 fun b w' h => ⟨(h.bring 1).cell rfl, (h.bring 5).cell rfl, ?_⟩
    refine xappend (x := ⟨some ⟨b, 0, none⟩, 1, 1⟩) (by kernel_rfl) (h.bring 7) (reads_pts h) rfl (fun h => by cases h) rfl ?_ fun ws' w' h hws => ?_
    · have := (h.bring 7).own_len
      rw [wcells_len] at this
      show ws.len + 1 ≤ _
      omega
    refine ⟨(h.bring 2).cell rfl, xnil (xstore (h.bring 6) 1 rfl (by simp) fun w' h => xnil (xload (h.bring 3) 3 rfl rfl ?_))⟩
    refine xlet ((k + m : Nat) : Int) (by rw [wi (by omega) (by omega)]; omega) (xcall (grown_spec (h.bring 5) (by omega)) ?_)
    rintro v w' ⟨ss', rfl, h⟩
    refine ⟨ss', rfl, xnil (xstore (h.bring 4) 3 rfl (by simp) fun w' h => xnil (xload h.drew 3 rfl rfl ?_))⟩
    have hgl := (h.bring 1).own_len
    have hgl2 : ss'.len = max (k + m) S.seen.length := by
      rw [bcells_length, List.length_append, List.length_replicate] at hgl
      dsimp only at hgl
      omega
    refine ⟨⟨⟨by omega, by omega⟩, by omega, by show (k : Int) ≤ (ss'.len : Int); omega⟩, xlet0 ?_⟩
    refine ⟨⟨⟨by omega, by rw [hul]; omega⟩, by omega, by omega⟩, xlet (str (u.take m)) (by rw [Int.toNat_natCast, str_take]) ?_⟩
    have htl : (u.take m).length = m := by rw [List.length_take]; omega
    refine xcopyS (k := k) (by kernel_rfl) (h.drew.bring 1) (fun b hb hk => ?_) ?_ ?_ fun w' h => ?_
    · show (if ss'.cap = Int.toNat (k : Int) then ss'.a else Option.map (fun b => Addr.add b (Int.toNat (k : Int) * 1)) ss'.a) = _
      rw [Int.toNat_natCast]
      exact view_ptr hb hk
    · rw [str_size, htl, List.length_append, List.length_replicate]; omega
    · show Int.toNat ((ss'.len : Nat) : Int) - Int.toNat (k : Int) = _
      omega
    rw [str_toList] at h
    refine ⟨(h.bring 1).cell rfl, xlet ((k + m : Nat) : Int) (by rw [wi (by omega) (by omega)]; omega) ⟨⟨⟨by omega, by omega⟩, by omega, by rw [hul]; omega⟩, xlet (str (u.drop m)) ?_ ?_⟩⟩
    · rw [hul, Int.toNat_natCast, Int.toNat_natCast, str_drop _ _ _ (Nat.le_refl _)]
    refine hnext _ _ ⟨k + m, u.drop m, wstep f.id k (u.take m) S, ws', n, rfl, ?_, hSoff, ?_, ?_, ?_, ?_, ?_, ?_, ?_⟩ ?_
    · rw [List.length_drop]; exact hRs
    · rw [List.length_drop]; omega
    · show -1 ≤ burn S.fuse
      unfold burn; split <;> omega
    · show burn S.fuse ≤ _
      unfold burn; split <;> omega
    · show 0 ≤ S.count + 1
      omega
    · show S.count + 1 + ((u.drop m).length : Int) ≤ _
      rw [List.length_drop]; omega
    · show (S.wait ++ [_]).length + _ ≤ _
      rw [List.length_drop, List.length_append]; simp only [List.length_singleton]; omega
    · have h5 := (h.drew.arr [4, 1, 5, 0, 6, 2, 7, 3]).drop
      have h6 := (FilesP.put (FileP.shut (f := { f with seen := over (S.seen ++ List.replicate (k + m - S.seen.length) 0) k (u.take m) }) h5)).arr [1, 2, 0, 3]
      have e3 : (wstep f.id k (u.take m) S).seen = over (S.seen ++ List.replicate (k + m - S.seen.length) 0) k (u.take m) := by
        simp only [wstep, htl]
      have e4 : (wstep f.id k (u.take m) S).wait.flatMap wcells = S.wait.flatMap wcells ++ wcells ⟨f.id, k, u.take m⟩ := by
        simp [wstep]
      rw [e3, e4]
      exact h6
    · show (str (u.drop m)).size < (str u).size
      rw [str_size, str_size, List.length_drop]; omega

end
end Go.X

/-! The device's calls Read and Append; a file's bytes last. -/
namespace Go.X
open Go.Proofs

def DD.read (D : DD) (name : ByteArray) (at_ n : Int) : List UInt8 × Int :=
  if D.off then ([], 14) else
  match behind name D.files with
  | [] => ([], 8)
  | f :: _ =>
    if cmpS f.name name ≠ 0 then ([], 8)
    else if at_ < 0 ∨ n < 0 then ([], 2)
    else ((f.seen.drop at_.toNat).take n.toNat, 0)

def DD.append (D : DD) (name : ByteArray) (t : List UInt8) : Int × DD :=
  if D.off then (14, D) else
  match behind name D.files with
  | [] => (8, D)
  | f :: _ => if cmpS f.name name ≠ 0 then (8, D) else D.write name f.seen.length t

section
variable {W w : World} {L : List SP} {d : Nat} {D : DD}

theorem isHead_cons {name : ByteArray} {f : DF} {r : List DF} (h : isHead name (f :: r) = true) : ¬ cmpS f.name name ≠ 0 := by simpa [isHead] using h

theorem behind_no {name : ByteArray} {fs : List DF} (h : isHead name (behind name fs) = false) : behind name fs = [] ∨ ∃ f r, behind name fs = f :: r ∧ cmpS f.name name ≠ 0 := by
  cases hb : behind name fs with
  | nil => exact .inl rfl
  | cons f r =>
    rw [hb] at h
    simp only [isHead, decide_eq_false_iff_not] at h
    exact .inr ⟨f, r, rfl, h⟩

theorem str_nil : str [] = ByteArray.empty := rfl

theorem Read_spec {name : ByteArray} {at_ n : Int} (hs : Sat W w (DiskP d D :: L)) (hr : Rising D.files) (hsm : Small D.files) (hn : D.files.length ≤ 2 ^ 30) :
    Ret Tryz.prog F.disk_Disk_Read [ptr d, .string name, .int .i64 at_, .int .i64 n] w fun v w' => v = .tuple ⟨[.string (str (D.read name at_ n).1), .int .i64 (D.read name at_ n).2]⟩ ∧ Quiet w w' := by
  suffices H : ∀ K : Value → World → Prop, (∀ v w', v = .tuple ⟨[.string (str (D.read name at_ n).1), .int .i64 (D.read name at_ n).2]⟩ ∧ Quiet w w' → K v w') →
      S.disk_Disk_Read (some ⟨d, 0, none⟩) name at_ n K w from S.disk_Disk_Read_ok _ _ _ _ _ _ (H _ fun _ _ h => h)
  intro K hK
  refine xcall (ready_spec hs) ?_
  rintro v w1 ⟨rfl, hq1⟩
  refine ⟨_, rfl, ?_⟩
  by_cases hoff : D.off = true
  · refine XIf.yes (off_yes hoff) (hK _ _ ⟨?_, hq1⟩)
    have : D.read name at_ n = ([], 14) := by unfold DD.read; rw [if_pos hoff]
    rw [this, off_14 hoff]
    rfl
  have hoff' : D.off = false := by simpa using hoff
  refine XIf.no (off_no hoff') (xcall (find_spec (name := name) (hs.quiet hq1) hr (by omega)) ?_)
  rintro v w2 ⟨hno, hyes⟩
  cases hh : isHead name (behind name D.files) with
  | false =>
    obtain ⟨rfl, hq2⟩ := hno hh
    refine ⟨_, rfl, XIf.yes rfl (hK _ _ ⟨?_, hq1.trans hq2⟩)⟩
    have : D.read name at_ n = ([], 8) := by
      unfold DD.read
      rw [if_neg hoff]
      rcases behind_no hh with hb | ⟨f, r, hb, hc⟩
      · rw [hb]
      · rw [hb]; simp only [if_pos hc]
    rw [this]
    rfl
  | true =>
    obtain ⟨l1, l2, p, f, fs, ws, rfl, e1, e2, hq2, h⟩ := hyes hh
    have hfiles : (l1 ++ (p, f) :: l2).map (·.2) = D.files := by rw [List.map_append, List.map_cons, e1, e2, ahead_behind]
    have hfm : f.seen.length ≤ 2097152 ∧ f.last.length ≤ 2097152 := hsm f (by rw [← hfiles]; simp)
    have hread : D.read name at_ n = if at_ < 0 ∨ n < 0 then ([], 2) else ((f.seen.drop at_.toNat).take n.toNat, 0) := by
      unfold DD.read
      rw [← e2] at hh
      rw [if_neg hoff, ← e2]
      simp only [if_neg (isHead_cons hh)]
    have hq := hq1.trans hq2
    refine ⟨_, rfl, XIf.no rfl ?_⟩
    refine xjoin (fun (s : Bool × Unit) w => s.1 = decide (at_ < 0 ∨ n < 0) ∧ w = w2) (fun J hJ => ?_) ?_
    · by_cases h0 : at_ < 0
      · exact XIf.yes (by simpa using h0) (hJ _ _ ⟨by simp [h0], rfl⟩)
      · exact XIf.no (by simpa using h0) (hJ _ _ ⟨by simp [h0], rfl⟩)
    rintro ⟨b, _⟩ w3 ⟨hb, rfl⟩
    simp only at hb
    subst hb
    by_cases hrange : at_ < 0 ∨ n < 0
    · refine XIf.yes (by simpa using hrange) (hK _ _ ⟨?_, hq⟩)
      rw [hread, if_pos hrange]; rfl
    refine XIf.no (by simpa using hrange) (xnil ?_)
    rw [if_neg hrange] at hread
    obtain ⟨k, rfl⟩ : ∃ k : Nat, at_ = k := ⟨at_.toNat, by omega⟩
    obtain ⟨m, rfl⟩ : ∃ m : Nat, n = m := ⟨n.toNat, by omega⟩
    simp only [Int.toNat_natCast] at hread
    obtain ⟨ls, ss, h2⟩ := FileP.open (FilesP.take (h.bring 2))
    obtain ⟨hls, hss⟩ := FileP.lens (x := (p, f)) h2
    simp only at hls hss
    refine xload h2 3 rfl rfl ?_
    by_cases hend : f.seen.length ≤ k
    · refine XIf.yes (decide_eq_true (show (k : Int) ≥ (ss.len : Int) by omega)) (hK _ _ ⟨?_, hq⟩)
      rw [hread, List.drop_eq_nil_of_le hend, List.take_nil]; rfl
    refine XIf.no (decide_eq_false (show ¬ ((k : Int) ≥ (ss.len : Int)) by omega)) (xnil (xload h2.drew 3 rfl rfl (xnil (xload h2.drew 3 rfl rfl ?_))))
    refine xlet ((ss.len : Int) - k) (wi (n := (ss.len : Int) - k) (by omega) (by omega)) (xlet ((min m (ss.len - k) : Nat) : Int) ?_ (xlet ((k + min m (ss.len - k) : Nat) : Int) ?_ ?_))
    · split <;> omega
    · rw [wi (by omega) (by omega)]; omega
    have hcap : ss.len ≤ ss.cap := by
      rcases (h2.bring 2).open_own with ⟨_, h1, h2, _⟩ | ⟨_, _, _, _, _, h3, _⟩
      · omega
      · exact h3
    refine ⟨⟨⟨by omega, by show ((k + min m (ss.len - k) : Nat) : Int) ≤ (ss.cap : Int); omega⟩, by omega, by omega⟩, xlet0 ?_⟩
    have hb2 : Int.toNat ((k + min m (ss.len - k) : Nat) : Int) - Int.toNat (k : Int) = min m (ss.len - k) := by omega
    refine (show XBytes (if ss.cap = Int.toNat (k : Int) then ss.a else Option.map (fun b => Addr.add b (Int.toNat (k : Int) * 1)) ss.a) (Int.toNat ((k + min m (ss.len - k) : Nat) : Int) - Int.toNat (k : Int)) _ _ from ?_)
    rw [hb2, Int.toNat_natCast]
    refine xbytes (h2.drew.bring 2) (fun b hb hk => by rw [view_ptr hb hk, Nat.mul_one]) (fun h0 => by rw [h0]; simp) (by rw [← hss]; omega) (fun hc => if_pos hc) (hK _ _ ⟨?_, hq.drew⟩)
    rw [hread, hss]
    congr 3
    have : (f.seen.drop k).take (min m (f.seen.length - k)) = (f.seen.drop k).take m := by
      rw [← List.length_drop, List.take_eq_take_iff]
      simp
    rw [this]


/-- A piece lasts, or its first bytes: what becomes of a file. -/
def lastF (p : DW) (n : Nat) (f : DF) : DF :=
  if f.id = p.id ∧ 0 < n then { f with last := over (f.last ++ List.replicate (p.at_ + n - f.last.length) 0) p.at_ (p.text.take n) } else f

def lastX (p : DW) (n : Nat) (x : Nat × DF) : Nat × DF := (x.1, lastF p n x.2)

theorem last_spec {fs : Sl} {l : List (Nat × DF)} {rest : List Value} (p : DW) (n : Nat) (hs : Sat W w (pts d (.slice fs.a fs.len fs.cap :: rest) :: own 1 fs (l.map fun x => ptr x.1) :: FilesP l :: L))
    (hp : p.at_ + n ≤ 2097152) (hn : n ≤ p.text.length) (hl : l.length ≤ 2 ^ 40) :
    Ret Tryz.prog F.disk_Disk_last [ptr d, .agg ⟨wcells p⟩, .int .i64 n] w fun v w' => v = .tuple ⟨[]⟩ ∧ Sat W w' (pts d (.slice fs.a fs.len fs.cap :: rest) :: own 1 fs (l.map fun x => ptr x.1) :: FilesP (l.map (lastX p n)) :: L) := by
  suffices H : ∀ K : Value → World → Prop, (∀ v w', v = .tuple ⟨[]⟩ ∧ Sat W w' (pts d (.slice fs.a fs.len fs.cap :: rest) :: own 1 fs (l.map fun x => ptr x.1) :: FilesP (l.map (lastX p n)) :: L) → K v w') →
      S.disk_Disk_last (some ⟨d, 0, none⟩) (p.id, ((p.at_ / 64 : Nat) : Int), ((p.at_ % 64 : Nat) : Int), (⟨p.text.toArray⟩ : ByteArray), ()) n K w from S.disk_Disk_last_ok (some ⟨d, 0, none⟩) (p.id, ((p.at_ / 64 : Nat) : Int), ((p.at_ % 64 : Nat) : Int), (⟨p.text.toArray⟩ : ByteArray), ()) n _ w (H _ fun _ _ h => h)
  intro K hK
  have hlen : fs.len = l.length := by have := (hs.bring 1).own_len; simpa using this.symm
  have hps : ∀ l1 : List (Nat × DF), (l1.map (lastX p n)).map (fun x => ptr x.1) = l1.map fun x => ptr x.1 := fun l1 => by rw [List.map_map]; rfl
  refine xnew hs fun b w1 h => xnil (xload (h.bring 1) 0 rfl rfl ?_)
  refine xloop (fun (st : Int × Unit) w => ∃ l1 l2 : List (Nat × DF), l = l1 ++ l2 ∧ st = ((l1.length : Int), ()) ∧
      Sat W w (pts b (wcells p) :: pts d (.slice fs.a fs.len fs.cap :: rest) :: own 1 fs (l.map fun x => ptr x.1) :: FilesP (l1.map (lastX p n) ++ l2) :: L))
    (fun st => ((fs.len : Int) - st.1).toNat) ⟨[], l, rfl, rfl, h⟩ ?_
  clear h
  rintro next _ w ⟨l1, l2, e, rfl, h⟩ hnext
  cases l2 with
  | nil =>
    rw [List.append_nil] at e
    subst e
    refine XIf.no (decide_eq_false (show ¬ ((l.length : Int) < (fs.len : Int)) by omega)) (hK _ _ ⟨rfl, ?_⟩)
    have := h.drop
    rw [List.append_nil] at this
    exact this
  | cons x l2 =>
    have hlt : l1.length < l.length := by rw [e]; simp
    refine XIf.yes (decide_eq_true (show (l1.length : Int) < (fs.len : Int) by omega)) ?_
    refine xjoin (fun _ w => Sat W w (pts b (wcells p) :: pts d (.slice fs.a fs.len fs.cap :: rest) :: own 1 fs (l.map fun x => ptr x.1) :: FilesP (l1.map (lastX p n) ++ lastX p n x :: l2) :: L)) (fun J hJ => ?_) ?_
    case refine_2 =>
      rintro _ w' h'
      refine xlet ((l1.length + 1 : Nat) : Int) (by rw [wi (by omega) (by omega)]; omega) (hnext _ _ ⟨l1 ++ [x], l2, by simp [e], by simp, ?_⟩ (by dsimp only; omega))
      simpa using h'
    refine xelem (h.bring 2) l1.length rfl (x := some ⟨x.1, 0, none⟩) (by simp [readL, e, ptr, Leaf.un]) (by show Int.toNat _ * 1 = _; simp) fun a => ?_
    obtain ⟨q, f⟩ := x
    obtain ⟨ls, ss, h2⟩ := FileP.open (FilesP.take (h.bring 3))
    obtain ⟨hls, _⟩ := FileP.lens (x := (q, f)) h2
    simp only at hls
    refine xjoin (fun (s : Bool × Unit) w' => s.1 = decide (f.id = p.id ∧ 0 < n) ∧ w' = w.drew) (fun J' hJ' => ?_) ?_
    · refine xnil (xload h2.drew 0 rfl rfl (xload (h2.drew.bring 4) 0 rfl rfl ?_))
      by_cases hid : f.id = p.id
      · refine XIf.yes (by simpa using hid) (hJ' _ _ ⟨by simp [hid], rfl⟩)
      · refine XIf.no (by simpa using hid) (hJ' _ _ ⟨by simp [hid], rfl⟩)
    rintro ⟨c, _⟩ w2 ⟨hc, rfl⟩
    simp only at hc
    subst hc
    by_cases hid : f.id = p.id ∧ 0 < n
    case neg =>
      refine XIf.no (by simpa using hid) (hJ _ _ ?_)
      have : lastX p n (q, f) = (q, f) := by unfold lastX lastF; rw [if_neg hid]
      rw [this]
      exact h.drew
    refine XIf.yes (by simpa using hid) ?_
    have h2 := h2.drew
    refine xload (h2.bring 4) 1 rfl rfl (xlet ((p.at_ / 64 * 64 : Nat) : Int) (by rw [wi (by omega) (by omega)]; omega) (xload (h2.bring 4) 2 rfl rfl (xlet (p.at_ : Int) (by rw [wi (by omega) (by omega)]; omega) (xnil (xload h2 2 rfl rfl ?_)))))
    refine xlet ((p.at_ + n : Nat) : Int) (by rw [wi (by omega) (by omega)]; omega) (xcall (grown_spec (h2.bring 1) (by omega)) ?_)
    rintro v w' ⟨ls', rfl, h3⟩
    refine ⟨ls', rfl, xnil (xstore (h3.bring 1) 2 rfl (by simp) fun w' h4 => xnil (xload h4.drew 2 rfl rfl ?_))⟩
    have hgl := (h4.bring 1).own_len
    have hgl2 : ls'.len = max (p.at_ + n) f.last.length := by
      rw [bcells_length, List.length_append, List.length_replicate] at hgl
      dsimp only at hgl
      omega
    refine ⟨⟨⟨by omega, by omega⟩, by omega, by show (p.at_ : Int) ≤ (ls'.len : Int); omega⟩, xlet0 ?_⟩
    have hsz : (⟨p.text.toArray⟩ : ByteArray).size = p.text.length := str_size p.text
    refine xload (h4.drew.bring 4) 3 rfl rfl ⟨⟨⟨by omega, by show (n : Int) ≤ ((⟨p.text.toArray⟩ : ByteArray).size : Int); omega⟩, by omega, by omega⟩, xlet (str (p.text.take n)) (by rw [Int.toNat_natCast]; exact str_take p.text n) ?_⟩
    have htl : (p.text.take n).length = n := by rw [List.length_take]; omega
    refine xcopyS (k := p.at_) (by kernel_rfl) (h4.drew.bring 1) (fun b hb hk => ?_) ?_ ?_ fun w' h5 => ?_
    · show (if ls'.cap = Int.toNat (p.at_ : Int) then ls'.a else Option.map (fun b => Addr.add b (Int.toNat (p.at_ : Int) * 1)) ls'.a) = _
      rw [Int.toNat_natCast]
      exact view_ptr hb hk
    · rw [str_size, htl, List.length_append, List.length_replicate]; dsimp only; omega
    · show Int.toNat ((ls'.len : Nat) : Int) - Int.toNat (p.at_ : Int) = _
      omega
    rw [str_toList] at h5
    refine ⟨(h5.bring 4).cell rfl, (h5.bring 1).cell rfl, hJ _ _ ?_⟩
    have e2 : lastX p n (q, f) = (q, { f with last := over (f.last ++ List.replicate (p.at_ + n - f.last.length) 0) p.at_ (p.text.take n) }) := by
      unfold lastX lastF; rw [if_pos hid]
    rw [e2]
    exact (FilesP.put (FileP.shut (p := q) (f := { f with last := over (f.last ++ List.replicate (p.at_ + n - f.last.length) 0) p.at_ (p.text.take n) }) (ls := ls') (ss := ss) (h5.arr [1, 0, 2, 3, 4, 5, 6]))).arr [1, 2, 3, 0]

end
end Go.X

/-! The device's calls Sync and Crash. -/
namespace Go.X
open Go.Proofs

section
variable {W w : World} {L : List SP} {d : Nat} {D : DD}

theorem cellsAt_of {a : Addr} : ∀ (vs : List Value) (i : Nat), (∀ j v, vs[j]? = some v → w.cell? (a.add (i + j)) = some v) → cellsAt w a i vs
  | [], _, _ => trivial
  | v :: vs, i, h => ⟨h 0 v rfl, cellsAt_of vs (i + 1) fun j u hu => by have := h (j + 1) u (by simpa using hu); rwa [show i + (j + 1) = i + 1 + j by omega] at this⟩

theorem xloads {ls : List Leaf} {a : Addr} {K : HL ls → Prop} (x : HL ls) (h : ∀ j v, (HL.cells ls x)[j]? = some v → w.cell? (a.add j) = some v) (hk : K x) : XLoads ls a w K :=
  ⟨x, cellsAt_of _ 0 fun j v hv => by rw [Nat.zero_add]; exact h j v hv, hk⟩

theorem flat_get : ∀ (l : List DW) (k j : Nat) (p : DW) (v : Value), l[k]? = some p → (wcells p)[j]? = some v → (l.flatMap wcells)[k * 4 + j]? = some v
  | q :: l, 0, j, p, v, h, hv => by
    simp at h; subst h
    have hj : j < 4 := by have := (List.getElem?_eq_some_iff.1 hv).1; simpa [wcells] using this
    simp only [List.flatMap_cons, Nat.zero_mul, Nat.zero_add]
    rw [List.getElem?_append_left (by simpa [wcells] using hj)]
    exact hv
  | q :: l, k + 1, j, p, v, h, hv => by
    have := flat_get l k j p v (by simpa using h) hv
    simp only [List.flatMap_cons]
    rw [List.getElem?_append_right (by simp [wcells]; omega)]
    rw [← this]
    congr 1
    simp [wcells]; omega

theorem Clone_spec {s : Sl} {l : List UInt8} (hs : Sat W w (own 1 s (bcells l) :: L)) (hl : l.length ≤ 2 ^ 40) :
    Ret Tryz.prog F.slices_Clone [.slice s.a s.len s.cap] w fun v w' => ∃ s' : Sl, v = .slice s'.a s'.len s'.cap ∧ Sat W w' (own 1 s' (bcells l) :: own 1 s (bcells l) :: L) := by
  have hlen : l.length = s.len := by have := hs.own_len; rw [bcells_length] at this; omega
  refine S.slices_Clone_ok s _ _ ?_
  cases ha : Option.isNone s.a with
  | true =>
    have ha' : s.a = none := by simpa using ha
    refine XIf.yes ha ⟨⟨none, 0, 0⟩, rfl, ?_⟩
    have : l = [] := by
      rcases hs.open_own with ⟨_, h0, _⟩ | ⟨b, rest, h, _⟩
      · exact List.eq_nil_of_length_eq_zero (by omega)
      · rw [ha'] at h; cases h
    subst this
    exact hs.own_nil
  | false =>
    refine XIf.no ha (xnew hs fun b w1 h => ?_)
    have h1 : Sat W w1 (own 1 ⟨some ⟨b, 0, none⟩, 0, 0⟩ [] :: own 1 s (bcells l) :: L) := Sat.shut_own (rest := []) rfl rfl rfl (Nat.le_refl _) h
    exact xappend (s := ⟨some ⟨b, 0, none⟩, 0, 0⟩) (x := s) (by kernel_rfl) h1 (reads_own (h1.bring 1)) (h1.bring 1).own_len (fun h => by rw [h] at ha; cases ha) (bcells_one l) (by show 0 + s.len ≤ _; omega) fun s' w' h' hl' => ⟨s', rfl, h'⟩

/-! ### What lasts -/

def PiecesOk (l : List DW) : Prop := ∀ p ∈ l, p.at_ + p.text.length ≤ 2097152

def syncX (l : List DW) (x : Nat × DF) : Nat × DF := l.foldl (fun x p => lastX p p.text.length x) x
def syncF (l : List DW) (f : DF) : DF := l.foldl (fun f p => lastF p p.text.length f) f

theorem syncX_eq : ∀ (l : List DW) (x : Nat × DF), syncX l x = (x.1, syncF l x.2)
  | [], _ => rfl
  | p :: l, x => by simp only [syncX, syncF, List.foldl_cons]; exact syncX_eq l _

theorem syncX_ptr (l : List DW) (fs : List (Nat × DF)) : (fs.map (syncX l)).map (fun x => ptr x.1) = fs.map fun x => ptr x.1 := by
  rw [List.map_map]; congr 1; funext x; simp [syncX_eq]

def DD.sync (D : DD) : Int × DD := if D.off then (14, D) else (0, { D with files := D.files.map (syncF D.wait), wait := [] })

theorem Sync_spec (hs : Sat W w (DiskP d D :: L)) (hn : D.files.length ≤ 2 ^ 30) (hw : PiecesOk D.wait) (hwl : D.wait.length ≤ 2 ^ 38) :
    Ret Tryz.prog F.disk_Disk_Sync [ptr d] w fun v w' => v = .int .i64 D.sync.1 ∧ Sat W w' (DiskP d D.sync.2 :: L) := by
  suffices H : ∀ K : Value → World → Prop, (∀ v w', v = .int .i64 D.sync.1 ∧ Sat W w' (DiskP d D.sync.2 :: L) → K v w') → S.disk_Disk_Sync (some ⟨d, 0, none⟩) K w from S.disk_Disk_Sync_ok _ _ _ (H _ fun _ _ h => h)
  intro K hK
  refine xcall (ready_spec hs) ?_
  rintro v w1 ⟨rfl, hq1⟩
  refine ⟨_, rfl, ?_⟩
  have hs1 := hs.quiet hq1
  by_cases hoff : D.off = true
  · have : D.sync = (14, D) := by unfold DD.sync; rw [if_pos hoff]
    rw [this] at hK
    exact XIf.yes (off_yes hoff) (hK _ _ ⟨by rw [off_14 hoff], hs1⟩)
  have hoff' : D.off = false := by simpa using hoff
  have hsync : D.sync = (0, { D with files := D.files.map (syncF D.wait), wait := [] }) := by unfold DD.sync; rw [if_neg hoff]
  rw [hsync] at hK
  refine XIf.no (off_no hoff') (xnil ?_)
  obtain ⟨l, fs, ws, hl, h⟩ := DiskP.open hs1
  refine xload h 1 rfl rfl ?_
  have hll : l.length = D.files.length := by rw [← hl, List.length_map]
  have hwlen : ws.len = D.wait.length := by have := (h.bring 3).own_len; rw [wcells_len] at this; omega
  refine xloop (fun (st : Int × Unit) w => ∃ l1 l2 : List DW, D.wait = l1 ++ l2 ∧ st = ((l1.length : Int), ()) ∧
      Sat W w (pts d [.slice fs.a fs.len fs.cap, .slice ws.a ws.len ws.cap, .int .i64 D.most, .int .i64 D.fuse, .bool D.off, .int .i64 D.count, .int .i64 D.made] ::
        own 1 fs (l.map fun x => ptr x.1) :: FilesP (l.map (syncX l1)) :: own 4 ws (D.wait.flatMap wcells) :: L))
    (fun st => ((ws.len : Int) - st.1).toNat) ⟨[], D.wait, rfl, rfl, by rw [show l.map (syncX []) = l from List.map_id l]; exact h⟩ ?_
  clear h
  rintro next _ w ⟨l1, l2, e, rfl, h⟩ hnext
  cases l2 with
  | nil =>
    rw [List.append_nil] at e
    refine XIf.no (decide_eq_false (show ¬ ((l1.length : Int) < (ws.len : Int)) by rw [hwlen, e]; omega)) (xnil (xstore h 1 rfl (by simp) fun w' h => hK _ _ ⟨rfl, ?_⟩))
    have h2 : Sat W w' (pts d _ :: own 1 fs _ :: FilesP _ :: own 4 ⟨none, 0, 0⟩ [] :: L) := ((h.bring 3).drop.own_nil).arr [1, 2, 3, 0]
    refine DiskP.shut (D := { D with files := D.files.map (syncF D.wait), wait := [] }) (l := l.map (syncX l1)) (fs := fs) (ws := ⟨none, 0, 0⟩) ?_ ?_
    · rw [← e, List.map_map, ← hl, List.map_map]
      congr 1; funext x; simp [syncX_eq]
    · rw [syncX_ptr]; exact h2
  | cons p l2 =>
    have hlt : l1.length < D.wait.length := by rw [e]; simp
    have hget : D.wait[l1.length]? = some p := by rw [e]; simp
    have hpo := hw p (by rw [e]; simp)
    have htsz : (⟨p.text.toArray⟩ : ByteArray).size = p.text.length := str_size p.text
    refine XIf.yes (decide_eq_true (show (l1.length : Int) < (ws.len : Int) by omega)) ?_
    obtain ⟨a, ha, hc⟩ := (h.bring 3).own_some (by omega)
    refine (show XNil ws.a _ from ?_)
    rw [ha]
    refine xnil ⟨⟨by omega, by show (l1.length : Int) < (ws.len : Int); omega⟩, xloads (p.id, ((p.at_ / 64 : Nat) : Int), ((p.at_ % 64 : Nat) : Int), (⟨p.text.toArray⟩ : ByteArray), ()) (fun j v hv => ?_) (xnew h fun b w' h => ?_)⟩
    · rw [Int.toNat_natCast, Addr.add_mk, Addr.add_mk, Nat.zero_add]
      exact hc _ _ (flat_get D.wait l1.length j p v hget hv)
    refine xstores (wcells p) 0 w' _ h (by simp [wcells]) fun w' h => ?_
    have h : Sat W w' (pts b (wcells p) :: _) := h
    refine xloads (p.id, ((p.at_ / 64 : Nat) : Int), ((p.at_ % 64 : Nat) : Int), (⟨p.text.toArray⟩ : ByteArray), ()) (fun j v hv => by rw [Addr.add_mk, Nat.zero_add]; exact h.cell hv) ?_
    refine xload h 3 rfl rfl ?_
    have hlast := last_spec (l := l.map (syncX l1)) p p.text.length (by rw [syncX_ptr]; exact h.drop) hpo (Nat.le_refl _) (by rw [List.length_map, hll]; omega)
    rw [syncX_ptr] at hlast
    refine xcalls (by rw [htsz]; exact hlast) ?_
    rintro v w' ⟨rfl, h⟩
    refine ⟨(), rfl, xlet ((l1.length + 1 : Nat) : Int) (by dsimp only; rw [wi (by omega) (by omega)]; omega) (hnext _ _ ⟨l1 ++ [p], l2, by simp [e], by simp, ?_⟩ (by dsimp only; omega))⟩
    have : (l.map (syncX l1)).map (lastX p p.text.length) = l.map (syncX (l1 ++ [p])) := by
      rw [List.map_map]; congr 1; funext x; simp [syncX]
    rw [this] at h
    exact h

/-! ### Crashes -/

/-- A slice of ints that can be read wherever a part of memory stands. -/
def ROInts (W : World) (A : SP) (s : Sl) (xs : List Int) : Prop :=
  xs.length = s.len ∧ ∀ (w : World) (L : List SP), Sat W w (A :: L) → ∀ k x, xs[k]? = some x → ∃ b o, s.a = some ⟨b, o, none⟩ ∧ w.cell? ⟨b, o + k, none⟩ = some (.int .i64 x)

def halved (p : DW) : DW := { p with text := p.text.take (p.text.length / 2) }

/-- What a fate makes of a file. -/
def fateF (x : Int) (p : DW) (f : DF) : DF :=
  if x = 2 then lastF (halved p) (halved p).text.length f else if x = 1 then lastF p p.text.length f else f

def fateX (x : Int) (p : DW) (y : Nat × DF) : Nat × DF := (y.1, fateF x p y.2)

def fatesF : List (DW × Int) → DF → DF
  | [], f => f
  | p :: l, f => fatesF l (fateF p.2 p.1 f)

def fatesX (l : List (DW × Int)) (y : Nat × DF) : Nat × DF := (y.1, fatesF l y.2)

def reborn (f : DF) : DF := { f with seen := f.last }

def DD.crash (D : DD) (fates : List Int) : DD :=
  { D with files := D.files.map fun f => reborn (fatesF (D.wait.zip fates) f), wait := [], fuse := -1, off := false }

theorem fatesF_snoc : ∀ (l : List (DW × Int)) (q : DW × Int) (f : DF), fatesF (l ++ [q]) f = fateF q.2 q.1 (fatesF l f)
  | [], _, _ => rfl
  | _ :: l, q, _ => fatesF_snoc l q _

theorem fatesX_ptr (l : List (DW × Int)) (fs : List (Nat × DF)) : (fs.map (fatesX l)).map (fun x => ptr x.1) = fs.map fun x => ptr x.1 := by
  rw [List.map_map]; rfl

theorem halved_len (p : DW) : (halved p).text.length = p.text.length / 2 := by simp [halved]; omega

theorem zip_snoc {α β : Type} : ∀ (l : List α) (m : List β) (k : Nat) (a : α) (b : β), l[k]? = some a → m[k]? = some b → (l.zip m).take (k + 1) = (l.zip m).take k ++ [(a, b)]
  | [], _, k, _, _, h, _ => by simp at h
  | _ :: _, [], k, _, _, _, h => by simp at h
  | x :: l, y :: m, 0, a, b, h1, h2 => by simp at h1 h2; simp [h1, h2]
  | x :: l, y :: m, k + 1, a, b, h1, h2 => by
    simp only [List.zip_cons_cons, List.take_succ_cons, List.cons_append]
    rw [zip_snoc l m k a b (by simpa using h1) (by simpa using h2)]

theorem Crash_nil {s : Sl} (_hs : Sat W w L) : Ret Tryz.prog F.disk_Disk_Crash [.pointer none, .slice s.a s.len s.cap] w fun v w' => v = .tuple ⟨[]⟩ ∧ w' = w :=
  S.disk_Disk_Crash_ok none s _ _ (XIf.yes rfl ⟨rfl, rfl⟩)

theorem Crash_spec {A : SP} {s : Sl} {xs : List Int} (hA : ROInts W A s xs) (hs : Sat W w (DiskP d D :: A :: L)) (hn : D.files.length ≤ 2 ^ 30) (hw : PiecesOk D.wait) (hwl : D.wait.length ≤ 2 ^ 38)
    (hlast : ∀ f ∈ D.files, (fatesF (D.wait.zip xs) f).last.length ≤ 2 ^ 40) :
    Ret Tryz.prog F.disk_Disk_Crash [ptr d, .slice s.a s.len s.cap] w fun v w' => v = .tuple ⟨[]⟩ ∧ Sat W w' (DiskP d (D.crash xs) :: A :: L) := by
  suffices H : ∀ K : Value → World → Prop, (∀ v w', v = .tuple ⟨[]⟩ ∧ Sat W w' (DiskP d (D.crash xs) :: A :: L) → K v w') → S.disk_Disk_Crash (some ⟨d, 0, none⟩) s K w from S.disk_Disk_Crash_ok _ s _ _ (H _ fun _ _ h => h)
  intro K hK
  obtain ⟨hxl, hA⟩ := hA
  refine XIf.no rfl ?_
  obtain ⟨l, fs, ws, hl, h⟩ := DiskP.open hs
  have hll : l.length = D.files.length := by rw [← hl, List.length_map]
  have hwlen : ws.len = D.wait.length := by have := (h.bring 3).own_len; rw [wcells_len] at this; omega
  have hzl : (D.wait.zip xs).length = min D.wait.length xs.length := List.length_zip
  refine xjoin (fun _ w => Sat W w (pts d [.slice fs.a fs.len fs.cap, .slice ws.a ws.len ws.cap, .int .i64 D.most, .int .i64 D.fuse, .bool D.off, .int .i64 D.count, .int .i64 D.made] ::
        own 1 fs (l.map fun x => ptr x.1) :: FilesP (l.map (fatesX (D.wait.zip xs))) :: own 4 ws (D.wait.flatMap wcells) :: A :: L)) (fun J hJ => ?_) ?_
  · refine xnil (xload h 1 rfl rfl ?_)
    refine xloop (fun (st : Int × Unit) w => ∃ k : Nat, k ≤ D.wait.length ∧ k ≤ xs.length ∧ st = ((k : Int), ()) ∧
        Sat W w (pts d [.slice fs.a fs.len fs.cap, .slice ws.a ws.len ws.cap, .int .i64 D.most, .int .i64 D.fuse, .bool D.off, .int .i64 D.count, .int .i64 D.made] ::
          own 1 fs (l.map fun x => ptr x.1) :: FilesP (l.map (fatesX ((D.wait.zip xs).take k))) :: own 4 ws (D.wait.flatMap wcells) :: A :: L))
      (fun st => ((ws.len : Int) - st.1).toNat) ⟨0, by omega, by omega, rfl, by rw [show l.map (fatesX ((D.wait.zip xs).take 0)) = l from List.map_id l]; exact h⟩ ?_
    clear h
    rintro next _ w ⟨k, hk1, hk2, rfl, h⟩ hnext
    by_cases hkw : k = D.wait.length
    · subst hkw
      refine XIf.no (decide_eq_false (show ¬ ((D.wait.length : Int) < (ws.len : Int)) by omega)) (hJ _ _ ?_)
      rw [List.take_of_length_le (by omega)] at h
      exact h
    have hlt : k < D.wait.length := by omega
    refine XIf.yes (decide_eq_true (show (k : Int) < (ws.len : Int) by omega)) ?_
    obtain ⟨p, hp⟩ : ∃ p, D.wait[k]? = some p := ⟨_, List.getElem?_eq_getElem hlt⟩
    have hpo := hw p (List.mem_of_getElem? hp)
    have htsz : (⟨p.text.toArray⟩ : ByteArray).size = p.text.length := str_size p.text
    -- the round's end
    refine xjoin (fun _ w => k < xs.length ∧ Sat W w (pts d [.slice fs.a fs.len fs.cap, .slice ws.a ws.len ws.cap, .int .i64 D.most, .int .i64 D.fuse, .bool D.off, .int .i64 D.count, .int .i64 D.made] ::
          own 1 fs (l.map fun x => ptr x.1) :: FilesP (l.map (fatesX ((D.wait.zip xs).take (k + 1)))) :: own 4 ws (D.wait.flatMap wcells) :: A :: L)) (fun J' hJ' => ?_) ?_
    case refine_2 =>
      rintro _ w' ⟨hkx, h⟩
      exact xlet ((k + 1 : Nat) : Int) (by dsimp only; rw [wi (by omega) (by omega)]; omega) (hnext _ _ ⟨k + 1, by omega, by omega, rfl, h⟩ (by dsimp only; omega))
    obtain ⟨a, ha, hc⟩ := (h.bring 3).own_some (by omega)
    refine (show XNil ws.a _ from ?_)
    rw [ha]
    refine xnil ⟨⟨by omega, by show (k : Int) < (ws.len : Int); omega⟩, xloads (p.id, ((p.at_ / 64 : Nat) : Int), ((p.at_ % 64 : Nat) : Int), (⟨p.text.toArray⟩ : ByteArray), ()) (fun j v hv => ?_) (xnew h fun b w' h => ?_)⟩
    · rw [Int.toNat_natCast, Addr.add_mk, Addr.add_mk, Nat.zero_add]
      exact hc _ _ (flat_get D.wait k j p v hp hv)
    refine xstores (wcells p) 0 w' _ h (by simp [wcells]) fun w' h => ?_
    have h : Sat W w' (pts b (wcells p) :: _) := h
    by_cases hkx : k = xs.length
    · refine XIf.yes (decide_eq_true (show (k : Int) ≥ (s.len : Int) by omega)) (hJ _ _ ?_)
      rw [List.take_of_length_le (by omega)] at h
      exact h.drop
    have hkx' : k < xs.length := by omega
    obtain ⟨x, hx⟩ : ∃ x, xs[k]? = some x := ⟨_, List.getElem?_eq_getElem hkx'⟩
    refine XIf.no (decide_eq_false (show ¬ ((k : Int) ≥ (s.len : Int)) by omega)) (xload h 3 rfl rfl ?_)
    obtain ⟨b', o, hsa, hcell⟩ := hA w' _ (h.bring 5) k x hx
    refine (show XNil s.a _ from ?_)
    rw [hsa]
    refine xnil ⟨⟨by omega, by show (k : Int) < (s.len : Int); omega⟩, xload_at (l := .int .i64) (x := x) (by rw [Int.toNat_natCast, Nat.mul_one, Addr.add_mk]; exact hcell) ?_⟩
    have hsnoc := zip_snoc D.wait xs k p x hp hx
    have hstep : ∀ (q : DW) (n : Nat), (∀ f, fateF x p f = lastF q n f) → (l.map (fatesX ((D.wait.zip xs).take k))).map (lastX q n) = l.map (fatesX ((D.wait.zip xs).take (k + 1))) := by
      intro q n hq
      rw [List.map_map, hsnoc]
      congr 1; funext y
      simp only [Function.comp, fatesX, lastX, fatesF_snoc, hq]
    have hptr := fatesX_ptr ((D.wait.zip xs).take k) l
    -- the call, whichever text stands in the box
    refine xjoin (fun (_ : Int × Unit) w => ∃ q : DW, (∀ f, fateF x p f = lastF q q.text.length f) ∧ q.at_ + q.text.length ≤ 2097152 ∧ Sat W w (pts b (wcells q) ::
          pts d [.slice fs.a fs.len fs.cap, .slice ws.a ws.len ws.cap, .int .i64 D.most, .int .i64 D.fuse, .bool D.off, .int .i64 D.count, .int .i64 D.made] ::
          own 1 fs (l.map fun x => ptr x.1) :: FilesP (l.map (fatesX ((D.wait.zip xs).take k))) :: own 4 ws (D.wait.flatMap wcells) :: A :: L)) (fun J'' hJ'' => ?_) ?_
    case refine_2 =>
      rintro _ w' ⟨q, hq, hqo, h⟩
      have hqsz : (⟨q.text.toArray⟩ : ByteArray).size = q.text.length := str_size q.text
      refine xloads (q.id, ((q.at_ / 64 : Nat) : Int), ((q.at_ % 64 : Nat) : Int), (⟨q.text.toArray⟩ : ByteArray), ()) (fun j v hv => by rw [Addr.add_mk, Nat.zero_add]; exact h.cell hv) (xload h 3 rfl rfl ?_)
      have hl2 := last_spec (l := l.map (fatesX ((D.wait.zip xs).take k))) q q.text.length (by rw [hptr]; exact h.drop) hqo (Nat.le_refl _) (by rw [List.length_map, hll]; omega)
      rw [hptr] at hl2
      refine xcalls (by rw [hqsz]; exact hl2) ?_
      rintro v w' ⟨rfl, h⟩
      rw [hstep q _ hq] at h
      exact ⟨(), rfl, hJ' _ _ ⟨hkx', h⟩⟩
    by_cases h2 : x = 2
    · refine XIf.yes (by simpa using h2) ⟨by decide, xlet ((p.text.length / 2 : Nat) : Int) ?_ (xload h 3 rfl rfl ⟨⟨⟨by omega, by show ((p.text.length / 2 : Nat) : Int) ≤ ((⟨p.text.toArray⟩ : ByteArray).size : Int); omega⟩, by omega, by omega⟩, xlet (str (p.text.take (p.text.length / 2))) (by rw [Int.toNat_natCast]; exact str_take _ _) (xstore h 3 rfl (by simp [wcells]) fun w' h => hJ'' _ _ ⟨halved p, ?_, ?_, h⟩)⟩)⟩
      · show IntKind.wrap .i64 (Int.tdiv ((⟨p.text.toArray⟩ : ByteArray).size : Int) 2) = _
        rw [htsz, Int.tdiv_eq_ediv_of_nonneg (by omega), wi (by omega) (by omega)]
        omega
      · intro f; unfold fateF; rw [if_pos h2]
      · rw [halved_len]; show p.at_ + _ ≤ _; omega
    refine XIf.no (by simpa using h2) ?_
    by_cases h1 : x = 1
    · refine XIf.yes (by simpa using h1) (hJ'' _ _ ⟨p, ?_, hpo, h⟩)
      intro f; unfold fateF; rw [if_neg h2, if_pos h1]
    refine XIf.no (by simpa using h1) ?_
    have hid : l.map (fatesX ((D.wait.zip xs).take (k + 1))) = l.map (fatesX ((D.wait.zip xs).take k)) := by
      rw [hsnoc]
      congr 1; funext y
      simp only [fatesX, fatesF_snoc]
      unfold fateF; rw [if_neg h2, if_neg h1]
    have hend := hJ' () w' ⟨hkx', by rw [hid]; exact h.drop⟩
    exact XIf.of (fun _ => hend) fun _ => hend
  · -- the power comes again
    clear h
    rintro _ w h
    refine xnil (xstore h 1 rfl (by simp) fun w h => xnil (xstore h 3 rfl (by simp) fun w h => xnil (xstore h 4 rfl (by simp) fun w h => xnil (xload h 0 rfl rfl ?_))))
    have hfl : fs.len = l.length := by have := (h.bring 1).own_len; simpa using this.symm
    have h : Sat W w (pts d [.slice fs.a fs.len fs.cap, .slice none 0 0, .int .i64 D.most, .int .i64 (-1), .bool false, .int .i64 D.count, .int .i64 D.made] ::
        own 1 fs (l.map fun x => ptr x.1) :: FilesP (l.map (fatesX (D.wait.zip xs))) :: own 4 ws (D.wait.flatMap wcells) :: A :: L) := h
    obtain ⟨z, hz⟩ : ∃ z, fatesX (D.wait.zip xs) = z := ⟨_, rfl⟩
    refine xloop (fun (st : Int × Unit) w => ∃ l1 l2 : List (Nat × DF), l = l1 ++ l2 ∧ st = ((l1.length : Int), ()) ∧
        Sat W w (pts d [.slice fs.a fs.len fs.cap, .slice none 0 0, .int .i64 D.most, .int .i64 (-1), .bool false, .int .i64 D.count, .int .i64 D.made] ::
          own 1 fs (l.map fun x => ptr x.1) :: FilesP (l1.map (fun y => (y.1, reborn (fatesX (D.wait.zip xs) y).2)) ++ l2.map (fatesX (D.wait.zip xs))) :: A :: L))
      (fun st => ((fs.len : Int) - st.1).toNat) ⟨[], l, rfl, rfl, (h.bring 3).drop⟩ ?_
    clear h
    rintro next _ w ⟨l1, l2, e, rfl, h⟩ hnext
    cases l2 with
    | nil =>
      rw [List.append_nil] at e
      subst e
      refine XIf.no (decide_eq_false (show ¬ ((l.length : Int) < (fs.len : Int)) by omega)) (hK _ _ ⟨rfl, ?_⟩)
      rw [List.map_nil, List.append_nil] at h
      have h2 : Sat W w (pts d _ :: own 1 fs _ :: FilesP _ :: own 4 ⟨none, 0, 0⟩ [] :: A :: L) := (h.own_nil).arr [1, 2, 3, 0]
      refine DiskP.shut (D := D.crash xs) (l := l.map (fun y => (y.1, reborn (fatesX (D.wait.zip xs) y).2))) (fs := fs) (ws := ⟨none, 0, 0⟩) ?_ ?_
      · rw [List.map_map]
        show _ = D.files.map fun f => reborn (fatesF (D.wait.zip xs) f)
        rw [← hl, List.map_map]
        rfl
      · rw [List.map_map]
        exact h2
    | cons y l2 =>
      have hlt : l1.length < l.length := by rw [e]; simp
      have hyl := hlast y.2 (by rw [← hl, e]; simp)
      refine XIf.yes (decide_eq_true (show (l1.length : Int) < (fs.len : Int) by omega)) (xelem (h.bring 1) l1.length rfl (x := some ⟨y.1, 0, none⟩) (by simp [readL, e, ptr, Leaf.un]) (by show Int.toNat _ * 1 = _; simp) fun a => xnil ?_)
      rw [List.map_cons] at h
      obtain ⟨ls, ss, h2⟩ := FileP.open (FilesP.take (h.bring 2))
      refine xload h2 2 rfl rfl (xcall (Clone_spec (h2.bring 1) hyl) ?_)
      rintro v w' ⟨s', rfl, h3⟩
      refine ⟨s', rfl, xnil (xstore (h3.bring 2) 3 rfl (by simp) fun w' h4 => xlet ((l1.length + 1 : Nat) : Int) (by dsimp only; rw [wi (by omega) (by omega)]; omega) (hnext _ _ ⟨l1 ++ [y], l2, by simp [e], by simp, ?_⟩ (by dsimp only; omega)))⟩
      have h5 := (h4.arr [3, 0, 2, 1, 4, 5, 6]).drop
      have h6 := FilesP.put (FileP.shut (p := y.1) (f := reborn (fatesX (D.wait.zip xs) y).2) (ls := ls) (ss := s') h5)
      have h7 := h6.arr [1, 2, 0]
      simp only [List.map_append, List.map_cons, List.map_nil, List.append_assoc, List.singleton_append]
      exact h7

end
end Go.X

/-! Growing a part of a slice by zero values; clearing; whether two slices overlap. -/
namespace Go.X
open Go.Proofs

section
variable {P : Program} {W w : World} {L : List SP}

/-- The closed facts that growing by zero values asks of the types. -/
def okZ (P : Program) (t u : TypeId) (sz : Nat) : Bool :=
  match under P t, under P u with
  | some (.slice e), some (.int _) => match ti P e with
    | some i => Nat.beq i.size sz && Nat.ble i.bytes 128 && (match i.zero with
      | some z => Nat.beq z.cells.size sz
      | none => false)
    | none => false
  | _, _ => false

theorem okZ_spec {t u : TypeId} {sz : Nat} (h : okZ P t u sz = true) : ∃ e k i z, P.underlying t = some (.slice e) ∧ P.underlying u = some (.int k) ∧ P.info? e = some i ∧ i.size = sz ∧ i.bytes ≤ 128 ∧ i.zero = some z ∧ z.cells.size = sz := by
  unfold okZ at h
  split at h
  · rename_i e k h1 h2
    split at h
    · rename_i i hi
      simp only [Bool.and_eq_true] at h
      obtain ⟨⟨h3, h4⟩, h5⟩ := h
      split at h5
      · rename_i z hz
        exact ⟨e, k, i, z, under_eq h1, under_eq h2, ti_info hi, Nat.eq_of_beq_eq_true h3, Nat.le_of_ble_eq_true h4, hz, Nat.eq_of_beq_eq_true h5⟩
      · cases h5
    · cases h
  · cases h

/-- **append** of zero values behind a slice's first elements, into a new block. -/
theorem xgrowN {t u ty : TypeId} {sz n m c : Nat} {a : Option Addr} {k : Int} {vs : List Value} {K : Sl → World → Prop} (hok : okZ P t u sz = true) (hs : Sat W w L)
    (hr : Reads w ⟨a, n, c⟩ vs) (hl : vs.length = n * sz) (h0 : a = none → vs = []) (hm : k = m) (hg : c < n + m) (hsz : n + m ≤ 2 ^ 40)
    (hk : ∀ zs s' w', zs.length = m * sz → Sat W w' (own sz s' (vs ++ zs) :: L) → s'.len = n + m → K s' w') :
    XDo P (Builtin.append_ #[t, u] ty ⟨[.slice a n c, .int .i64 k]⟩) (.leaf .slice) w K := by
  obtain ⟨e, ki, i, z, ht, hu, hi, rfl, hb, hz, hzs⟩ := okZ_spec hok
  subst hm
  have hw : IntKind.wrap .i64 (m : Int) = m := wi (by omega) (by omega)
  have hn0 : ¬ ((m : Int) < 0) := by omega
  have hmb : m * i.bytes ≤ 2 ^ 40 * 128 := Nat.mul_le_mul (by omega) hb
  have h48 : ¬ (281474976710656 < (m : Int) * (i.bytes : Int)) := by
    rw [← Int.natCast_mul]; omega
  have h63 : ¬ (9223372036854775807 < (n : Int) + (m : Int)) := by omega
  have hn : ¬ (n + m ≤ c) := by omega
  have hfit : Builtin.nextslicecap (n + m) c * i.bytes ≤ 281474976710656 := growslice_fits hg (Nat.le_trans (Nat.mul_le_mul hsz hb) (by decide))
  have hg' : ¬ (281474976710656 < Builtin.nextslicecap (n + m) c * i.bytes) := by omega
  have hfo := run_first (P := P) (w := w.drew) (sz := i.size) (n := n) (s := ⟨a, n, c⟩) (vs := vs) hr hl h0 n c
  let zs : List Value := if m * i.size = 0 then [] else (Builtin.zeroCells z.cells m).toList
  have hzl : zs.length = m * i.size := by
    simp only [zs]
    split
    · rename_i h; rw [h]; rfl
    · rw [zeroCells_length, hzs]
  have hr : (Builtin.append_ #[t, u] ty ⟨[.slice a n c, .int .i64 (m : Int)]⟩).run P w = .ok (.slice (some ⟨w.heap.size, 0, none⟩) (n + m) (grownCap w (n + m) c e))
      (w.drew.alloc (.cells ⟨vs ++ zs ++ (Builtin.zeroCells z.cells (grownCap w (n + m) c e - (n + m))).toList⟩ e)) := by
    simp [Builtin.append_, run_underlying ht, run_underlying hu, run_size' hi, run_info' hi, run_zero' hi hz, asInt, asIntOf, hw, hn0, h48, h63, hn, hg', Question.forced, newRow, grownCap, hfo]
    by_cases h : m * i.size = 0
    · simp only [zs, if_pos h]
      congr 3
      apply Array.ext'
      simp
    · simp only [zs, if_neg h]
      congr 3
      apply Array.ext'
      simp
  refine ⟨⟨some ⟨w.heap.size, 0, none⟩, n + m, grownCap w (n + m) c e⟩, _, hr, hk zs _ _ hzl ?_ rfl⟩
  have hcap := grownCap_ge w (n + m) c e
  have hnew := (hs.drew).new_block (cs := vs ++ zs ++ (Builtin.zeroCells z.cells (grownCap w (n + m) c e - (n + m))).toList) (t := e)
  refine Sat.shut_own rfl ?_ ?_ hcap hnew
  · rw [List.length_append, hl, hzl, Nat.add_mul]
  · simp only [List.length_append, zeroCells_length, hzs, hl, hzl, ← Nat.add_mul]
    congr 1
    omega

/-! ### Shorter and longer views of a block -/

theorem Sat.own_shrink {sz : Nat} {s : Sl} {xs : List Value} (hs : Sat W w (own sz s xs :: L)) (n : Nat) (hn : n ≤ s.len) : Sat W w (own sz ⟨s.a, n, s.cap⟩ (xs.take (n * sz)) :: L) := by
  rcases hs.open_own with ⟨ha, hl, hc, hx, hs'⟩ | ⟨b, rest, ha, hl, hc, hlc, hs'⟩
  · have h0 : n = 0 := by omega
    subst h0
    rw [ha, hc, Nat.zero_mul, List.take_zero]
    exact hs'.own_nil
  · have hle : n * sz ≤ s.len * sz := Nat.mul_le_mul_right _ hn
    refine Sat.shut_own (rest := xs.drop (n * sz) ++ rest) ha ?_ ?_ (Nat.le_trans hn hlc) ?_
    · rw [List.length_take, hl]; exact Nat.min_eq_left hle
    · rw [← List.append_assoc, List.take_append_drop]; exact hc
    · rw [← List.append_assoc, List.take_append_drop]; exact hs'

theorem Sat.own_stretch {sz : Nat} {s : Sl} {xs : List Value} (hs : Sat W w (own sz s xs :: L)) (n : Nat) (hn : s.len ≤ n) (hc : n ≤ s.cap) : ∃ ys, ys.length = (n - s.len) * sz ∧ Sat W w (own sz ⟨s.a, n, s.cap⟩ (xs ++ ys) :: L) := by
  rcases hs.open_own with ⟨ha, hl, hc', hx, hs'⟩ | ⟨b, rest, ha, hl, hc', hlc, hs'⟩
  · have h0 : n = 0 := by omega
    subst h0
    refine ⟨[], by simp, ?_⟩
    rw [ha, hc', hx]
    exact hs'.own_nil
  · have hr : rest.length = (s.cap - s.len) * sz := by
      rw [List.length_append, hl] at hc'
      rw [Nat.sub_mul]; omega
    have hle : (n - s.len) * sz ≤ (s.cap - s.len) * sz := Nat.mul_le_mul_right _ (by omega)
    refine ⟨rest.take ((n - s.len) * sz), ?_, Sat.shut_own (rest := rest.drop ((n - s.len) * sz)) ha ?_ ?_ hc ?_⟩
    · rw [List.length_take, hr]; exact Nat.min_eq_left hle
    · rw [List.length_append, hl, List.length_take, hr, Nat.min_eq_left hle, ← Nat.add_mul]
      congr 1
      show _ = n
      omega
    · rw [List.append_assoc, List.take_append_drop]; exact hc'
    · rw [List.append_assoc, List.take_append_drop]; exact hs'

/-- **append** where there is room. -/
theorem xappendR {t u ty : TypeId} {sz : Nat} {s x : Sl} {xs news : List Value} {K : Sl → World → Prop} (hok : okApp P t u sz = true) (hs : Sat W w (own sz s xs :: L))
    (hrn : Reads w x news) (hln : news.length = x.len * sz) (hn0 : x.a = none → news = []) (h1 : allOne news = true) (hroom : s.len + x.len ≤ s.cap)
    (hk : ∀ w', Sat W w' (own sz ⟨s.a, s.len + x.len, s.cap⟩ (xs ++ news) :: L) → K ⟨s.a, s.len + x.len, s.cap⟩ w') :
    XDo P (Builtin.append_ #[t, u] ty ⟨[.slice s.a s.len s.cap, .slice x.a x.len x.cap]⟩) (.leaf .slice) w K := by
  obtain ⟨e, e', i, z, ht, hu, hi, rfl, hb, hz, hzs⟩ := okApp_spec hok
  have hf := run_first (P := P) (w := w) (sz := i.size) (n := x.len) (s := x) (vs := news) hrn hln hn0 x.len x.cap
  rcases hs.open_own with ⟨ha, hl, hc, hx, hs'⟩ | ⟨b, rest, ha, hl, hc, hlc, hs'⟩
  · have hxl : x.len = 0 := by omega
    have hn : news = [] := List.eq_nil_of_length_eq_zero (by rw [hln, hxl, Nat.zero_mul])
    rw [hxl] at hf
    have hr : (Builtin.append_ #[t, u] ty ⟨[.slice s.a s.len s.cap, .slice x.a x.len x.cap]⟩).run P w = .ok (.slice none 0 0) w := by
      rw [ha, hl, hc, hxl]
      simp [Builtin.append_, run_underlying ht, run_underlying hu, run_size' hi, run_info' hi, Builtin.lenOf, hf]
    refine ⟨⟨s.a, s.len + x.len, s.cap⟩, w, ?_, hk w ?_⟩
    · rw [hr]
      simp [Ty.mk, Leaf.mk, ha, hl, hc, hxl]
    · rw [ha, hl, hc, hxl, hx, hn]
      exact hs'.own_nil
  · have hfit : s.len * i.size + news.length ≤ (xs ++ rest).length := by
      rw [hc, hln, ← Nat.add_mul]; exact Nat.mul_le_mul_right _ hroom
    have hst := xstores (W := W) (L := L) (b := b) (o := s.len * i.size) (K := fun w' => Sat W w' (pts b (splice (xs ++ rest) (s.len * i.size) news) :: L)) news 0 w _ hs' (by simpa using hfit) (fun w' h => by simpa using h)
    obtain ⟨w', hr, hw⟩ := run_stores (P := P) news 0 w h1 hst
    have hr' : (Builtin.append_ #[t, u] ty ⟨[.slice s.a s.len s.cap, .slice x.a x.len x.cap]⟩).run P w = .ok (.slice (some ⟨b, 0, none⟩) (s.len + x.len) s.cap) w' := by
      rw [ha]
      simp [Builtin.append_, run_underlying ht, run_underlying hu, run_size' hi, Builtin.lenOf, hroom, hf, Addr.add_mk, hr]
    refine ⟨⟨s.a, s.len + x.len, s.cap⟩, w', by rw [hr']; simp [Ty.mk, Leaf.mk, ha], hk _ ?_⟩
    have hsp : splice (xs ++ rest) (s.len * i.size) news = (xs ++ news) ++ rest.drop news.length := by
      unfold splice
      rw [← hl, List.take_left, List.drop_append, List.drop_eq_nil_of_le (by omega), List.nil_append]
      congr 2
      omega
    rw [hsp] at hw
    refine Sat.shut_own ha ?_ ?_ hroom hw
    · rw [List.length_append, hl, hln, Nat.add_mul]
    · rw [← hsp, splice_length hfit, hc]

/-! ### Clearing -/

def okClear (P : Program) (t : TypeId) (sz : Nat) : Bool :=
  match under P t with
  | some (.slice e) => match ti P e with
    | some i => Nat.beq i.size sz && (match i.zero with
      | some z => Nat.beq z.cells.size sz && allOne z.cells.toList
      | none => false)
    | none => false
  | _ => false

theorem okClear_spec {t : TypeId} {sz : Nat} (h : okClear P t sz = true) : ∃ e i z, P.underlying t = some (.slice e) ∧ P.info? e = some i ∧ i.size = sz ∧ i.zero = some z ∧ z.cells.size = sz ∧ allOne z.cells.toList = true := by
  unfold okClear at h
  split at h
  · rename_i e h1
    split at h
    · rename_i i hi
      simp only [Bool.and_eq_true] at h
      obtain ⟨h4, h5⟩ := h
      split at h5
      · rename_i z hz
        simp only [Bool.and_eq_true] at h5
        exact ⟨e, i, z, under_eq h1, ti_info hi, Nat.eq_of_beq_eq_true h4, hz, Nat.eq_of_beq_eq_true h5.1, h5.2⟩
      · cases h5
    · cases h
  · cases h

theorem allOne_of : ∀ {vs : List Value}, (∀ v ∈ vs, oneCell v = true) → allOne vs = true
  | [], _ => rfl
  | v :: vs, h => by
    simp only [allOne, h v (List.mem_cons_self ..)]
    exact allOne_of fun u hu => h u (List.mem_cons_of_mem _ hu)

theorem zeroCells_one {z : Array Value} {n : Nat} (h : allOne z.toList = true) (hz : 0 < z.size) : allOne (Builtin.zeroCells z n).toList = true := by
  refine allOne_of fun v hv => ?_
  simp only [Builtin.zeroCells, Array.toList_map, List.mem_map] at hv
  obtain ⟨i, _, rfl⟩ := hv
  have hlt : i % z.size < z.size := Nat.mod_lt _ hz
  refine oneCell_of_allOne h _ ?_
  rw [getElem!_pos z _ hlt]
  exact Array.getElem_mem_toList hlt

/-- Clearing what lies behind a slice's elements. -/
theorem xclear {t ty : TypeId} {sz : Nat} {s : Sl} {xs : List Value} {p : Option Addr} {m c : Nat} {K : Unit → World → Prop} (hok : okClear P t sz = true) (hsz : 0 < sz) (hs : Sat W w (own sz s xs :: L))
    (hp : ∀ b, s.a = some ⟨b, 0, none⟩ → s.len < s.cap → p = some ⟨b, s.len * sz, none⟩) (hm : s.len + m ≤ s.cap) (hk : ∀ w', Sat W w' (own sz s xs :: L) → K () w') :
    XDos P (Builtin.clear_ #[t] ty ⟨[.slice p m c]⟩) [] w K := by
  obtain ⟨e, i, z, ht, hi, rfl, hz, hzs, h1⟩ := okClear_spec hok
  cases m with
  | zero =>
    refine ⟨(), w, ?_, hk w hs⟩
    cases p <;> simp [Builtin.clear_, run_underlying ht] <;> rfl
  | succ m =>
    rcases hs.open_own with ⟨ha, hl, hc, hx, hs'⟩ | ⟨b, rest, ha, hl, hc, hlc, hs'⟩
    · omega
    · rw [hp b ha (by omega)]
      have hzl : (Builtin.zeroCells z.cells (m + 1)).toList.length = (m + 1) * i.size := by rw [zeroCells_length, hzs]
      have hfit : s.len * i.size + (Builtin.zeroCells z.cells (m + 1)).toList.length ≤ (xs ++ rest).length := by
        rw [hzl, hc, ← Nat.add_mul]; exact Nat.mul_le_mul_right _ hm
      have hst := xstores (W := W) (L := L) (b := b) (o := s.len * i.size) (K := fun w' => Sat W w' (pts b (splice (xs ++ rest) (s.len * i.size) (Builtin.zeroCells z.cells (m + 1)).toList) :: L)) (Builtin.zeroCells z.cells (m + 1)).toList 0 w _ hs' (by simpa using hfit) (fun w' h => by simpa using h)
      obtain ⟨w', hr, hw⟩ := run_stores (P := P) _ 0 w (zeroCells_one h1 (by omega)) hst
      refine ⟨(), w', ?_, hk w' ?_⟩
      · simp [Builtin.clear_, run_underlying ht, run_zero' hi hz, hr, HT.vals]
      · have hsp : splice (xs ++ rest) (s.len * i.size) (Builtin.zeroCells z.cells (m + 1)).toList = xs ++ ((Builtin.zeroCells z.cells (m + 1)).toList ++ rest.drop (Builtin.zeroCells z.cells (m + 1)).toList.length) := by
          unfold splice
          rw [← hl, List.take_left, List.drop_append, List.drop_eq_nil_of_le (by omega), List.nil_append, List.append_assoc]
          congr 3
          omega
        rw [hsp] at hw
        refine Sat.shut_own ha hl ?_ hlc hw
        rw [← hsp, splice_length hfit, hc]

/-! ### Overlaps -/

/-- A new cell that no text looks at. -/
theorem xnewF {t : TypeId} {cs : List Value} {K : Addr → World → Prop} (hs : Sat W w L) (hk : ∀ b w', Sat W w' (pts b cs :: L) → (∀ o, w'.frozen? ⟨b, o, none⟩ = false) → K ⟨b, 0, none⟩ w') : XNew t cs w K := by
  refine hk _ _ hs.new_block fun o => ?_
  have : (w.alloc (.cells ⟨cs⟩ t)).heap[w.heap.size]? = some (.cells ⟨cs⟩ t (0, 0)) := by
    show (w.heap.push _)[w.heap.size]? = _
    simp
  unfold World.frozen?
  rw [show (⟨w.heap.size, o, none⟩ : Addr).block = w.heap.size from rfl, this]
  simp

def okOv (P : Program) (fn : Func) (sz : Nat) : Bool :=
  match fn.params, fn.resultTypes with
  | ⟨[t, t']⟩, ⟨[_]⟩ => Nat.beq t t' && okCopy P t sz
  | _, _ => false

theorem okOv_spec {fn : Func} {sz : Nat} (h : okOv P fn sz = true) : ∃ t r e i, fn.params = #[t, t] ∧ fn.resultTypes = #[r] ∧ P.underlying t = some (.slice e) ∧ P.info? e = some i ∧ i.size = sz := by
  unfold okOv at h
  split at h
  · rename_i t t' r h1 h2
    simp only [Bool.and_eq_true] at h
    obtain ⟨e, i, h3, h4, h5⟩ := okCopy_spec h.2
    have := Nat.eq_of_beq_eq_true h.1
    subst this
    exact ⟨t, r, e, i, h1, h2, h3, h4, h5⟩
  · cases h

theorem xoverlaps {f : FuncId} {fn : Func} {sz b la ca k lb cb : Nat} {s : Sl} {xs cs : List Value} {p : Option Addr} {K : Bool → World → Prop} (hf : P.funcs[f]? = some fn) (hb : fn.body.isNone = true) (hn : (fn.name == "runtime.NumGoroutine") = false)
    (h1 : (Extern.findNext fn).isNone = true) (h2 : Extern.find fn = some (Extern.SlicesOverlaps.overlaps fn.params fn.resultTypes)) (hok : okOv P fn sz = true) (hsz : 0 < sz)
    (hs : Sat W w (pts b cs :: own sz s xs :: L)) (hfz : ∀ o, w.frozen? ⟨b, o, none⟩ = false)
    (hp : ∀ b, s.a = some ⟨b, 0, none⟩ → p = some ⟨b, k * sz, none⟩) (_hk0 : s.a = none → p = none) (hl : 0 < s.len) (hk : K false w) :
    XDo P (extRun P f ⟨[.slice (some ⟨b, 0, none⟩) la ca, .slice p lb cb]⟩) (.leaf .bool) w K := by
  obtain ⟨t, r, e, i, hpa, hre, ht, hi, rfl⟩ := okOv_spec hok
  refine ⟨false, w, ?_, hk⟩
  rw [ext_run hf hb hn h1 h2, hpa, hre]
  rcases hs.swap.open_own with ⟨ha, hl0, _⟩ | ⟨b', rest, ha, hl', hc, hlc, hs'⟩
  · omega
  · rw [hp b' ha]
    obtain ⟨tA, lo, hi', hA, _, _⟩ := hs.pts_heap
    obtain ⟨tB, lo', hi'', hB, _, _⟩ := hs'.pts_heap
    have hne : b ≠ b' := hs'.swap.ne
    have hlen : 0 < xs.length := by rw [hl']; exact Nat.mul_pos hl hsz
    exact Lib.run_overlaps_apart w t r e ht i.size (fun w => run_size' hi w) ⟨b, 0, none⟩ ⟨b', k * i.size, none⟩ la ca lb cb hne tA tB cs.length (xs ++ rest).length
      (by simp [World.shape?, hA]) (by simp [World.shape?, hB]) (by rw [List.length_append]; omega) (hfz 0) (hfz _)

end
end Go.X

/-! Putting an element into a slice, and taking one out. -/
namespace Go.X
open Go.Proofs

section
variable {P : Program} {W w : World} {L : List SP}

theorem Sat.own_cap {sz : Nat} {s : Sl} {xs : List Value} (hs : Sat W w (own sz s xs :: L)) : s.len ≤ s.cap := by
  rcases hs.open_own with ⟨_, h, h', _⟩ | ⟨_, _, _, _, _, h, _⟩ <;> omega

theorem Sat.own_addr {sz : Nat} {s : Sl} {xs : List Value} (hs : Sat W w (own sz s xs :: L)) : s.a = none ∨ ∃ b, s.a = some ⟨b, 0, none⟩ := by
  rcases hs.open_own with ⟨h, _⟩ | ⟨b, _, h, _⟩
  · exact .inl h
  · exact .inr ⟨b, h⟩

theorem view_zero {a : Option Addr} {c sz : Nat} (ha : a = none ∨ ∃ b, a = some ⟨b, 0, none⟩) : (if c = 0 then a else Option.map (fun b => Addr.add b (0 * sz)) a) = a := by
  rcases ha with h | ⟨b, h⟩
  · rw [h]; split <;> rfl
  · rw [h, Nat.zero_mul]; split <;> simp [Addr.add_mk]

theorem reads_view {sz : Nat} {s : Sl} {xs : List Value} (hs : Sat W w (own sz s xs :: L)) {c k n m : Nat} (hc : c = k → xs.length ≤ k * sz) :
    Reads w ⟨if c = k then s.a else Option.map (fun b => Addr.add b (k * sz)) s.a, n, m⟩ (xs.drop (k * sz)) := by
  intro a ha j v hj
  rw [List.getElem?_drop] at hj
  by_cases h : c = k
  · have := (List.getElem?_eq_some_iff.1 hj).1
    have := hc h
    omega
  · dsimp only at ha
    rw [if_neg h] at ha
    cases hsa : s.a with
    | none => rw [hsa] at ha; cases ha
    | some a' =>
      rw [hsa] at ha
      cases ha
      obtain ⟨b, rfl, hcell⟩ := hs.own_cells hsa
      show w.cell? (Addr.add (Addr.add ⟨b, 0, none⟩ (k * sz)) j) = _
      rw [Addr.add_mk, Addr.add_mk, Nat.zero_add]
      exact hcell _ _ hj

theorem splice_at (A C vs : List Value) (k : Nat) (hk : k = A.length) : splice (A ++ C) k vs = A ++ vs ++ C.drop vs.length := by
  unfold splice
  rw [hk, List.take_left, List.drop_append, List.drop_eq_nil_of_le (by omega), List.nil_append]
  congr 2
  omega

theorem Insert_spec {s : Sl} {xs : List Value} {v : Value} {b k : Nat} (hs : Sat W w (pts b [v] :: own 1 s xs :: L)) (hfz : ∀ o, w.frozen? ⟨b, o, none⟩ = false) (h1 : oneCell v = true) (hx1 : allOne xs = true) (hk : k ≤ s.len) (hsz : s.len + 1 ≤ 2 ^ 40) :
    Ret Tryz.prog F.slices_Insert [.slice s.a s.len s.cap, .int .i64 k, .slice (some ⟨b, 0, none⟩) 1 1] w fun r w' => ∃ s' : Sl, r = .slice s'.a s'.len s'.cap ∧ s'.len = s.len + 1 ∧ Sat W w' (own 1 s' (xs.take k ++ v :: xs.drop k) :: L) := by
  suffices H : ∀ K : Value → World → Prop, (∀ (s' : Sl) w', s'.len = s.len + 1 → Sat W w' (own 1 s' (xs.take k ++ v :: xs.drop k) :: L) → K (.slice s'.a s'.len s'.cap) w') → S.slices_Insert s k ⟨some ⟨b, 0, none⟩, 1, 1⟩ K w from S.slices_Insert_ok s _ ⟨some ⟨b, 0, none⟩, 1, 1⟩ _ _ (H _ fun s' _ h1 h2 => ⟨s', rfl, h1, h2⟩)
  intro K hK
  have hxl : xs.length = s.len := by have := hs.swap.own_len; omega
  have hcap := hs.swap.own_cap
  have had := hs.swap.own_addr
  have hv1 : allOne [v] = true := by simp [allOne, h1]
  have hd1 : allOne (xs.drop k) = true := allOne_of fun v hv => oneCell_of_allOne hx1 v (List.mem_of_mem_drop hv)
  refine ⟨⟨by omega, by omega, by omega⟩, xlet0 (XIf.no rfl ?_)⟩
  by_cases hkl : k = s.len
  · refine XIf.yes (by simp [hkl]) (xappend (x := ⟨some ⟨b, 0, none⟩, 1, 1⟩) (by kernel_rfl) hs.swap (reads_pts hs) rfl (fun h => by cases h) hv1 hsz fun s' w' h hl => hK s' w' hl ?_)
    rw [List.take_of_length_le (by omega), List.drop_eq_nil_of_le (by omega)]
    exact h.swap.drop
  refine XIf.no (by simp; omega) (xlet ((s.len + 1 : Nat) : Int) (by show IntKind.wrap .i64 ((s.len : Int) + 1) = _; rw [wi (by omega) (by omega)]; rfl) ?_)
  have hklt : k < s.len := by omega
  obtain ⟨b0, hb0⟩ : ∃ b0, s.a = some ⟨b0, 0, none⟩ := ⟨_, (hs.swap.own_some (by omega)).choose_spec.1⟩
  by_cases hroom : s.cap < s.len + 1
  · refine XIf.yes (decide_eq_true (show ((s.len + 1 : Nat) : Int) > (s.cap : Int) by omega)) ⟨⟨by omega, by omega, by omega⟩,
      xlet ⟨s.a, k, s.cap⟩ (by rw [view_zero had]; simp) (xlet ((s.len + 1 : Nat) : Int) (by show IntKind.wrap .i64 ((s.len : Int) + 1) = _; rw [wi (by omega) (by omega)]; rfl) (xlet ((s.len + 1 - k : Nat) : Int) (by rw [wi (by omega) (by omega)]; omega) ?_))⟩
    have hrd : Reads w ⟨s.a, k, s.cap⟩ (xs.take k) := by
      intro a ha j u hj
      refine reads_own hs.swap a ha j u ?_
      rw [List.getElem?_take] at hj
      split at hj
      · exact hj
      · cases hj
    refine xgrowN (sz := 1) (n := k) (m := s.len + 1 - k) (vs := xs.take k) (by kernel_rfl) hs hrd (by rw [List.length_take]; omega) (fun h => ?_) rfl (by (try dsimp only); omega) (by omega) ?_
    · have h : s.a = none := h
      rw [h] at hb0; cases hb0
    intro zs s' w1 hz h hl'
    have hcap' := h.own_cap
    refine ⟨⟨by omega, by omega, by omega⟩, xlet0 ?_⟩
    refine xcopy (sz := 1) (s := s') (k := k) (m := 1) (n := 1) (vs := [v]) (by kernel_rfl) h (fun b ha hk => by rw [Int.toNat_natCast]; exact view_ptr ha hk) (by omega) (by (try dsimp only); omega) rfl ?_ ?_ rfl hv1 ?_
    · show 1 = min 1 _; dsimp only; omega
    · exact run_first (s := ⟨some ⟨b, 0, none⟩, 1, 1⟩) (reads_pts (h.bring 1)) rfl (fun h => by cases h) 1 1
    intro w2 h
    refine xlet ((k + 1 : Nat) : Int) (by show IntKind.wrap .i64 ((k : Int) + 1) = _; rw [wi (by omega) (by omega)]; rfl) ⟨⟨by omega, by omega, by omega⟩, xlet0 ⟨⟨by omega, by omega, by omega⟩, xlet0 ?_⟩⟩
    refine xcopy (sz := 1) (s := s') (k := k + 1) (m := s.len - k) (n := s.len - k) (vs := xs.drop k) (by kernel_rfl) h.drew (fun b ha hk => by rw [Int.toNat_natCast]; exact view_ptr ha hk) (by omega) (by (try dsimp only); omega) ?_ ?_ ?_ (by rw [List.length_drop]; omega) hd1 ?_
    · simp [Builtin.lenOf]
    · show _ = min _ _; dsimp only; omega
    · have hr := reads_view ((h.drew).bring 2) (c := s.cap) (k := k) (n := s.len - k) (m := s.cap - k) (fun h => by omega)
      rw [Nat.mul_one] at hr
      have := run_first (P := Tryz.prog) (sz := 1) (n := s.len - k) hr (by rw [List.length_drop]; omega) (fun h => by
        dsimp only at h; rw [if_neg (by omega), hb0] at h; cases h) (s.len - k) (s.cap - k)
      simpa using this
    intro w3 h
    refine hK s' w3 (by omega) ?_
    have e1 : splice (xs.take k ++ zs) (k * 1) [v] = xs.take k ++ [v] ++ zs.drop 1 := splice_at _ _ _ _ (by rw [List.length_take]; omega)
    have e2 : splice (xs.take k ++ [v] ++ zs.drop 1) ((k + 1) * 1) (xs.drop k) = xs.take k ++ [v] ++ xs.drop k := by
      have h3 : (zs.drop 1).drop (xs.drop k).length = [] := List.drop_eq_nil_of_le (by rw [List.length_drop, List.length_drop]; omega)
      rw [splice_at _ _ _ _ (by rw [List.length_append, List.length_take, List.length_singleton]; omega), h3, List.append_nil]
    rw [e1, e2, List.append_assoc, List.singleton_append] at h
    exact (h.swap.drop).swap.drop
  · refine XIf.no (decide_eq_false (show ¬ ((s.len + 1 : Nat) : Int) > (s.cap : Int) by omega)) ?_
    obtain ⟨ys, hys, hst⟩ := hs.swap.own_stretch (s.len + 1) (by omega) (by omega)
    refine xlet ((s.len + 1 : Nat) : Int) (by show IntKind.wrap .i64 ((s.len : Int) + 1) = _; rw [wi (by omega) (by omega)]; rfl) ⟨⟨(by (try dsimp only); omega), (by (try dsimp only); omega), (by (try dsimp only); omega)⟩, xlet ⟨s.a, s.len + 1, s.cap⟩ (by rw [view_zero had]; simp) (xlet ((k + 1 : Nat) : Int) (by show IntKind.wrap .i64 ((k : Int) + 1) = _; rw [wi (by omega) (by omega)]; rfl) ⟨⟨(by (try dsimp only); omega), (by (try dsimp only); omega), (by (try dsimp only); omega)⟩, xlet0 ?_⟩)⟩
    refine xoverlaps (k := k + 1) (sz := 1) Fu.slices_overlaps (by kernel_rfl) (by kernel_rfl) (by kernel_rfl) (by kernel_rfl) (by kernel_rfl) (by omega) hst.swap hfz (fun b hb => by rw [Int.toNat_natCast]; exact view_ptr hb (by (try dsimp only); omega)) (fun h => ?_) (Nat.succ_pos _) ?_
    · have h : s.a = none := h
      rw [h] at hb0; cases hb0
    refine XIf.yes rfl (xlet ((k + 1 : Nat) : Int) (by show IntKind.wrap .i64 ((k : Int) + 1) = _; rw [wi (by omega) (by omega)]; rfl) ⟨⟨(by (try dsimp only); omega), (by (try dsimp only); omega), (by (try dsimp only); omega)⟩, xlet0 ⟨⟨(by (try dsimp only); omega), (by (try dsimp only); omega), (by (try dsimp only); omega)⟩, xlet0 ?_⟩⟩)
    have hrd : (Builtin.firstCells 1 (s.len - k) (.slice (if s.cap = k then s.a else Option.map (fun b => Addr.add b (k * 1)) s.a) (s.len + 1 - k) (s.cap - k))).run Tryz.prog w.drew = .ok ⟨xs.drop k⟩ w.drew := by
      have hr := reads_view ((hs.drew).swap) (c := s.cap) (k := k) (n := s.len - k) (m := s.cap - k) (fun h => by omega)
      rw [Nat.mul_one] at hr
      have := run_first (P := Tryz.prog) (sz := 1) (n := s.len - k) hr (by rw [List.length_drop]; omega) (fun h => by
        dsimp only at h; rw [if_neg (by omega), hb0] at h; cases h) (s.len + 1 - k) (s.cap - k)
      simpa using this
    refine xcopy (sz := 1) (s := ⟨s.a, s.len + 1, s.cap⟩) (k := k + 1) (m := s.len + 1 - k) (n := s.len - k) (vs := xs.drop k) (by kernel_rfl) hst.drew (fun b ha hk => by rw [Int.toNat_natCast]; exact view_ptr ha hk) (by (try dsimp only); omega) (by (try dsimp only); omega) ?_ ?_ ?_ (by rw [List.length_drop]; omega) hd1 ?_
    · simp [Builtin.lenOf]
    · show _ = min _ _; dsimp only; omega
    · simpa using hrd
    intro w2 h
    refine ⟨⟨(by (try dsimp only); omega), (by (try dsimp only); omega), (by (try dsimp only); omega)⟩, xlet0 ?_⟩
    refine xcopy (sz := 1) (s := ⟨s.a, s.len + 1, s.cap⟩) (k := k) (m := 1) (n := 1) (vs := [v]) (by kernel_rfl) h (fun b ha hk => by rw [Int.toNat_natCast]; exact view_ptr ha hk) (by (try dsimp only); omega) (by (try dsimp only); omega) rfl ?_ ?_ rfl hv1 ?_
    · show 1 = min 1 _; dsimp only; omega
    · exact run_first (s := ⟨some ⟨b, 0, none⟩, 1, 1⟩) (reads_pts (h.bring 1)) rfl (fun h => by cases h) 1 1
    intro w3 h
    refine hK ⟨s.a, s.len + 1, s.cap⟩ w3 rfl ?_
    have hxt : xs ++ ys = xs.take (k + 1) ++ (xs.drop (k + 1) ++ ys) := by rw [← List.append_assoc, List.take_append_drop]
    have h1' : splice (xs ++ ys) ((k + 1) * 1) (xs.drop k) = xs.take (k + 1) ++ xs.drop k := by
      have h3 : (xs.drop (k + 1) ++ ys).drop (xs.drop k).length = [] := List.drop_eq_nil_of_le (by rw [List.length_append, List.length_drop, List.length_drop]; omega)
      rw [hxt, splice_at _ _ _ _ (by rw [List.length_take]; omega), h3, List.append_nil]
    have h2' : splice (xs.take (k + 1) ++ xs.drop k) (k * 1) [v] = xs.take k ++ v :: xs.drop k := by
      rw [List.take_succ_eq_append_getElem (by omega), List.append_assoc, splice_at _ _ _ _ (by rw [List.length_take]; omega)]
      simp
    rw [h1', h2'] at h
    exact h.swap.drop

theorem Delete_spec {s : Sl} {xs : List Value} {k : Nat} (hs : Sat W w (own 1 s xs :: L)) (hx1 : allOne xs = true) (hk : k < s.len) (hsz : s.len ≤ 2 ^ 40) :
    Ret Tryz.prog F.slices_Delete [.slice s.a s.len s.cap, .int .i64 k, .int .i64 ((k + 1 : Nat) : Int)] w fun r w' => ∃ s' : Sl, r = .slice s'.a s'.len s'.cap ∧ s'.len = s.len - 1 ∧ Sat W w' (own 1 s' (xs.take k ++ xs.drop (k + 1)) :: L) := by
  suffices H : ∀ K : Value → World → Prop, (∀ (s' : Sl) w', s'.len = s.len - 1 → Sat W w' (own 1 s' (xs.take k ++ xs.drop (k + 1)) :: L) → K (.slice s'.a s'.len s'.cap) w') → S.slices_Delete s k ((k + 1 : Nat) : Int) K w from S.slices_Delete_ok s _ _ _ _ (H _ fun s' _ h1 h2 => ⟨s', rfl, h1, h2⟩)
  intro K hK
  have hxl : xs.length = s.len := by have := hs.own_len; omega
  have hcap := hs.own_cap
  have had := hs.own_addr
  obtain ⟨b0, hb0⟩ : ∃ b0, s.a = some ⟨b0, 0, none⟩ := ⟨_, (hs.own_some (by omega)).choose_spec.1⟩
  have hd1 : allOne (xs.drop (k + 1)) = true := allOne_of fun v hv => oneCell_of_allOne hx1 v (List.mem_of_mem_drop hv)
  refine ⟨⟨by omega, by omega, by omega⟩, xlet0 (XIf.no (by simp; omega) ⟨⟨by omega, by omega, by omega⟩, xlet ⟨s.a, k, s.cap⟩ (by rw [view_zero had]; simp) ⟨⟨by omega, by omega, by omega⟩, xlet ⟨if s.cap = k + 1 then s.a else Option.map (fun b => Addr.add b ((k + 1) * 1)) s.a, s.len - (k + 1), s.cap - (k + 1)⟩ (by simp) ?_⟩⟩)⟩
  have hr := reads_view (hs.drew) (c := s.cap) (k := k + 1) (n := s.len - (k + 1)) (m := s.cap - (k + 1)) (fun h => by omega)
  have h := (hs.drew).own_shrink k (by omega)
  rw [Nat.mul_one] at h
  refine xappendR (s := ⟨s.a, k, s.cap⟩) (by kernel_rfl) h hr (by rw [List.length_drop]; dsimp only; omega) (fun h => ?_) (by rw [Nat.mul_one]; exact hd1) (by (try dsimp only); omega) ?_
  · dsimp only at h
    rw [hb0] at h
    split at h
    · cases h
    · cases h
  intro w' h
  rw [Nat.mul_one] at h
  refine ⟨⟨(by (try dsimp only); omega), (by (try dsimp only); omega), (by (try dsimp only); omega)⟩, xlet0 (xclear (s := ⟨s.a, k + (s.len - (k + 1)), s.cap⟩) (by kernel_rfl) (by omega) h (fun b hb hlt => ?_) (by (try dsimp only); omega) fun w' h => hK ⟨s.a, k + (s.len - (k + 1)), s.cap⟩ w' (by (try dsimp only); omega) h)⟩
  rw [Int.toNat_natCast]
  exact view_ptr hb hlt

end
end Go.X

/-! The device's call Create. -/
namespace Go.X
open Go.Proofs

section
variable {W w : World} {L : List SP} {d : Nat} {D : DD}

def DD.create (D : DD) (name : ByteArray) : Int × DD :=
  if D.off then (14, D) else if nameB name = false then (1, D) else if isHead name (behind name D.files) then (9, D)
  else (0, { D with files := ahead name D.files ++ ⟨D.made, name, [], []⟩ :: behind name D.files, made := D.made + 1 })

theorem allOne_ptrs (ps : List Nat) : allOne (ps.map ptr) = true := by
  induction ps with
  | nil => rfl
  | cons p ps ih => exact ih

theorem Create_spec {name : ByteArray} (hs : Sat W w (DiskP d D :: L)) (hr : Rising D.files) (hn : D.files.length ≤ 2 ^ 30) (hmade : 0 ≤ D.made ∧ D.made ≤ 2 ^ 40) :
    Ret Tryz.prog F.disk_Disk_Create [ptr d, .string name] w fun v w' => v = .int .i64 (D.create name).1 ∧ Sat W w' (DiskP d (D.create name).2 :: L) := by
  suffices H : ∀ K : Value → World → Prop, (∀ v w', v = .int .i64 (D.create name).1 ∧ Sat W w' (DiskP d (D.create name).2 :: L) → K v w') → S.disk_Disk_Create (some ⟨d, 0, none⟩) name K w from S.disk_Disk_Create_ok _ _ _ _ (H _ fun _ _ h => h)
  intro K hK
  refine xcall (ready_spec hs) ?_
  rintro v w1 ⟨rfl, hq1⟩
  refine ⟨_, rfl, ?_⟩
  have hs1 := hs.quiet hq1
  by_cases hoff : D.off = true
  · have : D.create name = (14, D) := by unfold DD.create; rw [if_pos hoff]
    rw [this] at hK
    exact XIf.yes (off_yes hoff) (hK _ _ ⟨by rw [off_14 hoff], hs1⟩)
  have hoff' : D.off = false := by simpa using hoff
  refine XIf.no (off_no hoff') (xcall (named_spec name hs1) ?_)
  rintro v w2 ⟨rfl, hs2⟩
  refine ⟨_, rfl, ?_⟩
  by_cases hnm : nameB name = false
  · have : D.create name = (1, D) := by unfold DD.create; rw [if_neg hoff, if_pos hnm]
    rw [this] at hK
    exact XIf.yes (by rw [hnm]; rfl) (hK _ _ ⟨rfl, hs2⟩)
  have hnm' : nameB name = true := by simpa using hnm
  refine XIf.no (by rw [hnm']; rfl) (xcalls (place_spec (name := name) hs2 hr (by omega)) ?_)
  rintro v w3 ⟨rfl, hq3⟩
  refine ⟨(_, _, ()), rfl, ?_⟩
  have hs3 := hs2.quiet hq3
  cases hh : isHead name (behind name D.files) with
  | true =>
    have : D.create name = (9, D) := by unfold DD.create; rw [if_neg hoff, if_neg hnm, if_pos hh]
    rw [this] at hK
    exact XIf.yes hh (hK _ _ ⟨rfl, hs3⟩)
  | false =>
    have hcr : D.create name = (0, { D with files := ahead name D.files ++ ⟨D.made, name, [], []⟩ :: behind name D.files, made := D.made + 1 }) := by
      unfold DD.create; rw [if_neg hoff, if_neg hnm, hh]; rfl
    rw [hcr] at hK
    refine XIf.no hh (xnil ?_)
    obtain ⟨l, fs, ws, hl, h⟩ := DiskP.open hs3.drew
    refine xload h 0 rfl rfl (xnil (xload h 6 rfl rfl (xnew h fun p w4 h4 => ?_)))
    have hll : l.length = D.files.length := by rw [← hl, List.length_map]
    have hfl : fs.len = l.length := by have := (h.bring 1).own_len; simpa using this.symm
    have hk : (ahead name D.files).length ≤ l.length := by
      have := congrArg List.length (ahead_behind name D.files)
      rw [List.length_append] at this; omega
    refine ⟨(h4.bring 1).cell rfl, (h4.bring 1).cell rfl, xnewF h4 fun b w5 h5 hfz => ⟨(h5.bring 2).cell rfl, (h5.bring 2).cell rfl, ?_⟩⟩
    have hmap : l.map (fun x => ptr x.1) = (l.map (·.1)).map ptr := by rw [List.map_map]; rfl
    have h6 : Sat W w5 (pts b [ptr p] :: own 1 fs (l.map fun x => ptr x.1) :: pts p [.int .i64 D.made, .string name, .slice none 0 0, .slice none 0 0] ::
        pts d [.slice fs.a fs.len fs.cap, .slice ws.a ws.len ws.cap, .int .i64 D.most, .int .i64 D.fuse, .bool D.off, .int .i64 D.count, .int .i64 D.made] :: FilesP l :: own 4 ws (D.wait.flatMap wcells) :: L) := h5.arr [0, 3, 1, 2, 4, 5]
    refine xcall (Insert_spec (k := (ahead name D.files).length) h6 hfz rfl (by rw [hmap]; exact allOne_ptrs _) (by (try dsimp only); omega) (by (try dsimp only); omega)) ?_
    rintro v w6 ⟨s', rfl, hsl, h7⟩
    refine ⟨s', rfl, (h7.bring 2).cell rfl, xnil (xstore (h7.bring 2) 0 rfl (by simp) fun w7 h8 => xnil (xload h8 6 rfl rfl (xlet (D.made + 1) (wi (by omega) (by omega)) (xnil (xstore h8 6 rfl (by simp) fun w8 h9 => hK _ _ ⟨rfl, ?_⟩)))))⟩
    have h10 : Sat W w8 (pts p [.int .i64 D.made, .string name, .slice none 0 0, .slice none 0 0] :: pts d [.slice s'.a s'.len s'.cap, .slice ws.a ws.len ws.cap, .int .i64 D.most, .int .i64 D.fuse, .bool D.off, .int .i64 D.count, .int .i64 (D.made + 1)] ::
        own 1 s' ((l.map fun x => ptr x.1).take (ahead name D.files).length ++ ptr p :: (l.map fun x => ptr x.1).drop (ahead name D.files).length) :: FilesP l :: own 4 ws (D.wait.flatMap wcells) :: L) := h9.arr [2, 0, 1, 3, 4]
    have h11 := (h10.own_nil (sz := 1)).own_nil (sz := 1)
    have h12 : Sat W w8 (pts p [.int .i64 D.made, .string name, .slice none 0 0, .slice none 0 0] :: own 1 ⟨none, 0, 0⟩ (bcells []) :: own 1 ⟨none, 0, 0⟩ (bcells []) :: _) := h11.arr [2, 0, 1]
    have h13 := FileP.shut (p := p) (f := ⟨D.made, name, [], []⟩) (ls := ⟨none, 0, 0⟩) (ss := ⟨none, 0, 0⟩) h12
    have h14 := h13.arr [0, 3]
    have h16 := (FilesP.put (l1 := l.take (ahead name D.files).length) (l2 := l.drop (ahead name D.files).length) (by rw [List.take_append_drop]; exact h14)).arr [1, 2, 0]
    refine DiskP.shut (D := { D with files := ahead name D.files ++ ⟨D.made, name, [], []⟩ :: behind name D.files, made := D.made + 1 }) (l := l.take (ahead name D.files).length ++ (p, ⟨D.made, name, [], []⟩) :: l.drop (ahead name D.files).length) (fs := s') (ws := ws) ?_ ?_
    · have ht : (ahead name D.files ++ behind name D.files).take (ahead name D.files).length = ahead name D.files := List.take_left
      have hd : (ahead name D.files ++ behind name D.files).drop (ahead name D.files).length = behind name D.files := List.drop_left
      rw [ahead_behind] at ht hd
      rw [List.map_append, List.map_cons, List.map_take, List.map_drop, hl, ht, hd]
    · rw [List.map_append, List.map_cons, List.map_take, List.map_drop]
      exact h16

end
end Go.X

/-! What later texts share: small facts of texts, files and memory. -/
namespace Go.X
open Go.Proofs

section
variable {W w : World} {L : List SP}

theorem rising_one (f : DF) : Rising [f] := ⟨fun _ h => (by cases h), trivial⟩

theorem small_one {f : DF} (h : f.seen.length ≤ 2097152 ∧ f.last.length ≤ 2097152) : Small [f] := fun g hg => by
  simp only [List.mem_cons, List.not_mem_nil, or_false] at hg
  subst hg; exact h

theorem sEq_str (a b : List UInt8) : sEq (str a) (str b) = decide (a = b) := by
  unfold sEq
  rw [ByteArray.toList_eq, ByteArray.toList_eq, str_toList, str_toList]
  by_cases h : a = b
  · simp [h]
  · simp [h]

theorem sEq_self (a : ByteArray) : sEq a a = true := by
  have := sEq_str a.data.toList a.data.toList
  rw [str_data] at this
  rw [this]; simp

/-- A call whose answer is known and that leaves the world. -/
theorem xcall_eq {f : FuncId} {args : List Value} {t : Ty} {u : Value} {K : t.T → World → Prop} (h : Ret Tryz.prog f args w fun v w' => v = u ∧ w' = w) (x : t.T) (hx : u = t.mk x) (hk : K x w) : XCall Tryz.prog f args t w K :=
  xcall h fun v w' ⟨e1, e2⟩ => ⟨x, e1.trans hx, by rw [e2]; exact hk⟩

theorem xcalls_eq {f : FuncId} {args : List Value} {ts : List Ty} {u : Value} {K : HT ts → World → Prop} (h : Ret Tryz.prog f args w fun v w' => v = u ∧ w' = w) (x : HT ts) (hx : u = .tuple ⟨HT.vals ts x⟩) (hk : K x w) : XCalls Tryz.prog f args ts w K :=
  xcalls h fun v w' ⟨e1, e2⟩ => ⟨x, e1.trans hx, by rw [e2]; exact hk⟩

theorem lessB_self (f : DF) : lessB f.name f = false := by unfold lessB; rw [cmpS_refl]; rfl

theorem behind_self (f : DF) (r : List DF) : behind f.name (f :: r) = f :: r := by unfold behind; rw [List.dropWhile_cons, lessB_self]; rfl

theorem ahead_self (f : DF) (r : List DF) : ahead f.name (f :: r) = [] := by unfold ahead; rw [List.takeWhile_cons, lessB_self]; rfl

theorem isHead_self (f : DF) (r : List DF) : isHead f.name (behind f.name (f :: r)) = true := by rw [behind_self]; simp [isHead, cmpS_refl]

/-- A device whose first file stands otherwise. -/
def DD.after (D : DD) (f : DF) (r : List DF) (R : WS) : DD :=
  { files := { f with seen := R.seen } :: r, wait := R.wait, most := D.most, fuse := R.fuse, off := R.off, count := R.count, made := D.made }

/-- A write to the first file. -/
theorem write_first {D : DD} {f : DF} {r : List DF} (hf : D.files = f :: r) (ho : D.off = false) (at_ : Nat) (t : List UInt8) (hat : at_ + t.length ≤ 2097152) (hfr : ¬ (t ≠ [] ∧ D.free < (secs (at_ + t.length) : Int) - f.takes)) :
    D.write f.name at_ t = (downE (wr t.length f.id at_ t ⟨f.seen, D.wait, D.fuse, D.count, false⟩).off, D.after f r (wr t.length f.id at_ t ⟨f.seen, D.wait, D.fuse, D.count, false⟩)) := by
  unfold DD.write
  rw [ho, hf, behind_self, ahead_self]
  simp only [Bool.false_eq_true, if_false]
  rw [if_neg (by rw [cmpS_refl]; simp), if_neg (by omega), Int.toNat_natCast, if_neg hfr]
  rfl

theorem write_full {D : DD} {f : DF} {r : List DF} (hf : D.files = f :: r) (ho : D.off = false) (at_ : Nat) (t : List UInt8) (hat : at_ + t.length ≤ 2097152) (hfr : t ≠ [] ∧ D.free < (secs (at_ + t.length) : Int) - f.takes) :
    D.write f.name at_ t = (7, D) := by
  unfold DD.write
  rw [ho, hf, behind_self]
  simp only [Bool.false_eq_true, if_false]
  rw [if_neg (by rw [cmpS_refl]; simp), if_neg (by omega), Int.toNat_natCast, if_pos hfr]

theorem str_empty (l : List UInt8) : sEq (str l) ByteArray.empty = decide (l = []) := sEq_str l []

theorem free_one (n : Int) (f : DF) (w : List DW) (fu c m : Int) (o : Bool) : DD.free ⟨[f], w, n, fu, o, c, m⟩ = n - f.takes := by
  simp [DD.free, takesAll]

/-- The closed facts that a make of bytes asks of the types. -/
def okMakeB (P : Program) (t : TypeId) : Bool :=
  match under P t with
  | some (.slice e) => match ti P e with
    | some i => Nat.beq i.size 1 && Nat.beq i.bytes 1 && (match i.zero with
      | some (.int .u8 0) => true
      | _ => false)
    | none => false
  | _ => false

theorem okMakeB_spec {P : Program} {t : TypeId} (h : okMakeB P t = true) : ∃ e i, P.underlying t = some (.slice e) ∧ P.info? e = some i ∧ i.size = 1 ∧ i.bytes = 1 ∧ i.zero = some (.int .u8 0) := by
  unfold okMakeB at h
  split at h
  · rename_i e h1
    split at h
    · rename_i i hi
      simp only [Bool.and_eq_true] at h
      obtain ⟨⟨h3, h4⟩, h5⟩ := h
      split at h5
      · rename_i hz
        exact ⟨e, i, under_eq h1, ti_info hi, Nat.eq_of_beq_eq_true h3, Nat.eq_of_beq_eq_true h4, hz⟩
      · cases h5
    · cases h
  · cases h

theorem made_bytes (n : Nat) : (madeCells (#[.int .u8 0] : Array Value) n).toList = bcells (List.replicate n 0) := by
  unfold madeCells bcells
  apply List.ext_getElem
  · simp
  · intro i h1 h2
    simp [Nat.mod_one]

/-- **make** of bytes. -/
theorem xmakeB {P : Program} {t : TypeId} {n : Int} {m : Nat} {K : Sl → World → Prop} (hok : okMakeB P t = true) (hs : Sat W w L) (hm : n = m) (hsz : m ≤ 2 ^ 40)
    (hk : ∀ s w', s.len = m → Sat W w' (own 1 s (bcells (List.replicate m 0)) :: L) → K s w') : XDo P (Instr.makeSlice t (.int .i64 n) (.int .i64 n)) (.leaf .slice) w K := by
  obtain ⟨e, i, ht, hi, h1, hb, hz⟩ := okMakeB_spec hok
  subst hm
  have hr := run_make (P := P) w t e i _ ht hi hz .i64 .i64 (m : Int) (m : Int) (by omega) (Int.le_refl _) (by rw [hb]; omega) (by omega)
  rw [Int.toNat_natCast, h1, Nat.mul_one] at hr
  refine ⟨⟨some ⟨w.heap.size, 0, none⟩, m, m⟩, _, hr, hk _ _ rfl ?_⟩
  have hnew := hs.new_block (cs := (madeCells (#[.int .u8 0] : Array Value) m).toList) (t := e)
  have hnew' : Sat W (w.alloc (.cells (madeCells (#[.int .u8 0] : Array Value) m) e)) (pts w.heap.size (bcells (List.replicate m 0) ++ []) :: L) := by
    rw [List.append_nil, ← made_bytes]; exact hnew
  refine Sat.shut_own rfl ?_ ?_ (Nat.le_refl _) hnew'
  · simp [bcells_length]
  · simp [bcells_length]

/-- One byte more laid. -/
theorem over_snoc (G u : List UInt8) (k j : Nat) (c : UInt8) (hc : u[j]? = some c) (hk : k + u.length ≤ G.length) : over G k (u.take (j + 1)) = (over G k (u.take j)).set (k + j) c := by
  have hj := (List.getElem?_eq_some_iff.1 hc).1
  have e : u.take (j + 1) = u.take j ++ [c] := by rw [List.take_add_one, hc]; rfl
  have hl : (u.take j).length = j := by rw [List.length_take]; omega
  unfold over
  rw [e]
  simp only [List.length_append, hl, List.length_singleton]
  have hd : G.drop (k + j) = G[k + j] :: G.drop (k + j + 1) := List.drop_eq_getElem_cons (by omega)
  have hlen : (G.take k ++ u.take j).length = k + j := by rw [List.length_append, List.length_take, hl]; omega
  rw [hd, List.set_append_right _ _ (by omega), hlen, Nat.sub_self, List.set_cons_zero, ← List.append_assoc, List.append_assoc _ [c], show k + (j + 1) = k + j + 1 by omega]
  rfl

/-- Is a fate that one? -/
theorem xfate {A : SP} {s : Sl} {xs : List Int} (hA : ROInts W A s xs) (hs : Sat W w (A :: L)) (i : Nat) (c : Int) {J : Bool × Unit → World → Prop} (hJ : J (decide (xs[i]? = some c), ()) w) :
    XIf (decide ((i : Int) < ((s.len : Nat) : Int))) (XNil s.a fun a => ((0 : Int) ≤ (i : Int) ∧ (i : Int) < ((s.len : Nat) : Int)) ∧ XLoad (.int .i64) (Addr.add a ((Int.toNat (i : Int)) * 1)) w fun (x : Int) => J (((x : Int) == c), ()) w) (J (false, ()) w) := by
  obtain ⟨hl, hA⟩ := hA
  by_cases hi : i < xs.length
  · obtain ⟨x, hx⟩ : ∃ x, xs[i]? = some x := ⟨_, List.getElem?_eq_getElem hi⟩
    obtain ⟨b, o, ha, hcell⟩ := hA w L hs i x hx
    refine XIf.yes (decide_eq_true (by omega)) ?_
    rw [ha]
    refine xnil ⟨by omega, xload_at (l := .int .i64) (x := x) (by rw [Int.toNat_natCast, Nat.mul_one, Addr.add_mk]; exact hcell) ?_⟩
    rw [hx] at hJ
    have : (x == c) = decide (some x = some c) := by by_cases h : x = c <;> simp [h]
    rw [this]
    exact hJ
  · refine XIf.no (decide_eq_false (by omega)) ?_
    have : xs[i]? = none := List.getElem?_eq_none (by omega)
    rw [this] at hJ
    exact hJ

theorem read_first {D : DD} {f : DF} {r : List DF} (hf : D.files = f :: r) (ho : D.off = false) (k n : Nat) : D.read f.name k n = ((f.seen.drop k).take n, 0) := by
  unfold DD.read
  rw [ho, hf, behind_self]
  simp only [Bool.false_eq_true, if_false]
  rw [if_neg (by rw [cmpS_refl]; simp), if_neg (by omega), Int.toNat_natCast, Int.toNat_natCast]

theorem over_nil (l : List UInt8) (k : Nat) : over l k [] = l := by simp [over]

theorem pl_neg {n : Nat} {place : Nat} (h : ¬ (64 : Int) - ((place % 64 : Nat) : Int) > (n : Int)) : (64 : Int) - ((place % 64 : Nat) : Int) = ((pieceLen place n : Nat) : Int) := by
  unfold pieceLen; omega

theorem pl_pos {n : Nat} {place : Nat} (h : (64 : Int) - ((place % 64 : Nat) : Int) > (n : Int)) : (n : Int) = ((pieceLen place n : Nat) : Int) := by
  unfold pieceLen; omega

theorem rising_tail {A B : List DF} (h : Rising (A ++ B)) : Rising B := by
  induction A with
  | nil => exact h
  | cons a A ih => exact ih h.2

theorem behind_mid : ∀ {A : List DF} {f : DF} {B : List DF}, Rising (A ++ f :: B) → ahead f.name (A ++ f :: B) = A ∧ behind f.name (A ++ f :: B) = f :: B
  | [], f, B, _ => ⟨ahead_self f B, behind_self f B⟩
  | a :: A, f, B, h => by
    have hlt : lessB f.name a = true := decide_eq_true (h.1 f (by simp))
    obtain ⟨h1, h2⟩ := behind_mid h.2
    unfold ahead behind at *
    rw [List.cons_append, List.takeWhile_cons, List.dropWhile_cons, hlt]
    simp only [if_true]
    exact ⟨by rw [h1], h2⟩

theorem rising_map {g : DF → DF} (hg : ∀ f, (g f).name = f.name) : ∀ {l : List DF}, Rising l → Rising (l.map g)
  | [], _ => trivial
  | f :: l, h => ⟨fun x hx => by
      obtain ⟨y, hy, rfl⟩ := List.mem_map.1 hx
      rw [hg, hg]
      exact h.1 y hy, rising_map hg h.2⟩

theorem rising_mid {A B : List DF} {f g : DF} (hn : g.name = f.name) (h : Rising (A ++ f :: B)) : Rising (A ++ g :: B) := by
  induction A with
  | nil => exact ⟨fun x hx => by rw [hn]; exact h.1 x hx, h.2⟩
  | cons a A ih =>
    refine ⟨fun x hx => ?_, ih h.2⟩
    rcases List.mem_append.1 hx with hx | hx
    · exact h.1 x (List.mem_append_left _ hx)
    · rcases List.mem_cons.1 hx with rfl | hx
      · rw [hn]; exact h.1 f (by simp)
      · exact h.1 x (by simp [hx])

theorem rising_put {name : ByteArray} {nw : DF} (hn : nw.name = name) : ∀ {fs : List DF}, Rising fs → isHead name (behind name fs) = false → Rising (ahead name fs ++ nw :: behind name fs)
  | [], _, _ => ⟨fun _ h => (by cases h), trivial⟩
  | f :: fs, h, hh => by
    cases hl : lessB name f with
    | true =>
      have e1 : ahead name (f :: fs) = f :: ahead name fs := by unfold ahead; rw [List.takeWhile_cons, hl]; rfl
      have e2 : behind name (f :: fs) = behind name fs := by unfold behind; rw [List.dropWhile_cons, hl]; rfl
      rw [e1, e2]
      rw [e2] at hh
      refine ⟨fun x hx => ?_, rising_put hn h.2 hh⟩
      have hmem : ∀ y, y ∈ ahead name fs ∨ y ∈ behind name fs → y ∈ fs := fun y hy => by rw [← ahead_behind name fs]; simpa using hy
      rcases List.mem_append.1 hx with hx | hx
      · exact h.1 x (hmem x (.inl hx))
      · rcases List.mem_cons.1 hx with rfl | hx
        · rw [hn]; exact of_decide_eq_true hl
        · exact h.1 x (hmem x (.inr hx))
    | false =>
      have e1 : ahead name (f :: fs) = [] := by unfold ahead; rw [List.takeWhile_cons, hl]; rfl
      have e2 : behind name (f :: fs) = f :: fs := by unfold behind; rw [List.dropWhile_cons, hl]; rfl
      rw [e1, e2]
      rw [e2] at hh
      have h1 : ¬ cmpS f.name name < 0 := of_decide_eq_false hl
      have h2 : cmpS f.name name ≠ 0 := by simpa [isHead] using hh
      have h3 : cmpS name f.name < 0 := by rw [cmpS_swap]; omega
      refine ⟨fun x hx => ?_, h⟩
      rw [hn]
      rcases List.mem_cons.1 hx with rfl | hx
      · exact h3
      · exact cmpS_trans h3 (h.1 x hx)

/-- Reading a field of an element. -/
theorem xfield {l : Leaf} {sz o : Nat} {s : Sl} {xs : List Value} {i : Int} {n : Nat} {K : Addr → l.T → Prop} (hs : Sat W w (own sz s xs :: L)) (k : Nat) (hi : i = k) (hlt : k < s.len) (hn : n = k * sz) {x : l.T}
    (hx : xs[k * sz + o]? = some (l.mk x)) (hk : ∀ a, s.a = some a → K a x) : XNil s.a fun a => ((0 : Int) ≤ i ∧ i < ((s.len : Nat) : Int)) ∧ XLoad l (Addr.add (Addr.add a n) o) w (K a) := by
  obtain ⟨b, hb, hc⟩ := hs.own_some (by omega)
  have hk' := hk
  rw [hb]
  refine ⟨by omega, x, ?_, hk' _ hb⟩
  rw [Addr.add_mk, Addr.add_mk, Nat.zero_add, hn]
  exact hc _ _ hx

/-- Reading an element's first field. -/
theorem xfield0 {l : Leaf} {sz : Nat} {s : Sl} {xs : List Value} {i : Int} {n : Nat} {K : Addr → l.T → Prop} (hs : Sat W w (own sz s xs :: L)) (k : Nat) (hi : i = k) (hlt : k < s.len) (hn : n = k * sz) {x : l.T}
    (hx : xs[k * sz]? = some (l.mk x)) (hk : ∀ a, s.a = some a → K a x) : XNil s.a fun a => ((0 : Int) ≤ i ∧ i < ((s.len : Nat) : Int)) ∧ XLoad l (Addr.add a n) w (K a) := by
  obtain ⟨b, hb, hc⟩ := hs.own_some (by omega)
  have hk' := hk
  rw [hb]
  refine ⟨by omega, x, ?_, hk' _ hb⟩
  rw [Addr.add_mk, Nat.zero_add, hn]
  exact hc _ _ hx

/-- Writing a field of an element. -/
theorem xsetf {sz o : Nat} {s : Sl} {xs : List Value} {v : Value} {i : Int} {n : Nat} {K : Addr → World → Prop} (hs : Sat W w (own sz s xs :: L)) (k : Nat) (hi : i = k) (hlt : k < s.len) (hn : n = k * sz) (ho : o < sz)
    (hk : ∀ a w', Sat W w' (own sz s (xs.set (k * sz + o) v) :: L) → K a w') : XNil s.a fun a => ((0 : Int) ≤ i ∧ i < ((s.len : Nat) : Int)) ∧ XStore (Addr.add (Addr.add a n) o) v w (K a) := by
  rcases hs.open_own with ⟨_, h0, _⟩ | ⟨b, rest, ha, hl, hc, hlc, hs'⟩
  · omega
  · have hfit : k * sz + o < xs.length := by
      rw [hl]
      have : (k + 1) * sz ≤ s.len * sz := Nat.mul_le_mul_right _ hlt
      rw [Nat.succ_mul] at this
      omega
    rw [ha]
    refine ⟨by omega, xstore hs' (k * sz + o) (by rw [Addr.add_mk, Addr.add_mk, Nat.zero_add, hn]) (by rw [List.length_append]; omega) fun w' h => hk _ w' ?_⟩
    rw [set_append_left' xs rest _ v hfit] at h
    exact Sat.shut_own ha (by rw [List.length_set]; exact hl) (by rw [List.length_append, List.length_set, ← List.length_append]; exact hc) hlc h

theorem sEq_iff (a b : ByteArray) : sEq a b = decide (a = b) := by
  have := sEq_str a.data.toList b.data.toList
  rw [str_data, str_data] at this
  rw [this]
  by_cases h : a = b
  · simp [h]
  · have : a.data.toList ≠ b.data.toList := fun e => h (bytes_ext e)
    simp [h, this]

/-- Bytes with others in their place, noughts in a gap. -/
def laidL (l : List UInt8) (k : Nat) (t : List UInt8) : List UInt8 := over (l ++ List.replicate (k + t.length - l.length) 0) k t

theorem str_append (a b : List UInt8) : (str a ++ str b : ByteArray) = str (a ++ b) := by
  apply bytes_ext
  rw [str_toList]
  simp [str]

theorem laid_grow {l t : List UInt8} {k : Nat} (h : l.length ≤ k) : laidL l k t = (l ++ List.replicate (k - l.length) 0) ++ t := by
  unfold laidL over
  have e1 : (l ++ List.replicate (k + t.length - l.length) (0 : UInt8)).take k = l ++ List.replicate (k - l.length) 0 := by
    rw [List.take_append, List.take_of_length_le h, List.take_replicate, Nat.min_eq_left (by omega)]
  rw [e1, List.drop_eq_nil_of_le (by simp; omega), List.append_nil]

theorem laid_end {l t : List UInt8} {k : Nat} (h : k ≤ l.length) (h2 : l.length ≤ k + t.length) : laidL l k t = l.take k ++ t := by
  unfold laidL over
  rw [List.take_append_of_le_length h, List.drop_eq_nil_of_le (by simp; omega), List.append_nil]

theorem laid_mid {l t : List UInt8} {k : Nat} (h : k + t.length ≤ l.length) : laidL l k t = l.take k ++ t ++ l.drop (k + t.length) := by
  unfold laidL over
  rw [show k + t.length - l.length = 0 by omega, List.replicate_zero, List.append_nil]

theorem laidL_length (l t : List UInt8) (k : Nat) : (laidL l k t).length = max l.length (k + t.length) := by
  unfold laidL
  rw [over_length (by rw [List.length_append, List.length_replicate]; omega), List.length_append, List.length_replicate]
  omega

theorem reads_front {sz : Nat} {s : Sl} {xs : List Value} (hs : Sat W w (own sz s xs :: L)) (k c : Nat) : Reads w ⟨s.a, k, c⟩ (xs.take (k * sz)) := by
  intro a ha j u hj
  refine reads_own hs a ha j u ?_
  rw [List.getElem?_take] at hj
  split at hj
  · exact hj
  · cases hj

theorem bytesLess_cmp : ∀ (x y : List UInt8), Op.bytesLess x y = decide (cmpL x y < 0)
  | [], [] => rfl
  | [], _ :: _ => rfl
  | _ :: _, [] => rfl
  | a :: x, b :: y => by
    unfold Op.bytesLess cmpL
    by_cases h1 : a < b
    · simp [h1]
    · by_cases h2 : b < a
      · have : ¬ a = b := fun e => by subst e; exact h1 h2
        simp [h1, h2, this]
      · have := u8_eq_of_not h1 h2
        subst this
        simp [h1, bytesLess_cmp x y]

theorem sLt_cmp (a b : ByteArray) : sLt a b = decide (cmpS a b < 0) := by
  unfold sLt cmpS
  rw [ByteArray.toList_eq, ByteArray.toList_eq, bytesLess_cmp]

abbrev Rise (l : List ByteArray) : Prop := l.Pairwise fun a b => cmpS a b < 0

theorem rise_irrefl {a : ByteArray} (h : cmpS a a < 0) : False := by rw [cmpS_refl] at h; omega

theorem rise_unique : ∀ {l m : List ByteArray}, Rise l → Rise m → (∀ x, x ∈ l ↔ x ∈ m) → l = m
  | [], [], _, _, _ => rfl
  | [], y :: m, _, _, h => by have := (h y).2 List.mem_cons_self; cases this
  | x :: l, [], _, _, h => by have := (h x).1 List.mem_cons_self; cases this
  | x :: l, y :: m, hl, hm, h => by
    have hl := List.pairwise_cons.1 hl
    have hm := List.pairwise_cons.1 hm
    have hxy : x = y := by
      rcases List.mem_cons.1 ((h x).1 List.mem_cons_self) with e | hx
      · exact e
      · rcases List.mem_cons.1 ((h y).2 List.mem_cons_self) with e | hy
        · exact e.symm
        · have := cmpS_trans (hl.1 y hy) (hm.1 x hx)
          exact (rise_irrefl this).elim
    subst hxy
    congr 1
    refine rise_unique hl.2 hm.2 fun z => ⟨fun hz => ?_, fun hz => ?_⟩
    · rcases List.mem_cons.1 ((h z).1 (List.mem_cons_of_mem _ hz)) with rfl | hz'
      · exact (rise_irrefl (hl.1 _ hz)).elim
      · exact hz'
    · rcases List.mem_cons.1 ((h z).2 (List.mem_cons_of_mem _ hz)) with rfl | hz'
      · exact (rise_irrefl (hm.1 _ hz)).elim
      · exact hz'

theorem rising_rise : ∀ {fs : List DF}, Rising fs → Rise (fs.map (·.name))
  | [], _ => List.Pairwise.nil
  | f :: fs, h => List.pairwise_cons.2 ⟨fun y hy => by
      obtain ⟨g, hg, rfl⟩ := List.mem_map.1 hy
      exact h.1 g hg, rising_rise h.2⟩

theorem rise_nodup {l : List ByteArray} (h : Rise l) : l.Nodup :=
  h.imp fun {a b} hab e => by subst e; exact rise_irrefl hab

theorem names_get (l : List ByteArray) (k : Nat) (h : k < l.length) : readL .str (l.map Value.string) k = some l[k] := by
  simp [readL, List.getElem?_map, List.getElem?_eq_getElem h, Leaf.un]

theorem beq_self_int (a : Int) : (a == a) = true := by simp

theorem none_ints (A : SP) : ROInts W A ⟨none, 0, 0⟩ [] := ⟨rfl, fun _ _ _ k x hx => by simp at hx⟩

def ncells (l : List DF) : List Value := l.map fun f => .string f.name

def DD.names (D : DD) : List ByteArray := D.files.map (·.name)

end
end Go.X

/-! How a row's proof ends where the call has made new blocks and turned no old one; what an argument that is a slice of ints tells. -/
namespace Go.X
open Go.ChangeShapes Go.WideShapes Go.RowKit

theorem Sat.below {W w : World} {L : List SP} (hs : Sat W w L) : Below W.heap.size W w := ⟨hs.os, hs.tape, hs.output, hs.size, hs.old⟩

/-- A slice type's element type. -/
def elemOf (P : Program) (t : TypeId) : TypeId := match P.underlying t with
  | some (.slice e) => e
  | _ => 0

section
variable {H : Type} {enc : TypeId × Value → H} {P : Program}

/-- 'post' where nothing that was there has turned. -/
theorem post_of_below {f : Func} {s : ChangeSpec} {apart fresh handsOn again : Bool} {W W' : World} {args : Array Value} {v : Value} {ds gs : List (DataW H)} {before pa pv : List MemPlace}
    (hW : DataW.Whole enc P f.params.toList s.vars apart W args.toList ds gs before)
    (hres : ∀ (b : Nat) (sp : Nat → Bool) (hd : Bool), DataW.TrodAll enc P W' b sp hd f.resultTypes.toList (v.resultList f.resultTypes.size) (s.fn H (ds ++ gs)).results [])
    (hargs : DataW.TrodAll enc P W' 0 (fun b => decide (b < W.heap.size)) true f.params.toList args.toList (s.fn H (ds ++ gs)).args pa)
    (hargs1 : DataW.TrodAll enc P W' 0 (fun _ => true) true f.params.toList args.toList (s.fn H (ds ++ gs)).args pa)
    (hvars : ∀ sp : Nat → Bool, DataW.TrodVars enc P W' sp s.vars (s.fn H (ds ++ gs)).vars pv)
    (hps : before = pa ++ pv) (hb : Below W.heap.size W W')
    (hok : ∀ (j : Nat) (t : TypeId) (r : Value), f.resultTypes[j]? = some t → (v.resultList f.resultTypes.size)[j]? = some r → Value.okWide P W' .any 0 t r) :
    s.post enc P f apart fresh handsOn again W args v W' := by
  have hlt : ∀ p ∈ before, p.block < W.heap.size := fun p hp => hW.lt p hp
  have hW0 := hW
  refine ⟨ds, gs, before, [], pa, pv, hW, hres _ _ _, hargs, hvars _, hb.frame _, fun _ => ?_⟩
  obtain ⟨_, _, _, _, _, hz, hn⟩ := hW
  refine ⟨hok, _, _, ([] ++ pa) ++ pv, ⟨[] ++ pa, pv, trodAll_append hargs1 (hres _ _ _), hvars _, rfl, ?_, ?_⟩, ?_⟩
  · intro b off hp
    have hp' : MemPlace.cell b off ∈ before := by rw [hps]; simpa using hp
    rw [hb.frozen (hlt _ hp')]
    exact hz b off hp'
  · intro ha
    have := hn ha
    rw [hps] at this
    simpa using this
  · intro p hp _
    rw [hps]
    simpa using hp

/-- An argument reads behind the call as it did before, whatever is asked of the spare places. -/
theorem stays {t : TypeId} (hl : laidOutB P = true) (hr : P.readableRec t = true) (hrow : t < P.types.size) {W W' : World} {v : Value} {d : DataW H} {ps : List MemPlace} (sp : Nat → Bool)
    (h : DataW.Trod enc P W 0 (fun _ => true) true t v d ps) (hb : Below W.heap.size W W') (hlt : ∀ x ∈ ps, x.block < W.heap.size) (hsp : ∀ x ∈ ps, sp x.block = true) :
    DataW.Trod enc P W' 0 sp true t v d ps :=
  WideElems.Trod_stays hl hr hrow h (fun x hx => hb.same (hlt x hx)) hsp

/-- An argument that is a slice of ints: what can be read of it. -/
theorem open_intsA {W : World} {t e : TypeId} {v : Value} {d : DataW H} {ps : List MemPlace} {base : Nat} (ht : P.underlying t = some (.slice e)) (he : P.underlying e = some (.int .i64)) (hc : P.cellsOf e = 1)
    (hval : Value.okWide P W .any base t v) (h : DataW.Trod enc P W 0 (fun _ => true) true t v d ps) : ∃ (s : Sl) (xs : List Int), v = .slice s.a s.len s.cap ∧ s.len ≤ maxLen ∧ ∀ A, ROInts W A s xs := by
  obtain ⟨a, len, cap, rfl⟩ := okWide_slice ht hval
  obtain ⟨fuel, h⟩ := h
  rcases open_ints ht he hc h with ⟨h1, _⟩ | ⟨b, len', cap', zs, h1, _, hlc, hcm, hzl, _, hcell, _⟩
  · simp only [Value.cells, List.cons.injEq, Value.slice.injEq, and_true] at h1
    obtain ⟨rfl, rfl, rfl⟩ := h1
    exact ⟨⟨none, 0, 0⟩, [], rfl, Nat.zero_le _, fun A => ⟨rfl, fun _ _ _ k x hx => by simp at hx⟩⟩
  · simp only [Value.cells, List.cons.injEq, Value.slice.injEq, and_true] at h1
    obtain ⟨rfl, rfl, rfl⟩ := h1
    simp only [if_true] at hzl
    refine ⟨⟨some b, len, cap⟩, zs.take len, rfl, Nat.le_trans hlc hcm, fun A => ⟨by rw [List.length_take]; show min len _ = len; omega, fun w L hw k x hx => ?_⟩⟩
    have hk : k < len := by have := (List.getElem?_eq_some_iff.1 hx).1; rw [List.length_take] at this; omega
    rw [List.getElem?_take_of_lt hk] at hx
    have hck := hcell k (by omega)
    rw [List.getD_eq_getElem?_getD, hx, Option.getD_some] at hck
    have h0 : ∃ b0 o, b = ⟨b0, o, none⟩ := by
      have hc0 := hcell 0 (by omega)
      obtain ⟨b0, o, sp⟩ := b
      cases sp with
      | none => exact ⟨b0, o, rfl⟩
      | some sp =>
        unfold World.cell? at hc0
        simp only [Addr.add, if_true] at hc0
        split at hc0 <;> simp at hc0
    obtain ⟨b0, o, rfl⟩ := h0
    rw [Addr.add_mk] at hck
    exact ⟨b0, o, rfl, hw.old_cell hck⟩

end
end Go.X

/-! What writing does, said of the pieces. -/
namespace Go.X

/-- The pieces of a write. -/
def pcs : Nat → Int → Nat → List UInt8 → List DW
  | 0, _, _, _ => []
  | k + 1, id, at_, t =>
    if t = [] then [] else ⟨id, at_, t.take (pieceLen at_ t.length)⟩ :: pcs k id (at_ + pieceLen at_ t.length) (t.drop (pieceLen at_ t.length))

/-- A piece laid into bytes. -/
def lay (l : List UInt8) (p : DW) : List UInt8 := over (l ++ List.replicate (p.at_ + p.text.length - l.length) 0) p.at_ p.text

def burns : Nat → Int → Int
  | 0, n => n
  | k + 1, n => burns k (burn n)

theorem burn_neg {n : Int} (h : n < 0) : burn n = n := by unfold burn; rw [if_neg (by omega)]
theorem burns_neg {n : Int} (h : n < 0) : ∀ k, burns k n = n
  | 0 => rfl
  | k + 1 => by rw [burns, burn_neg h, burns_neg h k]
theorem burns_pos : ∀ (k : Nat) {n : Int}, (k : Int) ≤ n → burns k n = n - k
  | 0, n, _ => by rw [burns]; simp
  | k + 1, n, h => by
    have : burn n = n - 1 := by unfold burn; rw [if_pos (by omega)]
    rw [burns, this, burns_pos k (by omega)]; omega

/-- A write whose pieces are all taken. -/
theorem wr_all : ∀ (k : Nat) (id : Int) (at_ : Nat) (t : List UInt8) (S : WS), (S.fuse < 0 ∨ ((pcs k id at_ t).length : Int) ≤ S.fuse) →
    wr k id at_ t S = ⟨(pcs k id at_ t).foldl lay S.seen, S.wait ++ pcs k id at_ t, burns (pcs k id at_ t).length S.fuse, S.count + (pcs k id at_ t).length, S.off⟩
  | 0, id, at_, t, S, _ => by simp [wr, pcs, burns]
  | k + 1, id, at_, t, S, h => by
    by_cases ht : t = []
    · simp [wr, pcs, ht, burns]
    · have hp : pcs (k + 1) id at_ t = ⟨id, at_, t.take (pieceLen at_ t.length)⟩ :: pcs k id (at_ + pieceLen at_ t.length) (t.drop (pieceLen at_ t.length)) := by rw [pcs, if_neg ht]
      rw [hp] at h ⊢
      have h0 : ¬ S.fuse = 0 := by
        rcases h with h | h
        · omega
        · simp only [List.length_cons] at h; omega
      rw [wr, if_neg ht, if_neg h0, wr_all k]
      · simp only [wstep, List.foldl_cons, lay, List.append_assoc, List.singleton_append, List.length_cons, burns]
        congr 1
        omega
      · show burn S.fuse < 0 ∨ _ ≤ burn S.fuse
        rcases h with h | h
        · rw [burn_neg h]; exact .inl h
        · simp only [List.length_cons] at h
          have : burn S.fuse = S.fuse - 1 := by unfold burn; rw [if_pos (by omega)]
          rw [this]; right; omega

theorem pieceLen_full {n : Nat} (k : Nat) (h : 64 ≤ n) : pieceLen (64 * k) n = 64 := by unfold pieceLen; omega

/-- Whole pieces. -/
theorem pcs_whole : ∀ (m k : Nat) (id : Int) (j : Nat) (t : List UInt8), t.length = 64 * m → m ≤ k → (pcs k id (64 * j) t).length = m
  | 0, 0, _, _, _, _, _ => rfl
  | 0, k + 1, _, _, t, h, _ => by
    have : t = [] := List.eq_nil_of_length_eq_zero (by omega)
    simp [pcs, this]
  | m + 1, 0, _, _, _, _, h => by omega
  | m + 1, k + 1, id, j, t, h, hk => by
    have ht : t ≠ [] := fun e => by rw [e] at h; simp at h
    rw [pcs, if_neg ht, List.length_cons, pieceLen_full j (by omega), show 64 * j + 64 = 64 * (j + 1) by omega]
    rw [pcs_whole m k id (j + 1) (t.drop 64) (by rw [List.length_drop]; omega) (by omega)]

theorem lay_length (l : List UInt8) (p : DW) : (lay l p).length = max l.length (p.at_ + p.text.length) := by
  unfold lay
  rw [over_length (by rw [List.length_append, List.length_replicate]; omega), List.length_append, List.length_replicate]
  omega

/-- How long a file is behind a write. -/
theorem lays_length : ∀ (k : Nat) (id : Int) (at_ : Nat) (t l : List UInt8), t.length ≤ k → ((pcs k id at_ t).foldl lay l).length = if t = [] then l.length else max l.length (at_ + t.length)
  | 0, id, at_, t, l, h => by
    have : t = [] := List.eq_nil_of_length_eq_zero (by omega)
    simp [pcs, this]
  | k + 1, id, at_, t, l, h => by
    by_cases ht : t = []
    · simp [pcs, ht]
    · have h0 : 0 < t.length := List.length_pos_iff.2 ht
      have hp := pieceLen_pos (at_ := at_) h0
      have hp' := pieceLen_le at_ t.length
      rw [pcs, if_neg ht, List.foldl_cons, lays_length k _ _ _ _ (by rw [List.length_drop]; omega), lay_length, if_neg ht]
      simp only [List.length_take, List.length_drop]
      split
      · rename_i he
        have := congrArg List.length he
        rw [List.length_drop, List.length_nil] at this
        omega
      · omega

/-- What holds of a write's pieces. -/
theorem pcs_ok : ∀ (k : Nat) (id : Int) (at_ : Nat) (t : List UInt8), ∀ p ∈ pcs k id at_ t, p.id = id ∧ at_ ≤ p.at_ ∧ p.at_ + p.text.length ≤ at_ + t.length
  | 0, _, _, _, p, h => by simp [pcs] at h
  | k + 1, id, at_, t, p, h => by
    unfold pcs at h
    split at h
    · simp at h
    · have hp' := pieceLen_le at_ t.length
      rcases List.mem_cons.1 h with rfl | h
      · refine ⟨rfl, Nat.le_refl _, ?_⟩
        show at_ + (t.take _).length ≤ _
        rw [List.length_take]; omega
      · obtain ⟨h1, h2, h3⟩ := pcs_ok k id _ _ p h
        rw [List.length_drop] at h3
        exact ⟨h1, by omega, by omega⟩

theorem pcs_len : ∀ (k : Nat) (id : Int) (at_ : Nat) (t : List UInt8), (pcs k id at_ t).length ≤ t.length
  | 0, _, _, _ => by simp [pcs]
  | k + 1, id, at_, t => by
    unfold pcs
    split
    · simp
    · rename_i ht
      have h0 : 0 < t.length := List.length_pos_iff.2 ht
      have hp := pieceLen_pos (at_ := at_) h0
      have := pcs_len k id (at_ + pieceLen at_ t.length) (t.drop (pieceLen at_ t.length))
      rw [List.length_drop] at this
      simp only [List.length_cons]
      omega

/-- A write, whatever the fuse: some of its pieces are taken. -/
theorem wr_some : ∀ (k : Nat) (id : Int) (at_ : Nat) (t : List UInt8) (S : WS), -1 ≤ S.fuse → ∃ n, n ≤ (pcs k id at_ t).length ∧ (wr k id at_ t S).seen = ((pcs k id at_ t).take n).foldl lay S.seen ∧
    (wr k id at_ t S).wait = S.wait ++ (pcs k id at_ t).take n ∧ (wr k id at_ t S).count = S.count + n ∧ -1 ≤ (wr k id at_ t S).fuse ∧ (wr k id at_ t S).fuse ≤ S.fuse
  | 0, id, at_, t, S, h => ⟨0, by simp, by simp [wr], by simp [wr], by simp [wr], by simpa [wr] using h, by simp [wr]⟩
  | k + 1, id, at_, t, S, h => by
    by_cases ht : t = []
    · exact ⟨0, by simp, by simp [wr, ht], by simp [wr, ht], by simp [wr, ht], by simpa [wr, ht] using h, by simp [wr, ht]⟩
    · have hp : pcs (k + 1) id at_ t = ⟨id, at_, t.take (pieceLen at_ t.length)⟩ :: pcs k id (at_ + pieceLen at_ t.length) (t.drop (pieceLen at_ t.length)) := by rw [pcs, if_neg ht]
      by_cases h0 : S.fuse = 0
      · refine ⟨0, by simp, ?_, ?_, ?_, ?_, ?_⟩ <;> rw [wr, if_neg ht, if_pos h0] <;> simp <;> omega
      · have hb : -1 ≤ burn S.fuse ∧ burn S.fuse ≤ S.fuse := by unfold burn; split <;> omega
        obtain ⟨n, h1, h2, h3, h4, h5, h6⟩ := wr_some k id (at_ + pieceLen at_ t.length) (t.drop (pieceLen at_ t.length)) (wstep id at_ (t.take (pieceLen at_ t.length)) S) hb.1
        refine ⟨n + 1, by rw [hp, List.length_cons]; omega, ?_, ?_, ?_, ?_, ?_⟩ <;> rw [wr, if_neg ht, if_neg h0]
        · rw [h2, hp, List.take_succ_cons, List.foldl_cons]; rfl
        · rw [h3, hp, List.take_succ_cons]; simp [wstep]
        · rw [h4]; simp [wstep]; omega
        · exact h5
        · exact Int.le_trans h6 hb.2

end Go.X

/-! Pieces that wait, and what lasts of them. -/
namespace Go.X
open Go.Proofs

/-- How much of a piece lasts by its fate. -/
def keptLen (x : Option Int) (n : Nat) : Nat := if x = some 2 then n / 2 else if x = some 1 then n else 0

/-- Bytes laid where they begin, if there are any. -/
def layk (l : List UInt8) (at_ : Nat) (u : List UInt8) : List UInt8 := if u.length = 0 then l else over (l ++ List.replicate (at_ + u.length - l.length) 0) at_ u

theorem lastF_last {p : DW} {f : DF} (h : f.id = p.id) : (lastF p p.text.length f).last = layk f.last p.at_ p.text := by
  unfold lastF layk
  by_cases h0 : p.text.length = 0
  · rw [if_neg (by omega), if_pos h0]
  · rw [if_pos ⟨h, by omega⟩, if_neg h0, List.take_of_length_le (Nat.le_refl _)]

theorem fateF_last {x : Int} {p : DW} {f : DF} (h : f.id = p.id) : (fateF x p f).last = layk f.last p.at_ (p.text.take (keptLen (some x) p.text.length)) := by
  unfold fateF keptLen
  by_cases h2 : x = 2
  · have e : some x = some (2 : Int) := by rw [h2]
    rw [if_pos h2, if_pos e, lastF_last (p := halved p) h]
    rfl
  · have e : ¬ some x = some (2 : Int) := fun h => h2 (Option.some.inj h)
    rw [if_neg h2, if_neg e]
    by_cases h1 : x = 1
    · have e1 : some x = some (1 : Int) := by rw [h1]
      rw [if_pos h1, if_pos e1, lastF_last h, List.take_of_length_le (Nat.le_refl _)]
    · have e1 : ¬ some x = some (1 : Int) := fun h => h1 (Option.some.inj h)
      rw [if_neg h1, if_neg e1, List.take_zero]
      rfl

theorem lastF_id (p : DW) (n : Nat) (f : DF) : (lastF p n f).id = f.id := by unfold lastF; split <;> rfl

theorem fateF_id (x : Int) (p : DW) (f : DF) : (fateF x p f).id = f.id := by
  unfold fateF
  split
  · exact lastF_id _ _ _
  · split
    · exact lastF_id _ _ _
    · rfl

theorem fatesF_id : ∀ (l : List (DW × Int)) (f : DF), (fatesF l f).id = f.id
  | [], _ => rfl
  | _ :: l, _ => (fatesF_id l _).trans (fateF_id _ _ _)

theorem lastF_name (p : DW) (n : Nat) (f : DF) : (lastF p n f).name = f.name := by unfold lastF; split <;> rfl

theorem fateF_name (x : Int) (p : DW) (f : DF) : (fateF x p f).name = f.name := by
  unfold fateF
  split
  · exact lastF_name _ _ _
  · split
    · exact lastF_name _ _ _
    · rfl

theorem fatesF_name : ∀ (l : List (DW × Int)) (f : DF), (fatesF l f).name = f.name
  | [], _ => rfl
  | _ :: l, _ => (fatesF_name l _).trans (fateF_name _ _ _)

theorem zip_end {α β : Type} : ∀ (l : List α) (m : List β) (a : α), (l ++ [a]).zip m = l.zip m ++ (match m[l.length]? with | some b => [(a, b)] | none => [])
  | [], [], a => rfl
  | [], b :: m, a => by simp
  | x :: l, [], a => by simp
  | x :: l, y :: m, a => by simp [zip_end l m a]

theorem fatesF_append (l1 l2 : List (DW × Int)) (f : DF) : fatesF (l1 ++ l2) f = fatesF l2 (fatesF l1 f) := by
  induction l1 generalizing f with
  | nil => rfl
  | cons q l1 ih => exact ih _

/-- A step of the fates. -/
theorem fates_step (dn : List DW) (xs : List Int) (p : DW) (f : DF) (h : f.id = p.id) :
    (fatesF ((dn ++ [p]).zip xs) f).last = layk (fatesF (dn.zip xs) f).last p.at_ (p.text.take (keptLen xs[dn.length]? p.text.length)) := by
  rw [zip_end, fatesF_append]
  cases hx : xs[dn.length]? with
  | none => simp [fatesF, keptLen, layk]
  | some x =>
    show (fateF x p (fatesF (dn.zip xs) f)).last = _
    exact fateF_last (by rw [fatesF_id]; exact h)

theorem layk_length (l u : List UInt8) (at_ : Nat) : (layk l at_ u).length = if u.length = 0 then l.length else max l.length (at_ + u.length) := by
  unfold layk
  split
  · rfl
  · rw [over_length (by rw [List.length_append, List.length_replicate]; omega), List.length_append, List.length_replicate]
    omega

theorem fatesF_small {B : Nat} : ∀ (l : List (DW × Int)) (f : DF), (∀ q ∈ l, q.1.at_ + q.1.text.length ≤ B) → f.last.length ≤ B → (fatesF l f).last.length ≤ B
  | [], f, _, h => h
  | q :: l, f, hq, h => by
    refine fatesF_small l _ (fun q' h' => hq q' (List.mem_cons_of_mem _ h')) ?_
    have h1 := hq q List.mem_cons_self
    have key : ∀ (p : DW) (f : DF), p.at_ + p.text.length ≤ B → f.last.length ≤ B → (lastF p p.text.length f).last.length ≤ B := by
      intro p f hp hf
      unfold lastF
      split
      · show (over _ _ _).length ≤ B
        rw [over_length (by rw [List.length_append, List.length_replicate, List.length_take]; omega), List.length_append, List.length_replicate]
        omega
      · exact hf
    unfold fateF
    split
    · exact key _ _ (by rw [halved_len]; show q.1.at_ + _ ≤ _; omega) h
    · split
      · exact key _ _ h1 h
      · exact h

theorem keptLen_le (x : Option Int) (n : Nat) : keptLen x n ≤ n := by
  unfold keptLen
  split
  · omega
  · split <;> omega

theorem lay_end (l u : List UInt8) (id : Int) : lay l ⟨id, l.length, u⟩ = l ++ u := by
  unfold lay over
  show (l ++ List.replicate (l.length + u.length - l.length) 0).take l.length ++ u ++ (l ++ List.replicate (l.length + u.length - l.length) 0).drop (l.length + u.length) = _
  rw [List.take_left, List.drop_eq_nil_of_le (by simp), List.append_nil]

theorem lays_end : ∀ (k : Nat) (id : Int) (t l : List UInt8), t.length ≤ k → (pcs k id l.length t).foldl lay l = l ++ t
  | 0, _, t, l, h => by
    have : t = [] := List.eq_nil_of_length_eq_zero (by omega)
    simp [pcs, this]
  | k + 1, id, t, l, h => by
    by_cases ht : t = []
    · simp [pcs, ht]
    · have hp := pieceLen_pos (at_ := l.length) (List.length_pos_iff.2 ht)
      have hp' := pieceLen_le l.length t.length
      have e : (l ++ t.take (pieceLen l.length t.length)).length = l.length + pieceLen l.length t.length := by rw [List.length_append, List.length_take]; omega
      rw [pcs, if_neg ht, List.foldl_cons, lay_end, ← e, lays_end k id _ _ (by rw [List.length_drop]; omega), List.append_assoc, List.take_append_drop]

theorem sync_pcs : ∀ (k : Nat) (at_ : Nat) (t : List UInt8) (f : DF), t.length ≤ k → syncF (pcs k f.id at_ t) f = { f with last := (pcs k f.id at_ t).foldl lay f.last }
  | 0, _, t, f, _ => by simp [pcs, syncF]
  | k + 1, at_, t, f, h => by
    by_cases ht : t = []
    · simp [pcs, ht, syncF]
    · have hp := pieceLen_pos (at_ := at_) (List.length_pos_iff.2 ht)
      have hp' := pieceLen_le at_ t.length
      have hl : (t.take (pieceLen at_ t.length)).length = pieceLen at_ t.length := by rw [List.length_take]; omega
      rw [pcs, if_neg ht]
      have e : lastF ⟨f.id, at_, t.take (pieceLen at_ t.length)⟩ (t.take (pieceLen at_ t.length)).length f = { f with last := lay f.last ⟨f.id, at_, t.take (pieceLen at_ t.length)⟩ } := by
        unfold lastF
        rw [if_pos ⟨rfl, by omega⟩, List.take_of_length_le (Nat.le_refl _)]
        rfl
      have ih := sync_pcs k (at_ + pieceLen at_ t.length) (t.drop (pieceLen at_ t.length)) { f with last := lay f.last ⟨f.id, at_, t.take (pieceLen at_ t.length)⟩ } (by rw [List.length_drop]; omega)
      unfold syncF at ih ⊢
      rw [List.foldl_cons, e, List.foldl_cons]
      exact ih

theorem take_over {l u : List UInt8} {k n : Nat} (h : n ≤ k) (hl : k ≤ l.length) : (over l k u).take n = l.take n := by
  unfold over
  rw [List.append_assoc, List.take_append_of_le_length (by rw [List.length_take]; omega), List.take_take, Nat.min_eq_left h]

theorem lastF_keeps {p : DW} {f : DF} {n m : Nat} (hp : n ≤ p.at_) (hf : n ≤ f.last.length) (hm : m ≤ p.text.length) : (lastF p m f).last.take n = f.last.take n ∧ n ≤ (lastF p m f).last.length := by
  unfold lastF
  split
  · have hr : (f.last ++ List.replicate (p.at_ + m - f.last.length) 0).length = max f.last.length (p.at_ + m) := by rw [List.length_append, List.length_replicate]; omega
    refine ⟨?_, ?_⟩
    · show (over _ _ _).take n = _
      rw [take_over hp (by omega), List.take_append_of_le_length hf]
    · show n ≤ (over _ _ _).length
      rw [over_length (by rw [hr, List.length_take]; omega), hr]
      omega
  · exact ⟨rfl, hf⟩

theorem fateF_keeps {x : Int} {p : DW} {f : DF} {n : Nat} (hp : n ≤ p.at_) (hf : n ≤ f.last.length) : (fateF x p f).last.take n = f.last.take n ∧ n ≤ (fateF x p f).last.length := by
  unfold fateF
  split
  · exact lastF_keeps (p := halved p) hp hf (Nat.le_refl _)
  · split
    · exact lastF_keeps hp hf (Nat.le_refl _)
    · exact ⟨rfl, hf⟩

theorem fatesF_keeps : ∀ (l : List (DW × Int)) {f : DF} {n : Nat}, (∀ q ∈ l, n ≤ q.1.at_) → n ≤ f.last.length → (fatesF l f).last.take n = f.last.take n ∧ n ≤ (fatesF l f).last.length
  | [], _, _, _, h => ⟨rfl, h⟩
  | q :: l, f, n, hq, h => by
    obtain ⟨h1, h2⟩ := fateF_keeps (x := q.2) (hq q List.mem_cons_self) h
    obtain ⟨h3, h4⟩ := fatesF_keeps l (f := fateF q.2 q.1 f) (fun q' h' => hq q' (List.mem_cons_of_mem _ h')) h2
    exact ⟨h3.trans h1, h4⟩

theorem lays_some : ∀ (ps : List DW) (l : List UInt8) (B : Nat), (∀ p ∈ ps, p.at_ + p.text.length ≤ B) → l.length ≤ B → l.length ≤ (ps.foldl lay l).length ∧ (ps.foldl lay l).length ≤ B
  | [], _, _, _, h => ⟨Nat.le_refl _, h⟩
  | p :: ps, l, B, hp, h => by
    have h1 := hp p List.mem_cons_self
    have hl := lay_length l p
    obtain ⟨h2, h3⟩ := lays_some ps (lay l p) B (fun q hq => hp q (List.mem_cons_of_mem _ hq)) (by omega)
    exact ⟨by rw [List.foldl_cons]; omega, h3⟩

theorem lastF_laid {p : DW} {n : Nat} {f : DF} (h : f.id = p.id) (h0 : 0 < n) (hn : n ≤ p.text.length) : lastF p n f = { f with last := laidL f.last p.at_ (p.text.take n) } := by
  unfold lastF laidL
  have e : (p.text.take n).length = n := by rw [List.length_take]; omega
  rw [if_pos ⟨h, h0⟩, e]

theorem lastF_none {p : DW} {n : Nat} {f : DF} (h : ¬ (f.id = p.id ∧ 0 < n)) : lastF p n f = f := by
  unfold lastF
  rw [if_neg h]

theorem lastF_halved (p : DW) (f : DF) : lastF (halved p) (halved p).text.length f = lastF p (p.text.length / 2) f := by
  have e : (halved p).text.length = p.text.length / 2 := halved_len p
  unfold lastF
  rw [e]
  show (if f.id = p.id ∧ 0 < p.text.length / 2 then { f with last := over (f.last ++ List.replicate (p.at_ + p.text.length / 2 - f.last.length) 0) p.at_ ((p.text.take (p.text.length / 2)).take (p.text.length / 2)) } else f) = _
  rw [List.take_take, Nat.min_self]

/-- How much of a piece lasts, as a number of bytes. -/
theorem fateF_kept (x : Int) (p : DW) (f : DF) : fateF x p f = lastF p (keptLen (some x) p.text.length) f := by
  unfold fateF keptLen
  by_cases h2 : x = 2
  · have e : some x = some (2 : Int) := by rw [h2]
    rw [if_pos h2, if_pos e, lastF_halved]
  · have e : ¬ some x = some (2 : Int) := fun h => h2 (Option.some.inj h)
    rw [if_neg h2, if_neg e]
    by_cases h1 : x = 1
    · have e1 : some x = some (1 : Int) := by rw [h1]
      rw [if_pos h1, if_pos e1]
    · have e1 : ¬ some x = some (1 : Int) := fun h => h1 (Option.some.inj h)
      rw [if_neg h1, if_neg e1, lastF_none (by omega)]

theorem lastF_small {p : DW} {n : Nat} {f : DF} (hp : p.at_ + p.text.length ≤ 2097152) (hn : n ≤ p.text.length) (hf : f.last.length ≤ 2097152) : (lastF p n f).last.length ≤ 2097152 := by
  by_cases hdo : f.id = p.id ∧ 0 < n
  · rw [lastF_laid hdo.1 hdo.2 hn]
    show (laidL _ _ _).length ≤ _
    rw [laidL_length, List.length_take]
    omega
  · rw [lastF_none hdo]
    exact hf

theorem fatesF_step (dn : List DW) (xs : List Int) (p : DW) (f : DF) (x : Int) (hx : xs[dn.length]? = some x) : fatesF ((dn ++ [p]).zip xs) f = lastF p (keptLen (some x) p.text.length) (fatesF (dn.zip xs) f) := by
  rw [zip_end, fatesF_append, hx]
  exact fateF_kept x p _

theorem zip_stop {α β : Type} : ∀ (l m : List α) (xs : List β), xs.length ≤ l.length → (l ++ m).zip xs = l.zip xs
  | _, _, [], _ => by simp
  | [], _, _ :: _, h => by simp at h
  | a :: l, m, x :: xs, h => by simp [zip_stop l m xs (by simpa using h)]

theorem syncF_small : ∀ (l : List DW) (f : DF), (∀ p ∈ l, p.at_ + p.text.length ≤ 2097152) → f.last.length ≤ 2097152 → (syncF l f).last.length ≤ 2097152
  | [], _, _, h => h
  | p :: l, f, hp, h => by
    show (syncF l (lastF p p.text.length f)).last.length ≤ _
    exact syncF_small l _ (fun q hq => hp q (List.mem_cons_of_mem _ hq)) (lastF_small (hp p List.mem_cons_self) (Nat.le_refl _) h)

theorem lastF_seen (p : DW) (n : Nat) (f : DF) : (lastF p n f).seen = f.seen := by unfold lastF; split <;> rfl

theorem syncF_seen : ∀ (l : List DW) (f : DF), (syncF l f).seen = f.seen
  | [], _ => rfl
  | p :: l, f => (syncF_seen l (lastF p p.text.length f)).trans (lastF_seen _ _ _)

theorem syncF_name : ∀ (l : List DW) (f : DF), (syncF l f).name = f.name
  | [], _ => rfl
  | p :: l, f => (syncF_name l (lastF p p.text.length f)).trans (lastF_name _ _ _)

end Go.X
