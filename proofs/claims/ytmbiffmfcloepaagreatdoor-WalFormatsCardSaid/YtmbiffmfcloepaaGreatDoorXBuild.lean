/- Blocks of a known type whose first cells may be frozen: strings.Builder. -/
import Derived.Test.YtmbiffmfcloepaaGreatDoorDFit
import Derived.Lib.UnsafeStr
import Derived.Lib.Builder
import Derived.Lib.MakeNoZero
namespace Go.X
open Go.Proofs

section
variable {P : Program} {W w : World} {L : List SP}

/-- The block 'b', of type 'T', holds just these cells; from the cell 'k' on they may be written. -/
def ptsF (T : TypeId) (b : Nat) (cs : List Value) (k : Nat) : SP := fun h => ∃ lo hi, h b = some (.cells ⟨cs⟩ T (lo, hi)) ∧ hi ≤ k

theorem Sat.ptsF_heap {T : TypeId} {b k : Nat} {cs : List Value} (hs : Sat W w (ptsF T b cs k :: L)) : ∃ lo hi, w.heap[b]? = some (.cells ⟨cs⟩ T (lo, hi)) ∧ hi ≤ k ∧ W.heap.size ≤ b := by
  obtain ⟨f, g, d, e, ⟨lo, hi, h1, h2⟩, hb⟩ := hs.new
  have : World.fresh W w b = some (.cells ⟨cs⟩ T (lo, hi)) := by rw [e]; unfold join; rw [h1]
  unfold World.fresh at this
  split at this
  · cases this
  · exact ⟨lo, hi, this, h2, by omega⟩

theorem Sat.cellF {T : TypeId} {b k o : Nat} {cs : List Value} {v : Value} (hs : Sat W w (ptsF T b cs k :: L)) (h : cs[o]? = some v) : w.cell? ⟨b, o, none⟩ = some v := by
  obtain ⟨lo, hi, h1, _, _⟩ := hs.ptsF_heap
  simp [World.cell?, h1, h]

theorem Sat.freeF {T : TypeId} {b k o : Nat} {cs : List Value} (hs : Sat W w (ptsF T b cs k :: L)) (h : k ≤ o) : w.frozen? ⟨b, o, none⟩ = false := by
  obtain ⟨lo, hi, h1, h2, _⟩ := hs.ptsF_heap
  have : ¬ o < hi := by omega
  simp [World.frozen?, h1, this]

theorem Sat.shapeF {T : TypeId} {b k : Nat} {cs : List Value} (hs : Sat W w (ptsF T b cs k :: L)) : w.shape? b = some (T, cs.length) := by
  obtain ⟨lo, hi, h1, _, _⟩ := hs.ptsF_heap
  simp [World.shape?, h1]

theorem Sat.setF {T : TypeId} {b k o : Nat} {cs : List Value} (hs : Sat W w (ptsF T b cs k :: L)) (v : Value) : Sat W (w.setCell ⟨b, o, none⟩ v) (ptsF T b (cs.set o v) k :: L) := by
  obtain ⟨lo, hi, h1, h2, h3⟩ := hs.ptsF_heap
  obtain ⟨f, g, d, e, ⟨lo', hi', h1', _⟩, hb⟩ := hs.new
  obtain ⟨f', d', e', hf'⟩ := fresh_set (w := w) h3 (w.setCell ⟨b, o, none⟩ v) (setCell_heap w b o v h1) (fun k hk => setCell_other w b o v hk) f g d e _ h1'
  refine ⟨hs.os, hs.tape, hs.output, by simpa using hs.size, fun k hk => ?_, f', g, d', e', ⟨lo, hi, hf', h2⟩, hb⟩
  rw [setCell_other w b o v (by omega)]
  exact hs.old k hk

theorem Sat.new_blockF {T : TypeId} {cs : List Value} (hs : Sat W w L) : Sat W (w.alloc (.cells ⟨cs⟩ T)) (ptsF T w.heap.size cs 0 :: L) := by
  have hold : ∀ k, k < w.heap.size → (w.alloc (.cells ⟨cs⟩ T)).heap[k]? = w.heap[k]? := fun k hk => by
    show (w.heap.push _)[k]? = _
    rw [Array.getElem?_push, if_neg (by omega)]
  have hnew : (w.alloc (.cells ⟨cs⟩ T)).heap[w.heap.size]? = some (.cells ⟨cs⟩ T (0, 0)) := by
    show (w.heap.push _)[w.heap.size]? = _
    simp
  refine ⟨hs.os, hs.tape, hs.output, ?_, fun k hk => ?_, fun k => if k = w.heap.size then some (.cells ⟨cs⟩ T (0, 0)) else none, World.fresh W w, ?_, ?_, ⟨0, 0, if_pos rfl, Nat.le_refl _⟩, hs.new⟩
  · rw [World.size_alloc]; exact Nat.le_succ_of_le hs.size
  · rw [hold k (Nat.lt_of_lt_of_le hk hs.size)]; exact hs.old k hk
  · intro k
    by_cases hk : k = w.heap.size
    · right
      subst hk
      unfold World.fresh
      split
      · rfl
      · simp
    · exact .inl (if_neg hk)
  · funext k
    unfold World.fresh join
    by_cases hk : k = w.heap.size
    · subst hk
      simp only [if_true, hnew, if_neg (Nat.not_lt.2 hs.size)]
    · simp only [if_neg hk]
      split
      · rfl
      · by_cases hlt : k < w.heap.size
        · exact hold k hlt
        · have h1 : (w.alloc (.cells ⟨cs⟩ T)).heap[k]? = none := by rw [Array.getElem?_eq_none]; rw [World.size_alloc]; omega
          have h2 : w.heap[k]? = none := by rw [Array.getElem?_eq_none]; omega
          rw [h1, h2]

theorem Sat.freezeF {T : TypeId} {b k : Nat} {cs : List Value} (hs : Sat W w (ptsF T b cs k :: L)) (n : Nat) (hn : n ≤ k) : Sat W (w.freeze ⟨b, 0, none⟩ n) (ptsF T b cs k :: L) := by
  unfold World.freeze
  by_cases h0 : n = 0
  · rw [if_pos h0]; exact hs
  rw [if_neg h0]
  obtain ⟨lo, hi, h1, h2, h3⟩ := hs.ptsF_heap
  obtain ⟨f, g, d, e, ⟨lo', hi', h1', _⟩, hb⟩ := hs.new
  obtain ⟨w', hw'⟩ : ∃ w' : World, w' = { w with heap := w.heap.modify b fun
      | .cells c elem (lo, hi) => .cells c elem (if lo == hi then (0, 0 + n) else (min lo 0, max hi (0 + n)))
      | o => o } := ⟨_, rfl⟩
  have hnew : w'.heap[b]? = some (.cells ⟨cs⟩ T (if lo == hi then (0, 0 + n) else (min lo 0, max hi (0 + n)))) := by
    rw [hw']; simp [Array.getElem?_modify, h1]
  have hoth : ∀ k, k ≠ b → w'.heap[k]? = w.heap[k]? := fun k hk => by
    rw [hw']; simp [Array.getElem?_modify, Ne.symm hk]
  obtain ⟨f', d', e', hf'⟩ := fresh_set (w := w) h3 w' hnew hoth f g d e _ h1'
  have key : Sat W w' (ptsF T b cs k :: L) := by
    refine ⟨by rw [hw']; exact hs.os, by rw [hw']; exact hs.tape, by rw [hw']; exact hs.output, by rw [hw']; simpa using hs.size, fun k hk => ?_, f', g, d', e', ?_, hb⟩
    · rw [hoth k (by omega)]; exact hs.old k hk
    · by_cases hlh : lo = hi
      · refine ⟨0, 0 + n, ?_, by omega⟩
        rw [hf']; simp [hlh]
      · refine ⟨min lo 0, max hi (0 + n), ?_, by omega⟩
        rw [hf']; simp [hlh]
  rw [hw'] at key
  exact key

theorem xloadF {l : Leaf} {a : Addr} {K : l.T → Prop} {T : TypeId} {b k : Nat} {cs : List Value} (hs : Sat W w (ptsF T b cs k :: L)) (o : Nat) (ha : a = ⟨b, o, none⟩) {x : l.T} (hx : readL l cs o = some x) (hk : K x) : XLoad l a w K :=
  ⟨x, by rw [ha]; exact hs.cellF (readL_mk hx), hk⟩

theorem xstoreF {a : Addr} {v : Value} {K : World → Prop} {T : TypeId} {b k : Nat} {cs : List Value} (hs : Sat W w (ptsF T b cs k :: L)) (o : Nat) (ha : a = ⟨b, o, none⟩) (ho : o < cs.length) (hko : k ≤ o)
    (hk : ∀ w', Sat W w' (ptsF T b (cs.set o v) k :: L) → K w') : XStore a v w K := by
  subst ha
  refine ⟨?_, hs.freeF hko, hk _ (hs.setF v)⟩
  rw [hs.cellF (List.getElem?_eq_getElem ho)]
  rfl

theorem xstoresF {T : TypeId} {b o k : Nat} {K : World → Prop} : ∀ (vs : List Value) (i : Nat) (w : World) (cs : List Value), Sat W w (ptsF T b cs k :: L) → k ≤ o → o + i + vs.length ≤ cs.length →
    (∀ w', Sat W w' (ptsF T b (splice cs (o + i) vs) k :: L) → K w') → XStores ⟨b, o, none⟩ i vs w K
  | [], i, w, cs, hs, _, _, hk => hk w (by rw [splice_nil]; exact hs)
  | v :: vs, i, w, cs, hs, hko, hl, hk => by
    simp only [List.length_cons] at hl
    refine xstoreF hs (o + i) (by rw [Addr.add_mk]) (by omega) (by omega) fun w' h => ?_
    refine xstoresF vs (i + 1) w' _ h hko (by rw [List.length_set]; omega) fun w'' h' => hk w'' ?_
    rw [splice_cons cs vs (o + i) v (by omega)]
    rw [show o + i + 1 = o + (i + 1) by omega]
    exact h'

theorem xnewT {T : TypeId} {cs : List Value} {K : Addr → World → Prop} (hs : Sat W w L) (hk : ∀ b w', Sat W w' (ptsF T b cs 0 :: L) → K ⟨b, 0, none⟩ w') : XNew T cs w K := hk _ _ hs.new_blockF

end

/-! ### The builder's types -/

def elemPtr (P : Program) (t : TypeId) : TypeId := match under P t with
  | some (.pointer e) => e
  | _ => 0

noncomputable def builderT : TypeId := elemPtr Tryz.prog (Fn.strings_Builder_Len.params.getD 0 0)
noncomputable def byteT : TypeId := match under Tryz.prog builderT with
  | some (.struct ⟨[_, f]⟩) => (match under Tryz.prog f.type with
    | some (.slice e) => e
    | _ => 0)
  | _ => 0

/-- The types of a builder, and of its bytes, by names of their own. -/
structure BTypes (T e : TypeId) : Prop where
  builder : T = builderT
  byte : e = byteT

theorem btypes : ∃ T e, BTypes T e := ⟨_, _, rfl, rfl⟩

section
variable {W w : World} {L : List SP} {T e : TypeId}

/-- A buffer: the bytes that it has may be frozen. -/
def BufP (e : TypeId) (g : Sl) (bs : List UInt8) : SP := fun h =>
  (g.a = none ∧ g.len = 0 ∧ g.cap = 0 ∧ bs = []) ∨
  ∃ b rest, g.a = some ⟨b, 0, none⟩ ∧ bs.length = g.len ∧ (bs.length + rest.length = g.cap ∧ 0 < g.cap) ∧ ptsF e b (bcells bs ++ rest) bs.length h

theorem Sat.buf_open {g : Sl} {bs : List UInt8} (hs : Sat W w (BufP e g bs :: L)) :
    (g.a = none ∧ g.len = 0 ∧ g.cap = 0 ∧ bs = [] ∧ Sat W w L) ∨
    ∃ b rest, g.a = some ⟨b, 0, none⟩ ∧ bs.length = g.len ∧ (bs.length + rest.length = g.cap ∧ 0 < g.cap) ∧ Sat W w (ptsF e b (bcells bs ++ rest) bs.length :: L) := by
  obtain ⟨f, g', d, he, h, hb⟩ := hs.new
  rcases h with ⟨h1, h2, h3, h4⟩ | ⟨b, rest, h1, h2, h3, h5⟩
  · exact .inl ⟨h1, h2, h3, h4, hs.drop⟩
  · exact .inr ⟨b, rest, h1, h2, h3, hs.os, hs.tape, hs.output, hs.size, hs.old, f, g', d, he, h5, hb⟩

theorem Sat.buf_shut {g : Sl} {bs : List UInt8} {b : Nat} {rest : List Value} (ha : g.a = some ⟨b, 0, none⟩) (hl : bs.length = g.len) (hc : bs.length + rest.length = g.cap ∧ 0 < g.cap)
    (hs : Sat W w (ptsF e b (bcells bs ++ rest) bs.length :: L)) : Sat W w (BufP e g bs :: L) := hs.head fun _ h => .inr ⟨b, rest, ha, hl, hc, h⟩

theorem Sat.buf_nil (hs : Sat W w L) : Sat W w (BufP e ⟨none, 0, 0⟩ [] :: L) := hs.add_emp.head fun _ _ => .inl ⟨rfl, rfl, rfl, rfl⟩

theorem Sat.buf_len {g : Sl} {bs : List UInt8} (hs : Sat W w (BufP e g bs :: L)) : bs.length = g.len ∧ g.len ≤ g.cap := by
  rcases hs.buf_open with ⟨_, h, h2, rfl, _⟩ | ⟨_, _, _, h, h2, _⟩
  · exact ⟨by rw [h]; rfl, by omega⟩
  · exact ⟨h, by omega⟩

/-- 'hi ≤ k' may be said of more. -/
theorem Sat.weakF {b k k' : Nat} {cs : List Value} (hs : Sat W w (ptsF T b cs k :: L)) (h : k ≤ k') : Sat W w (ptsF T b cs k' :: L) :=
  hs.head fun _ ⟨lo, hi, h1, h2⟩ => ⟨lo, hi, h1, by omega⟩

def okAppS (P : Program) (t u b : TypeId) : Bool :=
  match under P t, under P u with
  | some (.slice e), some .string => Nat.beq e b && (match ti P e with
    | some i => Nat.beq i.size 1 && Nat.beq i.bytes 1 && (match i.zero with
      | some (.int .u8 0) => true
      | _ => false)
    | none => false)
  | _, _ => false

theorem okAppS_spec {P : Program} {t u b : TypeId} (h : okAppS P t u b = true) : ∃ i, P.underlying t = some (.slice b) ∧ P.underlying u = some .string ∧ P.info? b = some i ∧ i.size = 1 ∧ i.bytes = 1 ∧ i.zero = some (.int .u8 0) := by
  unfold okAppS at h
  split at h
  · rename_i e h1 h2
    obtain ⟨he, h'⟩ := Bool.and_eq_true_iff.1 h
    have he' := Nat.eq_of_beq_eq_true he
    clear h he
    subst he'
    split at h'
    · rename_i i hi
      obtain ⟨h3, h5⟩ := Bool.and_eq_true_iff.1 h'
      obtain ⟨h3, h4⟩ := Bool.and_eq_true_iff.1 h3
      split at h5
      · rename_i hz
        exact ⟨i, under_eq h1, under_eq h2, ti_info hi, Nat.eq_of_beq_eq_true h3, Nat.eq_of_beq_eq_true h4, hz⟩
      · cases h5
    · cases h'
  · cases h

theorem strCells_b (s : ByteArray) : Lib.strCells s = bcells s.data.toList := rfl

theorem bcells_push (a b : List UInt8) : bcells (a ++ b) = bcells a ++ bcells b := by simp [bcells]

/-- A text's bytes behind those of a buffer. -/
theorem xappendBuf {P : Program} {t u ty : TypeId} {g : Sl} {bs : List UInt8} {s : ByteArray} {K : Sl → World → Prop} (hok : okAppS P t u e = true) (hs : Sat W w (BufP e g bs :: L)) (hsz : bs.length + s.size ≤ 2 ^ 46)
    (hk : ∀ g' w', Sat W w' (BufP e g' (bs ++ s.data.toList) :: L) → K g' w') : XDo P (Builtin.append_ #[t, u] ty ⟨[.slice g.a g.len g.cap, .string s]⟩) (.leaf .slice) w K := by
  obtain ⟨i, h1, h2, h3, h4, h5, h6⟩ := okAppS_spec hok
  have hss : s.data.toList.length = s.size := by simp
  have hge : ∀ n old, n ≤ grownCap w n old e := fun n old => grownCap_ge w n old e
  have hz1 : (Value.int IntKind.u8 0).cells.size = 1 := rfl
  rcases hs.buf_open with ⟨ha, hl, hc, hb, hs'⟩ | ⟨b, rest, ha, hl, hc, hs'⟩
  · subst hb
    by_cases h0 : s.size = 0
    · have hn : s.data.toList = [] := List.eq_nil_of_length_eq_zero (by omega)
      have hf := Lib.run_firstCells_string (P := P) w 1 s
      rw [h0] at hf
      have hcl : Lib.strCells s = [] := by rw [strCells_b, hn]; rfl
      refine ⟨⟨none, 0, 0⟩, w, ?_, hk _ _ (by rw [hn]; exact hs'.buf_nil)⟩
      rw [ha, hl, hc]
      simp [Builtin.append_, run_underlying h1, run_underlying h2, run_size' h3, h4, Builtin.lenOf, h0, hf, hcl, Ty.mk, Leaf.mk]
    · have hr := run_append_nil_string (P := P) w t u ty e i (.int .u8 0) h1 h2 h3 h6 s (by omega) (by simp only [List.length_nil] at hsz; omega) (by rw [h5]; simp only [List.length_nil] at hsz; omega)
      rw [ha, hl, hc]
      refine ⟨⟨some ⟨w.heap.size, 0, none⟩, s.size, grownCap w s.size 0 e⟩, _, hr, hk _ _ ?_⟩
      have hnew := (hs'.drew).new_blockF (cs := bcells s.data.toList ++ (Builtin.zeroCells (Value.int .u8 0).cells (grownCap w s.size 0 e - s.size)).toList) (T := e)
      have e1 : (s.data.map fun b => Value.int .u8 b.toNat) ++ Builtin.zeroCells (Value.int .u8 0).cells (grownCap w s.size 0 e - s.size) = ⟨bcells s.data.toList ++ (Builtin.zeroCells (Value.int .u8 0).cells (grownCap w s.size 0 e - s.size)).toList⟩ := by
        apply Array.ext'; simp [bcells]
      rw [e1]
      refine Sat.buf_shut rfl (by simp) ?_ (hnew.weakF (Nat.zero_le _))
      rw [zeroCells_length, hz1]
      have := hge s.size 0
      simp only [List.nil_append, hss]
      omega
  · have hsl : (bcells bs).length = bs.length := bcells_length bs
    by_cases hroom : g.len + s.size ≤ g.cap
    · have hst := xstoresF (W := W) (L := L) (T := e) (b := b) (o := bs.length) (k := bs.length) (K := fun w' => Sat W w' (ptsF e b (splice (bcells bs ++ rest) bs.length (bcells s.data.toList)) bs.length :: L)) (bcells s.data.toList) 0 w _ hs' (Nat.le_refl _)
        (by rw [List.length_append, hsl, bcells_length, hss]; omega) (fun w' h => by simpa using h)
      obtain ⟨w', hr, hw⟩ := run_stores (P := P) (bcells s.data.toList) 0 w (bcells_one _) hst
      have hf := Lib.run_firstCells_string (P := P) w 1 s
      have hr' : (Builtin.append_ #[t, u] ty ⟨[.slice g.a g.len g.cap, .string s]⟩).run P w = .ok (.slice (some ⟨b, 0, none⟩) (g.len + s.size) g.cap) w' := by
        rw [ha]
        have hr2 : (storeCells ⟨b, g.len, none⟩ (Lib.strCells s) 0).run P w = .ok () w' := by rw [← hl]; exact hr
        simp [Builtin.append_, run_underlying h1, run_underlying h2, run_size' h3, h4, Builtin.lenOf, hroom, hf, Addr.add_mk, hr2]
      refine ⟨⟨some ⟨b, 0, none⟩, g.len + s.size, g.cap⟩, w', hr', hk _ _ ?_⟩
      have hsp : splice (bcells bs ++ rest) bs.length (bcells s.data.toList) = bcells (bs ++ s.data.toList) ++ rest.drop s.size := by
        unfold splice
        rw [← hsl, List.take_left, List.drop_append, List.drop_eq_nil_of_le (by omega), List.nil_append, bcells_push, bcells_length (s.data.toList), hss]
        congr 2
        omega
      rw [hsp] at hw
      refine Sat.buf_shut rfl (by rw [List.length_append, hl, hss]) ?_ (hw.weakF (by rw [List.length_append]; omega))
      rw [List.length_append, hss, List.length_drop]
      show _ = g.cap ∧ 0 < g.cap
      omega
    · have hr := Lib.run_append_grow_string (P := P) w t u ty e i (.int .u8 0) h1 h2 h3 h6 ⟨b, 0, none⟩ g.len g.cap (bcells bs) (by rw [hsl, hl, h4, Nat.mul_one]) (fun j v hj => by
          rw [Addr.add_mk, Nat.zero_add]
          exact hs'.cellF (by rw [List.getElem?_append_left (List.getElem?_eq_some_iff.1 hj).1]; exact hj)) s (by omega) (by omega) (by
            rw [h5]
            exact growslice_fits (need := g.len + s.size) (old := g.cap) (by omega) (show (g.len + s.size) * 1 ≤ 140737488355328 by omega))
      rw [ha]
      refine ⟨⟨some ⟨w.heap.size, 0, none⟩, g.len + s.size, grownCap w (g.len + s.size) g.cap e⟩, _, hr, hk _ _ ?_⟩
      have hnew := (hs'.drop.drew).new_blockF (cs := bcells (bs ++ s.data.toList) ++ (Builtin.zeroCells (Value.int .u8 0).cells (grownCap w (g.len + s.size) g.cap e - (g.len + s.size))).toList) (T := e)
      have e1 : ((bcells bs).toArray ++ (Lib.strCells s).toArray ++ Builtin.zeroCells (Value.int .u8 0).cells (grownCap w (g.len + s.size) g.cap e - (g.len + s.size))) = ⟨bcells (bs ++ s.data.toList) ++ (Builtin.zeroCells (Value.int .u8 0).cells (grownCap w (g.len + s.size) g.cap e - (g.len + s.size))).toList⟩ := by
        apply Array.ext'; simp [bcells_push, strCells_b]
      rw [e1]
      refine Sat.buf_shut rfl (by rw [List.length_append, hl, hss]) ?_ (hnew.weakF (Nat.zero_le _))
      rw [zeroCells_length, hz1, List.length_append, hss]
      have := hge (g.len + s.size) g.cap
      show _ = grownCap w (g.len + s.size) g.cap e ∧ 0 < grownCap w (g.len + s.size) g.cap e
      omega

/-! ### The builder -/

/-- A builder in memory: whether it was used, its bytes. -/
def BuildP (T e : TypeId) (b : Nat) (bs : List UInt8) : SP := ex fun (x : Bool × Sl) => all [ptsF T b [.pointer (if x.1 then some ⟨b, 0, none⟩ else none), .slice x.2.a x.2.len x.2.cap] 0, BufP e x.2 bs]

theorem BuildP.open {b : Nat} {bs : List UInt8} (hs : Sat W w (BuildP T e b bs :: L)) : ∃ (u : Bool) (g : Sl), Sat W w (ptsF T b [.pointer (if u then some ⟨b, 0, none⟩ else none), .slice g.a g.len g.cap] 0 :: BufP e g bs :: L) := by
  obtain ⟨⟨u, g⟩, h⟩ := hs.open_ex
  exact ⟨u, g, h.open_all⟩

theorem BuildP.shut {b : Nat} {bs : List UInt8} (u : Bool) {g : Sl} (hs : Sat W w (ptsF T b [.pointer (if u then some ⟨b, 0, none⟩ else none), .slice g.a g.len g.cap] 0 :: BufP e g bs :: L)) : Sat W w (BuildP T e b bs :: L) :=
  Sat.shut_ex (u, g) (Sat.shut_all (As := [_, _]) hs)

/-- A new builder. -/
theorem xnewBuild {T' : TypeId} {K : Addr → World → Prop} (hT : T' = T) (hs : Sat W w L) (hk : ∀ b w', Sat W w' (BuildP T e b [] :: L) → K ⟨b, 0, none⟩ w') : XNew T' [.pointer none, .slice none 0 0] w K := by
  subst hT
  exact xnewT (L := BufP e ⟨none, 0, 0⟩ [] :: L) hs.buf_nil fun b w' h => hk b w' (BuildP.shut false (g := ⟨none, 0, 0⟩) h)

def okUnsafe (P : Program) (src dst b : TypeId) : Bool :=
  match under P src, under P dst with
  | some (.pointer e), some .unsafePointer => Nat.beq e b && (match ti P e with
    | some i => Nat.beq i.size 2
    | none => false)
  | _, _ => false

theorem okUnsafe_spec {P : Program} {src dst b : TypeId} (h : okUnsafe P src dst b = true) : ∃ i, P.underlying src = some (.pointer b) ∧ P.underlying dst = some .unsafePointer ∧ P.info? b = some i ∧ i.size = 2 := by
  unfold okUnsafe at h
  split at h
  · rename_i e h1 h2
    obtain ⟨he, h'⟩ := Bool.and_eq_true_iff.1 h
    have he' := Nat.eq_of_beq_eq_true he
    clear h he
    subst he'
    split at h'
    · rename_i i hi
      exact ⟨i, under_eq h1, under_eq h2, ti_info hi, Nat.eq_of_beq_eq_true h'⟩
    · cases h'
  · cases h

theorem noescape_run (x : Value) (w : World) : (extRun Tryz.prog F.internal_abi_NoEscape ⟨[x]⟩).run Tryz.prog w = .ok x w := by
  rw [ext_run Fu.internal_abi_NoEscape (by kernel_rfl) (by kernel_rfl) (by kernel_rfl) (e := Extern.AbiNoEscape.same) (by kernel_rfl)]
  rfl

def okEqPtr (P : Program) (t : TypeId) : Bool :=
  match under P t with
  | some (.pointer e) => (match ti P e with
    | some _ => true
    | none => false)
  | _ => false

theorem okEqPtr_spec {P : Program} {t : TypeId} (h : okEqPtr P t = true) : ∃ e i, P.underlying t = some (.pointer e) ∧ P.info? e = some i := by
  unfold okEqPtr at h
  split at h
  · rename_i e h1
    split at h
    · rename_i i hi
      exact ⟨e, i, under_eq h1, ti_info hi⟩
    · cases h
  · cases h

theorem run_toUnsafe {P : Program} {src dst : TypeId} {b k : Nat} {cs : List Value} (hok : okUnsafe P src dst T = true) (hs : Sat W w (ptsF T b cs k :: L)) (h0 : 0 < cs.length) :
    (convert src dst (ptr b)).run P w = .ok (ptr b) w := by
  obtain ⟨i, h1, h2, h3, h4⟩ := okUnsafe_spec hok
  exact Lib.run_to_unsafe w ⟨b, 0, none⟩ h1 h2 h3 (by omega) hs.shapeF h0

theorem run_fromUnsafe {P : Program} {src dst : TypeId} {b k : Nat} {cs : List Value} (hok : okUnsafe P dst src T = true) (hl : liesAt P P.depth T 1 0 T 1 = true) (hc : P.cellsOf T = 2) (hs : Sat W w (ptsF T b cs k :: L)) (h0 : cs.length = 2) :
    (convert src dst (ptr b)).run P w = .ok (ptr b) w := by
  obtain ⟨i, h1, h2, h3, h4⟩ := okUnsafe_spec hok
  refine Lib.run_from_unsafe w ⟨b, 0, none⟩ h2 h1 h3 hs.shapeF ?_
  rw [h0, hc]
  exact hl

theorem copyCheckG (hB : BTypes T e) {b : Nat} {u : Bool} {g : Sl} (h : Sat W w (ptsF T b [.pointer (if u then some ⟨b, 0, none⟩ else none), .slice g.a g.len g.cap] 0 :: L)) :
    Ret Tryz.prog F.strings_Builder_copyCheck [ptr b] w fun v w' => v = .tuple ⟨[]⟩ ∧ Sat W w' (ptsF T b [.pointer (some ⟨b, 0, none⟩), .slice g.a g.len g.cap] 0 :: L) := by
  refine S.strings_Builder_copyCheck_ok _ _ _ (xnil ?_)
  cases u with
  | false =>
    refine xloadF h 0 rfl rfl (XIf.yes rfl ?_)
    refine ⟨some ⟨b, 0, none⟩, w, run_toUnsafe (by rw [hB.builder]; kernel_rfl) h (by simp), some ⟨b, 0, none⟩, w, noescape_run _ _, some ⟨b, 0, none⟩, w, run_fromUnsafe (by rw [hB.builder]; kernel_rfl) (by rw [hB.builder]; kernel_rfl) (by rw [hB.builder]; kernel_rfl) h rfl, xnil (xstoreF h 0 rfl (by simp) (Nat.zero_le _) fun w' h' => ⟨rfl, h'⟩)⟩
  | true =>
    refine xloadF h 0 rfl rfl (XIf.no rfl (xnil (xloadF h 0 rfl rfl ?_)))
    obtain ⟨e', i, h1, h2⟩ := okEqPtr_spec (P := Tryz.prog) (t := Fn.strings_Builder_copyCheck.params.getD 0 0) (by kernel_rfl)
    refine ⟨false, w, ?_, XIf.no rfl ⟨rfl, h⟩⟩
    have hr := Lib.run_neq_ptr_same (P := Tryz.prog) w ⟨b, 0, none⟩ h1 h2
    exact hr

theorem copyCheck_spec (hB : BTypes T e) {b : Nat} {bs : List UInt8} (hs : Sat W w (BuildP T e b bs :: L)) : Ret Tryz.prog F.strings_Builder_copyCheck [ptr b] w fun v w' => v = .tuple ⟨[]⟩ ∧ Sat W w' (BuildP T e b bs :: L) := by
  obtain ⟨u, g, h⟩ := BuildP.open hs
  exact (copyCheckG hB h).mono fun v w' ⟨h1, h2⟩ => ⟨h1, BuildP.shut true h2⟩

theorem WriteString_spec (hB : BTypes T e) {b : Nat} {bs : List UInt8} {s : ByteArray} (hs : Sat W w (BuildP T e b bs :: L)) (hsz : bs.length + s.size ≤ 2 ^ 46) :
    Ret Tryz.prog F.strings_Builder_WriteString [ptr b, .string s] w fun v w' => v = .tuple ⟨[.int .i64 s.size, .nilIface]⟩ ∧ Sat W w' (BuildP T e b (bs ++ s.data.toList) :: L) := by
  refine S.strings_Builder_WriteString_ok _ _ _ _ (xcalls (copyCheck_spec hB hs) ?_)
  rintro v w1 ⟨rfl, h⟩
  obtain ⟨u, g, h⟩ := BuildP.open h
  refine ⟨(), rfl, xnil (xloadF h 1 rfl rfl (xappendBuf (by rw [hB.byte]; kernel_rfl) (h.bring 1) hsz fun g' w2 h2 => xnil (xstoreF (h2.bring 1) 1 rfl (by simp) (Nat.zero_le _) fun w3 h3 => ⟨rfl, BuildP.shut u h3⟩)))⟩

theorem Len_spec {b : Nat} {bs : List UInt8} (hs : Sat W w (BuildP T e b bs :: L)) : Ret Tryz.prog F.strings_Builder_Len [ptr b] w fun v w' => v = .int .i64 bs.length ∧ w' = w := by
  obtain ⟨u, g, h⟩ := BuildP.open hs
  refine S.strings_Builder_Len_ok _ _ _ (xnil (xloadF h 1 rfl rfl ⟨?_, rfl⟩))
  have := (h.bring 1).buf_len.1
  rw [this]

def okUStr (P : Program) (pt b : TypeId) : Bool :=
  match under P pt with
  | some (.pointer e) => Nat.beq e b && Nat.beq (P.cellsOf e) 1
  | _ => false

theorem okUStr_spec {P : Program} {pt b : TypeId} (h : okUStr P pt b = true) : P.underlying pt = some (.pointer b) ∧ P.cellsOf b = 1 := by
  unfold okUStr at h
  split at h
  · rename_i e h1
    obtain ⟨he, h'⟩ := Bool.and_eq_true_iff.1 h
    have he' := Nat.eq_of_beq_eq_true he
    subst he'
    exact ⟨under_eq h1, Nat.eq_of_beq_eq_true h'⟩
  · cases h

/-- A buffer's bytes as a text: they are frozen. -/
theorem xbufString {P : Program} {ts : Array TypeId} {ty pt it ty2 : TypeId} {g : Sl} {bs : List UInt8} {K : ByteArray → World → Prop} {N : Option Addr → World → Prop} (hok : okUStr P pt e = true) (hs : Sat W w (BufP e g bs :: L)) (hsz : bs.length ≤ 2 ^ 46)
    (hN : ∀ p w', Sat W w' (BufP e g bs :: L) → N p w') (hk : ∀ w', Sat W w' (BufP e g bs :: L) → K (str bs) w') :
    XDo P (Builtin.unsafeSliceData_ ts ty ⟨[.slice g.a g.len g.cap]⟩) (.leaf .ptr) w fun (p : Option Addr) w' => N p w' ∧ XDo P (Builtin.unsafeString_ #[pt, it] ty2 ⟨[.pointer p, .int .i64 ((g.len : Nat) : Int)]⟩) (.leaf .str) w' K := by
  obtain ⟨h1, h2⟩ := okUStr_spec hok
  rcases hs.buf_open with ⟨ha, hl, hc, hb, hs'⟩ | ⟨b, rest, ha, hl, hc, hs'⟩
  · subst hb
    rw [ha, hl, hc]
    refine ⟨none, w, Lib.run_unsafeSliceData_nil w ts ty 0 0, hN _ _ hs, _, w, Lib.run_unsafeString_none w pt it ty2 none, hk w hs⟩
  · by_cases h0 : bs = []
    · subst h0
      have hl0 : g.len = 0 := hl.symm
      rw [ha, hl0]
      · refine ⟨some ⟨b, 0, none⟩, w, Lib.run_unsafeSliceData_row w ts ty ⟨b, 0, none⟩ 0 g.cap (by omega), hN _ _ hs, _, w, Lib.run_unsafeString_none w pt it ty2 _, hk w hs⟩
    · have hpos : 0 < bs.length := List.length_pos_iff.2 h0
      rw [ha, ← hl]
      refine ⟨some ⟨b, 0, none⟩, w, Lib.run_unsafeSliceData_row w ts ty ⟨b, 0, none⟩ _ g.cap (by omega), hN _ _ hs, _, _, Lib.run_unsafeString_row w pt it ty2 e h1 h2 b _ hs'.shapeF bs h0 (by rw [List.length_append, bcells_length]; omega) (by omega) (fun j x hx => ?_), hk _ (Sat.buf_shut ha hl hc (hs'.freezeF _ (Nat.le_refl _)))⟩
      rw [Addr.add_mk, Nat.zero_add]
      refine hs'.cellF ?_
      rw [List.getElem?_append_left (by rw [bcells_length]; exact (List.getElem?_eq_some_iff.1 hx).1)]
      simp [bcells, hx]

theorem String_spec (hB : BTypes T e) {b : Nat} {bs : List UInt8} (hs : Sat W w (BuildP T e b bs :: L)) (hsz : bs.length ≤ 2 ^ 46) :
    Ret Tryz.prog F.strings_Builder_String [ptr b] w fun v w' => v = .string (str bs) ∧ Sat W w' (BuildP T e b bs :: L) := by
  obtain ⟨u, g, h⟩ := BuildP.open hs
  have hd := h.drew
  refine S.strings_Builder_String_ok _ _ _ (xnil (xloadF hd 1 rfl rfl (xnil (xloadF hd 1 rfl rfl ?_))))
  refine xbufString (by rw [hB.byte]; kernel_rfl) (hd.bring 1) hsz (fun p w' h' => (h'.bring 1).cellF rfl) fun w' h' => ⟨(h'.bring 1).cellF rfl, rfl, BuildP.shut u h'.swap⟩

end
end Go.X
