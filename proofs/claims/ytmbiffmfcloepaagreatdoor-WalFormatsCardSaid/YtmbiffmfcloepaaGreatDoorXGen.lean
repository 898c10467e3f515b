/- What later texts share: small facts of texts, files and memory. -/
import Derived.Test.YtmbiffmfcloepaaGreatDoorDCreate
import Derived.ProofKit
namespace Go.X
open Go.Proofs

section
variable {W w : World} {L : List SP}

theorem rising_one (f : DF) : Rising [f] := ⟨fun _ h => (by cases h), trivial⟩

theorem small_one {f : DF} (h : f.seen.length ≤ 2097152 ∧ f.last.length ≤ 2097152) : Small [f] := fun g hg => by
  simp only [List.mem_cons, List.not_mem_nil, or_false] at hg
  subst hg; exact h

theorem sEq_str (a b : List UInt8) : sEq (str a) (str b) = decide (a = b) := by
  unfold sEq
  rw [ByteArray.toList_eq, ByteArray.toList_eq, str_toList, str_toList]
  by_cases h : a = b
  · simp [h]
  · simp [h]

theorem sEq_self (a : ByteArray) : sEq a a = true := by
  have := sEq_str a.data.toList a.data.toList
  rw [str_data] at this
  rw [this]; simp

/-- A call whose answer is known and that leaves the world. -/
theorem xcall_eq {f : FuncId} {args : List Value} {t : Ty} {u : Value} {K : t.T → World → Prop} (h : Ret Tryz.prog f args w fun v w' => v = u ∧ w' = w) (x : t.T) (hx : u = t.mk x) (hk : K x w) : XCall Tryz.prog f args t w K :=
  xcall h fun v w' ⟨e1, e2⟩ => ⟨x, e1.trans hx, by rw [e2]; exact hk⟩

theorem xcalls_eq {f : FuncId} {args : List Value} {ts : List Ty} {u : Value} {K : HT ts → World → Prop} (h : Ret Tryz.prog f args w fun v w' => v = u ∧ w' = w) (x : HT ts) (hx : u = .tuple ⟨HT.vals ts x⟩) (hk : K x w) : XCalls Tryz.prog f args ts w K :=
  xcalls h fun v w' ⟨e1, e2⟩ => ⟨x, e1.trans hx, by rw [e2]; exact hk⟩

theorem lessB_self (f : DF) : lessB f.name f = false := by unfold lessB; rw [cmpS_refl]; rfl

theorem behind_self (f : DF) (r : List DF) : behind f.name (f :: r) = f :: r := by unfold behind; rw [List.dropWhile_cons, lessB_self]; rfl

theorem ahead_self (f : DF) (r : List DF) : ahead f.name (f :: r) = [] := by unfold ahead; rw [List.takeWhile_cons, lessB_self]; rfl

theorem isHead_self (f : DF) (r : List DF) : isHead f.name (behind f.name (f :: r)) = true := by rw [behind_self]; simp [isHead, cmpS_refl]

/-- A device whose first file stands otherwise. -/
def DD.after (D : DD) (f : DF) (r : List DF) (R : WS) : DD :=
  { files := { f with seen := R.seen } :: r, wait := R.wait, most := D.most, fuse := R.fuse, off := R.off, count := R.count, made := D.made }

/-- A write to the first file. -/
theorem write_first {D : DD} {f : DF} {r : List DF} (hf : D.files = f :: r) (ho : D.off = false) (at_ : Nat) (t : List UInt8) (hat : at_ + t.length ≤ 2097152) (hfr : ¬ (t ≠ [] ∧ D.free < (secs (at_ + t.length) : Int) - f.takes)) :
    D.write f.name at_ t = (downE (wr t.length f.id at_ t ⟨f.seen, D.wait, D.fuse, D.count, false⟩).off, D.after f r (wr t.length f.id at_ t ⟨f.seen, D.wait, D.fuse, D.count, false⟩)) := by
  unfold DD.write
  rw [ho, hf, behind_self, ahead_self]
  simp only [Bool.false_eq_true, if_false]
  rw [if_neg (by rw [cmpS_refl]; simp), if_neg (by omega), Int.toNat_natCast, if_neg hfr]
  rfl

theorem write_full {D : DD} {f : DF} {r : List DF} (hf : D.files = f :: r) (ho : D.off = false) (at_ : Nat) (t : List UInt8) (hat : at_ + t.length ≤ 2097152) (hfr : t ≠ [] ∧ D.free < (secs (at_ + t.length) : Int) - f.takes) :
    D.write f.name at_ t = (7, D) := by
  unfold DD.write
  rw [ho, hf, behind_self]
  simp only [Bool.false_eq_true, if_false]
  rw [if_neg (by rw [cmpS_refl]; simp), if_neg (by omega), Int.toNat_natCast, if_pos hfr]

theorem str_empty (l : List UInt8) : sEq (str l) ByteArray.empty = decide (l = []) := sEq_str l []

theorem free_one (n : Int) (f : DF) (w : List DW) (fu c m : Int) (o : Bool) : DD.free ⟨[f], w, n, fu, o, c, m⟩ = n - f.takes := by
  simp [DD.free, takesAll]

/-- The closed facts that a make of bytes asks of the types. -/
def okMakeB (P : Program) (t : TypeId) : Bool :=
  match under P t with
  | some (.slice e) => match ti P e with
    | some i => Nat.beq i.size 1 && Nat.beq i.bytes 1 && (match i.zero with
      | some (.int .u8 0) => true
      | _ => false)
    | none => false
  | _ => false

theorem okMakeB_spec {P : Program} {t : TypeId} (h : okMakeB P t = true) : ∃ e i, P.underlying t = some (.slice e) ∧ P.info? e = some i ∧ i.size = 1 ∧ i.bytes = 1 ∧ i.zero = some (.int .u8 0) := by
  unfold okMakeB at h
  split at h
  · rename_i e h1
    split at h
    · rename_i i hi
      simp only [Bool.and_eq_true] at h
      obtain ⟨⟨h3, h4⟩, h5⟩ := h
      split at h5
      · rename_i hz
        exact ⟨e, i, under_eq h1, ti_info hi, Nat.eq_of_beq_eq_true h3, Nat.eq_of_beq_eq_true h4, hz⟩
      · cases h5
    · cases h
  · cases h

theorem made_bytes (n : Nat) : (madeCells (#[.int .u8 0] : Array Value) n).toList = bcells (List.replicate n 0) := by
  unfold madeCells bcells
  apply List.ext_getElem
  · simp
  · intro i h1 h2
    simp [Nat.mod_one]

/-- **make** of bytes. -/
theorem xmakeB {P : Program} {t : TypeId} {n : Int} {m : Nat} {K : Sl → World → Prop} (hok : okMakeB P t = true) (hs : Sat W w L) (hm : n = m) (hsz : m ≤ 2 ^ 40)
    (hk : ∀ s w', s.len = m → Sat W w' (own 1 s (bcells (List.replicate m 0)) :: L) → K s w') : XDo P (Instr.makeSlice t (.int .i64 n) (.int .i64 n)) (.leaf .slice) w K := by
  obtain ⟨e, i, ht, hi, h1, hb, hz⟩ := okMakeB_spec hok
  subst hm
  have hr := run_make (P := P) w t e i _ ht hi hz .i64 .i64 (m : Int) (m : Int) (by omega) (Int.le_refl _) (by rw [hb]; omega) (by omega)
  rw [Int.toNat_natCast, h1, Nat.mul_one] at hr
  refine ⟨⟨some ⟨w.heap.size, 0, none⟩, m, m⟩, _, hr, hk _ _ rfl ?_⟩
  have hnew := hs.new_block (cs := (madeCells (#[.int .u8 0] : Array Value) m).toList) (t := e)
  have hnew' : Sat W (w.alloc (.cells (madeCells (#[.int .u8 0] : Array Value) m) e)) (pts w.heap.size (bcells (List.replicate m 0) ++ []) :: L) := by
    rw [List.append_nil, ← made_bytes]; exact hnew
  refine Sat.shut_own rfl ?_ ?_ (Nat.le_refl _) hnew'
  · simp [bcells_length]
  · simp [bcells_length]

/-- One byte more laid. -/
theorem over_snoc (G u : List UInt8) (k j : Nat) (c : UInt8) (hc : u[j]? = some c) (hk : k + u.length ≤ G.length) : over G k (u.take (j + 1)) = (over G k (u.take j)).set (k + j) c := by
  have hj := (List.getElem?_eq_some_iff.1 hc).1
  have e : u.take (j + 1) = u.take j ++ [c] := by rw [List.take_add_one, hc]; rfl
  have hl : (u.take j).length = j := by rw [List.length_take]; omega
  unfold over
  rw [e]
  simp only [List.length_append, hl, List.length_singleton]
  have hd : G.drop (k + j) = G[k + j] :: G.drop (k + j + 1) := List.drop_eq_getElem_cons (by omega)
  have hlen : (G.take k ++ u.take j).length = k + j := by rw [List.length_append, List.length_take, hl]; omega
  rw [hd, List.set_append_right _ _ (by omega), hlen, Nat.sub_self, List.set_cons_zero, ← List.append_assoc, List.append_assoc _ [c], show k + (j + 1) = k + j + 1 by omega]
  rfl

/-- Is a fate that one? -/
theorem xfate {A : SP} {s : Sl} {xs : List Int} (hA : ROInts W A s xs) (hs : Sat W w (A :: L)) (i : Nat) (c : Int) {J : Bool × Unit → World → Prop} (hJ : J (decide (xs[i]? = some c), ()) w) :
    XIf (decide ((i : Int) < ((s.len : Nat) : Int))) (XNil s.a fun a => ((0 : Int) ≤ (i : Int) ∧ (i : Int) < ((s.len : Nat) : Int)) ∧ XLoad (.int .i64) (Addr.add a ((Int.toNat (i : Int)) * 1)) w fun (x : Int) => J (((x : Int) == c), ()) w) (J (false, ()) w) := by
  obtain ⟨hl, hA⟩ := hA
  by_cases hi : i < xs.length
  · obtain ⟨x, hx⟩ : ∃ x, xs[i]? = some x := ⟨_, List.getElem?_eq_getElem hi⟩
    obtain ⟨b, o, ha, hcell⟩ := hA w L hs i x hx
    refine XIf.yes (decide_eq_true (by omega)) ?_
    rw [ha]
    refine xnil ⟨by omega, xload_at (l := .int .i64) (x := x) (by rw [Int.toNat_natCast, Nat.mul_one, Addr.add_mk]; exact hcell) ?_⟩
    rw [hx] at hJ
    have : (x == c) = decide (some x = some c) := by by_cases h : x = c <;> simp [h]
    rw [this]
    exact hJ
  · refine XIf.no (decide_eq_false (by omega)) ?_
    have : xs[i]? = none := List.getElem?_eq_none (by omega)
    rw [this] at hJ
    exact hJ

theorem read_first {D : DD} {f : DF} {r : List DF} (hf : D.files = f :: r) (ho : D.off = false) (k n : Nat) : D.read f.name k n = ((f.seen.drop k).take n, 0) := by
  unfold DD.read
  rw [ho, hf, behind_self]
  simp only [Bool.false_eq_true, if_false]
  rw [if_neg (by rw [cmpS_refl]; simp), if_neg (by omega), Int.toNat_natCast, Int.toNat_natCast]

theorem over_nil (l : List UInt8) (k : Nat) : over l k [] = l := by simp [over]

theorem pl_neg {n : Nat} {place : Nat} (h : ¬ (64 : Int) - ((place % 64 : Nat) : Int) > (n : Int)) : (64 : Int) - ((place % 64 : Nat) : Int) = ((pieceLen place n : Nat) : Int) := by
  unfold pieceLen; omega

theorem pl_pos {n : Nat} {place : Nat} (h : (64 : Int) - ((place % 64 : Nat) : Int) > (n : Int)) : (n : Int) = ((pieceLen place n : Nat) : Int) := by
  unfold pieceLen; omega

theorem rising_tail {A B : List DF} (h : Rising (A ++ B)) : Rising B := by
  induction A with
  | nil => exact h
  | cons a A ih => exact ih h.2

theorem behind_mid : ∀ {A : List DF} {f : DF} {B : List DF}, Rising (A ++ f :: B) → ahead f.name (A ++ f :: B) = A ∧ behind f.name (A ++ f :: B) = f :: B
  | [], f, B, _ => ⟨ahead_self f B, behind_self f B⟩
  | a :: A, f, B, h => by
    have hlt : lessB f.name a = true := decide_eq_true (h.1 f (by simp))
    obtain ⟨h1, h2⟩ := behind_mid h.2
    unfold ahead behind at *
    rw [List.cons_append, List.takeWhile_cons, List.dropWhile_cons, hlt]
    simp only [if_true]
    exact ⟨by rw [h1], h2⟩

theorem rising_map {g : DF → DF} (hg : ∀ f, (g f).name = f.name) : ∀ {l : List DF}, Rising l → Rising (l.map g)
  | [], _ => trivial
  | f :: l, h => ⟨fun x hx => by
      obtain ⟨y, hy, rfl⟩ := List.mem_map.1 hx
      rw [hg, hg]
      exact h.1 y hy, rising_map hg h.2⟩

theorem rising_mid {A B : List DF} {f g : DF} (hn : g.name = f.name) (h : Rising (A ++ f :: B)) : Rising (A ++ g :: B) := by
  induction A with
  | nil => exact ⟨fun x hx => by rw [hn]; exact h.1 x hx, h.2⟩
  | cons a A ih =>
    refine ⟨fun x hx => ?_, ih h.2⟩
    rcases List.mem_append.1 hx with hx | hx
    · exact h.1 x (List.mem_append_left _ hx)
    · rcases List.mem_cons.1 hx with rfl | hx
      · rw [hn]; exact h.1 f (by simp)
      · exact h.1 x (by simp [hx])

theorem rising_put {name : ByteArray} {nw : DF} (hn : nw.name = name) : ∀ {fs : List DF}, Rising fs → isHead name (behind name fs) = false → Rising (ahead name fs ++ nw :: behind name fs)
  | [], _, _ => ⟨fun _ h => (by cases h), trivial⟩
  | f :: fs, h, hh => by
    cases hl : lessB name f with
    | true =>
      have e1 : ahead name (f :: fs) = f :: ahead name fs := by unfold ahead; rw [List.takeWhile_cons, hl]; rfl
      have e2 : behind name (f :: fs) = behind name fs := by unfold behind; rw [List.dropWhile_cons, hl]; rfl
      rw [e1, e2]
      rw [e2] at hh
      refine ⟨fun x hx => ?_, rising_put hn h.2 hh⟩
      have hmem : ∀ y, y ∈ ahead name fs ∨ y ∈ behind name fs → y ∈ fs := fun y hy => by rw [← ahead_behind name fs]; simpa using hy
      rcases List.mem_append.1 hx with hx | hx
      · exact h.1 x (hmem x (.inl hx))
      · rcases List.mem_cons.1 hx with rfl | hx
        · rw [hn]; exact of_decide_eq_true hl
        · exact h.1 x (hmem x (.inr hx))
    | false =>
      have e1 : ahead name (f :: fs) = [] := by unfold ahead; rw [List.takeWhile_cons, hl]; rfl
      have e2 : behind name (f :: fs) = f :: fs := by unfold behind; rw [List.dropWhile_cons, hl]; rfl
      rw [e1, e2]
      rw [e2] at hh
      have h1 : ¬ cmpS f.name name < 0 := of_decide_eq_false hl
      have h2 : cmpS f.name name ≠ 0 := by simpa [isHead] using hh
      have h3 : cmpS name f.name < 0 := by rw [cmpS_swap]; omega
      refine ⟨fun x hx => ?_, h⟩
      rw [hn]
      rcases List.mem_cons.1 hx with rfl | hx
      · exact h3
      · exact cmpS_trans h3 (h.1 x hx)

/-- Reading a field of an element. -/
theorem xfield {l : Leaf} {sz o : Nat} {s : Sl} {xs : List Value} {i : Int} {n : Nat} {K : Addr → l.T → Prop} (hs : Sat W w (own sz s xs :: L)) (k : Nat) (hi : i = k) (hlt : k < s.len) (hn : n = k * sz) {x : l.T}
    (hx : xs[k * sz + o]? = some (l.mk x)) (hk : ∀ a, s.a = some a → K a x) : XNil s.a fun a => ((0 : Int) ≤ i ∧ i < ((s.len : Nat) : Int)) ∧ XLoad l (Addr.add (Addr.add a n) o) w (K a) := by
  obtain ⟨b, hb, hc⟩ := hs.own_some (by omega)
  have hk' := hk
  rw [hb]
  refine ⟨by omega, x, ?_, hk' _ hb⟩
  rw [Addr.add_mk, Addr.add_mk, Nat.zero_add, hn]
  exact hc _ _ hx

/-- Reading an element's first field. -/
theorem xfield0 {l : Leaf} {sz : Nat} {s : Sl} {xs : List Value} {i : Int} {n : Nat} {K : Addr → l.T → Prop} (hs : Sat W w (own sz s xs :: L)) (k : Nat) (hi : i = k) (hlt : k < s.len) (hn : n = k * sz) {x : l.T}
    (hx : xs[k * sz]? = some (l.mk x)) (hk : ∀ a, s.a = some a → K a x) : XNil s.a fun a => ((0 : Int) ≤ i ∧ i < ((s.len : Nat) : Int)) ∧ XLoad l (Addr.add a n) w (K a) := by
  obtain ⟨b, hb, hc⟩ := hs.own_some (by omega)
  have hk' := hk
  rw [hb]
  refine ⟨by omega, x, ?_, hk' _ hb⟩
  rw [Addr.add_mk, Nat.zero_add, hn]
  exact hc _ _ hx

/-- Writing a field of an element. -/
theorem xsetf {sz o : Nat} {s : Sl} {xs : List Value} {v : Value} {i : Int} {n : Nat} {K : Addr → World → Prop} (hs : Sat W w (own sz s xs :: L)) (k : Nat) (hi : i = k) (hlt : k < s.len) (hn : n = k * sz) (ho : o < sz)
    (hk : ∀ a w', Sat W w' (own sz s (xs.set (k * sz + o) v) :: L) → K a w') : XNil s.a fun a => ((0 : Int) ≤ i ∧ i < ((s.len : Nat) : Int)) ∧ XStore (Addr.add (Addr.add a n) o) v w (K a) := by
  rcases hs.open_own with ⟨_, h0, _⟩ | ⟨b, rest, ha, hl, hc, hlc, hs'⟩
  · omega
  · have hfit : k * sz + o < xs.length := by
      rw [hl]
      have : (k + 1) * sz ≤ s.len * sz := Nat.mul_le_mul_right _ hlt
      rw [Nat.succ_mul] at this
      omega
    rw [ha]
    refine ⟨by omega, xstore hs' (k * sz + o) (by rw [Addr.add_mk, Addr.add_mk, Nat.zero_add, hn]) (by rw [List.length_append]; omega) fun w' h => hk _ w' ?_⟩
    rw [set_append_left' xs rest _ v hfit] at h
    exact Sat.shut_own ha (by rw [List.length_set]; exact hl) (by rw [List.length_append, List.length_set, ← List.length_append]; exact hc) hlc h

theorem sEq_iff (a b : ByteArray) : sEq a b = decide (a = b) := by
  have := sEq_str a.data.toList b.data.toList
  rw [str_data, str_data] at this
  rw [this]
  by_cases h : a = b
  · simp [h]
  · have : a.data.toList ≠ b.data.toList := fun e => h (bytes_ext e)
    simp [h, this]

/-- Bytes with others in their place, noughts in a gap. -/
def laidL (l : List UInt8) (k : Nat) (t : List UInt8) : List UInt8 := over (l ++ List.replicate (k + t.length - l.length) 0) k t

theorem str_append (a b : List UInt8) : (str a ++ str b : ByteArray) = str (a ++ b) := by
  apply bytes_ext
  rw [str_toList]
  simp [str]

theorem laid_grow {l t : List UInt8} {k : Nat} (h : l.length ≤ k) : laidL l k t = (l ++ List.replicate (k - l.length) 0) ++ t := by
  unfold laidL over
  have e1 : (l ++ List.replicate (k + t.length - l.length) (0 : UInt8)).take k = l ++ List.replicate (k - l.length) 0 := by
    rw [List.take_append, List.take_of_length_le h, List.take_replicate, Nat.min_eq_left (by omega)]
  rw [e1, List.drop_eq_nil_of_le (by simp; omega), List.append_nil]

theorem laid_end {l t : List UInt8} {k : Nat} (h : k ≤ l.length) (h2 : l.length ≤ k + t.length) : laidL l k t = l.take k ++ t := by
  unfold laidL over
  rw [List.take_append_of_le_length h, List.drop_eq_nil_of_le (by simp; omega), List.append_nil]

theorem laid_mid {l t : List UInt8} {k : Nat} (h : k + t.length ≤ l.length) : laidL l k t = l.take k ++ t ++ l.drop (k + t.length) := by
  unfold laidL over
  rw [show k + t.length - l.length = 0 by omega, List.replicate_zero, List.append_nil]

theorem laidL_length (l t : List UInt8) (k : Nat) : (laidL l k t).length = max l.length (k + t.length) := by
  unfold laidL
  rw [over_length (by rw [List.length_append, List.length_replicate]; omega), List.length_append, List.length_replicate]
  omega

theorem reads_front {sz : Nat} {s : Sl} {xs : List Value} (hs : Sat W w (own sz s xs :: L)) (k c : Nat) : Reads w ⟨s.a, k, c⟩ (xs.take (k * sz)) := by
  intro a ha j u hj
  refine reads_own hs a ha j u ?_
  rw [List.getElem?_take] at hj
  split at hj
  · exact hj
  · cases hj

theorem bytesLess_cmp : ∀ (x y : List UInt8), Op.bytesLess x y = decide (cmpL x y < 0)
  | [], [] => rfl
  | [], _ :: _ => rfl
  | _ :: _, [] => rfl
  | a :: x, b :: y => by
    unfold Op.bytesLess cmpL
    by_cases h1 : a < b
    · simp [h1]
    · by_cases h2 : b < a
      · have : ¬ a = b := fun e => by subst e; exact h1 h2
        simp [h1, h2, this]
      · have := u8_eq_of_not h1 h2
        subst this
        simp [h1, bytesLess_cmp x y]

theorem sLt_cmp (a b : ByteArray) : sLt a b = decide (cmpS a b < 0) := by
  unfold sLt cmpS
  rw [ByteArray.toList_eq, ByteArray.toList_eq, bytesLess_cmp]

abbrev Rise (l : List ByteArray) : Prop := l.Pairwise fun a b => cmpS a b < 0

theorem rise_irrefl {a : ByteArray} (h : cmpS a a < 0) : False := by rw [cmpS_refl] at h; omega

theorem rise_unique : ∀ {l m : List ByteArray}, Rise l → Rise m → (∀ x, x ∈ l ↔ x ∈ m) → l = m
  | [], [], _, _, _ => rfl
  | [], y :: m, _, _, h => by have := (h y).2 List.mem_cons_self; cases this
  | x :: l, [], _, _, h => by have := (h x).1 List.mem_cons_self; cases this
  | x :: l, y :: m, hl, hm, h => by
    have hl := List.pairwise_cons.1 hl
    have hm := List.pairwise_cons.1 hm
    have hxy : x = y := by
      rcases List.mem_cons.1 ((h x).1 List.mem_cons_self) with e | hx
      · exact e
      · rcases List.mem_cons.1 ((h y).2 List.mem_cons_self) with e | hy
        · exact e.symm
        · have := cmpS_trans (hl.1 y hy) (hm.1 x hx)
          exact (rise_irrefl this).elim
    subst hxy
    congr 1
    refine rise_unique hl.2 hm.2 fun z => ⟨fun hz => ?_, fun hz => ?_⟩
    · rcases List.mem_cons.1 ((h z).1 (List.mem_cons_of_mem _ hz)) with rfl | hz'
      · exact (rise_irrefl (hl.1 _ hz)).elim
      · exact hz'
    · rcases List.mem_cons.1 ((h z).2 (List.mem_cons_of_mem _ hz)) with rfl | hz'
      · exact (rise_irrefl (hm.1 _ hz)).elim
      · exact hz'

theorem rising_rise : ∀ {fs : List DF}, Rising fs → Rise (fs.map (·.name))
  | [], _ => List.Pairwise.nil
  | f :: fs, h => List.pairwise_cons.2 ⟨fun y hy => by
      obtain ⟨g, hg, rfl⟩ := List.mem_map.1 hy
      exact h.1 g hg, rising_rise h.2⟩

theorem rise_nodup {l : List ByteArray} (h : Rise l) : l.Nodup :=
  h.imp fun {a b} hab e => by subst e; exact rise_irrefl hab

theorem names_get (l : List ByteArray) (k : Nat) (h : k < l.length) : readL .str (l.map Value.string) k = some l[k] := by
  simp [readL, List.getElem?_map, List.getElem?_eq_getElem h, Leaf.un]

theorem beq_self_int (a : Int) : (a == a) = true := by simp

theorem none_ints (A : SP) : ROInts W A ⟨none, 0, 0⟩ [] := ⟨rfl, fun _ _ _ k x hx => by simp at hx⟩

def ncells (l : List DF) : List Value := l.map fun f => .string f.name

def DD.names (D : DD) : List ByteArray := D.files.map (·.name)

end
end Go.X
