import Derived.Test.YtmbiffmfcloepaaGreatDoorWFind

/-! Records as bytes, and read again. -/
namespace Go.X

def recK (k : Nat) (s : List UInt8) : List UInt8 := four s.length ++ markN k ++ s

theorem recK_length (k : Nat) (s : List UInt8) : (recK k s).length = 36 + s.length := recLen _ _ (markN_length k)

/-- Records behind a mark, their bytes, the last one's mark. -/
inductive Enc (M : Bk) : List UInt8 → List (List UInt8) → List UInt8 → List UInt8 → Prop
  | nil (m : List UInt8) : Enc M m [] [] m
  | cons {m s m' bs : List UInt8} {k : Nat} {rs : List (List UInt8)} : numOf (m ++ s) M = some k → 1 ≤ s.length → s.length ≤ 1048833 → Enc M (markN k) rs bs m' → Enc M m (s :: rs) (recK k s ++ bs) m'

theorem Enc.more {M : Bk} (X : Bk) {m bs m' : List UInt8} {rs : List (List UInt8)} (h : Enc M m rs bs m') : Enc (M ++ X) m rs bs m' := by
  induction h with
  | nil m => exact .nil m
  | cons h1 h2 h3 _ ih => exact .cons (numOf_append h1 X) h2 h3 ih

theorem Enc.append {M : Bk} {m bs m' : List UInt8} {rs : List (List UInt8)} (h : Enc M m rs bs m') {rs2 : List (List UInt8)} {bs2 m2 : List UInt8} (h2 : Enc M m' rs2 bs2 m2) : Enc M m (rs ++ rs2) (bs ++ bs2) m2 := by
  induction h with
  | nil m => exact h2
  | cons a b c _ ih => rw [List.append_assoc]; exact .cons a b c (ih h2)

/-- A part that stands ahead. -/
theorem Enc.split {M : Bk} : ∀ {rs : List (List UInt8)} {m bs m' : List UInt8} {rs2 : List (List UInt8)}, Enc M m (rs ++ rs2) bs m' → ∃ b1 b2 m1, bs = b1 ++ b2 ∧ Enc M m rs b1 m1 ∧ Enc M m1 rs2 b2 m'
  | [], m, bs, m', rs2, h => ⟨[], bs, m, rfl, .nil m, h⟩
  | s :: rs, m, bs, m', rs2, h => by
    cases h with
    | cons a b c h =>
      rename_i bs' k
      obtain ⟨b1, b2, m1, rfl, e1, e2⟩ := Enc.split h
      exact ⟨recK k s ++ b1, b2, m1, by rw [List.append_assoc], .cons a b c e1, e2⟩

theorem Enc.len {M : Bk} {m bs m' : List UInt8} {rs : List (List UInt8)} (h : Enc M m rs bs m') : 37 * rs.length ≤ bs.length := by
  induction h with
  | nil m => simp
  | cons a b c _ ih => rw [List.length_append, recK_length, List.length_cons]; omega

/-- What putting makes. -/
theorem putB_enc (sign : UInt8) : ∀ (l : List (List UInt8)) (S : PB), S.err = 0 → (∀ s ∈ l, s.length ≤ 1048832) →
    ∃ bs X, (putB sign l S).err = 0 ∧ (putB sign l S).bytes = S.bytes ++ bs ∧ (putB sign l S).book = S.book ++ X ∧ X.length ≤ l.length ∧ Enc (S.book ++ X) S.mark (l.map (sign :: ·)) bs (putB sign l S).mark
  | [], S, h, _ => ⟨[], [], h, by simp [putB], by simp [putB], Nat.zero_le _, by simp only [putB]; exact .nil _⟩
  | s :: l, S, h, hl => by
    have hs := hl s List.mem_cons_self
    have hp : putB sign (s :: l) S = putB sign l { S with bytes := S.bytes ++ (four (sign :: s).length ++ S.book.mark (S.mark ++ sign :: s) ++ sign :: s), mark := S.book.mark (S.mark ++ sign :: s), book := S.book.add (S.mark ++ sign :: s) } := by
      rw [putB, if_neg (by omega)]
    rw [hp]
    obtain ⟨bs, X, h1, h2, h3, h4, h5⟩ := putB_enc sign l { S with bytes := S.bytes ++ (four (sign :: s).length ++ S.book.mark (S.mark ++ sign :: s) ++ sign :: s), mark := S.book.mark (S.mark ++ sign :: s), book := S.book.add (S.mark ++ sign :: s) } h fun t ht => hl t (List.mem_cons_of_mem _ ht)
    obtain ⟨Y, hY, hYl⟩ := S.book.add_more (S.mark ++ sign :: s)
    obtain ⟨k, hk, hm⟩ := S.book.add_num (S.mark ++ sign :: s)
    refine ⟨recK k (sign :: s) ++ bs, Y ++ X, h1, ?_, ?_, by rw [List.length_append, List.length_cons]; omega, ?_⟩
    · rw [h2]
      dsimp only
      rw [hm, List.append_assoc, List.append_assoc]
      rfl
    · rw [h3]
      dsimp only
      rw [hY, List.append_assoc]
    · dsimp only at h5
      rw [hY, hm, List.append_assoc] at h5
      rw [hm, hY]
      rw [hY] at hk
      have hk2 := numOf_append hk X
      rw [List.append_assoc] at hk2
      exact .cons hk2 (by simp) (by rw [List.length_cons]; omega) h5

/-! ### Reading -/

theorem nextB_hit {M : Bk} {pre m s rest : List UInt8} {k : Nat} (hk : numOf (m ++ s) M = some k) (h1 : 1 ≤ s.length) (h2 : s.length ≤ 1048833) :
    nextB M (pre ++ (recK k s ++ rest)) pre.length m = some (s, markN k) := by
  have hl : (pre ++ (recK k s ++ rest)).length = pre.length + (36 + s.length) + rest.length := by rw [List.length_append, List.length_append, recK_length]; omega
  have hm := markN_length k
  have e0 : (pre ++ (recK k s ++ rest)).drop pre.length = four s.length ++ (markN k ++ (s ++ rest)) := by
    rw [List.drop_left]; unfold recK; simp only [List.append_assoc]
  have e1 : ((pre ++ (recK k s ++ rest)).drop pre.length).take 4 = four s.length := by rw [e0]; exact List.take_left' rfl
  have e2 : ((pre ++ (recK k s ++ rest)).drop (pre.length + 4)).take 32 = markN k := by
    rw [← List.drop_drop, e0, List.drop_left' (four_length _)]; exact List.take_left' hm
  have e3 : ((pre ++ (recK k s ++ rest)).drop (pre.length + 36)).take s.length = s := by
    rw [← List.drop_drop, e0, show (36 : Nat) = 4 + 32 from rfl, ← List.drop_drop, List.drop_left' (four_length _), List.drop_left' hm]; exact List.take_left' rfl
  unfold nextB
  rw [if_neg (by omega)]
  dsimp only
  rw [e1, val4_four _ (by omega), if_neg (by omega), e2, e3]
  have : M.is (m ++ s) (markN k) = true := by unfold Bk.is; rw [hk]; simp
  rw [if_pos this]

/-- What is kept of a load but its place and its mark. -/
def LD.core (S : LD) : Bool × List (List UInt8) := (S.sealed, S.out)

def coreStep (c : Bool × List (List UInt8)) (s : List UInt8) : Option (Bool × List (List UInt8)) :=
  if s = [69] ∧ c.1 = false then some (true, c.2)
  else if s.headD 0 = 83 ∧ c.1 = false ∨ s.headD 0 = 82 ∧ c.1 = true then some (c.1, c.2 ++ [s.tail])
  else none

def cores : List (List UInt8) → Bool × List (List UInt8) → Option (Bool × List (List UInt8))
  | [], c => some c
  | s :: rs, c => match coreStep c s with
    | none => none
    | some c' => cores rs c'

theorem loadStep_core (S : LD) (s m : List UInt8) : loadStep S s m = (coreStep S.core s).map fun c => ⟨S.end_ + 36 + s.length, m, c.1, c.2⟩ := by
  unfold loadStep coreStep LD.core
  split
  · rfl
  · split <;> rfl

/-- Records that stand there are read. -/
theorem loadL_enc {M : Bk} {rest : List UInt8} : ∀ {rs : List (List UInt8)} {m bs m' : List UInt8} (pre : List UInt8) (S : LD) (j : Nat) (c : Bool × List (List UInt8)), Enc M m rs bs m' → S.end_ = pre.length → S.mark = m → cores rs S.core = some c →
    loadL M (pre ++ (bs ++ rest)) (rs.length + j) S = loadL M (pre ++ (bs ++ rest)) j ⟨pre.length + bs.length, m', c.1, c.2⟩
  | [], m, bs, m', pre, S, j, c, h, he, hm, hc => by
    cases h
    cases hc
    obtain ⟨e, mk, sl, out⟩ := S
    dsimp only [LD.core] at *
    subst he hm
    simp
  | s :: rs, m, bs, m', pre, S, j, c, h, he, hm, hc => by
    cases h with
    | cons hk h1 h2 h3 =>
      rename_i bs k
      have hn := nextB_hit (M := M) (pre := pre) (m := m) (s := s) (rest := bs ++ rest) hk h1 h2
      unfold cores at hc
      cases hcs : coreStep S.core s with
      | none => rw [hcs] at hc; cases hc
      | some c1 =>
        rw [hcs] at hc
        dsimp only at hc
        have hst : loadStep S s (markN k) = some ⟨S.end_ + 36 + s.length, markN k, c1.1, c1.2⟩ := by rw [loadStep_core, hcs]; rfl
        rw [show (s :: rs).length + j = (rs.length + j) + 1 by rw [List.length_cons]; omega]
        rw [loadL, he, hm, List.append_assoc, hn]
        dsimp only
        rw [hst]
        dsimp only
        have ih := loadL_enc (M := M) (rest := rest) (pre ++ recK k s) ⟨S.end_ + 36 + s.length, markN k, c1.1, c1.2⟩ j c h3 (by rw [List.length_append, recK_length, he]; dsimp only; omega) rfl hc
        rw [List.append_assoc] at ih
        rw [ih]
        congr 2
        rw [List.length_append, List.length_append, recK_length]
        omega

theorem loadL_stop {M : Bk} {all : List UInt8} {S : LD} (h : nextB M all S.end_ S.mark = none) : ∀ j, loadL M all j S = S
  | 0 => rfl
  | j + 1 => by rw [loadL, h]

/-- Records, then none: what is found. -/
theorem loadF_enc {M : Bk} {n : Nat} {rs : List (List UInt8)} {bs rest m : List UInt8} {c : Bool × List (List UInt8)} (h : Enc M (firstM n) rs bs m) (hc : cores rs (false, []) = some c) (hn : nextB M (bs ++ rest) bs.length m = none) :
    loadF M (bs ++ rest) n = ⟨bs.length, m, c.1, c.2⟩ := by
  have hl := h.len
  unfold loadF
  have h1 := loadL_enc (M := M) (rest := rest) [] ⟨0, firstM n, false, []⟩ ((bs ++ rest).length + 1 - rs.length) c h rfl rfl hc
  rw [List.nil_append, show rs.length + ((bs ++ rest).length + 1 - rs.length) = (bs ++ rest).length + 1 by rw [List.length_append]; omega] at h1
  rw [h1]
  simp only [List.length_nil, Nat.zero_add]
  exact loadL_stop hn _

/-- Behind the last record there is nothing, or noughts. -/
theorem nextB_zeros (M : Bk) (pre m : List UInt8) (z : Nat) : nextB M (pre ++ List.replicate z 0) pre.length m = none := by
  unfold nextB
  split
  · rfl
  · rename_i h
    rw [List.length_append, List.length_replicate] at h
    have e1 : ((pre ++ List.replicate z (0 : UInt8)).drop pre.length).take 4 = [0, 0, 0, 0] := by
      rw [List.drop_left, List.take_replicate, Nat.min_eq_left (by omega)]
      rfl
    dsimp only
    rw [e1]
    rfl

/-! ### What a segment's records mean -/

/-- A snapshot, its end, what came behind. -/
def segR (ss tt : List (List UInt8)) : List (List UInt8) := ss.map (83 :: ·) ++ ([69] :: tt.map (82 :: ·))

theorem cores_append : ∀ (a b : List (List UInt8)) (c : Bool × List (List UInt8)), cores (a ++ b) c = match cores a c with | none => none | some c' => cores b c'
  | [], b, c => rfl
  | s :: a, b, c => by
    simp only [List.cons_append, cores]
    cases coreStep c s with
    | none => rfl
    | some c' => exact cores_append a b c'

theorem cores_S : ∀ (ss out : List (List UInt8)), cores (ss.map (83 :: ·)) (false, out) = some (false, out ++ ss)
  | [], out => by simp [cores]
  | s :: ss, out => by
    have h : coreStep (false, out) (83 :: s) = some (false, out ++ [s]) := by
      unfold coreStep
      rw [if_neg (by simp), if_pos (by simp)]
      rfl
    rw [List.map_cons, cores, h]
    dsimp only
    rw [cores_S ss, List.append_assoc]
    rfl

theorem cores_R : ∀ (tt out : List (List UInt8)), cores (tt.map (82 :: ·)) (true, out) = some (true, out ++ tt)
  | [], out => by simp [cores]
  | s :: ss, out => by
    have h : coreStep (true, out) (82 :: s) = some (true, out ++ [s]) := by
      unfold coreStep
      rw [if_neg (by simp), if_pos (by simp)]
      rfl
    rw [List.map_cons, cores, h]
    dsimp only
    rw [cores_R ss, List.append_assoc]
    rfl

theorem cores_seg (ss tt : List (List UInt8)) : cores (segR ss tt) (false, []) = some (true, ss ++ tt) := by
  unfold segR
  rw [cores_append, cores_S, List.nil_append]
  dsimp only
  have h : coreStep (false, ss) [69] = some (true, ss) := by
    unfold coreStep
    rw [if_pos (by simp)]
  rw [cores, h]
  exact cores_R tt ss

end Go.X

/-! The device's calls on a file that is there, plain; a file's bytes, noughts behind. -/
namespace Go.X

section
variable {D : DD} {A B : List DF} {f : DF}

theorem mid_of (hD : D.files = A ++ f :: B) (hr : Rising D.files) : ahead f.name D.files = A ∧ behind f.name D.files = f :: B := by
  rw [hD] at hr ⊢
  exact behind_mid hr

theorem size_mid (hD : D.files = A ++ f :: B) (hr : Rising D.files) (ho : D.off = false) : D.size f.name = ((f.seen.length : Int), 0) := by
  unfold DD.size
  rw [if_neg (by rw [ho]; decide), (mid_of hD hr).2]
  dsimp only
  rw [if_neg (by rw [cmpS_refl]; decide)]

theorem read_mid (hD : D.files = A ++ f :: B) (hr : Rising D.files) (ho : D.off = false) (a n : Nat) : D.read f.name (a : Int) (n : Int) = ((f.seen.drop a).take n, 0) := by
  unfold DD.read
  rw [if_neg (by rw [ho]; decide), (mid_of hD hr).2]
  dsimp only
  rw [if_neg (by rw [cmpS_refl]; decide), if_neg (by omega)]
  rfl

theorem remove_mid (hD : D.files = A ++ f :: B) (hr : Rising D.files) (ho : D.off = false) : D.remove f.name = (0, { D with files := A ++ B, wait := D.wait.filter fun p => !(p.id == f.id) }) := by
  unfold DD.remove
  rw [if_neg (by rw [ho]; decide)]
  have h := (mid_of hD hr).2
  rw [if_neg (by rw [h]; simp [isHead, cmpS_refl])]
  unfold DD.without
  rw [h, (mid_of hD hr).1]
  rfl

theorem remove_off (h : D.off = true) (name : ByteArray) : D.remove name = (14, D) := by unfold DD.remove; rw [if_pos h]
theorem create_off (h : D.off = true) (name : ByteArray) : D.create name = (14, D) := by unfold DD.create; rw [if_pos h]
theorem write_off (h : D.off = true) (name : ByteArray) (a : Int) (t : List UInt8) : D.write name a t = (14, D) := by unfold DD.write; rw [if_pos h]
theorem sync_off (h : D.off = true) : D.sync = (14, D) := by unfold DD.sync; rw [if_pos h]
theorem sync_on (h : D.off = false) : D.sync = (0, { D with files := D.files.map (syncF D.wait), wait := [] }) := by unfold DD.sync; rw [if_neg (by rw [h]; decide)]

/-- Writing where there is no room. -/
theorem write_no (hD : D.files = A ++ f :: B) (hr : Rising D.files) (ho : D.off = false) {a : Nat} {t : List UInt8} (hm : a + t.length ≤ 2097152) (hf : t ≠ [] ∧ D.free < (secs (a + t.length) : Int) - f.takes) :
    D.write f.name (a : Int) t = (7, D) := by
  unfold DD.write
  rw [if_neg (by rw [ho]; decide), (mid_of hD hr).2]
  dsimp only
  rw [if_neg (by rw [cmpS_refl]; decide), if_neg (by omega), Int.toNat_natCast, if_pos hf]

/-- A device behind a write to one of its files. -/
def DD.wrote (D : DD) (A : List DF) (f : DF) (B : List DF) (R : WS) : DD :=
  { D with files := A ++ { f with seen := R.seen } :: B, wait := R.wait, fuse := R.fuse, count := R.count, off := R.off }

/-- Writing where there is. -/
theorem write_yes (hD : D.files = A ++ f :: B) (hr : Rising D.files) (ho : D.off = false) {a : Nat} {t : List UInt8} (hm : a + t.length ≤ 2097152) (hf : ¬ (t ≠ [] ∧ D.free < (secs (a + t.length) : Int) - f.takes)) :
    D.write f.name (a : Int) t = (downE (wr t.length f.id a t ⟨f.seen, D.wait, D.fuse, D.count, false⟩).off, D.wrote A f B (wr t.length f.id a t ⟨f.seen, D.wait, D.fuse, D.count, false⟩)) := by
  unfold DD.write
  rw [if_neg (by rw [ho]; decide), (mid_of hD hr).2, (mid_of hD hr).1]
  dsimp only
  rw [if_neg (by rw [cmpS_refl]; decide), if_neg (by omega), Int.toNat_natCast, if_neg hf]
  rfl

/-- A new file. -/
theorem create_new (ho : D.off = false) {name : ByteArray} (hn : nameB name = true) (hno : ∀ g ∈ D.files, g.name ≠ name) :
    ∃ A B, D.files = A ++ B ∧ D.create name = (0, { D with files := A ++ (⟨D.made, name, [], []⟩ : DF) :: B, made := D.made + 1 }) := by
  refine ⟨ahead name D.files, behind name D.files, (ahead_behind _ _).symm, ?_⟩
  unfold DD.create
  have hh : isHead name (behind name D.files) = false := by
    cases hb : behind name D.files with
    | nil => rfl
    | cons g r =>
      have hg : g ∈ D.files := by rw [← ahead_behind name D.files, hb]; simp
      exact decide_eq_false fun e => hno g hg (cmpS_eq e)
  rw [if_neg (by rw [ho]; decide), if_neg (by rw [hn]; decide), if_neg (by rw [hh]; decide)]

end

/-! ### Bytes, read anywhere -/

theorem ext_get {a b : List UInt8} (hl : a.length = b.length) (h : ∀ i, a.getD i 0 = b.getD i 0) : a = b := by
  refine List.ext_getElem hl fun i h1 h2 => ?_
  have := h i
  rw [List.getD_eq_getElem?_getD, List.getD_eq_getElem?_getD, List.getElem?_eq_getElem h1, List.getElem?_eq_getElem h2] at this
  exact this

theorem get_past {a : List UInt8} {i : Nat} (h : a.length ≤ i) : a.getD i 0 = 0 := by
  rw [List.getD_eq_getElem?_getD, List.getElem?_eq_none h]; rfl

theorem get_append (a b : List UInt8) (i : Nat) : (a ++ b).getD i 0 = if i < a.length then a.getD i 0 else b.getD (i - a.length) 0 := by
  simp only [List.getD_eq_getElem?_getD]
  split
  · rename_i h; rw [List.getElem?_append_left h]
  · rename_i h; rw [List.getElem?_append_right (by omega)]

theorem get_zeros (n i : Nat) : (List.replicate n (0 : UInt8)).getD i 0 = 0 := by
  rw [List.getD_eq_getElem?_getD]
  by_cases h : i < n
  · rw [List.getElem?_replicate_of_lt h]; rfl
  · rw [List.getElem?_eq_none (by rw [List.length_replicate]; omega)]; rfl

theorem get_take (a : List UInt8) (n i : Nat) : (a.take n).getD i 0 = if i < n then a.getD i 0 else 0 := by
  simp only [List.getD_eq_getElem?_getD, List.getElem?_take]
  split <;> rfl

theorem get_drop (a : List UInt8) (n i : Nat) : (a.drop n).getD i 0 = a.getD (n + i) 0 := by
  simp only [List.getD_eq_getElem?_getD, List.getElem?_drop]

theorem get_over {l t : List UInt8} {k : Nat} (h : k + t.length ≤ l.length) (i : Nat) : (over l k t).getD i 0 = if k ≤ i ∧ i < k + t.length then t.getD (i - k) 0 else l.getD i 0 := by
  unfold over
  rw [List.append_assoc, get_append, get_append, get_take, get_drop, List.length_take, Nat.min_eq_left (by omega)]
  by_cases h1 : i < k
  · rw [if_pos h1, if_pos h1, if_neg (by omega)]
  · rw [if_neg h1]
    by_cases h2 : i - k < t.length
    · rw [if_pos h2, if_pos (by omega)]
    · rw [if_neg h2, if_neg (by omega)]
      congr 1
      omega

theorem get_lay (l : List UInt8) (p : DW) (i : Nat) : (lay l p).getD i 0 = if p.at_ ≤ i ∧ i < p.at_ + p.text.length then p.text.getD (i - p.at_) 0 else l.getD i 0 := by
  unfold lay
  rw [get_over (by rw [List.length_append, List.length_replicate]; omega), get_append, get_zeros]
  split
  · rfl
  · split
    · rfl
    · rename_i h; rw [get_past (by omega)]

theorem get_layk (l u : List UInt8) (k i : Nat) : (layk l k u).getD i 0 = if k ≤ i ∧ i < k + u.length then u.getD (i - k) 0 else l.getD i 0 := by
  unfold layk
  split
  · rw [if_neg (by omega)]
  · exact get_lay l ⟨0, k, u⟩ i

theorem get_lays : ∀ (k : Nat) (id : Int) (at_ : Nat) (t l : List UInt8) (i : Nat), t.length ≤ k → ((pcs k id at_ t).foldl lay l).getD i 0 = if at_ ≤ i ∧ i < at_ + t.length then t.getD (i - at_) 0 else l.getD i 0
  | 0, id, at_, t, l, i, h => by
    have : t = [] := List.eq_nil_of_length_eq_zero (by omega)
    subst this
    rw [pcs, List.foldl_nil, if_neg (by simp only [List.length_nil]; omega)]
  | k + 1, id, at_, t, l, i, h => by
    by_cases ht : t = []
    · subst ht
      rw [pcs, if_pos rfl, List.foldl_nil, if_neg (by simp only [List.length_nil]; omega)]
    · have hp := pieceLen_pos (at_ := at_) (List.length_pos_iff.2 ht)
      have hp' := pieceLen_le at_ t.length
      rw [pcs, if_neg ht, List.foldl_cons, get_lays k _ _ _ _ _ (by rw [List.length_drop]; omega), get_lay, get_drop]
      dsimp only
      rw [List.length_drop, List.length_take, get_take]
      by_cases h1 : at_ + pieceLen at_ t.length ≤ i ∧ i < at_ + pieceLen at_ t.length + (t.length - pieceLen at_ t.length)
      · rw [if_pos h1, if_pos (by omega)]
        congr 1
        omega
      · rw [if_neg h1]
        by_cases h2 : at_ ≤ i ∧ i < at_ + min (pieceLen at_ t.length) t.length
        · rw [if_pos h2, if_pos (by omega), if_pos (by omega)]
        · rw [if_neg h2, if_neg (by omega)]

/-! ### Bytes with noughts behind -/

def pad (T : List UInt8) (n : Nat) : List UInt8 := T ++ List.replicate (n - T.length) 0

theorem pad_length (T : List UInt8) (n : Nat) : (pad T n).length = max T.length n := by unfold pad; rw [List.length_append, List.length_replicate]; omega
theorem get_pad (T : List UInt8) (n i : Nat) : (pad T n).getD i 0 = T.getD i 0 := by
  unfold pad
  rw [get_append, get_zeros]
  split
  · rfl
  · rename_i h; rw [get_past (by omega)]

theorem lay_pad (T u : List UInt8) (n : Nat) (id : Int) : lay (pad T n) ⟨id, T.length, u⟩ = pad (T ++ u) n := by
  refine ext_get ?_ fun i => ?_
  · rw [lay_length, pad_length, pad_length, List.length_append]; dsimp only; omega
  · rw [get_lay, get_pad, get_pad, get_append]
    dsimp only
    by_cases h1 : i < T.length
    · rw [if_neg (by omega), if_pos h1]
    · rw [if_neg h1]
      split
      · rfl
      · rw [get_past (by omega), get_past (by omega)]

/-- Pieces laid at the end, where there are noughts. -/
theorem lays_pad (n : Nat) : ∀ (k : Nat) (id : Int) (t T : List UInt8), t.length ≤ k → (pcs k id T.length t).foldl lay (pad T n) = pad (T ++ t) n
  | 0, _, t, T, h => by
    have : t = [] := List.eq_nil_of_length_eq_zero (by omega)
    simp [pcs, this]
  | k + 1, id, t, T, h => by
    by_cases ht : t = []
    · simp [pcs, ht]
    · have hp := pieceLen_pos (at_ := T.length) (List.length_pos_iff.2 ht)
      have hp' := pieceLen_le T.length t.length
      have e : (T ++ t.take (pieceLen T.length t.length)).length = T.length + pieceLen T.length t.length := by rw [List.length_append, List.length_take]; omega
      rw [pcs, if_neg ht, List.foldl_cons, lay_pad, ← e, lays_pad n k id _ _ (by rw [List.length_drop]; omega), List.append_assoc, List.take_append_drop]

/-- The pieces of writes, each behind the one ahead. -/
def wpcs (id : Int) : Nat → List (List UInt8) → List DW
  | _, [] => []
  | a, t :: ts => pcs t.length id a t ++ wpcs id (a + t.length) ts

theorem wpcs_snoc (id : Int) : ∀ (ts : List (List UInt8)) (a : Nat) (t : List UInt8), wpcs id a (ts ++ [t]) = wpcs id a ts ++ pcs t.length id (a + ts.flatten.length) t
  | [], a, t => by simp [wpcs]
  | u :: ts, a, t => by
    rw [List.cons_append, wpcs, wpcs, wpcs_snoc id ts (a + u.length) t, List.append_assoc, List.flatten_cons, List.length_append, Nat.add_assoc]

theorem wpcs_id (id : Int) : ∀ (ts : List (List UInt8)) (a : Nat), ∀ p ∈ wpcs id a ts, p.id = id
  | [], _, p, h => by cases h
  | t :: ts, a, p, h => by
    rcases List.mem_append.1 h with h | h
    · exact (pcs_ok _ _ _ _ p h).1
    · exact wpcs_id id ts _ p h

theorem wsync (n : Nat) : ∀ (ts : List (List UInt8)) (T : List UInt8) (f : DF), f.last = pad T n → syncF (wpcs f.id T.length ts) f = { f with last := pad (T ++ ts.flatten) n }
  | [], T, f, h => by
    simp only [wpcs, syncF, List.foldl_nil, List.flatten_nil, List.append_nil]
    rw [← h]
  | t :: ts, T, f, h => by
    have e := sync_pcs t.length T.length t f (Nat.le_refl _)
    rw [h, lays_pad n _ _ _ _ (Nat.le_refl _)] at e
    unfold syncF at e ⊢
    rw [wpcs, List.foldl_append, e]
    have ih := wsync n ts (T ++ t) { f with last := pad (T ++ t) n } rfl
    unfold syncF at ih
    rw [List.length_append] at ih
    rw [ih, List.flatten_cons, List.append_assoc]

end Go.X

/-! What a write takes; what lasts of pieces that waited. -/
namespace Go.X

/-- A write: all of its pieces are taken, or the power goes. -/
theorem wr_cases : ∀ (k : Nat) (id : Int) (at_ : Nat) (t : List UInt8) (S : WS), t.length ≤ k → S.off = false → -1 ≤ S.fuse →
    -1 ≤ (wr k id at_ t S).fuse ∧ (wr k id at_ t S).fuse ≤ S.fuse ∧ S.count ≤ (wr k id at_ t S).count ∧ (S.fuse = -1 → (wr k id at_ t S).off = false ∧ (wr k id at_ t S).fuse = -1) ∧
    (((wr k id at_ t S).off = false ∧ (wr k id at_ t S).seen = (pcs k id at_ t).foldl lay S.seen ∧ (wr k id at_ t S).wait = S.wait ++ pcs k id at_ t) ∨
     ((wr k id at_ t S).off = true ∧ ∃ n, (wr k id at_ t S).seen = ((pcs k id at_ t).take n).foldl lay S.seen ∧ (wr k id at_ t S).wait = S.wait ++ (pcs k id at_ t).take n))
  | 0, id, at_, t, S, h, ho, hf => by
    have : t = [] := List.eq_nil_of_length_eq_zero (by omega)
    subst this
    simp [wr, pcs, ho, hf]
  | k + 1, id, at_, t, S, h, ho, hf => by
    by_cases ht : t = []
    · simp [wr, pcs, ht, ho, hf]
    · have hl0 : 0 < t.length := List.length_pos_iff.2 ht
      have hpp := pieceLen_pos (at_ := at_) hl0
      have hp : pcs (k + 1) id at_ t = ⟨id, at_, t.take (pieceLen at_ t.length)⟩ :: pcs k id (at_ + pieceLen at_ t.length) (t.drop (pieceLen at_ t.length)) := by rw [pcs, if_neg ht]
      by_cases h0 : S.fuse = 0
      · rw [wr, if_neg ht, if_pos h0]
        refine ⟨hf, Int.le_refl _, Int.le_refl _, fun e => ?_, .inr ⟨rfl, 0, by simp, by simp⟩⟩
        have e : S.fuse = -1 := e
        omega
      · have hb : -1 ≤ burn S.fuse ∧ burn S.fuse ≤ S.fuse := by unfold burn; split <;> omega
        obtain ⟨g1, g2, g3, g4, g5⟩ := wr_cases k id (at_ + pieceLen at_ t.length) (t.drop (pieceLen at_ t.length)) (wstep id at_ (t.take (pieceLen at_ t.length)) S) (by rw [List.length_drop]; omega) ho hb.1
        rw [wr, if_neg ht, if_neg h0, hp]
        refine ⟨g1, Int.le_trans g2 hb.2, Int.le_trans ?_ g3, fun e => g4 ?_, ?_⟩
        · show S.count ≤ S.count + 1
          omega
        · show burn S.fuse = -1
          have e : S.fuse = -1 := e
          rw [burn_neg (by omega), e]
        · rcases g5 with ⟨a1, a2, a3⟩ | ⟨a1, n, a2, a3⟩
          · refine .inl ⟨a1, ?_, ?_⟩
            · rw [a2]; rfl
            · rw [a3]; simp [wstep]
          · refine .inr ⟨a1, n + 1, ?_, ?_⟩
            · rw [a2, List.take_succ_cons]; rfl
            · rw [a3, List.take_succ_cons]; simp [wstep]

/-! ### What lasts -/

/-- Pieces, and how much of each lasts, laid. -/
def keeps : List (DW × Nat) → List UInt8 → List UInt8
  | [], l => l
  | (p, n) :: qs, l => keeps qs (layk l p.at_ (p.text.take n))

/-- Of a piece nothing lasts, its first half, or all of it. -/
def KeptOk (q : DW × Nat) : Prop := q.2 = 0 ∨ q.2 = q.1.text.length / 2 ∨ q.2 = q.1.text.length

theorem keptLen_ok (x : Option Int) (p : DW) : KeptOk (p, keptLen x p.text.length) := by
  unfold KeptOk keptLen
  dsimp only
  split
  · exact .inr (.inl rfl)
  · split
    · exact .inr (.inr rfl)
    · exact .inl rfl

theorem fateF_other {x : Int} {p : DW} {f : DF} (h : f.id ≠ p.id) : fateF x p f = f := by
  rw [fateF_kept, lastF_none (fun e => h e.1)]

/-- What the fates make of a file's bytes: of each of its own pieces a part lasts. -/
theorem fates_keeps (id : Int) : ∀ (ps : List DW) (xs : List Int) (f : DF), f.id = id →
    ∃ qs : List (DW × Nat), qs.map (·.1) = ps.filter (fun p => p.id == id) ∧ (∀ q ∈ qs, KeptOk q) ∧ (fatesF (ps.zip xs) f).last = keeps qs f.last
  | [], xs, f, h => ⟨[], rfl, (fun q h => by cases h), rfl⟩
  | p :: ps, xs, f, h => by
    cases xs with
    | nil =>
      refine ⟨((p :: ps).filter (fun p => p.id == id)).map fun p => (p, 0), by rw [List.map_map]; exact List.map_id' _, fun q hq => ?_, ?_⟩
      · obtain ⟨p', _, rfl⟩ := List.mem_map.1 hq
        exact .inl rfl
      · have key : ∀ (l : List DW) (b : List UInt8), keeps (l.map fun p => (p, 0)) b = b := by
          intro l
          induction l with
          | nil => intro b; rfl
          | cons p l ih => intro b; rw [List.map_cons, keeps, List.take_zero]; exact ih b
        rw [key, List.zip_nil_right]
        rfl
    | cons x xs =>
      obtain ⟨qs, h1, h2, h3⟩ := fates_keeps id ps xs (fateF x p f) (by rw [fateF_id]; exact h)
      by_cases hp : p.id = id
      · refine ⟨(p, keptLen (some x) p.text.length) :: qs, ?_, fun q hq => ?_, ?_⟩
        · rw [List.map_cons, h1, List.filter_cons, if_pos (by simpa using hp)]
        · rcases List.mem_cons.1 hq with rfl | hq
          · exact keptLen_ok _ _
          · exact h2 q hq
        · show (fatesF (ps.zip xs) (fateF x p f)).last = _
          rw [h3, keeps, fateF_last (by rw [h, hp])]
      · refine ⟨qs, ?_, h2, ?_⟩
        · rw [h1, List.filter_cons, if_neg (by simpa using hp)]
        · show (fatesF (ps.zip xs) (fateF x p f)).last = _
          rw [h3, fateF_other (by rw [h]; exact fun e => hp e.symm)]

/-- Nothing lasts of what nobody kept. -/
theorem fates_none (ps : List DW) (f : DF) : fatesF (ps.zip []) f = f := by rw [List.zip_nil_right]; rfl

/-! ### Masks -/

/-- Where the half of a sector's piece of a write from a to b ends. -/
def hw (a b q : Nat) : Nat := max a (64 * q) + (min b (64 * q + 64) - max a (64 * q)) / 2

/-- Where what is kept may end, within a write. -/
def CutsOk (κ : Nat → Bool) (a b : Nat) : Prop := ∀ c, a < c → c < b → κ (c - 1) ≠ κ c → c % 64 = 0 ∨ c = hw a b (c / 64)

/-- What lasts of one write's pieces. -/
theorem mask_one (a0 b : Nat) (id : Int) : ∀ (k : Nat) (at_ : Nat) (t : List UInt8) (qs : List (DW × Nat)) (l : List UInt8) (n : Nat), t.length ≤ k → at_ + t.length = b → a0 ≤ at_ → (t = [] ∨ at_ = a0 ∨ at_ % 64 = 0) →
    qs.map (·.1) = (pcs k id at_ t).take n → (∀ q ∈ qs, KeptOk q) →
    ∃ κ : Nat → Bool, (∀ i, κ i = true → at_ ≤ i ∧ i < b) ∧ (∀ i, (keeps qs l).getD i 0 = if κ i then t.getD (i - at_) 0 else l.getD i 0) ∧
      (∀ c, at_ < c → c < b → κ (c - 1) ≠ κ c → c % 64 = 0 ∨ c = hw a0 b (c / 64)) ∧ l.length ≤ (keeps qs l).length ∧ (keeps qs l).length ≤ max l.length b
  | 0, at_, t, qs, l, n, hk, hb, _, _, hq, _ => by
    have : qs = [] := by
      have := congrArg List.length hq
      simp [pcs] at this
      exact this
    subst this
    exact ⟨fun _ => false, by simp, by simp [keeps], by simp, Nat.le_refl _, by simp only [keeps]; omega⟩
  | k + 1, at_, t, qs, l, n, hk, hb, ha, hat, hq, hok => by
    have none : qs = [] → ∃ κ : Nat → Bool, (∀ i, κ i = true → at_ ≤ i ∧ i < b) ∧ (∀ i, (keeps qs l).getD i 0 = if κ i then t.getD (i - at_) 0 else l.getD i 0) ∧
      (∀ c, at_ < c → c < b → κ (c - 1) ≠ κ c → c % 64 = 0 ∨ c = hw a0 b (c / 64)) ∧ l.length ≤ (keeps qs l).length ∧ (keeps qs l).length ≤ max l.length b := by
      rintro rfl
      exact ⟨fun _ => false, by simp, by simp [keeps], by simp, Nat.le_refl _, by simp only [keeps]; omega⟩
    by_cases ht : t = []
    · refine none ?_
      have := congrArg List.length hq
      simp [pcs, ht] at this
      exact this
    cases n with
    | zero =>
      refine none ?_
      have := congrArg List.length hq
      simp at this
      exact this
    | succ n =>
      have hl0 : 0 < t.length := List.length_pos_iff.2 ht
      have hpp := pieceLen_pos (at_ := at_) hl0
      have hpl := pieceLen_le at_ t.length
      have hpd : pieceLen at_ t.length = min t.length (64 - at_ % 64) := rfl
      obtain ⟨m, hm⟩ : ∃ m, pieceLen at_ t.length = m := ⟨_, rfl⟩
      rw [pcs, if_neg ht, List.take_succ_cons] at hq
      cases qs with
      | nil => cases hq
      | cons q qs =>
        obtain ⟨p, K⟩ := q
        rw [List.map_cons, List.cons.injEq] at hq
        obtain ⟨hp, hq⟩ := hq
        dsimp only at hp
        subst hp
        rw [hm] at hq hpp hpl hpd
        have hK := hok _ List.mem_cons_self
        have hKm : K ≤ m ∧ (K = 0 ∨ K = m / 2 ∨ K = m) := by
          have e : (t.take m).length = m := by rw [List.length_take]; omega
          unfold KeptOk at hK
          dsimp only at hK
          rw [hm, e] at hK
          exact ⟨by omega, hK⟩
        have hat := hat.resolve_left ht
        obtain ⟨u, hu⟩ : ∃ u, (t.take m).take K = u := ⟨_, rfl⟩
        have hul : u.length = K := by rw [← hu, List.length_take, List.length_take]; omega
        have hug : ∀ j, j < K → u.getD j 0 = t.getD j 0 := by
          intro j hj
          rw [← hu, get_take, if_pos hj, get_take, if_pos (by omega)]
        obtain ⟨κ, k1, k2, k3, k4, k5⟩ := mask_one a0 b id k (at_ + m) (t.drop m) qs (layk l at_ u) n (by rw [List.length_drop]; omega) (by rw [List.length_drop]; omega) (by omega) (by
          by_cases hmt : m = t.length
          · left
            rw [hmt, List.drop_length]
          · right; right; omega) hq (fun q h => hok q (List.mem_cons_of_mem _ h))
        have hlk := layk_length l u at_
        refine ⟨fun i => κ i || (decide (at_ ≤ i) && decide (i < at_ + K)), fun i hi => ?_, fun i => ?_, fun c h1 h2 hne => ?_, ?_, ?_⟩
        · dsimp only at hi
          rw [Bool.or_eq_true, Bool.and_eq_true, decide_eq_true_eq, decide_eq_true_eq] at hi
          rcases hi with hi | hi
          · have := k1 i hi; omega
          · omega
        · rw [keeps, hm, hu, k2, get_layk, hul]
          dsimp only
          have hor : (κ i || (decide (at_ ≤ i) && decide (i < at_ + K))) = true ↔ κ i = true ∨ at_ ≤ i ∧ i < at_ + K := by
            rw [Bool.or_eq_true, Bool.and_eq_true, decide_eq_true_eq, decide_eq_true_eq]
          by_cases hκ : κ i = true
          · have := k1 i hκ
            rw [if_pos hκ, if_pos (hor.2 (.inl hκ)), get_drop]
            congr 1
            omega
          · rw [if_neg hκ]
            by_cases hi : at_ ≤ i ∧ i < at_ + K
            · rw [if_pos hi, if_pos (hor.2 (.inr hi)), hug _ (by omega)]
            · rw [if_neg hi, if_neg fun h => (hor.1 h).elim hκ hi]
        · dsimp only at hne
          have hf : ∀ i, i < at_ + m → κ i = false := by
            intro i hi
            by_cases hκ : κ i = true
            · have := k1 i hκ; omega
            · simpa using hκ
          rcases Nat.lt_trichotomy c (at_ + m) with hc | hc | hc
          · right
            rw [hf c hc, hf (c - 1) (by omega), Bool.false_or, Bool.false_or] at hne
            have hce : c = at_ + K := by
              by_cases e1 : c < at_ + K
              · exfalso; apply hne
                rw [decide_eq_true (show at_ ≤ c - 1 by omega), decide_eq_true (show c - 1 < at_ + K by omega), decide_eq_true (show at_ ≤ c by omega), decide_eq_true e1]
              · by_cases e2 : c = at_ + K
                · exact e2
                · exfalso; apply hne
                  rw [decide_eq_false (show ¬ c - 1 < at_ + K by omega), decide_eq_false (show ¬ c < at_ + K by omega), Bool.and_false, Bool.and_false]
            have hK2 : K = m / 2 := by omega
            unfold hw
            have hq1 : c / 64 = at_ / 64 := by omega
            rw [hq1]
            have e1 : max a0 (64 * (at_ / 64)) = at_ := by omega
            have e2 : min b (64 * (at_ / 64) + 64) = at_ + m := by omega
            rw [e1, e2]
            omega
          · left; omega
          · refine k3 c hc h2 fun e => hne ?_
            have n1 : ¬ c - 1 < at_ + K := by omega
            have n2 : ¬ c < at_ + K := by omega
            rw [e, decide_eq_false n1, decide_eq_false n2, Bool.and_false, Bool.and_false]
        · rw [keeps, hm, hu]
          show l.length ≤ (keeps qs (layk l at_ u)).length
          split at hlk <;> omega
        · rw [keeps, hm, hu]
          show (keeps qs (layk l at_ u)).length ≤ _
          split at hlk <;> omega

theorem keeps_append : ∀ (a b : List (DW × Nat)) (l : List UInt8), keeps (a ++ b) l = keeps b (keeps a l)
  | [], b, l => rfl
  | (p, n) :: a, b, l => by rw [List.cons_append, keeps, keeps, keeps_append]

/-- What lasts of several writes' pieces, each write behind the one ahead. -/
theorem mask_many (id : Int) : ∀ (ts : List (List UInt8)) (a : Nat) (qs : List (DW × Nat)) (l : List UInt8) (n : Nat), qs.map (·.1) = (wpcs id a ts).take n → (∀ q ∈ qs, KeptOk q) →
    ∃ κ : Nat → Bool, (∀ i, κ i = true → a ≤ i ∧ i < a + ts.flatten.length) ∧ (∀ i, (keeps qs l).getD i 0 = if κ i then ts.flatten.getD (i - a) 0 else l.getD i 0) ∧
      (∀ pre t post, ts = pre ++ t :: post → CutsOk κ (a + pre.flatten.length) (a + pre.flatten.length + t.length)) ∧ l.length ≤ (keeps qs l).length ∧ (keeps qs l).length ≤ max l.length (a + ts.flatten.length)
  | [], a, qs, l, n, hq, _ => by
    have : qs = [] := by
      have := congrArg List.length hq
      simp [wpcs] at this
      exact this
    subst this
    refine ⟨fun _ => false, by simp, by simp [keeps], fun pre t post e => ?_, Nat.le_refl _, by simp only [keeps]; omega⟩
    have := congrArg List.length e
    simp at this
  | t :: ts, a, qs, l, n, hq, hok => by
    rw [wpcs, List.take_append] at hq
    obtain ⟨q1, q2, rfl, e1, e2⟩ := List.map_eq_append_iff.1 hq
    obtain ⟨κ1, k1, k2, k3, k4, k5⟩ := mask_one a (a + t.length) id t.length a t q1 l n (Nat.le_refl _) rfl (Nat.le_refl _) (.inr (.inl rfl)) e1 fun q h => hok q (List.mem_append_left _ h)
    obtain ⟨κ2, g1, g2, g3, g4, g5⟩ := mask_many id ts (a + t.length) q2 (keeps q1 l) _ e2 fun q h => hok q (List.mem_append_right _ h)
    have hfl : (t :: ts).flatten.length = t.length + ts.flatten.length := by rw [List.flatten_cons, List.length_append]
    have f1 : ∀ i, a + t.length ≤ i → κ1 i = false := fun i hi => by
      by_cases hκ : κ1 i = true
      · have := k1 i hκ; omega
      · simpa using hκ
    have f2 : ∀ i, i < a + t.length → κ2 i = false := fun i hi => by
      by_cases hκ : κ2 i = true
      · have := g1 i hκ; omega
      · simpa using hκ
    refine ⟨fun i => κ1 i || κ2 i, fun i hi => ?_, fun i => ?_, fun pre u post e => ?_, ?_, ?_⟩
    · dsimp only at hi
      rw [Bool.or_eq_true] at hi
      rw [hfl]
      rcases hi with hi | hi
      · have := k1 i hi; omega
      · have := g1 i hi; omega
    · rw [keeps_append, g2, k2, List.flatten_cons, get_append]
      dsimp only
      by_cases h2 : κ2 i = true
      · have := g1 i h2
        rw [if_pos h2, if_pos (by rw [h2, Bool.or_true]), if_neg (by omega)]
        congr 1
        omega
      · rw [if_neg h2]
        by_cases h1 : κ1 i = true
        · have := k1 i h1
          rw [if_pos h1, if_pos (by rw [h1, Bool.true_or]), if_pos (by omega)]
        · rw [if_neg h1, if_neg (by rw [Bool.or_eq_true]; exact fun h => h.elim h1 h2)]
    · intro c c1 c2 hne
      dsimp only at hne
      cases pre with
      | nil =>
        simp only [List.nil_append, List.cons.injEq] at e
        obtain ⟨rfl, rfl⟩ := e
        simp only [List.flatten_nil, List.length_nil, Nat.add_zero] at c1 c2 ⊢
        refine k3 c c1 c2 fun e => hne ?_
        rw [e, f2 c c2, f2 (c - 1) (by omega)]
      | cons v pre =>
        simp only [List.cons_append, List.cons.injEq] at e
        obtain ⟨rfl, rfl⟩ := e
        rw [List.flatten_cons, List.length_append, ← Nat.add_assoc] at c1 c2 ⊢
        refine g3 pre u post rfl c c1 c2 fun e => hne ?_
        rw [e, f1 c (by omega), f1 (c - 1) (by omega)]
    · rw [keeps_append]; omega
    · rw [keeps_append, hfl]; omega

/-! ### Marks of which a part lasts -/

theorem get_mark (n i : Nat) (h : i < 32) : (markN n).getD i 0 = UInt8.ofNat (n / 2 ^ (8 * (i % 8))) := by
  unfold markN
  rw [List.getD_eq_getElem?_getD, List.getElem?_map, List.getElem?_range h]
  rfl

theorem u8_inj {a b : Nat} (ha : a < 256) (hb : b < 256) (h : UInt8.ofNat a = UInt8.ofNat b) : a = b := by
  have := congrArg UInt8.toNat h
  rw [UInt8.toNat_ofNat', UInt8.toNat_ofNat'] at this
  omega

theorem u8_eq {a b : Nat} (h : UInt8.ofNat a = UInt8.ofNat b) : a % 256 = b % 256 := by
  have := congrArg UInt8.toNat h
  rwa [UInt8.toNat_ofNat', UInt8.toNat_ofNat'] at this

/-- A number's mark of which a part lasts is that number's, or no number's, but where it is cut in each of its four parts. -/
theorem mark_torn {k n : Nat} (κ : Nat → Bool) (hk : k < 65536) (hn : n < 65536) (h0 : n ≠ 0) (h : ∀ i, i < 32 → (markN n).getD i 0 = if κ i then (markN k).getD i 0 else 0) : n = k ∨ ∀ j, j < 4 → κ (8 * j) ≠ κ (8 * j + 1) := by
  by_cases hnk : n = k
  · exact .inl hnk
  refine .inr fun j hj e => ?_
  have a0 := h (8 * j) (by omega)
  have a1 := h (8 * j + 1) (by omega)
  rw [get_mark _ _ (by omega), get_mark _ _ (by omega), show 8 * j % 8 = 0 by omega] at a0
  rw [get_mark _ _ (by omega), get_mark _ _ (by omega), show (8 * j + 1) % 8 = 1 by omega] at a1
  rw [e] at a0
  by_cases hκ : κ (8 * j + 1) = true
  · rw [if_pos hκ] at a0 a1
    have b0 := u8_eq a0
    have b1 := u8_eq a1
    omega
  · rw [if_neg hκ] at a0 a1
    have b0 := u8_eq (b := 0) a0
    have b1 := u8_eq (b := 0) a1
    omega

/-- Where a wipe's pieces end is as where a write's do. All four cuts can't be. -/
theorem four_cuts {r a b E : Nat} (ha : a ≤ r) (hb : r + 37 ≤ b) (hE : r + 37 ≤ E) : ¬ ∀ j, j < 4 → (r + 5 + 8 * j) % 64 = 0 ∨ r + 5 + 8 * j = hw a b ((r + 5 + 8 * j) / 64) ∨ r + 5 + 8 * j = hw r E ((r + 5 + 8 * j) / 64) := by
  intro h
  have h0 := h 0 (by omega)
  have h1 := h 1 (by omega)
  have h2 := h 2 (by omega)
  have h3 := h 3 (by omega)
  clear h
  unfold hw at h0 h1 h2 h3
  simp only [Nat.mul_zero, Nat.add_zero, Nat.mul_one, Nat.reduceMul] at h0 h1 h2 h3
  obtain ⟨q, hq⟩ : ∃ q, (r + 5) / 64 = q := ⟨_, rfl⟩
  have c1 : (r + 5 + 8) / 64 = q ∨ (r + 5 + 8) / 64 = q + 1 := by omega
  have c2 : (r + 5 + 16) / 64 = q ∨ (r + 5 + 16) / 64 = q + 1 := by omega
  have c3 : (r + 5 + 24) / 64 = q ∨ (r + 5 + 24) / 64 = q + 1 := by omega
  rw [hq] at h0
  rcases c1 with c1 | c1 <;> rcases c2 with c2 | c2 <;> rcases c3 with c3 | c3 <;> rw [c1] at h1 <;> rw [c2] at h2 <;> rw [c3] at h3 <;> omega

end Go.X

/-! Torn records, read. -/
namespace Go.X

theorem get_val4 (l : List UInt8) : val4 l = (l.getD 0 0).toNat + 256 * (l.getD 1 0).toNat + 65536 * (l.getD 2 0).toNat + 16777216 * (l.getD 3 0).toNat := rfl

theorem drop_split (l : List UInt8) (a n : Nat) : l.drop a = (l.drop a).take n ++ l.drop (a + n) := by
  have := List.take_append_drop n (l.drop a)
  rw [List.drop_drop] at this
  exact this.symm

/-- What a record that is read tells. -/
theorem nextB_tells {M : Bk} {all last s m : List UInt8} {a : Nat} (h : nextB M all a last = some (s, m)) :
    a + 36 + s.length ≤ all.length ∧ 1 ≤ s.length ∧ val4 ((all.drop a).take 4) = s.length ∧ m = (all.drop (a + 4)).take 32 ∧ s = (all.drop (a + 36)).take s.length ∧ ∃ n, numOf (last ++ s) M = some n ∧ markN n = m := by
  obtain ⟨h1, h2, h3, _⟩ := nextB_some h
  unfold nextB at h
  split at h
  · cases h
  · dsimp only at h
    split at h
    · cases h
    · rename_i hn
      split at h
      · rename_i his
        simp only [Option.some.injEq, Prod.mk.injEq] at h
        obtain ⟨hs, hm⟩ := h
        have hl : s.length = val4 ((all.drop a).take 4) := by
          rw [← hs, List.length_take, List.length_drop]; omega
        refine ⟨h3, h1, hl.symm, hm.symm, by rw [hl]; exact hs.symm, ?_⟩
        rw [hs, hm] at his
        unfold Bk.is at his
        cases hnum : numOf (last ++ s) M with
        | none => rw [hnum] at his; cases his
        | some n => rw [hnum] at his; exact ⟨n, rfl, of_decide_eq_true his⟩
      · cases h

theorem u8_ext {a b : UInt8} (h : a.toNat = b.toNat) : a = b := UInt8.toNat_inj.1 h

/-- A record of which a part lasts is that record, or none, but where its mark is cut four times. -/
theorem next_torn {M : Bk} {C T m s s' m' rest : List UInt8} {r k : Nat} {κ : Nat → Bool} (hC : ∀ i, r ≤ i → C.getD i 0 = if κ i then T.getD i 0 else 0) (hT : T.drop r = recK k s ++ rest) (hk : numOf (m ++ s) M = some k)
    (hsl : s.length ≤ 1048833) (hM : M.length < 65536) (hcut : ¬ ∀ j, j < 4 → κ (r + 5 + 8 * j - 1) ≠ κ (r + 5 + 8 * j)) (hn : nextB M C r m = some (s', m')) : s' = s ∧ m' = markN k ∧ ∃ rest', C.drop r = recK k s ++ rest' := by
  obtain ⟨h1, h2, h3, h4, h5, n, h6, h7⟩ := nextB_tells hn
  have hTg : ∀ i, T.getD (r + i) 0 = (recK k s ++ rest).getD i 0 := fun i => by rw [← get_drop, hT]
  have hrl := recK_length k s
  have hml := markN_length k
  have hTm : ∀ i, i < 32 → T.getD (r + 4 + i) 0 = (markN k).getD i 0 := by
    intro i hi
    rw [Nat.add_assoc, hTg, get_append, if_pos (by omega)]
    unfold recK
    rw [List.append_assoc, get_append, if_neg (by rw [four_length]; omega), four_length, get_append, hml, if_pos (by omega)]
    congr 1
    omega
  have hTf : ∀ i, i < 4 → T.getD (r + i) 0 = (four s.length).getD i 0 := by
    intro i hi
    rw [hTg, get_append, if_pos (by omega)]
    unfold recK
    rw [List.append_assoc, get_append, if_pos (by rw [four_length]; omega)]
  have hnk : n = k := by
    have := mark_torn (k := k) (n := n) (fun i => κ (r + 4 + i)) (by have := (numOf_some hk).2.1; omega) (by have := (numOf_some h6).2.1; omega) (by have := (numOf_some h6).1; omega) fun i hi => by
      rw [h7, h4, get_take, if_pos hi, get_drop, hC _ (by omega), hTm i hi]
    refine this.resolve_right fun h => hcut fun j hj => ?_
    have := h j hj
    rwa [show r + 5 + 8 * j - 1 = r + 4 + 8 * j by omega, show r + 5 + 8 * j = r + 4 + (8 * j + 1) by omega]
  subst hnk
  have hss : s' = s := List.append_cancel_left (numOf_inj h6 hk)
  subst hss
  refine ⟨rfl, h7.symm, C.drop (r + 36 + s'.length), ?_⟩
  have e4 : (C.drop r).take 4 = four s'.length := by
    refine ext_get (by rw [List.length_take, List.length_drop, four_length]; omega) fun i => ?_
    by_cases hi : i < 4
    · rw [get_take, if_pos hi, get_drop]
      have hv : val4 ((C.drop r).take 4) = val4 (four s'.length) := by rw [h3, val4_four _ (by omega)]
      have key : ∀ j, j < 4 → ((C.drop r).take 4).getD j 0 = (four s'.length).getD j 0 ∨ ((C.drop r).take 4).getD j 0 = 0 := by
        intro j hj
        rw [get_take, if_pos hj, get_drop, hC _ (by omega)]
        by_cases hκ : κ (r + j) = true
        · rw [if_pos hκ, hTf j hj]; exact .inl rfl
        · rw [if_neg hκ]; exact .inr rfl
      rw [get_val4, get_val4] at hv
      have tn : ∀ j, j < 4 → (((C.drop r).take 4).getD j 0).toNat = ((four s'.length).getD j 0).toNat ∨ (((C.drop r).take 4).getD j 0).toNat = 0 := by
        intro j hj
        rcases key j hj with e | e
        · left; rw [e]
        · right; rw [e]; rfl
      have t0 := tn 0 (by omega)
      have t1 := tn 1 (by omega)
      have t2 := tn 2 (by omega)
      have t3 := tn 3 (by omega)
      have all : ∀ j, j < 4 → (((C.drop r).take 4).getD j 0).toNat = ((four s'.length).getD j 0).toNat := by
        intro j hj
        match j, hj with
        | 0, _ => omega
        | 1, _ => omega
        | 2, _ => omega
        | 3, _ => omega
      have := u8_ext (all i hi)
      rwa [get_take, if_pos hi, get_drop] at this
    · rw [get_past (by rw [List.length_take]; omega), get_past (by rw [four_length]; omega)]
  have e32 : (C.drop (r + 4)).take 32 = markN n := by rw [← h4, h7]
  have d1 : C.drop r = four s'.length ++ C.drop (r + 4) := by rw [← e4]; exact drop_split C r 4
  have d2 : C.drop (r + 4) = markN n ++ C.drop (r + 36) := by rw [← e32]; exact drop_split C (r + 4) 32
  have d3 : C.drop (r + 36) = s' ++ C.drop (r + 36 + s'.length) := by
    have := drop_split C (r + 36) s'.length
    rwa [← h5] at this
  rw [d1, d2, d3]
  unfold recK
  simp only [List.append_assoc]

/-- Where noughts stand there is no record. -/
theorem nextB_nought {M : Bk} {C m : List UInt8} {r : Nat} (h : ∀ i, r ≤ i → C.getD i 0 = 0) : nextB M C r m = none := by
  cases hn : nextB M C r m with
  | none => rfl
  | some x =>
    obtain ⟨s, m'⟩ := x
    obtain ⟨_, h2, h3, _⟩ := nextB_tells hn
    rw [get_val4] at h3
    simp only [get_take, get_drop] at h3
    rw [h _ (by omega), h _ (by omega), h _ (by omega), h _ (by omega)] at h3
    have : s.length = 0 := by rw [← h3]; rfl
    omega

theorem nextB_short {M : Bk} {C m : List UInt8} {r : Nat} (h : C.length < r + 37) : nextB M C r m = none := by
  cases hn : nextB M C r m with
  | none => rfl
  | some x =>
    obtain ⟨s, m'⟩ := x
    obtain ⟨h1, h2, _⟩ := nextB_tells hn
    omega

/-- What stands at a place is no record, whatever parts of it go. -/
inductive Dead (M : Bk) (C : List UInt8) (r : Nat) (m : List UInt8) : Prop
  | zero : (∀ i, r ≤ i → C.getD i 0 = 0) → Dead M C r m
  | short : C.length < r + 37 → Dead M C r m
  | torn (κ : Nat → Bool) (T s rest : List UInt8) (a b k : Nat) : numOf (m ++ s) M = some k → 1 ≤ s.length → s.length ≤ 1048833 → (∀ i, r ≤ i → C.getD i 0 = if κ i then T.getD i 0 else 0) → T.drop r = recK k s ++ rest →
      a ≤ r → r + 37 ≤ b → (∀ c, r < c → c < r + 37 → κ (c - 1) ≠ κ c → c % 64 = 0 ∨ c = hw a b (c / 64) ∨ c = hw r C.length (c / 64)) → nextB M C r m = none → Dead M C r m

theorem Dead.none {M : Bk} {C m : List UInt8} {r : Nat} (h : Dead M C r m) : nextB M C r m = .none := by
  cases h with
  | zero h => exact nextB_nought h
  | short h => exact nextB_short h
  | torn κ T s rest a b k _ _ _ _ _ _ _ _ h => exact h

/-- A wipe of which a part lasts leaves it so. -/
theorem Dead.wipe {M : Bk} {C m : List UInt8} {r : Nat} (h : Dead M C r m) (hM : M.length < 65536) {id : Int} {qs : List (DW × Nat)} {n : Nat} (hr : r ≤ C.length) (hq : qs.map (·.1) = (pcs (C.length - r) id r (List.replicate (C.length - r) 0)).take n)
    (hok : ∀ q ∈ qs, KeptOk q) : Dead M (keeps qs C) r m ∧ (keeps qs C).take r = C.take r ∧ (keeps qs C).length = C.length ∧ ((∀ i, r ≤ i → C.getD i 0 = 0) → keeps qs C = C) := by
  obtain ⟨ζ, k1, k2, k3, k4, k5⟩ := mask_one r C.length id (C.length - r) r (List.replicate (C.length - r) 0) qs C n (by rw [List.length_replicate]; omega) (by rw [List.length_replicate]; omega) (Nat.le_refl _) (.inr (.inl rfl)) hq hok
  have hlen : (keeps qs C).length = C.length := by omega
  have hg : ∀ i, (keeps qs C).getD i 0 = if ζ i then 0 else C.getD i 0 := fun i => by rw [k2, get_zeros]
  refine ⟨?_, ?_, hlen, fun hz => ext_get hlen fun i => ?_⟩
  · cases h with
    | zero h =>
      refine .zero fun i hi => ?_
      rw [hg, h i hi]
      split <;> rfl
    | short h => exact .short (by omega)
    | torn κ T s rest a b k hk h1 h2 hC hT ha hb hcut hn =>
      by_cases hE : C.length < r + 37
      · exact .short (by omega)
      have hC' : ∀ i, r ≤ i → (keeps qs C).getD i 0 = if (κ i && !ζ i) then T.getD i 0 else 0 := by
        intro i hi
        rw [hg, hC i hi]
        by_cases hz : ζ i = true
        · rw [if_pos hz, if_neg (by rw [hz]; simp)]
        · rw [if_neg hz]
          by_cases hκ : κ i = true
          · rw [if_pos hκ, if_pos (by rw [hκ]; simpa using hz)]
          · rw [if_neg hκ, if_neg (by rw [Bool.and_eq_true]; exact fun h => hκ h.1)]
      have hcut' : ∀ c, r < c → c < r + 37 → (κ (c - 1) && !ζ (c - 1)) ≠ (κ c && !ζ c) → c % 64 = 0 ∨ c = hw a b (c / 64) ∨ c = hw r C.length (c / 64) := by
        intro c c1 c2 hne
        by_cases e : κ (c - 1) = κ c
        · by_cases e2 : ζ (c - 1) = ζ c
          · exact absurd (by rw [e, e2]) hne
          · rcases k3 c c1 (by omega) e2 with h | h
            · exact .inl h
            · exact .inr (.inr h)
        · exact hcut c c1 c2 e
      refine .torn (fun i => κ i && !ζ i) T s rest a b k hk h1 h2 hC' hT ha hb (by rw [hlen]; exact hcut') ?_
      cases hn' : nextB M (keeps qs C) r m with
      | none => rfl
      | some x =>
        exfalso
        obtain ⟨s', m'⟩ := x
        obtain ⟨_, _, rest', hd⟩ := next_torn hC' hT hk h2 hM (fun h => four_cuts ha hb (show r + 37 ≤ C.length by omega) fun j hj => hcut' _ (by omega) (by omega) (h j hj)) hn'
        have hrl := recK_length k s
        have hl : 36 + s.length + rest'.length = C.length - r := by
          have := congrArg List.length hd
          rw [List.length_drop, List.length_append, hrl, hlen] at this
          omega
        have hrec : C.drop r = recK k s ++ C.drop (r + (36 + s.length)) := by
          have : (C.drop r).take (36 + s.length) = recK k s := by
            refine ext_get (by rw [List.length_take, List.length_drop, hrl]; omega) fun i => ?_
            by_cases hi : i < 36 + s.length
            · have e1 : (keeps qs C).getD (r + i) 0 = (recK k s).getD i 0 := by
                rw [← get_drop, hd, get_append, if_pos (by omega)]
              have e2 : T.getD (r + i) 0 = (recK k s).getD i 0 := by
                rw [← get_drop, hT, get_append, if_pos (by omega)]
              rw [get_take, if_pos hi, get_drop, hC _ (by omega)]
              rw [hg, hC _ (by omega)] at e1
              by_cases hκ : κ (r + i) = true
              · rw [if_pos hκ, e2]
              · rw [if_neg hκ] at e1 ⊢
                rw [← e1]
                split <;> rfl
            · rw [get_past (by rw [List.length_take]; omega), get_past (by omega)]
          rw [← this, ← List.drop_drop]
          exact (List.take_append_drop _ _).symm
        have hit := nextB_hit (M := M) (pre := C.take r) (m := m) (s := s) (rest := C.drop (r + (36 + s.length))) hk h1 h2
        rw [← hrec, List.take_append_drop, List.length_take, Nat.min_eq_left hr, hn] at hit
        cases hit
  · refine ext_get (by rw [List.length_take, List.length_take, hlen]) fun i => ?_
    rw [get_take, get_take]
    by_cases hi : i < r
    · rw [if_pos hi, if_pos hi, hg]
      rw [if_neg]
      intro hz
      have := k1 i hz
      omega
    · rw [if_neg hi, if_neg hi]
  · rw [hg]
    by_cases hz' : ζ i = true
    · rw [if_pos hz', hz i (k1 i hz').1]
    · rw [if_neg hz']

/-! ### All that is read of a torn segment -/

/-- Records of one write, of which a part lasts: some are read, then none is. -/
theorem torn_one {M : Bk} {C T : List UInt8} {κ : Nat → Bool} {a b : Nat} (hM : M.length < 65536) (hC : ∀ i, C.getD i 0 = if κ i then T.getD i 0 else 0) (hcut : CutsOk κ a b) :
    ∀ {rs : List (List UInt8)} {m bs m1 : List UInt8} (pre : List UInt8) (rest : List UInt8), Enc M m rs bs m1 → T = pre ++ (bs ++ rest) → C.take pre.length = pre → a ≤ pre.length → pre.length + bs.length = b →
    (∃ rest', C = pre ++ (bs ++ rest')) ∨ ∃ rs1 rs2 b1 b2 m2, rs = rs1 ++ rs2 ∧ rs2 ≠ [] ∧ bs = b1 ++ b2 ∧ Enc M m rs1 b1 m2 ∧ Enc M m2 rs2 b2 m1 ∧ (∃ rest', C = pre ++ (b1 ++ rest')) ∧ Dead M C (pre.length + b1.length) m2
  | [], m, bs, m1, pre, rest, h, hT, hp, _, _ => by
    cases h
    exact .inl ⟨C.drop pre.length, by rw [List.nil_append]; conv => rhs; arg 1; rw [← hp]
                                      exact (List.take_append_drop _ _).symm⟩
  | s :: rs, m, bs, m1, pre, rest, h, hT, hp, ha, hb => by
    cases h with
    | cons hk h1 h2 h3 =>
      rename_i bs k
      have hrl := recK_length k s
      have hTd : T.drop pre.length = recK k s ++ (bs ++ rest) := by rw [hT, List.drop_left, List.append_assoc]
      have hrb : pre.length + 37 ≤ b := by rw [← hb, List.length_append, hrl]; omega
      cases hn : nextB M C pre.length m with
      | none =>
        refine .inr ⟨[], s :: rs, [], recK k s ++ bs, m, rfl, by simp, rfl, .nil m, .cons hk h1 h2 h3, ⟨C.drop pre.length, ?_⟩, ?_⟩
        · rw [List.nil_append]; conv => rhs; arg 1; rw [← hp]
          exact (List.take_append_drop _ _).symm
        · rw [List.length_nil, Nat.add_zero]
          refine .torn κ T s (bs ++ rest) a b k hk h1 h2 (fun i _ => hC i) hTd ha hrb (fun c c1 c2 hne => ?_) hn
          rcases hcut c (by omega) (by omega) hne with h | h
          · exact .inl h
          · exact .inr (.inl h)
      | some x =>
        obtain ⟨s', m'⟩ := x
        obtain ⟨_, _, rest', hd⟩ := next_torn (fun i _ => hC i) hTd hk h2 hM (fun h => four_cuts ha hrb (Nat.le_refl _) fun j hj => (hcut _ (by omega) (by omega) (h j hj)).imp_right .inl) hn
        have hCe : C = pre ++ (recK k s ++ rest') := by
          conv => lhs; rw [← List.take_append_drop pre.length C, hp, hd]
        have ih := torn_one hM hC hcut (pre ++ recK k s) rest h3 (by rw [hT]; simp only [List.append_assoc]) (by rw [hCe, ← List.append_assoc]; exact List.take_left' rfl) (by rw [List.length_append]; omega) (by rw [← hb, List.length_append, List.length_append]; omega)
        rcases ih with ⟨r2, e⟩ | ⟨rs1, rs2, b1, b2, m2, e1, e0, e2, e3, e4, ⟨r2, e5⟩, e6⟩
        · exact .inl ⟨r2, by rw [e]; simp only [List.append_assoc]⟩
        · refine .inr ⟨s :: rs1, rs2, recK k s ++ b1, b2, m2, by rw [e1]; rfl, e0, by rw [e2, List.append_assoc], .cons hk h1 h2 e3, e4, ⟨r2, by rw [e5]; simp only [List.append_assoc]⟩, ?_⟩
          rw [List.length_append] at e6 ⊢
          rwa [← Nat.add_assoc]

/-- Several writes' records. -/
inductive EncC (M : Bk) : List UInt8 → List (List (List UInt8)) → List (List UInt8) → List UInt8 → Prop
  | nil (m : List UInt8) : EncC M m [] [] m
  | cons {m b m1 m2 : List UInt8} {rs : List (List UInt8)} {cs : List (List (List UInt8))} {bs : List (List UInt8)} : Enc M m rs b m1 → EncC M m1 cs bs m2 → EncC M m (rs :: cs) (b :: bs) m2

theorem EncC.more {M : Bk} (X : Bk) {m m' : List UInt8} {cs : List (List (List UInt8))} {bs : List (List UInt8)} (h : EncC M m cs bs m') : EncC (M ++ X) m cs bs m' := by
  induction h with
  | nil m => exact .nil m
  | cons h1 _ ih => exact .cons (h1.more X) ih

theorem EncC.flat {M : Bk} {m m' : List UInt8} {cs : List (List (List UInt8))} {bs : List (List UInt8)} (h : EncC M m cs bs m') : Enc M m cs.flatten bs.flatten m' := by
  induction h with
  | nil m => exact .nil m
  | cons h1 _ ih => rw [List.flatten_cons, List.flatten_cons]; exact h1.append ih

theorem EncC.snoc {M : Bk} {m m' : List UInt8} {cs : List (List (List UInt8))} {bs : List (List UInt8)} (h : EncC M m cs bs m') {rs : List (List UInt8)} {b m2 : List UInt8} (h2 : Enc M m' rs b m2) : EncC M m (cs ++ [rs]) (bs ++ [b]) m2 := by
  induction h with
  | nil m => exact .cons h2 (.nil _)
  | cons h1 _ ih => exact .cons h1 (ih h2)

/-- Records of several writes, of which parts last: some are read, then none is. -/
theorem torn_many {M : Bk} {C T : List UInt8} {κ : Nat → Bool} (hM : M.length < 65536) (hC : ∀ i, C.getD i 0 = if κ i then T.getD i 0 else 0) {m m1 : List UInt8} {cs : List (List (List UInt8))} {ts : List (List UInt8)} (h : EncC M m cs ts m1) :
    ∀ (pre : List UInt8), T = pre ++ ts.flatten → C.take pre.length = pre → (∀ p t q, ts = p ++ t :: q → CutsOk κ (pre.length + p.flatten.length) (pre.length + p.flatten.length + t.length)) →
    ∃ rs1 rs2 b1 b2 m2, cs.flatten = rs1 ++ rs2 ∧ ts.flatten = b1 ++ b2 ∧ Enc M m rs1 b1 m2 ∧ Enc M m2 rs2 b2 m1 ∧ (∃ rest', C = pre ++ (b1 ++ rest')) ∧ Dead M C (pre.length + b1.length) m2 := by
  induction h with
  | nil m =>
    intro pre hT hp _
    refine ⟨[], [], [], [], m, rfl, rfl, .nil m, .nil m, ⟨C.drop pre.length, ?_⟩, .zero fun i hi => ?_⟩
    · rw [List.nil_append]; conv => rhs; arg 1; rw [← hp]
      exact (List.take_append_drop _ _).symm
    · rw [hC]
      split
      · rw [hT]
        exact get_past (by simpa using hi)
      · rfl
  | @cons m b m1 m2 rs cs ts h1 h2 ih =>
    intro pre hT hp hcuts
    rw [List.flatten_cons] at hT
    have hc0 := hcuts [] b ts rfl
    simp only [List.flatten_nil, List.length_nil, Nat.add_zero] at hc0
    rcases torn_one hM hC hc0 pre ts.flatten h1 hT hp (Nat.le_refl _) rfl with ⟨rest', e⟩ | ⟨rs1, rs2, b1, b2, m3, e1, _, e2, e3, e4, e5, e6⟩
    · obtain ⟨rs1, rs2, b1, b2, m3, e1, e2, e3, e4, ⟨r5, e5⟩, e6⟩ := ih (pre ++ b) (by rw [hT, List.append_assoc]) (by rw [e, ← List.append_assoc]; exact List.take_left' rfl) fun p t q hq => by
        have := hcuts (b :: p) t q (by rw [hq]; rfl)
        rw [List.flatten_cons, List.length_append] at this
        rwa [List.length_append, show pre.length + b.length + p.flatten.length = pre.length + (b.length + p.flatten.length) from Nat.add_assoc _ _ _]
      refine ⟨rs ++ rs1, rs2, b ++ b1, b2, m3, by rw [List.flatten_cons, e1, List.append_assoc], by rw [List.flatten_cons, e2, List.append_assoc], h1.append e3, e4, ⟨r5, by rw [e5]; simp only [List.append_assoc]⟩, ?_⟩
      rw [List.length_append] at e6 ⊢
      rwa [← Nat.add_assoc]
    · exact ⟨rs1, rs2 ++ cs.flatten, b1, b2 ++ ts.flatten, m3, by rw [List.flatten_cons, e1, List.append_assoc], by rw [List.flatten_cons, e2, List.append_assoc], e3, e4.append h2.flat, e5, e6⟩

end Go.X
