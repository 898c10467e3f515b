/- Texts joined: WTears, WHolds, VMake, VAwake, VNobody, XAgg. -/
import Derived.Test.YtjhifcooocjagaaGreatDoorKVaultNobodyB2
set_option linter.unusedVariables false
set_option linter.unusedSimpArgs false
set_option linter.unnecessarySimpa false


/-! Records as bytes, and read again. -/
namespace Go.X

def recK (k : Nat) (s : List UInt8) : List UInt8 := four s.length ++ markN k ++ s

theorem recK_length (k : Nat) (s : List UInt8) : (recK k s).length = 36 + s.length := recLen _ _ (markN_length k)

/-- Records behind a mark, their bytes, the last one's mark. -/
inductive Enc (M : Bk) : List UInt8 → List (List UInt8) → List UInt8 → List UInt8 → Prop
  | nil (m : List UInt8) : Enc M m [] [] m
  | cons {m s m' bs : List UInt8} {k : Nat} {rs : List (List UInt8)} : numOf (m ++ s) M = some k → 1 ≤ s.length → s.length ≤ 1048833 → Enc M (markN k) rs bs m' → Enc M m (s :: rs) (recK k s ++ bs) m'

theorem Enc.more {M : Bk} (X : Bk) {m bs m' : List UInt8} {rs : List (List UInt8)} (h : Enc M m rs bs m') : Enc (M ++ X) m rs bs m' := by
  induction h with
  | nil m => exact .nil m
  | cons h1 h2 h3 _ ih => exact .cons (numOf_append h1 X) h2 h3 ih

theorem Enc.append {M : Bk} {m bs m' : List UInt8} {rs : List (List UInt8)} (h : Enc M m rs bs m') {rs2 : List (List UInt8)} {bs2 m2 : List UInt8} (h2 : Enc M m' rs2 bs2 m2) : Enc M m (rs ++ rs2) (bs ++ bs2) m2 := by
  induction h with
  | nil m => exact h2
  | cons a b c _ ih => rw [List.append_assoc]; exact .cons a b c (ih h2)

/-- A part that stands ahead. -/
theorem Enc.split {M : Bk} : ∀ {rs : List (List UInt8)} {m bs m' : List UInt8} {rs2 : List (List UInt8)}, Enc M m (rs ++ rs2) bs m' → ∃ b1 b2 m1, bs = b1 ++ b2 ∧ Enc M m rs b1 m1 ∧ Enc M m1 rs2 b2 m'
  | [], m, bs, m', rs2, h => ⟨[], bs, m, rfl, .nil m, h⟩
  | s :: rs, m, bs, m', rs2, h => by
    cases h with
    | cons a b c h =>
      rename_i bs' k
      obtain ⟨b1, b2, m1, rfl, e1, e2⟩ := Enc.split h
      exact ⟨recK k s ++ b1, b2, m1, by rw [List.append_assoc], .cons a b c e1, e2⟩

theorem Enc.len {M : Bk} {m bs m' : List UInt8} {rs : List (List UInt8)} (h : Enc M m rs bs m') : 37 * rs.length ≤ bs.length := by
  induction h with
  | nil m => simp
  | cons a b c _ ih => rw [List.length_append, recK_length, List.length_cons]; omega

/-- What putting makes. -/
theorem putB_enc (sign : UInt8) : ∀ (l : List (List UInt8)) (S : PB), S.err = 0 → (∀ s ∈ l, s.length ≤ 1048832) →
    ∃ bs X, (putB sign l S).err = 0 ∧ (putB sign l S).bytes = S.bytes ++ bs ∧ (putB sign l S).book = S.book ++ X ∧ X.length ≤ l.length ∧ Enc (S.book ++ X) S.mark (l.map (sign :: ·)) bs (putB sign l S).mark
  | [], S, h, _ => ⟨[], [], h, by simp [putB], by simp [putB], Nat.zero_le _, by simp only [putB]; exact .nil _⟩
  | s :: l, S, h, hl => by
    have hs := hl s List.mem_cons_self
    have hp : putB sign (s :: l) S = putB sign l { S with bytes := S.bytes ++ (four (sign :: s).length ++ S.book.mark (S.mark ++ sign :: s) ++ sign :: s), mark := S.book.mark (S.mark ++ sign :: s), book := S.book.add (S.mark ++ sign :: s) } := by
      rw [putB, if_neg (by omega)]
    rw [hp]
    obtain ⟨bs, X, h1, h2, h3, h4, h5⟩ := putB_enc sign l { S with bytes := S.bytes ++ (four (sign :: s).length ++ S.book.mark (S.mark ++ sign :: s) ++ sign :: s), mark := S.book.mark (S.mark ++ sign :: s), book := S.book.add (S.mark ++ sign :: s) } h fun t ht => hl t (List.mem_cons_of_mem _ ht)
    obtain ⟨Y, hY, hYl⟩ := S.book.add_more (S.mark ++ sign :: s)
    obtain ⟨k, hk, hm⟩ := S.book.add_num (S.mark ++ sign :: s)
    refine ⟨recK k (sign :: s) ++ bs, Y ++ X, h1, ?_, ?_, by rw [List.length_append, List.length_cons]; omega, ?_⟩
    · rw [h2]
      dsimp only
      rw [hm, List.append_assoc, List.append_assoc]
      rfl
    · rw [h3]
      dsimp only
      rw [hY, List.append_assoc]
    · dsimp only at h5
      rw [hY, hm, List.append_assoc] at h5
      rw [hm, hY]
      rw [hY] at hk
      have hk2 := numOf_append hk X
      rw [List.append_assoc] at hk2
      exact .cons hk2 (by simp) (by rw [List.length_cons]; omega) h5

/-! ### Reading -/

theorem nextB_hit {M : Bk} {pre m s rest : List UInt8} {k : Nat} (hk : numOf (m ++ s) M = some k) (h1 : 1 ≤ s.length) (h2 : s.length ≤ 1048833) :
    nextB M (pre ++ (recK k s ++ rest)) pre.length m = some (s, markN k) := by
  have hl : (pre ++ (recK k s ++ rest)).length = pre.length + (36 + s.length) + rest.length := by rw [List.length_append, List.length_append, recK_length]; omega
  have hm := markN_length k
  have e0 : (pre ++ (recK k s ++ rest)).drop pre.length = four s.length ++ (markN k ++ (s ++ rest)) := by
    rw [List.drop_left]; unfold recK; simp only [List.append_assoc]
  have e1 : ((pre ++ (recK k s ++ rest)).drop pre.length).take 4 = four s.length := by rw [e0]; exact List.take_left' rfl
  have e2 : ((pre ++ (recK k s ++ rest)).drop (pre.length + 4)).take 32 = markN k := by
    rw [← List.drop_drop, e0, List.drop_left' (four_length _)]; exact List.take_left' hm
  have e3 : ((pre ++ (recK k s ++ rest)).drop (pre.length + 36)).take s.length = s := by
    rw [← List.drop_drop, e0, show (36 : Nat) = 4 + 32 from rfl, ← List.drop_drop, List.drop_left' (four_length _), List.drop_left' hm]; exact List.take_left' rfl
  unfold nextB
  rw [if_neg (by omega)]
  dsimp only
  rw [e1, val4_four _ (by omega), if_neg (by omega), e2, e3]
  have : M.is (m ++ s) (markN k) = true := by unfold Bk.is; rw [hk]; simp
  rw [if_pos this]

/-- What is kept of a load but its place and its mark. -/
def LD.core (S : LD) : Bool × List (List UInt8) := (S.sealed, S.out)

def coreStep (c : Bool × List (List UInt8)) (s : List UInt8) : Option (Bool × List (List UInt8)) :=
  if s = [69] ∧ c.1 = false then some (true, c.2)
  else if s.headD 0 = 83 ∧ c.1 = false ∨ s.headD 0 = 82 ∧ c.1 = true then some (c.1, c.2 ++ [s.tail])
  else none

def cores : List (List UInt8) → Bool × List (List UInt8) → Option (Bool × List (List UInt8))
  | [], c => some c
  | s :: rs, c => match coreStep c s with
    | none => none
    | some c' => cores rs c'

theorem loadStep_core (S : LD) (s m : List UInt8) : loadStep S s m = (coreStep S.core s).map fun c => ⟨S.end_ + 36 + s.length, m, c.1, c.2⟩ := by
  unfold loadStep coreStep LD.core
  split
  · rfl
  · split <;> rfl

/-- Records that stand there are read. -/
theorem loadL_enc {M : Bk} {rest : List UInt8} : ∀ {rs : List (List UInt8)} {m bs m' : List UInt8} (pre : List UInt8) (S : LD) (j : Nat) (c : Bool × List (List UInt8)), Enc M m rs bs m' → S.end_ = pre.length → S.mark = m → cores rs S.core = some c →
    loadL M (pre ++ (bs ++ rest)) (rs.length + j) S = loadL M (pre ++ (bs ++ rest)) j ⟨pre.length + bs.length, m', c.1, c.2⟩
  | [], m, bs, m', pre, S, j, c, h, he, hm, hc => by
    cases h
    cases hc
    obtain ⟨e, mk, sl, out⟩ := S
    dsimp only [LD.core] at *
    subst he hm
    simp
  | s :: rs, m, bs, m', pre, S, j, c, h, he, hm, hc => by
    cases h with
    | cons hk h1 h2 h3 =>
      rename_i bs k
      have hn := nextB_hit (M := M) (pre := pre) (m := m) (s := s) (rest := bs ++ rest) hk h1 h2
      unfold cores at hc
      cases hcs : coreStep S.core s with
      | none => rw [hcs] at hc; cases hc
      | some c1 =>
        rw [hcs] at hc
        dsimp only at hc
        have hst : loadStep S s (markN k) = some ⟨S.end_ + 36 + s.length, markN k, c1.1, c1.2⟩ := by rw [loadStep_core, hcs]; rfl
        rw [show (s :: rs).length + j = (rs.length + j) + 1 by rw [List.length_cons]; omega]
        rw [loadL, he, hm, List.append_assoc, hn]
        dsimp only
        rw [hst]
        dsimp only
        have ih := loadL_enc (M := M) (rest := rest) (pre ++ recK k s) ⟨S.end_ + 36 + s.length, markN k, c1.1, c1.2⟩ j c h3 (by rw [List.length_append, recK_length, he]; dsimp only; omega) rfl hc
        rw [List.append_assoc] at ih
        rw [ih]
        congr 2
        rw [List.length_append, List.length_append, recK_length]
        omega

theorem loadL_stop {M : Bk} {all : List UInt8} {S : LD} (h : nextB M all S.end_ S.mark = none) : ∀ j, loadL M all j S = S
  | 0 => rfl
  | j + 1 => by rw [loadL, h]

/-- Records, then none: what is found. -/
theorem loadF_enc {M : Bk} {n : Nat} {rs : List (List UInt8)} {bs rest m : List UInt8} {c : Bool × List (List UInt8)} (h : Enc M (firstM n) rs bs m) (hc : cores rs (false, []) = some c) (hn : nextB M (bs ++ rest) bs.length m = none) :
    loadF M (bs ++ rest) n = ⟨bs.length, m, c.1, c.2⟩ := by
  have hl := h.len
  unfold loadF
  have h1 := loadL_enc (M := M) (rest := rest) [] ⟨0, firstM n, false, []⟩ ((bs ++ rest).length + 1 - rs.length) c h rfl rfl hc
  rw [List.nil_append, show rs.length + ((bs ++ rest).length + 1 - rs.length) = (bs ++ rest).length + 1 by rw [List.length_append]; omega] at h1
  rw [h1]
  simp only [List.length_nil, Nat.zero_add]
  exact loadL_stop hn _

/-- Behind the last record there is nothing, or noughts. -/
theorem nextB_zeros (M : Bk) (pre m : List UInt8) (z : Nat) : nextB M (pre ++ List.replicate z 0) pre.length m = none := by
  unfold nextB
  split
  · rfl
  · rename_i h
    rw [List.length_append, List.length_replicate] at h
    have e1 : ((pre ++ List.replicate z (0 : UInt8)).drop pre.length).take 4 = [0, 0, 0, 0] := by
      rw [List.drop_left, List.take_replicate, Nat.min_eq_left (by omega)]
      rfl
    dsimp only
    rw [e1]
    rfl

/-! ### What a segment's records mean -/

/-- A snapshot, its end, what came behind. -/
def segR (ss tt : List (List UInt8)) : List (List UInt8) := ss.map (83 :: ·) ++ ([69] :: tt.map (82 :: ·))

theorem cores_append : ∀ (a b : List (List UInt8)) (c : Bool × List (List UInt8)), cores (a ++ b) c = match cores a c with | none => none | some c' => cores b c'
  | [], b, c => rfl
  | s :: a, b, c => by
    simp only [List.cons_append, cores]
    cases coreStep c s with
    | none => rfl
    | some c' => exact cores_append a b c'

theorem cores_S : ∀ (ss out : List (List UInt8)), cores (ss.map (83 :: ·)) (false, out) = some (false, out ++ ss)
  | [], out => by simp [cores]
  | s :: ss, out => by
    have h : coreStep (false, out) (83 :: s) = some (false, out ++ [s]) := by
      unfold coreStep
      rw [if_neg (by simp), if_pos (by simp)]
      rfl
    rw [List.map_cons, cores, h]
    dsimp only
    rw [cores_S ss, List.append_assoc]
    rfl

theorem cores_R : ∀ (tt out : List (List UInt8)), cores (tt.map (82 :: ·)) (true, out) = some (true, out ++ tt)
  | [], out => by simp [cores]
  | s :: ss, out => by
    have h : coreStep (true, out) (82 :: s) = some (true, out ++ [s]) := by
      unfold coreStep
      rw [if_neg (by simp), if_pos (by simp)]
      rfl
    rw [List.map_cons, cores, h]
    dsimp only
    rw [cores_R ss, List.append_assoc]
    rfl

theorem cores_seg (ss tt : List (List UInt8)) : cores (segR ss tt) (false, []) = some (true, ss ++ tt) := by
  unfold segR
  rw [cores_append, cores_S, List.nil_append]
  dsimp only
  have h : coreStep (false, ss) [69] = some (true, ss) := by
    unfold coreStep
    rw [if_pos (by simp)]
  rw [cores, h]
  exact cores_R tt ss

end Go.X

/-! The device's calls on a file that is there, plain; a file's bytes, noughts behind. -/
namespace Go.X

section
variable {D : DD} {A B : List DF} {f : DF}

theorem mid_of (hD : D.files = A ++ f :: B) (hr : Rising D.files) : ahead f.name D.files = A ∧ behind f.name D.files = f :: B := by
  rw [hD] at hr ⊢
  exact behind_mid hr

theorem size_mid (hD : D.files = A ++ f :: B) (hr : Rising D.files) (ho : D.off = false) : D.size f.name = ((f.seen.length : Int), 0) := by
  unfold DD.size
  rw [if_neg (by rw [ho]; decide), (mid_of hD hr).2]
  dsimp only
  rw [if_neg (by rw [cmpS_refl]; decide)]

theorem read_mid (hD : D.files = A ++ f :: B) (hr : Rising D.files) (ho : D.off = false) (a n : Nat) : D.read f.name (a : Int) (n : Int) = ((f.seen.drop a).take n, 0) := by
  unfold DD.read
  rw [if_neg (by rw [ho]; decide), (mid_of hD hr).2]
  dsimp only
  rw [if_neg (by rw [cmpS_refl]; decide), if_neg (by omega)]
  rfl

theorem remove_mid (hD : D.files = A ++ f :: B) (hr : Rising D.files) (ho : D.off = false) : D.remove f.name = (0, { D with files := A ++ B, wait := D.wait.filter fun p => !(p.id == f.id) }) := by
  unfold DD.remove
  rw [if_neg (by rw [ho]; decide)]
  have h := (mid_of hD hr).2
  rw [if_neg (by rw [h]; simp [isHead, cmpS_refl])]
  unfold DD.without
  rw [h, (mid_of hD hr).1]
  rfl

theorem remove_off (h : D.off = true) (name : ByteArray) : D.remove name = (14, D) := by unfold DD.remove; rw [if_pos h]
theorem create_off (h : D.off = true) (name : ByteArray) : D.create name = (14, D) := by unfold DD.create; rw [if_pos h]
theorem write_off (h : D.off = true) (name : ByteArray) (a : Int) (t : List UInt8) : D.write name a t = (14, D) := by unfold DD.write; rw [if_pos h]
theorem sync_off (h : D.off = true) : D.sync = (14, D) := by unfold DD.sync; rw [if_pos h]
theorem sync_on (h : D.off = false) : D.sync = (0, { D with files := D.files.map (syncF D.wait), wait := [] }) := by unfold DD.sync; rw [if_neg (by rw [h]; decide)]

/-- Writing where there is no room. -/
theorem write_no (hD : D.files = A ++ f :: B) (hr : Rising D.files) (ho : D.off = false) {a : Nat} {t : List UInt8} (hm : a + t.length ≤ 2097152) (hf : t ≠ [] ∧ D.free < (secs (a + t.length) : Int) - f.takes) :
    D.write f.name (a : Int) t = (7, D) := by
  unfold DD.write
  rw [if_neg (by rw [ho]; decide), (mid_of hD hr).2]
  dsimp only
  rw [if_neg (by rw [cmpS_refl]; decide), if_neg (by omega), Int.toNat_natCast, if_pos hf]

/-- A device behind a write to one of its files. -/
def DD.wrote (D : DD) (A : List DF) (f : DF) (B : List DF) (R : WS) : DD :=
  { D with files := A ++ { f with seen := R.seen } :: B, wait := R.wait, fuse := R.fuse, count := R.count, off := R.off }

/-- Writing where there is. -/
theorem write_yes (hD : D.files = A ++ f :: B) (hr : Rising D.files) (ho : D.off = false) {a : Nat} {t : List UInt8} (hm : a + t.length ≤ 2097152) (hf : ¬ (t ≠ [] ∧ D.free < (secs (a + t.length) : Int) - f.takes)) :
    D.write f.name (a : Int) t = (downE (wr t.length f.id a t ⟨f.seen, D.wait, D.fuse, D.count, false⟩).off, D.wrote A f B (wr t.length f.id a t ⟨f.seen, D.wait, D.fuse, D.count, false⟩)) := by
  unfold DD.write
  rw [if_neg (by rw [ho]; decide), (mid_of hD hr).2, (mid_of hD hr).1]
  dsimp only
  rw [if_neg (by rw [cmpS_refl]; decide), if_neg (by omega), Int.toNat_natCast, if_neg hf]
  rfl

/-- A new file. -/
theorem create_new (ho : D.off = false) {name : ByteArray} (hn : nameB name = true) (hno : ∀ g ∈ D.files, g.name ≠ name) :
    ∃ A B, D.files = A ++ B ∧ D.create name = (0, { D with files := A ++ (⟨D.made, name, [], []⟩ : DF) :: B, made := D.made + 1 }) := by
  refine ⟨ahead name D.files, behind name D.files, (ahead_behind _ _).symm, ?_⟩
  unfold DD.create
  have hh : isHead name (behind name D.files) = false := by
    cases hb : behind name D.files with
    | nil => rfl
    | cons g r =>
      have hg : g ∈ D.files := by rw [← ahead_behind name D.files, hb]; simp
      exact decide_eq_false fun e => hno g hg (cmpS_eq e)
  rw [if_neg (by rw [ho]; decide), if_neg (by rw [hn]; decide), if_neg (by rw [hh]; decide)]

end

/-! ### Bytes, read anywhere -/

theorem ext_get {a b : List UInt8} (hl : a.length = b.length) (h : ∀ i, a.getD i 0 = b.getD i 0) : a = b := by
  refine List.ext_getElem hl fun i h1 h2 => ?_
  have := h i
  rw [List.getD_eq_getElem?_getD, List.getD_eq_getElem?_getD, List.getElem?_eq_getElem h1, List.getElem?_eq_getElem h2] at this
  exact this

theorem get_past {a : List UInt8} {i : Nat} (h : a.length ≤ i) : a.getD i 0 = 0 := by
  rw [List.getD_eq_getElem?_getD, List.getElem?_eq_none h]; rfl

theorem get_append (a b : List UInt8) (i : Nat) : (a ++ b).getD i 0 = if i < a.length then a.getD i 0 else b.getD (i - a.length) 0 := by
  simp only [List.getD_eq_getElem?_getD]
  split
  · rename_i h; rw [List.getElem?_append_left h]
  · rename_i h; rw [List.getElem?_append_right (by omega)]

theorem get_zeros (n i : Nat) : (List.replicate n (0 : UInt8)).getD i 0 = 0 := by
  rw [List.getD_eq_getElem?_getD]
  by_cases h : i < n
  · rw [List.getElem?_replicate_of_lt h]; rfl
  · rw [List.getElem?_eq_none (by rw [List.length_replicate]; omega)]; rfl

theorem get_take (a : List UInt8) (n i : Nat) : (a.take n).getD i 0 = if i < n then a.getD i 0 else 0 := by
  simp only [List.getD_eq_getElem?_getD, List.getElem?_take]
  split <;> rfl

theorem get_drop (a : List UInt8) (n i : Nat) : (a.drop n).getD i 0 = a.getD (n + i) 0 := by
  simp only [List.getD_eq_getElem?_getD, List.getElem?_drop]

theorem get_over {l t : List UInt8} {k : Nat} (h : k + t.length ≤ l.length) (i : Nat) : (over l k t).getD i 0 = if k ≤ i ∧ i < k + t.length then t.getD (i - k) 0 else l.getD i 0 := by
  unfold over
  rw [List.append_assoc, get_append, get_append, get_take, get_drop, List.length_take, Nat.min_eq_left (by omega)]
  by_cases h1 : i < k
  · rw [if_pos h1, if_pos h1, if_neg (by omega)]
  · rw [if_neg h1]
    by_cases h2 : i - k < t.length
    · rw [if_pos h2, if_pos (by omega)]
    · rw [if_neg h2, if_neg (by omega)]
      congr 1
      omega

theorem get_lay (l : List UInt8) (p : DW) (i : Nat) : (lay l p).getD i 0 = if p.at_ ≤ i ∧ i < p.at_ + p.text.length then p.text.getD (i - p.at_) 0 else l.getD i 0 := by
  unfold lay
  rw [get_over (by rw [List.length_append, List.length_replicate]; omega), get_append, get_zeros]
  split
  · rfl
  · split
    · rfl
    · rename_i h; rw [get_past (by omega)]

theorem get_layk (l u : List UInt8) (k i : Nat) : (layk l k u).getD i 0 = if k ≤ i ∧ i < k + u.length then u.getD (i - k) 0 else l.getD i 0 := by
  unfold layk
  split
  · rw [if_neg (by omega)]
  · exact get_lay l ⟨0, k, u⟩ i

theorem get_lays : ∀ (k : Nat) (id : Int) (at_ : Nat) (t l : List UInt8) (i : Nat), t.length ≤ k → ((pcs k id at_ t).foldl lay l).getD i 0 = if at_ ≤ i ∧ i < at_ + t.length then t.getD (i - at_) 0 else l.getD i 0
  | 0, id, at_, t, l, i, h => by
    have : t = [] := List.eq_nil_of_length_eq_zero (by omega)
    subst this
    rw [pcs, List.foldl_nil, if_neg (by simp only [List.length_nil]; omega)]
  | k + 1, id, at_, t, l, i, h => by
    by_cases ht : t = []
    · subst ht
      rw [pcs, if_pos rfl, List.foldl_nil, if_neg (by simp only [List.length_nil]; omega)]
    · have hp := pieceLen_pos (at_ := at_) (List.length_pos_iff.2 ht)
      have hp' := pieceLen_le at_ t.length
      rw [pcs, if_neg ht, List.foldl_cons, get_lays k _ _ _ _ _ (by rw [List.length_drop]; omega), get_lay, get_drop]
      dsimp only
      rw [List.length_drop, List.length_take, get_take]
      by_cases h1 : at_ + pieceLen at_ t.length ≤ i ∧ i < at_ + pieceLen at_ t.length + (t.length - pieceLen at_ t.length)
      · rw [if_pos h1, if_pos (by omega)]
        congr 1
        omega
      · rw [if_neg h1]
        by_cases h2 : at_ ≤ i ∧ i < at_ + min (pieceLen at_ t.length) t.length
        · rw [if_pos h2, if_pos (by omega), if_pos (by omega)]
        · rw [if_neg h2, if_neg (by omega)]

/-! ### Bytes with noughts behind -/

def pad (T : List UInt8) (n : Nat) : List UInt8 := T ++ List.replicate (n - T.length) 0

theorem pad_length (T : List UInt8) (n : Nat) : (pad T n).length = max T.length n := by unfold pad; rw [List.length_append, List.length_replicate]; omega
theorem get_pad (T : List UInt8) (n i : Nat) : (pad T n).getD i 0 = T.getD i 0 := by
  unfold pad
  rw [get_append, get_zeros]
  split
  · rfl
  · rename_i h; rw [get_past (by omega)]

theorem lay_pad (T u : List UInt8) (n : Nat) (id : Int) : lay (pad T n) ⟨id, T.length, u⟩ = pad (T ++ u) n := by
  refine ext_get ?_ fun i => ?_
  · rw [lay_length, pad_length, pad_length, List.length_append]; dsimp only; omega
  · rw [get_lay, get_pad, get_pad, get_append]
    dsimp only
    by_cases h1 : i < T.length
    · rw [if_neg (by omega), if_pos h1]
    · rw [if_neg h1]
      split
      · rfl
      · rw [get_past (by omega), get_past (by omega)]

/-- Pieces laid at the end, where there are noughts. -/
theorem lays_pad (n : Nat) : ∀ (k : Nat) (id : Int) (t T : List UInt8), t.length ≤ k → (pcs k id T.length t).foldl lay (pad T n) = pad (T ++ t) n
  | 0, _, t, T, h => by
    have : t = [] := List.eq_nil_of_length_eq_zero (by omega)
    simp [pcs, this]
  | k + 1, id, t, T, h => by
    by_cases ht : t = []
    · simp [pcs, ht]
    · have hp := pieceLen_pos (at_ := T.length) (List.length_pos_iff.2 ht)
      have hp' := pieceLen_le T.length t.length
      have e : (T ++ t.take (pieceLen T.length t.length)).length = T.length + pieceLen T.length t.length := by rw [List.length_append, List.length_take]; omega
      rw [pcs, if_neg ht, List.foldl_cons, lay_pad, ← e, lays_pad n k id _ _ (by rw [List.length_drop]; omega), List.append_assoc, List.take_append_drop]

/-- The pieces of writes, each behind the one ahead. -/
def wpcs (id : Int) : Nat → List (List UInt8) → List DW
  | _, [] => []
  | a, t :: ts => pcs t.length id a t ++ wpcs id (a + t.length) ts

theorem wpcs_snoc (id : Int) : ∀ (ts : List (List UInt8)) (a : Nat) (t : List UInt8), wpcs id a (ts ++ [t]) = wpcs id a ts ++ pcs t.length id (a + ts.flatten.length) t
  | [], a, t => by simp [wpcs]
  | u :: ts, a, t => by
    rw [List.cons_append, wpcs, wpcs, wpcs_snoc id ts (a + u.length) t, List.append_assoc, List.flatten_cons, List.length_append, Nat.add_assoc]

theorem wpcs_id (id : Int) : ∀ (ts : List (List UInt8)) (a : Nat), ∀ p ∈ wpcs id a ts, p.id = id
  | [], _, p, h => by cases h
  | t :: ts, a, p, h => by
    rcases List.mem_append.1 h with h | h
    · exact (pcs_ok _ _ _ _ p h).1
    · exact wpcs_id id ts _ p h

theorem wsync (n : Nat) : ∀ (ts : List (List UInt8)) (T : List UInt8) (f : DF), f.last = pad T n → syncF (wpcs f.id T.length ts) f = { f with last := pad (T ++ ts.flatten) n }
  | [], T, f, h => by
    simp only [wpcs, syncF, List.foldl_nil, List.flatten_nil, List.append_nil]
    rw [← h]
  | t :: ts, T, f, h => by
    have e := sync_pcs t.length T.length t f (Nat.le_refl _)
    rw [h, lays_pad n _ _ _ _ (Nat.le_refl _)] at e
    unfold syncF at e ⊢
    rw [wpcs, List.foldl_append, e]
    have ih := wsync n ts (T ++ t) { f with last := pad (T ++ t) n } rfl
    unfold syncF at ih
    rw [List.length_append] at ih
    rw [ih, List.flatten_cons, List.append_assoc]

end Go.X

/-! What a write takes; what lasts of pieces that waited. -/
namespace Go.X

/-- A write: all of its pieces are taken, or the power goes. -/
theorem wr_cases : ∀ (k : Nat) (id : Int) (at_ : Nat) (t : List UInt8) (S : WS), t.length ≤ k → S.off = false → -1 ≤ S.fuse →
    -1 ≤ (wr k id at_ t S).fuse ∧ (wr k id at_ t S).fuse ≤ S.fuse ∧ S.count ≤ (wr k id at_ t S).count ∧ (S.fuse = -1 → (wr k id at_ t S).off = false ∧ (wr k id at_ t S).fuse = -1) ∧
    (((wr k id at_ t S).off = false ∧ (wr k id at_ t S).seen = (pcs k id at_ t).foldl lay S.seen ∧ (wr k id at_ t S).wait = S.wait ++ pcs k id at_ t) ∨
     ((wr k id at_ t S).off = true ∧ ∃ n, (wr k id at_ t S).seen = ((pcs k id at_ t).take n).foldl lay S.seen ∧ (wr k id at_ t S).wait = S.wait ++ (pcs k id at_ t).take n))
  | 0, id, at_, t, S, h, ho, hf => by
    have : t = [] := List.eq_nil_of_length_eq_zero (by omega)
    subst this
    simp [wr, pcs, ho, hf]
  | k + 1, id, at_, t, S, h, ho, hf => by
    by_cases ht : t = []
    · simp [wr, pcs, ht, ho, hf]
    · have hl0 : 0 < t.length := List.length_pos_iff.2 ht
      have hpp := pieceLen_pos (at_ := at_) hl0
      have hp : pcs (k + 1) id at_ t = ⟨id, at_, t.take (pieceLen at_ t.length)⟩ :: pcs k id (at_ + pieceLen at_ t.length) (t.drop (pieceLen at_ t.length)) := by rw [pcs, if_neg ht]
      by_cases h0 : S.fuse = 0
      · rw [wr, if_neg ht, if_pos h0]
        refine ⟨hf, Int.le_refl _, Int.le_refl _, fun e => ?_, .inr ⟨rfl, 0, by simp, by simp⟩⟩
        have e : S.fuse = -1 := e
        omega
      · have hb : -1 ≤ burn S.fuse ∧ burn S.fuse ≤ S.fuse := by unfold burn; split <;> omega
        obtain ⟨g1, g2, g3, g4, g5⟩ := wr_cases k id (at_ + pieceLen at_ t.length) (t.drop (pieceLen at_ t.length)) (wstep id at_ (t.take (pieceLen at_ t.length)) S) (by rw [List.length_drop]; omega) ho hb.1
        rw [wr, if_neg ht, if_neg h0, hp]
        refine ⟨g1, Int.le_trans g2 hb.2, Int.le_trans ?_ g3, fun e => g4 ?_, ?_⟩
        · show S.count ≤ S.count + 1
          omega
        · show burn S.fuse = -1
          have e : S.fuse = -1 := e
          rw [burn_neg (by omega), e]
        · rcases g5 with ⟨a1, a2, a3⟩ | ⟨a1, n, a2, a3⟩
          · refine .inl ⟨a1, ?_, ?_⟩
            · rw [a2]; rfl
            · rw [a3]; simp [wstep]
          · refine .inr ⟨a1, n + 1, ?_, ?_⟩
            · rw [a2, List.take_succ_cons]; rfl
            · rw [a3, List.take_succ_cons]; simp [wstep]

/-! ### What lasts -/

/-- Pieces, and how much of each lasts, laid. -/
def keeps : List (DW × Nat) → List UInt8 → List UInt8
  | [], l => l
  | (p, n) :: qs, l => keeps qs (layk l p.at_ (p.text.take n))

/-- Of a piece nothing lasts, its first half, or all of it. -/
def KeptOk (q : DW × Nat) : Prop := q.2 = 0 ∨ q.2 = q.1.text.length / 2 ∨ q.2 = q.1.text.length

theorem keptLen_ok (x : Option Int) (p : DW) : KeptOk (p, keptLen x p.text.length) := by
  unfold KeptOk keptLen
  dsimp only
  split
  · exact .inr (.inl rfl)
  · split
    · exact .inr (.inr rfl)
    · exact .inl rfl

theorem fateF_other {x : Int} {p : DW} {f : DF} (h : f.id ≠ p.id) : fateF x p f = f := by
  rw [fateF_kept, lastF_none (fun e => h e.1)]

/-- What the fates make of a file's bytes: of each of its own pieces a part lasts. -/
theorem fates_keeps (id : Int) : ∀ (ps : List DW) (xs : List Int) (f : DF), f.id = id →
    ∃ qs : List (DW × Nat), qs.map (·.1) = ps.filter (fun p => p.id == id) ∧ (∀ q ∈ qs, KeptOk q) ∧ (fatesF (ps.zip xs) f).last = keeps qs f.last
  | [], xs, f, h => ⟨[], rfl, (fun q h => by cases h), rfl⟩
  | p :: ps, xs, f, h => by
    cases xs with
    | nil =>
      refine ⟨((p :: ps).filter (fun p => p.id == id)).map fun p => (p, 0), by rw [List.map_map]; exact List.map_id' _, fun q hq => ?_, ?_⟩
      · obtain ⟨p', _, rfl⟩ := List.mem_map.1 hq
        exact .inl rfl
      · have key : ∀ (l : List DW) (b : List UInt8), keeps (l.map fun p => (p, 0)) b = b := by
          intro l
          induction l with
          | nil => intro b; rfl
          | cons p l ih => intro b; rw [List.map_cons, keeps, List.take_zero]; exact ih b
        rw [key, List.zip_nil_right]
        rfl
    | cons x xs =>
      obtain ⟨qs, h1, h2, h3⟩ := fates_keeps id ps xs (fateF x p f) (by rw [fateF_id]; exact h)
      by_cases hp : p.id = id
      · refine ⟨(p, keptLen (some x) p.text.length) :: qs, ?_, fun q hq => ?_, ?_⟩
        · rw [List.map_cons, h1, List.filter_cons, if_pos (by simpa using hp)]
        · rcases List.mem_cons.1 hq with rfl | hq
          · exact keptLen_ok _ _
          · exact h2 q hq
        · show (fatesF (ps.zip xs) (fateF x p f)).last = _
          rw [h3, keeps, fateF_last (by rw [h, hp])]
      · refine ⟨qs, ?_, h2, ?_⟩
        · rw [h1, List.filter_cons, if_neg (by simpa using hp)]
        · show (fatesF (ps.zip xs) (fateF x p f)).last = _
          rw [h3, fateF_other (by rw [h]; exact fun e => hp e.symm)]

/-- Nothing lasts of what nobody kept. -/
theorem fates_none (ps : List DW) (f : DF) : fatesF (ps.zip []) f = f := by rw [List.zip_nil_right]; rfl

/-! ### Masks -/

/-- Where the half of a sector's piece of a write from a to b ends. -/
def hw (a b q : Nat) : Nat := max a (64 * q) + (min b (64 * q + 64) - max a (64 * q)) / 2

/-- Where what is kept may end, within a write. -/
def CutsOk (κ : Nat → Bool) (a b : Nat) : Prop := ∀ c, a < c → c < b → κ (c - 1) ≠ κ c → c % 64 = 0 ∨ c = hw a b (c / 64)

/-- What lasts of one write's pieces. -/
theorem mask_one (a0 b : Nat) (id : Int) : ∀ (k : Nat) (at_ : Nat) (t : List UInt8) (qs : List (DW × Nat)) (l : List UInt8) (n : Nat), t.length ≤ k → at_ + t.length = b → a0 ≤ at_ → (t = [] ∨ at_ = a0 ∨ at_ % 64 = 0) →
    qs.map (·.1) = (pcs k id at_ t).take n → (∀ q ∈ qs, KeptOk q) →
    ∃ κ : Nat → Bool, (∀ i, κ i = true → at_ ≤ i ∧ i < b) ∧ (∀ i, (keeps qs l).getD i 0 = if κ i then t.getD (i - at_) 0 else l.getD i 0) ∧
      (∀ c, at_ < c → c < b → κ (c - 1) ≠ κ c → c % 64 = 0 ∨ c = hw a0 b (c / 64)) ∧ l.length ≤ (keeps qs l).length ∧ (keeps qs l).length ≤ max l.length b
  | 0, at_, t, qs, l, n, hk, hb, _, _, hq, _ => by
    have : qs = [] := by
      have := congrArg List.length hq
      simp [pcs] at this
      exact this
    subst this
    exact ⟨fun _ => false, by simp, by simp [keeps], by simp, Nat.le_refl _, by simp only [keeps]; omega⟩
  | k + 1, at_, t, qs, l, n, hk, hb, ha, hat, hq, hok => by
    have none : qs = [] → ∃ κ : Nat → Bool, (∀ i, κ i = true → at_ ≤ i ∧ i < b) ∧ (∀ i, (keeps qs l).getD i 0 = if κ i then t.getD (i - at_) 0 else l.getD i 0) ∧
      (∀ c, at_ < c → c < b → κ (c - 1) ≠ κ c → c % 64 = 0 ∨ c = hw a0 b (c / 64)) ∧ l.length ≤ (keeps qs l).length ∧ (keeps qs l).length ≤ max l.length b := by
      rintro rfl
      exact ⟨fun _ => false, by simp, by simp [keeps], by simp, Nat.le_refl _, by simp only [keeps]; omega⟩
    by_cases ht : t = []
    · refine none ?_
      have := congrArg List.length hq
      simp [pcs, ht] at this
      exact this
    cases n with
    | zero =>
      refine none ?_
      have := congrArg List.length hq
      simp at this
      exact this
    | succ n =>
      have hl0 : 0 < t.length := List.length_pos_iff.2 ht
      have hpp := pieceLen_pos (at_ := at_) hl0
      have hpl := pieceLen_le at_ t.length
      have hpd : pieceLen at_ t.length = min t.length (64 - at_ % 64) := rfl
      obtain ⟨m, hm⟩ : ∃ m, pieceLen at_ t.length = m := ⟨_, rfl⟩
      rw [pcs, if_neg ht, List.take_succ_cons] at hq
      cases qs with
      | nil => cases hq
      | cons q qs =>
        obtain ⟨p, K⟩ := q
        rw [List.map_cons, List.cons.injEq] at hq
        obtain ⟨hp, hq⟩ := hq
        dsimp only at hp
        subst hp
        rw [hm] at hq hpp hpl hpd
        have hK := hok _ List.mem_cons_self
        have hKm : K ≤ m ∧ (K = 0 ∨ K = m / 2 ∨ K = m) := by
          have e : (t.take m).length = m := by rw [List.length_take]; omega
          unfold KeptOk at hK
          dsimp only at hK
          rw [hm, e] at hK
          exact ⟨by omega, hK⟩
        have hat := hat.resolve_left ht
        obtain ⟨u, hu⟩ : ∃ u, (t.take m).take K = u := ⟨_, rfl⟩
        have hul : u.length = K := by rw [← hu, List.length_take, List.length_take]; omega
        have hug : ∀ j, j < K → u.getD j 0 = t.getD j 0 := by
          intro j hj
          rw [← hu, get_take, if_pos hj, get_take, if_pos (by omega)]
        obtain ⟨κ, k1, k2, k3, k4, k5⟩ := mask_one a0 b id k (at_ + m) (t.drop m) qs (layk l at_ u) n (by rw [List.length_drop]; omega) (by rw [List.length_drop]; omega) (by omega) (by
          by_cases hmt : m = t.length
          · left
            rw [hmt, List.drop_length]
          · right; right; omega) hq (fun q h => hok q (List.mem_cons_of_mem _ h))
        have hlk := layk_length l u at_
        refine ⟨fun i => κ i || (decide (at_ ≤ i) && decide (i < at_ + K)), fun i hi => ?_, fun i => ?_, fun c h1 h2 hne => ?_, ?_, ?_⟩
        · dsimp only at hi
          rw [Bool.or_eq_true, Bool.and_eq_true, decide_eq_true_eq, decide_eq_true_eq] at hi
          rcases hi with hi | hi
          · have := k1 i hi; omega
          · omega
        · rw [keeps, hm, hu, k2, get_layk, hul]
          dsimp only
          have hor : (κ i || (decide (at_ ≤ i) && decide (i < at_ + K))) = true ↔ κ i = true ∨ at_ ≤ i ∧ i < at_ + K := by
            rw [Bool.or_eq_true, Bool.and_eq_true, decide_eq_true_eq, decide_eq_true_eq]
          by_cases hκ : κ i = true
          · have := k1 i hκ
            rw [if_pos hκ, if_pos (hor.2 (.inl hκ)), get_drop]
            congr 1
            omega
          · rw [if_neg hκ]
            by_cases hi : at_ ≤ i ∧ i < at_ + K
            · rw [if_pos hi, if_pos (hor.2 (.inr hi)), hug _ (by omega)]
            · rw [if_neg hi, if_neg fun h => (hor.1 h).elim hκ hi]
        · dsimp only at hne
          have hf : ∀ i, i < at_ + m → κ i = false := by
            intro i hi
            by_cases hκ : κ i = true
            · have := k1 i hκ; omega
            · simpa using hκ
          rcases Nat.lt_trichotomy c (at_ + m) with hc | hc | hc
          · right
            rw [hf c hc, hf (c - 1) (by omega), Bool.false_or, Bool.false_or] at hne
            have hce : c = at_ + K := by
              by_cases e1 : c < at_ + K
              · exfalso; apply hne
                rw [decide_eq_true (show at_ ≤ c - 1 by omega), decide_eq_true (show c - 1 < at_ + K by omega), decide_eq_true (show at_ ≤ c by omega), decide_eq_true e1]
              · by_cases e2 : c = at_ + K
                · exact e2
                · exfalso; apply hne
                  rw [decide_eq_false (show ¬ c - 1 < at_ + K by omega), decide_eq_false (show ¬ c < at_ + K by omega), Bool.and_false, Bool.and_false]
            have hK2 : K = m / 2 := by omega
            unfold hw
            have hq1 : c / 64 = at_ / 64 := by omega
            rw [hq1]
            have e1 : max a0 (64 * (at_ / 64)) = at_ := by omega
            have e2 : min b (64 * (at_ / 64) + 64) = at_ + m := by omega
            rw [e1, e2]
            omega
          · left; omega
          · refine k3 c hc h2 fun e => hne ?_
            have n1 : ¬ c - 1 < at_ + K := by omega
            have n2 : ¬ c < at_ + K := by omega
            rw [e, decide_eq_false n1, decide_eq_false n2, Bool.and_false, Bool.and_false]
        · rw [keeps, hm, hu]
          show l.length ≤ (keeps qs (layk l at_ u)).length
          split at hlk <;> omega
        · rw [keeps, hm, hu]
          show (keeps qs (layk l at_ u)).length ≤ _
          split at hlk <;> omega

theorem keeps_append : ∀ (a b : List (DW × Nat)) (l : List UInt8), keeps (a ++ b) l = keeps b (keeps a l)
  | [], b, l => rfl
  | (p, n) :: a, b, l => by rw [List.cons_append, keeps, keeps, keeps_append]

/-- What lasts of several writes' pieces, each write behind the one ahead. -/
theorem mask_many (id : Int) : ∀ (ts : List (List UInt8)) (a : Nat) (qs : List (DW × Nat)) (l : List UInt8) (n : Nat), qs.map (·.1) = (wpcs id a ts).take n → (∀ q ∈ qs, KeptOk q) →
    ∃ κ : Nat → Bool, (∀ i, κ i = true → a ≤ i ∧ i < a + ts.flatten.length) ∧ (∀ i, (keeps qs l).getD i 0 = if κ i then ts.flatten.getD (i - a) 0 else l.getD i 0) ∧
      (∀ pre t post, ts = pre ++ t :: post → CutsOk κ (a + pre.flatten.length) (a + pre.flatten.length + t.length)) ∧ l.length ≤ (keeps qs l).length ∧ (keeps qs l).length ≤ max l.length (a + ts.flatten.length)
  | [], a, qs, l, n, hq, _ => by
    have : qs = [] := by
      have := congrArg List.length hq
      simp [wpcs] at this
      exact this
    subst this
    refine ⟨fun _ => false, by simp, by simp [keeps], fun pre t post e => ?_, Nat.le_refl _, by simp only [keeps]; omega⟩
    have := congrArg List.length e
    simp at this
  | t :: ts, a, qs, l, n, hq, hok => by
    rw [wpcs, List.take_append] at hq
    obtain ⟨q1, q2, rfl, e1, e2⟩ := List.map_eq_append_iff.1 hq
    obtain ⟨κ1, k1, k2, k3, k4, k5⟩ := mask_one a (a + t.length) id t.length a t q1 l n (Nat.le_refl _) rfl (Nat.le_refl _) (.inr (.inl rfl)) e1 fun q h => hok q (List.mem_append_left _ h)
    obtain ⟨κ2, g1, g2, g3, g4, g5⟩ := mask_many id ts (a + t.length) q2 (keeps q1 l) _ e2 fun q h => hok q (List.mem_append_right _ h)
    have hfl : (t :: ts).flatten.length = t.length + ts.flatten.length := by rw [List.flatten_cons, List.length_append]
    have f1 : ∀ i, a + t.length ≤ i → κ1 i = false := fun i hi => by
      by_cases hκ : κ1 i = true
      · have := k1 i hκ; omega
      · simpa using hκ
    have f2 : ∀ i, i < a + t.length → κ2 i = false := fun i hi => by
      by_cases hκ : κ2 i = true
      · have := g1 i hκ; omega
      · simpa using hκ
    refine ⟨fun i => κ1 i || κ2 i, fun i hi => ?_, fun i => ?_, fun pre u post e => ?_, ?_, ?_⟩
    · dsimp only at hi
      rw [Bool.or_eq_true] at hi
      rw [hfl]
      rcases hi with hi | hi
      · have := k1 i hi; omega
      · have := g1 i hi; omega
    · rw [keeps_append, g2, k2, List.flatten_cons, get_append]
      dsimp only
      by_cases h2 : κ2 i = true
      · have := g1 i h2
        rw [if_pos h2, if_pos (by rw [h2, Bool.or_true]), if_neg (by omega)]
        congr 1
        omega
      · rw [if_neg h2]
        by_cases h1 : κ1 i = true
        · have := k1 i h1
          rw [if_pos h1, if_pos (by rw [h1, Bool.true_or]), if_pos (by omega)]
        · rw [if_neg h1, if_neg (by rw [Bool.or_eq_true]; exact fun h => h.elim h1 h2)]
    · intro c c1 c2 hne
      dsimp only at hne
      cases pre with
      | nil =>
        simp only [List.nil_append, List.cons.injEq] at e
        obtain ⟨rfl, rfl⟩ := e
        simp only [List.flatten_nil, List.length_nil, Nat.add_zero] at c1 c2 ⊢
        refine k3 c c1 c2 fun e => hne ?_
        rw [e, f2 c c2, f2 (c - 1) (by omega)]
      | cons v pre =>
        simp only [List.cons_append, List.cons.injEq] at e
        obtain ⟨rfl, rfl⟩ := e
        rw [List.flatten_cons, List.length_append, ← Nat.add_assoc] at c1 c2 ⊢
        refine g3 pre u post rfl c c1 c2 fun e => hne ?_
        rw [e, f1 c (by omega), f1 (c - 1) (by omega)]
    · rw [keeps_append]; omega
    · rw [keeps_append, hfl]; omega

/-! ### Marks of which a part lasts -/

theorem get_mark (n i : Nat) (h : i < 32) : (markN n).getD i 0 = UInt8.ofNat (n / 2 ^ (8 * (i % 8))) := by
  unfold markN
  rw [List.getD_eq_getElem?_getD, List.getElem?_map, List.getElem?_range h]
  rfl

theorem u8_inj {a b : Nat} (ha : a < 256) (hb : b < 256) (h : UInt8.ofNat a = UInt8.ofNat b) : a = b := by
  have := congrArg UInt8.toNat h
  rw [UInt8.toNat_ofNat', UInt8.toNat_ofNat'] at this
  omega

theorem u8_eq {a b : Nat} (h : UInt8.ofNat a = UInt8.ofNat b) : a % 256 = b % 256 := by
  have := congrArg UInt8.toNat h
  rwa [UInt8.toNat_ofNat', UInt8.toNat_ofNat'] at this

/-- A number's mark of which a part lasts is that number's, or no number's, but where it is cut in each of its four parts. -/
theorem mark_torn {k n : Nat} (κ : Nat → Bool) (hk : k < 65536) (hn : n < 65536) (h0 : n ≠ 0) (h : ∀ i, i < 32 → (markN n).getD i 0 = if κ i then (markN k).getD i 0 else 0) : n = k ∨ ∀ j, j < 4 → κ (8 * j) ≠ κ (8 * j + 1) := by
  by_cases hnk : n = k
  · exact .inl hnk
  refine .inr fun j hj e => ?_
  have a0 := h (8 * j) (by omega)
  have a1 := h (8 * j + 1) (by omega)
  rw [get_mark _ _ (by omega), get_mark _ _ (by omega), show 8 * j % 8 = 0 by omega] at a0
  rw [get_mark _ _ (by omega), get_mark _ _ (by omega), show (8 * j + 1) % 8 = 1 by omega] at a1
  rw [e] at a0
  by_cases hκ : κ (8 * j + 1) = true
  · rw [if_pos hκ] at a0 a1
    have b0 := u8_eq a0
    have b1 := u8_eq a1
    omega
  · rw [if_neg hκ] at a0 a1
    have b0 := u8_eq (b := 0) a0
    have b1 := u8_eq (b := 0) a1
    omega

/-- Where a wipe's pieces end is as where a write's do. All four cuts can't be. -/
theorem four_cuts {r a b E : Nat} (ha : a ≤ r) (hb : r + 37 ≤ b) (hE : r + 37 ≤ E) : ¬ ∀ j, j < 4 → (r + 5 + 8 * j) % 64 = 0 ∨ r + 5 + 8 * j = hw a b ((r + 5 + 8 * j) / 64) ∨ r + 5 + 8 * j = hw r E ((r + 5 + 8 * j) / 64) := by
  intro h
  have h0 := h 0 (by omega)
  have h1 := h 1 (by omega)
  have h2 := h 2 (by omega)
  have h3 := h 3 (by omega)
  clear h
  unfold hw at h0 h1 h2 h3
  simp only [Nat.mul_zero, Nat.add_zero, Nat.mul_one, Nat.reduceMul] at h0 h1 h2 h3
  obtain ⟨q, hq⟩ : ∃ q, (r + 5) / 64 = q := ⟨_, rfl⟩
  have c1 : (r + 5 + 8) / 64 = q ∨ (r + 5 + 8) / 64 = q + 1 := by omega
  have c2 : (r + 5 + 16) / 64 = q ∨ (r + 5 + 16) / 64 = q + 1 := by omega
  have c3 : (r + 5 + 24) / 64 = q ∨ (r + 5 + 24) / 64 = q + 1 := by omega
  rw [hq] at h0
  rcases c1 with c1 | c1 <;> rcases c2 with c2 | c2 <;> rcases c3 with c3 | c3 <;> rw [c1] at h1 <;> rw [c2] at h2 <;> rw [c3] at h3 <;> omega

end Go.X

/-! Torn records, read. -/
namespace Go.X

theorem get_val4 (l : List UInt8) : val4 l = (l.getD 0 0).toNat + 256 * (l.getD 1 0).toNat + 65536 * (l.getD 2 0).toNat + 16777216 * (l.getD 3 0).toNat := rfl

theorem drop_split (l : List UInt8) (a n : Nat) : l.drop a = (l.drop a).take n ++ l.drop (a + n) := by
  have := List.take_append_drop n (l.drop a)
  rw [List.drop_drop] at this
  exact this.symm

/-- What a record that is read tells. -/
theorem nextB_tells {M : Bk} {all last s m : List UInt8} {a : Nat} (h : nextB M all a last = some (s, m)) :
    a + 36 + s.length ≤ all.length ∧ 1 ≤ s.length ∧ val4 ((all.drop a).take 4) = s.length ∧ m = (all.drop (a + 4)).take 32 ∧ s = (all.drop (a + 36)).take s.length ∧ ∃ n, numOf (last ++ s) M = some n ∧ markN n = m := by
  obtain ⟨h1, h2, h3, _⟩ := nextB_some h
  unfold nextB at h
  split at h
  · cases h
  · dsimp only at h
    split at h
    · cases h
    · rename_i hn
      split at h
      · rename_i his
        simp only [Option.some.injEq, Prod.mk.injEq] at h
        obtain ⟨hs, hm⟩ := h
        have hl : s.length = val4 ((all.drop a).take 4) := by
          rw [← hs, List.length_take, List.length_drop]; omega
        refine ⟨h3, h1, hl.symm, hm.symm, by rw [hl]; exact hs.symm, ?_⟩
        rw [hs, hm] at his
        unfold Bk.is at his
        cases hnum : numOf (last ++ s) M with
        | none => rw [hnum] at his; cases his
        | some n => rw [hnum] at his; exact ⟨n, rfl, of_decide_eq_true his⟩
      · cases h

theorem u8_ext {a b : UInt8} (h : a.toNat = b.toNat) : a = b := UInt8.toNat_inj.1 h

/-- A record of which a part lasts is that record, or none, but where its mark is cut four times. -/
theorem next_torn {M : Bk} {C T m s s' m' rest : List UInt8} {r k : Nat} {κ : Nat → Bool} (hC : ∀ i, r ≤ i → C.getD i 0 = if κ i then T.getD i 0 else 0) (hT : T.drop r = recK k s ++ rest) (hk : numOf (m ++ s) M = some k)
    (hsl : s.length ≤ 1048833) (hM : M.length < 65536) (hcut : ¬ ∀ j, j < 4 → κ (r + 5 + 8 * j - 1) ≠ κ (r + 5 + 8 * j)) (hn : nextB M C r m = some (s', m')) : s' = s ∧ m' = markN k ∧ ∃ rest', C.drop r = recK k s ++ rest' := by
  obtain ⟨h1, h2, h3, h4, h5, n, h6, h7⟩ := nextB_tells hn
  have hTg : ∀ i, T.getD (r + i) 0 = (recK k s ++ rest).getD i 0 := fun i => by rw [← get_drop, hT]
  have hrl := recK_length k s
  have hml := markN_length k
  have hTm : ∀ i, i < 32 → T.getD (r + 4 + i) 0 = (markN k).getD i 0 := by
    intro i hi
    rw [Nat.add_assoc, hTg, get_append, if_pos (by omega)]
    unfold recK
    rw [List.append_assoc, get_append, if_neg (by rw [four_length]; omega), four_length, get_append, hml, if_pos (by omega)]
    congr 1
    omega
  have hTf : ∀ i, i < 4 → T.getD (r + i) 0 = (four s.length).getD i 0 := by
    intro i hi
    rw [hTg, get_append, if_pos (by omega)]
    unfold recK
    rw [List.append_assoc, get_append, if_pos (by rw [four_length]; omega)]
  have hnk : n = k := by
    have := mark_torn (k := k) (n := n) (fun i => κ (r + 4 + i)) (by have := (numOf_some hk).2.1; omega) (by have := (numOf_some h6).2.1; omega) (by have := (numOf_some h6).1; omega) fun i hi => by
      rw [h7, h4, get_take, if_pos hi, get_drop, hC _ (by omega), hTm i hi]
    refine this.resolve_right fun h => hcut fun j hj => ?_
    have := h j hj
    rwa [show r + 5 + 8 * j - 1 = r + 4 + 8 * j by omega, show r + 5 + 8 * j = r + 4 + (8 * j + 1) by omega]
  subst hnk
  have hss : s' = s := List.append_cancel_left (numOf_inj h6 hk)
  subst hss
  refine ⟨rfl, h7.symm, C.drop (r + 36 + s'.length), ?_⟩
  have e4 : (C.drop r).take 4 = four s'.length := by
    refine ext_get (by rw [List.length_take, List.length_drop, four_length]; omega) fun i => ?_
    by_cases hi : i < 4
    · rw [get_take, if_pos hi, get_drop]
      have hv : val4 ((C.drop r).take 4) = val4 (four s'.length) := by rw [h3, val4_four _ (by omega)]
      have key : ∀ j, j < 4 → ((C.drop r).take 4).getD j 0 = (four s'.length).getD j 0 ∨ ((C.drop r).take 4).getD j 0 = 0 := by
        intro j hj
        rw [get_take, if_pos hj, get_drop, hC _ (by omega)]
        by_cases hκ : κ (r + j) = true
        · rw [if_pos hκ, hTf j hj]; exact .inl rfl
        · rw [if_neg hκ]; exact .inr rfl
      rw [get_val4, get_val4] at hv
      have tn : ∀ j, j < 4 → (((C.drop r).take 4).getD j 0).toNat = ((four s'.length).getD j 0).toNat ∨ (((C.drop r).take 4).getD j 0).toNat = 0 := by
        intro j hj
        rcases key j hj with e | e
        · left; rw [e]
        · right; rw [e]; rfl
      have t0 := tn 0 (by omega)
      have t1 := tn 1 (by omega)
      have t2 := tn 2 (by omega)
      have t3 := tn 3 (by omega)
      have all : ∀ j, j < 4 → (((C.drop r).take 4).getD j 0).toNat = ((four s'.length).getD j 0).toNat := by
        intro j hj
        match j, hj with
        | 0, _ => omega
        | 1, _ => omega
        | 2, _ => omega
        | 3, _ => omega
      have := u8_ext (all i hi)
      rwa [get_take, if_pos hi, get_drop] at this
    · rw [get_past (by rw [List.length_take]; omega), get_past (by rw [four_length]; omega)]
  have e32 : (C.drop (r + 4)).take 32 = markN n := by rw [← h4, h7]
  have d1 : C.drop r = four s'.length ++ C.drop (r + 4) := by rw [← e4]; exact drop_split C r 4
  have d2 : C.drop (r + 4) = markN n ++ C.drop (r + 36) := by rw [← e32]; exact drop_split C (r + 4) 32
  have d3 : C.drop (r + 36) = s' ++ C.drop (r + 36 + s'.length) := by
    have := drop_split C (r + 36) s'.length
    rwa [← h5] at this
  rw [d1, d2, d3]
  unfold recK
  simp only [List.append_assoc]

/-- Where noughts stand there is no record. -/
theorem nextB_nought {M : Bk} {C m : List UInt8} {r : Nat} (h : ∀ i, r ≤ i → C.getD i 0 = 0) : nextB M C r m = none := by
  cases hn : nextB M C r m with
  | none => rfl
  | some x =>
    obtain ⟨s, m'⟩ := x
    obtain ⟨_, h2, h3, _⟩ := nextB_tells hn
    rw [get_val4] at h3
    simp only [get_take, get_drop] at h3
    rw [h _ (by omega), h _ (by omega), h _ (by omega), h _ (by omega)] at h3
    have : s.length = 0 := by rw [← h3]; rfl
    omega

theorem nextB_short {M : Bk} {C m : List UInt8} {r : Nat} (h : C.length < r + 37) : nextB M C r m = none := by
  cases hn : nextB M C r m with
  | none => rfl
  | some x =>
    obtain ⟨s, m'⟩ := x
    obtain ⟨h1, h2, _⟩ := nextB_tells hn
    omega

/-- What stands at a place is no record, whatever parts of it go. -/
inductive Dead (M : Bk) (C : List UInt8) (r : Nat) (m : List UInt8) : Prop
  | zero : (∀ i, r ≤ i → C.getD i 0 = 0) → Dead M C r m
  | short : C.length < r + 37 → Dead M C r m
  | torn (κ : Nat → Bool) (T s rest : List UInt8) (a b k : Nat) : numOf (m ++ s) M = some k → 1 ≤ s.length → s.length ≤ 1048833 → (∀ i, r ≤ i → C.getD i 0 = if κ i then T.getD i 0 else 0) → T.drop r = recK k s ++ rest →
      a ≤ r → r + 37 ≤ b → (∀ c, r < c → c < r + 37 → κ (c - 1) ≠ κ c → c % 64 = 0 ∨ c = hw a b (c / 64) ∨ c = hw r C.length (c / 64)) → nextB M C r m = none → Dead M C r m

theorem Dead.none {M : Bk} {C m : List UInt8} {r : Nat} (h : Dead M C r m) : nextB M C r m = .none := by
  cases h with
  | zero h => exact nextB_nought h
  | short h => exact nextB_short h
  | torn κ T s rest a b k _ _ _ _ _ _ _ _ h => exact h

/-- A wipe of which a part lasts leaves it so. -/
theorem Dead.wipe {M : Bk} {C m : List UInt8} {r : Nat} (h : Dead M C r m) (hM : M.length < 65536) {id : Int} {qs : List (DW × Nat)} {n : Nat} (hr : r ≤ C.length) (hq : qs.map (·.1) = (pcs (C.length - r) id r (List.replicate (C.length - r) 0)).take n)
    (hok : ∀ q ∈ qs, KeptOk q) : Dead M (keeps qs C) r m ∧ (keeps qs C).take r = C.take r ∧ (keeps qs C).length = C.length ∧ ((∀ i, r ≤ i → C.getD i 0 = 0) → keeps qs C = C) := by
  obtain ⟨ζ, k1, k2, k3, k4, k5⟩ := mask_one r C.length id (C.length - r) r (List.replicate (C.length - r) 0) qs C n (by rw [List.length_replicate]; omega) (by rw [List.length_replicate]; omega) (Nat.le_refl _) (.inr (.inl rfl)) hq hok
  have hlen : (keeps qs C).length = C.length := by omega
  have hg : ∀ i, (keeps qs C).getD i 0 = if ζ i then 0 else C.getD i 0 := fun i => by rw [k2, get_zeros]
  refine ⟨?_, ?_, hlen, fun hz => ext_get hlen fun i => ?_⟩
  · cases h with
    | zero h =>
      refine .zero fun i hi => ?_
      rw [hg, h i hi]
      split <;> rfl
    | short h => exact .short (by omega)
    | torn κ T s rest a b k hk h1 h2 hC hT ha hb hcut hn =>
      by_cases hE : C.length < r + 37
      · exact .short (by omega)
      have hC' : ∀ i, r ≤ i → (keeps qs C).getD i 0 = if (κ i && !ζ i) then T.getD i 0 else 0 := by
        intro i hi
        rw [hg, hC i hi]
        by_cases hz : ζ i = true
        · rw [if_pos hz, if_neg (by rw [hz]; simp)]
        · rw [if_neg hz]
          by_cases hκ : κ i = true
          · rw [if_pos hκ, if_pos (by rw [hκ]; simpa using hz)]
          · rw [if_neg hκ, if_neg (by rw [Bool.and_eq_true]; exact fun h => hκ h.1)]
      have hcut' : ∀ c, r < c → c < r + 37 → (κ (c - 1) && !ζ (c - 1)) ≠ (κ c && !ζ c) → c % 64 = 0 ∨ c = hw a b (c / 64) ∨ c = hw r C.length (c / 64) := by
        intro c c1 c2 hne
        by_cases e : κ (c - 1) = κ c
        · by_cases e2 : ζ (c - 1) = ζ c
          · exact absurd (by rw [e, e2]) hne
          · rcases k3 c c1 (by omega) e2 with h | h
            · exact .inl h
            · exact .inr (.inr h)
        · exact hcut c c1 c2 e
      refine .torn (fun i => κ i && !ζ i) T s rest a b k hk h1 h2 hC' hT ha hb (by rw [hlen]; exact hcut') ?_
      cases hn' : nextB M (keeps qs C) r m with
      | none => rfl
      | some x =>
        exfalso
        obtain ⟨s', m'⟩ := x
        obtain ⟨_, _, rest', hd⟩ := next_torn hC' hT hk h2 hM (fun h => four_cuts ha hb (show r + 37 ≤ C.length by omega) fun j hj => hcut' _ (by omega) (by omega) (h j hj)) hn'
        have hrl := recK_length k s
        have hl : 36 + s.length + rest'.length = C.length - r := by
          have := congrArg List.length hd
          rw [List.length_drop, List.length_append, hrl, hlen] at this
          omega
        have hrec : C.drop r = recK k s ++ C.drop (r + (36 + s.length)) := by
          have : (C.drop r).take (36 + s.length) = recK k s := by
            refine ext_get (by rw [List.length_take, List.length_drop, hrl]; omega) fun i => ?_
            by_cases hi : i < 36 + s.length
            · have e1 : (keeps qs C).getD (r + i) 0 = (recK k s).getD i 0 := by
                rw [← get_drop, hd, get_append, if_pos (by omega)]
              have e2 : T.getD (r + i) 0 = (recK k s).getD i 0 := by
                rw [← get_drop, hT, get_append, if_pos (by omega)]
              rw [get_take, if_pos hi, get_drop, hC _ (by omega)]
              rw [hg, hC _ (by omega)] at e1
              by_cases hκ : κ (r + i) = true
              · rw [if_pos hκ, e2]
              · rw [if_neg hκ] at e1 ⊢
                rw [← e1]
                split <;> rfl
            · rw [get_past (by rw [List.length_take]; omega), get_past (by omega)]
          rw [← this, ← List.drop_drop]
          exact (List.take_append_drop _ _).symm
        have hit := nextB_hit (M := M) (pre := C.take r) (m := m) (s := s) (rest := C.drop (r + (36 + s.length))) hk h1 h2
        rw [← hrec, List.take_append_drop, List.length_take, Nat.min_eq_left hr, hn] at hit
        cases hit
  · refine ext_get (by rw [List.length_take, List.length_take, hlen]) fun i => ?_
    rw [get_take, get_take]
    by_cases hi : i < r
    · rw [if_pos hi, if_pos hi, hg]
      rw [if_neg]
      intro hz
      have := k1 i hz
      omega
    · rw [if_neg hi, if_neg hi]
  · rw [hg]
    by_cases hz' : ζ i = true
    · rw [if_pos hz', hz i (k1 i hz').1]
    · rw [if_neg hz']

/-! ### All that is read of a torn segment -/

/-- Records of one write, of which a part lasts: some are read, then none is. -/
theorem torn_one {M : Bk} {C T : List UInt8} {κ : Nat → Bool} {a b : Nat} (hM : M.length < 65536) (hC : ∀ i, C.getD i 0 = if κ i then T.getD i 0 else 0) (hcut : CutsOk κ a b) :
    ∀ {rs : List (List UInt8)} {m bs m1 : List UInt8} (pre : List UInt8) (rest : List UInt8), Enc M m rs bs m1 → T = pre ++ (bs ++ rest) → C.take pre.length = pre → a ≤ pre.length → pre.length + bs.length = b →
    (∃ rest', C = pre ++ (bs ++ rest')) ∨ ∃ rs1 rs2 b1 b2 m2, rs = rs1 ++ rs2 ∧ rs2 ≠ [] ∧ bs = b1 ++ b2 ∧ Enc M m rs1 b1 m2 ∧ Enc M m2 rs2 b2 m1 ∧ (∃ rest', C = pre ++ (b1 ++ rest')) ∧ Dead M C (pre.length + b1.length) m2
  | [], m, bs, m1, pre, rest, h, hT, hp, _, _ => by
    cases h
    exact .inl ⟨C.drop pre.length, by rw [List.nil_append]; conv => rhs; arg 1; rw [← hp]
                                      exact (List.take_append_drop _ _).symm⟩
  | s :: rs, m, bs, m1, pre, rest, h, hT, hp, ha, hb => by
    cases h with
    | cons hk h1 h2 h3 =>
      rename_i bs k
      have hrl := recK_length k s
      have hTd : T.drop pre.length = recK k s ++ (bs ++ rest) := by rw [hT, List.drop_left, List.append_assoc]
      have hrb : pre.length + 37 ≤ b := by rw [← hb, List.length_append, hrl]; omega
      cases hn : nextB M C pre.length m with
      | none =>
        refine .inr ⟨[], s :: rs, [], recK k s ++ bs, m, rfl, by simp, rfl, .nil m, .cons hk h1 h2 h3, ⟨C.drop pre.length, ?_⟩, ?_⟩
        · rw [List.nil_append]; conv => rhs; arg 1; rw [← hp]
          exact (List.take_append_drop _ _).symm
        · rw [List.length_nil, Nat.add_zero]
          refine .torn κ T s (bs ++ rest) a b k hk h1 h2 (fun i _ => hC i) hTd ha hrb (fun c c1 c2 hne => ?_) hn
          rcases hcut c (by omega) (by omega) hne with h | h
          · exact .inl h
          · exact .inr (.inl h)
      | some x =>
        obtain ⟨s', m'⟩ := x
        obtain ⟨_, _, rest', hd⟩ := next_torn (fun i _ => hC i) hTd hk h2 hM (fun h => four_cuts ha hrb (Nat.le_refl _) fun j hj => (hcut _ (by omega) (by omega) (h j hj)).imp_right .inl) hn
        have hCe : C = pre ++ (recK k s ++ rest') := by
          conv => lhs; rw [← List.take_append_drop pre.length C, hp, hd]
        have ih := torn_one hM hC hcut (pre ++ recK k s) rest h3 (by rw [hT]; simp only [List.append_assoc]) (by rw [hCe, ← List.append_assoc]; exact List.take_left' rfl) (by rw [List.length_append]; omega) (by rw [← hb, List.length_append, List.length_append]; omega)
        rcases ih with ⟨r2, e⟩ | ⟨rs1, rs2, b1, b2, m2, e1, e0, e2, e3, e4, ⟨r2, e5⟩, e6⟩
        · exact .inl ⟨r2, by rw [e]; simp only [List.append_assoc]⟩
        · refine .inr ⟨s :: rs1, rs2, recK k s ++ b1, b2, m2, by rw [e1]; rfl, e0, by rw [e2, List.append_assoc], .cons hk h1 h2 e3, e4, ⟨r2, by rw [e5]; simp only [List.append_assoc]⟩, ?_⟩
          rw [List.length_append] at e6 ⊢
          rwa [← Nat.add_assoc]

/-- Several writes' records. -/
inductive EncC (M : Bk) : List UInt8 → List (List (List UInt8)) → List (List UInt8) → List UInt8 → Prop
  | nil (m : List UInt8) : EncC M m [] [] m
  | cons {m b m1 m2 : List UInt8} {rs : List (List UInt8)} {cs : List (List (List UInt8))} {bs : List (List UInt8)} : Enc M m rs b m1 → EncC M m1 cs bs m2 → EncC M m (rs :: cs) (b :: bs) m2

theorem EncC.more {M : Bk} (X : Bk) {m m' : List UInt8} {cs : List (List (List UInt8))} {bs : List (List UInt8)} (h : EncC M m cs bs m') : EncC (M ++ X) m cs bs m' := by
  induction h with
  | nil m => exact .nil m
  | cons h1 _ ih => exact .cons (h1.more X) ih

theorem EncC.flat {M : Bk} {m m' : List UInt8} {cs : List (List (List UInt8))} {bs : List (List UInt8)} (h : EncC M m cs bs m') : Enc M m cs.flatten bs.flatten m' := by
  induction h with
  | nil m => exact .nil m
  | cons h1 _ ih => rw [List.flatten_cons, List.flatten_cons]; exact h1.append ih

theorem EncC.snoc {M : Bk} {m m' : List UInt8} {cs : List (List (List UInt8))} {bs : List (List UInt8)} (h : EncC M m cs bs m') {rs : List (List UInt8)} {b m2 : List UInt8} (h2 : Enc M m' rs b m2) : EncC M m (cs ++ [rs]) (bs ++ [b]) m2 := by
  induction h with
  | nil m => exact .cons h2 (.nil _)
  | cons h1 _ ih => exact .cons h1 (ih h2)

/-- Records of several writes, of which parts last: some are read, then none is. -/
theorem torn_many {M : Bk} {C T : List UInt8} {κ : Nat → Bool} (hM : M.length < 65536) (hC : ∀ i, C.getD i 0 = if κ i then T.getD i 0 else 0) {m m1 : List UInt8} {cs : List (List (List UInt8))} {ts : List (List UInt8)} (h : EncC M m cs ts m1) :
    ∀ (pre : List UInt8), T = pre ++ ts.flatten → C.take pre.length = pre → (∀ p t q, ts = p ++ t :: q → CutsOk κ (pre.length + p.flatten.length) (pre.length + p.flatten.length + t.length)) →
    ∃ rs1 rs2 b1 b2 m2, cs.flatten = rs1 ++ rs2 ∧ ts.flatten = b1 ++ b2 ∧ Enc M m rs1 b1 m2 ∧ Enc M m2 rs2 b2 m1 ∧ (∃ rest', C = pre ++ (b1 ++ rest')) ∧ Dead M C (pre.length + b1.length) m2 := by
  induction h with
  | nil m =>
    intro pre hT hp _
    refine ⟨[], [], [], [], m, rfl, rfl, .nil m, .nil m, ⟨C.drop pre.length, ?_⟩, .zero fun i hi => ?_⟩
    · rw [List.nil_append]; conv => rhs; arg 1; rw [← hp]
      exact (List.take_append_drop _ _).symm
    · rw [hC]
      split
      · rw [hT]
        exact get_past (by simpa using hi)
      · rfl
  | @cons m b m1 m2 rs cs ts h1 h2 ih =>
    intro pre hT hp hcuts
    rw [List.flatten_cons] at hT
    have hc0 := hcuts [] b ts rfl
    simp only [List.flatten_nil, List.length_nil, Nat.add_zero] at hc0
    rcases torn_one hM hC hc0 pre ts.flatten h1 hT hp (Nat.le_refl _) rfl with ⟨rest', e⟩ | ⟨rs1, rs2, b1, b2, m3, e1, _, e2, e3, e4, e5, e6⟩
    · obtain ⟨rs1, rs2, b1, b2, m3, e1, e2, e3, e4, ⟨r5, e5⟩, e6⟩ := ih (pre ++ b) (by rw [hT, List.append_assoc]) (by rw [e, ← List.append_assoc]; exact List.take_left' rfl) fun p t q hq => by
        have := hcuts (b :: p) t q (by rw [hq]; rfl)
        rw [List.flatten_cons, List.length_append] at this
        rwa [List.length_append, show pre.length + b.length + p.flatten.length = pre.length + (b.length + p.flatten.length) from Nat.add_assoc _ _ _]
      refine ⟨rs ++ rs1, rs2, b ++ b1, b2, m3, by rw [List.flatten_cons, e1, List.append_assoc], by rw [List.flatten_cons, e2, List.append_assoc], h1.append e3, e4, ⟨r5, by rw [e5]; simp only [List.append_assoc]⟩, ?_⟩
      rw [List.length_append] at e6 ⊢
      rwa [← Nat.add_assoc]
    · exact ⟨rs1, rs2 ++ cs.flatten, b1, b2 ++ ts.flatten, m3, by rw [List.flatten_cons, e1, List.append_assoc], by rw [List.flatten_cons, e2, List.append_assoc], e3, e4.append h2.flat, e5, e6⟩

end Go.X


/-! A device behind a crash: what its segments hold; what opening finds. -/
namespace Go.X

/-- What a segment's bytes tell: records, and nothing behind. -/
structure Found (M : Bk) (n : Nat) (C : List UInt8) (rs : List (List UInt8)) (bs m : List UInt8) : Prop where
  enc : Enc M (firstM n) rs bs m
  pre : ∃ rest, C = bs ++ rest
  dead : Dead M C bs.length m

theorem Found.load {M : Bk} {n : Nat} {C bs m : List UInt8} {rs : List (List UInt8)} (h : Found M n C rs bs m) {c : Bool × List (List UInt8)} (hc : cores rs (false, []) = some c) : loadF M C n = ⟨bs.length, m, c.1, c.2⟩ := by
  obtain ⟨rest, e⟩ := h.pre
  have hn := h.dead.none
  rw [e] at hn ⊢
  exact loadF_enc h.enc hc hn

theorem Found.len {M : Bk} {n : Nat} {C bs m : List UInt8} {rs : List (List UInt8)} (h : Found M n C rs bs m) : bs.length ≤ C.length := by
  obtain ⟨rest, e⟩ := h.pre
  rw [e, List.length_append]; omega

theorem Found.take {M : Bk} {n : Nat} {C bs m : List UInt8} {rs : List (List UInt8)} (h : Found M n C rs bs m) : C.take bs.length = bs := by
  obtain ⟨rest, e⟩ := h.pre
  rw [e]; exact List.take_left' rfl

/-- Records with noughts behind. -/
theorem found_pad {M : Bk} {n : Nat} {rs : List (List UInt8)} {bs m : List UInt8} (h : Enc M (firstM n) rs bs m) (E : Nat) : Found M n (pad bs E) rs bs m :=
  ⟨h, ⟨_, rfl⟩, .zero fun i hi => by rw [get_pad, get_past hi]⟩

theorem loadW_mid {D : DD} {A B : List DF} {f : DF} (hD : D.files = A ++ f :: B) (hr : Rising D.files) (ho : D.off = false) {n : Nat} (hn : f.name = nm n) (M : Bk) : loadW D M n = some (loadF M f.seen n) := by
  unfold loadW
  rw [← hn, size_mid hD hr ho]
  dsimp only
  rw [if_neg (fun h => h rfl)]
  have := read_mid hD hr ho 0 f.seen.length
  rw [List.drop_zero, List.take_length] at this
  have e : D.read f.name 0 (f.seen.length : Int) = (f.seen, 0) := this
  rw [e, if_neg (fun h => h rfl)]

/-! ### A file whose writes may not have lasted -/

/-- A segment's file: what lasts of it, what waits. -/
structure Half (W : List DW) (M : Bk) (n : Nat) (f : DF) (E0 : Nat) (rs0 : List (List UInt8)) (P m0 : List UInt8) (cs : List (List (List UInt8))) (ts : List (List UInt8)) (m1 : List UInt8) : Prop where
  name : f.name = nm n
  enc0 : Enc M (firstM n) rs0 P m0
  encC : EncC M m0 cs ts m1
  last : f.last = pad P E0
  wait : ∃ k, W.filter (fun p => p.id == f.id) = (wpcs f.id P.length ts).take k

theorem Half.crash {W : List DW} {M : Bk} {n E0 : Nat} {f : DF} {rs0 : List (List UInt8)} {P m0 m1 : List UInt8} {cs : List (List (List UInt8))} {ts : List (List UInt8)} (h : Half W M n f E0 rs0 P m0 cs ts m1) (hM : M.length < 65536) (xs : List Int) :
    ∃ rs1 rs2 b1 m2, cs.flatten = rs1 ++ rs2 ∧ Found M n (fatesF (W.zip xs) f).last (rs0 ++ rs1) (P ++ b1) m2 ∧ (fatesF (W.zip xs) f).last.length ≤ max (max P.length E0) (P.length + ts.flatten.length) ∧ (rs2 = [] → b1 = ts.flatten) := by
  obtain ⟨qs, q1, q2, q3⟩ := fates_keeps f.id W xs f rfl
  obtain ⟨k, hk⟩ := h.wait
  rw [hk] at q1
  obtain ⟨κ, k1, k2, k3, k4, k5⟩ := mask_many f.id ts P.length qs f.last k q1 q2
  rw [q3]
  obtain ⟨C, hC⟩ : ∃ C, keeps qs f.last = C := ⟨_, rfl⟩
  rw [hC] at k2 k4 k5 ⊢
  rw [h.last] at k2 k4 k5
  rw [pad_length] at k4 k5
  have hget : ∀ i, C.getD i 0 = if (decide (i < P.length) || κ i) then (P ++ ts.flatten).getD i 0 else 0 := by
    intro i
    rw [k2, get_append, get_pad]
    by_cases hκ : κ i = true
    · have := k1 i hκ
      rw [if_pos hκ, if_pos (by rw [hκ, Bool.or_true]), if_neg (by omega)]
    · rw [if_neg hκ]
      by_cases hi : i < P.length
      · rw [if_pos (by rw [decide_eq_true hi, Bool.true_or]), if_pos hi]
      · rw [if_neg (by rw [decide_eq_false hi, Bool.false_or]; exact hκ), get_past (by omega)]
  obtain ⟨rs1, rs2, b1, b2, m2, e1, e2, e3, e4, ⟨rest', e5⟩, e6⟩ := torn_many hM hget h.encC P rfl (by
      refine ext_get (by rw [List.length_take]; omega) fun i => ?_
      rw [get_take]
      by_cases hi : i < P.length
      · rw [if_pos hi, hget, decide_eq_true hi, Bool.true_or, if_pos rfl, get_append, if_pos hi]
      · rw [if_neg hi, get_past (by omega)]) fun p t q hq c c1 c2 hne => by
    refine k3 p t q hq c c1 c2 fun e => hne ?_
    rw [e, decide_eq_false (show ¬ c - 1 < P.length by omega), decide_eq_false (show ¬ c < P.length by omega)]
  refine ⟨rs1, rs2, b1, m2, e1, ⟨h.enc0.append e3, ⟨rest', by rw [e5, List.append_assoc]⟩, by rw [List.length_append]; exact e6⟩, k5, fun h0 => ?_⟩
  subst h0
  cases e4
  rw [e2, List.append_nil]

/-! ### A device behind a crash -/

/-- The power is on; a segment, and perhaps the next one, half made or whole. -/
structure Rec (D : DD) (M : Bk) (Q : List (List UInt8) → Prop) (n : Nat) (f : DF) (rs : List (List UInt8)) (bs m : List UInt8) (out : List (List UInt8)) : Prop where
  off : D.off = false
  wait : D.wait = []
  rising : Rising D.files
  made : f.id < D.made
  most : D.most ≤ 8192
  fuse : -1 ≤ D.fuse
  room : (takesAll D.files : Int) ≤ D.most
  name : f.name = nm n
  same : f.seen = f.last
  found : Found M n f.last rs bs m
  core : cores rs (false, []) = some (true, out)
  ok : Q out
  files : D.files = [f] ∨ ∃ g rs' bs' m' c, D.files = [f, g] ∧ g.name = nm (n + 1) ∧ g.seen = g.last ∧ g.id < D.made ∧ g.id ≠ f.id ∧ Found M (n + 1) g.last rs' bs' m' ∧ cores rs' (false, []) = some c ∧ (c.1 = true → g.last = bs' ∧ Q c.2)

theorem segsW_one {D : DD} {f : DF} {n : Nat} (h : D.files = [f]) (hn : f.name = nm n) (hb : n < 100000000) : segsW D = [n] := by
  unfold segsW DD.names
  rw [h]
  simp only [List.map_cons, List.map_nil, List.reverse_cons, List.reverse_nil, List.nil_append, List.filterMap_cons, List.filterMap_nil, hn, nm, str_toList, segNum_segName n hb]

theorem segsW_two {D : DD} {f g : DF} {n k : Nat} (h : D.files = [f, g]) (hn : f.name = nm n) (hk : g.name = nm k) (hb : n < 100000000) (hb2 : k < 100000000) : segsW D = [k, n] := by
  unfold segsW DD.names
  rw [h]
  simp only [List.map_cons, List.map_nil, List.reverse_cons, List.reverse_nil, List.nil_append, List.cons_append, List.filterMap_cons, List.filterMap_nil, hn, hk, nm, str_toList, segNum_segName n hb, segNum_segName k hb2]

/-- What a wipe leaves of a device with one file. -/
theorem wipe_one {D : DD} {n : Nat} {f : DF} {bs : List UInt8} {l : LG} (hf : D.files = [f]) (ho : D.off = false) (hw : D.wait = []) (hmost : D.most ≤ 8192) (hfuse : -1 ≤ D.fuse) (hroom : (takesAll D.files : Int) ≤ D.most)
    (hname : f.name = nm n) (hsame : f.seen = f.last) (hF : ∃ rest, f.last = bs ++ rest) (hln : l.n = n) (hle : l.end_ = bs.length) :
    ((wipeW D l).1 = 0 ∧ (∃ f', (wipeW D l).2.files = [f'] ∧ f'.name = f.name ∧ f'.id = f.id ∧ f'.last = pad bs f.last.length ∧ f'.seen = f'.last) ∧ (wipeW D l).2.off = false ∧ (wipeW D l).2.wait = [] ∧ (wipeW D l).2.most = D.most ∧ (wipeW D l).2.made = D.made ∧
      -1 ≤ (wipeW D l).2.fuse ∧ (D.fuse = -1 → (wipeW D l).2.fuse = -1) ∧ (f.last = pad bs f.last.length → (wipeW D l).2 = D)) ∨
    (D.fuse ≠ -1 ∧ (wipeW D l).1 = 14 ∧ (wipeW D l).2.off = true ∧ (wipeW D l).2.most = D.most ∧ (wipeW D l).2.made = D.made ∧ ∃ f' k, (wipeW D l).2.files = [f'] ∧ f'.name = f.name ∧ f'.id = f.id ∧ f'.last = f.last ∧
      (wipeW D l).2.wait = (pcs (f.last.length - bs.length) f.id bs.length (List.replicate (f.last.length - bs.length) 0)).take k) := by
  have hr : Rising D.files := by rw [hf]; exact rising_one f
  have hD : D.files = [] ++ f :: [] := hf
  obtain ⟨rest, hrest⟩ := hF
  have hlen : bs.length ≤ f.last.length := by rw [hrest, List.length_append]; omega
  have hrl : rest.length = f.last.length - bs.length := by rw [hrest, List.length_append]; omega
  have hsz := size_mid hD hr ho
  rw [hname] at hsz
  have hrd := read_mid hD hr ho bs.length (f.last.length - bs.length)
  rw [hname, hsame] at hrd
  have hrd2 : (f.last.drop bs.length).take (f.last.length - bs.length) = rest := by
    rw [← hrl]
    conv => lhs; rw [hrest, List.drop_left, List.take_length]
  rw [hrd2] at hrd
  have htk : takesAll D.files = secs f.last.length := by
    rw [hf]; simp [takesAll, DF.takes, hsame]
  have hbig : f.last.length ≤ 2097152 := by
    rw [htk] at hroom
    unfold secs at hroom
    omega
  obtain ⟨W, hW⟩ : ∃ W, wipeW D l = W := ⟨_, rfl⟩
  rw [hW]
  unfold wipeW at hW
  rw [hln, hle, hsz, hsame] at hW
  dsimp only at hW
  rw [if_neg (by decide), show (f.last.length : Int) - (bs.length : Int) = ((f.last.length - bs.length : Nat) : Int) by omega, hrd] at hW
  dsimp only at hW
  by_cases hz : allZ rest = true
  · rw [if_pos (.inr hz)] at hW
    subst hW
    left
    have hp : f.last = pad bs f.last.length := by
      have hz' := (allZ_iff rest).1 hz
      refine ext_get (by rw [pad_length]; omega) fun i => ?_
      rw [get_pad, hrest, get_append]
      split
      · rfl
      · rename_i h
        rw [get_past (a := bs) (by omega)]
        by_cases h2 : i - bs.length < rest.length
        · rw [List.getD_eq_getElem?_getD, List.getElem?_eq_getElem h2]
          exact hz' _ (List.getElem_mem h2)
        · exact get_past (by omega)
    exact ⟨rfl, ⟨f, hf, rfl, rfl, hp, hsame⟩, ho, hw, rfl, rfl, hfuse, fun h => h, fun _ => rfl⟩
  · rw [if_neg (by rintro (h | h); exact h rfl; exact hz h)] at hW
    have hfree : ¬ ((List.replicate rest.length (0 : UInt8)) ≠ [] ∧ D.free < (secs (bs.length + (List.replicate rest.length (0 : UInt8)).length) : Int) - f.takes) := by
      rintro ⟨_, h⟩
      rw [List.length_replicate, show bs.length + rest.length = f.last.length by omega] at h
      have ht : f.takes = secs f.last.length := by simp [DF.takes, hsame]
      unfold DD.free at h
      rw [ht] at h
      omega
    have hwr := write_yes hD hr ho (a := bs.length) (t := List.replicate rest.length 0) (by rw [List.length_replicate]; omega) hfree
    rw [hname] at hwr
    rw [hwr] at hW
    obtain ⟨g1, g2, g3, g4, g5⟩ := wr_cases (List.replicate rest.length (0 : UInt8)).length f.id bs.length (List.replicate rest.length 0) ⟨f.seen, D.wait, D.fuse, D.count, false⟩ (Nat.le_refl _) rfl hfuse
    obtain ⟨R, hR⟩ : ∃ R, wr (List.replicate rest.length (0 : UInt8)).length f.id bs.length (List.replicate rest.length 0) ⟨f.seen, D.wait, D.fuse, D.count, false⟩ = R := ⟨_, rfl⟩
    rw [hR] at hW g1 g2 g3 g4 g5
    dsimp only at g4 g5
    have hnz : ¬ f.last = pad bs f.last.length := by
      intro e
      apply hz
      rw [allZ_iff]
      intro b hb
      obtain ⟨i, hi, rfl⟩ := List.getElem_of_mem hb
      have e1 : f.last.getD (bs.length + i) 0 = rest[i] := by
        rw [hrest, get_append, if_neg (by omega), show bs.length + i - bs.length = i by omega, List.getD_eq_getElem?_getD, List.getElem?_eq_getElem hi]
        rfl
      rw [← e1, e, get_pad, get_past (by omega)]
    rcases g5 with ⟨a1, a2, a3⟩ | ⟨a1, k, a2, a3⟩
    · left
      rw [a1] at hW
      simp only [downE, ne_eq, not_true_eq_false, if_false] at hW
      have hon : (D.wrote [] f [] R).off = false := a1
      rw [sync_on hon] at hW
      subst hW
      rw [hw, List.nil_append] at a3
      have hlay : (pcs (List.replicate rest.length (0 : UInt8)).length f.id bs.length (List.replicate rest.length 0)).foldl lay f.last = pad bs f.last.length := by
        refine ext_get ?_ fun i => ?_
        · rw [lays_length _ _ _ _ _ (Nat.le_refl _), pad_length, List.length_replicate]
          split <;> omega
        · rw [get_lays _ _ _ _ _ _ (Nat.le_refl _), get_pad, get_zeros, List.length_replicate, hrest, get_append]
          by_cases h1 : i < bs.length
          · rw [if_neg (by omega), if_pos h1]
          · rw [get_past (a := bs) (by omega)]
            split
            · rfl
            · exact get_past (by omega)
      have hsync := sync_pcs (List.replicate rest.length (0 : UInt8)).length bs.length (List.replicate rest.length 0) { f with seen := R.seen } (Nat.le_refl _)
      have hsync : syncF (D.wrote [] f [] R).wait { f with seen := R.seen } = { f with seen := R.seen, last := pad bs f.last.length } := by
        rw [← hlay]
        show syncF R.wait _ = _
        rw [a3]
        exact hsync
      refine ⟨rfl, ⟨{ f with seen := R.seen, last := pad bs f.last.length }, ?_, rfl, rfl, rfl, ?_⟩, a1, rfl, rfl, rfl, g1, fun h => (g4 h).2, fun h => absurd h hnz⟩
      · show [syncF (D.wrote [] f [] R).wait { f with seen := R.seen }] = _
        rw [hsync]
      · show R.seen = pad bs f.last.length
        rw [a2, hsame]
        exact hlay
    · right
      rw [a1] at hW
      have h14 : ¬ (14 : Int) = 0 := by decide
      simp only [downE, ne_eq, h14, not_false_eq_true, if_true] at hW
      subst hW
      refine ⟨(fun e => by have := (g4 e).1; rw [a1] at this; cases this), rfl, a1, rfl, rfl, { f with seen := R.seen }, k, rfl, rfl, rfl, rfl, ?_⟩
      show R.wait = _
      rw [a3, hw, List.nil_append, List.length_replicate, hrl]

theorem crash_files {D : DD} (hw : D.wait = []) (hs : ∀ f ∈ D.files, f.seen = f.last) (xs : List Int) : D.crash xs = { D with fuse := -1, off := false } := by
  unfold DD.crash
  rw [hw]
  have : D.files.map (fun f => reborn (fatesF (([] : List DW).zip xs) f)) = D.files := by
    have e : ∀ l : List DF, (∀ f ∈ l, f.seen = f.last) → l.map (fun f => reborn (fatesF (([] : List DW).zip xs) f)) = l := by
      intro l
      induction l with
      | nil => intro _; rfl
      | cons f l ih =>
        intro h
        rw [List.map_cons, ih fun g hg => h g (List.mem_cons_of_mem _ hg)]
        congr 1
        have := h f List.mem_cons_self
        obtain ⟨i, nm, la, se⟩ := f
        dsimp only at this
        subst this
        rfl
    exact e _ hs
  obtain ⟨fs, w, mo, fu, of, co, ma⟩ := D
  dsimp only at *
  subst hw
  rw [← this]
  simp only [DD.mk.injEq, and_true]
  rw [this]
  exact this

theorem Rec.sames {D : DD} {M : Bk} {Q : List (List UInt8) → Prop} {n : Nat} {f : DF} {rs : List (List UInt8)} {bs m : List UInt8} {out : List (List UInt8)} (h : Rec D M Q n f rs bs m out) : ∀ g ∈ D.files, g.seen = g.last := by
  intro g hg
  rcases h.files with e | ⟨g', _, _, _, _, e, _, e2, _⟩
  · rw [e] at hg
    rw [List.mem_singleton.1 hg]; exact h.same
  · rw [e] at hg
    rcases List.mem_cons.1 hg with rfl | hg
    · exact h.same
    · rw [List.mem_singleton.1 hg]; exact e2

/-- Another fuse. -/
theorem Rec.fused {D : DD} {M : Bk} {Q : List (List UInt8) → Prop} {n : Nat} {f : DF} {rs : List (List UInt8)} {bs m : List UInt8} {out : List (List UInt8)} (h : Rec D M Q n f rs bs m out) (k : Int) (hk : -1 ≤ k) : Rec { D with fuse := k } M Q n f rs bs m out :=
  ⟨h.off, h.wait, h.rising, h.made, h.most, hk, h.room, h.name, h.same, h.found, h.core, h.ok, h.files⟩

theorem Rec.crash {D : DD} {M : Bk} {Q : List (List UInt8) → Prop} {n : Nat} {f : DF} {rs : List (List UInt8)} {bs m : List UInt8} {out : List (List UInt8)} (h : Rec D M Q n f rs bs m out) (xs : List Int) : D.crash xs = { D with fuse := -1 } ∧ Rec (D.crash xs) M Q n f rs bs m out := by
  have e : D.crash xs = { D with fuse := -1 } := by
    rw [crash_files h.wait h.sames]
    have := h.off
    obtain ⟨fs, w, mo, fu, of, co, ma⟩ := D
    dsimp only at *
    rw [this]
  exact ⟨e, by rw [e]; exact h.fused (-1) (Int.le_refl _)⟩

/-- One segment, whole, noughts behind. -/
structure Clean (D : DD) (M : Bk) (Q : List (List UInt8) → Prop) (n : Nat) (f : DF) (rs : List (List UInt8)) (bs m : List UInt8) (out : List (List UInt8)) : Prop where
  rec_ : Rec D M Q n f rs bs m out
  one : D.files = [f]
  pads : f.last = pad bs f.last.length

/-- What opening a device with one segment does. -/
theorem wipe_rec {D : DD} {M : Bk} {Q : List (List UInt8) → Prop} {n : Nat} {f : DF} {rs : List (List UInt8)} {bs m : List UInt8} {out : List (List UInt8)} (h : Rec D M Q n f rs bs m out) (h1 : D.files = [f]) (hM : M.length < 65536) {l : LG} (hn : l.n = n) (hl : l.end_ = bs.length) :
    ((wipeW D l).1 = 0 ∧ (∃ f', Clean (wipeW D l).2 M Q n f' rs bs m out) ∧ (D.fuse = -1 → (wipeW D l).2.fuse = -1) ∧ (f.last = pad bs f.last.length → (wipeW D l).2 = D)) ∨
    (D.fuse ≠ -1 ∧ (wipeW D l).1 = 14 ∧ ∀ xs, ∃ f', Rec ((wipeW D l).2.crash xs) M Q n f' rs bs m out) := by
  have htk : takesAll D.files = secs f.last.length := by rw [h1]; simp [takesAll, DF.takes, h.same]
  have hroom := h.room
  rw [htk] at hroom
  rcases wipe_one h1 h.off h.wait h.most h.fuse h.room h.name h.same h.found.pre hn hl with ⟨e1, ⟨f', e2, e3, e4, e5, e6⟩, e7, e8, e9, e10, e11, e12, e13⟩ | ⟨e0, e1, e2, e3, e4, f', k, e5, e6, e7, e8, e9⟩
  · refine .inl ⟨e1, ⟨f', ⟨⟨e7, e8, by rw [e2]; exact rising_one _, by rw [e10, e4]; exact h.made, by rw [e9]; exact h.most, e11, ?_, by rw [e3]; exact h.name, e6, by rw [e5]; exact found_pad h.found.enc _, h.core, h.ok, .inl e2⟩, e2, ?_⟩⟩, e12, e13⟩
    · have hp : (pad bs f.last.length).length = f.last.length := by rw [pad_length]; have := h.found.len; omega
      rw [e2, e9]
      simp only [takesAll, DF.takes, e6, e5, hp, Nat.max_self, Nat.add_zero]
      exact hroom
    · rw [e5, pad_length]
      congr 1
      have := h.found.len
      omega
  · refine .inr ⟨e0, e1, fun xs => ?_⟩
    obtain ⟨qs, q1, q2, q3⟩ := fates_keeps f'.id (wipeW D l).2.wait xs f' rfl
    rw [e9] at q1
    have hfil : ((pcs (f.last.length - bs.length) f.id bs.length (List.replicate (f.last.length - bs.length) 0)).take k).filter (fun p => p.id == f'.id) = (pcs (f.last.length - bs.length) f.id bs.length (List.replicate (f.last.length - bs.length) 0)).take k :=
      List.filter_eq_self.2 fun p hp => by
        have := (pcs_ok _ _ _ _ p (List.mem_of_mem_take hp)).1
        rw [this, e7]; simp
    rw [hfil] at q1
    obtain ⟨d1, d2, d3, _⟩ := h.found.dead.wipe hM h.found.len q1 q2
    rw [e8] at q3
    have hfd : Found M n (keeps qs f.last) rs bs m := ⟨h.found.enc, ⟨(keeps qs f.last).drop bs.length, by
      conv => rhs; arg 1; rw [← h.found.take, ← d2]
      exact (List.take_append_drop _ _).symm⟩, d1⟩
    have hcf : ((wipeW D l).2.crash xs).files = [reborn (fatesF ((wipeW D l).2.wait.zip xs) f')] := by
      unfold DD.crash
      rw [e5]
      rfl
    have hlast : (reborn (fatesF ((wipeW D l).2.wait.zip xs) f')).last = keeps qs f.last := q3
    refine ⟨reborn (fatesF ((wipeW D l).2.wait.zip xs) f'), rfl, rfl, by rw [hcf]; exact rising_one _, ?_, ?_, ?_, ?_, ?_, rfl, by rw [hlast]; exact hfd, h.core, h.ok, .inl hcf⟩
    · show (fatesF _ f').id < (wipeW D l).2.made
      rw [fatesF_id, e7, e4]; exact h.made
    · show (wipeW D l).2.most ≤ 8192
      rw [e3]; exact h.most
    · show (-1 : Int) ≤ -1
      omega
    · rw [hcf]
      show ((takesAll [reborn _] : Nat) : Int) ≤ (wipeW D l).2.most
      simp only [takesAll, DF.takes, Nat.add_zero]
      rw [show (reborn (fatesF ((wipeW D l).2.wait.zip xs) f')).seen = keeps qs f.last from q3, hlast, d3, Nat.max_self, e3]
      exact hroom
    · show (fatesF _ f').name = nm n
      rw [fatesF_name, e6]; exact h.name

/-- What opening finds. -/
theorem open_rec {D : DD} {M : Bk} {Q : List (List UInt8) → Prop} {n : Nat} {f : DF} {rs : List (List UInt8)} {bs m : List UInt8} {out : List (List UInt8)} (h : Rec D M Q n f rs bs m out) (hs : n ≤ 1000000) (hM : M.length < 65536) :
    ((openW D M).err = 0 ∧ (∃ n' f' rs' bs' m', n' ≤ n + 1 ∧ Clean (openW D M).disk M Q n' f' rs' bs' m' (openW D M).out ∧ (openW D M).log = ⟨n', bs'.length, m'⟩) ∧ (D.fuse = -1 → (openW D M).disk.fuse = -1) ∧
      (D.files = [f] → (openW D M).out = out ∧ (f.last = pad bs f.last.length → (openW D M).disk = D))) ∨
    (D.fuse ≠ -1 ∧ (openW D M).err = 14 ∧ ∀ xs, ∃ n' f' rs' bs' m' out', n' ≤ n + 1 ∧ Rec ((openW D M).disk.crash xs) M Q n' f' rs' bs' m' out') := by
  have hoff := h.off
  unfold openW
  rw [if_neg (by rw [hoff]; decide)]
  -- one segment, chosen
  have one : ∀ (D1 : DD), Rec D1 M Q n f rs bs m out → D1.files = [f] → D1.fuse = D.fuse → ∀ R : OR, R = ⟨(wipeW D1 ((loadF M f.last n).log n)).1, (wipeW D1 ((loadF M f.last n).log n)).2, (loadF M f.last n).log n, (loadF M f.last n).out⟩ →
      (R.err = 0 ∧ (∃ n' f' rs' bs' m', n' ≤ n + 1 ∧ Clean R.disk M Q n' f' rs' bs' m' R.out ∧ R.log = ⟨n', bs'.length, m'⟩) ∧ (D.fuse = -1 → R.disk.fuse = -1) ∧ (D.files = [f] → D1 = D → R.out = out ∧ (f.last = pad bs f.last.length → R.disk = D))) ∨
      (D.fuse ≠ -1 ∧ R.err = 14 ∧ ∀ xs, ∃ n' f' rs' bs' m' out', n' ≤ n + 1 ∧ Rec (R.disk.crash xs) M Q n' f' rs' bs' m' out') := by
    intro D1 hD1 hone hfu R hR
    have hload := h.found.load h.core
    rw [hload] at hR
    rcases wipe_rec hD1 hone hM (l := LD.log ⟨bs.length, m, true, out⟩ n) rfl rfl with ⟨w1, ⟨f', w2⟩, w3, w4⟩ | ⟨w0, w1, w2⟩
    · refine .inl ?_
      rw [hR]
      refine ⟨w1, ⟨n, f', rs, bs, m, Nat.le_succ _, w2, rfl⟩, fun e => w3 (by rw [hfu]; exact e), fun _ e2 => ⟨rfl, fun e3 => by rw [w4 e3, e2]⟩⟩
    · refine .inr ?_
      rw [hR]
      refine ⟨by rw [← hfu]; exact w0, w1, fun xs => ?_⟩
      obtain ⟨f', hf'⟩ := w2 xs
      exact ⟨n, f', rs, bs, m, out, Nat.le_succ _, hf'⟩
  have hload := h.found.load h.core
  rcases h.files with e | ⟨g, rs', bs', m', c, e, e1, e2, e3, e3', e4, e5, e6⟩
  · have hsg := segsW_one e h.name (by omega)
    have hlw : loadW D M n = some (loadF M f.last n) := by rw [loadW_mid (A := []) (B := []) e h.rising hoff h.name M, h.same]
    rw [hsg]
    unfold openL
    rw [hlw]
    dsimp only
    rw [if_pos (by rw [hload])]
    have hdb : dropBut D [n] n = D := by simp [dropBut]
    rw [hdb]
    rcases one D h e rfl _ rfl with ⟨a1, a2, a3, a4⟩ | a
    · exact .inl ⟨a1, a2, a3, fun e => a4 e rfl⟩
    · exact .inr a
  · have hsg := segsW_two e h.name e1 (by omega) (by omega)
    have hlw : loadW D M n = some (loadF M f.last n) := by rw [loadW_mid (A := []) (B := [g]) e h.rising hoff h.name M, h.same]
    have hlg : loadW D M (n + 1) = some (loadF M g.last (n + 1)) := by rw [loadW_mid (A := [f]) (B := []) e h.rising hoff e1 M, e2]
    have hlg2 := e4.load e5
    have hno : D.files ≠ [f] := by rw [e]; simp
    have hrm := h.room
    rw [e] at hrm
    simp only [takesAll, Nat.add_zero] at hrm
    rw [hsg]
    unfold openL
    rw [hlg]
    dsimp only
    rw [hlg2]
    dsimp only
    cases hc : c.1 with
    | true =>
      rw [if_pos rfl]
      obtain ⟨e7, e8⟩ := e6 hc
      have hdb : dropBut D [n + 1, n] (n + 1) = { D with files := [g], wait := [] } := by
        have hrem := remove_mid (A := []) (B := [g]) e h.rising hoff
        rw [h.name] at hrem
        unfold dropBut
        simp only [List.foldl_cons, List.foldl_nil, ne_eq, not_true_eq_false, if_false]
        rw [if_pos (by omega), hrem, h.wait]
        rfl
      rw [hdb]
      have hgs : g.seen = g.last := e2
      have hrec : Rec { D with files := [g], wait := [] } M Q (n + 1) g rs' bs' m' c.2 := by
        refine ⟨hoff, rfl, rising_one _, e3, h.most, h.fuse, ?_, e1, e2, e4, ?_, e8, .inl rfl⟩
        · show ((takesAll [g] : Nat) : Int) ≤ D.most
          simp only [takesAll, Nat.add_zero]
          omega
        · rw [e5]
          congr 1
          exact Prod.ext hc rfl
      rcases wipe_rec hrec rfl hM (l := LD.log ⟨bs'.length, m', true, c.2⟩ (n + 1)) rfl rfl with ⟨w1, ⟨f', w2⟩, w3, w4⟩ | ⟨w0, w1, w2⟩
      · exact .inl ⟨w1, ⟨n + 1, f', rs', bs', m', Nat.le_refl _, w2, rfl⟩, w3, fun e => absurd e hno⟩
      · refine .inr ⟨w0, w1, fun xs => ?_⟩
        obtain ⟨f', hf'⟩ := w2 xs
        exact ⟨n + 1, f', rs', bs', m', c.2, Nat.le_refl _, hf'⟩
    | false =>
      rw [if_neg (by decide)]
      unfold openL
      rw [hlw]
      dsimp only
      rw [if_pos (by rw [hload])]
      have hdb : dropBut D [n + 1, n] n = { D with files := [f], wait := [] } := by
        have hrem := remove_mid (A := [f]) (B := []) e h.rising hoff
        rw [e1] at hrem
        unfold dropBut
        simp only [List.foldl_cons, List.foldl_nil, ne_eq, not_true_eq_false, if_false]
        rw [if_pos (by omega), hrem, h.wait]
        rfl
      rw [hdb]
      have hrec : Rec { D with files := [f], wait := [] } M Q n f rs bs m out := by
        refine ⟨hoff, rfl, rising_one _, h.made, h.most, h.fuse, ?_, h.name, h.same, h.found, h.core, h.ok, .inl rfl⟩
        show ((takesAll [f] : Nat) : Int) ≤ D.most
        simp only [takesAll, Nat.add_zero]
        omega
      rcases one _ hrec rfl rfl _ rfl with ⟨a1, a2, a3, a4⟩ | a
      · exact .inl ⟨a1, a2, a3, fun e => absurd e hno⟩
      · exact .inr a

end Go.X

/-! The laws' world, plain: what holds of it behind each call. -/
namespace Go.X

/-! ### Names rise as their numbers -/

def digK (k n : Nat) : List UInt8 := (List.range k).map fun i => UInt8.ofNat (48 + n / 10 ^ (k - 1 - i) % 10)

theorem digK_succ (k n : Nat) : digK (k + 1) n = UInt8.ofNat (48 + n / 10 ^ k % 10) :: digK k n := by
  unfold digK
  rw [List.range_succ_eq_map, List.map_cons, List.map_map]
  congr 1
  refine List.map_congr_left fun i _ => ?_
  show UInt8.ofNat (48 + n / 10 ^ (k + 1 - 1 - (i + 1)) % 10) = _
  rw [show k + 1 - 1 - (i + 1) = k - 1 - i by omega]

theorem digK_lt : ∀ (k a b : Nat), a % 10 ^ k < b % 10 ^ k → cmpL (digK k a) (digK k b) < 0
  | 0, a, b, h => by simp [Nat.mod_one] at h
  | k + 1, a, b, h => by
    rw [digK_succ, digK_succ]
    have ha := Nat.mod_pow_succ (b := 10) (k := k) (x := a)
    have hb := Nat.mod_pow_succ (b := 10) (k := k) (x := b)
    have la : a / 10 ^ k % 10 < 10 := Nat.mod_lt _ (by decide)
    have lb : b / 10 ^ k % 10 < 10 := Nat.mod_lt _ (by decide)
    have ta : (UInt8.ofNat (48 + a / 10 ^ k % 10)).toNat = 48 + a / 10 ^ k % 10 := digit_toNat _
    have tb : (UInt8.ofNat (48 + b / 10 ^ k % 10)).toNat = 48 + b / 10 ^ k % 10 := digit_toNat _
    have ma : a % 10 ^ k < 10 ^ k := Nat.mod_lt _ (Nat.pow_pos (by decide))
    have mb : b % 10 ^ k < 10 ^ k := Nat.mod_lt _ (Nat.pow_pos (by decide))
    unfold cmpL
    by_cases h1 : a / 10 ^ k % 10 < b / 10 ^ k % 10
    · rw [if_pos (by rw [UInt8.lt_iff_toNat_lt, ta, tb]; omega)]; decide
    · rw [if_neg (by rw [UInt8.lt_iff_toNat_lt, ta, tb]; omega)]
      by_cases h2 : b / 10 ^ k % 10 < a / 10 ^ k % 10
      · exfalso
        have : 10 ^ k * (b / 10 ^ k % 10) + 10 ^ k ≤ 10 ^ k * (a / 10 ^ k % 10) := by
          rw [← Nat.mul_succ]; exact Nat.mul_le_mul_left _ h2
        omega
      · have e : a / 10 ^ k % 10 = b / 10 ^ k % 10 := by omega
        rw [if_neg (by rw [UInt8.lt_iff_toNat_lt, ta, tb]; omega)]
        refine digK_lt k a b ?_
        rw [ha, hb, e] at h
        omega

theorem nm_lt {a b : Nat} (h : a < b) (hb : b < 100000000) : cmpS (nm a) (nm b) < 0 := by
  unfold cmpS nm segName
  rw [str_toList, str_toList]
  have e : ∀ n, digits8 n = digK 8 n := fun n => rfl
  rw [e, e]
  have key : ∀ (p x y : List UInt8), cmpL x y < 0 → cmpL (p ++ x) (p ++ y) < 0 := by
    intro p
    induction p with
    | nil => intro x y h; exact h
    | cons c p ih =>
      intro x y h
      rw [List.cons_append, List.cons_append]
      unfold cmpL
      rw [if_neg (u8_lt_irrefl c), if_neg (u8_lt_irrefl c)]
      exact ih x y h
  exact key _ _ _ (digK_lt 8 a b (by rw [Nat.mod_eq_of_lt (by omega), Nat.mod_eq_of_lt (by omega)]; exact h))

/-! ### Writing at a segment's end -/

theorem takesAll_mid (A B : List DF) (g : DF) : takesAll (A ++ g :: B) = takesAll A + g.takes + takesAll B := by
  rw [takesAll_append]
  simp only [takesAll]
  omega

/-- A write at the end of what a file has. -/
theorem put_end {D : DD} {A B : List DF} {g : DF} {n E0 : Nat} {T b : List UInt8} (hD : D.files = A ++ g :: B) (hr : Rising D.files) (ho : D.off = false) (hn : g.name = nm n) (hseen : g.seen = pad T E0) (hlast : g.last.length ≤ max T.length E0)
    (hmost : D.most ≤ 8192) (hroom : (takesAll D.files : Int) ≤ D.most) (hfuse : -1 ≤ D.fuse) (hb : b.length ≤ 1500000) :
    ((b ≠ [] ∧ D.free < (secs (T.length + b.length) : Int) - g.takes) ∧ D.write (nm n) (T.length : Nat) b = (7, D)) ∨
    (¬ (b ≠ [] ∧ D.free < (secs (T.length + b.length) : Int) - g.takes) ∧
      (((D.write (nm n) (T.length : Nat) b).1 = 0 ∧ (D.write (nm n) (T.length : Nat) b).2.off = false ∧ (D.write (nm n) (T.length : Nat) b).2.files = A ++ ({ g with seen := pad (T ++ b) E0 } : DF) :: B ∧
        (D.write (nm n) (T.length : Nat) b).2.wait = D.wait ++ pcs b.length g.id T.length b ∧ (D.write (nm n) (T.length : Nat) b).2.most = D.most ∧ (D.write (nm n) (T.length : Nat) b).2.made = D.made ∧ -1 ≤ (D.write (nm n) (T.length : Nat) b).2.fuse ∧
        (D.fuse = -1 → (D.write (nm n) (T.length : Nat) b).2.fuse = -1) ∧ (takesAll (D.write (nm n) (T.length : Nat) b).2.files : Int) ≤ D.most) ∨
       (D.fuse ≠ -1 ∧ (D.write (nm n) (T.length : Nat) b).1 = 14 ∧ (D.write (nm n) (T.length : Nat) b).2.off = true ∧ (∃ u, (D.write (nm n) (T.length : Nat) b).2.files = A ++ ({ g with seen := u } : DF) :: B ∧ u.length ≤ max (max T.length E0) (T.length + b.length)) ∧
        (∃ k, (D.write (nm n) (T.length : Nat) b).2.wait = D.wait ++ (pcs b.length g.id T.length b).take k) ∧ (D.write (nm n) (T.length : Nat) b).2.most = D.most ∧ (D.write (nm n) (T.length : Nat) b).2.made = D.made ∧
        (takesAll (D.write (nm n) (T.length : Nat) b).2.files : Int) ≤ D.most))) := by
  have htk : g.takes = secs (max T.length E0) := by
    unfold DF.takes
    rw [hseen, pad_length]
    congr 1
    omega
  have hall := takesAll_mid A B g
  rw [← hD] at hall
  have hsmall : T.length + b.length ≤ 2097152 := by
    have h1 : secs (max T.length E0) ≤ 8192 := by omega
    unfold secs at h1
    omega
  by_cases hf : b ≠ [] ∧ D.free < (secs (T.length + b.length) : Int) - g.takes
  · left
    refine ⟨hf, ?_⟩
    rw [← hn]
    exact write_no hD hr ho hsmall hf
  · right
    refine ⟨hf, ?_⟩
    have hw := write_yes hD hr ho hsmall hf
    rw [hn] at hw
    rw [hw]
    obtain ⟨g1, g2, g3, g4, g5⟩ := wr_cases b.length g.id T.length b ⟨g.seen, D.wait, D.fuse, D.count, false⟩ (Nat.le_refl _) rfl hfuse
    obtain ⟨R, hR⟩ : ∃ R, wr b.length g.id T.length b ⟨g.seen, D.wait, D.fuse, D.count, false⟩ = R := ⟨_, rfl⟩
    rw [hR] at g1 g2 g3 g4 g5 ⊢
    dsimp only at g4 g5
    have hroom2 : ∀ u : List UInt8, u.length ≤ max (max T.length E0) (if b = [] then 0 else T.length + b.length) → (takesAll (A ++ ({ g with seen := u } : DF) :: B) : Int) ≤ D.most := by
      intro u hu
      rw [takesAll_mid]
      have h1 : ({ g with seen := u } : DF).takes = secs (max u.length g.last.length) := rfl
      unfold DD.free at hf
      by_cases hb0 : b = []
      · rw [if_pos hb0] at hu
        have h2 : secs (max u.length g.last.length) ≤ secs (max T.length E0) := by unfold secs; omega
        omega
      · rw [if_neg hb0] at hu
        have h2 : secs (max u.length g.last.length) ≤ max (secs (max T.length E0)) (secs (T.length + b.length)) := by unfold secs; omega
        have h3 : ¬ D.most - (takesAll D.files : Int) < (secs (T.length + b.length) : Int) - g.takes := fun h => hf ⟨hb0, h⟩
        omega
    rcases g5 with ⟨a1, a2, a3⟩ | ⟨a1, k, a2, a3⟩
    · left
      have e : R.seen = pad (T ++ b) E0 := by rw [a2, hseen]; exact lays_pad E0 _ _ _ _ (Nat.le_refl _)
      refine ⟨by rw [a1]; rfl, a1, by show A ++ _ :: B = _; rw [e], a3, rfl, rfl, g1, fun h => (g4 h).2, ?_⟩
      show (takesAll (A ++ ({ g with seen := R.seen } : DF) :: B) : Int) ≤ _
      refine hroom2 _ ?_
      rw [e, pad_length, List.length_append]
      split
      · rename_i hb0; subst hb0; simp only [List.length_nil]; omega
      · omega
    · right
      have hl : R.seen.length ≤ max (max T.length E0) (if b = [] then 0 else T.length + b.length) := by
        by_cases hb0 : b = []
        · subst hb0
          have hk : (pcs ([] : List UInt8).length g.id T.length []).take k = [] := by simp [pcs]
          rw [a2, hk, List.foldl_nil, hseen, pad_length]
          omega
        · rw [if_neg hb0, a2]
          refine (lays_some _ _ _ (fun p hp => ?_) ?_).2
          · have := (pcs_ok _ _ _ _ p (List.mem_of_mem_take hp)).2.2
            omega
          · rw [hseen, pad_length]; omega
      refine ⟨(fun h => by have := (g4 h).1; rw [a1] at this; cases this), by rw [a1]; rfl, a1, ⟨R.seen, rfl, by split at hl <;> omega⟩, ⟨k, a3⟩, rfl, rfl, hroom2 _ hl⟩

/-! ### States -/

/-- A segment's file, of which R records may not have lasted. -/
structure Tail (W : List DW) (M : Bk) (n : Nat) (f : DF) (E0 : Nat) (rs0 out0 tt1 : List (List UInt8)) (P m0 : List UInt8) (cs : List (List (List UInt8))) (ts : List (List UInt8)) (m1 : List UInt8) : Prop where
  half : Half W M n f E0 rs0 P m0 cs ts m1
  core : cores rs0 (false, []) = some (true, out0)
  flat : cs.flatten = tt1.map (82 :: ·)

theorem Half.more {W : List DW} {M : Bk} {n E0 : Nat} {f : DF} {rs0 : List (List UInt8)} {P m0 m1 : List UInt8} {cs : List (List (List UInt8))} {ts : List (List UInt8)} (h : Half W M n f E0 rs0 P m0 cs ts m1) (Y : Bk) : Half W (M ++ Y) n f E0 rs0 P m0 cs ts m1 :=
  ⟨h.name, h.enc0.more Y, h.encC.more Y, h.last, h.wait⟩

theorem prefix_map {l a b : List (List UInt8)} {c : UInt8} (h : l.map (c :: ·) = a ++ b) : a = (l.take a.length).map (c :: ·) := by
  rw [List.map_take, h, List.take_left' rfl]

theorem Tail.found {W : List DW} {M : Bk} {n E0 : Nat} {f : DF} {rs0 out0 tt1 : List (List UInt8)} {P m0 m1 : List UInt8} {cs : List (List (List UInt8))} {ts : List (List UInt8)} (h : Tail W M n f E0 rs0 out0 tt1 P m0 cs ts m1) (hM : M.length < 65536) (xs : List Int) :
    ∃ rs bs m j, Found M n (fatesF (W.zip xs) f).last rs bs m ∧ cores rs (false, []) = some (true, out0 ++ tt1.take j) ∧ (fatesF (W.zip xs) f).last.length ≤ max (max P.length E0) (P.length + ts.flatten.length) := by
  obtain ⟨rs1, rs2, b1, m2, e1, e2, e3, _⟩ := h.half.crash hM xs
  rw [h.flat] at e1
  refine ⟨rs0 ++ rs1, P ++ b1, m2, rs1.length, e2, ?_, e3⟩
  rw [cores_append, h.core]
  dsimp only
  conv => lhs; rw [prefix_map e1]
  exact cores_R _ _

/-- A crash of a device with one segment. -/
theorem rec_one {D : DD} {M : Bk} {Q : List (List UInt8) → Prop} {n E0 : Nat} {f : DF} {rs0 out0 tt1 : List (List UInt8)} {P m0 m1 : List UInt8} {cs : List (List (List UInt8))} {ts : List (List UInt8)} (h : Tail D.wait M n f E0 rs0 out0 tt1 P m0 cs ts m1) (hf : D.files = [f])
    (hmade : f.id < D.made) (hmost : D.most ≤ 8192) (hroom : (secs (max (max P.length E0) (P.length + ts.flatten.length)) : Int) ≤ D.most) (hM : M.length < 65536) (hQ : ∀ j, Q (out0 ++ tt1.take j)) (xs : List Int) :
    ∃ f' rs bs m out, Rec (D.crash xs) M Q n f' rs bs m out := by
  obtain ⟨rs, bs, m, j, e1, e2, e3⟩ := h.found hM xs
  have hfl : (D.crash xs).files = [reborn (fatesF (D.wait.zip xs) f)] := by unfold DD.crash; rw [hf]; rfl
  refine ⟨reborn (fatesF (D.wait.zip xs) f), rs, bs, m, _, rfl, rfl, by rw [hfl]; exact rising_one _, ?_, hmost, Int.le_refl _, ?_, ?_, rfl, e1, e2, hQ j, .inl hfl⟩
  · show (fatesF _ f).id < D.made
    rw [fatesF_id]; exact hmade
  · rw [hfl]
    show ((takesAll [reborn _] : Nat) : Int) ≤ D.most
    have e : (reborn (fatesF (D.wait.zip xs) f)).takes = secs (fatesF (D.wait.zip xs) f).last.length := by
      show secs (max _ _) = _
      rw [show (reborn (fatesF (D.wait.zip xs) f)).seen = (fatesF (D.wait.zip xs) f).last from rfl, show (reborn (fatesF (D.wait.zip xs) f)).last = (fatesF (D.wait.zip xs) f).last from rfl, Nat.max_self]
    simp only [takesAll, e, Nat.add_zero]
    have : secs (fatesF (D.wait.zip xs) f).last.length ≤ secs (max (max P.length E0) (P.length + ts.flatten.length)) := by unfold secs; omega
    omega
  · show (fatesF _ f).name = nm n
    rw [fatesF_name]; exact h.half.name

/-- A crash of a device with a segment and the next one, half made. -/
theorem rec_two {D : DD} {M : Bk} {Q : List (List UInt8) → Prop} {n E0 : Nat} {f g : DF} {rs0 out0 tt1 snap : List (List UInt8)} {P m0 m1 m2 : List UInt8} {cs cs2 : List (List (List UInt8))} {ts ts2 : List (List UInt8)} (h : Tail D.wait M n f E0 rs0 out0 tt1 P m0 cs ts m1)
    (h2 : Half D.wait M (n + 1) g 0 [] [] (firstM (n + 1)) cs2 ts2 m2) (hc2 : cs2.flatten = snap.map (83 :: ·) ∨ cs2.flatten = segR snap []) (hf : D.files = [f, g]) (hr : Rising D.files)
    (hmade : f.id < D.made) (hmade2 : g.id < D.made) (hne : g.id ≠ f.id) (hmost : D.most ≤ 8192) (hroom : ((secs (max (max P.length E0) (P.length + ts.flatten.length)) + secs ts2.flatten.length : Nat) : Int) ≤ D.most) (hM : M.length < 65536)
    (hQ : ∀ j, Q (out0 ++ tt1.take j)) (hQ2 : Q snap) (xs : List Int) : ∃ f' rs bs m out, Rec (D.crash xs) M Q n f' rs bs m out := by
  obtain ⟨rs, bs, m, j, e1, e2, e3⟩ := h.found hM xs
  obtain ⟨rs1, rs2, b1, m3, a1, a2, a3, a4⟩ := h2.crash hM xs
  have hfl : (D.crash xs).files = [reborn (fatesF (D.wait.zip xs) f), reborn (fatesF (D.wait.zip xs) g)] := by unfold DD.crash; rw [hf]; rfl
  have htk : ∀ x : DF, (reborn x).takes = secs x.last.length := by
    intro x
    show secs (max _ _) = _
    rw [show (reborn x).seen = x.last from rfl, show (reborn x).last = x.last from rfl, Nat.max_self]
  simp only [List.nil_append, List.length_nil, Nat.zero_add, Nat.max_self, Nat.zero_max] at a2 a3
  refine ⟨reborn (fatesF (D.wait.zip xs) f), rs, bs, m, _, rfl, rfl, ?_, ?_, hmost, Int.le_refl _, ?_, ?_, rfl, e1, e2, hQ j, .inr ⟨reborn (fatesF (D.wait.zip xs) g), rs1, b1, m3, ?_⟩⟩
  · rw [show (D.crash xs).files = D.files.map fun f => reborn (fatesF (D.wait.zip xs) f) from rfl]
    exact rising_map (g := fun f => reborn (fatesF (D.wait.zip xs) f)) (fun f => fatesF_name _ _) hr
  · show (fatesF _ f).id < D.made
    rw [fatesF_id]; exact hmade
  · rw [hfl]
    show ((takesAll [reborn _, reborn _] : Nat) : Int) ≤ D.most
    simp only [takesAll, htk, Nat.add_zero]
    have t1 : secs (fatesF (D.wait.zip xs) f).last.length ≤ secs (max (max P.length E0) (P.length + ts.flatten.length)) := by unfold secs; omega
    have t2 : secs (fatesF (D.wait.zip xs) g).last.length ≤ secs ts2.flatten.length := by unfold secs; omega
    omega
  · show (fatesF _ f).name = nm n
    rw [fatesF_name]; exact h.half.name
  · have hnm : (reborn (fatesF (D.wait.zip xs) g)).name = nm (n + 1) := by
      show (fatesF _ g).name = _
      rw [fatesF_name]; exact h2.name
    have hgid : (reborn (fatesF (D.wait.zip xs) g)).id = g.id := by
      show (fatesF _ g).id = _
      rw [fatesF_id]
    have hfid : (reborn (fatesF (D.wait.zip xs) f)).id = f.id := by
      show (fatesF _ f).id = _
      rw [fatesF_id]
    have hS : ∀ l : List (List UInt8), l.map (83 :: ·) = rs1 ++ rs2 → ∃ c, cores rs1 (false, []) = some c ∧ c.1 = false := by
      intro l hl
      refine ⟨(false, [] ++ l.take rs1.length), ?_, rfl⟩
      conv => lhs; rw [prefix_map hl]
      exact cores_S _ _
    rcases hc2 with hc2 | hc2
    · rw [hc2] at a1
      obtain ⟨c, hc, hc1⟩ := hS snap a1
      exact ⟨c, hfl, hnm, rfl, by rw [hgid]; exact hmade2, by rw [hgid, hfid]; exact hne, a2, hc, fun h => by rw [hc1] at h; cases h⟩
    · rw [hc2] at a1
      by_cases h0 : rs2 = []
      · subst h0
        rw [List.append_nil] at a1
        refine ⟨(true, snap ++ []), hfl, hnm, rfl, by rw [hgid]; exact hmade2, by rw [hgid, hfid]; exact hne, a2, by rw [← a1]; exact cores_seg _ _, fun _ => ⟨?_, by rw [List.append_nil]; exact hQ2⟩⟩
        have hb := a4 rfl
        show (fatesF (D.wait.zip xs) g).last = b1
        obtain ⟨rest, hrest⟩ := a2.pre
        rw [hb] at hrest ⊢
        rw [hrest] at a3 ⊢
        rw [List.length_append] at a3
        have : rest = [] := List.eq_nil_of_length_eq_zero (by omega)
        rw [this, List.append_nil]
      · -- the last record is missing: what was read is of the snapshot alone
        obtain ⟨r2, x, rfl⟩ : ∃ r2 x, rs2 = r2 ++ [x] := ⟨rs2.dropLast, rs2.getLast h0, (List.dropLast_concat_getLast h0).symm⟩
        unfold segR at a1
        simp only [List.map_nil] at a1
        rw [← List.append_assoc] at a1
        obtain ⟨a1, _⟩ := List.append_inj' a1 rfl
        have hS' : ∃ c, cores rs1 (false, []) = some c ∧ c.1 = false := by
          refine ⟨(false, [] ++ snap.take rs1.length), ?_, rfl⟩
          conv => lhs; rw [prefix_map a1]
          exact cores_S _ _
        obtain ⟨c, hc, hc1⟩ := hS'
        exact ⟨c, hfl, hnm, rfl, by rw [hgid]; exact hmade2, by rw [hgid, hfid]; exact hne, a2, hc, fun h => by rw [hc1] at h; cases h⟩

end Go.X

/-! The laws' world: appending, syncing. -/
namespace Go.X

/-- A log that is open: one segment. -/
structure Up (D : DD) (M : Bk) (n : Nat) (f : DF) (E0 : Nat) (rs0 out0 tt1 : List (List UInt8)) (P m0 : List UInt8) (cs : List (List (List UInt8))) (ts : List (List UInt8)) (m1 : List UInt8) : Prop where
  off : D.off = false
  files : D.files = [f]
  name : f.name = nm n
  enc0 : Enc M (firstM n) rs0 P m0
  encC : EncC M m0 cs ts m1
  last : f.last = pad P E0
  core : cores rs0 (false, []) = some (true, out0)
  flat : cs.flatten = tt1.map (82 :: ·)
  wait : D.wait = wpcs f.id P.length ts
  seen : f.seen = pad (P ++ ts.flatten) E0
  made : f.id < D.made
  most : D.most ≤ 8192
  fuse : -1 ≤ D.fuse
  room : (takesAll D.files : Int) ≤ D.most

section
variable {D : DD} {M : Bk} {n E0 : Nat} {f : DF} {rs0 out0 tt1 : List (List UInt8)} {P m0 m1 : List UInt8} {cs : List (List (List UInt8))} {ts : List (List UInt8)}

theorem Up.tail (h : Up D M n f E0 rs0 out0 tt1 P m0 cs ts m1) : Tail D.wait M n f E0 rs0 out0 tt1 P m0 cs ts m1 :=
  ⟨⟨h.name, h.enc0, h.encC, h.last, ⟨(wpcs f.id P.length ts).length, by
    rw [h.wait, List.take_length]
    exact List.filter_eq_self.2 fun p hp => by rw [wpcs_id f.id _ _ p hp]; simp⟩⟩, h.core, h.flat⟩

theorem Up.rising (h : Up D M n f E0 rs0 out0 tt1 P m0 cs ts m1) : Rising D.files := by rw [h.files]; exact rising_one f

theorem Up.takes (h : Up D M n f E0 rs0 out0 tt1 P m0 cs ts m1) : takesAll D.files = secs (max (P.length + ts.flatten.length) E0) := by
  rw [h.files]
  simp only [takesAll, DF.takes, h.seen, h.last, pad_length, List.length_append, Nat.add_zero]
  congr 1
  omega

theorem Up.more (h : Up D M n f E0 rs0 out0 tt1 P m0 cs ts m1) (Y : Bk) : Up D (M ++ Y) n f E0 rs0 out0 tt1 P m0 cs ts m1 :=
  ⟨h.off, h.files, h.name, h.enc0.more Y, h.encC.more Y, h.last, h.core, h.flat, h.wait, h.seen, h.made, h.most, h.fuse, h.room⟩

/-- A crash of a log that is open. -/
theorem Up.crash (h : Up D M n f E0 rs0 out0 tt1 P m0 cs ts m1) (hM : M.length < 65536) {Q : List (List UInt8) → Prop} (hQ : ∀ j, Q (out0 ++ tt1.take j)) (xs : List Int) : ∃ f' rs bs m out, Rec (D.crash xs) M Q n f' rs bs m out := by
  refine rec_one h.tail h.files h.made h.most ?_ hM hQ xs
  have := h.room
  rw [h.takes] at this
  rw [show max (max P.length E0) (P.length + ts.flatten.length) = max (P.length + ts.flatten.length) E0 by omega]
  exact this

/-- The pieces of a write behind others, of which some are taken. -/
theorem wait_some {W : List DW} {id : Int} {a k : Nat} {ts : List (List UInt8)} {b : List UInt8} (hw : W = wpcs id a ts) :
    ∃ k', (W ++ (pcs b.length id (a + ts.flatten.length) b).take k).filter (fun p => p.id == id) = (wpcs id a (ts ++ [b])).take k' := by
  refine ⟨(wpcs id a ts).length + k, ?_⟩
  have e : (wpcs id a ts ++ pcs b.length id (a + ts.flatten.length) b).take ((wpcs id a ts).length + k) = wpcs id a ts ++ (pcs b.length id (a + ts.flatten.length) b).take k := by
    rw [List.take_append, List.take_of_length_le (Nat.le_add_right _ _), show (wpcs id a ts).length + k - (wpcs id a ts).length = k by omega]
  rw [hw, wpcs_snoc, e]
  refine List.filter_eq_self.2 fun p hp => ?_
  rcases List.mem_append.1 hp with hp | hp
  · rw [wpcs_id id _ _ p hp]; simp
  · rw [(pcs_ok _ _ _ _ p (List.mem_of_mem_take hp)).1]; simp

theorem one_enc {M : Bk} {m s b m' : List UInt8} (h : Enc M m [s] b m') : b.length = 36 + s.length := by
  cases h with
  | cons hk h1 h2 h3 =>
    cases h3
    rw [List.append_nil, recK_length]

/-- A record is appended. -/
theorem put_up (h : Up D M n f E0 rs0 out0 tt1 P m0 cs ts m1) {s : List UInt8} (hs : s.length ≤ 1048832) {R : PR4} (hR : putW D M ⟨n, P.length + ts.flatten.length, m1⟩ 82 [s] = R) :
    ∃ Xb b m2, R.book = M ++ Xb ∧ Xb.length ≤ 1 ∧ Enc (M ++ Xb) m1 [82 :: s] b m2 ∧ b.length = 37 + s.length ∧
      ((R.err = 7 ∧ R.disk = D ∧ R.log = ⟨n, P.length + ts.flatten.length, m1⟩ ∧ D.most - takesAll D.files < (secs (P.length + ts.flatten.length + b.length) : Int) - takesAll D.files) ∨
       (R.err = 0 ∧ (∃ f', Up R.disk R.book n f' E0 rs0 out0 (tt1 ++ [s]) P m0 (cs ++ [[82 :: s]]) (ts ++ [b]) m2) ∧ R.log = ⟨n, P.length + (ts ++ [b]).flatten.length, m2⟩ ∧ (D.fuse = -1 → R.disk.fuse = -1) ∧ R.disk.most = D.most ∧
        ¬ D.most - takesAll D.files < (secs (P.length + ts.flatten.length + b.length) : Int) - takesAll D.files) ∨
       (R.err = 14 ∧ D.fuse ≠ -1 ∧ R.disk.off = true ∧ R.log = ⟨n, P.length + ts.flatten.length, m1⟩ ∧
        ∀ (Q : List (List UInt8) → Prop), (∀ j, Q (out0 ++ (tt1 ++ [s]).take j)) → ∀ Y xs, (M ++ Xb ++ Y).length < 65536 → ∃ f' rs bs m out, Rec (R.disk.crash xs) (M ++ Xb ++ Y) Q n f' rs bs m out)) := by
  obtain ⟨b, Xb, p1, p2, p3, p4, p5⟩ := putB_enc 82 [s] ⟨0, [], m1, M⟩ rfl (fun t ht => by rw [List.mem_singleton.1 ht]; omega)
  obtain ⟨Z, hZ⟩ : ∃ Z, putB 82 [s] ⟨0, [], m1, M⟩ = Z := ⟨_, rfl⟩
  rw [hZ] at p1 p2 p3 p5
  dsimp only at p1 p2 p3 p4 p5
  simp only [List.nil_append] at p2
  simp only [List.map_cons, List.map_nil] at p5
  have hbl : b.length = 37 + s.length := by rw [one_enc p5, List.length_cons]; omega
  have hTl : (P ++ ts.flatten).length = P.length + ts.flatten.length := List.length_append
  refine ⟨Xb, b, Z.mark, ?_, p4, p5, hbl, ?_⟩
  · rw [← hR]
    unfold putW
    dsimp only
    rw [hZ]
    split
    · exact p3
    · split <;> exact p3
  unfold putW at hR
  dsimp only at hR
  rw [hZ, if_neg (by rw [p1]; exact fun h => h rfl), p2] at hR
  have hpe := put_end (A := []) (B := []) (g := f) (n := n) (E0 := E0) (T := P ++ ts.flatten) (b := b) h.files h.rising h.off h.name h.seen (by rw [h.last, pad_length, hTl]; omega) h.most h.room h.fuse (by omega)
  rw [hTl] at hpe
  have htk : f.takes = takesAll D.files := by rw [h.files]; simp [takesAll]
  have hb0 : b ≠ [] := fun e => by rw [e] at hbl; simp at hbl; omega
  rw [htk] at hpe
  unfold DD.free at hpe
  obtain ⟨Wr, hWr⟩ : ∃ Wr, D.write (nm n) ((P.length + ts.flatten.length : Nat) : Int) b = Wr := ⟨_, rfl⟩
  rw [hWr] at hpe hR
  have hro := h.room
  rcases hpe with ⟨⟨_, c1⟩, c2⟩ | ⟨c0, ⟨c1, c2, c3, c4, c5, c6, c7, c8, c9⟩ | ⟨c1, c2, c3, ⟨u, c4, c4'⟩, ⟨k, c5⟩, c6, c7, c8⟩⟩
  · left
    rw [c2] at hR
    dsimp only at hR
    rw [if_pos (by decide)] at hR
    rw [← hR]
    exact ⟨rfl, rfl, rfl, c1⟩
  · right; left
    rw [if_neg (by rw [c1]; exact fun h => h rfl)] at hR
    rw [← hR]
    have hfl : (ts ++ [b]).flatten = ts.flatten ++ b := by simp
    refine ⟨rfl, ⟨{ f with seen := pad ((P ++ ts.flatten) ++ b) E0 }, ?_⟩, ?_, c8, c5, fun h => c0 ⟨hb0, h⟩⟩
    · rw [p3]
      refine ⟨c2, c3, h.name, h.enc0.more Xb, (h.encC.more Xb).snoc p5, h.last, h.core, by simp [h.flat], ?_, ?_, by rw [c6]; exact h.made, by rw [c5]; exact h.most, c7, by rw [c5]; exact c9⟩
      · show Wr.2.wait = _
        rw [c4, h.wait, wpcs_snoc]
      · show pad _ _ = _
        rw [hfl, List.append_assoc]
    · rw [hfl, List.length_append]
      simp only [LG.mk.injEq, true_and, and_true]
      omega
  · right; right
    rw [c2, if_pos (by decide)] at hR
    rw [← hR]
    refine ⟨rfl, c1, c3, rfl, fun Q hQ Y xs hMY => ?_⟩
    have hfl : (ts ++ [b]).flatten.length = ts.flatten.length + b.length := by simp
    have htl : Tail Wr.2.wait (M ++ Xb ++ Y) n { f with seen := u } E0 rs0 out0 (tt1 ++ [s]) P m0 (cs ++ [[82 :: s]]) (ts ++ [b]) Z.mark :=
      ⟨⟨h.name, (h.enc0.more Xb).more Y, (((h.encC.more Xb).snoc p5)).more Y, h.last, by rw [c5]; exact wait_some h.wait⟩, h.core, by simp [h.flat]⟩
    refine rec_one htl c4 (by rw [c7]; exact h.made) (by rw [c6]; exact h.most) ?_ hMY hQ xs
    rw [hfl, c6]
    have h1 : ¬ D.most - (takesAll D.files : Int) < (secs (P.length + ts.flatten.length + b.length) : Int) - takesAll D.files := fun h => c0 ⟨hb0, h⟩
    rw [h.takes] at hro h1
    have h2 : secs (max (max P.length E0) (P.length + (ts.flatten.length + b.length))) ≤ max (secs (P.length + ts.flatten.length + b.length)) (secs (max (P.length + ts.flatten.length) E0)) := by unfold secs; omega
    omega

/-- All lasts. -/
theorem sync_up (h : Up D M n f E0 rs0 out0 tt1 P m0 cs ts m1) : D.sync.1 = 0 ∧ ∃ f', Up D.sync.2 M n f' E0 (rs0 ++ tt1.map (82 :: ·)) (out0 ++ tt1) [] (P ++ ts.flatten) m1 [] [] m1 ∧ D.sync.2.fuse = D.fuse ∧ D.sync.2.most = D.most ∧ D.sync.2.count = D.count := by
  rw [sync_on h.off]
  refine ⟨rfl, { f with last := pad (P ++ ts.flatten) E0 }, ?_, rfl, rfl, rfl⟩
  have hs := wsync E0 ts P f h.last
  have hfl : ({ D with files := D.files.map (syncF D.wait), wait := [] } : DD).files = [{ f with last := pad (P ++ ts.flatten) E0 }] := by
    show D.files.map (syncF D.wait) = _
    rw [h.files, h.wait]
    simp only [List.map_cons, List.map_nil]
    rw [hs]
  refine ⟨h.off, hfl, h.name, ?_, .nil _, rfl, ?_, rfl, rfl, ?_, h.made, h.most, h.fuse, ?_⟩
  · have := h.enc0.append h.encC.flat
    rwa [h.flat] at this
  · rw [cores_append, h.core]
    exact cores_R _ _
  · show f.seen = _
    rw [h.seen]
    simp
  · rw [hfl]
    have := h.room
    rw [h.takes] at this
    simp only [takesAll, DF.takes, h.seen, pad_length, List.length_append, Nat.max_self, Nat.add_zero]
    exact this

end

/-- A clean device is a log that is open. -/
theorem Clean.up {D : DD} {M : Bk} {Q : List (List UInt8) → Prop} {n : Nat} {f : DF} {rs : List (List UInt8)} {bs m : List UInt8} {out : List (List UInt8)} (h : Clean D M Q n f rs bs m out) : Up D M n f f.last.length rs out [] bs m [] [] m := by
  have hr := h.rec_
  exact ⟨hr.off, h.one, hr.name, hr.found.enc, .nil _, h.pads, hr.core, rfl, by rw [hr.wait]; rfl, by rw [hr.same, List.flatten_nil, List.append_nil]; exact h.pads, hr.made, hr.most, hr.fuse, hr.room⟩

end Go.X

/-! The laws' world: turning. -/
namespace Go.X

def sumL (rs : List (List UInt8)) : Nat := (rs.map fun s => 36 + s.length).sum

theorem enc_sum {M : Bk} {m bs m' : List UInt8} {rs : List (List UInt8)} (h : Enc M m rs bs m') : bs.length = sumL rs := by
  induction h with
  | nil m => rfl
  | cons a b c _ ih => rw [List.length_append, recK_length, ih]; simp [sumL]

theorem sumL_le {l : List (List UInt8)} {k : Nat} (c : UInt8) (h : ∀ s ∈ l, s.length ≤ k) : sumL (l.map (c :: ·)) ≤ (37 + k) * l.length := by
  induction l with
  | nil => simp [sumL]
  | cons s l ih =>
    have h1 := h s List.mem_cons_self
    have h2 := ih fun t ht => h t (List.mem_cons_of_mem _ ht)
    simp only [sumL, List.map_cons, List.sum_cons, List.length_cons] at h2 ⊢
    rw [Nat.mul_succ]
    omega

theorem z00 : ¬ ((0 : Int) ≠ 0) := fun h => h rfl
theorem z7 : (7 : Int) ≠ 0 := by decide
theorem z14 : (14 : Int) ≠ 0 := by decide
theorem or7 : (7 : Int) = 7 ∨ (7 : Int) = 4 ∨ (7 : Int) = 2 := .inl rfl
theorem or0 : ¬ ((0 : Int) = 7 ∨ (0 : Int) = 4 ∨ (0 : Int) = 2) := by decide
theorem or14 : ¬ ((14 : Int) = 7 ∨ (14 : Int) = 4 ∨ (14 : Int) = 2) := by decide

/-- Turning, call by call. -/
theorem turn_how {D D1 : DD} {M : Bk} {n : Nat} {xs : List (List UInt8)} {l : LG} {A B : PR4} {S : Int × DD} (hl : l.n = n) (hn : n ≠ 99999999) (hc : D.create (nm (n + 1)) = (0, D1)) (hA : putW D1 M ⟨n + 1, 0, firstM (n + 1)⟩ 83 xs = A)
    (hB : (if A.err = 0 then putW A.disk A.book A.log 69 [[]] else A) = B) (hS : (if B.err = 0 then B.disk.sync else (B.err, B.disk)) = S) :
    turnW D M l xs = (if S.1 ≠ 0 then ⟨S.1, if S.1 = 7 ∨ S.1 = 4 ∨ S.1 = 2 then (S.2.remove (nm (n + 1))).2 else S.2, B.book, l⟩
      else ⟨0, ((if S.1 = 7 ∨ S.1 = 4 ∨ S.1 = 2 then (S.2.remove (nm (n + 1))).2 else S.2).remove (nm n)).2, B.book, B.log⟩) := by
  unfold turnW
  rw [hl, if_neg hn]
  have hb : beginW D M (n + 1) xs = ⟨S.1, if S.1 = 7 ∨ S.1 = 4 ∨ S.1 = 2 then (S.2.remove (nm (n + 1))).2 else S.2, B.book, B.log⟩ := by
    unfold beginW
    rw [hc]
    dsimp only
    rw [if_neg z00, hA, hB, hS]
  rw [hb]

theorem filter_other {W : List DW} {id : Int} (h : ∀ p ∈ W, p.id ≠ id) : W.filter (fun p => !(p.id == id)) = W :=
  List.filter_eq_self.2 fun p hp => by simpa using h p hp

theorem filter_same {W : List DW} {id : Int} (h : ∀ p ∈ W, p.id = id) : W.filter (fun p => !(p.id == id)) = [] :=
  List.filter_eq_nil_iff.2 fun p hp => by simpa using h p hp

theorem filter_none' {W : List DW} {id : Int} (h : ∀ p ∈ W, p.id ≠ id) : W.filter (fun p => p.id == id) = [] :=
  List.filter_eq_nil_iff.2 fun p hp => by simpa using h p hp

theorem syncF_other {f : DF} : ∀ {W : List DW}, (∀ p ∈ W, p.id ≠ f.id) → syncF W f = f
  | [], _ => rfl
  | p :: W, h => by
    show syncF W (lastF p p.text.length f) = f
    rw [lastF_none (fun e => h p List.mem_cons_self e.1.symm)]
    exact syncF_other fun q hq => h q (List.mem_cons_of_mem _ hq)

theorem syncF_append (a b : List DW) (f : DF) : syncF (a ++ b) f = syncF b (syncF a f) := by unfold syncF; rw [List.foldl_append]

section
variable {D : DD} {M : Bk} {n E0 : Nat} {f : DF} {rs0 out0 tt1 : List (List UInt8)} {P m0 m1 : List UInt8} {cs : List (List (List UInt8))} {ts : List (List UInt8)}

theorem Up.waits (h : Up D M n f E0 rs0 out0 tt1 P m0 cs ts m1) : ∀ p ∈ D.wait, p.id = f.id := fun p hp => by rw [h.wait] at hp; exact wpcs_id f.id _ _ p hp

/-- What the waiting writes of a segment are behind those to the next one. -/
theorem Up.two (h : Up D M n f E0 rs0 out0 tt1 P m0 cs ts m1) {W2 : List DW} {g : Int} (hg : g ≠ f.id) (h2 : ∀ p ∈ W2, p.id = g) :
    (D.wait ++ W2).filter (fun p => p.id == f.id) = (wpcs f.id P.length ts).take (wpcs f.id P.length ts).length ∧ (D.wait ++ W2).filter (fun p => p.id == g) = W2 ∧ (D.wait ++ W2).filter (fun p => !(p.id == g)) = D.wait := by
  refine ⟨?_, ?_, ?_⟩
  · rw [List.filter_append, filter_none' (W := W2) (fun p hp => by rw [h2 p hp]; exact hg), List.append_nil, List.take_length, h.wait]
    exact List.filter_eq_self.2 fun p hp => by rw [wpcs_id f.id _ _ p hp]; simp
  · rw [List.filter_append, filter_none' (W := D.wait) (fun p hp => by rw [h.waits p hp]; exact fun e => hg e.symm), List.nil_append]
    exact List.filter_eq_self.2 fun p hp => by rw [h2 p hp]; simp
  · rw [List.filter_append, filter_same h2, List.append_nil]
    exact filter_other fun p hp => by rw [h.waits p hp]; exact fun e => hg e.symm

/-- The device goes on as it was, but for its counts. -/
theorem Up.like (h : Up D M n f E0 rs0 out0 tt1 P m0 cs ts m1) {D' : DD} (h1 : D'.files = D.files) (h2 : D'.wait = D.wait) (h3 : D'.off = false) (h4 : D'.most = D.most) (h5 : f.id < D'.made) (h6 : -1 ≤ D'.fuse) : Up D' M n f E0 rs0 out0 tt1 P m0 cs ts m1 :=
  ⟨h3, by rw [h1]; exact h.files, h.name, h.enc0, h.encC, h.last, h.core, h.flat, by rw [h2]; exact h.wait, h.seen, h5, by rw [h4]; exact h.most, h6, by rw [h1, h4]; exact h.room⟩

/-- Turning. -/
theorem turn_up (h : Up D M n f E0 rs0 out0 tt1 P m0 cs ts m1) (hn : n ≤ 1000000) {xs : List (List UInt8)} (hx : xs.length ≤ 8) (hxs : ∀ s ∈ xs, s.length ≤ 4096) {l : LG} (hl : l.n = n) {R : PR4} (hR : turnW D M l xs = R) :
    ∃ Xb, R.book = M ++ Xb ∧ Xb.length ≤ 9 ∧
      ((R.err = 7 ∧ Up R.disk M n f E0 rs0 out0 tt1 P m0 cs ts m1 ∧ R.log = l ∧ R.disk.count = R.disk.count ∧ (D.fuse = -1 → R.disk.fuse = -1) ∧ R.disk.most = D.most ∧ D.most - takesAll D.files < (secs (sumL (segR xs [])) : Int)) ∨
       (R.err = 0 ∧ (∃ g P' m', Up R.disk (M ++ Xb) (n + 1) g 0 (segR xs []) xs [] P' m' [] [] m' ∧ R.log = ⟨n + 1, P'.length, m'⟩) ∧ (D.fuse = -1 → R.disk.fuse = -1) ∧ R.disk.most = D.most ∧ (takesAll D.files + secs (sumL (segR xs [])) : Int) ≤ D.most) ∨
       (R.err = 14 ∧ D.fuse ≠ -1 ∧ R.disk.off = true ∧ R.log = l ∧
        ∀ (Q : List (List UInt8) → Prop), (∀ j, Q (out0 ++ tt1.take j)) → Q xs → ∀ Y zs, (M ++ Xb ++ Y).length < 65536 → ∃ f' rs bs m out, Rec (R.disk.crash zs) (M ++ Xb ++ Y) Q n f' rs bs m out)) := by
  have hlt : cmpS (nm n) (nm (n + 1)) < 0 := nm_lt (Nat.lt_succ_self n) (by omega)
  obtain ⟨g0, hg0⟩ : ∃ g0 : DF, g0 = ⟨D.made, nm (n + 1), [], []⟩ := ⟨_, rfl⟩
  obtain ⟨D1, hD1⟩ : ∃ D1 : DD, D1 = { D with files := [f, g0], made := D.made + 1 } := ⟨_, rfl⟩
  have hcreate : D.create (nm (n + 1)) = (0, D1) := by
    have hls : lessB (nm (n + 1)) f = true := by unfold lessB; rw [h.name]; exact decide_eq_true hlt
    have ha : ahead (nm (n + 1)) [f] = [f] := by unfold ahead; rw [List.takeWhile_cons, hls]; rfl
    have hb : behind (nm (n + 1)) [f] = [] := by unfold behind; rw [List.dropWhile_cons, hls]; rfl
    unfold DD.create
    rw [if_neg (by rw [h.off]; decide), if_neg (by rw [nameB_nm]; decide), h.files, hb, if_neg (by simp [isHead]), ha, hD1, hg0]
    rfl
  have hne : g0.id ≠ f.id := by rw [hg0]; show D.made ≠ f.id; have := h.made; omega
  have hr2 : ∀ u v : List UInt8, Rising [f, { g0 with last := u, seen := v }] := fun u v => ⟨fun g hg => by
    rw [List.mem_singleton.1 hg, h.name, hg0]; exact hlt, rising_one _⟩
  have hgn : g0.name = nm (n + 1) := by rw [hg0]
  have hgl : g0.last = [] := by rw [hg0]
  have hgs : g0.seen = [] := by rw [hg0]
  have htk1 : takesAll D1.files = takesAll D.files := by
    rw [hD1, h.files]
    simp only [takesAll, DF.takes, hgl, hgs]
    rfl
  have hTf := h.takes
  have hro := h.room
  obtain ⟨bS, X1, s1, s2, s3, s4, s5⟩ := putB_enc 83 xs ⟨0, [], firstM (n + 1), M⟩ rfl (fun t ht => by have := hxs t ht; omega)
  obtain ⟨Z, hZ⟩ : ∃ Z, putB 83 xs ⟨0, [], firstM (n + 1), M⟩ = Z := ⟨_, rfl⟩
  rw [hZ] at s1 s2 s3 s5
  dsimp only at s1 s2 s3 s4 s5
  rw [List.nil_append] at s2
  have hbSl : bS.length ≤ 40000 := by
    rw [enc_sum s5]
    have := sumL_le 83 hxs
    have h8 : (37 + 4096) * xs.length ≤ (37 + 4096) * 8 := Nat.mul_le_mul_left _ hx
    omega
  obtain ⟨bE, X2, t1, t2, t3, t4, t5⟩ := putB_enc 69 [[]] ⟨0, [], Z.mark, M ++ X1⟩ rfl (fun t ht => by rw [List.mem_singleton.1 ht]; simp)
  obtain ⟨Z2, hZ2⟩ : ∃ Z2, putB 69 [[]] ⟨0, [], Z.mark, M ++ X1⟩ = Z2 := ⟨_, rfl⟩
  rw [hZ2] at t1 t2 t3 t5
  dsimp only at t1 t2 t3 t4 t5
  rw [List.nil_append] at t2
  simp only [List.map_cons, List.map_nil] at t5
  have hbEl : bE.length = 37 := by rw [one_enc t5]; rfl
  have hsum : sumL (segR xs []) = bS.length + bE.length := by
    rw [enc_sum s5, hbEl]
    simp [segR, sumL]
  -- the first write
  have hf1 : D1.files = [f] ++ g0 :: [] := by rw [hD1]; rfl
  have w1 := put_end (A := [f]) (B := []) (g := g0) (n := n + 1) (E0 := 0) (T := []) (b := bS) hf1 (by rw [hf1]; have := hr2 g0.last g0.seen; exact this) (by rw [hD1]; exact h.off) hgn (by rw [hgs]; rfl) (by rw [hgl]; exact Nat.zero_le _) (by rw [hD1]; exact h.most) (by rw [htk1, hD1]; exact hro) (by rw [hD1]; exact h.fuse) (by omega)
  have hg0t : g0.takes = 0 := by simp [DF.takes, hgl, hgs, secs]
  simp only [List.length_nil, Nat.zero_add, List.nil_append, Nat.max_self, Nat.zero_max] at w1
  rw [hg0t] at w1
  unfold DD.free at w1
  rw [htk1] at w1
  have hm1 : D1.most = D.most := by rw [hD1]
  have hfu1 : D1.fuse = D.fuse := by rw [hD1]
  have hwt1 : D1.wait = D.wait := by rw [hD1]
  have hmd1 : D1.made = D.made + 1 := by rw [hD1]
  rw [hm1, hfu1, hwt1, hmd1] at w1
  have hA : putW D1 M ⟨n + 1, 0, firstM (n + 1)⟩ 83 xs = (if (D1.write (nm (n + 1)) ((0 : Nat) : Int) bS).1 ≠ 0 then ⟨(D1.write (nm (n + 1)) ((0 : Nat) : Int) bS).1, (D1.write (nm (n + 1)) ((0 : Nat) : Int) bS).2, M ++ X1, ⟨n + 1, 0, firstM (n + 1)⟩⟩
      else ⟨0, (D1.write (nm (n + 1)) ((0 : Nat) : Int) bS).2, M ++ X1, ⟨n + 1, bS.length, Z.mark⟩⟩) := by
    unfold putW
    dsimp only
    rw [hZ, if_neg (by rw [s1]; exact fun h => h rfl), s2, s3]
    simp only [Nat.zero_add]
  obtain ⟨W1, hW1⟩ : ∃ W1, D1.write (nm (n + 1)) ((0 : Nat) : Int) bS = W1 := ⟨_, rfl⟩
  rw [hW1] at hA w1
  have hn9 : n ≠ 99999999 := by omega
  have hmono : secs bS.length ≤ secs (bS.length + bE.length) := by unfold secs; omega
  have half2 : ∀ (Y : Bk) (u : List UInt8) (k : Nat), Tail (D.wait ++ (pcs bS.length g0.id 0 bS).take k) (M ++ X1 ++ Y) n f E0 rs0 out0 tt1 P m0 cs ts m1 ∧
      Half (D.wait ++ (pcs bS.length g0.id 0 bS).take k) (M ++ X1 ++ Y) (n + 1) { g0 with seen := u } 0 [] [] (firstM (n + 1)) [xs.map (83 :: ·)] [bS] Z.mark := by
    intro Y u k
    obtain ⟨q1, q2, _⟩ := h.two (W2 := (pcs bS.length g0.id 0 bS).take k) hne (fun p hp => (pcs_ok _ _ _ _ p (List.mem_of_mem_take hp)).1)
    refine ⟨⟨⟨h.name, (h.enc0.more X1).more Y, (h.encC.more X1).more Y, h.last, ⟨_, q1⟩⟩, h.core, h.flat⟩, ⟨hgn, .nil _, .cons (s5.more Y) (.nil _), by rw [show ({ g0 with seen := u } : DF).last = g0.last from rfl, hgl]; rfl, ⟨k, ?_⟩⟩⟩
    rw [show ({ g0 with seen := u } : DF).id = g0.id from rfl, q2]
    simp [wpcs]
  have hrm : ∀ (DD' : DD) (u v : List UInt8), DD'.files = [f, { g0 with last := u, seen := v }] → DD'.off = false → DD'.remove (nm (n + 1)) = (0, { DD' with files := [f], wait := DD'.wait.filter fun p => !(p.id == g0.id) }) := by
    intro DD' u v e1 e2
    have := remove_mid (D := DD') (A := [f]) (B := []) (f := { g0 with last := u, seen := v }) e1 (by rw [e1]; exact hr2 u v) e2
    rw [show ({ g0 with last := u, seen := v } : DF).name = nm (n + 1) from hgn] at this
    exact this
  rcases w1 with ⟨⟨_, c1⟩, c2⟩ | ⟨c0, ⟨c1, c2, c3, c4, c5, c6, c7, c8, c9⟩ | ⟨c1, c2, c3, ⟨u, c4, _⟩, ⟨k, c5⟩, c6, c7, c8⟩⟩
  · -- no room for the snapshot
    rw [c2, if_pos z7] at hA
    have hR2 := turn_how hl hn9 hcreate hA (if_neg z7) (if_neg z7)
    rw [hR, if_pos z7, if_pos or7] at hR2
    have hrem := hrm D1 [] [] (by rw [hf1, hg0]; rfl) (by rw [hD1]; exact h.off)
    rw [hrem] at hR2
    refine ⟨X1, by rw [hR2], by omega, .inl ?_⟩
    rw [hR2]
    refine ⟨rfl, h.like (by rw [h.files]) ?_ (by show D1.off = false; rw [hD1]; exact h.off) hm1 (by show f.id < D1.made; rw [hmd1]; have := h.made; omega) (by show -1 ≤ D1.fuse; rw [hfu1]; exact h.fuse), rfl, rfl, fun e => by show D1.fuse = -1; rw [hfu1, e], hm1, ?_⟩
    · show D1.wait.filter _ = D.wait
      rw [hwt1]
      exact filter_other fun p hp => by rw [h.waits p hp]; exact fun e => hne e.symm
    · rw [hsum]
      omega
  · -- the snapshot is written
    rw [if_neg (by rw [c1]; exact z00)] at hA
    have hf2 : W1.2.files = [f] ++ { g0 with seen := bS } :: [] := by
      rw [c3]
      have : pad bS 0 = bS := by unfold pad; simp
      rw [this]
    have hB : putW W1.2 (M ++ X1) ⟨n + 1, bS.length, Z.mark⟩ 69 [[]] = (if (W1.2.write (nm (n + 1)) ((bS.length : Nat) : Int) bE).1 ≠ 0 then ⟨(W1.2.write (nm (n + 1)) ((bS.length : Nat) : Int) bE).1, (W1.2.write (nm (n + 1)) ((bS.length : Nat) : Int) bE).2, M ++ X1 ++ X2, ⟨n + 1, bS.length, Z.mark⟩⟩
        else ⟨0, (W1.2.write (nm (n + 1)) ((bS.length : Nat) : Int) bE).2, M ++ X1 ++ X2, ⟨n + 1, bS.length + bE.length, Z2.mark⟩⟩) := by
      unfold putW
      dsimp only
      rw [hZ2, if_neg (by rw [t1]; exact fun h => h rfl), t2, t3]
    have w2 := put_end (A := [f]) (B := []) (g := { g0 with seen := bS }) (n := n + 1) (E0 := 0) (T := bS) (b := bE) hf2 (by rw [hf2]; have := hr2 g0.last bS; exact this) c2 hgn (by unfold pad; simp) (by rw [show ({ g0 with seen := bS } : DF).last = g0.last from rfl, hgl]; exact Nat.zero_le _)
      (by rw [c5]; exact h.most) (by rw [c5]; exact c9) c7 (by omega)
    obtain ⟨W2, hW2⟩ : ∃ W2, W1.2.write (nm (n + 1)) ((bS.length : Nat) : Int) bE = W2 := ⟨_, rfl⟩
    rw [hW2] at hB w2
    have hg1t : ({ g0 with seen := bS } : DF).takes = secs bS.length := by simp [DF.takes, hgl]
    have htk2 : takesAll W1.2.files = takesAll D.files + secs bS.length := by
      rw [hf2, takesAll_mid, hg1t, h.files]
      simp [takesAll]
    rw [hg1t] at w2
    unfold DD.free at w2
    rw [htk2, c5, c6, c4] at w2
    have hbE0 : bE ≠ [] := fun e => by rw [e] at hbEl; simp at hbEl
    have hids : ∀ p ∈ pcs bS.length g0.id 0 bS, p.id = g0.id := fun p hp => (pcs_ok _ _ _ _ p hp).1
    rcases w2 with ⟨⟨_, d1⟩, d2⟩ | ⟨d0, ⟨d1, d2, d3, d4, d5, d6, d7, d8, d9⟩ | ⟨d1, d2, d3, ⟨u, d4, _⟩, ⟨k, d5⟩, d6, d7, d8⟩⟩
    · -- no room for its end
      rw [d2, if_pos z7] at hB
      have hR2 := turn_how hl hn9 hcreate hA ((if_pos rfl).trans hB) (if_neg z7)
      rw [hR, if_pos z7, if_pos or7] at hR2
      have hrem := hrm W1.2 g0.last bS hf2 c2
      rw [hrem] at hR2
      refine ⟨X1 ++ X2, by rw [hR2, ← List.append_assoc], by rw [List.length_append]; simp only [List.length_singleton] at t4; omega, .inl ?_⟩
      rw [hR2]
      refine ⟨rfl, h.like (by rw [h.files]) ?_ c2 c5 (by show f.id < W1.2.made; rw [c6]; have := h.made; omega) c7, rfl, rfl, fun e => c8 e, c5, ?_⟩
      · show W1.2.wait.filter _ = D.wait
        rw [c4]
        exact (h.two hne hids).2.2
      · rw [hsum]
        push_cast at d1
        omega
    · -- all is written
      rw [if_neg (by rw [d1]; exact z00)] at hB
      have hR2 := turn_how hl hn9 hcreate hA ((if_pos rfl).trans hB) ((if_pos rfl).trans (sync_on d2))
      rw [hR, if_neg z00, if_neg or0] at hR2
      have hpad : pad (bS ++ bE) 0 = bS ++ bE := by unfold pad; simp
      rw [hpad] at d3
      have hids2 : ∀ p ∈ pcs bE.length g0.id bS.length bE, p.id = g0.id := fun p hp => (pcs_ok _ _ _ _ p hp).1
      -- the new file lasts
      have hsg : syncF W2.2.wait { g0 with seen := bS ++ bE } = { g0 with last := bS ++ bE, seen := bS ++ bE } := by
        rw [d4, syncF_append, syncF_append, syncF_other (W := D.wait) (f := { g0 with seen := bS ++ bE }) (fun p hp => by rw [h.waits p hp]; exact fun e => hne e.symm)]
        have e1 := wsync 0 [bS, bE] [] { g0 with seen := bS ++ bE } (by show g0.last = _; rw [hgl]; rfl)
        simp only [wpcs, List.length_nil, Nat.zero_add, List.append_nil, List.nil_append, List.flatten_cons, List.flatten_nil] at e1
        rw [syncF_append, hpad] at e1
        exact e1
      have hsf := syncF_name W2.2.wait f
      have hfm : W2.2.files.map (syncF W2.2.wait) = syncF W2.2.wait f :: { g0 with last := bS ++ bE, seen := bS ++ bE } :: [] := by
        rw [d3]
        simp only [List.map_cons, List.map_nil, List.cons_append, List.nil_append]
        rw [hsg]
      have hr3 : Rising (W2.2.files.map (syncF W2.2.wait)) := by
        rw [hfm]
        refine ⟨fun g hg => ?_, rising_one _⟩
        rw [List.mem_singleton.1 hg, hsf, h.name]
        show cmpS (nm n) g0.name < 0
        rw [hgn]; exact hlt
      have hrem := remove_mid (D := { W2.2 with files := W2.2.files.map (syncF W2.2.wait), wait := [] }) (A := []) (B := [{ g0 with last := bS ++ bE, seen := bS ++ bE }]) (f := syncF W2.2.wait f) hfm hr3 d2
      rw [hsf, h.name] at hrem
      dsimp only at hR2
      rw [hrem] at hR2
      refine ⟨X1 ++ X2, by rw [hR2, ← List.append_assoc], by rw [List.length_append]; simp only [List.length_singleton] at t4; omega, .inr (.inl ?_)⟩
      rw [hR2]
      refine ⟨rfl, ⟨{ g0 with last := bS ++ bE, seen := bS ++ bE }, bS ++ bE, Z2.mark, ?_, by rw [List.length_append]⟩, fun e => d8 (c8 e), d5, ?_⟩
      · refine ⟨d2, rfl, hgn, ?_, .nil _, hpad.symm, ?_, rfl, rfl, ?_, ?_, by rw [show ({ W2.2 with files := [] ++ [({ g0 with last := bS ++ bE, seen := bS ++ bE } : DF)], wait := [].filter fun p : DW => !(p.id == (syncF W2.2.wait f).id) } : DD).most = W2.2.most from rfl, d5]; exact h.most, d7, ?_⟩
        · rw [← List.append_assoc]
          have := (s5.more X2).append t5
          simpa [segR] using this
        · have := cores_seg xs []
          rwa [List.append_nil] at this
        · show bS ++ bE = pad (bS ++ bE ++ [].flatten) 0
          rw [List.flatten_nil, List.append_nil, hpad]
        · show g0.id < W2.2.made
          rw [d6, hg0]
          show D.made < D.made + 1
          omega
        · show ((takesAll [({ g0 with last := bS ++ bE, seen := bS ++ bE } : DF)] : Nat) : Int) ≤ W2.2.most
          rw [d5]
          rw [d3, takesAll_mid] at d9
          simp only [takesAll, DF.takes, Nat.max_self, Nat.add_zero] at d9 ⊢
          rw [show ({ g0 with seen := bS ++ bE } : DF).last = g0.last from rfl, hgl] at d9
          simp only [List.length_nil, Nat.max_zero] at d9
          omega
      · rw [hsum]
        have hdd : ¬ D.most - ((takesAll D.files + secs bS.length : Nat) : Int) < (secs (bS.length + bE.length) : Int) - (secs bS.length : Nat) := fun h => d0 ⟨hbE0, h⟩
        omega
    · -- the power goes while its end is written
      rw [d2, if_pos z14] at hB
      have hR2 := turn_how hl hn9 hcreate hA ((if_pos rfl).trans hB) (if_neg z14)
      rw [hR, if_pos z14, if_neg or14] at hR2
      refine ⟨X1 ++ X2, by rw [hR2, ← List.append_assoc], by rw [List.length_append]; simp only [List.length_singleton] at t4; omega, .inr (.inr ?_)⟩
      rw [hR2]
      refine ⟨rfl, fun e => d1 (c8 e), d3, rfl, fun Q hQ hQx Y zs hY => ?_⟩
      dsimp only
      rw [← List.append_assoc] at hY ⊢
      have hids3 : ∀ p ∈ pcs bS.length g0.id 0 bS ++ (pcs bE.length g0.id bS.length bE).take k, p.id = g0.id := fun p hp => by
        rcases List.mem_append.1 hp with hp | hp
        · exact hids p hp
        · exact (pcs_ok _ _ _ _ p (List.mem_of_mem_take hp)).1
      have d5 : W2.2.wait = D.wait ++ (pcs bS.length g0.id 0 bS ++ (pcs bE.length g0.id bS.length bE).take k) := by rw [d5, List.append_assoc]
      obtain ⟨q1, q2, _⟩ := h.two hne hids3
      rw [← d5] at q1 q2
      have htl : Tail W2.2.wait (M ++ X1 ++ X2 ++ Y) n f E0 rs0 out0 tt1 P m0 cs ts m1 := ⟨⟨h.name, ((h.enc0.more X1).more X2).more Y, ((h.encC.more X1).more X2).more Y, h.last, ⟨_, q1⟩⟩, h.core, h.flat⟩
      have hhf : Half W2.2.wait (M ++ X1 ++ X2 ++ Y) (n + 1) { g0 with seen := u } 0 [] [] (firstM (n + 1)) [xs.map (83 :: ·), [[69]]] [bS, bE] Z2.mark := by
        refine ⟨hgn, .nil _, .cons ((s5.more X2).more Y) (.cons (t5.more Y) (.nil _)), by rw [show ({ g0 with seen := u } : DF).last = g0.last from rfl, hgl]; rfl, ⟨(pcs bS.length g0.id 0 bS).length + k, ?_⟩⟩
        rw [show ({ g0 with seen := u } : DF).id = g0.id from rfl, q2]
        simp only [wpcs, List.length_nil, Nat.zero_add, List.append_nil]
        rw [List.take_append, List.take_of_length_le (Nat.le_add_right _ _), show (pcs bS.length g0.id 0 bS).length + k - (pcs bS.length g0.id 0 bS).length = k by omega]
      refine rec_two htl hhf (.inr (by simp [segR])) d4 (by rw [d4]; have := hr2 g0.last u; exact this) (by rw [d7]; have := h.made; omega) (by show g0.id < _; rw [d7, hg0]; show D.made < D.made + 1; omega) hne (by rw [d6]; exact h.most) ?_ hY hQ hQx zs
      rw [d6]
      simp only [List.flatten_cons, List.flatten_nil, List.append_nil, List.length_append]
      have hdd : ¬ D.most - ((takesAll D.files + secs bS.length : Nat) : Int) < (secs (bS.length + bE.length) : Int) - (secs bS.length : Nat) := fun h => d0 ⟨hbE0, h⟩
      rw [hTf] at hdd
      rw [show max (max P.length E0) (P.length + ts.flatten.length) = max (P.length + ts.flatten.length) E0 by omega]
      omega
  · -- the power goes while the snapshot is written
    rw [c2, if_pos z14] at hA
    have hR2 := turn_how hl hn9 hcreate hA (if_neg z14) (if_neg z14)
    rw [hR, if_pos z14, if_neg or14] at hR2
    refine ⟨X1, by rw [hR2], by omega, .inr (.inr ?_)⟩
    rw [hR2]
    refine ⟨rfl, c1, c3, rfl, fun Q hQ hQx Y zs hY => ?_⟩
    dsimp only
    obtain ⟨htl, hhf⟩ := half2 Y u k
    rw [← c5] at htl hhf
    refine rec_two htl hhf (.inl (by simp)) c4 (by rw [c4]; have := hr2 g0.last u; exact this) (by rw [c7]; have := h.made; omega) (by show g0.id < _; rw [c7, hg0]; show D.made < D.made + 1; omega) hne (by rw [c6]; exact h.most) ?_ hY hQ hQx zs
    rw [c6]
    simp only [List.flatten_cons, List.flatten_nil, List.append_nil]
    rw [show max (max P.length E0) (P.length + ts.flatten.length) = max (P.length + ts.flatten.length) E0 by omega]
    rw [hTf] at c0
    by_cases hb0 : bS = []
    · rw [hb0]
      have : secs ([] : List UInt8).length = 0 := rfl
      rw [this]
      rw [hTf] at hro
      omega
    · have hcc : ¬ D.most - ((secs (max (P.length + ts.flatten.length) E0) : Nat) : Int) < (secs bS.length : Int) - ((0 : Nat) : Int) := fun h => c0 ⟨hb0, h⟩
      omega

end
end Go.X

/-! Formatting a device that has no segments. -/
namespace Go.X

theorem segsW_nil {D : DD} (h : D.files = []) : segsW D = [] := by unfold segsW DD.names; rw [h]; rfl

theorem takesAll_zero : ∀ {A : List DF}, (∀ x ∈ A, x.seen = [] ∧ x.last = []) → takesAll A = 0
  | [], _ => rfl
  | x :: A, h => by
    have h1 := h x List.mem_cons_self
    simp [takesAll, DF.takes, h1.1, h1.2, secs, takesAll_zero fun y hy => h y (List.mem_cons_of_mem _ hy)]

/-- A segment is begun on a device whose files are all empty. -/
theorem begin_empty {D : DD} {M : Bk} {A B : List DF} {D1 : DD} {g0 : DF} (hc : D.create (nm 1) = (0, D1)) (hg0 : g0 = ⟨D.made, nm 1, [], []⟩) (hD1 : D1 = { D with files := A ++ g0 :: B, made := D.made + 1 })
    (hr : Rising (A ++ g0 :: B)) (ho : D.off = false) (hw : D.wait = []) (hm0 : 1 ≤ D.most) (hm : D.most ≤ 8192) (hf : D.fuse = -1) (he : ∀ x ∈ A ++ B, x.seen = [] ∧ x.last = []) (hid : ∀ x ∈ A ++ B, x.id < D.made) :
    ∃ Xb P m, (beginW D M 1 []).err = 0 ∧ (beginW D M 1 []).book = M ++ Xb ∧ Xb.length ≤ 1 ∧ Enc (M ++ Xb) (firstM 1) [[69]] P m ∧ P.length = 37 ∧ (beginW D M 1 []).log = ⟨1, 37, m⟩ ∧
      (beginW D M 1 []).disk.files = A ++ { g0 with last := P, seen := P } :: B ∧ (beginW D M 1 []).disk.off = false ∧ (beginW D M 1 []).disk.wait = [] ∧ (beginW D M 1 []).disk.fuse = -1 ∧ (beginW D M 1 []).disk.most = D.most ∧ (beginW D M 1 []).disk.made = D.made + 1 := by
  have hgn : g0.name = nm 1 := by rw [hg0]
  have hgl : g0.last = [] := by rw [hg0]
  have hgs : g0.seen = [] := by rw [hg0]
  have hf1 : D1.files = A ++ g0 :: B := by rw [hD1]
  have hz : takesAll A + takesAll B = 0 := by rw [← takesAll_append]; exact takesAll_zero he
  have hg0t : g0.takes = 0 := by simp [DF.takes, hgl, hgs, secs]
  have htk1 : takesAll D1.files = 0 := by rw [hf1, takesAll_mid]; omega
  have hr2 : ∀ u v : List UInt8, Rising (A ++ { g0 with last := u, seen := v } :: B) := fun u v => rising_mid (f := g0) rfl hr
  have w1 := put_end (A := A) (B := B) (g := g0) (n := 1) (E0 := 0) (T := []) (b := []) hf1 (by rw [hf1]; exact hr) (by rw [hD1]; exact ho) hgn (by rw [hgs]; rfl) (by rw [hgl]; exact Nat.zero_le _) (by rw [hD1]; exact hm) (by rw [htk1, hD1]; show ((0 : Nat) : Int) ≤ D.most; omega) (by rw [hD1]; show -1 ≤ D.fuse; omega) (by decide)
  obtain ⟨bE, X2, t1, t2, t3, t4, t5⟩ := putB_enc 69 [[]] ⟨0, [], firstM 1, M⟩ rfl (fun t ht => by rw [List.mem_singleton.1 ht]; simp)
  obtain ⟨Z2, hZ2⟩ : ∃ Z2, putB 69 [[]] ⟨0, [], firstM 1, M⟩ = Z2 := ⟨_, rfl⟩
  rw [hZ2] at t1 t2 t3 t5
  dsimp only at t1 t2 t3 t4 t5
  rw [List.nil_append] at t2
  simp only [List.map_cons, List.map_nil] at t5
  have hbEl : bE.length = 37 := by rw [one_enc t5]; rfl
  have hA : putW D1 M ⟨1, 0, firstM 1⟩ 83 [] = (if (D1.write (nm 1) ((0 : Nat) : Int) []).1 ≠ 0 then ⟨(D1.write (nm 1) ((0 : Nat) : Int) []).1, (D1.write (nm 1) ((0 : Nat) : Int) []).2, M, ⟨1, 0, firstM 1⟩⟩
      else ⟨0, (D1.write (nm 1) ((0 : Nat) : Int) []).2, M, ⟨1, 0, firstM 1⟩⟩) := rfl
  simp only [List.length_nil] at w1
  obtain ⟨W1, hW1⟩ : ∃ W1, D1.write (nm 1) ((0 : Nat) : Int) [] = W1 := ⟨_, rfl⟩
  rw [hW1] at hA w1
  have hfu1 : D1.fuse = D.fuse := by rw [hD1]
  rcases w1 with ⟨⟨c1, _⟩, _⟩ | ⟨c0, ⟨c1, c2, c3, c4, c5, c6, c7, c8, c9⟩ | ⟨c1, _⟩⟩
  · exact absurd rfl c1
  · rw [if_neg (by rw [c1]; exact z00)] at hA
    have hpad0 : pad ([] ++ [] : List UInt8) 0 = [] := rfl
    rw [hpad0] at c3
    have hg : ({ g0 with seen := [] } : DF) = g0 := by rw [hg0]
    rw [hg] at c3
    have hB : putW W1.2 M ⟨1, 0, firstM 1⟩ 69 [[]] = (if (W1.2.write (nm 1) ((0 : Nat) : Int) bE).1 ≠ 0 then ⟨(W1.2.write (nm 1) ((0 : Nat) : Int) bE).1, (W1.2.write (nm 1) ((0 : Nat) : Int) bE).2, M ++ X2, ⟨1, 0, firstM 1⟩⟩
        else ⟨0, (W1.2.write (nm 1) ((0 : Nat) : Int) bE).2, M ++ X2, ⟨1, 37, Z2.mark⟩⟩) := by
      unfold putW
      dsimp only
      rw [hZ2, if_neg (by rw [t1]; exact z00), t2, t3, hbEl]
    have hm1 : D1.most = D.most := by rw [hD1]
    have htk2 : takesAll W1.2.files = 0 := by rw [c3, ← hf1, htk1]
    have w2 := put_end (A := A) (B := B) (g := g0) (n := 1) (E0 := 0) (T := []) (b := bE) c3 (by rw [c3]; exact hr) c2 hgn (by rw [hgs]; rfl) (by rw [hgl]; exact Nat.zero_le _) (by rw [c5, hm1]; exact hm) (by rw [htk2, c5, hm1]; show ((0 : Nat) : Int) ≤ D.most; omega) c7 (by omega)
    simp only [List.length_nil] at w2
    obtain ⟨W2, hW2⟩ : ∃ W2, W1.2.write (nm 1) ((0 : Nat) : Int) bE = W2 := ⟨_, rfl⟩
    rw [hW2] at hB w2
    unfold DD.free at w2
    rw [htk2, hg0t, c5, hm1, hbEl] at w2
    have hs37 : secs (0 + 37) = 1 := rfl
    rw [hs37] at w2
    have hfuW1 : W1.2.fuse = -1 := c8 (by rw [hfu1]; exact hf)
    rcases w2 with ⟨⟨_, d1⟩, d2⟩ | ⟨d0, ⟨d1, d2, d3, d4, d5, d6, d7, d8, d9⟩ | ⟨d1, _⟩⟩
    · exfalso; omega
    · rw [if_neg (by rw [d1]; exact z00)] at hB
      have hpad : pad ([] ++ bE) 0 = bE := by unfold pad; simp
      rw [hpad] at d3
      have hwait2 : W2.2.wait = wpcs g0.id 0 [bE] := by
        rw [d4, c4, hD1, hw]
        simp [wpcs, pcs, hbEl]
      have hsg : syncF W2.2.wait { g0 with seen := bE } = { g0 with last := bE, seen := bE } := by
        have e1 := wsync 0 [bE] [] { g0 with seen := bE } (by show g0.last = _; rw [hgl]; rfl)
        simp only [List.length_nil, List.nil_append, List.flatten_cons, List.flatten_nil, List.append_nil] at e1
        rw [hwait2]
        have : pad bE 0 = bE := by unfold pad; simp
        rw [this] at e1
        exact e1
      have hsx : ∀ x ∈ A ++ B, syncF W2.2.wait x = x := fun x hx => syncF_other fun p hp => by
        rw [hwait2] at hp
        rw [wpcs_id _ _ _ p hp, hg0]
        have := hid x hx
        show D.made ≠ x.id
        omega
      have hmap : ∀ C : List DF, (∀ x ∈ C, syncF W2.2.wait x = x) → C.map (syncF W2.2.wait) = C := by
        intro C
        induction C with
        | nil => intro _; rfl
        | cons x C ih => intro h; rw [List.map_cons, h x List.mem_cons_self, ih fun y hy => h y (List.mem_cons_of_mem _ hy)]
      have hmapA := hmap A fun x hx => hsx x (List.mem_append_left _ hx)
      have hmapB := hmap B fun x hx => hsx x (List.mem_append_right _ hx)
      have hbeg : beginW D M 1 [] = ⟨0, { W2.2 with files := A ++ { g0 with last := bE, seen := bE } :: B, wait := [] }, M ++ X2, ⟨1, 37, Z2.mark⟩⟩ := by
        unfold beginW
        rw [hc]
        dsimp only
        rw [if_neg z00, hA]
        dsimp only
        rw [if_pos rfl, hB]
        dsimp only
        rw [if_pos rfl, sync_on d2]
        dsimp only
        rw [if_neg or0, d3, List.map_append, List.map_cons, hmapA, hmapB, hsg]
      refine ⟨X2, bE, Z2.mark, ?_⟩
      rw [hbeg]
      exact ⟨rfl, rfl, t4, t5, hbEl, rfl, rfl, d2, rfl, d8 hfuW1, by show W2.2.most = _; rw [d5], by show W2.2.made = _; rw [d6, c6, hD1]⟩
    · exact absurd hfuW1 d1
  · exact absurd (by rw [hfu1]; exact hf) c1

/-- A device laid anew. -/
theorem format_new {n : Nat} (h1 : 1 ≤ n) (h2 : n ≤ 8192) : (formatW (DD.empty n) []).err = 0 ∧ ∃ f P m, Up (formatW (DD.empty n) []).disk (formatW (DD.empty n) []).book 1 f 0 [[69]] [] [] P m [] [] m ∧ P.length = 37 ∧ (formatW (DD.empty n) []).log = ⟨1, P.length, m⟩ ∧
    (formatW (DD.empty n) []).book.length ≤ 1 ∧ (formatW (DD.empty n) []).disk.fuse = -1 ∧ (formatW (DD.empty n) []).disk.most = n := by
  have hfm : formatW (DD.empty n) [] = beginW (DD.empty n) [] 1 [] := by
    unfold formatW
    rw [if_neg (by show ¬ (false = true); decide), segsW_nil rfl]
    rfl
  rw [hfm]
  have hc : (DD.empty n).create (nm 1) = (0, { DD.empty n with files := [⟨0, nm 1, [], []⟩], made := 0 + 1 }) := by
    unfold DD.create
    rw [if_neg (by show ¬ (false = true); decide), if_neg (by rw [nameB_nm]; decide), if_neg (by show ¬ (isHead (nm 1) (behind (nm 1) []) = true); simp [behind, isHead])]
    rfl
  obtain ⟨Xb, P, m, e1, e2, e3, e4, e5, e6, e7, e8, e9, e10, e11, e12⟩ := begin_empty (D := DD.empty n) (M := []) (A := []) (B := []) (D1 := _) (g0 := ⟨0, nm 1, [], []⟩) hc rfl rfl (rising_one _) rfl rfl (by show (1 : Int) ≤ n; omega) (by show (n : Int) ≤ 8192; omega) rfl (fun x hx => by cases hx) (fun x hx => by cases hx)
  refine ⟨e1, { (⟨0, nm 1, [], []⟩ : DF) with last := P, seen := P }, P, m, ?_, e5, by rw [e6, e5], by rw [e2]; simpa using e3, e10, e11⟩
  have hp : pad P 0 = P := by unfold pad; simp
  refine ⟨e8, e7, rfl, ?_, .nil _, hp.symm, rfl, rfl, by rw [e9]; rfl, ?_, by rw [e12]; show (0 : Int) < 0 + 1; decide, by rw [e11]; show (n : Int) ≤ 8192; omega, by rw [e10]; decide, ?_⟩
  · rw [e2]; exact e4
  · show P = pad (P ++ [].flatten) 0
    rw [List.flatten_nil, List.append_nil, hp]
  · rw [e7, e11]
    show ((takesAll [({ id := 0, name := nm 1, last := P, seen := P } : DF)] : Nat) : Int) ≤ n
    simp only [takesAll, DF.takes, e5, Nat.max_self, Nat.add_zero]
    have : secs 37 = 1 := rfl
    rw [this]
    omega

end Go.X

/-! Where there is room; what a crash leaves of what is synced. -/
namespace Go.X

/-- A crash that loses all that waited. -/
theorem Up.crash_nil {D : DD} {M : Bk} {n E0 : Nat} {f : DF} {rs0 out0 tt1 : List (List UInt8)} {P m0 m1 : List UInt8} {cs : List (List (List UInt8))} {ts : List (List UInt8)} (h : Up D M n f E0 rs0 out0 tt1 P m0 cs ts m1) {Q : List (List UInt8) → Prop} (hQ : Q out0) :
    Clean (D.crash []) M Q n (reborn f) rs0 P m0 out0 ∧ (D.crash []).fuse = -1 ∧ (D.crash []).count = D.count := by
  have hfl : (D.crash []).files = [reborn f] := by
    unfold DD.crash
    rw [h.files]
    simp only [List.map_cons, List.map_nil, fates_none]
  have hl : (reborn f).last = pad P E0 := h.last
  have hpl : pad P E0 = pad P (pad P E0).length := by
    rw [pad_length]
    unfold pad
    congr 2
    omega
  refine ⟨⟨⟨rfl, rfl, by rw [hfl]; exact rising_one _, h.made, h.most, Int.le_refl _, ?_, h.name, rfl, by rw [hl]; exact found_pad h.enc0 _, h.core, hQ, .inl hfl⟩, hfl, by rw [hl]; exact hpl⟩, rfl, rfl⟩
  rw [hfl]
  show ((takesAll [reborn f] : Nat) : Int) ≤ D.most
  have e : (reborn f).takes = secs (max P.length E0) := by
    show secs (max (reborn f).seen.length (reborn f).last.length) = _
    rw [show (reborn f).seen = f.last from rfl, show (reborn f).last = f.last from rfl, Nat.max_self, h.last, pad_length]
  have hr := h.room
  rw [h.takes] at hr
  simp only [takesAll, e, Nat.add_zero]
  have : secs (max P.length E0) ≤ secs (max (P.length + ts.flatten.length) E0) := by unfold secs; omega
  omega

/-- Opening a clean device. -/
theorem Clean.open {D : DD} {M : Bk} {Q : List (List UInt8) → Prop} {n : Nat} {f : DF} {rs : List (List UInt8)} {bs m : List UInt8} {out : List (List UInt8)} (h : Clean D M Q n f rs bs m out) (hn : n ≤ 1000000) (hM : M.length < 65536) (hf : D.fuse = -1) :
    (openW D M).err = 0 ∧ (openW D M).out = out ∧ (openW D M).disk = D ∧ (openW D M).log = ⟨n, bs.length, m⟩ := by
  rcases open_rec h.rec_ hn hM with ⟨e1, ⟨n', f', rs', bs', m', e2, e3, e4⟩, e5, e6⟩ | ⟨e0, _⟩
  · obtain ⟨e7, e8⟩ := e6 h.one
    refine ⟨e1, e7, e8 h.pads, ?_⟩
    have hlog : (openW D M).log = LD.log ⟨bs.length, m, true, out⟩ n := by
      unfold openW
      rw [if_neg (by rw [h.rec_.off]; decide), segsW_one h.one h.rec_.name (by omega)]
      unfold openL
      rw [loadW_mid (A := []) (B := []) h.one h.rec_.rising h.rec_.off h.rec_.name M, h.rec_.same, h.rec_.found.load h.rec_.core]
      rfl
    exact hlog
  · exact absurd hf e0

/-- What is appended where there is room. -/
theorem put_room {D : DD} {M : Bk} {n E0 : Nat} {f : DF} {rs0 out0 tt1 : List (List UInt8)} {P m0 m1 : List UInt8} {cs : List (List (List UInt8))} {ts : List (List UInt8)} (h : Up D M n f E0 rs0 out0 tt1 P m0 cs ts m1) (hfu : D.fuse = -1) {s : List UInt8} (hs : s.length ≤ 4096)
    (hroom : (secs (P.length + ts.flatten.length + (37 + s.length)) : Int) ≤ D.most) {R : PR4} (hR : putW D M ⟨n, P.length + ts.flatten.length, m1⟩ 82 [s] = R) :
    R.err = 0 ∧ R.book.length ≤ M.length + 1 ∧ R.disk.fuse = -1 ∧ R.disk.most = D.most ∧ ∃ f' b m2, Up R.disk R.book n f' E0 rs0 out0 (tt1 ++ [s]) P m0 (cs ++ [[82 :: s]]) (ts ++ [b]) m2 ∧ b.length = 37 + s.length ∧ R.log = ⟨n, P.length + (ts ++ [b]).flatten.length, m2⟩ := by
  obtain ⟨Xb, b, m2, b1, b2, b3, b4, b5⟩ := put_up h (by omega) hR
  rw [b4] at b5
  rcases b5 with ⟨e1, e2, e3, e4⟩ | ⟨e1, ⟨f', e2⟩, e3, e4, e5, _⟩ | ⟨e1, e2, _⟩
  · exfalso; omega
  · exact ⟨e1, by rw [b1, List.length_append]; omega, e4 hfu, e5, f', b, m2, e2, b4, e3⟩
  · exact absurd hfu e2

end Go.X

/-! A vault made; a ballot promised; MsgPrepare. -/
namespace Go.X
open Go.Proofs

/-! ### Plain -/

/-- A ballot is promised, if it is a greater one. -/
def boundV (X : VW) (n : Nat) : Bool × Bool × VW :=
  if n < X.v.st.promised then (true, false, X) else if n = X.v.st.promised then (false, true, X) else (false, decide ((writeV X [recP n]).1 = 0), (writeV X [recP n]).2)

theorem recP_len (n : Nat) : (recP n).length ≤ 10 := by have := numB_length n; simp only [recP, List.length_cons]; omega

theorem STok.promise {Z : ST} (h : STok Z) {n : Nat} (hn : n < 2 ^ 62) : STok { Z with promised := n } := ⟨hn, h.floor, h.top, h.gens, h.gn, h.list, h.en⟩

theorem sumR_promise (Z : ST) (n : Nat) : sumR ({ Z with promised := n } : ST).recs ≤ sumR Z.recs + 9 := by
  have h1 := numB_length n
  have h2 := numB_length Z.promised
  unfold ST.recs recP
  rw [sumR_cons, sumR_cons]
  simp only [List.length_cons]
  omega

section
variable {W w : World} {L : List SP} {v d b i k : Nat} {A : SP} {c : VB} {Z : ST} {X : VW}

theorem fresh_vault_spec (hs : Sat W w L) : Ret Tryz.prog F.vault_fresh [ptr b] w fun u w' => ∃ sp : Nat, u = .agg ⟨[.int .i64 0, .int .i64 0, .int .i64 0, .slice none 0 0, ptr sp]⟩ ∧ Sat W w' (StoreP sp b [] :: L) := by
  suffices H : ∀ K : Value → World → Prop, (∀ (sp : Nat) w', Sat W w' (StoreP sp b [] :: L) → K (.agg ⟨[.int .i64 0, .int .i64 0, .int .i64 0, .slice none 0 0, ptr sp]⟩) w') → S.vault_fresh (some ⟨b, 0, none⟩) K w from
    S.vault_fresh_ok _ _ _ (H _ fun sp _ h => ⟨sp, rfl, h⟩)
  intro K hK
  refine xnew hs fun a w1 h1 => xcall (New_store_spec b h1) ?_
  rintro u w2 ⟨sp, rfl, h2⟩
  refine ⟨some ⟨sp, 0, none⟩, rfl, xstoresP (h2.bring 1) rfl fun w3 h3 => ?_⟩
  refine xloadsP (ls := [.int .i64, .int .i64, .int .i64, .slice, .ptr]) ((0 : Int), (0 : Int), (0 : Int), ⟨none, 0, 0⟩, some ⟨sp, 0, none⟩, ()) h3 (hK sp w3 h3.drop)

theorem Make_spec {D : DD} {M : Bk} {id : Nat} (hid : id < 9) (hf : Fit i D) (hi : i ≤ 2 ^ 25) (hM : M.length ≤ 2 ^ 38) (he : (formatW D M).err = 0) (hs : Sat W w (DiskP d D :: BookP b M :: L)) :
    Ret Tryz.prog F.vault_Make [.int .i64 id, ptr d, ptr b] w fun u w' => ∃ v : Nat, u = .tuple ⟨[ptr v, .int .i64 0]⟩ ∧ Sat W w' (VaultP v d b ⟨id, (formatW D M).log, ST.none_, none, false⟩ :: DiskP d (formatW D M).disk :: BookP b (formatW D M).book :: L) := by
  suffices H : ∀ K : Value → World → Prop, (∀ (v : Nat) w', Sat W w' (VaultP v d b ⟨id, (formatW D M).log, ST.none_, none, false⟩ :: DiskP d (formatW D M).disk :: BookP b (formatW D M).book :: L) → K (.tuple ⟨[ptr v, .int .i64 0]⟩) w') → S.vault_Make id (some ⟨d, 0, none⟩) (some ⟨b, 0, none⟩) K w from
    S.vault_Make_ok _ _ _ _ _ (H _ fun v _ h => ⟨v, rfl, h⟩)
  intro K hK
  refine xjoin0 (XIf.no (decide_eq_false (by omega)) (XIf.no (decide_eq_false (by omega)) (xcalls (Format_spec hs hf hi hM) ?_)))
  rintro u w1 ⟨_, hb⟩
  obtain ⟨q, rfl, h1⟩ := hb he
  refine ⟨(some ⟨q, 0, none⟩, (0 : Int), ()), rfl, XIf.no rfl (xcall (fresh_vault_spec (b := b) h1) ?_)⟩
  rintro u w2 ⟨sp, rfl, h2⟩
  refine ⟨((0 : Int), (0 : Int), (0 : Int), ⟨none, 0, 0⟩, some ⟨sp, 0, none⟩, ()), rfl, xnew h2 fun v w3 h3 => hK v w3 ?_⟩
  have h4 : Sat W w3 (own 3 ⟨none, 0, 0⟩ [] :: _) := h3.own_nil (sz := 3)
  have h5 := StP.shut (c := ⟨id, d, b, q, sp, none, false⟩) (S := ST.none_) (ls := ⟨none, 0, 0⟩) (h4.arr [1, 0, 2])
  have h6 : Sat W w3 (InP none none :: _) := Sat.shut_fact rfl h5
  exact VaultP.shut (l := q) (sp := sp) (inp := none) (V := ⟨id, _, ST.none_, none, false⟩) ((h6.arr [1, 0, 2, 3, 4, 5]).bring 5 |>.drop)

theorem bound_spec {n : Nat} (hn : n < 2 ^ 62) (hg : VGood i k X) (hi : i ≤ 2 ^ 23) (hk : k ≤ 2 ^ 20) (hk1 : 1 ≤ k) (hk2 : sumR X.v.st.recs + 9 ≤ 700 * k) (hs : Sat W w (VaultP v d b X.v :: DiskP d X.D :: BookP b X.M :: L)) :
    Ret Tryz.prog F.vault_Vault_bound [ptr v, .int .i64 n] w fun u w' => u = .tuple ⟨[.bool (boundV X n).1, .bool (boundV X n).2.1]⟩ ∧ Sat W w' (VaultP v d b (boundV X n).2.2.v :: DiskP d (boundV X n).2.2.D :: BookP b (boundV X n).2.2.M :: L) := by
  suffices H : ∀ K : Value → World → Prop, (∀ w', Sat W w' (VaultP v d b (boundV X n).2.2.v :: DiskP d (boundV X n).2.2.D :: BookP b (boundV X n).2.2.M :: L) → K (.tuple ⟨[.bool (boundV X n).1, .bool (boundV X n).2.1]⟩) w') → S.vault_Vault_bound (some ⟨v, 0, none⟩) n K w from
    S.vault_Vault_bound_ok _ _ _ _ (H _ fun _ h => ⟨rfl, h⟩)
  intro K hK
  obtain ⟨l, sp, inp, h1⟩ := VaultP.open hs
  have hc4 := StP.openF (o := 4) h1 fun _ => rfl
  unfold boundV at hK
  refine xnil (xload_at (l := .int .i64) hc4 ?_)
  by_cases hlt : n < X.v.st.promised
  · rw [if_pos hlt] at hK
    exact XIf.yes (decide_eq_true (by omega)) (hK w hs)
  rw [if_neg hlt] at hK
  refine XIf.no (decide_eq_false (by omega)) (xnil (xload_at (l := .int .i64) hc4 ?_))
  by_cases heq : n = X.v.st.promised
  · rw [if_pos heq] at hK
    refine XIf.yes ?_ (hK w hs)
    rw [heq]
    exact beq_self_eq_true _
  rw [if_neg heq] at hK
  refine XIf.no ?_ (xnew hs fun a w1 h2 => xcall (num_spec (c := 80) (xs := [n]) (fun x hx => by rw [List.mem_singleton.1 hx]; exact hn) (show 1 ≤ 2 ^ 10 by decide) h2) ?_)
  · have : ¬ ((n : Int) = (X.v.st.promised : Int)) := by omega
    simpa using this
  rintro u w2 ⟨rfl, h3⟩
  have e1 : (80 :: ([n].map numB).flatten) = recP n := by simp [recP]
  rw [e1]
  refine ⟨str (recP n), rfl, xnew h3.drop fun r w3 h4 => ?_⟩
  have hone : oneOf [recP n] = recP n := rfl
  have hrl := recP_len n
  have hdoP : ∀ M, doS X.v.st M (recP n) = ⟨0, { X.v.st with promised := n }, M⟩ := fun M => doS_P hn
  have hgl := hg.log (by omega)
  have hgn := hg.n
  have hge := hg.end_
  have hgb := hg.book
  have hsp := sumR_promise X.v.st n
  obtain ⟨g1, g2, g3, g4, g5⟩ := againV_good (one := recP n) hg (by omega) hk (by omega)
  have hw := write1_spec (one := recP n) (r := r) (j := 0) (v := v) (d := d) (b := b) hg hi hk (by omega) (by omega) (fun c w L' h5 _ => by
    have h6 := do_spec (recP n) (by omega) (by have := hg.st.list; omega) (fun x r e _ h80 => by
      unfold recP at e
      cases e
      exact absurd rfl h80) (fun r e => by unfold recP at e; cases e) h5
    exact h6) (by rw [hdoP]; exact hg.st.promise hn) (by rw [hdoP]; exact Nat.le_trans hsp (by omega)) (by rw [hdoP]; exact Nat.le_refl _) (by decide) h4
  refine xcall hw ?_
  rintro u w4 ⟨rfl, h5⟩
  refine ⟨(writeV X [recP n]).1, rfl, ?_⟩
  have := hK w4 h5
  exact this

end
end Go.X

/-! Chapter 18's example; what a vault that nobody made answers. -/
namespace Go.X
open Go.Proofs

/-! ### Plain -/

/-- A vault that is made on a device. -/
def V0 (n : Nat) : VW := ⟨(formatW (DD.empty n) []).disk, (formatW (DD.empty n) []).book, ⟨3, (formatW (DD.empty n) []).log, ST.none_, none, false⟩⟩

theorem none_ok_st : STok ST.none_ := ⟨by decide, by decide, by decide, by decide, fun _ h => (by cases h), by decide, fun _ h => (by cases h)⟩
theorem none_recs : sumR ST.none_.recs = 79 := by decide

theorem format_good {i : Nat} {D : DD} (hf : Fit i D) (hn : D.files.length ≤ 0 ∨ True) (M : Bk) (hM : M.length ≤ i) (id : Nat) : VGood (i + 10) 1 ⟨(formatW D M).disk, (formatW D M).book, ⟨id, (formatW D M).log, ST.none_, none, false⟩⟩ := by
  unfold formatW
  split
  · exact ⟨hf.upto (by omega), by show 1 ≤ _; omega, Nat.zero_le _, by show (firstM 1).length ≤ _; rw [firstM_len]; decide, none_ok_st, by show sumR ST.none_.recs ≤ _; rw [none_recs]; decide, by show M.length ≤ _; omega⟩
  · obtain ⟨h1, h2, h3, h4, h5⟩ := beginW_fit2 (k := 0) (dropAll_fit (segsW D) hf) M 1 (by decide) [] (by decide) (by decide)
    refine ⟨h1.upto (by omega), ?_, beginW_end2 _ _ _ _, h2.mark, none_ok_st, by show sumR ST.none_.recs ≤ _; rw [none_recs]; decide, ?_⟩
    · show (beginW _ _ _ _).log.n ≤ _; omega
    · show (beginW _ _ _ _).book.length ≤ _; simp only [List.length_nil] at h5; omega

/-- A record lasts where there is room. -/
theorem writeV_room {X : VW} {n E0 : Nat} {f : DF} {rs0 out0 tt1 : List (List UInt8)} {P m0 m1 : List UInt8} {cs : List (List (List UInt8))} {ts : List (List UInt8)} (h : Up X.D X.M n f E0 rs0 out0 tt1 P m0 cs ts m1) (hlog : X.v.log = ⟨n, P.length + ts.flatten.length, m1⟩) (hfu : X.D.fuse = -1)
    {one : List UInt8} (hs : one.length ≤ 4096) (hroom : (secs (P.length + ts.flatten.length + (37 + one.length)) : Int) ≤ X.D.most) (hend : P.length + ts.flatten.length + (37 + one.length) ≤ 32768) (hdo : ∀ M, (doS X.v.st M one).err = 0 ∧ (doS X.v.st M one).book = M) :
    ∃ Y : VW, writeV X [one] = (0, Y) ∧ (∃ M, Y.v.st = (doS X.v.st M one).st) ∧ Y.v.dead = X.v.dead ∧ Y.v.id = X.v.id ∧ Y.D.off = false := by
  obtain ⟨R, hR⟩ : ∃ R, putW X.D X.M X.v.log 82 [one] = R := ⟨_, rfl⟩
  have hR2 := hR
  rw [hlog] at hR2
  obtain ⟨a1, a2, a3, a4, f1, b1, m2, a5, a6, a7⟩ := put_room h hfu hs hroom hR2
  have hB : againV X one = R := by
    unfold againV
    dsimp only
    rw [hR, a1]
    rfl
  obtain ⟨s1, f2, s2, _⟩ := sync_up a5
  have hsy : syncV R = R.disk.sync := by unfold syncV; rw [if_pos a1]
  obtain ⟨d1, d2⟩ := hdo R.book
  have hlen : R.log.end_ ≤ 32768 := by
    rw [a7]
    simp only [List.flatten_append, List.flatten_cons, List.flatten_nil, List.append_nil, List.length_append]
    omega
  refine ⟨⟨R.disk.sync.2, R.book, { X.v with log := R.log, st := (doS X.v.st R.book one).st }⟩, ?_, ⟨R.book, rfl⟩, rfl, rfl, s2.off⟩
  unfold writeV
  dsimp only [oneOf]
  rw [hB, a1, if_neg (by decide), hsy, s1, if_neg (fun h => h rfl), d1, if_neg (fun h => h rfl), d2]
  unfold tidyV
  rw [if_neg (by dsimp only; omega)]

theorem V0_write {n : Nat} (h1 : 2 ≤ n) (h2 : n ≤ 8192) (b : Nat) (hb : b < 2 ^ 62) : ∃ Y : VW, writeV (V0 n) [recP b] = (0, Y) ∧ Y.v.st = { ST.none_ with promised := b } ∧ Y.v.dead = false ∧ Y.v.id = 3 ∧ Y.D.off = false := by
  obtain ⟨e1, f, P, m, e2, e3, e4, e5, e6, e7⟩ := format_new (by omega : 1 ≤ n) h2
  have hl := recP_len b
  obtain ⟨Y, y1, ⟨M, y2⟩, y3, y4, y5⟩ := writeV_room (X := V0 n) e2 (by show (formatW (DD.empty n) []).log = _; rw [e4]; simp) e6 (one := recP b) (by omega) (by
    show _ ≤ (formatW (DD.empty n) []).disk.most
    rw [e7, e3]
    have : secs (37 + ([] : List (List UInt8)).flatten.length + (37 + (recP b).length)) ≤ 2 := by
      simp only [List.flatten_nil, List.length_nil]
      unfold secs
      omega
    omega) (by rw [e3]; simp only [List.flatten_nil, List.length_nil]; omega) (fun M => by rw [doS_P hb]; exact ⟨rfl, rfl⟩)
  rw [doS_P hb] at y2
  exact ⟨Y, y1, y2, y3, y4, y5⟩

section
variable {W w : World} {L : List SP} {v d b : Nat}

/-! ### MsgPrepare -/

/-- What is answered to MsgPrepare. -/
def prepV (X : VW) (m : MS) : Option MS × VW :=
  let B := boundV X m.ballot
  if B.1 then (some (nackV B.2.2 m), B.2.2) else if B.2.1 = false then (none, B.2.2) else (some (promiseV B.2.2 m), B.2.2)

theorem boundV_id (X : VW) (n : Nat) : (boundV X n).2.2.v.id = X.v.id := by
  unfold boundV
  split
  · rfl
  split
  · rfl
  · unfold writeV
    dsimp only
    split
    · rfl
    split
    · rfl
    split
    · rfl
    · unfold tidyV
      split <;> rfl

theorem Handle_prepare {X : VW} {m : MS} {s : Sl} {i k : Nat} (hm : m.kind = 1) (hb : m.ballot < 2 ^ 62) (hup : X.up = true) (hg : VGood i k X) (hi : i ≤ 2 ^ 23) (hk : k ≤ 2 ^ 20) (hk1 : 1 ≤ k) (hk2 : sumR X.v.st.recs + 9 ≤ 700 * k)
    (hg2 : STok (boundV X m.ballot).2.2.v.st) (hs : Sat W w (VaultP v d b X.v :: DiskP d X.D :: BookP b X.M :: L)) :
    Ret Tryz.prog F.vault_Vault_Handle [ptr v, .agg ⟨mcells m s⟩] w fun u w' => ∃ s' : Sl, u = .slice s'.a s'.len s'.cap ∧ Sat W w' (AnsP s' (prepV X m).1 :: VaultP v d b (prepV X m).2.v :: DiskP d (prepV X m).2.D :: BookP b (prepV X m).2.M :: L) := by
  suffices H : ∀ K : Value → World → Prop, (∀ (s' : Sl) w', Sat W w' (AnsP s' (prepV X m).1 :: VaultP v d b (prepV X m).2.v :: DiskP d (prepV X m).2.D :: BookP b (prepV X m).2.M :: L) → K (.slice s'.a s'.len s'.cap) w') → S.vault_Vault_Handle (some ⟨v, 0, none⟩) (msgH m s) K w from
    S.vault_Vault_Handle_ok _ (msgH m s) _ _ (H _ fun s' _ h => ⟨s', rfl, h⟩)
  intro K hK
  refine xnew hs fun a w1 h1 => ?_
  have h2 : Sat W w1 (VaultP v d b X.v :: DiskP d X.D :: BookP b X.M :: pts a (mcells m s) :: L) := h1.arr [1, 2, 3, 0]
  obtain ⟨l, sp, inp, h3⟩ := vp_open h2
  refine xcall (none_specV rfl h3) ?_
  rintro u w2 ⟨rfl, h4⟩
  have h5 : Sat W w2 (VaultP v d b X.v :: DiskP d X.D :: BookP b X.M :: pts a (mcells m s) :: L) := vp_shut h4
  have hn : ((X.v.base d b l sp inp).dead || X.D.off) = false := by
    unfold VW.up at hup
    show (X.v.dead || X.D.off) = false
    revert hup
    cases X.v.dead <;> cases X.D.off <;> simp
  refine ⟨_, rfl, XIf.no hn ?_⟩
  have h6 : Sat W w2 (pts a (mcells m s) :: VaultP v d b X.v :: DiskP d X.D :: BookP b X.M :: L) := h5.bring 3
  refine xload h6 0 rfl rfl (XIf.no (by dsimp only; rw [hm]; rfl) (XIf.no (by dsimp only; rw [hm]; rfl) (xjoin0 (XIf.yes (by dsimp only; rw [hm]; rfl) (XIf.yes (by dsimp only; rw [hm]; rfl) (xload h6 3 rfl rfl ?_))))))
  refine xcalls (bound_spec hb hg hi hk hk1 hk2 (h6.arr [1, 2, 3, 0])) ?_
  rintro u w3 ⟨rfl, h7⟩
  unfold prepV at hK
  obtain ⟨B, hB⟩ : ∃ B, boundV X m.ballot = B := ⟨_, rfl⟩
  have hid := boundV_id X m.ballot
  rw [hB] at h7 hK hg2 hid ⊢
  dsimp only at hK
  refine ⟨(B.1, B.2.1, ()), rfl, ?_⟩
  have h7 : Sat W w3 (VaultP v d b B.2.2.v :: DiskP d B.2.2.D :: BookP b B.2.2.M :: pts a (mcells m s) :: L) := h7
  obtain ⟨l, sp, inp, h8⟩ := VaultP.open h7
  have fin : ∀ (s' : Sl) (o : Option MS) w4, Sat W w4 (AnsP s' o :: StP v (B.2.2.v.base d b l sp inp) B.2.2.v.st :: pts a (mcells m s) :: InP inp B.2.2.v.in_ :: LogP l d b B.2.2.v.log :: DiskP d B.2.2.D :: BookP b B.2.2.M :: L) →
      Sat W w4 (AnsP s' o :: VaultP v d b B.2.2.v :: DiskP d B.2.2.D :: BookP b B.2.2.M :: L) := fun s' o w4 h =>
    (VaultP.shut (L := AnsP s' o :: DiskP d B.2.2.D :: BookP b B.2.2.M :: L) (((h.bring 2).drop).arr [1, 2, 3, 0])).swap
  have h9 : Sat W w3 (pts a (mcells m s) :: StP v (B.2.2.v.base d b l sp inp) B.2.2.v.st :: InP inp B.2.2.v.in_ :: LogP l d b B.2.2.v.log :: DiskP d B.2.2.D :: BookP b B.2.2.M :: L) := h8.bring 5
  cases hb1 : B.1 with
  | true =>
    rw [hb1] at hK
    refine XIf.yes rfl (xloadsP (msgH m s) h9 (xcall (nack_spec m s (h9.bring 1)) ?_))
    rintro u w4 ⟨s', rfl, h10⟩
    refine ⟨s', rfl, hK s' w4 ?_⟩
    exact fin s' _ w4 h10
  | false =>
    rw [hb1] at hK
    refine XIf.no rfl ?_
    cases hb2 : B.2.1 with
    | false =>
      rw [hb2] at hK
      refine XIf.yes rfl (hK ⟨none, 0, 0⟩ w3 ?_)
      exact Sat.shut_fact rfl ((h7.bring 3).drop)
    | true =>
      rw [hb2] at hK
      refine XIf.no rfl (xload h9 0 rfl rfl (XIf.yes (by dsimp only; rw [hm]; rfl) (xloadsP (msgH m s) h9 (xcall (promise_spec m s (by have := hg2.gens; omega) (by have := hg2.list; omega) (h9.bring 1)) ?_))))
      rintro u w4 ⟨s', rfl, h10⟩
      refine ⟨s', rfl, hK s' w4 ?_⟩
      exact fin s' _ w4 h10

/-! ### The law's world -/

/-- Where one message is told. -/
theorem ans_one {s : Sl} {m : MS} (hs : Sat W w (AnsP s (some m) :: L)) : s.len = 1 ∧ ∃ b, s.a = some ⟨b, 0, none⟩ ∧ w.cell? ⟨b, 0, none⟩ = some (.int .i64 m.kind) ∧ w.cell? ⟨b, 3, none⟩ = some (.int .i64 (m.ballot : Nat)) := by
  obtain ⟨l, h⟩ := hs.open_ex
  have h1 := h.open_all
  have hl := h1.own_len
  have e : (mcells m l).length = 14 := rfl
  rw [e] at hl
  have hs1 : s.len = 1 := by omega
  obtain ⟨b, hb, hc⟩ := h1.own_some (by omega)
  exact ⟨hs1, b, hb, hc 0 _ rfl, hc 3 _ rfl⟩

/-- The law's world when it is fresh: its block, the model's. -/
def world0 (d b v q : Nat) : List Value := [ptr d, ptr b, ptr v, ptr q, .slice none 0 0, .slice none 0 0] ++ List.replicate 9 (.int .i64 0) ++ [.string ByteArray.empty, .int .i64 0, .int .i64 0, .string ByteArray.empty, .slice none 0 0]
def plain0 : List Value := [.int .i64 0, .int .i64 0, .int .i64 0, .slice none 0 0, .slice none 0 0]

theorem fresh_law_spec {n : Nat} (h1 : 1 ≤ n) (h2 : n ≤ 8192) (hs : Sat W w L) : Ret Tryz.prog F.barquelaw18_fresh [.int .i64 (n : Nat)] w fun u w' =>
    ∃ p d b v q : Nat, u = ptr p ∧ Sat W w' (pts p (world0 d b v q) :: pts q plain0 :: VaultP v d b (V0 n).v :: DiskP d (V0 n).D :: BookP b (V0 n).M :: L) := by
  suffices H : ∀ K : Value → World → Prop, (∀ p d b v q w', Sat W w' (pts p (world0 d b v q) :: pts q plain0 :: VaultP v d b (V0 n).v :: DiskP d (V0 n).D :: BookP b (V0 n).M :: L) → K (ptr p) w') → S.barquelaw18_fresh n K w from
    S.barquelaw18_fresh_ok _ _ _ (H _ fun p d b v q w' h => ⟨p, d, b, v, q, rfl, h⟩)
  intro K hK
  refine xcalls (New_yes n (by omega) (by omega) hs) ?_
  rintro u w1 ⟨d, rfl, h3⟩
  refine ⟨(some ⟨d, 0, none⟩, (0 : Int), ()), rfl, xcall (Ideal_spec h3) ?_⟩
  rintro u w2 ⟨b, rfl, h4⟩
  refine ⟨some ⟨b, 0, none⟩, rfl, xjoin0 (XIf.no rfl (XIf.no rfl (xcalls (Make_spec (id := 3) (by decide) (Fit.empty (n : Int) (by omega) (by omega)) (by decide) (by decide) (format_new h1 h2).1 h4.swap) ?_)))⟩
  rintro u w3 ⟨v, rfl, h5⟩
  refine ⟨(some ⟨v, 0, none⟩, (0 : Int), ()), rfl, XIf.no rfl (xnew h5 fun q w4 h6 => xnew h6 fun p w5 h7 => hK p d b v q w5 h7)⟩

theorem awake18_spec (hs : Sat W w L) : Ret Tryz.prog F.barquelaw18_awake [] w fun u w' => u = .bool true ∧ Sat W w' L := by
  suffices H : ∀ K : Value → World → Prop, (∀ w', Sat W w' L → K (.bool true) w') → S.barquelaw18_awake K w from S.barquelaw18_awake_ok _ _ (H _ fun _ h => ⟨rfl, h⟩)
  intro K hK
  refine xcall (fresh_law_spec (n := 400) (by decide) (by decide) hs) ?_
  rintro u w1 ⟨p, d, b, v, q, rfl, h⟩
  have hg0 : VGood 10 1 (V0 400) := format_good (Fit.empty (400 : Int) (by decide) (by decide)) (.inr trivial) [] (Nat.zero_le _) 3
  obtain ⟨Y, y1, y2, y3, y4, y5⟩ := V0_write (n := 400) (by decide) (by decide) 5 (by decide)
  obtain ⟨m1, hm1⟩ : ∃ m1 : MS, m1 = { MS.none_ with kind := 1, from_ := 1, ballot := 5 } := ⟨_, rfl⟩
  obtain ⟨m2, hm2⟩ : ∃ m2 : MS, m2 = { MS.none_ with kind := 1, from_ := 1, ballot := 4 } := ⟨_, rfl⟩
  have hup0 : (V0 400).up = true := by
    obtain ⟨_, f, P, m, e2, _⟩ := format_new (n := 400) (by decide) (by decide)
    show (!false && !(V0 400).D.off) = true
    have : (V0 400).D.off = false := e2.off
    rw [this]
    rfl
  have hb0 : boundV (V0 400) 5 = (false, true, Y) := by
    unfold boundV
    rw [if_neg (by show ¬ (5 < 0); decide), if_neg (by show ¬ (5 = 0); decide), y1]
    rfl
  have hgY : VGood 100 1 Y := by
    have := writeV_good (recs := [recP 5]) (j := 0) hg0 (by decide) (by decide) (by decide) (by
      show STok (doS (V0 400).v.st _ (recP 5)).st
      rw [doS_P (by decide)]
      exact none_ok_st.promise (by decide)) (by
      show sumR (doS (V0 400).v.st _ (recP 5)).st.recs ≤ _
      rw [doS_P (by decide)]
      decide) (by
      show (doS (V0 400).v.st _ (recP 5)).book.length ≤ _
      rw [doS_P (by decide)]
      exact Nat.le_refl _) (by decide)
    rw [y1] at this
    exact this.up (by decide)
  have hb1 : boundV Y 4 = (true, false, Y) := by
    unfold boundV
    rw [y2, if_pos (by decide)]
  have hupY : Y.up = true := by unfold VW.up; rw [y3, y5]; rfl
  refine ⟨some ⟨p, 0, none⟩, rfl, XIf.no rfl (xnil (xload h 2 rfl rfl ?_))⟩
  have hk1 : sumR (V0 400).v.st.recs + 9 ≤ 700 * 1 := by show sumR ST.none_.recs + 9 ≤ _; rw [none_recs]; decide
  have hst1 : STok (boundV (V0 400) m1.ballot).2.2.v.st := by rw [hm1, hb0]; exact hgY.st
  have hbal1 : m1.ballot < 2 ^ 62 := by rw [hm1]; decide
  have hk1' : m1.kind = 1 := by rw [hm1]
  have ec1 : ([.int .i64 1, .int .i64 1, .int .i64 0, .int .i64 5, .int .i64 0, .int .i64 0, .int .i64 0, .int .i64 0, .int .i64 0, .string ByteArray.empty, .int .i64 0, .int .i64 0, .string ByteArray.empty, .slice none 0 0] : List Value) = mcells m1 ⟨none, 0, 0⟩ := by rw [hm1]; rfl
  rw [ec1]
  refine xcall (Handle_prepare (X := V0 400) (m := m1) (s := ⟨none, 0, 0⟩) (i := 10) (k := 1) hk1' hbal1 hup0 hg0 (by decide) (by decide) (by decide) hk1 hst1 (h.arr [2, 3, 4, 0, 1])) ?_
  rintro u w2 ⟨s1, rfl, h2⟩
  have e1 : prepV (V0 400) m1 = (some (promiseV Y m1), Y) := by
    unfold prepV
    rw [show m1.ballot = 5 by rw [hm1], hb0]
    rfl
  rw [e1] at h2
  have h2 : Sat W w2 (AnsP s1 (some (promiseV Y m1)) :: VaultP v d b Y.v :: DiskP d Y.D :: BookP b Y.M :: pts p (world0 d b v q) :: pts q plain0 :: L) := h2
  refine ⟨s1, rfl, xnil (xload (h2.bring 4) 2 rfl rfl ?_)⟩
  have hk3 : sumR Y.v.st.recs + 9 ≤ 700 * 1 := by
    rw [y2]
    have := sumR_promise ST.none_ 5
    rw [none_recs] at this
    exact Nat.le_trans (Nat.add_le_add_right this 9) (by decide)
  have hst2 : STok (boundV Y m2.ballot).2.2.v.st := by rw [hm2, hb1]; exact hgY.st
  have hbal2 : m2.ballot < 2 ^ 62 := by rw [hm2]; decide
  have hk2' : m2.kind = 1 := by rw [hm2]
  have ec2 : ([.int .i64 1, .int .i64 1, .int .i64 0, .int .i64 4, .int .i64 0, .int .i64 0, .int .i64 0, .int .i64 0, .int .i64 0, .string ByteArray.empty, .int .i64 0, .int .i64 0, .string ByteArray.empty, .slice none 0 0] : List Value) = mcells m2 ⟨none, 0, 0⟩ := by rw [hm2]; rfl
  rw [ec2]
  refine xcall (Handle_prepare (X := Y) (m := m2) (s := ⟨none, 0, 0⟩) (i := 100) (k := 1) hk2' hbal2 hupY hgY (by decide) (by decide) (by decide) hk3 hst2 (h2.arr [1, 2, 3, 0])) ?_
  rintro u w3 ⟨s2, rfl, h3⟩
  have e2 : prepV Y m2 = (some (nackV Y m2), Y) := by
    unfold prepV
    rw [show m2.ballot = 4 by rw [hm2], hb1]
    rfl
  rw [e2] at h3
  have h3 : Sat W w3 (AnsP s2 (some (nackV Y m2)) :: VaultP v d b Y.v :: DiskP d Y.D :: BookP b Y.M :: AnsP s1 (some (promiseV Y m1)) :: pts p (world0 d b v q) :: pts q plain0 :: L) := h3
  obtain ⟨l2, b2, a2, c2, c3⟩ := ans_one h3
  obtain ⟨l1, b1, a1, c1, _⟩ := ans_one (h3.bring 4)
  refine ⟨s2, rfl, xjoin0 (XIf.yes (by rw [l1]; rfl) ?_)⟩
  rw [a1]
  refine xnil ⟨⟨by decide, by rw [l1]; decide⟩, xload_at (l := .int .i64) (x := 2) c1 (XIf.yes rfl (XIf.yes (by rw [l2]; rfl) ?_))⟩
  rw [a2]
  refine xnil ⟨⟨by decide, by rw [l2]; decide⟩, xload_at (l := .int .i64) (x := 3) c2 (XIf.yes rfl (xnil ⟨⟨by decide, by rw [l2]; decide⟩, xload_at (l := .int .i64) (x := 5) ?_ (hK w3 ?_)⟩))⟩
  · have := c3
    have e5 : (nackV Y m2).ballot = 5 := by
      show Y.v.st.promised = 5
      rw [y2]
    rw [e5] at this
    exact this
  · exact ((((((h3.drop).drop).drop).drop).drop).drop).drop

end
end Go.X

/-! VaultNobody. -/
namespace Go.X
open Go.Proofs

section
variable {W w : World} {L : List SP}

theorem Book_nil : Ret Tryz.prog F.marks_Book_Ready [.pointer none] w fun u w' => u = .bool false ∧ w' = w :=
  S.marks_Book_Ready_ok _ _ _ (xcall_eq (u := .bool true) (S.marks_Book_none_ok _ _ _ (xjoin0 (XIf.yes rfl ⟨rfl, rfl⟩))) true rfl ⟨rfl, rfl⟩)

theorem none_wal_b (d : Nat) : Ret Tryz.prog F.wal_none [ptr d, .pointer none] w fun u w' => u = .bool true ∧ w' = w :=
  S.wal_none_ok _ _ _ _ (xjoin0 (XIf.no rfl (xcall_eq Book_nil false rfl ⟨rfl, rfl⟩)))

theorem none_wal_d (b : Option Addr) : Ret Tryz.prog F.wal_none [.pointer none, .pointer b] w fun u w' => u = .bool true ∧ w' = w :=
  S.wal_none_ok _ _ _ _ (xjoin0 (XIf.yes rfl ⟨rfl, rfl⟩))

theorem Format_nob (d : Nat) : Ret Tryz.prog F.wal_Format [ptr d, .pointer none] w fun u w' => u = .tuple ⟨[.pointer none, .int .i64 1]⟩ ∧ w' = w :=
  S.wal_Format_ok _ _ _ _ (xcall_eq (none_wal_b d) true rfl (XIf.yes rfl ⟨rfl, rfl⟩))

theorem Open_nod (b : Option Addr) : Ret Tryz.prog F.wal_Open [.pointer none, .pointer b] w fun u w' => u = .tuple ⟨[.pointer none, .slice none 0 0, .int .i64 1]⟩ ∧ w' = w :=
  S.wal_Open_ok _ _ _ _ (xcall_eq (none_wal_d b) true rfl (XIf.yes rfl ⟨rfl, rfl⟩))

theorem Make_nob (d : Nat) : Ret Tryz.prog F.vault_Make [.int .i64 0, ptr d, .pointer none] w fun u w' => u = .tuple ⟨[.pointer none, .int .i64 1]⟩ ∧ w' = w :=
  S.vault_Make_ok _ _ _ _ _ (xjoin0 (XIf.no rfl (XIf.no rfl (xcalls_eq (Format_nob d) (none, (1 : Int), ()) rfl (XIf.yes rfl ⟨rfl, rfl⟩)))))

theorem Make_noid (id : Int) (h : id < 0 ∨ 8 < id) (d b : Option Addr) : Ret Tryz.prog F.vault_Make [.int .i64 id, .pointer d, .pointer b] w fun u w' => u = .tuple ⟨[.pointer none, .int .i64 1]⟩ ∧ w' = w := by
  refine S.vault_Make_ok _ _ _ _ _ (xjoin0 ?_)
  by_cases h0 : id < 0
  · exact XIf.yes (decide_eq_true h0) (XIf.yes rfl ⟨rfl, rfl⟩)
  · exact XIf.no (decide_eq_false h0) (XIf.yes (decide_eq_true (by omega)) ⟨rfl, rfl⟩)

theorem Open_vault_nod (b : Option Addr) : Ret Tryz.prog F.vault_Open [.int .i64 0, .pointer none, .pointer b] w fun u w' => u = .tuple ⟨[.pointer none, .int .i64 1]⟩ ∧ w' = w :=
  S.vault_Open_ok _ _ _ _ _ (xjoin0 (XIf.no rfl (XIf.no rfl (xcalls_eq (Open_nod b) (none, ⟨none, 0, 0⟩, (1 : Int), ()) rfl (XIf.yes rfl ⟨rfl, rfl⟩)))))

theorem Image_nil (n : Int) : Ret Tryz.prog F.vault_Vault_Image [.pointer none, .int .i64 n] w fun u w' => u = .tuple ⟨[.string ByteArray.empty, .int .i64 15]⟩ ∧ w' = w :=
  S.vault_Vault_Image_ok _ _ _ _ (xjoin0 (XIf.yes rfl (XIf.yes rfl ⟨rfl, rfl⟩)))

theorem Scrub_nil : Ret Tryz.prog F.vault_Vault_Scrub [.pointer none] w fun u w' => u = .slice none 0 0 ∧ w' = w :=
  S.vault_Vault_Scrub_ok _ _ _ (xjoin0 (XIf.yes rfl (XIf.yes rfl ⟨rfl, rfl⟩)))

theorem Up_nil : Ret Tryz.prog F.vault_Vault_Up [.pointer none] w fun u w' => u = .bool false ∧ w' = w :=
  S.vault_Vault_Up_ok _ _ _ (xcall_eq none_nilV true rfl ⟨rfl, rfl⟩)

theorem Handle_nil (x : HL MsgL) (hs : Sat W w L) : Ret Tryz.prog F.vault_Vault_Handle [.pointer none, .agg ⟨HL.cells MsgL x⟩] w fun u w' => u = .slice none 0 0 ∧ Sat W w' L :=
  S.vault_Vault_Handle_ok none x _ _ (xnew hs fun a w1 h1 => xcall_eq none_nilV true rfl (XIf.yes rfl ⟨rfl, h1.drop⟩))

theorem View_nil (hs : Sat W w L) : Ret Tryz.prog F.vault_Vault_View [.pointer none] w fun u w' => u = .agg ⟨[.int .i64 0, .int .i64 0, .int .i64 0, .slice none 0 0, .slice none 0 0]⟩ ∧ Sat W w' L := by
  refine S.vault_Vault_View_ok none _ _ (xnew hs fun a w1 h1 => xjoin0 (XIf.yes rfl (XIf.yes rfl (xstoresP h1 rfl fun w2 h2 => ?_))))
  exact xloadsP (ls := [.int .i64, .int .i64, .int .i64, .slice, .slice]) ((0 : Int), (0 : Int), (0 : Int), ⟨none, 0, 0⟩, ⟨none, 0, 0⟩, ()) h2 ⟨rfl, h2.drop⟩

theorem VNobody_law (id : Int) (x : HL MsgL) (hs : Sat W w L) : Ret Tryz.prog F.barquelaw18_VaultNobody [.int .i64 id, .agg ⟨HL.cells MsgL x⟩] w fun u w' => u = .bool true ∧ Sat W w' L := by
  suffices H : ∀ K : Value → World → Prop, (∀ w', Sat W w' L → K (.bool true) w') → S.barquelaw18_VaultNobody id x K w from S.barquelaw18_VaultNobody_ok _ _ _ _ (H _ fun _ h => ⟨rfl, h⟩)
  intro K hK
  refine xnew hs fun a w1 h1 => xcalls (New_yes 100 (by decide) (by decide) h1) ?_
  rintro u w2 ⟨d, rfl, h2⟩
  refine ⟨(some ⟨d, 0, none⟩, (0 : Int), ()), rfl, xcall (Ideal_spec h2) ?_⟩
  rintro u w3 ⟨b, rfl, h3⟩
  refine ⟨some ⟨b, 0, none⟩, rfl, ?_⟩
  have h3 : Sat W w3 (BookP b [] :: DiskP d (DD.empty (100 : Nat)) :: pts a (HL.cells MsgL x) :: L) := h3
  have hm : Ret Tryz.prog F.vault_Make [.int .i64 id, ptr d, ptr b] w3 fun u w' => ∃ (q : Option Addr) (e : Int) (J : List SP), u = .tuple ⟨[.pointer q, .int .i64 e]⟩ ∧ e = (if id < 0 ∨ 8 < id then 1 else 0) ∧
      Sat W w' (pts a (HL.cells MsgL x) :: J) ∧ ∀ w, Sat W w J → Sat W w L := by
    by_cases hid : id < 0 ∨ 8 < id
    · refine (Make_noid id hid _ _).mono fun u w' h => ?_
      obtain ⟨rfl, rfl⟩ := h
      exact ⟨none, 1, BookP b [] :: DiskP d (DD.empty (100 : Nat)) :: L, rfl, by rw [if_pos hid], h3.bring 2, fun w h => (h.drop).drop⟩
    · obtain ⟨n, rfl⟩ : ∃ n : Nat, id = n := ⟨id.toNat, by omega⟩
      refine (Make_spec (id := n) (by omega) (Fit.empty (100 : Int) (by decide) (by decide)) (by decide) (by decide) (format_new (n := 100) (by decide) (by decide)).1 h3.swap).mono fun u w' h => ?_
      obtain ⟨v, rfl, h4⟩ := h
      exact ⟨some ⟨v, 0, none⟩, 0, _, rfl, by rw [if_neg hid], h4.bring 3, fun w h => ((h.drop).drop).drop⟩
  refine xcalls hm ?_
  rintro u w4 ⟨q, e, J, rfl, he, h4, hJ⟩
  refine ⟨(q, e, ()), rfl, xcall (Ideal_spec h4) ?_⟩
  rintro u w5 ⟨b2, rfl, h5⟩
  refine ⟨some ⟨b2, 0, none⟩, rfl, ?_⟩
  refine xcalls_eq (Open_vault_nod _) (none, (1 : Int), ()) rfl (xcalls_eq (Make_nob d) (none, (1 : Int), ()) rfl (xcalls_eq (Image_nil 0) (ByteArray.empty, (15 : Int), ()) rfl ?_))
  refine xjoin (fun (st : Int × Unit) w' => st = (e, ()) ∧ w' = w5) (fun J2 hJ2 => ?_) ?_
  · refine xjoin (fun (st : Bool × Unit) w' => st = (decide (id < 0 ∨ 8 < id), ()) ∧ w' = w5) (fun J3 hJ3 => ?_) ?_
    · by_cases h0 : id < 0
      · exact XIf.yes (decide_eq_true h0) (hJ3 _ _ ⟨Prod.ext (decide_eq_true (Or.inl h0)).symm rfl, rfl⟩)
      · refine XIf.no (decide_eq_false h0) (hJ3 _ _ ⟨Prod.ext ?_ rfl, rfl⟩)
        exact decide_eq_decide.2 ⟨fun h => .inr (by omega), fun h => by omega⟩
    · rintro _ _ ⟨rfl, rfl⟩
      by_cases hid : id < 0 ∨ 8 < id
      · rw [if_pos hid] at he
        subst he
        exact XIf.yes (decide_eq_true hid) (hJ2 _ _ ⟨rfl, rfl⟩)
      · rw [if_neg hid] at he
        subst he
        exact XIf.no (decide_eq_false hid) (hJ2 _ _ ⟨rfl, rfl⟩)
  · rintro _ _ ⟨rfl, rfl⟩
    refine xjoin0 (XIf.yes (beq_self_eq_true _) (XIf.yes rfl (XIf.yes rfl (XIf.yes rfl (xloadsP x (h5.bring 1) (xcall (Handle_nil x h5) ?_))))))
    rintro u w6 ⟨rfl, h6⟩
    refine ⟨⟨none, 0, 0⟩, rfl, XIf.yes rfl (xcall_eq Up_nil false rfl (XIf.yes rfl (xcall_eq Scrub_nil ⟨none, 0, 0⟩ rfl (XIf.yes rfl (xcall (View_nil h6) ?_)))))⟩
    rintro u w7 ⟨rfl, h7⟩
    refine ⟨((0 : Int), (0 : Int), (0 : Int), ⟨none, 0, 0⟩, ⟨none, 0, 0⟩, ()), rfl, XIf.yes rfl (xcall (awake18_spec (hJ w7 ((h7.drop).drop))) ?_)⟩
    rintro u w8 ⟨rfl, h8⟩
    exact ⟨true, rfl, hK w8 h8⟩

end
end Go.X

/-! An argument that is a struct: its leaves. -/
namespace Go.X
open Go.Proofs Go.ChangeShapes Go.WideShapes Go.RowKit

def leafB (P : Program) : Leaf → TypeId → Bool
  | .int .i64, t => match under P t with
    | some (.int .i64) => true
    | _ => false
  | .str, t => match under P t with
    | some .string => true
    | _ => false
  | .slice, t => match under P t with
    | some (.slice _) => true
    | _ => false
  | _, _ => false

def leavesB (P : Program) : List Leaf → List TypeId → Bool
  | [], [] => true
  | l :: ls, t :: ts => leafB P l t && leavesB P ls ts
  | _, _ => false

def aggB (P : Program) (ls : List Leaf) (t : TypeId) : Bool :=
  (match under P t with
    | some (.struct _) => true
    | _ => false) && (match P.cellTypes P.depth t with
    | some ts => leavesB P ls ts
    | none => false) && Nat.beq (P.cellsOf t) ls.length

theorem leavesB_get {P : Program} : ∀ {ls : List Leaf} {ts : List TypeId}, leavesB P ls ts = true → ls.length = ts.length ∧ ∀ (i : Nat) (l : Leaf) (t : TypeId), ls[i]? = some l → ts[i]? = some t → leafB P l t = true
  | [], [], _ => ⟨rfl, fun i l t h => by simp at h⟩
  | l :: ls, t :: ts, h => by
    simp only [leavesB, Bool.and_eq_true] at h
    obtain ⟨h1, h2⟩ := leavesB_get h.2
    refine ⟨by simp [h1], fun i l' t' hl ht => ?_⟩
    cases i with
    | zero => simp at hl ht; subst hl ht; exact h.1
    | succ i => exact h2 i l' t' (by simpa using hl) (by simpa using ht)
  | [], _ :: _, h => by simp [leavesB] at h
  | _ :: _, [], h => by simp [leavesB] at h

theorem cells_of : ∀ (ls : List Leaf) (cs : List Value), cs.length = ls.length → (∀ (i : Nat) (l : Leaf) (c : Value), ls[i]? = some l → cs[i]? = some c → ∃ x : l.T, c = l.mk x) → ∃ x : HL ls, cs = HL.cells ls x
  | [], [], _, _ => ⟨(), rfl⟩
  | l :: ls, c :: cs, hl, h => by
    obtain ⟨x, hx⟩ := h 0 l c rfl rfl
    obtain ⟨y, hy⟩ := cells_of ls cs (by simpa using hl) fun i l' c' h1 h2 => h (i + 1) l' c' (by simpa using h1) (by simpa using h2)
    exact ⟨(x, y), by rw [hx, hy]; rfl⟩
  | [], _ :: _, hl, _ => by simp at hl
  | _ :: _, [], hl, _ => by simp at hl

theorem open_agg {P : Program} {W : World} {t : TypeId} {v : Value} {base : Nat} {ls : List Leaf} (ht : aggB P ls t = true) (hval : Value.okWide P W .any base t v) : ∃ x : HL ls, v = .agg ⟨HL.cells ls x⟩ := by
  unfold aggB at ht
  simp only [Bool.and_eq_true] at ht
  obtain ⟨⟨h1, h2⟩, h3⟩ := ht
  split at h1
  · rename_i fs hu
    split at h2
    · rename_i ts hts
      have h3 := Nat.eq_of_beq_eq_true h3
      obtain ⟨hlen, hget⟩ := leavesB_get h2
      unfold Value.okWide at hval
      rw [under_eq hu] at hval
      obtain ⟨⟨cs⟩, rfl, hsz, ts', hts', _, hcell⟩ := hval
      have hsz : cs.length = ls.length := by rw [← h3]; exact hsz
      rw [hts] at hts'
      cases hts'
      obtain ⟨x, hx⟩ := cells_of ls cs hsz fun i l c hl hc => by
        have hi := (List.getElem?_eq_some_iff.1 hl).1
        obtain ⟨u, hu1, hu2⟩ := hcell i c (by simpa using hc)
        rw [Nat.mod_eq_of_lt (by omega)] at hu1
        have hb := hget i l u hl hu1
        have hv : ∀ d, P.underlying u = some d → (∀ fs, d ≠ .struct fs) → (∀ n e, d ≠ .array n e) → Value.okWide P W .any base u c := by
          intro d hd hs ha
          unfold Value.okWide
          rw [hd]
          cases d with
          | struct fs => exact absurd rfl (hs fs)
          | array n e => exact absurd rfl (ha n e)
          | _ => exact hu2
        unfold leafB at hb
        split at hb
        · split at hb
          · rename_i hk
            obtain ⟨n, rfl⟩ := okWide_int (under_eq hk) (hv _ (under_eq hk) (fun _ h => by cases h) (fun _ _ h => by cases h))
            exact ⟨n, rfl⟩
          · cases hb
        · split at hb
          · rename_i hk
            obtain ⟨n, rfl⟩ := okWide_string (under_eq hk) (hv _ (under_eq hk) (fun _ h => by cases h) (fun _ _ h => by cases h))
            exact ⟨n, rfl⟩
          · cases hb
        · split at hb
          · rename_i e hk
            obtain ⟨a, len, cap, rfl⟩ := okWide_slice (under_eq hk) (hv _ (under_eq hk) (fun _ h => by cases h) (fun _ _ h => by cases h))
            exact ⟨⟨a, len, cap⟩, rfl⟩
          · cases hb
        · cases hb
      exact ⟨x, by rw [hx]⟩
    · cases h2
  · cases h1

end Go.X
