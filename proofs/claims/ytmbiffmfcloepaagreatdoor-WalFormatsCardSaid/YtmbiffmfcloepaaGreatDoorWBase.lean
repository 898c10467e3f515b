import Derived.Test.YtmbiffmfcloepaaGreatDoorXStrs

/-! The log, plain: names, records, and what its calls make of a device and a book. -/
namespace Go.X

/-! ### Bytes -/

def pre4 : List UInt8 := [115, 101, 103, 45]
def digits8 (n : Nat) : List UInt8 := (List.range 8).map fun i => UInt8.ofNat (48 + n / 10 ^ (7 - i) % 10)
/-- A segment's name. -/
def segName (n : Nat) : List UInt8 := pre4 ++ digits8 n
abbrev nm (n : Nat) : ByteArray := str (segName n)

def decV : Nat → List UInt8 → Option Nat
  | acc, [] => some acc
  | acc, c :: l => if c.toNat < 48 ∨ 57 < c.toNat then none else decV (10 * acc + (c.toNat - 48)) l

/-- The segment of a name. -/
def segNum (s : List UInt8) : Option Nat := if s.length ≠ 12 ∨ s.take 4 ≠ pre4 then none else decV 0 (s.drop 4)

def four (n : Nat) : List UInt8 := [UInt8.ofNat n, UInt8.ofNat (n / 256), UInt8.ofNat (n / 65536), UInt8.ofNat (n / 16777216)]
def val4 (l : List UInt8) : Nat := (l.getD 0 0).toNat + 256 * (l.getD 1 0).toNat + 65536 * (l.getD 2 0).toNat + 16777216 * (l.getD 3 0).toNat

def pre8 : List UInt8 := [115, 101, 103, 109, 101, 110, 116, 32]
/-- The mark ahead of a segment's first record. -/
def firstM (n : Nat) : List UInt8 := pre8 ++ segName n

/-! ### Calls -/

/-- A log: its segment, where the next record stands, the last one's mark. -/
structure LG where
  n : Nat
  end_ : Nat
  mark : List UInt8

/-- Records' bytes. -/
structure PB where
  err : Int
  bytes : List UInt8
  mark : List UInt8
  book : Bk

def putB (sign : UInt8) : List (List UInt8) → PB → PB
  | [], S => S
  | s :: l, S => if 1048832 < s.length then { S with err := 4 } else
    putB sign l { S with bytes := S.bytes ++ (four (sign :: s).length ++ S.book.mark (S.mark ++ sign :: s) ++ sign :: s), mark := S.book.mark (S.mark ++ sign :: s), book := S.book.add (S.mark ++ sign :: s) }

/-- What a call leaves: its answer, the device, the book, the log. -/
structure PR4 where
  err : Int
  disk : DD
  book : Bk
  log : LG

def putW (D : DD) (M : Bk) (l : LG) (sign : UInt8) (list : List (List UInt8)) : PR4 :=
  let S := putB sign list ⟨0, [], l.mark, M⟩
  if S.err ≠ 0 then ⟨S.err, D, S.book, l⟩ else
  let R := D.write (nm l.n) l.end_ S.bytes
  if R.1 ≠ 0 then ⟨R.1, R.2, S.book, l⟩ else ⟨0, R.2, S.book, ⟨l.n, l.end_ + S.bytes.length, S.mark⟩⟩

def beginW (D : DD) (M : Bk) (n : Nat) (snap : List (List UInt8)) : PR4 :=
  let C := D.create (nm n)
  if C.1 ≠ 0 then ⟨C.1, C.2, M, ⟨n, 0, firstM n⟩⟩ else
  let A := putW C.2 M ⟨n, 0, firstM n⟩ 83 snap
  let B := if A.err = 0 then putW A.disk A.book A.log 69 [[]] else A
  let S := if B.err = 0 then B.disk.sync else (B.err, B.disk)
  let D' := if S.1 = 7 ∨ S.1 = 4 ∨ S.1 = 2 then (S.2.remove (nm n)).2 else S.2
  ⟨S.1, D', B.book, B.log⟩

/-- The segments that are there, the greatest first. -/
def segsW (D : DD) : List Nat := D.names.reverse.filterMap fun x => segNum x.data.toList

def dropAll (D : DD) (ns : List Nat) : DD := ns.foldl (fun D n => (D.remove (nm n)).2) D
def dropBut (D : DD) (ns : List Nat) (n : Nat) : DD := ns.foldl (fun D k => if k ≠ n then (D.remove (nm k)).2 else D) D

def formatW (D : DD) (M : Bk) : PR4 :=
  if D.off then ⟨14, D, M, ⟨1, 0, firstM 1⟩⟩ else beginW (dropAll D (segsW D)) M 1 []

/-- The record that stands at a place: what it has, its mark. -/
def nextB (M : Bk) (all : List UInt8) (at_ : Nat) (last : List UInt8) : Option (List UInt8 × List UInt8) :=
  if all.length < at_ + 36 then none else
  let n := val4 ((all.drop at_).take 4)
  if n < 1 ∨ 1048833 < n ∨ all.length < at_ + 36 + n then none else
  let m := (all.drop (at_ + 4)).take 32
  let s := (all.drop (at_ + 36)).take n
  if M.is (last ++ s) m then some (s, m) else none

/-- What was read of a segment so far. -/
structure LD where
  end_ : Nat
  mark : List UInt8
  sealed : Bool
  out : List (List UInt8)

def loadStep (S : LD) (s m : List UInt8) : Option LD :=
  if s = [69] ∧ S.sealed = false then some ⟨S.end_ + 36 + s.length, m, true, S.out⟩
  else if s.headD 0 = 83 ∧ S.sealed = false ∨ s.headD 0 = 82 ∧ S.sealed = true then some ⟨S.end_ + 36 + s.length, m, S.sealed, S.out ++ [s.tail]⟩
  else none

def loadL (M : Bk) (all : List UInt8) : Nat → LD → LD
  | 0, S => S
  | k + 1, S => match nextB M all S.end_ S.mark with
    | none => S
    | some (s, m) => match loadStep S s m with
      | none => S
      | some S' => loadL M all k S'

def loadF (M : Bk) (all : List UInt8) (n : Nat) : LD := loadL M all (all.length + 1) ⟨0, firstM n, false, []⟩

/-- What a segment holds, if its file can be read. -/
def loadW (D : DD) (M : Bk) (n : Nat) : Option LD :=
  if (D.size (nm n)).2 ≠ 0 then none else
  if (D.read (nm n) 0 (D.size (nm n)).1).2 ≠ 0 then none else some (loadF M (D.read (nm n) 0 (D.size (nm n)).1).1 n)

def allZ (l : List UInt8) : Bool := l.all fun b => b == 0

def wipeW (D : DD) (l : LG) : Int × DD :=
  let z := D.size (nm l.n)
  if z.2 ≠ 0 then (z.2, D) else
  let r := D.read (nm l.n) l.end_ (z.1 - l.end_)
  if r.2 ≠ 0 ∨ allZ r.1 = true then (r.2, D) else
  let R := D.write (nm l.n) l.end_ (List.replicate r.1.length 0)
  if R.1 ≠ 0 then R else R.2.sync

def LD.log (S : LD) (n : Nat) : LG := ⟨n, S.end_, S.mark⟩

/-- What Open finds. -/
structure OR where
  err : Int
  disk : DD
  log : LG
  out : List (List UInt8)

def openL (D : DD) (M : Bk) (all : List Nat) : List Nat → OR
  | [] => ⟨8, D, ⟨0, 0, []⟩, []⟩
  | n :: ns => match loadW D M n with
    | some S => if S.sealed then
        let w := wipeW (dropBut D all n) (S.log n)
        ⟨w.1, w.2, S.log n, S.out⟩
      else openL D M all ns
    | none => openL D M all ns

def openW (D : DD) (M : Bk) : OR := if D.off then ⟨14, D, ⟨0, 0, []⟩, []⟩ else openL D M (segsW D) (segsW D)

def turnW (D : DD) (M : Bk) (l : LG) (snap : List (List UInt8)) : PR4 :=
  if l.n = 99999999 then ⟨2, D, M, l⟩ else
  let B := beginW D M (l.n + 1) snap
  if B.err ≠ 0 then ⟨B.err, B.disk, B.book, l⟩ else ⟨0, (B.disk.remove (nm l.n)).2, B.book, B.log⟩

end Go.X

/-! The log's small functions. -/
namespace Go.X
open Go.Proofs

/-! ### Plain -/

theorem digits8_length (n : Nat) : (digits8 n).length = 8 := by simp [digits8]
theorem segName_length (n : Nat) : (segName n).length = 12 := by simp [segName, pre4, digits8_length]
theorem nm_size (n : Nat) : (nm n).size = 12 := by rw [nm, str_size, segName_length]

theorem digits8_get (n j : Nat) (h : j < 8) : (digits8 n)[j]'(by rw [digits8_length]; exact h) = UInt8.ofNat (48 + n / 10 ^ (7 - j) % 10) := by simp [digits8]

theorem digits8_drop (n j : Nat) (h : j < 8) : (digits8 n).drop j = UInt8.ofNat (48 + n / 10 ^ (7 - j) % 10) :: (digits8 n).drop (j + 1) := by
  rw [List.drop_eq_getElem_cons (by rw [digits8_length]; exact h), digits8_get n j h]

/-- Where a number has no more digits: noughts. -/
theorem digits8_take (n j : Nat) (hj : j ≤ 8) (h : n / 10 ^ j = 0) : (digits8 n).take (8 - j) = List.replicate (8 - j) 48 := by
  apply List.ext_getElem
  · rw [List.length_take, digits8_length, List.length_replicate]; omega
  · intro k h1 h2
    rw [List.length_replicate] at h2
    rw [List.getElem_take, List.getElem_replicate, digits8_get n k (by omega)]
    have : n / 10 ^ (7 - k) = 0 := by
      apply Nat.div_eq_of_lt
      have h3 : n < 10 ^ j := by
        rcases Nat.lt_or_ge n (10 ^ j) with h | h'
        · exact h
        · have := Nat.div_pos h' (Nat.pow_pos (by decide)); omega
      exact Nat.lt_of_lt_of_le h3 (Nat.pow_le_pow_right (by decide) (by omega))
    rw [this]; rfl

theorem decV_snoc : ∀ (l : List UInt8) (acc n : Nat) (c : UInt8), decV acc l = some n → 48 ≤ c.toNat → c.toNat ≤ 57 → decV acc (l ++ [c]) = some (10 * n + (c.toNat - 48))
  | [], acc, n, c, h, h1, h2 => by
    simp [decV] at h
    subst h
    simp only [List.nil_append, decV]
    rw [if_neg (by omega)]
  | d :: l, acc, n, c, h, h1, h2 => by
    simp only [decV, List.cons_append] at h ⊢
    split at h
    · cases h
    · rename_i hd
      rw [if_neg hd]
      exact decV_snoc l _ n c h h1 h2

theorem digit_toNat (m : Nat) : (UInt8.ofNat (48 + m % 10)).toNat = 48 + m % 10 := by
  rw [UInt8.toNat_ofNat']; omega

theorem decV_digits (n : Nat) : ∀ k, k ≤ 8 → decV 0 ((digits8 n).take k) = some (n / 10 ^ (8 - k) % 10 ^ k)
  | 0, _ => by simp [decV, Nat.mod_one]
  | k + 1, hk => by
    have ih := decV_digits n k (by omega)
    have hg : (digits8 n)[k]? = some (UInt8.ofNat (48 + n / 10 ^ (7 - k) % 10)) := by
      rw [List.getElem?_eq_getElem (by rw [digits8_length]; omega), digits8_get n k (by omega)]
    rw [List.take_add_one, hg]
    simp only [Option.toList_some]
    rw [decV_snoc _ _ _ _ ih (by rw [digit_toNat]; omega) (by rw [digit_toNat]; omega), digit_toNat]
    congr 1
    have e1 : 8 - k = (7 - k) + 1 := by omega
    have e2 : 8 - (k + 1) = 7 - k := by omega
    rw [e1, e2, Nat.pow_succ, ← Nat.div_div_eq_div_mul]
    obtain ⟨m, hm⟩ : ∃ m, n / 10 ^ (7 - k) = m := ⟨_, rfl⟩
    rw [hm, Nat.pow_succ, Nat.mul_comm (10 ^ k) 10, Nat.mod_mul]
    omega

theorem segNum_segName (n : Nat) (h : n < 100000000) : segNum (segName n) = some n := by
  unfold segNum
  rw [if_neg (by
    intro hc
    rcases hc with hc | hc
    · exact hc (segName_length n)
    · exact hc (by simp [segName, pre4]))]
  have : (segName n).drop 4 = digits8 n := by simp [segName, pre4]
  rw [this]
  have := decV_digits n 8 (Nat.le_refl _)
  rw [List.take_of_length_le (by rw [digits8_length]; exact Nat.le_refl _)] at this
  rw [this]
  simp
  omega

theorem decV_bound : ∀ (l : List UInt8) (acc n : Nat), decV acc l = some n → n < (acc + 1) * 10 ^ l.length
  | [], acc, n, h => by simp [decV] at h; subst h; simp
  | c :: l, acc, n, h => by
    simp only [decV] at h
    split at h
    · cases h
    · rename_i hc
      have := decV_bound l _ n h
      rw [List.length_cons, Nat.pow_succ, Nat.mul_comm (10 ^ l.length) 10, ← Nat.mul_assoc]
      refine Nat.lt_of_lt_of_le this (Nat.mul_le_mul_right _ ?_)
      omega

theorem segNum_lt {s : List UInt8} {n : Nat} (h : segNum s = some n) : n < 100000000 := by
  unfold segNum at h
  split at h
  · cases h
  · rename_i hc
    have hl : s.length = 12 := by
      by_cases h : s.length = 12
      · exact h
      · exact absurd (.inl h) hc
    have := decV_bound _ _ _ h
    rw [List.length_drop, hl] at this
    simpa using this

/-- A name of a segment is that segment's. -/
theorem digits_of_decV : ∀ (l : List UInt8) (acc n : Nat), decV acc l = some n → ∀ j, j < l.length → l[j]? = some (UInt8.ofNat (48 + n / 10 ^ (l.length - 1 - j) % 10)) ∧ n / 10 ^ l.length = acc
  | [], _, _, _, j, hj => by simp at hj
  | c :: l, acc, n, h, j, hj => by
    simp only [decV] at h
    split at h
    · cases h
    · rename_i hc
      have hacc : n / 10 ^ l.length = 10 * acc + (c.toNat - 48) := by
        cases l with
        | nil => simp [decV] at h; simp [h]
        | cons d l => exact (digits_of_decV (d :: l) _ n h 0 (by simp)).2
      have hdiv : n / 10 ^ (c :: l).length = acc := by
        rw [List.length_cons, Nat.pow_succ, ← Nat.div_div_eq_div_mul, hacc]; omega
      refine ⟨?_, hdiv⟩
      cases j with
      | zero =>
        simp only [List.getElem?_cons_zero, List.length_cons, Nat.add_sub_cancel, Nat.sub_zero, hacc]
        congr 1
        apply UInt8.toNat.inj
        rw [show 48 + (10 * acc + (c.toNat - 48)) % 10 = 48 + (c.toNat - 48) % 10 by omega, digit_toNat]
        omega
      | succ j =>
        simp only [List.length_cons] at hj
        have := (digits_of_decV l _ n h j (by omega)).1
        rw [List.getElem?_cons_succ, this, List.length_cons, show l.length + 1 - 1 - (j + 1) = l.length - 1 - j by omega]

theorem segName_segNum {s : List UInt8} {n : Nat} (h : segNum s = some n) : s = segName n := by
  unfold segNum at h
  split at h
  · cases h
  · rename_i hc
    have hl : s.length = 12 := by
      by_cases h : s.length = 12
      · exact h
      · exact absurd (.inl h) hc
    have hp : s.take 4 = pre4 := by
      by_cases h : s.take 4 = pre4
      · exact h
      · exact absurd (.inr h) hc
    rw [← List.take_append_drop 4 s, hp]
    unfold segName
    congr 1
    have hdl : (s.drop 4).length = 8 := by rw [List.length_drop, hl]
    apply List.ext_getElem?
    intro j
    by_cases hj : j < 8
    · rw [(digits_of_decV _ _ _ h j (by omega)).1, List.getElem?_eq_getElem (by rw [digits8_length]; exact hj), digits8_get n j hj, hdl]
    · rw [List.getElem?_eq_none (by omega), List.getElem?_eq_none (by rw [digits8_length]; omega)]

theorem segName_inj {m n : Nat} (hm : m < 100000000) (hn : n < 100000000) (h : segName m = segName n) : m = n := by
  have h1 := segNum_segName m hm
  rw [h, segNum_segName n hn] at h1
  exact (Option.some.inj h1).symm

theorem nm_inj {m n : Nat} (hm : m < 100000000) (hn : n < 100000000) (h : nm m = nm n) : m = n := segName_inj hm hn (str_inj h)

theorem nameB_nm (n : Nat) : nameB (nm n) = true := by
  unfold nameB
  have h1 : (nm n).data.toList = segName n := str_toList _
  rw [h1, nm_size]
  have hall : ((segName n).all fun c => decide (33 ≤ c.toNat) && decide (c.toNat ≤ 126)) = true := by
    rw [List.all_eq_true]
    intro c hc
    have hb : 33 ≤ c.toNat ∧ c.toNat ≤ 126 := by
      rcases List.mem_append.1 hc with hc | hc
      · simp only [pre4, List.mem_cons, List.not_mem_nil, or_false] at hc
        rcases hc with rfl | rfl | rfl | rfl <;> decide
      · simp only [digits8, List.mem_map, List.mem_range] at hc
        obtain ⟨i, hi, rfl⟩ := hc
        rw [digit_toNat]; omega
    simp [hb.1, hb.2]
  rw [hall]
  have : (segName n).isEmpty = false := by simp [segName, pre4]
  rw [this]
  rfl

theorem four_length (n : Nat) : (four n).length = 4 := rfl

theorem u8n (n : Nat) : (UInt8.ofNat n).toNat = n % 256 := UInt8.toNat_ofNat'

theorem val4_four (n : Nat) (h : n < 4294967296) : val4 (four n) = n := by
  simp only [val4, four, List.getD_cons_zero, List.getD_cons_succ, u8n]
  omega

theorem val4_lt (l : List UInt8) : val4 l < 4294967296 := by
  have h : ∀ b : UInt8, b.toNat < 256 := fun b => UInt8.toNat_lt b
  have h0 := h (l.getD 0 0)
  have h1 := h (l.getD 1 0)
  have h2 := h (l.getD 2 0)
  have h3 := h (l.getD 3 0)
  unfold val4
  omega

/-! ### Walks -/

theorem or_add (a b k : Nat) (ha : a < 2 ^ k) (hb : a + b * 2 ^ k < 2 ^ 62) : ibits .or .i64 (a : Int) ((b * 2 ^ k : Nat) : Int) = ((a + b * 2 ^ k : Nat) : Int) := by
  show IntKind.wrap .i64 ((BitVec.ofInt 64 (a : Int) ||| BitVec.ofInt 64 ((b * 2 ^ k : Nat) : Int)).toNat : Int) = _
  have h1 : ∀ m : Nat, m < 2 ^ 62 → (BitVec.ofInt 64 (m : Int)).toNat = m := fun m hm => by rw [BitVec.toNat_ofInt]; omega
  rw [BitVec.toNat_or, h1 a (by omega), h1 (b * 2 ^ k) (by omega)]
  have h2 := Nat.shiftLeft_add_eq_or_of_lt ha b
  rw [Nat.shiftLeft_eq] at h2
  rw [Nat.or_comm, ← h2, wi (by omega) (by omega)]
  omega

theorem ishl_nat (b k : Nat) (hk : k ≤ 64) (hb : b * 2 ^ k < 2 ^ 62) : ishl .i64 (b : Int) (k : Int) = ((b * 2 ^ k : Nat) : Int) := by
  unfold ishl
  rw [Int.toNat_natCast, show IntKind.bits .i64 = 64 from rfl, Nat.min_eq_left hk]
  have : ((b : Int) * 2 ^ k) = ((b * 2 ^ k : Nat) : Int) := by simp
  rw [this, wi (by omega) (by omega)]

section
variable {W w : World} {L : List SP}

/-- A slice of bytes that is written out. -/
theorem xbyteLit {P : Program} {T t : TypeId} {n : Nat} {cs : List Value} {K : Addr → Sl → World → Prop} (hok : (match under P t with
    | some (.slice e) => (match under P e with
      | some (.int .u8) => true
      | _ => false)
    | _ => false) = true) (hs : Sat W w L) (hn : cs.length = n) (hk : ∀ b w', Sat W w' (pts b cs :: L) → K ⟨b, 0, none⟩ ⟨some ⟨b, 0, none⟩, n, n⟩ w') :
    XNew T cs w fun a w1 => XDo P (convert t t (.slice (some a) n n)) (.leaf .slice) w1 (K a) := by
  subst hn
  split at hok
  · rename_i e h1
    split at hok
    · rename_i h2
      let w1 := w.alloc (.cells ⟨cs⟩ T)
      have hw1 : w1.heap[w.heap.size]? = some (.cells ⟨cs⟩ T (0, 0)) := by
        show (w.heap.push _)[w.heap.size]? = _
        simp
      let w2 := w1.freeze { block := w.heap.size, off := cs.length } 1
      have hshape : w1.shape? w.heap.size = some (T, cs.length) := by simp [World.shape?, hw1]
      have hr : (convert t t (.slice (some ⟨w.heap.size, 0, none⟩) cs.length cs.length)).run P w1 = .ok (.slice (some ⟨w.heap.size, 0, none⟩) cs.length cs.length) w2 := by
        have hconv : convert t t (.slice (some ⟨w.heap.size, 0, none⟩) cs.length cs.length) = (do
            let d ← underlying t
            let d' ← underlying t
            match d, d', Value.slice (some ⟨w.heap.size, 0, none⟩) cs.length cs.length with
            | _, .int k, .int _ n => Conv.intToInt k n
            | _, .float k, .int _ n => Conv.intToFloat k n
            | _, .int k, .float s b => Conv.floatToInt s b k
            | _, .float k, .float s b => Conv.floatToFloat s b k
            | _, .complex k, .complex s a b => Conv.complexToComplex s a b k
            | _, .string, .int _ n => Conv.intToString n
            | _, .string, .string _ => pure (Value.slice (some ⟨w.heap.size, 0, none⟩) cs.length cs.length)
            | _, .slice e, .string s =>
              match ← underlying e with
              | .int .u8 => Conv.stringToBytes e s
              | .int .i32 => Conv.stringToRunes e s
              | _ => stuck "Convert: string to a slice of what?"
            | .slice _, .slice e, .slice (some a) _ _ =>
              match t == t, ← underlying e with
              | true, .int .u8 => do markStringish a; pure (Value.slice (some ⟨w.heap.size, 0, none⟩) cs.length cs.length)
              | _, _ => unsupported (.noEntry "convert/other")
            | .slice e, .string, x =>
              match ← underlying e with
              | .int .u8 => Conv.bytesToString x
              | .int .i32 => Conv.runesToString x
              | _ => stuck "Convert: a slice of what to string?"
            | .unsafePointer, _, x | _, .unsafePointer, x => Conv.unsafePointer t t x
            | .int _, _, .pointer (some _) => unsupported .addressObserved
            | _, _, _ => unsupported (.noEntry "convert/other")) := rfl
        rw [hconv]
        simp only [Sem.run_bind, run_underlying (under_eq h1), run_underlying (under_eq h2), Result.andThen, beq_self_eq_true]
        simp only [markStringish, Sem.run_bind, run_shape, hshape, Result.andThen, run_freeze, Sem.run_pure]
        rfl
      have hs1 : Sat W w1 (pts w.heap.size cs :: L) := hs.new_block
      have hs2 : Sat W w2 (pts w.heap.size cs :: L) := by
        refine hs1.refreeze (t := T) (lo := cs.length) (hi := cs.length + 1) ?_ (fun k hk => ?_) (fun o ho => ?_) rfl rfl rfl ?_
        · simp [w2, World.freeze, Array.getElem?_modify, hw1]
        · simp [w2, World.freeze, Array.getElem?_modify, Ne.symm hk]
        · simp; omega
        · simp [w2, World.freeze]
      exact ⟨⟨some ⟨w.heap.size, 0, none⟩, cs.length, cs.length⟩, w2, hr, hk _ _ hs2⟩
    · cases hok
  · cases hok

theorem name_spec (n : Nat) (hn : n ≤ 2 ^ 40) (hs : Sat W w L) : Ret Tryz.prog F.wal_name [.int .i64 n] w fun v w' => v = .string (nm n) ∧ Sat W w' L := by
  refine S.wal_name_ok _ _ _ (xbyteLit (by kernel_rfl) hs rfl fun b w1 h => ?_)
  have h : Sat W w1 (own 1 ⟨some ⟨b, 0, none⟩, 4, 4⟩ (bcells pre4) :: L) := Sat.shut_own (rest := []) rfl rfl rfl (Nat.le_refl _) h
  refine xloop (fun (st : Sl × Int × Unit) w => ∃ (i : Nat) (s : Sl), st = (s, (i : Int), ()) ∧ i ≤ 8 ∧ Sat W w (own 1 s (bcells (pre4 ++ List.replicate i 48)) :: L)) (fun st => (8 - st.2.1).toNat)
    ⟨0, _, rfl, by omega, h⟩ ?_
  clear h
  rintro next _ w ⟨i, s, rfl, hi, h⟩ hnext
  have hsl : s.len = 4 + i := by have := h.own_len; rw [bcells_length] at this; simp [pre4] at this; omega
  by_cases hlt : i < 8
  · refine XIf.yes (decide_eq_true (show (i : Int) < 8 by omega)) (xappend1 (by kernel_rfl) h rfl rfl (by show s.len + 1 ≤ _; omega) fun a s' w' h' hl' => xlet ((i + 1 : Nat) : Int) (by dsimp only; rw [wi (by omega) (by omega)]; omega) (hnext _ _ ⟨i + 1, s', rfl, by omega, ?_⟩ (by dsimp only; omega)))
    rw [List.replicate_succ', ← List.append_assoc, bcells_append _ [48]]
    exact h'
  have h8 : i = 8 := by omega
  subst h8
  refine XIf.no (decide_eq_false (show ¬ ((8 : Nat) : Int) < 8 by decide)) (xlet (11 : Int) (by dsimp only; rw [hsl]; rfl) ?_)
  refine xloop (fun (st : Int × Int × Unit) w => ∃ j : Nat, st = (((n / 10 ^ j : Nat) : Int), ((11 : Int) - j), ()) ∧ j ≤ 8 ∧ Sat W w (own 1 s (bcells (pre4 ++ (List.replicate (8 - j) 48 ++ (digits8 n).drop (8 - j)))) :: L)) (fun st => st.2.1.toNat)
    ⟨0, by simp, by omega, ?_⟩ ?_
  · have : (digits8 n).drop (8 - 0) = [] := List.drop_eq_nil_of_le (by rw [digits8_length]; omega)
    rw [this, List.append_nil]
    exact h
  clear h hnext
  rintro next _ w ⟨j, rfl, hj, h⟩ hnext
  refine xjoin (fun (st : Bool × Unit) w' => st = (decide (0 < n / 10 ^ j ∧ j < 8), ()) ∧ w' = w) (fun J hJ => ?_) ?_
  · by_cases hpos : 0 < n / 10 ^ j
    · refine XIf.yes (decide_eq_true (show ((n / 10 ^ j : Nat) : Int) > 0 by omega)) (hJ _ _ ⟨?_, rfl⟩)
      have : ((11 : Int) - (j : Int) ≥ 4) ↔ (0 < n / 10 ^ j ∧ j < 8) := by omega
      exact Prod.ext (decide_eq_decide.2 this) rfl
    · refine XIf.no (decide_eq_false (show ¬ ((n / 10 ^ j : Nat) : Int) > 0 by omega)) (hJ _ _ ⟨?_, rfl⟩)
      have : ¬ (0 < n / 10 ^ j ∧ j < 8) := fun h => hpos h.1
      exact Prod.ext (decide_eq_false this).symm rfl
  rintro _ w' ⟨rfl, rfl⟩
  by_cases hmore : 0 < n / 10 ^ j ∧ j < 8
  · have htm : ((n / 10 ^ j : Nat) : Int).tmod 10 = ((n / 10 ^ j % 10 : Nat) : Int) := by rw [Int.tmod_eq_emod_of_nonneg (by omega)]; omega
    have htd : ((n / 10 ^ j : Nat) : Int).tdiv 10 = ((n / 10 ^ (j + 1) : Nat) : Int) := by
      rw [Int.tdiv_eq_ediv_of_nonneg (by omega), Nat.pow_succ, ← Nat.div_div_eq_div_mul]; omega
    have hle : n / 10 ^ j ≤ n := Nat.div_le_self _ _
    have h48 : IntKind.wrap .i64 ((48 : Int) + ((n / 10 ^ j % 10 : Nat) : Int)) = ((48 + n / 10 ^ j % 10 : Nat) : Int) := by
      have e : (48 : Int) + ((n / 10 ^ j % 10 : Nat) : Int) = ((48 + n / 10 ^ j % 10 : Nat) : Int) := by omega
      rw [e]; exact wiN _ (by omega)
    have hle2 : n / 10 ^ (j + 1) ≤ n := Nat.div_le_self _ _
    refine XIf.yes (decide_eq_true hmore) ⟨by decide, xlet ((n / 10 ^ j % 10 : Nat) : Int) htm (xlet ((48 + n / 10 ^ j % 10 : Nat) : Int) h48 (xlet ((UInt8.ofNat (48 + n / 10 ^ j % 10)).toNat : Int) (by rw [wrapu8, u8_toNat]) ?_))⟩
    refine xput h (11 - j) (by show (11 : Int) - (j : Int) = ((11 - j : Nat) : Int); omega) (by show 11 - j < s.len; omega) (by show Int.toNat ((11 : Int) - (j : Int)) * 1 = 11 - j; omega) fun a w2 h2 => ⟨by decide, xlet ((n / 10 ^ (j + 1) : Nat) : Int) (by show IntKind.wrap .i64 (Int.tdiv ((n / 10 ^ j : Nat) : Int) 10) = _; rw [htd]; exact wiN _ (by omega)) (xlet ((11 : Int) - ((j + 1 : Nat) : Int)) (by show IntKind.wrap .i64 ((11 : Int) - (j : Int) - 1) = _; rw [wi (by omega) (by omega)]; omega) (hnext _ _ ⟨j + 1, rfl, by omega, ?_⟩ (by show ((11 : Int) - ((j + 1 : Nat) : Int)).toNat < ((11 : Int) - (j : Int)).toNat; omega)))⟩
    rw [bcells_set] at h2
    have e : (pre4 ++ (List.replicate (8 - j) 48 ++ (digits8 n).drop (8 - j))).set (11 - j) (UInt8.ofNat (48 + n / 10 ^ j % 10)) = pre4 ++ (List.replicate (8 - (j + 1)) 48 ++ (digits8 n).drop (8 - (j + 1))) := by
      rw [List.set_append_right _ _ (by simp [pre4]; omega), show 11 - j - pre4.length = 7 - j by simp [pre4]; omega, show 8 - j = (7 - j) + 1 by omega, List.replicate_succ', List.append_assoc,
        List.set_append_right _ _ (by simp), List.length_replicate, Nat.sub_self, show 8 - (j + 1) = 7 - j by omega, digits8_drop n (7 - j) (by omega), show 7 - (7 - j) = j by omega]
      rfl
    rw [e] at h2
    exact h2
  · have e : pre4 ++ (List.replicate (8 - j) 48 ++ (digits8 n).drop (8 - j)) = segName n := by
      unfold segName
      by_cases hj8 : j = 8
      · subst hj8; simp
      · rw [← digits8_take n j hj (Nat.eq_zero_of_not_pos fun hp => hmore ⟨hp, by omega⟩), List.take_append_drop]
    rw [e] at h
    refine XIf.no (decide_eq_false hmore) (xbytes (k := 0) (l := segName n) h (fun b hb _ => hb) (fun h => h) (by rw [segName_length]; show 0 + s.len ≤ 12; omega) (fun _ => rfl) ?_)
    rw [List.drop_zero, List.take_of_length_le (by rw [segName_length]; show 12 ≤ s.len; omega)]
    exact ⟨rfl, h.drop⟩

theorem number_spec (s : List UInt8) (hs : Sat W w L) : Ret Tryz.prog F.wal_number [.string (str s)] w fun v w' => v = .tuple ⟨[.int .i64 ((segNum s).getD 0 : Nat), .bool (segNum s).isSome]⟩ ∧ Sat W w' L := by
  suffices H : ∀ K : Value → World → Prop, (∀ w', Sat W w' L → K (.tuple ⟨[.int .i64 ((segNum s).getD 0 : Nat), .bool (segNum s).isSome]⟩) w') → S.wal_number (str s) K w from S.wal_number_ok _ _ _ (H _ fun _ h => ⟨rfl, h⟩)
  intro K hK
  have e1 : (str s).size = s.length := str_size s
  refine xjoin (fun (st : Bool × Unit) w' => st = (decide (s.length ≠ 12 ∨ s.take 4 ≠ pre4), ()) ∧ w' = w) (fun J hJ => ?_) ?_
  · by_cases h12 : s.length = 12
    · refine XIf.no (by rw [e1, h12]; rfl) (xcall_eq (HasPrefix_spec s pre4 (by omega) (by decide)) (decide (s.take 4 = pre4)) rfl (hJ _ _ ⟨?_, rfl⟩))
      by_cases hp : s.take 4 = pre4 <;> simp [h12, hp]
    · refine XIf.yes ?_ (hJ _ _ ⟨by simp [h12], rfl⟩)
      rw [e1]
      have : ((s.length : Nat) : Int) ≠ 12 := by omega
      simpa using this
  rintro _ w' ⟨rfl, rfl⟩
  unfold segNum at hK
  by_cases hbad : s.length ≠ 12 ∨ s.take 4 ≠ pre4
  · rw [if_pos hbad] at hK
    exact XIf.yes (decide_eq_true hbad) (hK _ hs)
  rw [if_neg hbad] at hK
  have h12 : s.length = 12 := by
    by_cases h : s.length = 12
    · exact h
    · exact absurd (.inl h) hbad
  refine XIf.no (decide_eq_false hbad) ⟨by rw [e1, h12]; decide, xlet (str (s.drop 4)) (by rw [Int.toNat_natCast]; exact str_drop s 4 _ (by rw [e1]; exact Nat.le_refl _)) (xtobytes (by kernel_rfl) hs fun sl w1 h1 hsl => ?_)⟩
  rw [str_toList] at h1
  obtain ⟨t, ht⟩ : ∃ t, s.drop 4 = t := ⟨_, rfl⟩
  have htl : t.length = 8 := by rw [← ht, List.length_drop, h12]
  rw [ht] at hK h1 hsl
  have hsl : sl.len = 8 := by rw [hsl, str_size, htl]
  refine xloop (fun (st : Int × Bool × Int × Int × Unit) w => ∃ (i acc : Nat), st = (0, false, (acc : Int), (i : Int), ()) ∧ i ≤ 8 ∧ acc < 10 ^ i ∧ decV 0 t = decV acc (t.drop i) ∧ Sat W w (own 1 sl (bcells t) :: L)) (fun st => (8 - st.2.2.2.1).toNat)
    ⟨0, 0, rfl, by omega, by decide, by simp, h1⟩ ?_
  clear h1
  rintro next _ w ⟨i, acc, rfl, hi, hacc, hd, h⟩ hnext
  by_cases hlt : i < 8
  · have hp8 : 10 ^ i ≤ 10 ^ 7 := Nat.pow_le_pow_right (by decide) (by omega)
    have hdrop : t.drop i = t[i]'(by omega) :: t.drop (i + 1) := List.drop_eq_getElem_cons (by omega)
    obtain ⟨c, hc⟩ : ∃ c, t[i]'(by omega) = c := ⟨_, rfl⟩
    rw [hc] at hdrop
    have hcl : c.toNat < 256 := UInt8.toNat_lt c
    have hgd : t.getD i 0 = c := by rw [List.getD_eq_getElem?_getD, List.getElem?_eq_getElem (by omega), hc]; rfl
    refine XIf.yes (decide_eq_true (show (i : Int) < (sl.len : Int) by omega)) (xelem h i rfl (x := (c.toNat : Int)) (by rw [bcells_get t i (by omega), hgd]) (by show Int.toNat _ * 1 = _; simp) fun a => ?_)
    rw [hdrop] at hd
    simp only [decV] at hd
    refine xjoin (fun (st : Bool × Unit) w' => st = (decide (c.toNat < 48 ∨ 57 < c.toNat), ()) ∧ w' = w) (fun J hJ => ?_) ?_
    · by_cases h48 : c.toNat < 48
      · exact XIf.yes (decide_eq_true (show (c.toNat : Int) < 48 by omega)) (hJ _ _ ⟨by simp [h48], rfl⟩)
      · refine XIf.no (decide_eq_false (show ¬ (c.toNat : Int) < 48 by omega)) (hJ _ _ ⟨?_, rfl⟩)
        have : ((c.toNat : Int) > 57) ↔ (c.toNat < 48 ∨ 57 < c.toNat) := by omega
        exact Prod.ext (decide_eq_decide.2 this) rfl
    rintro _ w' ⟨rfl, rfl⟩
    by_cases hc2 : c.toNat < 48 ∨ 57 < c.toNat
    · rw [if_pos hc2] at hd
      rw [hd] at hK
      exact XIf.yes (decide_eq_true hc2) (hK _ h.drop)
    · rw [if_neg hc2] at hd
      have hw : IntKind.wrap .u8 ((c.toNat : Int) - 48) = ((c.toNat - 48 : Nat) : Int) := by
        have : (c.toNat : Int) - 48 = ((c.toNat - 48 : Nat) : Int) := by omega
        rw [this, wrapu8]; omega
      refine XIf.no (decide_eq_false hc2) (xlet ((10 * acc : Nat) : Int) (by dsimp only; rw [wi (by omega) (by omega)]; omega) (xlet ((c.toNat - 48 : Nat) : Int) hw (xlet ((c.toNat - 48 : Nat) : Int) (wi (by omega) (by omega)) (xlet ((10 * acc + (c.toNat - 48) : Nat) : Int) (by rw [wi (by omega) (by omega)]; omega) (xlet ((i + 1 : Nat) : Int) (by dsimp only; rw [wi (by omega) (by omega)]; omega) (hnext _ _ ⟨i + 1, 10 * acc + (c.toNat - 48), rfl, by omega, ?_, hd, h⟩ (by dsimp only; omega)))))))
      rw [Nat.pow_succ]; omega
  · have h8 : i = 8 := by omega
    subst h8
    rw [List.drop_eq_nil_of_le (by omega)] at hd
    simp only [decV] at hd
    rw [hd] at hK
    exact XIf.no (decide_eq_false (show ¬ ((8 : Nat) : Int) < (sl.len : Int) by omega)) (hK _ h.drop)

theorem four_spec (n : Nat) (hs : Sat W w L) : Ret Tryz.prog F.wal_four [.int .i64 n] w fun v w' => v = .string (str (four n)) ∧ Sat W w' L := by
  have e : ∀ m : Nat, IntKind.wrap .u8 (m : Int) = ((UInt8.ofNat m).toNat : Int) := fun m => by rw [wrapu8, u8_toNat]
  refine S.wal_four_ok _ _ _ (xlet ((UInt8.ofNat n).toNat : Int) (e n) ⟨by decide, xlet ((n / 256 : Nat) : Int) (ishr_nat n 8 (by decide)) (xlet ((UInt8.ofNat (n / 256)).toNat : Int) (e _) ⟨by decide, xlet ((n / 65536 : Nat) : Int) (ishr_nat n 16 (by decide)) (xlet ((UInt8.ofNat (n / 65536)).toNat : Int) (e _) ⟨by decide, xlet ((n / 16777216 : Nat) : Int) (ishr_nat n 24 (by decide)) (xlet ((UInt8.ofNat (n / 16777216)).toNat : Int) (e _) (xnew hs fun b w1 h => ?_))⟩)⟩)⟩)
  have h : Sat W w1 (own 1 ⟨some ⟨b, 0, none⟩, 4, 4⟩ (bcells (four n)) :: L) := Sat.shut_own (rest := []) rfl rfl rfl (Nat.le_refl _) h
  refine xbytes (k := 0) (l := four n) h (fun b hb _ => hb) (fun h => h) (by rw [four_length]; decide) (fun _ => rfl) ?_
  exact ⟨rfl, h.drop⟩

theorem value_spec (l : List UInt8) (hl : l.length = 4) : Ret Tryz.prog F.wal_value [.string (str l)] w fun v w' => v = .int .i64 (val4 l) ∧ Quiet w w' := by
  have h : ∀ b : UInt8, b.toNat < 256 := fun b => UInt8.toNat_lt b
  have e1 : (str l).size = 4 := by rw [str_size, hl]
  have hb : ∀ k : Nat, k < 4 → ((0 : Int) ≤ (k : Int) ∧ (k : Int) < (((str l).size : Nat) : Int)) := fun k hk => by rw [e1]; omega
  obtain ⟨c0, h0⟩ : ∃ c, l.getD 0 0 = c := ⟨_, rfl⟩
  obtain ⟨c1, h1⟩ : ∃ c, l.getD 1 0 = c := ⟨_, rfl⟩
  obtain ⟨c2, h2⟩ : ∃ c, l.getD 2 0 = c := ⟨_, rfl⟩
  obtain ⟨c3, h3⟩ : ∃ c, l.getD 3 0 = c := ⟨_, rfl⟩
  have b0 := h c0
  have b1 := h c1
  have b2 := h c2
  have b3 := h c3
  refine S.wal_value_ok _ _ _ ⟨hb 0 (by decide), xlet (c0.toNat : Int) (by rw [getD_str, h0]) (xlet (c0.toNat : Int) (wi (by omega) (by omega)) ⟨hb 1 (by decide), xlet (c1.toNat : Int) (by rw [getD_str, h1]) (xlet (c1.toNat : Int) (wi (by omega) (by omega)) ⟨by decide, xlet ((c1.toNat * 2 ^ 8 : Nat) : Int) (ishl_nat _ 8 (by decide) (by omega)) (xlet ((c0.toNat + c1.toNat * 2 ^ 8 : Nat) : Int) (or_add _ _ 8 (by omega) (by omega)) ?_)⟩)⟩)⟩
  refine ⟨hb 2 (by decide), xlet (c2.toNat : Int) (by rw [getD_str, h2]) (xlet (c2.toNat : Int) (wi (by omega) (by omega)) ⟨by decide, xlet ((c2.toNat * 2 ^ 16 : Nat) : Int) (ishl_nat _ 16 (by decide) (by omega)) (xlet ((c0.toNat + c1.toNat * 2 ^ 8 + c2.toNat * 2 ^ 16 : Nat) : Int) (or_add _ _ 16 (by omega) (by omega)) ?_)⟩)⟩
  refine ⟨hb 3 (by decide), xlet (c3.toNat : Int) (by rw [getD_str, h3]) (xlet (c3.toNat : Int) (wi (by omega) (by omega)) ⟨by decide, xlet ((c3.toNat * 2 ^ 24 : Nat) : Int) (ishl_nat _ 24 (by decide) (by omega)) (xlet ((c0.toNat + c1.toNat * 2 ^ 8 + c2.toNat * 2 ^ 16 + c3.toNat * 2 ^ 24 : Nat) : Int) (or_add _ _ 24 (by omega) (by omega)) ⟨?_, (Quiet.refl _).drew⟩)⟩)⟩
  unfold val4
  rw [h0, h1, h2, h3]
  congr 1
  omega

theorem first_spec (n : Nat) (hn : n ≤ 2 ^ 40) (hs : Sat W w L) : Ret Tryz.prog F.wal_first [.int .i64 n] w fun v w' => v = .string (str (firstM n)) ∧ Sat W w' L := by
  refine S.wal_first_ok _ _ _ (xcall (name_spec n hn hs) ?_)
  rintro v w1 ⟨rfl, h⟩
  refine ⟨nm n, rfl, by rw [nm_size]; decide, xlet (str (firstM n)) (str_append pre8 (segName n)) ⟨rfl, h⟩⟩

theorem record_spec {b : Nat} {M : Bk} (last s : List UInt8) (hs : Sat W w (BookP b M :: L)) (hM : M.length ≤ 2 ^ 40) (hl : last.length ≤ 2 ^ 40) (hsl : s.length ≤ 2 ^ 40) :
    Ret Tryz.prog F.wal_record [ptr b, .string (str last), .string (str s)] w fun v w' => v = .tuple ⟨[.string (str (four s.length ++ M.mark (last ++ s) ++ s)), .string (str (M.mark (last ++ s)))]⟩ ∧ Sat W w' (BookP b (M.add (last ++ s)) :: L) := by
  have e1 : (str last).size = last.length := str_size _
  have e2 : (str s).size = s.length := str_size _
  have hmk : (M.mark (last ++ s)).length = 32 := markN_length _
  refine S.wal_record_ok _ _ _ _ _ ⟨by rw [e1, e2]; show ((last.length + s.length : Nat) : Int) ≤ 9223372036854775807; omega, xlet (str (last ++ s)) (str_append _ _) (xcall (Mark_spec (last ++ s) hs hM) ?_)⟩
  rintro v w1 ⟨rfl, h⟩
  refine ⟨_, rfl, xcall (four_spec s.length (by exact h)) ?_⟩
  rintro v w2 ⟨rfl, h⟩
  refine ⟨str (four s.length), rfl, by rw [str_size, str_size, four_length, hmk]; decide, xlet (str (four s.length ++ M.mark (last ++ s))) (str_append _ _) ⟨?_, xlet (str (four s.length ++ M.mark (last ++ s) ++ s)) (str_append _ _) ⟨rfl, h⟩⟩⟩
  rw [str_size, e2, List.length_append, four_length, hmk]
  show ((4 + 32 + s.length : Nat) : Int) ≤ 9223372036854775807
  omega

theorem none_ok {d b : Nat} {M : Bk} (hs : Sat W w (BookP b M :: L)) : Ret Tryz.prog F.wal_none [ptr d, ptr b] w fun v w' => v = .bool false ∧ w' = w :=
  S.wal_none_ok _ _ _ _ (xjoin0 (XIf.no rfl (xcall_eq (Ready_spec hs) true rfl ⟨rfl, rfl⟩)))

end
end Go.X

/-! The log: records behind what there is. -/
namespace Go.X
open Go.Proofs

/-- A log in memory. -/
def LogP (p d b : Nat) (l : LG) : SP := pts p [ptr d, ptr b, .int .i64 (l.n : Nat), .int .i64 (l.end_ : Nat), .string (str l.mark)]

/-- Texts that can be read wherever a part of memory stands. -/
def ROStr (W : World) (A : SP) (s : Sl) (xs : List (List UInt8)) : Prop :=
  xs.length = s.len ∧ ∀ (w : World) (L : List SP), Sat W w (A :: L) → ∀ k x, xs[k]? = some x → ∃ b o, s.a = some ⟨b, o, none⟩ ∧ w.cell? ⟨b, o + k, none⟩ = some (.string (str x))

section
variable {W w : World} {L : List SP}

theorem ROStr.nil (A : SP) : ROStr W A ⟨none, 0, 0⟩ [] := ⟨rfl, fun _ _ _ k x hx => by simp at hx⟩

theorem ROStr.one {b : Nat} (x : List UInt8) : ROStr W (pts b [.string (str x)]) ⟨some ⟨b, 0, none⟩, 1, 1⟩ [x] := by
  refine ⟨rfl, fun w L h k y hy => ⟨b, 0, rfl, ?_⟩⟩
  cases k with
  | zero => cases hy; exact h.cell rfl
  | succ k => simp at hy

theorem ROStr.own {s : Sl} (xs : List (List UInt8)) (hl : xs.length = s.len) : ROStr W (own 1 s (xs.map fun x => Value.string (str x))) s xs := by
  refine ⟨hl, fun w L h k x hx => ?_⟩
  have hlt := (List.getElem?_eq_some_iff.1 hx).1
  obtain ⟨b, hb, hc⟩ := h.own_some (by omega)
  exact ⟨b, 0, hb, by rw [Nat.zero_add]; exact hc k _ (by rw [List.getElem?_map, hx]; rfl)⟩

/-- Reading one of them. -/
theorem xstrAt {A : SP} {s : Sl} {xs : List (List UInt8)} {i : Int} {n : Nat} {K : Addr → ByteArray → Prop} (hR : ROStr W A s xs) (hs : Sat W w (A :: L)) (k : Nat) (hi : i = k) {x : List UInt8} (hx : xs[k]? = some x) (hn : n = k) (hk : ∀ a, K a (str x)) :
    XNil s.a fun a => ((0 : Int) ≤ i ∧ i < ((s.len : Nat) : Int)) ∧ XLoad .str (Addr.add a n) w (K a) := by
  obtain ⟨b, o, ha, hc⟩ := hR.2 w L hs k x hx
  have hlt := (List.getElem?_eq_some_iff.1 hx).1
  have hl := hR.1
  rw [ha]
  refine ⟨by omega, str x, ?_, hk _⟩
  rw [Addr.add_mk, hn]
  exact hc

theorem bytesAt_own {b : Nat} {bs : List UInt8} {cs : List Value} (hs : Sat W w (pts b cs :: L)) (h : cs = bcells bs) : sliceBytes w (some ⟨b, 0, none⟩) bs.length (str bs) := by
  subst h
  refine ⟨str_size bs, bytesAt_of _ 0 fun j c hc => ?_⟩
  rw [str_toList] at hc
  rw [Nat.zero_add, Addr.add_mk, Nat.zero_add]
  exact hs.cell (by simp [bcells, hc])

/-- Bytes of a block as a text. -/
theorem xbytesOf {b n : Nat} {bs : List UInt8} {K : ByteArray → Prop} (hs : Sat W w (pts b (bcells bs) :: L)) (hn : n = bs.length) (hk : K (str bs)) : XBytes (some ⟨b, 0, none⟩) n w K := by
  subst hn
  exact ⟨str bs, bytesAt_own hs rfl, hk⟩

theorem putB_err (sign : UInt8) : ∀ (l : List (List UInt8)) (S : PB), S.err = 0 → (putB sign l S).err = 0 ∨ (putB sign l S).err = 4
  | [], S, h => .inl h
  | s :: l, S, h => by
    unfold putB
    split
    · exact .inr rfl
    · exact putB_err sign l _ h

theorem recLen (m s : List UInt8) (hm : m.length = 32) : (four s.length ++ m ++ s).length = 36 + s.length := by
  rw [List.length_append, List.length_append, four_length, hm]

theorem mark_length (M : Bk) (s : List UInt8) : (M.mark s).length = 32 := markN_length _

theorem add_length (M : Bk) (s : List UInt8) : (M.add s).length ≤ M.length + 1 := by
  obtain ⟨X, h1, h2⟩ := M.add_more s
  rw [h1, List.length_append]; omega

variable {p d b i : Nat} {D : DD} {M : Bk} {l : LG} {A : SP}

structure LGok (l : LG) : Prop where
  n : l.n ≤ 2 ^ 40
  end_ : l.end_ ≤ 2 ^ 40
  mark : l.mark.length ≤ 2 ^ 20

theorem put_spec {s : Sl} {xs : List (List UInt8)} (sign : UInt8) (hR : ROStr W A s xs) (hs : Sat W w (LogP p d b l :: DiskP d D :: BookP b M :: A :: L)) (hl : LGok l) (hf : Fit i D) (hi : i ≤ 2 ^ 26)
    (hM : M.length ≤ 2 ^ 39) (hx : xs.length ≤ 2 ^ 14) :
    Ret Tryz.prog F.wal_Log_put [ptr p, .int .u8 sign.toNat, .slice s.a s.len s.cap] w fun v w' =>
      v = .int .i64 (putW D M l sign xs).err ∧ Sat W w' (LogP p d b (putW D M l sign xs).log :: DiskP d (putW D M l sign xs).disk :: BookP b (putW D M l sign xs).book :: A :: L) := by
  suffices H : ∀ K : Value → World → Prop, (∀ R w', R = putW D M l sign xs → Sat W w' (LogP p d b R.log :: DiskP d R.disk :: BookP b R.book :: A :: L) → K (.int .i64 R.err) w') → S.wal_Log_put (some ⟨p, 0, none⟩) sign.toNat s K w from
    S.wal_Log_put_ok _ _ s _ _ (H _ fun R w' e h => by subst e; exact ⟨rfl, h⟩)
  intro K hK
  obtain ⟨T, e, hB⟩ := btypes
  refine xnewBuild (T := T) (e := e) (by rw [hB.builder]; kernel_rfl) hs fun bb w1 h1 => xnil ?_
  have h1 : Sat W w1 (BuildP T e bb [] :: LogP p d b l :: DiskP d D :: BookP b M :: A :: L) := h1
  refine xload (h1.bring 1) 4 rfl rfl ?_
  obtain ⟨Z, hZ⟩ : ∃ Z, putB sign xs ⟨0, [], l.mark, M⟩ = Z := ⟨_, rfl⟩
  refine xloop (fun (st : Int × ByteArray × Int × Unit) w => ∃ (k : Nat) (S : PB), st = (0, str S.mark, (k : Int), ()) ∧ k ≤ xs.length ∧ putB sign (xs.drop k) S = Z ∧ S.err = 0 ∧ S.bytes.length ≤ k * 2 ^ 21 ∧ S.mark.length ≤ 2 ^ 20 ∧
      S.book.length ≤ M.length + k ∧ Sat W w (BuildP T e bb S.bytes :: LogP p d b l :: DiskP d D :: BookP b S.book :: A :: L)) (fun st => ((s.len : Int) - st.2.2.1).toNat)
    ⟨0, ⟨0, [], l.mark, M⟩, rfl, Nat.zero_le _, hZ, rfl, by simp, hl.mark, by simp, h1⟩ ?_
  clear h1
  rintro next _ w ⟨k, S, rfl, hk, hS, he, hbl, hml, hbk, h⟩ hnext
  have hxl := hR.1
  by_cases hlt : k < xs.length
  · obtain ⟨x, hxk⟩ : ∃ x, xs[k]? = some x := ⟨_, List.getElem?_eq_getElem hlt⟩
    have hdrop : xs.drop k = x :: xs.drop (k + 1) := by
      rw [List.drop_eq_getElem_cons hlt]
      rw [List.getElem?_eq_getElem hlt] at hxk
      rw [Option.some.inj hxk]
    refine XIf.yes (decide_eq_true (show (k : Int) < (s.len : Int) by omega)) (xstrAt hR (h.bring 4) k rfl hxk (by show Int.toNat _ * 1 = _; simp) fun a => ?_)
    have e1 : (str x).size = x.length := str_size x
    rw [hdrop] at hS
    by_cases hlong : 1048832 < x.length
    · have hZe : Z = { S with err := 4 } := by rw [← hS]; unfold putB; rw [if_pos hlong]
      refine XIf.yes (decide_eq_true (show (((str x).size : Nat) : Int) > 1048832 by rw [e1]; omega)) (hK ⟨4, D, S.book, l⟩ w ?_ h.drop)
      unfold putW
      rw [hZ, hZe]
      rfl
    · unfold putB at hS
      rw [if_neg hlong] at hS
      have hd := h.drew
      refine XIf.no (decide_eq_false (show ¬ (((str x).size : Nat) : Int) > 1048832 by rw [e1]; omega)) (xnil (xload (hd.bring 1) 1 rfl rfl (xnew hd fun c w2 h2 => ⟨(h2.bring 2).cell rfl, ?_⟩)))
      have h2 : Sat W w2 (pts c (bcells [sign]) :: BuildP T e bb S.bytes :: LogP p d b l :: DiskP d D :: BookP b S.book :: A :: L) := h2
      refine xbytesOf h2 rfl ⟨by rw [e1, str_size]; show ((1 + x.length : Nat) : Int) ≤ 9223372036854775807; omega, xlet (str (sign :: x)) (str_append [sign] x) (xcalls (record_spec S.mark (sign :: x) (h2.bring 4) (by omega) (by omega) (by simp only [List.length_cons]; omega)) ?_)⟩
      rintro v w3 ⟨rfl, h3⟩
      refine ⟨(_, _, ()), rfl, bytesAt_own (h3.bring 1) rfl, xcalls (WriteString_spec (s := str (four (sign :: x).length ++ S.book.mark (S.mark ++ sign :: x) ++ sign :: x)) hB (h3.bring 2) ?_) ?_⟩
      · rw [str_size, recLen _ _ (mark_length _ _), List.length_cons]; omega
      rintro v w4 ⟨rfl, h4⟩
      rw [str_toList] at h4
      refine ⟨(_, .nilIface, ()), rfl, xlet ((k + 1 : Nat) : Int) (by dsimp only; rw [wi (by omega) (by omega)]; omega) (hnext _ _ ⟨k + 1, { S with bytes := S.bytes ++ (four (sign :: x).length ++ S.book.mark (S.mark ++ sign :: x) ++ sign :: x), mark := S.book.mark (S.mark ++ sign :: x), book := S.book.add (S.mark ++ sign :: x) }, rfl, hlt, hS, he, ?_, ?_, ?_, ?_⟩ (by dsimp only; omega))⟩
      · show (S.bytes ++ _).length ≤ _
        rw [List.length_append, recLen _ _ (mark_length _ _), List.length_cons]; omega
      · show (S.book.mark _).length ≤ _
        rw [mark_length]; decide
      · have := add_length S.book (S.mark ++ sign :: x)
        show (S.book.add _).length ≤ _
        omega
      · exact (h4.bring 2).drop.arr [0, 2, 3, 1, 4]
  · have hke : k = xs.length := by omega
    rw [hke, List.drop_length] at hS
    have hZe : S = Z := hS
    subst hZe
    clear hnext
    have hd := h.drew
    refine XIf.no (decide_eq_false (show ¬ (k : Int) < (s.len : Int) by omega)) (xnil (xload (hd.bring 1) 0 rfl rfl (xnil (xload (hd.bring 1) 2 rfl rfl (xnil (xload (hd.bring 1) 3 rfl rfl (xcall (name_spec l.n hl.n hd) ?_)))))))
    rintro v w2 ⟨rfl, h2⟩
    refine ⟨nm l.n, rfl, (h2.bring 1).cell rfl, (h2.bring 1).cell rfl, xcall (String_spec hB h2 (by omega)) ?_⟩
    rintro v w3 ⟨rfl, h3⟩
    have hsz : (str S.bytes).size = S.bytes.length := str_size _
    have hwaits := hf.waits
    have hcount := hf.count
    have hlen := hf.len
    refine ⟨str S.bytes, rfl, (h3.bring 1).cell rfl, (h3.bring 1).cell rfl, xcall (Write_spec (name := nm l.n) (at_ := (l.end_ : Nat)) (t := str S.bytes) (h3.bring 2) hf.rising hf.small (by omega) hf.most hf.fuse.2 hf.fuse.1 hcount.1 (by rw [hsz]; omega) (by rw [hsz]; omega)) ?_⟩
    rintro v w4 ⟨rfl, h4⟩
    rw [str_toList] at h4 ⊢
    obtain ⟨R, hRR⟩ : ∃ R, D.write (nm l.n) (l.end_ : Nat) S.bytes = R := ⟨_, rfl⟩
    have hput : putW D M l sign xs = if R.1 ≠ 0 then ⟨R.1, R.2, S.book, l⟩ else ⟨0, R.2, S.book, ⟨l.n, l.end_ + S.bytes.length, S.mark⟩⟩ := by
      unfold putW
      rw [hZ]
      dsimp only
      rw [if_neg (fun hh => hh he), hRR]
    rw [hRR] at h4 ⊢
    refine ⟨R.1, rfl, ?_⟩
    by_cases hR0 : R.1 ≠ 0
    · rw [if_pos hR0] at hput
      refine XIf.yes (by simpa using hR0) (hK ⟨R.1, R.2, S.book, l⟩ w4 hput.symm ?_)
      exact (h4.bring 1).drop.arr [1, 0]
    · rw [if_neg hR0] at hput
      have hd4 := h4.drew
      refine XIf.no (by simpa using hR0) (xnil (xload (hd4.bring 2) 3 rfl rfl (xcall_eq (Len_spec (hd4.bring 1)) (S.bytes.length : Int) rfl ⟨(hd4.bring 2).cell rfl, xlet ((l.end_ + S.bytes.length : Nat) : Int) (by rw [wi (by have := hl.end_; omega) (by have := hl.end_; omega)]; omega) (xnil (xstore (hd4.bring 2) 3 rfl (by simp) fun w5 h5 => xnil (xstore h5 4 rfl (by simp) fun w6 h6 => hK ⟨0, R.2, S.book, ⟨l.n, l.end_ + S.bytes.length, S.mark⟩⟩ w6 hput.symm ?_)))⟩)))
      have h6 : Sat W w6 (LogP p d b ⟨l.n, l.end_ + S.bytes.length, S.mark⟩ :: DiskP d R.2 :: BuildP T e bb S.bytes :: BookP b S.book :: A :: L) := h6
      exact (h6.bring 2).drop

end
end Go.X
