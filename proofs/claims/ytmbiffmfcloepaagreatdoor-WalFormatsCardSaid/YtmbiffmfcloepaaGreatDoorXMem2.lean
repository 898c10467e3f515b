/- Bytes: growing by noughts, copying into a slice, reading as a text. -/
import Derived.Test.YtmbiffmfcloepaaGreatDoorDModel
namespace Go.X

section
variable {P : Program} {W w : World} {L : List SP}

theorem bcells_append (a b : List UInt8) : bcells (a ++ b) = bcells a ++ bcells b := by simp [bcells]
theorem bcells_length (a : List UInt8) : (bcells a).length = a.length := by simp [bcells]
theorem bcells_one : ∀ (a : List UInt8), allOne (bcells a) = true
  | [] => rfl
  | _ :: a => bcells_one a

/-- The closed facts that growing by noughts asks of the types. -/
def okZeros (P : Program) (t u : TypeId) : Bool :=
  match under P t, under P u with
  | some (.slice e), some (.int _) => match ti P e with
    | some i => Nat.beq i.size 1 && Nat.beq i.bytes 1 && (match i.zero with
      | some (.int .u8 0) => true
      | _ => false)
    | none => false
  | _, _ => false

theorem okZeros_spec {t u : TypeId} (h : okZeros P t u = true) : ∃ e k i, P.underlying t = some (.slice e) ∧ P.underlying u = some (.int k) ∧ P.info? e = some i ∧ i.size = 1 ∧ i.bytes = 1 ∧ i.zero = some (.int .u8 0) := by
  unfold okZeros at h
  split at h
  · rename_i e k h1 h2
    split at h
    · rename_i i hi
      simp only [Bool.and_eq_true] at h
      obtain ⟨⟨h3, h4⟩, h5⟩ := h
      split at h5
      · rename_i hz
        exact ⟨e, k, i, under_eq h1, under_eq h2, ti_info hi, Nat.eq_of_beq_eq_true h3, Nat.eq_of_beq_eq_true h4, hz⟩
      · cases h5
    · cases h
  · cases h

theorem zero_bytes (n : Nat) : (Builtin.zeroCells (#[.int .u8 0] : Array Value) n).toList = bcells (List.replicate n 0) := by
  unfold Builtin.zeroCells bcells
  apply List.ext_getElem
  · simp
  · intro i h1 h2
    simp [Nat.mod_one]

theorem xgrow {t u ty : TypeId} {s : Sl} {l : List UInt8} {m : Nat} {k : Int} {K : Sl → World → Prop} (hok : okZeros P t u = true) (hs : Sat W w (own 1 s (bcells l) :: L)) (hm : k = m) (hsz : s.len + m ≤ 2 ^ 40)
    (hk : ∀ s' w', Sat W w' (own 1 s' (bcells (l ++ List.replicate m 0)) :: L) → s'.len = s.len + m → K s' w') :
    XDo P (Builtin.append_ #[t, u] ty ⟨[.slice s.a s.len s.cap, .int .i64 k]⟩) (.leaf .slice) w K := by
  obtain ⟨e, ki, i, ht, hu, hi, h1, hb, hz⟩ := okZeros_spec hok
  subst hm
  have hw : IntKind.wrap .i64 (m : Int) = m := wi (by omega) (by omega)
  have hl : l.length = s.len := by have := hs.own_len; rw [bcells_length] at this; omega
  have hn0 : ¬ ((m : Int) < 0) := by omega
  have h48 : ¬ (281474976710656 < (m : Int)) := by omega
  have h63 : ¬ (9223372036854775807 < (s.len : Int) + (m : Int)) := by omega
  have hzc : (Value.int IntKind.u8 0).cells = #[.int .u8 0] := rfl
  have hz0 : Builtin.zeroCells (#[.int .u8 0] : Array Value) 0 = #[] := by simp [Builtin.zeroCells]
  have grow : s.cap < s.len + m → (s.a = none → bcells l = []) → Reads w s (bcells l) → XDo P (Builtin.append_ #[t, u] ty ⟨[.slice s.a s.len s.cap, .int .i64 (m : Int)]⟩) (.leaf .slice) w K := by
    intro hg ho0 hro
    have hn : ¬ (s.len + m ≤ s.cap) := by omega
    have hfit := growslice_fits (need := s.len + m) (old := s.cap) (bytes := 1) hg (by omega)
    have hg' : ¬ (281474976710656 < Builtin.nextslicecap (s.len + m) s.cap) := by omega
    have hfo := run_first (P := P) (w := w.drew) (sz := 1) (n := s.len) (s := s) (vs := bcells l) hro (by rw [bcells_length, hl, Nat.mul_one]) ho0 s.len s.cap
    have hz1 : (if m = 0 then pure #[] else (zeroValue e >>= fun z => pure (Builtin.zeroCells z.cells m)) : Sem (Array Value)).run P w.drew = .ok ⟨bcells (List.replicate m 0)⟩ w.drew := by
      split
      · rename_i h; subst h; rfl
      · simp only [Sem.run_bind, run_zero' hi hz, Result.andThen, Sem.run_pure, hzc]
        congr 1
        apply Array.ext'
        exact zero_bytes m
    have hr : (Builtin.append_ #[t, u] ty ⟨[.slice s.a s.len s.cap, .int .i64 (m : Int)]⟩).run P w = .ok (.slice (some ⟨w.heap.size, 0, none⟩) (s.len + m) (grownCap w (s.len + m) s.cap e))
        (w.drew.alloc (.cells ⟨bcells l ++ bcells (List.replicate m 0) ++ (Builtin.zeroCells #[.int .u8 0] (grownCap w (s.len + m) s.cap e - (s.len + m))).toList⟩ e)) := by
      simp [Builtin.append_, run_underlying ht, run_underlying hu, run_size' hi, run_info' hi, run_zero' hi hz, asInt, asIntOf, hb, h1, hw, hn0, h48, h63, hn, hg', Question.forced, newRow, grownCap, hfo, hzc]
      by_cases h0 : m = 0
      · subst h0
        simp [bcells]
        congr 2
        apply Array.ext'
        simp
      · simp only [h0, if_false]
        congr 3
        apply Array.ext'
        simp [← zero_bytes]
    refine ⟨⟨some ⟨w.heap.size, 0, none⟩, s.len + m, grownCap w (s.len + m) s.cap e⟩, _, hr, hk _ _ ?_ rfl⟩
    have hcap := grownCap_ge w (s.len + m) s.cap e
    have hnew := (hs.drop.drew).new_block (cs := bcells l ++ bcells (List.replicate m 0) ++ (Builtin.zeroCells #[.int .u8 0] (grownCap w (s.len + m) s.cap e - (s.len + m))).toList) (t := e)
    rw [bcells_append]
    refine Sat.shut_own rfl ?_ ?_ hcap hnew
    · simp [bcells_length, hl]
    · simp only [List.length_append, bcells_length, zeroCells_length, List.length_replicate, hl]
      show _ + _ * 1 = _
      omega
  rcases hs.open_own with ⟨ha, hl0, hc, hx, hs'⟩ | ⟨b, rest, ha, hl', hc, hlc, hs'⟩
  · by_cases h0 : m = 0
    · subst h0
      refine ⟨⟨none, 0, 0⟩, w, ?_, hk _ _ ?_ (by simp [hl0])⟩
      · rw [ha, hl0, hc]
        simp [Builtin.append_, run_underlying ht, run_underlying hu, run_size' hi, run_info' hi, asInt, asIntOf, hb, h1]
        exact if_neg (by decide)
      · have : l = [] := List.eq_nil_of_length_eq_zero (by omega)
        rw [this]
        exact hs'.own_nil
    · exact grow (by omega) (fun _ => hx) (fun a h => by rw [ha] at h; cases h)
  · by_cases hroom : s.len + m ≤ s.cap
    · have hlen : (bcells l).length = s.len := by rw [bcells_length, hl]
      have hfit : s.len + (bcells (List.replicate m 0)).length ≤ (bcells l ++ rest).length := by rw [hc, bcells_length, List.length_replicate]; omega
      have hst := xstores (W := W) (L := L) (b := b) (o := s.len) (K := fun w' => Sat W w' (pts b (splice (bcells l ++ rest) s.len (bcells (List.replicate m 0))) :: L)) (bcells (List.replicate m 0)) 0 w _ hs' (by simpa using hfit) (fun w' h => by simpa using h)
      obtain ⟨w', hr, hw'⟩ := run_stores (P := P) (bcells (List.replicate m 0)) 0 w (bcells_one _) hst
      have hr' : (Builtin.append_ #[t, u] ty ⟨[.slice s.a s.len s.cap, .int .i64 (m : Int)]⟩).run P w = .ok (.slice (some ⟨b, 0, none⟩) (s.len + m) s.cap) w' := by
        rw [ha]
        simp [Builtin.append_, run_underlying ht, run_underlying hu, run_size' hi, run_info' hi, run_zero' hi hz, asInt, asIntOf, hb, h1, hw, hn0, h48, hroom, hzc]
        by_cases h0 : m = 0
        · subst h0
          simp [storeCells]
          cases hr
          rfl
        · simp only [h0, if_false, Result.andThen, Addr.add_mk, Nat.zero_add, zero_bytes, hr]
      refine ⟨⟨some ⟨b, 0, none⟩, s.len + m, s.cap⟩, w', hr', hk _ _ ?_ rfl⟩
      have hsp : splice (bcells l ++ rest) s.len (bcells (List.replicate m 0)) = bcells (l ++ List.replicate m 0) ++ rest.drop (bcells (List.replicate m 0)).length := by
        unfold splice
        rw [bcells_append, ← hlen, List.take_left, List.drop_append, List.drop_eq_nil_of_le (by omega), List.nil_append]
        congr 2
        omega
      rw [hsp] at hw'
      refine Sat.shut_own rfl ?_ ?_ hroom hw'
      · simp [bcells_length, hl]
      · rw [← hsp, splice_length hfit, hc]
    · exact grow (by omega) (fun h => by rw [ha] at h; cases h) (reads_own hs)

/-! ### Copying -/

def okCopy (P : Program) (t : TypeId) (sz : Nat) : Bool :=
  match under P t with
  | some (.slice e) => match ti P e with
    | some i => Nat.beq i.size sz
    | none => false
  | _ => false

theorem okCopy_spec {t : TypeId} {sz : Nat} (h : okCopy P t sz = true) : ∃ e i, P.underlying t = some (.slice e) ∧ P.info? e = some i ∧ i.size = sz := by
  unfold okCopy at h
  split at h
  · rename_i e h1
    split at h
    · rename_i i hi
      exact ⟨e, i, under_eq h1, ti_info hi, Nat.eq_of_beq_eq_true h⟩
    · cases h
  · cases h

/-- Copying into a slice from an element on. -/
theorem xcopy {dT sT ty : TypeId} {sz : Nat} {s : Sl} {xs vs : List Value} {src : Value} {p : Option Addr} {dl dc k m n : Nat} {K : Int → World → Prop} (hok : okCopy P dT sz = true) (hs : Sat W w (own sz s xs :: L))
    (hp : ∀ b, s.a = some ⟨b, 0, none⟩ → k < s.cap → p = some ⟨b, k * sz, none⟩) (hk0 : k ≤ s.len) (hdl : dl = s.len - k)
    (hlen : (Builtin.lenOf src).run P w = .ok m w) (hn : n = Nat.min m dl) (hf : (Builtin.firstCells sz n src).run P w = .ok ⟨vs⟩ w) (hvs : vs.length = n * sz) (h1 : allOne vs = true)
    (hk : ∀ w', Sat W w' (own sz s (splice xs (k * sz) vs) :: L) → K n w') :
    XDo P (Builtin.copy_ #[dT, sT] ty ⟨[.slice p dl dc, src]⟩) (.leaf (.int .i64)) w K := by
  obtain ⟨e, i, ht, hi, rfl⟩ := okCopy_spec hok
  by_cases hn0 : n = 0
  · have hv : vs = [] := List.eq_nil_of_length_eq_zero (by rw [hvs, hn0, Nat.zero_mul])
    refine ⟨n, w, ?_, hk w (by rw [hv, splice_nil]; exact hs)⟩
    cases p <;> simp [Builtin.copy_, run_underlying ht, run_size' hi, hlen, ← hn, hf, hv, storeCells, goInt, Ty.mk, Leaf.mk]
  · have hmin : n ≤ dl := by rw [hn]; exact Nat.min_le_right _ _
    rcases hs.open_own with ⟨_, hl0, _⟩ | ⟨b, rest, ha, hl', hc, hlc, hs'⟩
    · omega
    · have hkc : k < s.cap := by omega
      rw [hp b ha hkc]
      have hfit : k * i.size + vs.length ≤ xs.length := by rw [hvs, hl', ← Nat.add_mul]; exact Nat.mul_le_mul_right _ (by omega)
      have hst := xstores (W := W) (L := L) (b := b) (o := k * i.size) (K := fun w' => Sat W w' (pts b (splice (xs ++ rest) (k * i.size) vs) :: L)) vs 0 w _ hs' (by rw [List.length_append]; omega) (fun w' h => by simpa using h)
      obtain ⟨w', hr, hw'⟩ := run_stores (P := P) vs 0 w h1 hst
      refine ⟨n, w', ?_, hk w' ?_⟩
      · simp [Builtin.copy_, run_underlying ht, run_size' hi, hlen, ← hn, hf, hr, goInt, Ty.mk, Leaf.mk]
      · have hsp : splice (xs ++ rest) (k * i.size) vs = splice xs (k * i.size) vs ++ rest := by
          unfold splice
          rw [List.take_append_of_le_length (by omega), List.drop_append_of_le_length (by omega)]
          simp
        rw [hsp] at hw'
        refine Sat.shut_own ha ?_ ?_ hlc hw'
        · rw [splice_length hfit, hl']
        · rw [List.length_append, splice_length hfit, ← List.length_append, hc]

theorem view_ptr {a : Option Addr} {cap k b sz : Nat} (ha : a = some ⟨b, 0, none⟩) (hk : k < cap) : (if cap = k then a else Option.map (fun b => Addr.add b (k * sz)) a) = some ⟨b, k * sz, none⟩ := by
  rw [if_neg (by omega), ha]
  simp [Addr.add_mk]

/-- Bytes laid over others. -/
def over (l : List UInt8) (k : Nat) (t : List UInt8) : List UInt8 := l.take k ++ t ++ l.drop (k + t.length)

theorem splice_bytes (l t : List UInt8) (k : Nat) : splice (bcells l) k (bcells t) = bcells (over l k t) := by
  simp [splice, over, bcells]

theorem first_str (t : ByteArray) (n : Nat) (_h : n ≤ t.size) (w : World) : (Builtin.firstCells 1 n (.string t)).run P w = .ok ⟨bcells (t.data.toList.take n)⟩ w := by
  simp only [Builtin.firstCells, Sem.run_pure]
  congr 1
  apply Array.ext'
  simp [bcells, List.map_take]

/-- Copying a text's bytes. -/
theorem xcopyS {dT sT ty : TypeId} {s : Sl} {l : List UInt8} {t : ByteArray} {p : Option Addr} {dl dc k : Nat} {K : Int → World → Prop} (hok : okCopy P dT 1 = true) (hs : Sat W w (own 1 s (bcells l) :: L))
    (hp : ∀ b, s.a = some ⟨b, 0, none⟩ → k < s.cap → p = some ⟨b, k * 1, none⟩) (hk0 : k + t.size ≤ l.length) (hdl : dl = s.len - k)
    (hk : ∀ w', Sat W w' (own 1 s (bcells (over l k t.data.toList)) :: L) → K t.size w') :
    XDo P (Builtin.copy_ #[dT, sT] ty ⟨[.slice p dl dc, .string t]⟩) (.leaf (.int .i64)) w K := by
  have hl : l.length = s.len := by have := hs.own_len; rw [bcells_length] at this; omega
  have hsz : t.size = t.data.toList.length := by simp
  refine xcopy (n := t.size) (m := t.size) (vs := bcells t.data.toList) hok hs hp (by omega) hdl rfl ?_ ?_ ?_ (bcells_one _) ?_
  · have : t.size ≤ dl := by omega
    exact (Nat.min_eq_left this).symm
  · rw [first_str t t.size (Nat.le_refl _), List.take_of_length_le (by omega)]
  · rw [bcells_length, Nat.mul_one, hsz]
  · intro w' h
    rw [Nat.mul_one, splice_bytes] at h
    exact hk w' h

/-! ### Reading bytes as a text -/

def str (l : List UInt8) : ByteArray := ⟨l.toArray⟩

theorem str_toList (l : List UInt8) : (str l).data.toList = l := by simp [str]
theorem str_size (l : List UInt8) : (str l).size = l.length := by show l.toArray.size = _; simp
theorem str_data (s : ByteArray) : str s.data.toList = s := by cases s; simp [str]

theorem bytesAt_of {a : Addr} : ∀ (l : List UInt8) (i : Nat), (∀ j b, l[j]? = some b → w.cell? (a.add (i + j)) = some (.int .u8 b.toNat)) → bytesAt w a i l
  | [], _, _ => trivial
  | b :: l, i, h => ⟨h 0 b rfl, bytesAt_of l (i + 1) fun j c hc => by have := h (j + 1) c (by simpa using hc); rwa [show i + (j + 1) = i + 1 + j by omega] at this⟩

/-- A part of a slice of bytes, as a text. -/
theorem xbytes {s : Sl} {l : List UInt8} {p : Option Addr} {n k : Nat} {K : ByteArray → Prop} (hs : Sat W w (own 1 s (bcells l) :: L))
    (hp : ∀ b, s.a = some ⟨b, 0, none⟩ → k < s.cap → p = some ⟨b, k, none⟩) (hp0 : s.a = none → p = none) (hkn : k + n ≤ l.length) (hk0 : s.cap = k → p = s.a) (hk : K (str ((l.drop k).take n))) : XBytes p n w K := by
  refine ⟨_, ?_, hk⟩
  have hl : l.length = s.len := by have := hs.own_len; rw [bcells_length] at this; omega
  cases ha : s.a with
  | none =>
    rw [hp0 ha]
    rcases hs.open_own with ⟨_, h0, _⟩ | ⟨b, rest, ha', _⟩
    · have : (l.drop k).take n = [] := by
        have : l = [] := List.eq_nil_of_length_eq_zero (by omega)
        rw [this]; simp
      rw [this]
      rfl
    · rw [ha] at ha'; cases ha'
  | some a =>
    obtain ⟨b, rfl, hc⟩ := hs.own_cells ha
    by_cases hkc : k < s.cap
    · rw [hp b ha hkc]
      refine ⟨by rw [str_size]; simp; omega, ?_⟩
      rw [str_toList]
      refine bytesAt_of _ 0 fun j c hj => ?_
      rw [Addr.add_mk]
      refine hc _ _ ?_
      have : l[k + j]? = some c := by
        rw [List.getElem?_take] at hj
        split at hj
        · rw [List.getElem?_drop] at hj; exact hj
        · cases hj
      simp only [bcells, List.getElem?_map, Nat.zero_add]
      rw [show k + j = k + j from rfl, this]
      rfl
    · have hn : n = 0 := by
        rcases hs.open_own with ⟨h, _⟩ | ⟨b', rest, ha', h2, h3, h4, _⟩
        · rw [ha] at h; cases h
        · omega
      have hcap : s.cap = k := by
        rcases hs.open_own with ⟨h, _⟩ | ⟨b', rest, ha', h2, h3, h4, _⟩
        · rw [ha] at h; cases h
        · omega
      rw [hk0 hcap, ha, hn]
      exact ⟨rfl, trivial⟩

/-! ### A text's bytes as a slice -/

def okToBytes (P : Program) (t u : TypeId) : Bool :=
  match under P t, under P u with
  | some .string, some (.slice e) => match under P e with
    | some (.int .u8) => true
    | _ => false
  | _, _ => false

theorem okToBytes_spec {t u : TypeId} (h : okToBytes P t u = true) : ∃ e, P.underlying t = some .string ∧ P.underlying u = some (.slice e) ∧ P.underlying e = some (.int .u8) := by
  unfold okToBytes at h
  split at h
  · rename_i e h1 h2
    split at h
    · rename_i h3
      exact ⟨e, under_eq h1, under_eq h2, under_eq h3⟩
    · cases h
  · cases h

theorem Sat.refreeze {b : Nat} {cs : List Value} {w' : World} {t : TypeId} {lo hi : Nat} (hs : Sat W w (pts b cs :: L)) (h1 : w'.heap[b]? = some (.cells ⟨cs⟩ t (lo, hi))) (h2 : ∀ k, k ≠ b → w'.heap[k]? = w.heap[k]?)
    (hf : ∀ o, o < cs.length → (decide (lo ≤ o) && decide (o < hi)) = false) (ho : w'.os = w.os) (ht : w'.tape = w.tape) (hu : w'.output = w.output) (hz : w'.heap.size = w.heap.size) : Sat W w' (pts b cs :: L) := by
  obtain ⟨_, _, _, _, _, h3⟩ := hs.pts_heap
  obtain ⟨f, g, d, e, ⟨t', lo', hi', h1', _⟩, hb⟩ := hs.new
  obtain ⟨f', d', e', hf'⟩ := fresh_set (w := w) h3 w' h1 h2 f g d e _ h1'
  refine ⟨ho.trans hs.os, ht.trans hs.tape, hu.trans hs.output, by rw [hz]; exact hs.size, fun k hk => ?_, f', g, d', e', ⟨t, lo, hi, hf', hf⟩, hb⟩
  rw [h2 k (by omega)]
  exact hs.old k hk

theorem xtobytes {src dst : TypeId} {t : ByteArray} {K : Sl → World → Prop} (hok : okToBytes P src dst = true) (hs : Sat W w L)
    (hk : ∀ s w', Sat W w' (own 1 s (bcells t.data.toList) :: L) → s.len = t.size → K s w') : XDo P (convert src dst (.string t)) (.leaf .slice) w K := by
  obtain ⟨e, h1, h2, h3⟩ := okToBytes_spec hok
  let c := grownCap w t.size 0 e
  let cs := bcells t.data.toList ++ List.replicate (c - t.size) (Value.int .u8 0)
  have hcs : ((Array.map (fun b : UInt8 => Value.int .u8 b.toNat) t.data) ++ Array.replicate (c - t.size) (Value.int .u8 0)) = ⟨cs⟩ := by
    apply Array.ext'
    simp [cs, bcells]
  have hcap : t.size ≤ c := grownCap_ge w t.size 0 e
  have hsz : t.data.toList.length = t.size := by simp
  have hlen : cs.length = c := by simp [cs, bcells_length]; omega
  let w1 := w.drew.alloc (.cells ⟨cs⟩ e)
  have hw1 : w1.heap[w.heap.size]? = some (.cells ⟨cs⟩ e (0, 0)) := by
    show (w.heap.push _)[w.heap.size]? = _
    simp
  let w2 := w1.freeze { block := w.heap.size, off := cs.length } 1
  have hr : (convert src dst (.string t)).run P w = .ok (.slice (some ⟨w.heap.size, 0, none⟩) t.size c) w2 := by
    have hshape : w1.shape? w.heap.size = some (e, cs.length) := by simp [World.shape?, hw1]
    have hconv : convert src dst (.string t) = (do
        let d ← underlying src
        let d' ← underlying dst
        match d, d', Value.string t with
        | _, .int k, .int _ n => Conv.intToInt k n
        | _, .float k, .int _ n => Conv.intToFloat k n
        | _, .int k, .float s b => Conv.floatToInt s b k
        | _, .float k, .float s b => Conv.floatToFloat s b k
        | _, .complex k, .complex s a b => Conv.complexToComplex s a b k
        | _, .string, .int _ n => Conv.intToString n
        | _, .string, .string _ => pure (Value.string t)
        | _, .slice e, .string s =>
          match ← underlying e with
          | .int .u8 => Conv.stringToBytes e s
          | .int .i32 => Conv.stringToRunes e s
          | _ => stuck "Convert: string to a slice of what?"
        | .slice _, .slice e, .slice (some a) _ _ =>
          match src == dst, ← underlying e with
          | true, .int .u8 => do markStringish a; pure (Value.string t)
          | _, _ => unsupported (.noEntry "convert/other")
        | .slice e, .string, x =>
          match ← underlying e with
          | .int .u8 => Conv.bytesToString x
          | .int .i32 => Conv.runesToString x
          | _ => stuck "Convert: a slice of what to string?"
        | .unsafePointer, _, x | _, .unsafePointer, x => Conv.unsafePointer src dst x
        | .int _, _, .pointer (some _) => unsupported .addressObserved
        | _, _, _ => unsupported (.noEntry "convert/other")) := rfl
    rw [hconv]
    simp only [Sem.run_bind, run_underlying h1, run_underlying h2, run_underlying h3, Result.andThen]
    simp only [Conv.stringToBytes, Sem.run_bind, run_choose, Question.forced, Bool.false_eq_true, if_false, Result.andThen]
    have hc' : (Question.appendCap t.size 0 e).cut (w.tape w.drawn (.appendCap t.size 0 e)) = c := rfl
    simp only [hc', hcs, run_newRow, markStringish, Sem.run_bind, run_shape, Result.andThen]
    have hsame : (World.alloc { w with drawn := w.drawn + 1 } (.cells ⟨cs⟩ e)) = w1 := rfl
    simp only [hsame, hshape, run_freeze, Sem.run_pure]
    rfl
  have hs1 : Sat W w1 (pts w.heap.size cs :: L) := hs.drew.new_block
  have hs2 : Sat W w2 (pts w.heap.size cs :: L) := by
    refine hs1.refreeze (t := e) (lo := cs.length) (hi := cs.length + 1) ?_ (fun k hk => ?_) (fun o ho => ?_) rfl rfl rfl ?_
    · simp [w2, World.freeze, Array.getElem?_modify, hw1]
    · simp [w2, World.freeze, Array.getElem?_modify, Ne.symm hk]
    · simp; omega
    · simp [w2, World.freeze]
  refine ⟨⟨some ⟨w.heap.size, 0, none⟩, t.size, c⟩, w2, hr, hk _ _ ?_ rfl⟩
  refine Sat.shut_own rfl ?_ ?_ hcap hs2
  · rw [bcells_length, hsz, Nat.mul_one]
  · rw [Nat.mul_one]; exact hlen

end
end Go.X
