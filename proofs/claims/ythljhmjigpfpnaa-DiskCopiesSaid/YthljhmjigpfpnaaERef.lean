/- The document's device in memory; its small calls. -/
import Derived.Test.YthljhmjigpfpnaaDCopy
namespace Go.X
open Go.Proofs

def rcells (f : DF) : List Value := [.int .i64 f.id, .string f.name, .string (str f.last), .string (str f.seen)]
def vcells (p : DW) : List Value := [.int .i64 p.id, .int .i64 (p.at_ : Nat), .string (str p.text)]

/-- The document's device: its files in the order in which they were made. -/
def RefP (q : Nat) (R : DD) : SP := ex fun (g : Sl × Sl) => all [pts q [.slice g.1.a g.1.len g.1.cap, .slice g.2.a g.2.len g.2.cap, .int .i64 R.most, .int .i64 R.fuse, .bool R.off, .int .i64 R.count, .int .i64 R.made],
  own 4 g.1 (R.files.flatMap rcells), own 3 g.2 (R.wait.flatMap vcells)]

section
variable {W w : World} {L : List SP} {q : Nat} {R : DD}

theorem RefP.open (hs : Sat W w (RefP q R :: L)) : ∃ fs ws : Sl, Sat W w (pts q [.slice fs.a fs.len fs.cap, .slice ws.a ws.len ws.cap, .int .i64 R.most, .int .i64 R.fuse, .bool R.off, .int .i64 R.count, .int .i64 R.made] ::
    own 4 fs (R.files.flatMap rcells) :: own 3 ws (R.wait.flatMap vcells) :: L) := by
  obtain ⟨⟨fs, ws⟩, h⟩ := hs.open_ex
  exact ⟨fs, ws, h.open_all⟩

theorem RefP.shut {fs ws : Sl} (hs : Sat W w (pts q [.slice fs.a fs.len fs.cap, .slice ws.a ws.len ws.cap, .int .i64 R.most, .int .i64 R.fuse, .bool R.off, .int .i64 R.count, .int .i64 R.made] ::
    own 4 fs (R.files.flatMap rcells) :: own 3 ws (R.wait.flatMap vcells) :: L)) : Sat W w (RefP q R :: L) :=
  Sat.shut_ex (fs, ws) (Sat.shut_all (As := [_, _, _]) hs)

theorem rcells_len (l : List DF) : (l.flatMap rcells).length = l.length * 4 := by
  induction l with
  | nil => rfl
  | cons f l ih => rw [List.flatMap_cons, List.length_append, ih]; simp [rcells]; omega

theorem vcells_len (l : List DW) : (l.flatMap vcells).length = l.length * 3 := by
  induction l with
  | nil => rfl
  | cons f l ih => rw [List.flatMap_cons, List.length_append, ih]; simp [vcells]; omega

theorem rget : ∀ (l : List DF) (k j : Nat) (f : DF) (v : Value), l[k]? = some f → (rcells f)[j]? = some v → (l.flatMap rcells)[k * 4 + j]? = some v
  | g :: l, 0, j, f, v, h, hv => by
    simp at h; subst h
    have hj : j < 4 := by have := (List.getElem?_eq_some_iff.1 hv).1; simpa [rcells] using this
    simp only [List.flatMap_cons, Nat.zero_mul, Nat.zero_add]
    rw [List.getElem?_append_left (by simpa [rcells] using hj)]
    exact hv
  | g :: l, k + 1, j, f, v, h, hv => by
    have := rget l k j f v (by simpa using h) hv
    simp only [List.flatMap_cons]
    rw [List.getElem?_append_right (by simp [rcells]; omega), ← this]
    congr 1
    simp [rcells]; omega

theorem vget : ∀ (l : List DW) (k j : Nat) (p : DW) (v : Value), l[k]? = some p → (vcells p)[j]? = some v → (l.flatMap vcells)[k * 3 + j]? = some v
  | g :: l, 0, j, f, v, h, hv => by
    simp at h; subst h
    have hj : j < 3 := by have := (List.getElem?_eq_some_iff.1 hv).1; simpa [vcells] using this
    simp only [List.flatMap_cons, Nat.zero_mul, Nat.zero_add]
    rw [List.getElem?_append_left (by simpa [vcells] using hj)]
    exact hv
  | g :: l, k + 1, j, f, v, h, hv => by
    have := vget l k j f v (by simpa using h) hv
    simp only [List.flatMap_cons]
    rw [List.getElem?_append_right (by simp [vcells]; omega), ← this]
    congr 1
    simp [vcells]; omega

/-- Reading a field of an element. -/
theorem xfield {l : Leaf} {sz o : Nat} {s : Sl} {xs : List Value} {i : Int} {n : Nat} {K : Addr → l.T → Prop} (hs : Sat W w (own sz s xs :: L)) (k : Nat) (hi : i = k) (hlt : k < s.len) (hn : n = k * sz) {x : l.T}
    (hx : xs[k * sz + o]? = some (l.mk x)) (hk : ∀ a, s.a = some a → K a x) : XNil s.a fun a => ((0 : Int) ≤ i ∧ i < ((s.len : Nat) : Int)) ∧ XLoad l (Addr.add (Addr.add a n) o) w (K a) := by
  obtain ⟨b, hb, hc⟩ := hs.own_some (by omega)
  have hk' := hk
  rw [hb]
  refine ⟨by omega, x, ?_, hk' _ hb⟩
  rw [Addr.add_mk, Addr.add_mk, Nat.zero_add, hn]
  exact hc _ _ hx

/-- Reading an element's first field. -/
theorem xfield0 {l : Leaf} {sz : Nat} {s : Sl} {xs : List Value} {i : Int} {n : Nat} {K : Addr → l.T → Prop} (hs : Sat W w (own sz s xs :: L)) (k : Nat) (hi : i = k) (hlt : k < s.len) (hn : n = k * sz) {x : l.T}
    (hx : xs[k * sz]? = some (l.mk x)) (hk : ∀ a, s.a = some a → K a x) : XNil s.a fun a => ((0 : Int) ≤ i ∧ i < ((s.len : Nat) : Int)) ∧ XLoad l (Addr.add a n) w (K a) := by
  obtain ⟨b, hb, hc⟩ := hs.own_some (by omega)
  have hk' := hk
  rw [hb]
  refine ⟨by omega, x, ?_, hk' _ hb⟩
  rw [Addr.add_mk, Nat.zero_add, hn]
  exact hc _ _ hx

/-- Writing a field of an element. -/
theorem xsetf {sz o : Nat} {s : Sl} {xs : List Value} {v : Value} {i : Int} {n : Nat} {K : Addr → World → Prop} (hs : Sat W w (own sz s xs :: L)) (k : Nat) (hi : i = k) (hlt : k < s.len) (hn : n = k * sz) (ho : o < sz)
    (hk : ∀ a w', Sat W w' (own sz s (xs.set (k * sz + o) v) :: L) → K a w') : XNil s.a fun a => ((0 : Int) ≤ i ∧ i < ((s.len : Nat) : Int)) ∧ XStore (Addr.add (Addr.add a n) o) v w (K a) := by
  rcases hs.open_own with ⟨_, h0, _⟩ | ⟨b, rest, ha, hl, hc, hlc, hs'⟩
  · omega
  · have hfit : k * sz + o < xs.length := by
      rw [hl]
      have : (k + 1) * sz ≤ s.len * sz := Nat.mul_le_mul_right _ hlt
      rw [Nat.succ_mul] at this
      omega
    rw [ha]
    refine ⟨by omega, xstore hs' (k * sz + o) (by rw [Addr.add_mk, Addr.add_mk, Nat.zero_add, hn]) (by rw [List.length_append]; omega) fun w' h => hk _ w' ?_⟩
    rw [set_append_left' xs rest _ v hfit] at h
    exact Sat.shut_own ha (by rw [List.length_set]; exact hl) (by rw [List.length_append, List.length_set, ← List.length_append]; exact hc) hlc h

theorem rset : ∀ (l : List DF) (k o : Nat) (f g : DF) (v : Value), l[k]? = some f → o < 4 → (rcells f).set o v = rcells g → (l.flatMap rcells).set (k * 4 + o) v = (l.set k g).flatMap rcells
  | h :: l, 0, o, f, g, v, hf, ho, hg => by
    simp at hf; subst hf
    rw [List.flatMap_cons, Nat.zero_mul, Nat.zero_add, List.set_append_left _ _ (by simpa [rcells] using ho), hg]
    rfl
  | h :: l, k + 1, o, f, g, v, hf, ho, hg => by
    rw [List.flatMap_cons, List.set_append_right _ _ (by simp [rcells]; omega), List.set_cons_succ, List.flatMap_cons, ← rset l k o f g v (by simpa using hf) ho hg]
    congr 2
    simp [rcells]; omega

/-! ### Finding -/

/-- The place of the first file of a name. -/
def findR (name : ByteArray) : List DF → Option Nat
  | [] => none
  | f :: fs => if f.name = name then some 0 else (findR name fs).map (· + 1)

def findZ (name : ByteArray) (fs : List DF) : Int := match findR name fs with
  | some k => k
  | none => -1

theorem findR_none : ∀ {fs : List DF} {name : ByteArray}, (∀ f ∈ fs, f.name ≠ name) → findR name fs = none
  | [], _, _ => rfl
  | f :: fs, name, h => by
    rw [findR, if_neg (h f List.mem_cons_self), findR_none fun g hg => h g (List.mem_cons_of_mem _ hg)]
    rfl

theorem findR_some : ∀ {fs : List DF} {name : ByteArray} {k : Nat} {f : DF}, fs[k]? = some f → f.name = name → (∀ j g, j < k → fs[j]? = some g → g.name ≠ name) → findR name fs = some k
  | g :: fs, name, 0, f, h, hn, _ => by
    simp at h; subst h
    rw [findR, if_pos hn]
  | g :: fs, name, k + 1, f, h, hn, hb => by
    rw [findR, if_neg (hb 0 g (by omega) rfl), findR_some (k := k) (by simpa using h) hn fun j x hj hx => hb (j + 1) x (by omega) (by simpa using hx)]
    rfl

theorem sEq_iff (a b : ByteArray) : sEq a b = decide (a = b) := by
  have := sEq_str a.data.toList b.data.toList
  rw [str_data, str_data] at this
  rw [this]
  by_cases h : a = b
  · simp [h]
  · have : a.data.toList ≠ b.data.toList := fun e => h (bytes_ext e)
    simp [h, this]

theorem findZ_spec {name : ByteArray} (hs : Sat W w (RefP q R :: L)) (hn : R.files.length ≤ 2 ^ 30) :
    Ret Try.prog F.barqueref14_Disk_find [ptr q, .string name] w fun v w' => v = .int .i64 (findZ name R.files) ∧ w' = w := by
  refine S.barqueref14_Disk_find_ok _ _ _ _ ?_
  obtain ⟨fs, ws, h⟩ := RefP.open hs
  have hfl : R.files.length = fs.len := by have := (h.bring 1).own_len; rw [rcells_len] at this; omega
  refine xloop (fun (st : Int × Int × Unit) w' => ∃ i : Nat, st = (0, (i : Int), ()) ∧ i ≤ R.files.length ∧ (∀ j g, j < i → R.files[j]? = some g → g.name ≠ name) ∧ w' = w)
    (fun st => ((fs.len : Int) - st.2.1).toNat) ⟨0, rfl, Nat.zero_le _, fun j g h => by omega, rfl⟩ ?_
  rintro next _ w' ⟨i, rfl, hi, hno, rfl⟩ hnext
  refine xnil (xload h 0 rfl rfl ?_)
  by_cases hlt : i < R.files.length
  · obtain ⟨f, hf⟩ : ∃ f, R.files[i]? = some f := ⟨_, List.getElem?_eq_getElem hlt⟩
    refine XIf.yes (decide_eq_true (show (i : Int) < (fs.len : Int) by omega)) (xnil (xload h 0 rfl rfl (xfield (l := .str) (sz := 4) (h.bring 1) i rfl (by (try dsimp only); omega) (by rw [Int.toNat_natCast]) (x := f.name) (rget R.files i 1 f _ hf rfl) fun a _ => ?_)))
    by_cases he : f.name = name
    · refine XIf.yes (by rw [sEq_iff]; simpa using he) ⟨?_, rfl⟩
      have : findZ name R.files = i := by unfold findZ; rw [findR_some hf he hno]
      rw [this]
    · refine XIf.no (by rw [sEq_iff]; simpa using he) (xlet ((i + 1 : Nat) : Int) (by dsimp only; rw [wi (by omega) (by omega)]; omega) (hnext _ _ ⟨i + 1, rfl, hlt, fun j g hj hg => ?_, rfl⟩ (by dsimp only; omega)))
      by_cases hji : j < i
      · exact hno j g hji hg
      · have : j = i := by omega
        subst this
        rw [hf] at hg; cases hg; exact he
  · refine XIf.no (decide_eq_false (show ¬ (i : Int) < (fs.len : Int) by omega)) ⟨?_, rfl⟩
    have : findZ name R.files = -1 := by
      unfold findZ
      rw [findR_none fun f hf => by
        obtain ⟨j, hj⟩ := List.getElem?_of_mem hf
        exact hno j f (by have := (List.getElem?_eq_some_iff.1 hj).1; omega) hj]
    rw [this]

theorem taken_spec (n : Nat) (hn : n ≤ 2 ^ 60) : Ret Try.prog F.barqueref14_taken [.int .i64 n] w fun v w' => v = .int .i64 (secs n) ∧ w' = w := by
  refine S.barqueref14_taken_ok _ _ _ (xlet ((n + 63 : Nat) : Int) (by rw [wi (by omega) (by omega)]; omega) ⟨by decide, xlet (secs n : Int) (by rw [tdiv64, wi (by omega) (by omega)]; rfl) ⟨rfl, rfl⟩⟩)

theorem takes_spec (f : DF) (h1 : f.seen.length ≤ 2097152) (h2 : f.last.length ≤ 2097152) (hs : Sat W w L) : Ret Try.prog F.barqueref14_takes [.agg ⟨rcells f⟩] w fun v w' => v = .int .i64 f.takes ∧ Sat W w' L := by
  refine S.barqueref14_takes_ok (f.id, f.name, str f.last, str f.seen, ()) _ _ (xnew hs fun b w1 h => ?_)
  have e1 : (str f.seen).size = f.seen.length := str_size _
  have e2 : (str f.last).size = f.last.length := str_size _
  refine xload h 3 rfl rfl (xload h 2 rfl rfl ?_)
  by_cases hgt : f.last.length < f.seen.length
  · refine XIf.yes (decide_eq_true (by rw [e1, e2]; omega)) (xload h 3 rfl rfl (xcall_eq (by rw [e1]; exact taken_spec _ (by omega)) (secs f.seen.length : Int) rfl ⟨?_, h.drop⟩))
    unfold DF.takes; rw [Nat.max_eq_left (by omega)]
  · refine XIf.no (decide_eq_false (by rw [e1, e2]; omega)) (xload h 2 rfl rfl (xcall_eq (by rw [e2]; exact taken_spec _ (by omega)) (secs f.last.length : Int) rfl ⟨?_, h.drop⟩))
    unfold DF.takes; rw [Nat.max_eq_right (by omega)]

end
end Go.X
