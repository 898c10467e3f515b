/- Slices that own their blocks: what append, copy, make and the like do to them. -/
import Derived.Test.YtmbiffmfcloepaaGreatDoorXSep
import Derived.Laws.AppendOwn
import Derived.Laws.MakeOwn
namespace Go.X

section
variable {P : Program} {W w : World} {L : List SP}

/-- A slice that has its block for itself: 's.len' elements of 'sz' cells each: the cells 'xs'. -/
def own (sz : Nat) (s : Sl) (xs : List Value) : SP := fun h =>
  (s.a = none ∧ s.len = 0 ∧ s.cap = 0 ∧ xs = []) ∨
  ∃ b rest, s.a = some ⟨b, 0, none⟩ ∧ xs.length = s.len * sz ∧ (xs ++ rest).length = s.cap * sz ∧ s.len ≤ s.cap ∧ pts b (xs ++ rest) h

theorem Sat.open_own {sz : Nat} {s : Sl} {xs : List Value} (hs : Sat W w (own sz s xs :: L)) :
    (s.a = none ∧ s.len = 0 ∧ s.cap = 0 ∧ xs = [] ∧ Sat W w L) ∨
    ∃ b rest, s.a = some ⟨b, 0, none⟩ ∧ xs.length = s.len * sz ∧ (xs ++ rest).length = s.cap * sz ∧ s.len ≤ s.cap ∧ Sat W w (pts b (xs ++ rest) :: L) := by
  obtain ⟨f, g, d, e, h, hb⟩ := hs.new
  rcases h with ⟨h1, h2, h3, h4⟩ | ⟨b, rest, h1, h2, h3, h4, h5⟩
  · exact .inl ⟨h1, h2, h3, h4, hs.drop⟩
  · exact .inr ⟨b, rest, h1, h2, h3, h4, hs.os, hs.tape, hs.output, hs.size, hs.old, f, g, d, e, h5, hb⟩

theorem Sat.shut_own {sz : Nat} {s : Sl} {xs : List Value} {b : Nat} {rest : List Value} (ha : s.a = some ⟨b, 0, none⟩) (hl : xs.length = s.len * sz) (hc : (xs ++ rest).length = s.cap * sz) (hlc : s.len ≤ s.cap)
    (hs : Sat W w (pts b (xs ++ rest) :: L)) : Sat W w (own sz s xs :: L) :=
  hs.head fun _ h => .inr ⟨b, rest, ha, hl, hc, hlc, h⟩

theorem Sat.own_nil {sz : Nat} (hs : Sat W w L) : Sat W w (own sz ⟨none, 0, 0⟩ [] :: L) := hs.add_emp.head fun _ _ => .inl ⟨rfl, rfl, rfl, rfl⟩

theorem Sat.own_len {sz : Nat} {s : Sl} {xs : List Value} (hs : Sat W w (own sz s xs :: L)) : xs.length = s.len * sz := by
  rcases hs.open_own with ⟨_, h, _, rfl, _⟩ | ⟨_, _, _, h, _⟩
  · rw [h, Nat.zero_mul]; rfl
  · exact h

theorem Sat.own_cells {sz : Nat} {s : Sl} {xs : List Value} (hs : Sat W w (own sz s xs :: L)) {a : Addr} (ha : s.a = some a) :
    ∃ b, a = ⟨b, 0, none⟩ ∧ ∀ j v, xs[j]? = some v → w.cell? ⟨b, j, none⟩ = some v := by
  rcases hs.open_own with ⟨h, _⟩ | ⟨b, rest, h, _, _, _, h'⟩
  · rw [h] at ha; cases ha
  · rw [h] at ha; cases ha
    refine ⟨b, rfl, fun j v hj => h'.cell ?_⟩
    rw [List.getElem?_append_left (List.getElem?_eq_some_iff.1 hj).1]
    exact hj

theorem Sat.own_some {sz : Nat} {s : Sl} {xs : List Value} (hs : Sat W w (own sz s xs :: L)) (h : 0 < s.len) : ∃ b, s.a = some ⟨b, 0, none⟩ ∧ ∀ j v, xs[j]? = some v → w.cell? ⟨b, j, none⟩ = some v := by
  rcases hs.open_own with ⟨_, h0, _⟩ | ⟨b, rest, ha, _⟩
  · omega
  · obtain ⟨b', hb, hc⟩ := hs.own_cells ha
    exact ⟨b', by rw [ha, hb], hc⟩

/-! ### Elements of one cell -/

/-- Reading an element. -/
theorem xelem {l : Leaf} {s : Sl} {xs : List Value} {i : Int} {n : Nat} {K : Addr → l.T → Prop} (hs : Sat W w (own 1 s xs :: L)) (k : Nat) (hi : i = k) {x : l.T} (hx : readL l xs k = some x) (hn : n = k) (hk : ∀ a, K a x) :
    XNil s.a fun a => ((0 : Int) ≤ i ∧ i < ((s.len : Nat) : Int)) ∧ XLoad l (Addr.add a n) w (K a) := by
  have hx' := readL_mk hx
  have hlt := (List.getElem?_eq_some_iff.1 hx').1
  have hlen := hs.own_len
  obtain ⟨b, hb, hc⟩ := hs.own_some (by omega)
  rw [hb]
  refine ⟨by omega, x, ?_, hk _⟩
  rw [Addr.add_mk, Nat.zero_add, hn]
  exact hc k _ hx'

theorem set_append_left' {α : Type} (xs ys : List α) (k : Nat) (v : α) (h : k < xs.length) : (xs ++ ys).set k v = xs.set k v ++ ys := by
  rw [List.set_append_left k v h]

/-- Writing an element. -/
theorem xput {v : Value} {s : Sl} {xs : List Value} {i : Int} {n : Nat} {K : Addr → World → Prop} (hs : Sat W w (own 1 s xs :: L)) (k : Nat) (hi : i = k) (hlt : k < s.len) (hn : n = k)
    (hk : ∀ a w', Sat W w' (own 1 s (xs.set k v) :: L) → K a w') : XNil s.a fun a => ((0 : Int) ≤ i ∧ i < ((s.len : Nat) : Int)) ∧ XStore (Addr.add a n) v w (K a) := by
  rcases hs.open_own with ⟨_, h0, _⟩ | ⟨b, rest, ha, hl, hc, hlc, hs'⟩
  · omega
  · rw [ha]
    refine ⟨by omega, xstore hs' k (by rw [Addr.add_mk, Nat.zero_add, hn]) (by rw [List.length_append]; omega) fun w' hw => hk _ w' ?_⟩
    rw [set_append_left' xs rest k v (by omega)] at hw
    exact Sat.shut_own ha (by rw [List.length_set]; exact hl) (by rw [List.length_append, List.length_set, ← List.length_append]; exact hc) hlc hw

/-! ### Rows of cells -/

def splice (cs : List Value) (k : Nat) (vs : List Value) : List Value := cs.take k ++ vs ++ cs.drop (k + vs.length)

theorem splice_nil (cs : List Value) (k : Nat) : splice cs k [] = cs := by simp [splice]

theorem splice_length {cs vs : List Value} {k : Nat} (h : k + vs.length ≤ cs.length) : (splice cs k vs).length = cs.length := by
  simp [splice]; omega

theorem splice_cons (cs vs : List Value) (k : Nat) (v : Value) (h : k < cs.length) : splice cs k (v :: vs) = splice (cs.set k v) (k + 1) vs := by
  unfold splice
  have h1 : (cs.set k v).take (k + 1) = cs.take k ++ [v] := by
    rw [List.take_succ_eq_append_getElem (by simpa using h), List.take_set_of_le (Nat.le_refl _), List.getElem_set_self]
  rw [h1, List.drop_set_of_lt (by omega)]
  simp only [List.length_cons, List.append_assoc, List.singleton_append]
  rw [show k + (vs.length + 1) = k + 1 + vs.length by omega]

theorem xstores {b o : Nat} {K : World → Prop} : ∀ (vs : List Value) (i : Nat) (w : World) (cs : List Value), Sat W w (pts b cs :: L) → o + i + vs.length ≤ cs.length →
    (∀ w', Sat W w' (pts b (splice cs (o + i) vs) :: L) → K w') → XStores ⟨b, o, none⟩ i vs w K
  | [], i, w, cs, hs, _, hk => hk w (by rw [splice_nil]; exact hs)
  | v :: vs, i, w, cs, hs, hl, hk => by
    simp only [List.length_cons] at hl
    refine xstore hs (o + i) (Addr.add_mk _ _ _) (by omega) fun w' hw => ?_
    refine xstores vs (i + 1) w' _ hw (by rw [List.length_set]; omega) fun w'' hw' => hk w'' ?_
    rw [splice_cons cs vs (o + i) v (by omega)]
    exact hw'

def allOneL (vs : List Value) : Prop := allOne vs = true

/-- The cells that a slice of that many elements has. -/
def Reads (w : World) (s : Sl) (vs : List Value) : Prop := ∀ a, s.a = some a → ∀ j v, vs[j]? = some v → w.cell? (a.add j) = some v

theorem reads_own {sz : Nat} {s : Sl} {xs : List Value} (hs : Sat W w (own sz s xs :: L)) : Reads w s xs := by
  intro a ha j v hj
  obtain ⟨b, rfl, hc⟩ := hs.own_cells ha
  rw [Addr.add_mk, Nat.zero_add]
  exact hc j v hj

theorem reads_pts {b n c : Nat} {cs : List Value} (hs : Sat W w (pts b cs :: L)) : Reads w ⟨some ⟨b, 0, none⟩, n, c⟩ cs := by
  intro a ha j v hj
  cases ha
  rw [Addr.add_mk, Nat.zero_add]
  exact hs.cell hj

theorem run_first {sz n : Nat} {s : Sl} {vs : List Value} (hr : Reads w s vs) (hl : vs.length = n * sz) (h0 : s.a = none → vs = []) (len cap : Nat) :
    (Builtin.firstCells sz n (.slice s.a len cap)).run P w = .ok ⟨vs⟩ w := by
  cases ha : s.a with
  | none => rw [h0 ha]; simp [Builtin.firstCells]
  | some a =>
    have := run_loadCells_list (P := P) w a vs (hr a ha)
    simp only [Builtin.firstCells, ← hl]
    rw [this]

/-- The closed facts that an append asks of the types. -/
def okApp (P : Program) (t u : TypeId) (sz : Nat) : Bool :=
  match under P t, under P u with
  | some (.slice e), some (.slice _) => match ti P e with
    | some i => Nat.beq i.size sz && Nat.ble i.bytes 128 && (match i.zero with
      | some z => Nat.beq z.cells.size sz
      | none => false)
    | none => false
  | _, _ => false

theorem okApp_spec {t u : TypeId} {sz : Nat} (h : okApp P t u sz = true) : ∃ e e' i z, P.underlying t = some (.slice e) ∧ P.underlying u = some (.slice e') ∧ P.info? e = some i ∧ i.size = sz ∧ i.bytes ≤ 128 ∧ i.zero = some z ∧ z.cells.size = sz := by
  unfold okApp at h
  split at h
  · rename_i e e' h1 h2
    split at h
    · rename_i i hi
      simp only [Bool.and_eq_true] at h
      obtain ⟨⟨h3, h4⟩, h5⟩ := h
      split at h5
      · rename_i z hz
        exact ⟨e, e', i, z, under_eq h1, under_eq h2, ti_info hi, Nat.eq_of_beq_eq_true h3, Nat.le_of_ble_eq_true h4, hz, Nat.eq_of_beq_eq_true h5⟩
      · cases h5
    · cases h
  · cases h

theorem run_size' {t : TypeId} {i : TypeInfo} (h : P.info? t = some i) (w : World) : (sizeOf t).run P w = .ok i.size w := by
  simp [sizeOf, typeInfo, h]

theorem run_info' {t : TypeId} {i : TypeInfo} (h : P.info? t = some i) (w : World) : (typeInfo t).run P w = .ok i w := by
  simp [typeInfo, h]

theorem run_zero' {t : TypeId} {i : TypeInfo} {z : Value} (h : P.info? t = some i) (hz : i.zero = some z) (w : World) : (zeroValue t).run P w = .ok z w := by
  simp [zeroValue, typeInfo, h, hz]

/-- Where an append grows: a new block. -/
theorem run_append_new {t u ty e e' : TypeId} {i : TypeInfo} {z : Value} (ht : P.underlying t = some (.slice e)) (hu : P.underlying u = some (.slice e')) (hi : P.info? e = some i) (hz : i.zero = some z) (hb : i.bytes ≤ 128)
    {s x : Sl} {olds news : List Value} (hro : Reads w s olds) (hrn : Reads w x news) (hlo : olds.length = s.len * i.size) (hln : news.length = x.len * i.size) (ho0 : s.a = none → olds = []) (hn0 : x.a = none → news = [])
    (hg : s.cap < s.len + x.len) (hsz : s.len + x.len ≤ 2 ^ 40) :
    (Builtin.append_ #[t, u] ty ⟨[.slice s.a s.len s.cap, .slice x.a x.len x.cap]⟩).run P w =
      .ok (.slice (some ⟨w.heap.size, 0, none⟩) (s.len + x.len) (grownCap w (s.len + x.len) s.cap e))
        (w.drew.alloc (.cells ⟨olds ++ news ++ (Builtin.zeroCells z.cells (grownCap w (s.len + x.len) s.cap e - (s.len + x.len))).toList⟩ e)) := by
  have hn : ¬ (s.len + x.len ≤ s.cap) := by omega
  have h63' : ¬ (9223372036854775807 < ((s.len : Int) + (x.len : Int))) := by omega
  have hfit : Builtin.nextslicecap (s.len + x.len) s.cap * i.bytes ≤ 281474976710656 := growslice_fits hg (Nat.le_trans (Nat.mul_le_mul hsz hb) (by decide))
  have h48' : ¬ (281474976710656 < Builtin.nextslicecap (s.len + x.len) s.cap * i.bytes) := by omega
  have hfo := run_first (P := P) (w := w.drew) (sz := i.size) (n := s.len) (s := s) (vs := olds) hro hlo ho0 s.len s.cap
  have hfn := run_first (P := P) (w := w.drew) (sz := i.size) (n := x.len) (s := x) (vs := news) hrn hln hn0 x.len x.cap
  simp [Builtin.append_, run_underlying ht, run_underlying hu, run_size' hi, run_info' hi, run_zero' hi hz, Builtin.lenOf, hn, h63', h48', Question.forced, hfo, hfn, newRow, grownCap]
  congr 2
  apply Array.ext'
  simp

theorem zeroCells_length (z : Array Value) (n : Nat) : (Builtin.zeroCells z n).toList.length = n * z.size := by simp [Builtin.zeroCells]

theorem oneCell_of_allOne : ∀ {vs : List Value}, allOne vs = true → ∀ v ∈ vs, oneCell v = true
  | u :: us, h, v, hv => by
    simp only [allOne] at h
    split at h
    · rename_i hu
      rcases List.mem_cons.1 hv with e | e
      · rw [e]; exact hu
      · exact oneCell_of_allOne h v e
    · cases h

/-- **append** to a slice that has its block for itself. -/
theorem xappend {t u ty : TypeId} {sz : Nat} {s x : Sl} {xs news : List Value} {K : Sl → World → Prop} (hok : okApp P t u sz = true) (hs : Sat W w (own sz s xs :: L))
    (hrn : Reads w x news) (hln : news.length = x.len * sz) (hn0 : x.a = none → news = []) (h1 : allOne news = true) (hsz : s.len + x.len ≤ 2 ^ 40)
    (hk : ∀ s' w', Sat W w' (own sz s' (xs ++ news) :: L) → s'.len = s.len + x.len → K s' w') :
    XDo P (Builtin.append_ #[t, u] ty ⟨[.slice s.a s.len s.cap, .slice x.a x.len x.cap]⟩) (.leaf .slice) w K := by
  obtain ⟨e, e', i, z, ht, hu, hi, rfl, hb, hz, hzs⟩ := okApp_spec hok
  have grow : s.cap < s.len + x.len → (s.a = none → xs = []) → Reads w s xs → xs.length = s.len * i.size → XDo P (Builtin.append_ #[t, u] ty ⟨[.slice s.a s.len s.cap, .slice x.a x.len x.cap]⟩) (.leaf .slice) w K := by
    intro hg ho0 hro hlo
    have hr := run_append_new (P := P) (ty := ty) ht hu hi hz hb hro hrn hlo hln ho0 hn0 hg hsz
    refine ⟨⟨some ⟨w.heap.size, 0, none⟩, s.len + x.len, grownCap w (s.len + x.len) s.cap e⟩, _, hr, hk _ _ ?_ rfl⟩
    have hnew := (hs.drop.drew).new_block (cs := xs ++ news ++ (Builtin.zeroCells z.cells (grownCap w (s.len + x.len) s.cap e - (s.len + x.len))).toList) (t := e)
    have hcap := grownCap_ge w (s.len + x.len) s.cap e
    refine Sat.shut_own rfl ?_ ?_ hcap hnew
    · rw [List.length_append, hlo, hln, Nat.add_mul]
    · simp only [List.length_append, zeroCells_length, hzs, hlo, hln, ← Nat.add_mul]
      congr 1
      omega
  rcases hs.open_own with ⟨ha, hl, hc, hx, hs'⟩ | ⟨b, rest, ha, hl, hc, hlc, hs'⟩
  · by_cases h0 : x.len = 0
    · -- nothing to nothing
      have hn : news = [] := List.eq_nil_of_length_eq_zero (by rw [hln, h0, Nat.zero_mul])
      have hf := run_first (P := P) (w := w) (sz := i.size) (n := x.len) (s := x) (vs := news) hrn hln hn0 x.len x.cap
      rw [h0] at hf
      have hr : (Builtin.append_ #[t, u] ty ⟨[.slice s.a s.len s.cap, .slice x.a x.len x.cap]⟩).run P w = .ok (.slice none 0 0) w := by
        rw [ha, hl, hc, h0]
        simp [Builtin.append_, run_underlying ht, run_underlying hu, run_size' hi, run_info' hi, Builtin.lenOf, hf]
      refine ⟨⟨none, 0, 0⟩, w, hr, hk _ _ ?_ (by simp [hl, h0])⟩
      rw [hx, hn]
      exact hs'.own_nil
    · exact grow (by omega) (fun _ => hx) (fun a h => by rw [ha] at h; cases h) (by rw [hx, hl, Nat.zero_mul]; rfl)
  · by_cases hroom : s.len + x.len ≤ s.cap
    · have hf := run_first (P := P) (w := w) (sz := i.size) (n := x.len) (s := x) (vs := news) hrn hln hn0 x.len x.cap
      have hfit : s.len * i.size + news.length ≤ (xs ++ rest).length := by
        rw [hc, hln, ← Nat.add_mul]; exact Nat.mul_le_mul_right _ hroom
      have hst := xstores (W := W) (L := L) (b := b) (o := s.len * i.size) (K := fun w' => Sat W w' (pts b (splice (xs ++ rest) (s.len * i.size) news) :: L)) news 0 w _ hs' (by simpa using hfit) (fun w' h => by simpa using h)
      obtain ⟨w', hr, hw⟩ := run_stores (P := P) news 0 w h1 hst
      have hr' : (Builtin.append_ #[t, u] ty ⟨[.slice s.a s.len s.cap, .slice x.a x.len x.cap]⟩).run P w = .ok (.slice (some ⟨b, 0, none⟩) (s.len + x.len) s.cap) w' := by
        rw [ha]
        simp [Builtin.append_, run_underlying ht, run_underlying hu, run_size' hi, Builtin.lenOf, hroom, hf, Addr.add_mk, hr]
      refine ⟨⟨some ⟨b, 0, none⟩, s.len + x.len, s.cap⟩, w', hr', hk _ _ ?_ rfl⟩
      have hsp : splice (xs ++ rest) (s.len * i.size) news = (xs ++ news) ++ rest.drop news.length := by
        unfold splice
        rw [← hl, List.take_left, List.drop_append, List.drop_eq_nil_of_le (by omega), List.nil_append]
        congr 2
        omega
      rw [hsp] at hw
      refine Sat.shut_own rfl ?_ ?_ hroom hw
      · rw [List.length_append, hl, hln, Nat.add_mul]
      · rw [← hsp, splice_length hfit, hc]
    · exact grow (by omega) (fun h => by rw [ha] at h; cases h) (reads_own hs) hl

/-- **append** of one element. -/
theorem xappend1 {t u ty T : TypeId} {sz : Nat} {s : Sl} {xs cs : List Value} {K : Addr → Sl → World → Prop} (hok : okApp P t u sz = true) (hs : Sat W w (own sz s xs :: L)) (hl : cs.length = sz) (h1 : allOne cs = true) (hsz : s.len + 1 ≤ 2 ^ 40)
    (hk : ∀ a s' w', Sat W w' (own sz s' (xs ++ cs) :: L) → s'.len = s.len + 1 → K a s' w') :
    XNew T cs w fun a w1 => XDo P (Builtin.append_ #[t, u] ty ⟨[.slice s.a s.len s.cap, .slice (some a) 1 1]⟩) (.leaf .slice) w1 (K a) := by
  refine xnew hs fun b w1 hs1 => ?_
  refine xappend (x := ⟨some ⟨b, 0, none⟩, 1, 1⟩) hok hs1.swap (reads_pts hs1) (by rw [hl, Nat.one_mul]) (fun h => by cases h) h1 hsz fun s' w' hs' hl' => hk _ s' w' ?_ hl'
  exact hs'.swap.drop

end
end Go.X
