/- Growing a part of a slice by zero values; clearing; whether two slices overlap. -/
import Derived.Test.YtmbiffmfcloepaaGreatDoorDCrash
import Derived.Lib.Overlaps
namespace Go.X
open Go.Proofs

section
variable {P : Program} {W w : World} {L : List SP}

/-- The closed facts that growing by zero values asks of the types. -/
def okZ (P : Program) (t u : TypeId) (sz : Nat) : Bool :=
  match under P t, under P u with
  | some (.slice e), some (.int _) => match ti P e with
    | some i => Nat.beq i.size sz && Nat.ble i.bytes 128 && (match i.zero with
      | some z => Nat.beq z.cells.size sz
      | none => false)
    | none => false
  | _, _ => false

theorem okZ_spec {t u : TypeId} {sz : Nat} (h : okZ P t u sz = true) : ∃ e k i z, P.underlying t = some (.slice e) ∧ P.underlying u = some (.int k) ∧ P.info? e = some i ∧ i.size = sz ∧ i.bytes ≤ 128 ∧ i.zero = some z ∧ z.cells.size = sz := by
  unfold okZ at h
  split at h
  · rename_i e k h1 h2
    split at h
    · rename_i i hi
      simp only [Bool.and_eq_true] at h
      obtain ⟨⟨h3, h4⟩, h5⟩ := h
      split at h5
      · rename_i z hz
        exact ⟨e, k, i, z, under_eq h1, under_eq h2, ti_info hi, Nat.eq_of_beq_eq_true h3, Nat.le_of_ble_eq_true h4, hz, Nat.eq_of_beq_eq_true h5⟩
      · cases h5
    · cases h
  · cases h

/-- **append** of zero values behind a slice's first elements, into a new block. -/
theorem xgrowN {t u ty : TypeId} {sz n m c : Nat} {a : Option Addr} {k : Int} {vs : List Value} {K : Sl → World → Prop} (hok : okZ P t u sz = true) (hs : Sat W w L)
    (hr : Reads w ⟨a, n, c⟩ vs) (hl : vs.length = n * sz) (h0 : a = none → vs = []) (hm : k = m) (hg : c < n + m) (hsz : n + m ≤ 2 ^ 40)
    (hk : ∀ zs s' w', zs.length = m * sz → Sat W w' (own sz s' (vs ++ zs) :: L) → s'.len = n + m → K s' w') :
    XDo P (Builtin.append_ #[t, u] ty ⟨[.slice a n c, .int .i64 k]⟩) (.leaf .slice) w K := by
  obtain ⟨e, ki, i, z, ht, hu, hi, rfl, hb, hz, hzs⟩ := okZ_spec hok
  subst hm
  have hw : IntKind.wrap .i64 (m : Int) = m := wi (by omega) (by omega)
  have hn0 : ¬ ((m : Int) < 0) := by omega
  have hmb : m * i.bytes ≤ 2 ^ 40 * 128 := Nat.mul_le_mul (by omega) hb
  have h48 : ¬ (281474976710656 < (m : Int) * (i.bytes : Int)) := by
    rw [← Int.natCast_mul]; omega
  have h63 : ¬ (9223372036854775807 < (n : Int) + (m : Int)) := by omega
  have hn : ¬ (n + m ≤ c) := by omega
  have hfit : Builtin.nextslicecap (n + m) c * i.bytes ≤ 281474976710656 := growslice_fits hg (Nat.le_trans (Nat.mul_le_mul hsz hb) (by decide))
  have hg' : ¬ (281474976710656 < Builtin.nextslicecap (n + m) c * i.bytes) := by omega
  have hfo := run_first (P := P) (w := w.drew) (sz := i.size) (n := n) (s := ⟨a, n, c⟩) (vs := vs) hr hl h0 n c
  let zs : List Value := if m * i.size = 0 then [] else (Builtin.zeroCells z.cells m).toList
  have hzl : zs.length = m * i.size := by
    simp only [zs]
    split
    · rename_i h; rw [h]; rfl
    · rw [zeroCells_length, hzs]
  have hr : (Builtin.append_ #[t, u] ty ⟨[.slice a n c, .int .i64 (m : Int)]⟩).run P w = .ok (.slice (some ⟨w.heap.size, 0, none⟩) (n + m) (grownCap w (n + m) c e))
      (w.drew.alloc (.cells ⟨vs ++ zs ++ (Builtin.zeroCells z.cells (grownCap w (n + m) c e - (n + m))).toList⟩ e)) := by
    simp [Builtin.append_, run_underlying ht, run_underlying hu, run_size' hi, run_info' hi, run_zero' hi hz, asInt, asIntOf, hw, hn0, h48, h63, hn, hg', Question.forced, newRow, grownCap, hfo]
    by_cases h : m * i.size = 0
    · simp only [zs, if_pos h]
      congr 3
      apply Array.ext'
      simp
    · simp only [zs, if_neg h]
      congr 3
      apply Array.ext'
      simp
  refine ⟨⟨some ⟨w.heap.size, 0, none⟩, n + m, grownCap w (n + m) c e⟩, _, hr, hk zs _ _ hzl ?_ rfl⟩
  have hcap := grownCap_ge w (n + m) c e
  have hnew := (hs.drew).new_block (cs := vs ++ zs ++ (Builtin.zeroCells z.cells (grownCap w (n + m) c e - (n + m))).toList) (t := e)
  refine Sat.shut_own rfl ?_ ?_ hcap hnew
  · rw [List.length_append, hl, hzl, Nat.add_mul]
  · simp only [List.length_append, zeroCells_length, hzs, hl, hzl, ← Nat.add_mul]
    congr 1
    omega

/-! ### Shorter and longer views of a block -/

theorem Sat.own_shrink {sz : Nat} {s : Sl} {xs : List Value} (hs : Sat W w (own sz s xs :: L)) (n : Nat) (hn : n ≤ s.len) : Sat W w (own sz ⟨s.a, n, s.cap⟩ (xs.take (n * sz)) :: L) := by
  rcases hs.open_own with ⟨ha, hl, hc, hx, hs'⟩ | ⟨b, rest, ha, hl, hc, hlc, hs'⟩
  · have h0 : n = 0 := by omega
    subst h0
    rw [ha, hc, Nat.zero_mul, List.take_zero]
    exact hs'.own_nil
  · have hle : n * sz ≤ s.len * sz := Nat.mul_le_mul_right _ hn
    refine Sat.shut_own (rest := xs.drop (n * sz) ++ rest) ha ?_ ?_ (Nat.le_trans hn hlc) ?_
    · rw [List.length_take, hl]; exact Nat.min_eq_left hle
    · rw [← List.append_assoc, List.take_append_drop]; exact hc
    · rw [← List.append_assoc, List.take_append_drop]; exact hs'

theorem Sat.own_stretch {sz : Nat} {s : Sl} {xs : List Value} (hs : Sat W w (own sz s xs :: L)) (n : Nat) (hn : s.len ≤ n) (hc : n ≤ s.cap) : ∃ ys, ys.length = (n - s.len) * sz ∧ Sat W w (own sz ⟨s.a, n, s.cap⟩ (xs ++ ys) :: L) := by
  rcases hs.open_own with ⟨ha, hl, hc', hx, hs'⟩ | ⟨b, rest, ha, hl, hc', hlc, hs'⟩
  · have h0 : n = 0 := by omega
    subst h0
    refine ⟨[], by simp, ?_⟩
    rw [ha, hc', hx]
    exact hs'.own_nil
  · have hr : rest.length = (s.cap - s.len) * sz := by
      rw [List.length_append, hl] at hc'
      rw [Nat.sub_mul]; omega
    have hle : (n - s.len) * sz ≤ (s.cap - s.len) * sz := Nat.mul_le_mul_right _ (by omega)
    refine ⟨rest.take ((n - s.len) * sz), ?_, Sat.shut_own (rest := rest.drop ((n - s.len) * sz)) ha ?_ ?_ hc ?_⟩
    · rw [List.length_take, hr]; exact Nat.min_eq_left hle
    · rw [List.length_append, hl, List.length_take, hr, Nat.min_eq_left hle, ← Nat.add_mul]
      congr 1
      show _ = n
      omega
    · rw [List.append_assoc, List.take_append_drop]; exact hc'
    · rw [List.append_assoc, List.take_append_drop]; exact hs'

/-- **append** where there is room. -/
theorem xappendR {t u ty : TypeId} {sz : Nat} {s x : Sl} {xs news : List Value} {K : Sl → World → Prop} (hok : okApp P t u sz = true) (hs : Sat W w (own sz s xs :: L))
    (hrn : Reads w x news) (hln : news.length = x.len * sz) (hn0 : x.a = none → news = []) (h1 : allOne news = true) (hroom : s.len + x.len ≤ s.cap)
    (hk : ∀ w', Sat W w' (own sz ⟨s.a, s.len + x.len, s.cap⟩ (xs ++ news) :: L) → K ⟨s.a, s.len + x.len, s.cap⟩ w') :
    XDo P (Builtin.append_ #[t, u] ty ⟨[.slice s.a s.len s.cap, .slice x.a x.len x.cap]⟩) (.leaf .slice) w K := by
  obtain ⟨e, e', i, z, ht, hu, hi, rfl, hb, hz, hzs⟩ := okApp_spec hok
  have hf := run_first (P := P) (w := w) (sz := i.size) (n := x.len) (s := x) (vs := news) hrn hln hn0 x.len x.cap
  rcases hs.open_own with ⟨ha, hl, hc, hx, hs'⟩ | ⟨b, rest, ha, hl, hc, hlc, hs'⟩
  · have hxl : x.len = 0 := by omega
    have hn : news = [] := List.eq_nil_of_length_eq_zero (by rw [hln, hxl, Nat.zero_mul])
    rw [hxl] at hf
    have hr : (Builtin.append_ #[t, u] ty ⟨[.slice s.a s.len s.cap, .slice x.a x.len x.cap]⟩).run P w = .ok (.slice none 0 0) w := by
      rw [ha, hl, hc, hxl]
      simp [Builtin.append_, run_underlying ht, run_underlying hu, run_size' hi, run_info' hi, Builtin.lenOf, hf]
    refine ⟨⟨s.a, s.len + x.len, s.cap⟩, w, ?_, hk w ?_⟩
    · rw [hr]
      simp [Ty.mk, Leaf.mk, ha, hl, hc, hxl]
    · rw [ha, hl, hc, hxl, hx, hn]
      exact hs'.own_nil
  · have hfit : s.len * i.size + news.length ≤ (xs ++ rest).length := by
      rw [hc, hln, ← Nat.add_mul]; exact Nat.mul_le_mul_right _ hroom
    have hst := xstores (W := W) (L := L) (b := b) (o := s.len * i.size) (K := fun w' => Sat W w' (pts b (splice (xs ++ rest) (s.len * i.size) news) :: L)) news 0 w _ hs' (by simpa using hfit) (fun w' h => by simpa using h)
    obtain ⟨w', hr, hw⟩ := run_stores (P := P) news 0 w h1 hst
    have hr' : (Builtin.append_ #[t, u] ty ⟨[.slice s.a s.len s.cap, .slice x.a x.len x.cap]⟩).run P w = .ok (.slice (some ⟨b, 0, none⟩) (s.len + x.len) s.cap) w' := by
      rw [ha]
      simp [Builtin.append_, run_underlying ht, run_underlying hu, run_size' hi, Builtin.lenOf, hroom, hf, Addr.add_mk, hr]
    refine ⟨⟨s.a, s.len + x.len, s.cap⟩, w', by rw [hr']; simp [Ty.mk, Leaf.mk, ha], hk _ ?_⟩
    have hsp : splice (xs ++ rest) (s.len * i.size) news = (xs ++ news) ++ rest.drop news.length := by
      unfold splice
      rw [← hl, List.take_left, List.drop_append, List.drop_eq_nil_of_le (by omega), List.nil_append]
      congr 2
      omega
    rw [hsp] at hw
    refine Sat.shut_own ha ?_ ?_ hroom hw
    · rw [List.length_append, hl, hln, Nat.add_mul]
    · rw [← hsp, splice_length hfit, hc]

/-! ### Clearing -/

def okClear (P : Program) (t : TypeId) (sz : Nat) : Bool :=
  match under P t with
  | some (.slice e) => match ti P e with
    | some i => Nat.beq i.size sz && (match i.zero with
      | some z => Nat.beq z.cells.size sz && allOne z.cells.toList
      | none => false)
    | none => false
  | _ => false

theorem okClear_spec {t : TypeId} {sz : Nat} (h : okClear P t sz = true) : ∃ e i z, P.underlying t = some (.slice e) ∧ P.info? e = some i ∧ i.size = sz ∧ i.zero = some z ∧ z.cells.size = sz ∧ allOne z.cells.toList = true := by
  unfold okClear at h
  split at h
  · rename_i e h1
    split at h
    · rename_i i hi
      simp only [Bool.and_eq_true] at h
      obtain ⟨h4, h5⟩ := h
      split at h5
      · rename_i z hz
        simp only [Bool.and_eq_true] at h5
        exact ⟨e, i, z, under_eq h1, ti_info hi, Nat.eq_of_beq_eq_true h4, hz, Nat.eq_of_beq_eq_true h5.1, h5.2⟩
      · cases h5
    · cases h
  · cases h

theorem allOne_of : ∀ {vs : List Value}, (∀ v ∈ vs, oneCell v = true) → allOne vs = true
  | [], _ => rfl
  | v :: vs, h => by
    simp only [allOne, h v (List.mem_cons_self ..)]
    exact allOne_of fun u hu => h u (List.mem_cons_of_mem _ hu)

theorem zeroCells_one {z : Array Value} {n : Nat} (h : allOne z.toList = true) (hz : 0 < z.size) : allOne (Builtin.zeroCells z n).toList = true := by
  refine allOne_of fun v hv => ?_
  simp only [Builtin.zeroCells, Array.toList_map, List.mem_map] at hv
  obtain ⟨i, _, rfl⟩ := hv
  have hlt : i % z.size < z.size := Nat.mod_lt _ hz
  refine oneCell_of_allOne h _ ?_
  rw [getElem!_pos z _ hlt]
  exact Array.getElem_mem_toList hlt

/-- Clearing what lies behind a slice's elements. -/
theorem xclear {t ty : TypeId} {sz : Nat} {s : Sl} {xs : List Value} {p : Option Addr} {m c : Nat} {K : Unit → World → Prop} (hok : okClear P t sz = true) (hsz : 0 < sz) (hs : Sat W w (own sz s xs :: L))
    (hp : ∀ b, s.a = some ⟨b, 0, none⟩ → s.len < s.cap → p = some ⟨b, s.len * sz, none⟩) (hm : s.len + m ≤ s.cap) (hk : ∀ w', Sat W w' (own sz s xs :: L) → K () w') :
    XDos P (Builtin.clear_ #[t] ty ⟨[.slice p m c]⟩) [] w K := by
  obtain ⟨e, i, z, ht, hi, rfl, hz, hzs, h1⟩ := okClear_spec hok
  cases m with
  | zero =>
    refine ⟨(), w, ?_, hk w hs⟩
    cases p <;> simp [Builtin.clear_, run_underlying ht] <;> rfl
  | succ m =>
    rcases hs.open_own with ⟨ha, hl, hc, hx, hs'⟩ | ⟨b, rest, ha, hl, hc, hlc, hs'⟩
    · omega
    · rw [hp b ha (by omega)]
      have hzl : (Builtin.zeroCells z.cells (m + 1)).toList.length = (m + 1) * i.size := by rw [zeroCells_length, hzs]
      have hfit : s.len * i.size + (Builtin.zeroCells z.cells (m + 1)).toList.length ≤ (xs ++ rest).length := by
        rw [hzl, hc, ← Nat.add_mul]; exact Nat.mul_le_mul_right _ hm
      have hst := xstores (W := W) (L := L) (b := b) (o := s.len * i.size) (K := fun w' => Sat W w' (pts b (splice (xs ++ rest) (s.len * i.size) (Builtin.zeroCells z.cells (m + 1)).toList) :: L)) (Builtin.zeroCells z.cells (m + 1)).toList 0 w _ hs' (by simpa using hfit) (fun w' h => by simpa using h)
      obtain ⟨w', hr, hw⟩ := run_stores (P := P) _ 0 w (zeroCells_one h1 (by omega)) hst
      refine ⟨(), w', ?_, hk w' ?_⟩
      · simp [Builtin.clear_, run_underlying ht, run_zero' hi hz, hr, HT.vals]
      · have hsp : splice (xs ++ rest) (s.len * i.size) (Builtin.zeroCells z.cells (m + 1)).toList = xs ++ ((Builtin.zeroCells z.cells (m + 1)).toList ++ rest.drop (Builtin.zeroCells z.cells (m + 1)).toList.length) := by
          unfold splice
          rw [← hl, List.take_left, List.drop_append, List.drop_eq_nil_of_le (by omega), List.nil_append, List.append_assoc]
          congr 3
          omega
        rw [hsp] at hw
        refine Sat.shut_own ha hl ?_ hlc hw
        rw [← hsp, splice_length hfit, hc]

/-! ### Overlaps -/

/-- A new cell that no text looks at. -/
theorem xnewF {t : TypeId} {cs : List Value} {K : Addr → World → Prop} (hs : Sat W w L) (hk : ∀ b w', Sat W w' (pts b cs :: L) → (∀ o, w'.frozen? ⟨b, o, none⟩ = false) → K ⟨b, 0, none⟩ w') : XNew t cs w K := by
  refine hk _ _ hs.new_block fun o => ?_
  have : (w.alloc (.cells ⟨cs⟩ t)).heap[w.heap.size]? = some (.cells ⟨cs⟩ t (0, 0)) := by
    show (w.heap.push _)[w.heap.size]? = _
    simp
  unfold World.frozen?
  rw [show (⟨w.heap.size, o, none⟩ : Addr).block = w.heap.size from rfl, this]
  simp

def okOv (P : Program) (fn : Func) (sz : Nat) : Bool :=
  match fn.params, fn.resultTypes with
  | ⟨[t, t']⟩, ⟨[_]⟩ => Nat.beq t t' && okCopy P t sz
  | _, _ => false

theorem okOv_spec {fn : Func} {sz : Nat} (h : okOv P fn sz = true) : ∃ t r e i, fn.params = #[t, t] ∧ fn.resultTypes = #[r] ∧ P.underlying t = some (.slice e) ∧ P.info? e = some i ∧ i.size = sz := by
  unfold okOv at h
  split at h
  · rename_i t t' r h1 h2
    simp only [Bool.and_eq_true] at h
    obtain ⟨e, i, h3, h4, h5⟩ := okCopy_spec h.2
    have := Nat.eq_of_beq_eq_true h.1
    subst this
    exact ⟨t, r, e, i, h1, h2, h3, h4, h5⟩
  · cases h

theorem xoverlaps {f : FuncId} {fn : Func} {sz b la ca k lb cb : Nat} {s : Sl} {xs cs : List Value} {p : Option Addr} {K : Bool → World → Prop} (hf : P.funcs[f]? = some fn) (hb : fn.body.isNone = true) (hn : (fn.name == "runtime.NumGoroutine") = false)
    (h1 : (Extern.findNext fn).isNone = true) (h2 : Extern.find fn = some (Extern.SlicesOverlaps.overlaps fn.params fn.resultTypes)) (hok : okOv P fn sz = true) (hsz : 0 < sz)
    (hs : Sat W w (pts b cs :: own sz s xs :: L)) (hfz : ∀ o, w.frozen? ⟨b, o, none⟩ = false)
    (hp : ∀ b, s.a = some ⟨b, 0, none⟩ → p = some ⟨b, k * sz, none⟩) (_hk0 : s.a = none → p = none) (hl : 0 < s.len) (hk : K false w) :
    XDo P (extRun P f ⟨[.slice (some ⟨b, 0, none⟩) la ca, .slice p lb cb]⟩) (.leaf .bool) w K := by
  obtain ⟨t, r, e, i, hpa, hre, ht, hi, rfl⟩ := okOv_spec hok
  refine ⟨false, w, ?_, hk⟩
  rw [ext_run hf hb hn h1 h2, hpa, hre]
  rcases hs.swap.open_own with ⟨ha, hl0, _⟩ | ⟨b', rest, ha, hl', hc, hlc, hs'⟩
  · omega
  · rw [hp b' ha]
    obtain ⟨tA, lo, hi', hA, _, _⟩ := hs.pts_heap
    obtain ⟨tB, lo', hi'', hB, _, _⟩ := hs'.pts_heap
    have hne : b ≠ b' := hs'.swap.ne
    have hlen : 0 < xs.length := by rw [hl']; exact Nat.mul_pos hl hsz
    exact Lib.run_overlaps_apart w t r e ht i.size (fun w => run_size' hi w) ⟨b, 0, none⟩ ⟨b', k * i.size, none⟩ la ca lb cb hne tA tB cs.length (xs ++ rest).length
      (by simp [World.shape?, hA]) (by simp [World.shape?, hB]) (by rw [List.length_append]; omega) (hfz 0) (hfz _)

end
end Go.X
