import Derived.Test.YtmbiffmfcloepaaGreatDoorWFind
import Derived.Test.YtmbiffmfcloepaaGreatDoorXEnd

/-! The laws' small functions: texts cut, lists of them compared. -/
namespace Go.X
open Go.Proofs Go.ChangeShapes Go.WideShapes Go.RowKit

/-! ### Plain -/

def strs (xs : List (List UInt8)) : List Value := xs.map fun x => .string (str x)
def cutL (s : List UInt8) : List UInt8 := s.take 300
def fewL (xs : List (List UInt8)) : List (List UInt8) := (xs.take 8).map cutL
/-- Does a list begin as another one does? -/
def beginsL (l of : List (List UInt8)) (least : Int) : Bool := decide (l.length ≤ of.length) && decide (least ≤ (l.length : Int)) && decide (of.take l.length = l)
def sameL (a b : List (List UInt8)) : Bool := decide (a = b)

theorem strs_append (a b : List (List UInt8)) : strs (a ++ b) = strs a ++ strs b := by simp [strs]
theorem strs_length (a : List (List UInt8)) : (strs a).length = a.length := by simp [strs]
theorem strs_one : ∀ (a : List (List UInt8)), allOne (strs a) = true
  | [] => rfl
  | x :: a => by
    have := strs_one a
    simpa [strs, allOne, oneCell] using this

theorem cutL_length (s : List UInt8) : (cutL s).length ≤ 300 := by unfold cutL; rw [List.length_take]; omega
theorem fewL_length (xs : List (List UInt8)) : (fewL xs).length ≤ 8 := by unfold fewL; rw [List.length_map, List.length_take]; omega
theorem fewL_cut {xs : List (List UInt8)} {x : List UInt8} (h : x ∈ fewL xs) : x.length ≤ 300 := by
  unfold fewL at h
  obtain ⟨y, _, rfl⟩ := List.mem_map.1 h
  exact cutL_length y

section
variable {W w : World} {L : List SP}

/-- Texts that can be read now. -/
def RdStr (w : World) (s : Sl) (xs : List (List UInt8)) : Prop :=
  xs.length = s.len ∧ ∀ k x, xs[k]? = some x → ∃ b o, s.a = some ⟨b, o, none⟩ ∧ w.cell? ⟨b, o + k, none⟩ = some (.string (str x))

theorem ROStr.rd {A : SP} {s : Sl} {xs : List (List UInt8)} (hR : ROStr W A s xs) (hs : Sat W w (A :: L)) : RdStr w s xs := ⟨hR.1, hR.2 w L hs⟩
theorem RdStr.of_own {s : Sl} {xs : List (List UInt8)} (hs : Sat W w (own 1 s (strs xs) :: L)) : RdStr w s xs :=
  (ROStr.own xs (by have := hs.own_len; rw [strs_length] at this; omega)).rd hs
theorem RdStr.quiet {w' : World} {s : Sl} {xs : List (List UInt8)} (h : RdStr w s xs) (q : Quiet w w') : RdStr w' s xs :=
  ⟨h.1, fun k x hx => by obtain ⟨b, o, h1, h2⟩ := h.2 k x hx; exact ⟨b, o, h1, by rw [q.cell]; exact h2⟩⟩

theorem RdStr.at {s : Sl} {xs : List (List UInt8)} {i : Int} {n : Nat} {K : Addr → ByteArray → Prop} (hR : RdStr w s xs) (k : Nat) (hi : i = k) {x : List UInt8} (hx : xs[k]? = some x) (hn : n = k) (hk : ∀ a, K a (str x)) :
    XNil s.a fun a => ((0 : Int) ≤ i ∧ i < ((s.len : Nat) : Int)) ∧ XLoad .str (Addr.add a n) w (K a) := by
  obtain ⟨b, o, ha, hc⟩ := hR.2 k x hx
  have hlt := (List.getElem?_eq_some_iff.1 hx).1
  have hl := hR.1
  rw [ha]
  refine ⟨by omega, str x, ?_, hk _⟩
  rw [Addr.add_mk, hn]
  exact hc

theorem cut_spec (s : List UInt8) : Ret Tryz.prog F.barquelaw15_cut [.string (str s)] w fun v w' => v = .string (str (cutL s)) ∧ w' = w := by
  refine S.barquelaw15_cut_ok _ _ _ ?_
  have hz := str_size s
  by_cases h : 300 < s.length
  · refine XIf.yes (decide_eq_true (by rw [hz]; omega)) ⟨⟨⟨by omega, by rw [hz]; omega⟩, by omega, by omega⟩, xlet (str (cutL s)) ?_ ⟨rfl, rfl⟩⟩
    rw [str_take]
    rfl
  · refine XIf.no (decide_eq_false (by rw [hz]; omega)) ⟨?_, rfl⟩
    unfold cutL
    rw [List.take_of_length_le (by omega)]

theorem cells_str {w : World} {L : List SP} {b : Nat} {cs : List Value} (hs : Sat W w (pts b cs :: L)) (h : cs = []) : Sat W w (own 1 ⟨some ⟨b, 0, none⟩, 0, 0⟩ [] :: L) := by
  subst h
  exact Sat.shut_own (rest := []) rfl rfl rfl (Nat.le_refl _) hs

theorem few_spec {A : SP} {s : Sl} {xs : List (List UInt8)} (hR : ROStr W A s xs) (hs : Sat W w (A :: L)) :
    Ret Tryz.prog F.barquelaw15_few [.slice s.a s.len s.cap] w fun v w' => ∃ s' : Sl, v = .slice s'.a s'.len s'.cap ∧ Sat W w' (own 1 s' (strs (fewL xs)) :: A :: L) := by
  refine S.barquelaw15_few_ok s _ _ ?_
  refine xloop (fun (st : Sl × Int × Unit) w => ∃ (j : Nat) (s' : Sl), st = (s', (j : Int), ()) ∧ j ≤ 8 ∧ j ≤ xs.length ∧ Sat W w (own 1 s' (strs ((xs.take j).map cutL)) :: A :: L)) (fun st => (9 - st.2.1).toNat)
    ⟨0, ⟨none, 0, 0⟩, rfl, by omega, Nat.zero_le _, hs.own_nil⟩ ?_
  clear hs
  rintro next _ w ⟨j, s', rfl, hj8, hjx, h⟩ hnext
  have hlen := hR.1
  refine xjoin (fun (st : Bool × Unit) w' => st = (decide (j < xs.length ∧ j < 8), ()) ∧ w' = w) (fun J hJ => ?_) ?_
  · by_cases h1 : j < xs.length
    · refine XIf.yes (decide_eq_true (by show (j : Int) < (s.len : Int); omega)) (hJ _ _ ⟨?_, rfl⟩)
      have : (decide ((j : Int) < 8)) = decide (j < xs.length ∧ j < 8) := decide_eq_decide.2 ⟨fun h => ⟨h1, by omega⟩, fun h => by omega⟩
      exact Prod.ext this rfl
    · refine XIf.no (decide_eq_false (by show ¬ (j : Int) < (s.len : Int); omega)) (hJ _ _ ⟨?_, rfl⟩)
      have : false = decide (j < xs.length ∧ j < 8) := (decide_eq_false (by omega)).symm
      exact Prod.ext this rfl
  rintro _ _ ⟨rfl, rfl⟩
  by_cases hc : j < xs.length ∧ j < 8
  · refine XIf.yes (decide_eq_true hc) ?_
    have hx : xs[j]? = some xs[j] := List.getElem?_eq_getElem hc.1
    refine xstrAt hR h.swap j rfl hx (by show Int.toNat (j : Int) * 1 = j; omega) fun a => ?_
    refine xcall (cut_spec xs[j]) ?_
    rintro v w1 ⟨rfl, rfl⟩
    refine ⟨str (cutL xs[j]), rfl, ?_⟩
    have hsl := h.own_len
    rw [strs_length, List.length_map, List.length_take] at hsl
    refine xappend1 (sz := 1) (by kernel_rfl) h rfl rfl (by show s'.len + 1 ≤ 2 ^ 40; omega) fun a s2 w2 h2 hl2 => ?_
    refine xlet ((j + 1 : Nat) : Int) (by show IntKind.wrap .i64 ((j : Int) + 1) = _; rw [wi (by omega) (by omega)]; omega) ?_
    refine hnext _ _ ⟨j + 1, s2, rfl, by omega, by omega, ?_⟩ (by show (9 - ((j + 1 : Nat) : Int)).toNat < (9 - (j : Int)).toNat; omega)
    have e : strs ((xs.take (j + 1)).map cutL) = strs ((xs.take j).map cutL) ++ [.string (str (cutL xs[j]))] := by
      rw [List.take_add_one, hx, List.map_append, strs_append]
      rfl
    rw [e]
    exact h2
  · refine XIf.no (decide_eq_false hc) ⟨s', rfl, ?_⟩
    have e : fewL xs = (xs.take j).map cutL := by
      unfold fewL
      congr 1
      by_cases h8 : j = 8
      · rw [h8]
      · rw [List.take_of_length_le (by omega), List.take_of_length_le (by omega)]
    rw [e]
    exact h

theorem begins_spec {s t : Sl} {xs ys : List (List UInt8)} {least : Int} (hx : RdStr w s xs) (hy : RdStr w t ys) (hn : xs.length ≤ 2 ^ 60) :
    Ret Tryz.prog F.barquelaw15_begins [.slice s.a s.len s.cap, .slice t.a t.len t.cap, .int .i64 least] w fun v w' => v = .bool (beginsL xs ys least) ∧ Quiet w w' := by
  refine S.barquelaw15_begins_ok s t _ _ _ ?_
  have hxl := hx.1
  have hyl := hy.1
  refine xjoin (fun (st : Bool × Unit) w' => st = (!(decide (xs.length ≤ ys.length) && decide (least ≤ (xs.length : Int))), ()) ∧ w' = w) (fun J hJ => ?_) ?_
  · by_cases h1 : xs.length ≤ ys.length
    · refine XIf.no (decide_eq_false (by omega)) (hJ _ _ ⟨?_, rfl⟩)
      have : decide (((s.len : Nat) : Int) < least) = !(decide (xs.length ≤ ys.length) && decide (least ≤ (xs.length : Int))) := by
        rw [decide_eq_true h1, Bool.true_and, ← decide_not]
        exact decide_eq_decide.2 (by omega)
      exact Prod.ext this rfl
    · refine XIf.yes (decide_eq_true (by omega)) (hJ _ _ ⟨?_, rfl⟩)
      rw [decide_eq_false h1]
      rfl
  rintro _ w ⟨rfl, rfl⟩
  by_cases hc : (decide (xs.length ≤ ys.length) && decide (least ≤ (xs.length : Int))) = true
  · have hb : beginsL xs ys least = decide (ys.take xs.length = xs) := by unfold beginsL; rw [hc, Bool.true_and]
    rw [hc]
    simp only [Bool.and_eq_true, decide_eq_true_eq] at hc
    refine XIf.no rfl ?_
    refine xloop (fun (st : Bool × Int × Unit) w' => ∃ (j : Nat), st = (false, (j : Int), ()) ∧ j ≤ xs.length ∧ ys.take j = xs.take j ∧ Quiet w w') (fun st => (xs.length - st.2.1 : Int).toNat)
      ⟨0, rfl, Nat.zero_le _, by rw [List.take_zero, List.take_zero], Quiet.refl _⟩ ?_
    rintro next _ w1 ⟨j, rfl, hj, he, hq⟩ hnext
    by_cases hlt : j < xs.length
    · refine XIf.yes (decide_eq_true (by show (j : Int) < (s.len : Int); omega)) ?_
      have hxj : xs[j]? = some xs[j] := List.getElem?_eq_getElem hlt
      have hyj : ys[j]? = some ys[j] := List.getElem?_eq_getElem (by omega)
      refine (hx.quiet hq.drew).at j rfl hxj (by show Int.toNat (j : Int) * 1 = j; omega) fun a => ?_
      refine (hy.quiet hq.drew).at j rfl hyj (by show Int.toNat (j : Int) * 1 = j; omega) fun a => ?_
      rw [sEq_str]
      by_cases hxy : xs[j] = ys[j]
      · refine XIf.no (by rw [decide_eq_true hxy]; rfl) (xlet ((j + 1 : Nat) : Int) (by show IntKind.wrap .i64 ((j : Int) + 1) = _; rw [wi (by omega) (by omega)]; omega) ?_)
        refine hnext _ _ ⟨j + 1, rfl, hlt, ?_, hq.drew⟩ (by show ((xs.length : Int) - ((j + 1 : Nat) : Int)).toNat < ((xs.length : Int) - (j : Int)).toNat; omega)
        rw [List.take_add_one, List.take_add_one, hxj, hyj, he, hxy]
      · refine XIf.yes (by rw [decide_eq_false hxy]; rfl) ⟨?_, hq.drew⟩
        rw [hb, decide_eq_false]
        intro e
        apply hxy
        have : (ys.take xs.length)[j]? = xs[j]? := by rw [e]
        rw [List.getElem?_take_of_lt hlt, hxj, hyj] at this
        exact (Option.some.inj this).symm
    · have hjl : j = xs.length := by omega
      subst hjl
      refine XIf.no (decide_eq_false (by show ¬ (xs.length : Int) < (s.len : Int); omega)) ⟨?_, hq⟩
      rw [List.take_length] at he
      rw [hb, decide_eq_true he]
  · have hc' : (decide (xs.length ≤ ys.length) && decide (least ≤ (xs.length : Int))) = false := by simpa using hc
    rw [hc']
    refine XIf.yes rfl ⟨?_, Quiet.refl _⟩
    unfold beginsL
    rw [hc']
    rfl

theorem same_spec {s t : Sl} {xs ys : List (List UInt8)} (hx : RdStr w s xs) (hy : RdStr w t ys) (hn : xs.length ≤ 2 ^ 60) :
    Ret Tryz.prog F.barquelaw15_same [.slice s.a s.len s.cap, .slice t.a t.len t.cap] w fun v w' => v = .bool (sameL xs ys) ∧ Quiet w w' := by
  refine S.barquelaw15_same_ok s t _ _ ?_
  have hxl := hx.1
  have hyl := hy.1
  refine xjoin (fun (st : Bool × Unit) w' => st = (sameL xs ys, ()) ∧ Quiet w w') (fun J hJ => ?_) ?_
  · by_cases h : xs.length = ys.length
    · refine XIf.yes (decide_eq_true (by omega)) (xcall (begins_spec hx hy hn) ?_)
      rintro v w1 ⟨rfl, hq⟩
      refine ⟨_, rfl, hJ _ _ ⟨?_, hq⟩⟩
      have : beginsL xs ys 0 = sameL xs ys := by
        unfold beginsL sameL
        rw [decide_eq_true (show xs.length ≤ ys.length by omega), decide_eq_true (show (0 : Int) ≤ (xs.length : Int) by omega), h, List.take_length]
        exact decide_eq_decide.2 eq_comm
      exact Prod.ext this rfl
    · refine XIf.no (decide_eq_false (by omega)) (hJ _ _ ⟨?_, Quiet.refl _⟩)
      have : false = sameL xs ys := (decide_eq_false fun e => h (by rw [e])).symm
      exact Prod.ext this rfl
  rintro _ w1 ⟨rfl, hq⟩
  exact ⟨rfl, hq⟩

end
end Go.X

/-! The laws' world: a log, and what must be in it; its steps. -/
namespace Go.X
open Go.Proofs Go.ChangeShapes Go.WideShapes Go.RowKit

/-! ### Plain -/

structure WW where
  D : DD
  M : Bk
  l : LG
  all : List (List UInt8)
  safe : Nat
  turned : Bool
  snap : List (List UInt8)

/-- A call as data. -/
structure WOp where
  kind : Int
  n : Int
  text : List UInt8
  snap : Sl
  sx : List (List UInt8)
  fates : Sl
  fx : List Int

def openX (X : WW) : Bool × WW :=
  let R := openW X.D X.M
  if R.err ≠ 0 then (false, { X with D := R.disk }) else
  if beginsL R.out X.all X.safe = false ∧ (X.turned && sameL R.out X.snap) = false then (false, { X with D := R.disk }) else
  (true, { X with D := R.disk, l := R.log, all := R.out, safe := R.out.length, turned := false })

def turnX (snap : List (List UInt8)) (X : WW) : Bool × WW :=
  let R := turnW X.D X.M X.l snap
  if R.err = 0 then (!X.D.off && decide (R.log.n = X.l.n + 1), { X with D := R.disk, M := R.book, l := R.log, all := snap, safe := snap.length, turned := false })
  else if R.err = 14 then (R.disk.off, if X.D.off = false then { X with D := R.disk, M := R.book, l := R.log, turned := true, snap := snap } else { X with D := R.disk, M := R.book, l := R.log })
  else (decide (R.err = 7) && !X.D.off && decide (R.log.n = X.l.n), { X with D := R.disk, M := R.book, l := R.log })

def appX (s : List UInt8) (X : WW) : Bool × WW :=
  let R := putW X.D X.M X.l 82 [s]
  (decide (R.err = 0) && !X.D.off || decide (R.err = 14) && R.disk.off || decide (R.err = 7) && !X.D.off,
    { X with D := R.disk, M := R.book, l := R.log, all := if R.err = 0 ∨ R.err = 14 ∧ X.D.off = false then X.all ++ [s] else X.all })

def syncX' (X : WW) : Bool × WW :=
  let R := X.D.sync
  (decide (R.1 = 0) == !X.D.off && (!X.D.off || decide (R.1 = 14)), { X with D := R.2, safe := if R.1 = 0 then X.all.length else X.safe })

def armD (n : Int) (D : DD) : DD := if D.off = false ∧ 0 ≤ n then { D with fuse := n } else D

def stepX (o : WOp) (X : WW) : Bool × WW :=
  if o.kind = 0 then appX (cutL o.text) X
  else if o.kind = 1 then syncX' X
  else if o.kind = 2 then turnX (fewL o.sx) X
  else if o.kind = 3 then openX { X with D := X.D.crash o.fx }
  else (true, { X with D := armD o.n X.D })

/-- What holds of a world behind so many calls. -/
structure Good (k : Nat) (X : WW) : Prop where
  fit : Fit (20000 * k) X.D
  book : X.M.length ≤ 10 * k
  log : LGok X.l
  num : X.l.n < 100000000
  fin : X.l.end_ ≤ 2 ^ 24 * (k + 1)
  all : X.all.length ≤ 2 ^ 22 + k
  snap : X.snap.length ≤ 2 ^ 22 + k

theorem loadL_out {M : Bk} {all : List UInt8} : ∀ (k : Nat) (S : LD), (loadL M all k S).out.length ≤ k + S.out.length
  | 0, S => by simp [loadL]
  | k + 1, S => by
    unfold loadL
    split
    · omega
    · split
      · omega
      · rename_i s m _ _ S' hS
        have h := loadL_out (M := M) (all := all) k S'
        have : S'.out.length ≤ S.out.length + 1 := by
          unfold loadStep at hS
          split at hS
          · cases hS; exact Nat.le_succ _
          · split at hS
            · cases hS; simp
            · cases hS
        omega

theorem openL_out {i : Nat} {D : DD} (hf : Fit i D) (M : Bk) (all : List Nat) : ∀ ns : List Nat, (openL D M all ns).out.length ≤ 2097153
  | [] => Nat.zero_le _
  | n :: ns => by
    unfold openL
    cases hl : loadW D M n with
    | none => exact openL_out hf M all ns
    | some S =>
      dsimp only
      split
      · show S.out.length ≤ _
        unfold loadW at hl
        split at hl
        · cases hl
        · split at hl
          · cases hl
          · cases hl
            unfold loadF
            have h1 := loadL_out (M := M) (all := (D.read (nm n) 0 (D.size (nm n)).1).1) ((D.read (nm n) 0 (D.size (nm n)).1).1.length + 1) ⟨0, firstM n, false, []⟩
            have h2 := read_len D hf.small (nm n) 0 (D.size (nm n)).1
            simp only [List.length_nil] at h1
            omega
      · exact openL_out hf M all ns

theorem loadW_end {i : Nat} {D : DD} (hf : Fit i D) {M : Bk} {n : Nat} {S : LD} (h : loadW D M n = some S) : S.end_ ≤ 2097152 := by
  unfold loadW at h
  split at h
  · cases h
  · split at h
    · cases h
    · cases h
      unfold loadF
      have h2 := read_len D hf.small (nm n) 0 (D.size (nm n)).1
      exact Nat.le_trans (loadL_ok _ _ (Nat.zero_le _) (by show (firstM n).length ≤ _; rw [firstM_len]; decide)).1 h2

theorem openL_log {i : Nat} {D : DD} (hf : Fit i D) (M : Bk) (all : List Nat) : ∀ ns : List Nat, (∀ n ∈ ns, n < 100000000) → LGok (openL D M all ns).log ∧ (openL D M all ns).log.n < 100000000 ∧ (openL D M all ns).log.end_ ≤ 2097152
  | [], _ => ⟨⟨Nat.zero_le _, Nat.zero_le _, Nat.zero_le _⟩, by show (0 : Nat) < _; decide, Nat.zero_le _⟩
  | n :: ns, h => by
    have hn := h n List.mem_cons_self
    have hns := openL_log hf M all ns fun m hm => h m (List.mem_cons_of_mem _ hm)
    unfold openL
    cases hl : loadW D M n with
    | none => exact hns
    | some S =>
      dsimp only
      split
      · exact ⟨loadW_ok hf hl (by omega), hn, loadW_end hf hl⟩
      · exact hns

theorem openW_fits {i : Nat} {D : DD} (hf : Fit i D) (M : Bk) : Fit (i + 3000) (openW D M).disk ∧ (openW D M).out.length ≤ 2097153 ∧ LGok (openW D M).log ∧ (openW D M).log.n < 100000000 ∧ (openW D M).log.end_ ≤ 2097152 := by
  unfold openW
  split
  · exact ⟨hf.monoN 3000, Nat.zero_le _, ⟨Nat.zero_le _, Nat.zero_le _, Nat.zero_le _⟩, by show (0 : Nat) < 100000000; decide, Nat.zero_le _⟩
  · obtain ⟨h1, h2, h3⟩ := openL_log hf M (segsW D) (segsW D) fun n hn => segsW_lt hn
    exact ⟨openL_fit hf M _ _, openL_out hf M _ _, h1, h2, h3⟩

theorem Good.up {k k' : Nat} {X : WW} (h : Good k X) (hk : k ≤ k') : Good k' X :=
  ⟨(h.fit.monoN (20000 * k' - 20000 * k)).cast (by omega), by have := h.book; omega, h.log, h.num, by have := h.fin; omega, by have := h.all; omega, by have := h.snap; omega⟩

theorem Fit.le {i j : Nat} {D : DD} (h : Fit i D) (hij : i ≤ j) : Fit j D := (h.monoN (j - i)).cast (by omega)

theorem Good.openX {k : Nat} {X : WW} (h : Good k X) : Good (k + 1) (openX X).2 := by
  obtain ⟨h1, h2, h3, h4, h5⟩ := openW_fits h.fit X.M
  have hb := h.book
  have ha := h.all
  have hsn := h.snap
  unfold Go.X.openX
  dsimp only
  split
  · exact ⟨h1.le (by omega), by show X.M.length ≤ _; omega, h.log, h.num, by show X.l.end_ ≤ _; have := h.fin; omega, by show X.all.length ≤ _; omega, by show X.snap.length ≤ _; omega⟩
  split
  · exact ⟨h1.le (by omega), by show X.M.length ≤ _; omega, h.log, h.num, by show X.l.end_ ≤ _; have := h.fin; omega, by show X.all.length ≤ _; omega, by show X.snap.length ≤ _; omega⟩
  · exact ⟨h1.le (by omega), by show X.M.length ≤ _; omega, h3, h4, by show (openW X.D X.M).log.end_ ≤ _; omega, by show (openW X.D X.M).out.length ≤ _; omega, by show X.snap.length ≤ _; omega⟩

theorem putW_n (D : DD) (M : Bk) (l : LG) (s : UInt8) (xs : List (List UInt8)) : (putW D M l s xs).log.n = l.n := by
  unfold putW
  dsimp only
  split
  · rfl
  · split <;> rfl

theorem putW_end (D : DD) (M : Bk) (l : LG) (s : UInt8) (xs : List (List UInt8)) (hl : l.mark.length ≤ 2 ^ 20) : (putW D M l s xs).log.end_ ≤ l.end_ + 1048869 * xs.length ∧ (putW D M l s xs).log.mark.length ≤ 2 ^ 20 := by
  obtain ⟨h1, h2, _⟩ := putB_bound s xs ⟨0, [], l.mark, M⟩ hl
  simp only [List.length_nil, Nat.zero_add] at h1
  unfold putW
  dsimp only
  split
  · exact ⟨by show l.end_ ≤ _; omega, hl⟩
  · split
    · exact ⟨by show l.end_ ≤ _; omega, hl⟩
    · exact ⟨by show l.end_ + _ ≤ _; omega, h2⟩

theorem beginW_n (D : DD) (M : Bk) (n : Nat) (xs : List (List UInt8)) : (beginW D M n xs).log.n = n := by
  unfold beginW
  dsimp only
  split
  · rfl
  split
  · show (putW _ _ _ _ _).log.n = _
    rw [putW_n, putW_n]
  · show (putW _ _ _ _ _).log.n = _
    rw [putW_n]

theorem beginW_end (D : DD) (M : Bk) (n : Nat) (xs : List (List UInt8)) (hx : xs.length ≤ 8) : (beginW D M n xs).log.end_ ≤ 2 ^ 24 := by
  unfold beginW
  dsimp only
  split
  · exact Nat.zero_le _
  obtain ⟨h1, h2⟩ := putW_end (D.create (nm n)).2 M ⟨n, 0, firstM n⟩ 83 xs (by show (firstM n).length ≤ _; rw [firstM_len]; decide)
  have h1' : (putW (D.create (nm n)).2 M ⟨n, 0, firstM n⟩ 83 xs).log.end_ ≤ 1048869 * xs.length := by simpa using h1
  split
  · show (putW _ _ _ _ _).log.end_ ≤ _
    obtain ⟨h3, _⟩ := putW_end (putW (D.create (nm n)).2 M ⟨n, 0, firstM n⟩ 83 xs).disk (putW (D.create (nm n)).2 M ⟨n, 0, firstM n⟩ 83 xs).book (putW (D.create (nm n)).2 M ⟨n, 0, firstM n⟩ 83 xs).log 69 [[]] h2
    simp only [List.length_singleton] at h3
    omega
  · show (putW _ _ _ _ _).log.end_ ≤ _
    omega

theorem turnW_fit {i : Nat} {D : DD} (hf : Fit i D) (M : Bk) (l : LG) (hl : LGok l) (hn : l.n < 100000000) (xs : List (List UInt8)) (hx : xs.length ≤ 8) :
    Fit (i + 14000) (turnW D M l xs).disk ∧ LGok (turnW D M l xs).log ∧ (turnW D M l xs).log.n < 100000000 ∧ (turnW D M l xs).book.length ≤ M.length + 9 ∧ (turnW D M l xs).log.end_ ≤ l.end_ + 2 ^ 24 := by
  unfold turnW
  split
  · exact ⟨hf.monoN _, hl, hn, by show M.length ≤ _; omega, Nat.le_add_right _ _⟩
  rename_i h9
  obtain ⟨h1, h2, h3⟩ := beginW_fit hf M (l.n + 1) (by omega) xs (by omega)
  have hbn := beginW_n D M (l.n + 1) xs
  have hbe := beginW_end D M (l.n + 1) xs (by omega)
  dsimp only
  split
  · exact ⟨h1.le (by omega), hl, hn, by show (beginW _ _ _ _).book.length ≤ _; omega, Nat.le_add_right _ _⟩
  · exact ⟨(h1.remove0 _).le (by omega), h2, by show (beginW _ _ _ _).log.n < _; rw [hbn]; omega, by show (beginW _ _ _ _).book.length ≤ _; omega, by show (beginW _ _ _ _).log.end_ ≤ _; omega⟩

theorem Good.turnX {k : Nat} {X : WW} (h : Good k X) {xs : List (List UInt8)} (hx : xs.length ≤ 8) : Good (k + 1) (turnX xs X).2 := by
  obtain ⟨h1, h2, h3, h4, h5⟩ := turnW_fit h.fit X.M X.l h.log h.num xs hx
  have hb := h.book
  have ha := h.all
  have hsn := h.snap
  unfold Go.X.turnX
  dsimp only
  split
  · exact ⟨h1.le (by omega), by show (turnW _ _ _ _).book.length ≤ _; omega, h2, h3, by show (turnW _ _ _ _).log.end_ ≤ _; have := h.fin; omega, by show xs.length ≤ _; omega, by show X.snap.length ≤ _; omega⟩
  split
  · dsimp only
    split
    · exact ⟨h1.le (by omega), by show (turnW _ _ _ _).book.length ≤ _; omega, h2, h3, by show (turnW _ _ _ _).log.end_ ≤ _; have := h.fin; omega, by show X.all.length ≤ _; omega, by show xs.length ≤ _; omega⟩
    · exact ⟨h1.le (by omega), by show (turnW _ _ _ _).book.length ≤ _; omega, h2, h3, by show (turnW _ _ _ _).log.end_ ≤ _; have := h.fin; omega, by show X.all.length ≤ _; omega, by show X.snap.length ≤ _; omega⟩
  · exact ⟨h1.le (by omega), by show (turnW _ _ _ _).book.length ≤ _; omega, h2, h3, by show (turnW _ _ _ _).log.end_ ≤ _; have := h.fin; omega, by show X.all.length ≤ _; omega, by show X.snap.length ≤ _; omega⟩

theorem Good.appX {k : Nat} {X : WW} (h : Good k X) (hk : k ≤ 1000) (s : List UInt8) : Good (k + 1) (appX s X).2 := by
  have hfin := h.fin
  obtain ⟨h1, h2, h3, h5, h4⟩ := putW_fit h.fit X.M X.l h.log (by omega) 82 [s] (show (1 : Nat) ≤ _ by decide)
  have hb := h.book
  have ha := h.all
  have hsn := h.snap
  have hnum := h.num
  simp only [List.length_singleton] at h1 h4 h5
  unfold Go.X.appX
  refine ⟨h1.le (by omega), by show (putW _ _ _ _ _).book.length ≤ _; omega, h2, by show (putW _ _ _ _ _).log.n < _; omega, by show (putW _ _ _ _ _).log.end_ ≤ _; omega, ?_, by show X.snap.length ≤ _; omega⟩
  dsimp only
  split
  · rw [List.length_append, List.length_singleton]; omega
  · omega

theorem Good.sync {k : Nat} {X : WW} (h : Good k X) : Good (k + 1) (syncX' X).2 := by
  have hb := h.book
  have ha := h.all
  have hsn := h.snap
  exact ⟨h.fit.sync.le (by omega), by show X.M.length ≤ _; omega, h.log, h.num, by show X.l.end_ ≤ _; have := h.fin; omega, by show X.all.length ≤ _; omega, by show X.snap.length ≤ _; omega⟩

theorem armD_fit {i : Nat} {D : DD} (h : Fit i D) {n : Int} (hn : n ≤ 9223372036854775807) : Fit i (armD n D) := by
  unfold armD
  split
  · rename_i h1
    exact h.arm0 h1.2 hn
  · exact h

theorem Good.disk {k : Nat} {X : WW} (h : Good k X) {D : DD} (hf : Fit (20000 * k) D) : Good k { X with D := D } := ⟨hf, h.book, h.log, h.num, h.fin, h.all, h.snap⟩

theorem Good.stepX {k : Nat} {X : WW} (h : Good k X) (hk : k ≤ 1000) (o : WOp) (ho : o.n ≤ 9223372036854775807) : Good (k + 1) (stepX o X).2 := by
  unfold Go.X.stepX
  split
  · exact h.appX hk _
  split
  · exact h.sync
  split
  · exact h.turnX (fewL_length _)
  split
  · exact (h.disk (h.fit.crash0 o.fx)).openX
  · exact (h.disk (armD_fit h.fit ho)).up (Nat.le_succ _)

end Go.X

/-! The laws' world in memory; its steps walked. -/
namespace Go.X
open Go.Proofs Go.ChangeShapes Go.WideShapes Go.RowKit

def worldCells (d b q : Nat) (sa sn : Sl) (X : WW) : List Value :=
  [ptr d, ptr b, ptr q, .slice sa.a sa.len sa.cap, .int .i64 (X.safe : Nat), .bool X.turned, .slice sn.a sn.len sn.cap]

def wparts (p d b q : Nat) (sa sn : Sl) (X : WW) (L : List SP) : List SP :=
  pts p (worldCells d b q sa sn X) :: own 1 sa (strs X.all) :: own 1 sn (strs X.snap) :: LogP q d b X.l :: DiskP d X.D :: BookP b X.M :: L

/-- A world in memory. -/
def WorldP (p : Nat) (X : WW) : SP := ex fun (g : Nat × Nat × Nat × Sl × Sl) => all (wparts p g.1 g.2.1 g.2.2.1 g.2.2.2.1 g.2.2.2.2 X [])

section
variable {W w : World} {L : List SP} {p : Nat} {X : WW}

theorem WorldP.open (hs : Sat W w (WorldP p X :: L)) : ∃ (d b q : Nat) (sa sn : Sl), Sat W w (wparts p d b q sa sn X L) := by
  obtain ⟨⟨d, b, q, sa, sn⟩, h⟩ := hs.open_ex
  exact ⟨d, b, q, sa, sn, h.open_all⟩

theorem WorldP.shut {d b q : Nat} {sa sn : Sl} (hs : Sat W w (wparts p d b q sa sn X L)) : Sat W w (WorldP p X :: L) :=
  Sat.shut_ex (d, b, q, sa, sn) (Sat.shut_all (As := wparts p d b q sa sn X []) hs)

theorem Up_specW {D : DD} {d : Nat} (hs : Sat W w (DiskP d D :: L)) : Ret Tryz.prog F.disk_Disk_Up [ptr d] w fun v w' => v = .bool (!D.off) ∧ Quiet w w' := Up_spec hs

theorem disk_bounds {k : Nat} {X : WW} (h : Good k X) (hk : k ≤ 1000) : X.D.files.length ≤ 2 ^ 30 ∧ X.D.wait.length ≤ 2 ^ 38 := by
  have h1 := h.fit.len
  have h2 := h.fit.waits
  exact ⟨by omega, by omega⟩

/-- world.open. -/
theorem open_spec {k : Nat} (hs : Sat W w (WorldP p X :: L)) (hg : Good k X) (hk : k ≤ 1000) :
    Ret Tryz.prog F.barquelaw15_world_open [ptr p] w fun v w' => v = .bool (openX X).1 ∧ Sat W w' (WorldP p (openX X).2 :: L) := by
  suffices H : ∀ K : Value → World → Prop, (∀ R w', openX X = R → Sat W w' (WorldP p R.2 :: L) → K (.bool R.1) w') → S.barquelaw15_world_open (some ⟨p, 0, none⟩) K w from
    S.barquelaw15_world_open_ok _ _ _ (H _ fun R w' e h => by subst e; exact ⟨rfl, h⟩)
  intro K hK
  unfold openX at hK
  obtain ⟨d, b, q, sa, sn, h⟩ := WorldP.open hs
  have hd := h.drew
  have hfit := hg.fit
  have hg2 := hg.openX
  have hall := hg.all
  have hsnl := hg.snap
  refine xnil (xload hd 0 rfl rfl (xnil (xload hd 1 rfl rfl (xcalls (Open_spec (L := [pts p (worldCells d b q sa sn X), own 1 sa (strs X.all), own 1 sn (strs X.snap), LogP q d b X.l] ++ L) (hd.arr [4, 5]) hfit (by omega)) ?_))))
  rintro v w1 hO
  obtain ⟨h1, h2, h3, h4, h5⟩ := openW_fits hg.fit X.M
  obtain ⟨R, hR⟩ : ∃ R, openW X.D X.M = R := ⟨_, rfl⟩
  rw [hR] at hO hK h1 h2 h3 h4 h5
  dsimp only at hK
  by_cases he : R.err ≠ 0
  · rw [if_pos he] at hK
    obtain ⟨rfl, g⟩ := hO.1 he
    refine ⟨(none, ⟨none, 0, 0⟩, R.err, ()), rfl, XIf.yes (by simpa using he) (hK _ _ rfl (WorldP.shut (d := d) (b := b) (q := q) (sa := sa) (sn := sn) (g.arr [2, 3, 4, 5, 0, 1])))⟩
  rw [if_neg he] at hK
  obtain ⟨p', s, rfl, g⟩ := hO.2 (by simpa using he)
  have g : Sat W w1 (LogP p' d b R.log :: own 1 s (strs R.out) :: DiskP d R.disk :: BookP b X.M :: pts p (worldCells d b q sa sn X) :: own 1 sa (strs X.all) :: own 1 sn (strs X.snap) :: LogP q d b X.l :: L) := g
  have gd := g.drew
  refine ⟨(some ⟨p', 0, none⟩, s, (0 : Int), ()), rfl, XIf.no rfl (xjoin (fun (st : Bool × Unit) w' => st = (decide (beginsL R.out X.all X.safe = false ∧ (X.turned && sameL R.out X.snap) = false), ()) ∧ Sat W w' (LogP p' d b R.log :: own 1 s (strs R.out) :: DiskP d R.disk :: BookP b X.M :: pts p (worldCells d b q sa sn X) :: own 1 sa (strs X.all) :: own 1 sn (strs X.snap) :: LogP q d b X.l :: L)) (fun J hJ => ?_) ?_)⟩
  · refine xnil (xload (gd.bring 4) 3 rfl rfl (xnil (xload (gd.bring 4) 4 rfl rfl (xcall (begins_spec (RdStr.of_own (gd.bring 1)) (RdStr.of_own (gd.bring 5)) (by omega)) ?_))))
    rintro v w2 ⟨rfl, hq2⟩
    have g2 := gd.quiet hq2
    refine ⟨_, rfl, ?_⟩
    by_cases hb : beginsL R.out X.all X.safe = true
    · refine XIf.no (by rw [hb]; rfl) (hJ _ _ ⟨?_, g2⟩)
      have : false = decide (beginsL R.out X.all X.safe = false ∧ (X.turned && sameL R.out X.snap) = false) := (decide_eq_false (by rw [hb]; simp)).symm
      exact Prod.ext this rfl
    have hb' : beginsL R.out X.all X.safe = false := by simpa using hb
    refine XIf.yes (by rw [hb']; rfl) (xnil (xload (g2.bring 4) 5 rfl rfl ?_))
    cases ht : X.turned with
    | false =>
      refine XIf.no rfl (hJ _ _ ⟨?_, g2⟩)
      rw [hb', ht]
      rfl
    | true =>
      refine XIf.yes rfl (xnil (xload (g2.bring 4) 6 rfl rfl (xcall (same_spec (RdStr.of_own (g2.bring 1)) (RdStr.of_own (g2.bring 6)) (by omega)) ?_)))
      rintro v w3 ⟨rfl, hq3⟩
      have g3 := g2.quiet hq3
      refine ⟨_, rfl, ?_, hJ _ _ ⟨?_, g3⟩⟩
      · rw [← ht]
        exact (g3.bring 4).cell rfl
      · rw [hb', ht]
        cases sameL R.out X.snap <;> rfl
  clear gd g hO
  rintro _ w2 ⟨rfl, g⟩
  by_cases hbad : beginsL R.out X.all X.safe = false ∧ (X.turned && sameL R.out X.snap) = false
  · rw [if_pos hbad] at hK
    refine XIf.yes (decide_eq_true hbad) (hK _ _ rfl (WorldP.shut (d := d) (b := b) (q := q) (sa := sa) (sn := sn) (X := { X with D := R.disk }) ?_))
    exact (g.arr [4, 5, 6, 7, 2, 3]).bring 7 |>.drop |> fun h => (h.bring 6).drop
  · rw [if_neg hbad] at hK
    refine XIf.no (decide_eq_false hbad) ?_
    have g := (g.bring 4)
    refine xnil (xstore g 2 rfl (by simp [worldCells]) fun w3 g3 => ?_)
    refine xnew g3 fun c w4 g4 => ?_
    have g4 := cells_str g4 rfl
    have hsl := (g4.bring 3).own_len
    rw [strs_length] at hsl
    refine xappend (sz := 1) (s := ⟨some ⟨c, 0, none⟩, 0, 0⟩) (x := s) (by kernel_rfl) g4 (reads_own (g4.bring 3)) ((g4.bring 3).own_len) (fun h0 => ?_) (strs_one _) (by show 0 + s.len ≤ _; omega) fun s' w5 g5 hl5 => ?_
    · obtain hh := (g4.bring 3).open_own
      rcases hh with ⟨_, _, _, hx, _⟩ | ⟨bb, _, ha, _⟩
      · exact hx
      · rw [ha] at h0; cases h0
    · rw [List.nil_append] at g5
      refine xnil (xstore (g5.bring 1) 3 rfl (by simp [worldCells]) fun w6 g6 => ?_)
      refine xnil (xstore g6 4 rfl (by simp [worldCells]) fun w7 g7 => ?_)
      refine xnil (xstore g7 5 rfl (by simp [worldCells]) fun w8 g8 => ?_)
      refine hK _ w8 rfl (WorldP.shut (d := d) (b := b) (q := p') (sa := s') (sn := sn) (X := { X with D := R.disk, l := R.log, all := R.out, safe := R.out.length, turned := false }) ?_)
      have hsafe : s.len = R.out.length := by omega
      rw [hsafe] at g8
      exact (((g8.arr [0, 1, 7, 2, 4, 5]).bring 6).drop.bring 6).drop.bring 6 |>.drop

/-- world.turn. -/
theorem turn_spec {k : Nat} {s : Sl} {xs : List (List UInt8)} (hs : Sat W w (own 1 s (strs xs) :: WorldP p X :: L)) (hg : Good k X) (hk : k ≤ 1000) (hx : xs.length ≤ 8) :
    Ret Tryz.prog F.barquelaw15_world_turn [ptr p, .slice s.a s.len s.cap] w fun v w' => v = .bool (turnX xs X).1 ∧ Sat W w' (WorldP p (turnX xs X).2 :: L) := by
  suffices H : ∀ K : Value → World → Prop, (∀ R w', turnX xs X = R → Sat W w' (WorldP p R.2 :: L) → K (.bool R.1) w') → S.barquelaw15_world_turn (some ⟨p, 0, none⟩) s K w from
    S.barquelaw15_world_turn_ok _ s _ _ (H _ fun R w' e h => by subst e; exact ⟨rfl, h⟩)
  intro K hK
  unfold turnX at hK
  have hsl := hs.own_len
  rw [strs_length] at hsl
  obtain ⟨d, b, q, sa, sn, h⟩ := WorldP.open hs.swap
  have h : Sat W w (pts p (worldCells d b q sa sn X) :: own 1 sa (strs X.all) :: own 1 sn (strs X.snap) :: LogP q d b X.l :: DiskP d X.D :: BookP b X.M :: own 1 s (strs xs) :: L) := h
  refine xnil (xload h 0 rfl rfl (xcall (Up_specW (h.bring 4)) ?_))
  rintro v w1 ⟨rfl, hq1⟩
  have h := h.quiet hq1
  refine ⟨_, rfl, xnil (xload h 2 rfl rfl (xcall (LogSegment_spec (h.bring 3)) ?_))⟩
  rintro v w2 ⟨rfl, rfl⟩
  refine ⟨(X.l.n : Int), rfl, xnil (xload h 2 rfl rfl (xcall (LogTurn_spec (A := own 1 s (strs xs)) (L := pts p (worldCells d b q sa sn X) :: own 1 sa (strs X.all) :: own 1 sn (strs X.snap) :: L) (ROStr.own xs (by omega)) (h.arr [3, 4, 5, 6]) hg.num hg.fit (by omega) (by have := hg.book; omega) (by omega)) ?_))⟩
  rintro v w3 ⟨rfl, g⟩
  obtain ⟨R, hR⟩ : ∃ R, turnW X.D X.M X.l xs = R := ⟨_, rfl⟩
  rw [hR] at g hK ⊢
  dsimp only at hK
  refine ⟨R.err, rfl, ?_⟩
  by_cases h0 : R.err = 0
  · rw [if_pos h0] at hK
    refine XIf.yes (by simpa using h0) (xnil (xstore (g.bring 4) 3 rfl (by simp [worldCells]) fun w4 g4 => xnil (xstore g4 4 rfl (by simp [worldCells]) fun w5 g5 => xnil (xstore g5 5 rfl (by simp [worldCells]) fun w6 g6 => ?_))))
    have hfin : Sat W w6 (WorldP p { X with D := R.disk, M := R.book, l := R.log, all := xs, safe := xs.length, turned := false } :: L) := by
      have e : xs.length = s.len := by omega
      rw [e]
      refine WorldP.shut (d := d) (b := b) (q := q) (sa := s) (sn := sn) ?_
      exact ((g6.arr [0, 4, 6, 1, 2, 3]).bring 6).drop
    refine xjoin (fun (st : Bool × Unit) w' => st = (!X.D.off && decide (R.log.n = X.l.n + 1), ()) ∧ Sat W w' (WorldP p { X with D := R.disk, M := R.book, l := R.log, all := xs, safe := xs.length, turned := false } :: L)) (fun J hJ => ?_) ?_
    · cases hoff : X.D.off with
      | true =>
        refine XIf.no rfl (hJ _ _ ⟨?_, hfin⟩)
        rw [hoff]
        rfl
      | false =>
        refine XIf.yes rfl (xnil (xload g6 2 rfl rfl (xcall (LogSegment_spec (g6.bring 1)) ?_)))
        rintro v w7 ⟨rfl, rfl⟩
        refine ⟨(R.log.n : Int), rfl, xlet ((X.l.n + 1 : Nat) : Int) (by have := hg.num; show IntKind.wrap .i64 ((X.l.n : Int) + 1) = _; rw [wi (by omega) (by omega)]; omega) (hJ _ _ ⟨?_, hfin⟩)⟩
        rw [hoff]
        have : ((R.log.n : Int) == ((X.l.n + 1 : Nat) : Int)) = (!false && decide (R.log.n = X.l.n + 1)) := by
          rw [Bool.not_false, Bool.true_and, Bool.beq_eq_decide_eq]
          exact decide_eq_decide.2 (by omega)
        exact Prod.ext this rfl
    rintro _ w7 ⟨rfl, h7⟩
    exact hK _ _ rfl h7
  rw [if_neg h0] at hK
  refine XIf.no (by simpa using h0) ?_
  by_cases h14 : R.err = 14
  · rw [if_pos h14] at hK
    refine XIf.yes (by simpa using h14) ?_
    obtain ⟨Y, hY⟩ : ∃ Y, (if X.D.off = false then { X with D := R.disk, M := R.book, l := R.log, turned := true, snap := xs } else { X with D := R.disk, M := R.book, l := R.log }) = Y := ⟨_, rfl⟩
    rw [hY] at hK
    have hYD : Y.D = R.disk := by rw [← hY]; split <;> rfl
    refine xjoin (fun (_ : Unit) w' => Sat W w' (WorldP p Y :: L)) (fun J hJ => ?_) ?_
    · cases hoff : X.D.off with
      | true =>
        rw [if_neg (by rw [hoff]; decide)] at hY
        subst hY
        refine XIf.no rfl (hJ _ _ (WorldP.shut (d := d) (b := b) (q := q) (sa := sa) (sn := sn) ?_))
        exact ((g.arr [4, 5, 6, 0, 1, 2]).bring 6).drop
      | false =>
        rw [if_pos hoff] at hY
        subst hY
        refine XIf.yes rfl (xnil (xstore (g.bring 4) 5 rfl (by simp [worldCells]) fun w4 g4 => xnil (xstore g4 6 rfl (by simp [worldCells]) fun w5 g5 => hJ _ _ (WorldP.shut (d := d) (b := b) (q := q) (sa := sa) (sn := s) ?_))))
        exact ((g5.arr [0, 5, 4, 1, 2, 3]).bring 6).drop
    rintro _ w4 g4
    obtain ⟨d', b', q', sa', sn', g5⟩ := WorldP.open g4
    refine xnil (xload g5 0 rfl rfl (xcall (Up_specW (g5.bring 4)) ?_))
    rintro v w5 ⟨rfl, hq5⟩
    refine ⟨_, rfl, ?_⟩
    rw [hYD, Bool.not_not]
    exact hK _ _ rfl (g4.quiet hq5)
  rw [if_neg h14] at hK
  have hfin : Sat W w3 (WorldP p { X with D := R.disk, M := R.book, l := R.log } :: L) := WorldP.shut (d := d) (b := b) (q := q) (sa := sa) (sn := sn) ((g.arr [4, 5, 6, 0, 1, 2]).bring 6).drop
  refine XIf.no (by simpa using h14) (xjoin (fun (st : Bool × Unit) w' => st = (decide (R.err = 7) && !X.D.off && decide (R.log.n = X.l.n), ()) ∧ w' = w3) (fun J hJ => ?_) ?_)
  · by_cases h7 : R.err = 7
    · rw [decide_eq_true h7] at hJ
      refine XIf.yes (by simpa using h7) ?_
      cases hoff : X.D.off with
      | true =>
        refine XIf.no rfl (hJ _ _ ⟨?_, rfl⟩)
        rw [hoff]
        rfl
      | false =>
        refine XIf.yes rfl (xnil (xload (g.bring 4) 2 rfl rfl (xcall (LogSegment_spec g) ?_)))
        rintro v w7 ⟨rfl, rfl⟩
        refine ⟨(R.log.n : Int), rfl, hJ _ _ ⟨?_, rfl⟩⟩
        rw [hoff]
        have : ((R.log.n : Int) == ((X.l.n : Nat) : Int)) = (true && !false && decide (R.log.n = X.l.n)) := by
          rw [Bool.not_false, Bool.true_and, Bool.true_and, Bool.beq_eq_decide_eq]
          exact decide_eq_decide.2 (by omega)
        exact Prod.ext this rfl
    · rw [decide_eq_false h7] at hJ
      exact XIf.no (by simpa using h7) (hJ _ _ ⟨rfl, rfl⟩)
  rintro _ _ ⟨rfl, rfl⟩
  exact hK _ _ rfl hfin

/-- A call as data, readable. -/
structure WOpOk (W : World) (o : WOp) : Prop where
  n : -9223372036854775808 ≤ o.n ∧ o.n ≤ 9223372036854775807
  snap : ∀ A, ROStr W A o.snap o.sx
  fates : ∀ A, ROInts W A o.fates o.fx

theorem crash_specW {k : Nat} {A : SP} {d : Nat} {s : Sl} {xs : List Int} (hA : ROInts W A s xs) (hg : Good k X) (hk : k ≤ 1000) (hs : Sat W w (DiskP d X.D :: A :: L)) :
    Ret Tryz.prog F.disk_Disk_Crash [ptr d, .slice s.a s.len s.cap] w fun v w' => v = .tuple ⟨[]⟩ ∧ Sat W w' (DiskP d (X.D.crash xs) :: A :: L) :=
  Crash_spec hA hs (disk_bounds hg hk).1 hg.fit.pieces (disk_bounds hg hk).2 fun f hf => Nat.le_trans (hg.fit.last xs f hf) (by decide)

/-- world.step. -/
theorem step_spec {k : Nat} {o : WOp} (ho : WOpOk W o) (hs : Sat W w (WorldP p X :: L)) (hg : Good k X) (hk : k ≤ 999) :
    Ret Tryz.prog F.barquelaw15_world_step [ptr p, .agg ⟨[.int .i64 o.kind, .int .i64 o.n, .string (str o.text), .slice o.snap.a o.snap.len o.snap.cap, .slice o.fates.a o.fates.len o.fates.cap]⟩] w
      fun v w' => v = .bool (stepX o X).1 ∧ Sat W w' (WorldP p (stepX o X).2 :: L) := by
  suffices H : ∀ K : Value → World → Prop, (∀ R w', stepX o X = R → Sat W w' (WorldP p R.2 :: L) → K (.bool R.1) w') → S.barquelaw15_world_step (some ⟨p, 0, none⟩) (o.kind, o.n, str o.text, o.snap, o.fates, ()) K w from
    S.barquelaw15_world_step_ok _ (o.kind, o.n, str o.text, o.snap, o.fates, ()) _ _ (H _ fun R w' e h => by subst e; exact ⟨rfl, h⟩)
  intro K hK
  unfold stepX at hK
  refine xnew hs fun c w1 h => ?_
  obtain ⟨d, b, q, sa, sn, h⟩ := WorldP.open h.swap
  obtain ⟨C, hC⟩ : ∃ C, C = pts c [.int .i64 o.kind, .int .i64 o.n, .string (str o.text), .slice o.snap.a o.snap.len o.snap.cap, .slice o.fates.a o.fates.len o.fates.cap] := ⟨_, rfl⟩
  have h : Sat W w1 (pts p (worldCells d b q sa sn X) :: own 1 sa (strs X.all) :: own 1 sn (strs X.snap) :: LogP q d b X.l :: DiskP d X.D :: BookP b X.M :: C :: L) := by rw [hC]; exact h
  have hall := hg.all
  have hbook := hg.book
  refine xnil (xload h 0 rfl rfl (xcall (Up_specW (h.bring 4)) ?_))
  rintro v w2 ⟨rfl, hq⟩
  have h := h.quiet hq
  have hc := h.bring 6
  rw [hC] at hc
  refine ⟨_, rfl, xload hc 0 rfl rfl ?_⟩
  by_cases h0 : o.kind = 0
  · rw [if_pos h0] at hK
    unfold appX at hK
    refine XIf.yes (by simpa using h0) (xload hc 2 rfl rfl (xcall (cut_spec o.text) ?_))
    rintro v w3 ⟨rfl, rfl⟩
    refine ⟨str (cutL o.text), rfl, xnil (xload h 2 rfl rfl (xcall (LogAppend_spec (L := pts p (worldCells d b q sa sn X) :: own 1 sa (strs X.all) :: own 1 sn (strs X.snap) :: C :: L) (cutL o.text) (h.arr [3, 4, 5]) hg.log hg.fit (by omega) (by omega)) ?_))⟩
    rintro v w3 ⟨rfl, g⟩
    obtain ⟨R, hR⟩ : ∃ R, putW X.D X.M X.l 82 [cutL o.text] = R := ⟨_, rfl⟩
    rw [hR] at g hK ⊢
    dsimp only at hK
    refine ⟨R.err, rfl, ?_⟩
    obtain ⟨Y, hY⟩ : ∃ Y : WW, Y = { X with D := R.disk, M := R.book, l := R.log, all := if R.err = 0 ∨ R.err = 14 ∧ X.D.off = false then X.all ++ [cutL o.text] else X.all } := ⟨_, rfl⟩
    rw [← hY] at hK
    have hYD : Y.D = R.disk := by rw [hY]
    refine xjoin (fun (_ : Unit) w' => Sat W w' (WorldP p Y :: L)) (fun J hJ => ?_) ?_
    · refine xjoin (fun (st : Bool × Unit) w' => st = (decide (R.err = 0 ∨ R.err = 14 ∧ X.D.off = false), ()) ∧ w' = w3) (fun J2 hJ2 => ?_) ?_
      · by_cases e0 : R.err = 0
        · exact XIf.yes (by simpa using e0) (hJ2 _ _ ⟨by rw [decide_eq_true (Or.inl e0)], rfl⟩)
        · refine XIf.no (by simpa using e0) ?_
          by_cases e14 : R.err = 14
          · refine XIf.yes (by simpa using e14) (hJ2 _ _ ⟨?_, rfl⟩)
            have : (!X.D.off) = decide (R.err = 0 ∨ R.err = 14 ∧ X.D.off = false) := by
              cases X.D.off
              · exact (decide_eq_true (Or.inr ⟨e14, rfl⟩)).symm
              · exact (decide_eq_false (by rintro (h | h); exact e0 h; exact absurd h.2 (by decide))).symm
            exact Prod.ext this rfl
          · refine XIf.no (by simpa using e14) (hJ2 _ _ ⟨?_, rfl⟩)
            rw [decide_eq_false (by rintro (h | h); exact e0 h; exact e14 h.1)]
      rintro _ _ ⟨rfl, rfl⟩
      by_cases happ : R.err = 0 ∨ R.err = 14 ∧ X.D.off = false
      · rw [if_pos happ] at hY
        refine XIf.yes (decide_eq_true happ) (xnew g fun z w4 g4 => ?_)
        have g4 := cells_str g4 rfl
        refine xnil (xload (g4.bring 4) 3 rfl rfl ?_)
        have hsl := (g4.bring 5).own_len
        rw [strs_length] at hsl
        refine xappend (sz := 1) (s := ⟨some ⟨z, 0, none⟩, 0, 0⟩) (x := sa) (by kernel_rfl) g4 (reads_own (g4.bring 5)) ((g4.bring 5).own_len) (fun h0 => ?_) (strs_one _) (by show 0 + sa.len ≤ _; omega) fun s' w5 g5 hl5 => ?_
        · rcases (g4.bring 5).open_own with ⟨_, _, _, hx, _⟩ | ⟨bb, _, ha, _⟩
          · exact hx
          · rw [ha] at h0; cases h0
        rw [List.nil_append] at g5
        have hl5' : s'.len = sa.len := by rw [hl5]; exact Nat.zero_add _
        refine xappend1 (sz := 1) (by kernel_rfl) g5 rfl rfl (by omega) fun z2 s2 w6 g6 hl6 => ?_
        refine xnil (xstore (g6.bring 4) 3 rfl (by simp [worldCells]) fun w7 g7 => hJ _ _ (WorldP.shut (d := d) (b := b) (q := q) (sa := s2) (sn := sn) ?_))
        rw [hY]
        have g7 : Sat W w7 (pts p ((worldCells d b q sa sn X).set 3 (.slice s2.a s2.len s2.cap)) :: own 1 s2 (strs (X.all ++ [cutL o.text])) :: LogP q d b R.log :: DiskP d R.disk :: BookP b R.book :: own 1 sa (strs X.all) :: own 1 sn (strs X.snap) :: C :: L) := by
          rw [strs_append]; exact g7
        exact (((g7.arr [0, 1, 6, 2, 3, 4]).bring 6).drop.bring 6).drop
      · rw [if_neg happ] at hY
        refine XIf.no (decide_eq_false happ) (hJ _ _ (WorldP.shut (d := d) (b := b) (q := q) (sa := sa) (sn := sn) ?_))
        rw [hY]
        exact ((g.arr [3, 4, 5, 0, 1, 2]).bring 6).drop
    clear g h hc
    rintro _ w4 g4
    refine xjoin (fun (st : Bool × Unit) w' => st = (decide (R.err = 0) && !X.D.off || decide (R.err = 14) && R.disk.off || decide (R.err = 7) && !X.D.off, ()) ∧ Sat W w' (WorldP p Y :: L)) (fun J hJ => ?_) ?_
    · have hup : ∀ (J' : Bool × Unit → World → Prop) (N : Bool → World → Prop), (∀ w', Quiet w4 w' → N (!R.disk.off) w') → XNil (some ⟨p, 0, none⟩) fun a21 => XLoad .ptr a21 w4 fun (x22 : Option Addr) => XCall Tryz.prog F.disk_Disk_Up [.pointer x22] (.leaf .bool) w4 fun (x23 : Bool) w24 => N x23 w24 := by
        intro J' N hN
        obtain ⟨d', b', q', sa', sn', g5⟩ := WorldP.open g4
        refine xnil (xload g5 0 rfl rfl (xcall (Up_specW (g5.bring 4)) ?_))
        rintro v w5 ⟨rfl, hq5⟩
        refine ⟨_, rfl, ?_⟩
        rw [hYD]
        exact hN _ hq5
      by_cases e0 : R.err = 0
      · refine XIf.yes (by simpa using e0) ?_
        have n14 : ¬ R.err = 14 := by omega
        have n7 : ¬ R.err = 7 := by omega
        rw [decide_eq_true e0, decide_eq_false n14, decide_eq_false n7] at hJ
        cases hoff : X.D.off with
        | false => exact XIf.yes rfl (hJ _ _ ⟨by rw [hoff]; rfl, g4⟩)
        | true =>
          refine XIf.no rfl (XIf.no (by simpa using n14) (XIf.no (by simpa using n7) (hJ _ _ ⟨by rw [hoff]; rfl, g4⟩)))
      · refine XIf.no (by simpa using e0) ?_
        rw [decide_eq_false e0] at hJ
        by_cases e14 : R.err = 14
        · have n7 : ¬ R.err = 7 := by omega
          rw [decide_eq_true e14, decide_eq_false n7] at hJ
          refine XIf.yes (by simpa using e14) (hup J _ fun w5 hq5 => ?_)
          cases ho : R.disk.off with
          | true => exact XIf.yes rfl (hJ _ _ ⟨by rw [ho]; rfl, g4.quiet hq5⟩)
          | false => exact XIf.no rfl (XIf.no (by simpa using n7) (hJ _ _ ⟨by rw [ho]; rfl, g4.quiet hq5⟩))
        · rw [decide_eq_false e14] at hJ
          refine XIf.no (by simpa using e14) ?_
          by_cases e7 : R.err = 7
          · rw [decide_eq_true e7] at hJ
            exact XIf.yes (by simpa using e7) (hJ _ _ ⟨by simp, g4⟩)
          · rw [decide_eq_false e7] at hJ
            exact XIf.no (by simpa using e7) (hJ _ _ ⟨rfl, g4⟩)
    rintro _ w5 ⟨rfl, g5⟩
    exact hK _ _ rfl g5
  rw [if_neg h0] at hK
  refine XIf.no (by simpa using h0) ?_
  by_cases h1 : o.kind = 1
  · rw [if_pos h1] at hK
    unfold syncX' at hK
    refine XIf.yes (by simpa using h1) (xnil (xload h 2 rfl rfl (xcall (LogSync_spec (L := pts p (worldCells d b q sa sn X) :: own 1 sa (strs X.all) :: own 1 sn (strs X.snap) :: BookP b X.M :: C :: L) (h.arr [3, 4]) hg.fit (by omega)) ?_)))
    rintro v w3 ⟨rfl, g⟩
    obtain ⟨R, hR⟩ : ∃ R, X.D.sync = R := ⟨_, rfl⟩
    rw [hR] at g hK ⊢
    dsimp only at hK
    refine ⟨R.1, rfl, ?_⟩
    obtain ⟨Y, hY⟩ : ∃ Y : WW, Y = { X with D := R.2, safe := if R.1 = 0 then X.all.length else X.safe } := ⟨_, rfl⟩
    rw [← hY] at hK
    refine xjoin (fun (_ : Unit) w' => Sat W w' (WorldP p Y :: L)) (fun J hJ => ?_) ?_
    · by_cases e0 : R.1 = 0
      · rw [if_pos e0] at hY
        have hsl := (g.bring 3).own_len
        rw [strs_length] at hsl
        have hsl' : X.all.length = sa.len := by omega
        refine XIf.yes (by simpa using e0) (xnil (xload (g.bring 2) 3 rfl rfl (xnil (xstore (g.bring 2) 4 rfl (by simp [worldCells]) fun w4 g4 => hJ _ _ (WorldP.shut (d := d) (b := b) (q := q) (sa := sa) (sn := sn) ?_)))))
        rw [hY, hsl']
        exact ((g4.arr [0, 3, 4, 1, 2, 5]).bring 6).drop
      · rw [if_neg e0] at hY
        refine XIf.no (by simpa using e0) (hJ _ _ (WorldP.shut (d := d) (b := b) (q := q) (sa := sa) (sn := sn) ?_))
        rw [hY]
        exact ((g.arr [2, 3, 4, 0, 1, 5]).bring 6).drop
    rintro _ w4 g4
    refine xjoin (fun (st : Bool × Unit) w' => st = (decide (R.1 = 0) == !X.D.off && (!X.D.off || decide (R.1 = 14)), ()) ∧ w' = w4) (fun J hJ => ?_) ?_
    · rw [show ((R.1 : Int) == 0) = decide (R.1 = 0) from Bool.beq_eq_decide_eq _ _]
      by_cases hb : (decide (R.1 = 0) == !X.D.off) = true
      · rw [hb] at hJ ⊢
        refine XIf.yes rfl ?_
        cases hoff : X.D.off with
        | false => exact XIf.yes rfl (hJ _ _ ⟨by rw [hoff]; rfl, rfl⟩)
        | true =>
          refine XIf.no rfl (hJ _ _ ⟨?_, rfl⟩)
          rw [hoff]
          have : ((R.1 : Int) == 14) = decide (R.1 = 14) := Bool.beq_eq_decide_eq _ _
          rw [this]
          simp
      · have hb' : (decide (R.1 = 0) == !X.D.off) = false := by simpa using hb
        rw [hb'] at hJ ⊢
        exact XIf.no rfl (hJ _ _ ⟨rfl, rfl⟩)
    rintro _ _ ⟨rfl, rfl⟩
    exact hK _ _ rfl g4
  rw [if_neg h1] at hK
  refine XIf.no (by simpa using h1) ?_
  by_cases h2 : o.kind = 2
  · rw [if_pos h2] at hK
    refine XIf.yes (by simpa using h2) (xload hc 3 rfl rfl (xcall (few_spec (ho.snap _) (h.bring 6)) ?_))
    rintro v w3 ⟨s', rfl, g⟩
    have g : Sat W w3 (own 1 s' (strs (fewL o.sx)) :: C :: pts p (worldCells d b q sa sn X) :: own 1 sa (strs X.all) :: own 1 sn (strs X.snap) :: LogP q d b X.l :: DiskP d X.D :: BookP b X.M :: L) := g
    have g1 : Sat W w3 (own 1 s' (strs (fewL o.sx)) :: WorldP p X :: L) := (WorldP.shut (d := d) (b := b) (q := q) (sa := sa) (sn := sn) ((g.arr [2, 3, 4, 5, 6, 7, 0]).bring 7).drop).swap
    refine ⟨s', rfl, xcall (turn_spec g1 hg (by omega) (fewL_length _)) ?_⟩
    rintro v w4 ⟨rfl, g4⟩
    exact ⟨_, rfl, hK _ _ rfl g4⟩
  rw [if_neg h2] at hK
  refine XIf.no (by simpa using h2) ?_
  have hcd := hc.drew
  have hd := h.drew
  by_cases h3 : o.kind = 3
  · rw [if_pos h3] at hK
    refine XIf.yes (by simpa using h3) (xnil (xload hd 0 rfl rfl (xload hcd 4 rfl rfl (xcalls (crash_specW (ho.fates _) hg (by omega) (hd.arr [4, 6])) ?_))))
    rintro v w3 ⟨rfl, g⟩
    have g : Sat W w3 (DiskP d (X.D.crash o.fx) :: C :: pts p (worldCells d b q sa sn X) :: own 1 sa (strs X.all) :: own 1 sn (strs X.snap) :: LogP q d b X.l :: BookP b X.M :: L) := g
    have g1 : Sat W w3 (WorldP p { X with D := X.D.crash o.fx } :: L) := WorldP.shut (d := d) (b := b) (q := q) (sa := sa) (sn := sn) ((g.arr [2, 3, 4, 5, 0, 6]).bring 6).drop
    refine ⟨(), rfl, xcall (open_spec g1 (hg.disk (hg.fit.crash0 o.fx)) (by omega)) ?_⟩
    rintro v w4 ⟨rfl, g4⟩
    exact ⟨_, rfl, hK _ _ rfl g4⟩
  rw [if_neg h3] at hK
  refine XIf.no (by simpa using h3) (xnil (xload hd 0 rfl rfl (xload hcd 1 rfl rfl (xcall (Arm_spec o.n (hd.bring 4)) ?_))))
  rintro v w3 ⟨a1, a2, a3⟩
  have hfin : ∀ (D' : DD), armD o.n X.D = D' → Sat W w3 (DiskP d D' :: pts p (worldCells d b q sa sn X) :: own 1 sa (strs X.all) :: own 1 sn (strs X.snap) :: LogP q d b X.l :: BookP b X.M :: C :: L) → K (.bool true) w3 := by
    intro D' e g
    refine hK _ _ rfl (WorldP.shut (d := d) (b := b) (q := q) (sa := sa) (sn := sn) ?_)
    rw [e]
    exact ((g.arr [1, 2, 3, 4, 0, 5]).bring 6).drop
  cases hoff : X.D.off with
  | true =>
    obtain ⟨rfl, g⟩ := a1 hoff
    exact ⟨(14 : Int), rfl, hfin _ (by unfold armD; rw [if_neg (by rw [hoff]; simp)]) g⟩
  | false =>
    by_cases hn : o.n < 0
    · obtain ⟨rfl, g⟩ := a2 hoff hn
      exact ⟨(1 : Int), rfl, hfin _ (by unfold armD; rw [if_neg (by omega)]) g⟩
    · obtain ⟨rfl, g⟩ := a3 hoff (by omega)
      exact ⟨(0 : Int), rfl, hfin _ (by unfold armD; rw [if_pos ⟨hoff, by omega⟩]) g⟩

end
end Go.X
