import Derived.Test.YtmbiffmfcloepaaGreatDoorWHolds
import Derived.Test.YtmbiffmfcloepaaGreatDoorWAll
import Derived.Test.YtmbiffmfcloepaaGreatDoorDOp

/-! The laws' world is laid; the document's example. -/
namespace Go.X
open Go.Proofs Go.ChangeShapes Go.WideShapes Go.RowKit

/-- The world that is laid. -/
def X0 (n : Nat) : WW := ⟨(formatW (DD.empty n) []).disk, (formatW (DD.empty n) []).book, (formatW (DD.empty n) []).log, [], 0, false, []⟩

theorem X0_up {n : Nat} (h1 : 1 ≤ n) (h2 : n ≤ 300) : XUp 1 (X0 n) ∧ (X0 n).D.fuse = -1 ∧ (X0 n).D.most = n ∧ (X0 n).M.length ≤ 1 := by
  obtain ⟨e1, f, P, m, e2, e3, e4, e5, e6, e7⟩ := format_new h1 h2
  exact ⟨⟨1, f, 0, [[69]], [], [], P, m, [], [], m, Nat.le_refl _, e2, by show (formatW (DD.empty n) []).log = _; rw [e4]; simp, rfl, Nat.le_refl _⟩, e6, e7, e5⟩

theorem format_fit {i : Nat} {D : DD} (hf : Fit i D) (M : Bk) : Fit (i + 1510) (formatW D M).disk ∧ LGok (formatW D M).log ∧ (formatW D M).book.length ≤ M.length + 1 ∧ (formatW D M).log.n = 1 ∧ (formatW D M).log.end_ ≤ 2 ^ 24 := by
  unfold formatW
  split
  · exact ⟨hf.monoN _, ⟨by show (1 : Nat) ≤ _; decide, Nat.zero_le _, by show (firstM 1).length ≤ _; rw [firstM_len]; decide⟩, Nat.le_succ _, rfl, Nat.zero_le _⟩
  · obtain ⟨h1, h2, h3⟩ := beginW_fit (dropAll_fit (segsW D) hf) M 1 (by decide) [] (by decide)
    exact ⟨h1.cast (by simp), h2, by simpa using h3, beginW_n _ _ _ _, beginW_end _ _ _ _ (by decide)⟩

theorem X0_good {n : Nat} (h2 : n ≤ 300) : Good 1 (X0 n) := by
  obtain ⟨h1, h3, h4, h5, h6⟩ := format_fit (Fit.empty (n : Int) (by omega) (by omega)) []
  exact ⟨h1.le (by omega), by show (formatW (DD.empty n) []).book.length ≤ _; simp only [List.length_nil] at h4; omega, h3, by show (formatW (DD.empty n) []).log.n < _; rw [h5]; decide, by show (formatW (DD.empty n) []).log.end_ ≤ _; omega, by show (0 : Nat) ≤ _; omega, by show (0 : Nat) ≤ _; omega⟩

/-- A crash that loses all that waited. -/
theorem Up.crash_nil {D : DD} {M : Bk} {n E0 : Nat} {f : DF} {rs0 out0 tt1 : List (List UInt8)} {P m0 m1 : List UInt8} {cs : List (List (List UInt8))} {ts : List (List UInt8)} (h : Up D M n f E0 rs0 out0 tt1 P m0 cs ts m1) {Q : List (List UInt8) → Prop} (hQ : Q out0) :
    Clean (D.crash []) M Q n (reborn f) rs0 P m0 out0 ∧ (D.crash []).fuse = -1 ∧ (D.crash []).count = D.count := by
  have hfl : (D.crash []).files = [reborn f] := by
    unfold DD.crash
    rw [h.files]
    simp only [List.map_cons, List.map_nil, fates_none]
  have hl : (reborn f).last = pad P E0 := h.last
  have hpl : pad P E0 = pad P (pad P E0).length := by
    rw [pad_length]
    unfold pad
    congr 2
    omega
  refine ⟨⟨⟨rfl, rfl, by rw [hfl]; exact rising_one _, h.made, h.most, Int.le_refl _, ?_, h.name, rfl, by rw [hl]; exact found_pad h.enc0 _, h.core, hQ, .inl hfl⟩, hfl, by rw [hl]; exact hpl⟩, rfl, rfl⟩
  rw [hfl]
  show ((takesAll [reborn f] : Nat) : Int) ≤ D.most
  have e : (reborn f).takes = secs (max P.length E0) := by
    show secs (max (reborn f).seen.length (reborn f).last.length) = _
    rw [show (reborn f).seen = f.last from rfl, show (reborn f).last = f.last from rfl, Nat.max_self, h.last, pad_length]
  have hr := h.room
  rw [h.takes] at hr
  simp only [takesAll, e, Nat.add_zero]
  have : secs (max P.length E0) ≤ secs (max (P.length + ts.flatten.length) E0) := by unfold secs; omega
  omega

/-- Opening a clean device. -/
theorem Clean.open {D : DD} {M : Bk} {Q : List (List UInt8) → Prop} {n : Nat} {f : DF} {rs : List (List UInt8)} {bs m : List UInt8} {out : List (List UInt8)} (h : Clean D M Q n f rs bs m out) (hn : n ≤ 1000000) (hM : M.length < 65536) (hf : D.fuse = -1) :
    (openW D M).err = 0 ∧ (openW D M).out = out ∧ (openW D M).disk = D ∧ (openW D M).log = ⟨n, bs.length, m⟩ := by
  rcases open_rec h.rec_ hn hM with ⟨e1, ⟨n', f', rs', bs', m', e2, e3, e4⟩, e5, e6⟩ | ⟨e0, _⟩
  · obtain ⟨e7, e8⟩ := e6 h.one
    refine ⟨e1, e7, e8 h.pads, ?_⟩
    have hlog : (openW D M).log = LD.log ⟨bs.length, m, true, out⟩ n := by
      unfold openW
      rw [if_neg (by rw [h.rec_.off]; decide), segsW_one h.one h.rec_.name (by omega)]
      unfold openL
      rw [loadW_mid (A := []) (B := []) h.one h.rec_.rising h.rec_.off h.rec_.name M, h.rec_.same, h.rec_.found.load h.rec_.core]
      rfl
    exact hlog
  · exact absurd hf e0

section
variable {W w : World} {L : List SP}

theorem laid_spec {n : Nat} (h1 : 10 ≤ n) (h2 : n ≤ 300) (hs : Sat W w L) : Ret Tryz.prog F.barquelaw15_laid [.int .i64 (n : Nat)] w fun v w' => ∃ p, v = ptr p ∧ Sat W w' (WorldP p (X0 n) :: L) := by
  suffices H : ∀ K : Value → World → Prop, (∀ p w', Sat W w' (WorldP p (X0 n) :: L) → K (ptr p) w') → S.barquelaw15_laid n K w from
    S.barquelaw15_laid_ok _ _ _ (H _ fun p w' h => ⟨p, rfl, h⟩)
  intro K hK
  refine xcalls (New_yes n (by omega) (by omega) hs) ?_
  rintro v w1 ⟨d, rfl, h⟩
  refine ⟨(some ⟨d, 0, none⟩, (0 : Int), ()), rfl, xcall (Ideal_spec h) ?_⟩
  rintro v w2 ⟨b, rfl, h⟩
  refine ⟨some ⟨b, 0, none⟩, rfl, xjoin0 (XIf.no rfl (XIf.no rfl (xcalls (Format_spec h.swap (Fit.empty (n : Int) (by omega) (by omega)) (by decide) (by decide)) ?_)))⟩
  rintro v w3 ⟨_, hb⟩
  obtain ⟨q, rfl, g⟩ := hb (format_new (by omega) h2).1
  refine ⟨(some ⟨q, 0, none⟩, (0 : Int), ()), rfl, XIf.no rfl (xnew g fun p w4 g4 => hK p w4 (WorldP.shut (d := d) (b := b) (q := q) (sa := ⟨none, 0, 0⟩) (sn := ⟨none, 0, 0⟩) ?_))⟩
  have g5 := ((g4.own_nil (sz := 1)).own_nil (sz := 1))
  exact ((g5.arr [2, 0, 1, 3, 4, 5]).bring 6).drop

/-- What is appended where there is room. -/
theorem put_room {D : DD} {M : Bk} {n E0 : Nat} {f : DF} {rs0 out0 tt1 : List (List UInt8)} {P m0 m1 : List UInt8} {cs : List (List (List UInt8))} {ts : List (List UInt8)} (h : Up D M n f E0 rs0 out0 tt1 P m0 cs ts m1) (hfu : D.fuse = -1) {s : List UInt8} (hs : s.length ≤ 4096)
    (hroom : (secs (P.length + ts.flatten.length + (37 + s.length)) : Int) ≤ D.most) {R : PR4} (hR : putW D M ⟨n, P.length + ts.flatten.length, m1⟩ 82 [s] = R) :
    R.err = 0 ∧ R.book.length ≤ M.length + 1 ∧ R.disk.fuse = -1 ∧ R.disk.most = D.most ∧ ∃ f' b m2, Up R.disk R.book n f' E0 rs0 out0 (tt1 ++ [s]) P m0 (cs ++ [[82 :: s]]) (ts ++ [b]) m2 ∧ b.length = 37 + s.length ∧ R.log = ⟨n, P.length + (ts ++ [b]).flatten.length, m2⟩ := by
  obtain ⟨Xb, b, m2, b1, b2, b3, b4, b5⟩ := put_up h (by omega) hR
  rw [b4] at b5
  rcases b5 with ⟨e1, e2, e3, e4⟩ | ⟨e1, ⟨f', e2⟩, e3, e4, e5, _⟩ | ⟨e1, e2, _⟩
  · exfalso; omega
  · exact ⟨e1, by rw [b1, List.length_append]; omega, e4 hfu, e5, f', b, m2, e2, b4, e3⟩
  · exact absurd hfu e2

theorem awake_spec (hs : Sat W w L) : Ret Tryz.prog F.barquelaw15_awake [] w fun v w' => v = .bool true ∧ Sat W w' L := by
  suffices H : ∀ K : Value → World → Prop, (∀ w', Sat W w' L → K (.bool true) w') → S.barquelaw15_awake K w from S.barquelaw15_awake_ok _ _ (H _ fun _ h => ⟨rfl, h⟩)
  intro K hK
  refine xcalls (New_yes 100 (by decide) (by decide) hs) ?_
  rintro v w1 ⟨d, rfl, h⟩
  refine ⟨(some ⟨d, 0, none⟩, (0 : Int), ()), rfl, xcall (Ideal_spec h) ?_⟩
  rintro v w2 ⟨b, rfl, h⟩
  have hfit0 := Fit.empty 100 (by decide) (by decide)
  refine ⟨some ⟨b, 0, none⟩, rfl, xcalls (Format_spec h.swap hfit0 (by decide) (by decide)) ?_⟩
  rintro v w3 ⟨_, hb⟩
  obtain ⟨e1, f, P, m, e2, e3, e4, e5, e6, e7⟩ := format_new (n := 100) (by decide) (by decide)
  obtain ⟨q, rfl, g⟩ := hb e1
  obtain ⟨hF1, hF2, _, _, hF3⟩ := format_fit hfit0 []
  have g : Sat W w3 (LogP q d b (formatW (DD.empty (100 : Nat)) []).log :: DiskP d (formatW (DD.empty (100 : Nat)) []).disk :: BookP b (formatW (DD.empty (100 : Nat)) []).book :: emp :: L) := g
  have hF1 : Fit (0 + 1510) (formatW (DD.empty (100 : Nat)) []).disk := hF1
  have hF2 : LGok (formatW (DD.empty (100 : Nat)) []).log := hF2
  obtain ⟨B0, hB0⟩ : ∃ B0, formatW (DD.empty (100 : Nat)) [] = B0 := ⟨_, rfl⟩
  rw [hB0] at g e2 e4 e5 e6 e7 hF1 hF2
  refine ⟨(some ⟨q, 0, none⟩, (0 : Int), ()), rfl, ?_⟩
  -- a
  have hend : B0.log.end_ ≤ 2 ^ 24 := by rw [e4]; show P.length ≤ _; omega
  refine xcall (LogAppend_spec [97] g hF2 hF1 (by decide) (by omega)) ?_
  rintro v w4 ⟨rfl, g⟩
  obtain ⟨R1, hR1⟩ : ∃ R1, putW B0.disk B0.book B0.log 82 [[97]] = R1 := ⟨_, rfl⟩
  have hfit1 := putW_fit hF1 B0.book B0.log hF2 (by omega) 82 [[97]] (show (1 : Nat) ≤ _ by decide)
  rw [hR1] at g hfit1 ⊢
  obtain ⟨hF1, hF2, _, hend1, _⟩ := hfit1
  rw [e4] at hR1
  have hp1 := put_room e2 e6 (s := [97]) (by decide) (by rw [e7, e3]; decide) (R := R1) (by rw [← hR1]; simp)
  obtain ⟨a1, a2, a3, a4, f1, b1, m1, a5, a6, a7⟩ := hp1
  refine ⟨R1.err, rfl, ?_⟩
  rw [a1]
  -- sync
  refine xcall (LogSync_spec g hF1 (by decide)) ?_
  rintro v w5 ⟨rfl, g⟩
  obtain ⟨s1, f2, s2, s3, s4, _⟩ := sync_up a5
  have hF3 := hF1.sync
  rw [s1]
  refine ⟨(0 : Int), rfl, ?_⟩
  -- b
  have hend2 : R1.log.end_ ≤ 2 ^ 39 := by simp only [List.length_singleton] at hend1; omega
  have hM1 : R1.book.length ≤ 2 ^ 39 := by omega
  refine xcall (LogAppend_spec [98] g hF2 hF3 (by decide) hM1) ?_
  rintro v w6 ⟨rfl, g⟩
  obtain ⟨R2, hR2⟩ : ∃ R2, putW R1.disk.sync.2 R1.book R1.log 82 [[98]] = R2 := ⟨_, rfl⟩
  have hfit2 := putW_fit hF3 R1.book R1.log hF2 hend2 82 [[98]] (show (1 : Nat) ≤ _ by decide)
  rw [hR2] at g hfit2 ⊢
  obtain ⟨hF4, hF5, _⟩ := hfit2
  rw [a7] at hR2
  have hPl : (P ++ ([] ++ [b1]).flatten).length = 75 := by simp [e3, a6]
  have hp2 := put_room s2 (by rw [s3]; exact a3) (s := [98]) (by decide) (by rw [s4, a4, e7, hPl]; decide) (R := R2) (by rw [← hR2]; simp)
  obtain ⟨c1, c2, c3, c4, f3, b2, m2, c5, c6, c7⟩ := hp2
  refine ⟨R2.err, rfl, ?_⟩
  -- crash
  have hlen : R2.disk.files.length ≤ 2 ^ 30 := Nat.le_trans hF4.len (by decide)
  have hwait : R2.disk.wait.length ≤ 2 ^ 38 := Nat.le_trans hF4.waits (by decide)
  refine xcalls (Crash_spec (s := ⟨none, 0, 0⟩) (none_ints emp) (g.arr [1, 3]) hlen hF4.pieces hwait fun f hf => Nat.le_trans (hF4.last [] f hf) (by decide)) ?_
  rintro v w7 ⟨rfl, g⟩
  have g : Sat W w7 (DiskP d (R2.disk.crash []) :: emp :: LogP q d b R2.log :: BookP b R2.book :: L) := g
  obtain ⟨k1, k2, _⟩ := c5.crash_nil (Q := fun _ => True) trivial
  have hM2 : R2.book.length < 65536 := by omega
  obtain ⟨o1, o2, _⟩ := k1.open (by decide) hM2 k2
  refine ⟨(), rfl, xcalls (Open_spec (L := [emp, LogP q d b R2.log] ++ L) (g.arr [0, 3]) (hF4.crash0 []) (by decide)) ?_⟩
  rintro v w8 ⟨_, hO⟩
  obtain ⟨q', s, rfl, g⟩ := hO o1
  rw [o2] at g
  refine ⟨(some ⟨q', 0, none⟩, s, (0 : Int), ()), rfl, ?_⟩
  have hsl := (g.bring 1).own_len
  simp only [List.nil_append, List.length_map, List.length_cons, List.length_nil] at hsl
  refine xjoin0 (XIf.yes rfl (XIf.yes rfl (XIf.yes rfl (XIf.yes rfl (XIf.yes (beq_iff_eq.2 (show ((s.len : Nat) : Int) = 1 by omega)) ?_)))))
  refine xelem (g.bring 1) 0 rfl (x := str [97]) rfl rfl fun a => ?_
  rw [show sEq (str [97]) ⟨#[97]⟩ = true from sEq_self _]
  exact hK _ ((((((g.drop).drop).drop).drop).drop).drop)

end
end Go.X

/-! The laws' arguments: lists of texts, lists of calls. -/
namespace Go.X
open Go.Proofs Go.ChangeShapes Go.WideShapes Go.RowKit


section
variable {H : Type} {enc : TypeId × Value → H} {P : Program}

/-- A list of texts, out of its cells. -/
theorem strs_of_trod {W : World} {t e : TypeId} {cs : List Value} {x : DataW H × List MemPlace} {fuel : Nat} (ht : P.underlying t = some (.slice e)) (he : P.underlying e = some .string) (hc : P.cellsOf e = 1)
    (h : DataW.trod enc P W 0 (fun _ => true) true fuel t cs = some x) : ∃ (s : Sl) (xs : List (List UInt8)), cs = [.slice s.a s.len s.cap] ∧ s.len ≤ maxLen ∧ ∀ A, ROStr W A s xs := by
  rcases DataW.trod_slice ht h with ⟨hn, _⟩ | ⟨b, len, cap, elems, rest, n, _, hn, _, _, hlc, hcm, hel, hget, _⟩
  · exact ⟨⟨none, 0, 0⟩, [], hn, Nat.zero_le _, fun A => ⟨rfl, fun _ _ _ k x hx => by simp at hx⟩⟩
  · have each : ∀ i, i < len → ∃ y : List UInt8, W.cell? ((b.add (i * 1)).add 0) = some (.string (str y)) := by
      intro i hi
      have hg := hget i hi
      rw [hc, List.getElem?_eq_getElem (by omega)] at hg
      obtain ⟨cs, hcs, htr⟩ := Option.bind_eq_some_iff.1 hg
      obtain ⟨s, rfl, _, _⟩ := DataW.trod_string he htr
      obtain ⟨_, hcl, hcell⟩ := World.cells?_some hcs
      refine ⟨s.data.toList, ?_⟩
      rw [hcell 0 (by omega), str_data]
      rfl
    obtain ⟨os, hol, hop⟩ := choose_list (l := List.range len) (p := fun i (y : List UInt8) => W.cell? ((b.add (i * 1)).add 0) = some (.string (str y))) fun i hi => each i (by simpa using hi)
    rw [List.length_range] at hol
    refine ⟨⟨some b, len, cap⟩, os, hn, Nat.le_trans hlc hcm, fun A => ⟨hol, fun w L hw k o ho => ?_⟩⟩
    have hkl := (List.getElem?_eq_some_iff.1 ho).1
    have hk := hop k k o (by rw [List.getElem?_range (by omega)]) ho
    have h0 := hop 0 0 os[0] (by rw [List.getElem?_range (by omega)]) (List.getElem?_eq_getElem (by omega))
    obtain ⟨b0, off, rfl⟩ : ∃ b0 off, b = ⟨b0, off, none⟩ := by
      obtain ⟨b0, off, sp⟩ := b
      cases sp with
      | none => exact ⟨b0, off, rfl⟩
      | some sp =>
        unfold World.cell? at h0
        simp only [Nat.zero_mul, Addr.add, if_true] at h0
        split at h0 <;> simp at h0
    rw [Addr.add_mk, Addr.add_mk, Nat.mul_one, Nat.add_zero] at hk
    exact ⟨b0, off, rfl, hw.old_cell hk⟩

/-- An argument that is a list of texts. -/
theorem open_strsA {W : World} {t e : TypeId} {v : Value} {d : DataW H} {ps : List MemPlace} {base : Nat} (ht : P.underlying t = some (.slice e)) (he : P.underlying e = some .string) (hc : P.cellsOf e = 1)
    (hval : Value.okWide P W .any base t v) (h : DataW.Trod enc P W 0 (fun _ => true) true t v d ps) : ∃ (s : Sl) (xs : List (List UInt8)), v = .slice s.a s.len s.cap ∧ s.len ≤ maxLen ∧ ∀ A, ROStr W A s xs := by
  obtain ⟨a, len, cap, rfl⟩ := okWide_slice ht hval
  obtain ⟨fuel, h⟩ := h
  obtain ⟨s, xs, hs, hl, hr⟩ := strs_of_trod ht he hc h
  simp only [Value.cells, List.cons.injEq, Value.slice.injEq, and_true] at hs
  obtain ⟨rfl, rfl, rfl⟩ := hs
  exact ⟨⟨s.a, s.len, s.cap⟩, xs, rfl, hl, hr⟩

def wopCells (o : WOp) : List Value := [.int .i64 o.kind, .int .i64 o.n, .string (str o.text), .slice o.snap.a o.snap.len o.snap.cap, .slice o.fates.a o.fates.len o.fates.cap]

/-- Calls that can be read wherever a part of memory stands. -/
def ROWOps (W : World) (A : SP) (s : Sl) (os : List WOp) : Prop :=
  os.length = s.len ∧ (∀ o ∈ os, WOpOk W o) ∧ ∀ (w : World) (L : List SP), Sat W w (A :: L) → ∀ k o, os[k]? = some o → ∃ b off, s.a = some ⟨b, off, none⟩ ∧ ∀ j v, (wopCells o)[j]? = some v → w.cell? ⟨b, off + (k * 5 + j), none⟩ = some v

def fStrs (P : Program) (f : Field) (o : Nat) : Bool := Nat.beq f.offset o && Nat.beq (P.cellsOf f.type) 1 && (match under P f.type with
  | some (.slice e) => Nat.beq (P.cellsOf e) 1 && (match under P e with
    | some .string => true
    | _ => false)
  | _ => false)

def wopTypesB (P : Program) (t : TypeId) : Bool :=
  match under P t with
  | some (.slice e) => Nat.beq (P.cellsOf e) 5 && (match under P e with
    | some (.struct ⟨[f0, f1, f2, f3, f4]⟩) => fInt P f0 0 && fInt P f1 1 && fStr P f2 2 && fStrs P f3 3 && fInts P f4 4
    | _ => false)
  | _ => false

def WOpTypes (P : Program) (t : TypeId) : Prop := wopTypesB P t = true
theorem wopTypes_of {P : Program} {t : TypeId} (h : wopTypesB P t = true) : WOpTypes P t := h

theorem fStrs_spec {W : World} {f : Field} {o n : Nat} {cs : List Value} {c : Value} {x : Option (DataW H × List MemPlace)} {y : DataW H × List MemPlace} (hf : fStrs P f o = true) (hc : (cs.drop o).take 1 = [c])
    (h : DataW.trod enc P W 0 (fun _ => true) true n f.type ((cs.drop f.offset).take (P.cellsOf f.type)) = x) (hx : x = some y) :
    ∃ (s : Sl) (xs : List (List UInt8)), c = .slice s.a s.len s.cap ∧ s.len ≤ maxLen ∧ ∀ A, ROStr W A s xs := by
  unfold fStrs at hf
  simp only [Bool.and_eq_true] at hf
  obtain ⟨⟨h1, h2⟩, h3⟩ := hf
  split at h3
  · rename_i e hu
    simp only [Bool.and_eq_true] at h3
    obtain ⟨h4, h5⟩ := h3
    split at h5
    · rename_i hu2
      rw [Nat.eq_of_beq_eq_true h1, Nat.eq_of_beq_eq_true h2, hc, hx] at h
      obtain ⟨s, xs, hs, hl, hr⟩ := strs_of_trod (under_eq hu) (under_eq hu2) (Nat.eq_of_beq_eq_true h4) h
      simp only [List.cons.injEq, and_true] at hs
      exact ⟨s, xs, hs, hl, hr⟩
    · cases h5
  · cases h3

/-- One call, out of its cells. -/
theorem wop_of_trod {W : World} {e : TypeId} {f0 f1 f2 f3 f4 : Field} {cs : List Value} {x : DataW H × List MemPlace} {fuel : Nat} (he : P.underlying e = some (.struct ⟨[f0, f1, f2, f3, f4]⟩)) (hc : P.cellsOf e = 5)
    (h0 : fInt P f0 0 = true) (h1 : fInt P f1 1 = true) (h2 : fStr P f2 2 = true) (h3 : fStrs P f3 3 = true) (h4 : fInts P f4 4 = true)
    (h : DataW.trod enc P W 0 (fun _ => true) true fuel e cs = some x) : ∃ o : WOp, cs = wopCells o ∧ WOpOk W o := by
  obtain ⟨ys, n, _, _, hl, hyl, hf⟩ := DataW.trod_struct he h
  rw [hc] at hl
  match cs, hl with
  | [c0, c1, c2, c3, c4], _ =>
    have hy : ∀ i, i < 5 → ∃ y, ys[i]? = some y := fun i hi => ⟨_, List.getElem?_eq_getElem (by rw [hyl]; exact hi)⟩
    obtain ⟨y0, e0⟩ := hy 0 (by omega)
    obtain ⟨y1, e1⟩ := hy 1 (by omega)
    obtain ⟨y2, e2⟩ := hy 2 (by omega)
    obtain ⟨y3, e3⟩ := hy 3 (by omega)
    obtain ⟨y4, e4⟩ := hy 4 (by omega)
    obtain ⟨k, rfl, _⟩ := fInt_spec h0 rfl (hf 0 f0 rfl) e0
    obtain ⟨a, rfl, ha⟩ := fInt_spec h1 rfl (hf 1 f1 rfl) e1
    obtain ⟨tx, rfl, htx⟩ := fStr_spec h2 rfl (hf 2 f2 rfl) e2
    obtain ⟨s, xs, rfl, hsl, hro⟩ := fStrs_spec h3 rfl (hf 3 f3 rfl) e3
    obtain ⟨s2, xs2, rfl, hsl2, hro2⟩ := fInts_spec h4 rfl (hf 4 f4 rfl) e4
    exact ⟨⟨k, a, tx.data.toList, s, xs, s2, xs2⟩, by rw [wopCells, str_data], ha, hro, hro2⟩

/-- An argument that is a list of calls. -/
theorem open_wopsA {W : World} {t : TypeId} {v : Value} {d : DataW H} {ps : List MemPlace} {base : Nat} (ht : WOpTypes P t)
    (hval : Value.okWide P W .any base t v) (h : DataW.Trod enc P W 0 (fun _ => true) true t v d ps) : ∃ (s : Sl) (os : List WOp), v = .slice s.a s.len s.cap ∧ s.len ≤ maxLen ∧ ∀ A, ROWOps W A s os := by
  unfold WOpTypes wopTypesB at ht
  split at ht
  · rename_i e hu
    simp only [Bool.and_eq_true] at ht
    obtain ⟨hc, ht⟩ := ht
    have hc := Nat.eq_of_beq_eq_true hc
    split at ht
    · rename_i f0 f1 f2 f3 f4 hu2
      simp only [Bool.and_eq_true] at ht
      obtain ⟨⟨⟨⟨h0, h1⟩, h2⟩, h3⟩, h4⟩ := ht
      obtain ⟨a, len, cap, rfl⟩ := okWide_slice (under_eq hu) hval
      obtain ⟨fuel, h⟩ := h
      rcases DataW.trod_slice (under_eq hu) h with ⟨hn, _⟩ | ⟨b, len', cap', elems, rest, n, _, hn, _, _, hlc, hcm, hel, hget, _⟩
      · simp only [Value.cells, List.cons.injEq, Value.slice.injEq, and_true] at hn
        obtain ⟨rfl, rfl, rfl⟩ := hn
        exact ⟨⟨none, 0, 0⟩, [], rfl, Nat.zero_le _, fun A => ⟨rfl, fun o ho => by simp at ho, fun _ _ _ k o ho => by simp at ho⟩⟩
      · simp only [Value.cells, List.cons.injEq, Value.slice.injEq, and_true] at hn
        obtain ⟨rfl, rfl, rfl⟩ := hn
        have each : ∀ i, i < len → ∃ o : WOp, WOpOk W o ∧ ∀ j v, (wopCells o)[j]? = some v → W.cell? ((b.add (i * 5)).add j) = some v := by
          intro i hi
          have hg := hget i hi
          rw [hc, List.getElem?_eq_getElem (by omega)] at hg
          obtain ⟨cs, hcs, htr⟩ := Option.bind_eq_some_iff.1 hg
          obtain ⟨o, rfl, hok⟩ := wop_of_trod (under_eq hu2) hc h0 h1 h2 h3 h4 htr
          obtain ⟨_, hcl, hcell⟩ := World.cells?_some hcs
          refine ⟨o, hok, fun j v hj => ?_⟩
          have hj7 := (List.getElem?_eq_some_iff.1 hj).1
          rw [hcell j (by omega), hj]
        obtain ⟨os, hol, hop⟩ := choose_list (l := List.range len) (p := fun i (o : WOp) => WOpOk W o ∧ ∀ j v, (wopCells o)[j]? = some v → W.cell? ((b.add (i * 5)).add j) = some v) fun i hi => each i (by simpa using hi)
        rw [List.length_range] at hol
        refine ⟨⟨some b, len, cap⟩, os, rfl, Nat.le_trans hlc hcm, fun A => ⟨hol, fun o ho => ?_, fun w L hw k o ho => ?_⟩⟩
        · obtain ⟨i, hi⟩ := List.getElem?_of_mem ho
          have hil := (List.getElem?_eq_some_iff.1 hi).1
          exact (hop i i o (by rw [List.getElem?_range (by omega)]) hi).1
        · have hkl := (List.getElem?_eq_some_iff.1 ho).1
          have hk := (hop k k o (by rw [List.getElem?_range (by omega)]) ho).2
          have hc0 := (hop 0 0 os[0] (by rw [List.getElem?_range (by omega)]) (List.getElem?_eq_getElem (by omega))).2 0 _ rfl
          obtain ⟨b0, off, rfl⟩ : ∃ b0 off, b = ⟨b0, off, none⟩ := by
            obtain ⟨b0, off, sp⟩ := b
            cases sp with
            | none => exact ⟨b0, off, rfl⟩
            | some sp =>
              unfold World.cell? at hc0
              simp only [Nat.zero_mul, Addr.add, if_true] at hc0
              split at hc0 <;> simp at hc0
          refine ⟨b0, off, rfl, fun j v hj => hw.old_cell ?_⟩
          have := hk j v hj
          rwa [Addr.add_mk, Addr.add_mk, Nat.add_assoc] at this
    · cases ht
  · cases ht

/-- An argument that is a slice of ints: what can be read of it, and that they are ints. -/
theorem open_intsB {W : World} {t e : TypeId} {v : Value} {d : DataW H} {ps : List MemPlace} {base : Nat} (ht : P.underlying t = some (.slice e)) (he : P.underlying e = some (.int .i64)) (hc : P.cellsOf e = 1)
    (hval : Value.okWide P W .any base t v) (h : DataW.Trod enc P W 0 (fun _ => true) true t v d ps) : ∃ (s : Sl) (xs : List Int), v = .slice s.a s.len s.cap ∧ s.len ≤ maxLen ∧ (∀ A, ROInts W A s xs) ∧ ∀ x ∈ xs, x ≤ 9223372036854775807 := by
  obtain ⟨a, len, cap, rfl⟩ := okWide_slice ht hval
  obtain ⟨fuel, h⟩ := h
  rcases open_ints ht he hc h with ⟨h1, _⟩ | ⟨b, len', cap', zs, h1, _, hlc, hcm, hzl, _, hcell, hwf⟩
  · simp only [Value.cells, List.cons.injEq, Value.slice.injEq, and_true] at h1
    obtain ⟨rfl, rfl, rfl⟩ := h1
    exact ⟨⟨none, 0, 0⟩, [], rfl, Nat.zero_le _, fun A => ⟨rfl, fun _ _ _ k x hx => by simp at hx⟩, fun x hx => by cases hx⟩
  · simp only [Value.cells, List.cons.injEq, Value.slice.injEq, and_true] at h1
    obtain ⟨rfl, rfl, rfl⟩ := h1
    simp only [if_true] at hzl
    refine ⟨⟨some b, len, cap⟩, zs.take len, rfl, Nat.le_trans hlc hcm, fun A => ⟨by rw [List.length_take]; show min len _ = len; omega, fun w L hw k x hx => ?_⟩, fun x hx => ?_⟩
    · have hk : k < len := by have := (List.getElem?_eq_some_iff.1 hx).1; rw [List.length_take] at this; omega
      rw [List.getElem?_take_of_lt hk] at hx
      have hck := hcell k (by omega)
      rw [List.getD_eq_getElem?_getD, hx, Option.getD_some] at hck
      have h0 : ∃ b0 o, b = ⟨b0, o, none⟩ := by
        have hc0 := hcell 0 (by omega)
        obtain ⟨b0, o, sp⟩ := b
        cases sp with
        | none => exact ⟨b0, o, rfl⟩
        | some sp =>
          unfold World.cell? at hc0
          simp only [Addr.add, if_true] at hc0
          split at hc0 <;> simp at hc0
      obtain ⟨b0, o, rfl⟩ := h0
      rw [Addr.add_mk] at hck
      exact ⟨b0, o, rfl, hw.old_cell hck⟩
    · have := hwf x (List.mem_of_mem_take hx)
      simp only [Lit.wf, Bool.and_eq_true, decide_eq_true_eq] at this
      have e2 : IntKind.max .i64 = 9223372036854775807 := rfl
      omega

end
end Go.X
