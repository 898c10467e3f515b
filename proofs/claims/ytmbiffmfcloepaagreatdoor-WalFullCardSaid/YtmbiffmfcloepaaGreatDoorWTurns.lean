/- WalTurns. -/
import Derived.Test.YtmbiffmfcloepaaGreatDoorWBroken
namespace Go.X
open Go.Proofs Go.ChangeShapes Go.WideShapes Go.RowKit

section
variable {W w : World} {L : List SP}

/-- A log that is open, the power on for good, no more than so many bytes. -/
structure Calm (D : DD) (M : Bk) (l : LG) (n : Nat) (E0 : Nat) (rs0 out0 tt1 : List (List UInt8)) (z k : Nat) : Prop where
  up : ∃ f P m0 cs ts m1, Up D M n f E0 rs0 out0 tt1 P m0 cs ts m1 ∧ l = ⟨n, P.length + ts.flatten.length, m1⟩ ∧ P.length + ts.flatten.length ≤ z
  fuse : D.fuse = -1
  most : D.most = 300
  book : M.length ≤ k
  fit : Fit (20000 * k) D
  log : LGok l
  fin : l.end_ ≤ 2 ^ 20
  num : l.n = n

theorem Calm.put {D : DD} {M : Bk} {l : LG} {n E0 : Nat} {rs0 out0 tt1 : List (List UInt8)} {z k : Nat} (h : Calm D M l n E0 rs0 out0 tt1 z k) {s : List UInt8} (hs : s.length ≤ 300) (hz : z + 337 ≤ 19200) :
    (putW D M l 82 [s]).err = 0 ∧ Calm (putW D M l 82 [s]).disk (putW D M l 82 [s]).book (putW D M l 82 [s]).log n E0 rs0 out0 (tt1 ++ [s]) (z + 337) (k + 1) := by
  obtain ⟨f, P, m0, cs, ts, m1, h1, h2, h3⟩ := h.up
  have hfit := putW_fit h.fit M l h.log (by have := h.fin; omega) 82 [s] (show (1 : Nat) ≤ _ by decide)
  have hb := h.book
  obtain ⟨R, hR⟩ : ∃ R, putW D M l 82 [s] = R := ⟨_, rfl⟩
  rw [hR] at hfit ⊢
  rw [h2] at hR
  obtain ⟨a1, a2, a3, a4, f', b, m2, a5, a6, a7⟩ := put_room h1 h.fuse (s := s) (by omega) (by rw [h.most]; unfold secs; omega) hR
  have hl : (ts ++ [b]).flatten.length = ts.flatten.length + b.length := by simp
  obtain ⟨q1, q2, q3, q4, q5⟩ := hfit
  refine ⟨a1, ⟨⟨f', P, m0, _, _, m2, a5, a7, by rw [hl, a6]; omega⟩, a3, by rw [a4]; exact h.most, by omega, q1.le (by simp only [List.length_singleton]; omega), q2, ?_, by rw [q3]; exact h.num⟩⟩
  rw [a7]
  show P.length + (ts ++ [b]).flatten.length ≤ _
  rw [hl, a6]
  omega

theorem sumL_few (c : UInt8) (xs : List (List UInt8)) : sumL ((fewL xs).map (c :: ·)) ≤ 2696 := by
  have h := sumL_le c (l := fewL xs) (k := 300) fun s hs => fewL_cut hs
  have h8 := fewL_length xs
  have : (37 + 300) * (fewL xs).length ≤ (37 + 300) * 8 := Nat.mul_le_mul_left _ h8
  omega

theorem sumL_seg (xs : List (List UInt8)) : sumL (segR xs []) = sumL (xs.map (83 :: ·)) + 37 := by simp [segR, sumL]

theorem seg2 : sEq (nm 2) ⟨#[115, 101, 103, 45, 48, 48, 48, 48, 48, 48, 48, 50]⟩ = true := by kernel_rfl

theorem Turns_law {sA sS sC : Sl} {xa xs xc : List (List UInt8)} (hA : ∀ A, ROStr W A sA xa) (hS : ∀ A, ROStr W A sS xs) (hC : ∀ A, ROStr W A sC xc) (hs : Sat W w L) :
    Calls Tryz.prog F.barquelaw15_WalTurns ⟨[.slice sA.a sA.len sA.cap, .slice sS.a sS.len sS.cap, .slice sC.a sC.len sC.cap]⟩ w fun e w' => ∃ v, e = .returned v ∧ v = .bool true ∧ Sat W w' L := by
  suffices H : ∀ K : Value → World → Prop, (∀ w', Sat W w' L → K (.bool true) w') → S.barquelaw15_WalTurns sA sS sC K w from S.barquelaw15_WalTurns_ok sA sS sC _ _ (H _ fun _ h => ⟨rfl, h⟩)
  intro K hK
  refine xcall (laid_spec (n := 300) (by decide) (by decide) hs) ?_
  rintro v w1 ⟨p, rfl, h⟩
  refine ⟨some ⟨p, 0, none⟩, rfl, XIf.no rfl (xcall (few_spec (hA _) h) ?_)⟩
  rintro v w2 ⟨s1, rfl, h⟩
  refine ⟨s1, rfl, xcall (few_spec (hS _) h) ?_⟩
  rintro v w3 ⟨s2, rfl, h⟩
  refine ⟨s2, rfl, xcall (few_spec (hC _) h) ?_⟩
  rintro v w4 ⟨s3, rfl, h⟩
  refine ⟨s3, rfl, ?_⟩
  obtain ⟨d, b, q, sa, sn, h⟩ := WorldP.open (h.bring 3)
  obtain ⟨Cw, hCw⟩ : ∃ Cw, Cw = worldCells d b q sa sn (X0 300) := ⟨_, rfl⟩
  have h : Sat W w4 (pts p Cw :: own 1 sa (strs (X0 300).all) :: own 1 sn (strs (X0 300).snap) :: LogP q d b (X0 300).l :: DiskP d (X0 300).D :: BookP b (X0 300).M :: own 1 s3 (strs (fewL xc)) :: own 1 s2 (strs (fewL xs)) :: own 1 s1 (strs (fewL xa)) :: L) := by rw [hCw]; exact h
  have c0 : readL .ptr Cw 0 = some (some ⟨d, 0, none⟩) := by rw [hCw]; rfl
  have c1 : readL .ptr Cw 1 = some (some ⟨b, 0, none⟩) := by rw [hCw]; rfl
  have c2 : readL .ptr Cw 2 = some (some ⟨q, 0, none⟩) := by rw [hCw]; rfl
  have hl1 := (h.bring 8).own_len
  have hl2 := (h.bring 7).own_len
  have hl3 := (h.bring 6).own_len
  rw [strs_length] at hl1 hl2 hl3
  have ha8 := fewL_length xa
  have hs8 := fewL_length xs
  have hc8 := fewL_length xc
  obtain ⟨e1, f, P, m, e2, e3, e4, e5, e6, e7⟩ := format_new (n := 300) (by decide) (by decide)
  have hcalm0 : Calm (X0 300).D (X0 300).M (X0 300).l 1 0 [[69]] [] [] 37 1 := by
    have hg := X0_good (n := 300) (by decide)
    refine ⟨⟨f, P, m, [], [], m, e2, by show (formatW (DD.empty (300 : Nat)) []).log = _; rw [e4]; simp, by simp [e3]⟩, e6, e7, e5, hg.fit, hg.log, ?_, ?_⟩
    · show (formatW (DD.empty (300 : Nat)) []).log.end_ ≤ _
      rw [e4]; show P.length ≤ _; omega
    · show (formatW (DD.empty (300 : Nat)) []).log.n = _
      rw [e4]
  refine xloop (fun (st : Int × Unit) w' => ∃ (j : Nat) (D : DD) (M : Bk) (l : LG) (tt : List (List UInt8)), st = ((j : Int), ()) ∧ j ≤ (fewL xa).length ∧ Calm D M l 1 0 [[69]] [] tt (37 + 337 * j) (1 + j) ∧
      Sat W w' (LogP q d b l :: DiskP d D :: BookP b M :: pts p Cw :: own 1 s1 (strs (fewL xa)) :: own 1 s2 (strs (fewL xs)) :: own 1 s3 (strs (fewL xc)) :: own 1 sa (strs (X0 300).all) :: own 1 sn (strs (X0 300).snap) :: L)) (fun st => (9 - st.1).toNat)
    ⟨0, _, _, _, [], rfl, Nat.zero_le _, hcalm0, h.arr [3, 4, 5, 0, 8, 7, 6, 1, 2]⟩ ?_
  clear h hcalm0 e1 e2 e3 e4 e5 e6 e7
  rintro next _ w5 ⟨j, D, M, l, tt, rfl, hj, hcalm, h⟩ hnext
  by_cases hlt : j < (fewL xa).length
  · have hd := h.drew
    have hx : (fewL xa)[j]? = some (fewL xa)[j] := List.getElem?_eq_getElem hlt
    have hxl := fewL_cut (List.getElem_mem hlt)
    refine XIf.yes (decide_eq_true (by show (j : Int) < (s1.len : Int); omega)) (xnil (xload (hd.bring 3) 2 rfl c2 (RdStr.at (RdStr.of_own (hd.bring 4)) j rfl hx (by show Int.toNat (j : Int) * 1 = j; omega) fun a => ?_)))
    obtain ⟨r1, r2⟩ := hcalm.put hxl (by omega)
    refine xcall (LogAppend_spec (fewL xa)[j] hd hcalm.log hcalm.fit (by omega) (by have := hcalm.book; omega)) ?_
    rintro v w6 ⟨rfl, g⟩
    refine ⟨_, rfl, xlet ((j + 1 : Nat) : Int) (by show IntKind.wrap .i64 ((j : Int) + 1) = _; rw [wi (by omega) (by omega)]; omega) (hnext _ _ ⟨j + 1, _, _, _, tt ++ [(fewL xa)[j]], rfl, hlt, ?_, g⟩ (by show (9 - ((j + 1 : Nat) : Int)).toNat < (9 - (j : Int)).toNat; omega))⟩
    rw [show 37 + 337 * (j + 1) = 37 + 337 * j + 337 by omega, show 1 + (j + 1) = 1 + j + 1 by omega]
    exact r2
  refine XIf.no (decide_eq_false (by show ¬ (j : Int) < (s1.len : Int); omega)) ?_
  clear hnext
  -- the turn
  refine xnil (xload (h.bring 3) 2 rfl c2 ?_)
  obtain ⟨f, P, m0, cs, ts, m1, u1, u2, u3⟩ := hcalm.up
  obtain ⟨Xb, t1, t2, t3⟩ := turn_up u1 (by decide) hs8 (fun s hs => Nat.le_trans (fewL_cut hs) (by decide)) (l := l) hcalm.num rfl
  have hfitT := turnW_fit hcalm.fit M l hcalm.log (by rw [hcalm.num]; decide) (fewL xs) hs8
  have hendT : (turnW D M l (fewL xs)).log.end_ ≤ (turnW D M l (fewL xs)).log.end_ := Nat.le_refl _
  have hM := hcalm.book
  refine xcall (LogTurn_spec (A := own 1 s2 (strs (fewL xs))) (ROStr.own (fewL xs) (by omega)) (h.arr [0, 1, 2, 5]) (by rw [hcalm.num]; decide) hcalm.fit (by omega) (by omega) (by omega)) ?_
  rintro v w6 ⟨rfl, g⟩
  obtain ⟨R, hR⟩ : ∃ R, turnW D M l (fewL xs) = R := ⟨_, rfl⟩
  rw [hR] at t1 t3 g hfitT ⊢
  have g : Sat W w6 (LogP q d b R.log :: DiskP d R.disk :: BookP b R.book :: own 1 s2 (strs (fewL xs)) :: pts p Cw :: own 1 s1 (strs (fewL xa)) :: own 1 s3 (strs (fewL xc)) :: own 1 sa (strs (X0 300).all) :: own 1 sn (strs (X0 300).snap) :: L) := g
  obtain ⟨hf1, hf2, hf3, hf4, hf5⟩ := hfitT
  have hsz := sumL_few 83 xs
  have hsg := sumL_seg (fewL xs)
  have htk := u1.takes
  have hE0 : max (P.length + ts.flatten.length) 0 = P.length + ts.flatten.length := by omega
  rcases t3 with ⟨_, _, _, _, _, _, v7⟩ | ⟨v1, ⟨f2, P2, m2, v2, v3⟩, v4, v5, _⟩ | ⟨_, v2, _⟩
  · exfalso
    rw [htk, hcalm.most, hE0] at v7
    unfold secs at v7
    omega
  · rw [v1]
    refine ⟨(0 : Int), rfl, XIf.no rfl ?_⟩
    have hP2 : P2.length ≤ 2733 := by rw [enc_sum v2.enc0, hsg]; omega
    have hcalm2 : Calm R.disk R.book R.log 2 0 (segR (fewL xs) []) (fewL xs) [] 2733 20 := by
      refine ⟨⟨f2, P2, m2, [], [], m2, by rw [t1]; exact v2, by rw [v3]; simp, by simpa using hP2⟩, v4 hcalm.fuse, by rw [v5]; exact hcalm.most, ?_, hf1.le (by omega), hf2, ?_, by rw [v3]⟩
      · rw [t1, List.length_append]; omega
      · rw [v3]; show P2.length ≤ _; omega
    refine xloop (fun (st : Bool × Int × Unit) w' => ∃ (i : Nat) (D : DD) (M : Bk) (l : LG), st = (false, (i : Int), ()) ∧ i ≤ (fewL xc).length ∧ Calm D M l 2 0 (segR (fewL xs) []) (fewL xs) ((fewL xc).take i) (2733 + 337 * i) (20 + i) ∧
        Sat W w' (LogP q d b l :: DiskP d D :: BookP b M :: own 1 s2 (strs (fewL xs)) :: pts p Cw :: own 1 s1 (strs (fewL xa)) :: own 1 s3 (strs (fewL xc)) :: own 1 sa (strs (X0 300).all) :: own 1 sn (strs (X0 300).snap) :: L)) (fun st => (9 - st.2.1).toNat)
      ⟨0, _, _, _, rfl, Nat.zero_le _, by rw [List.take_zero]; exact hcalm2, g⟩ ?_
    clear g hcalm2 h hcalm v2 v3 v4 v5 t1 t2 u1 u2 u3 hf1 hf2 hf3 hf4 hf5
    rintro next _ w7 ⟨i, D, M, l, rfl, hi, hcalm, h⟩ hnext
    by_cases hlt : i < (fewL xc).length
    · have hd := h.drew
      have hx : (fewL xc)[i]? = some (fewL xc)[i] := List.getElem?_eq_getElem hlt
      have hxl := fewL_cut (List.getElem_mem hlt)
      refine XIf.yes (decide_eq_true (by show (i : Int) < (s3.len : Int); omega)) (xnil (xload (hd.bring 4) 2 rfl c2 (RdStr.at (RdStr.of_own (hd.bring 6)) i rfl hx (by show Int.toNat (i : Int) * 1 = i; omega) fun a => ?_)))
      obtain ⟨r1, r2⟩ := hcalm.put hxl (by omega)
      refine xcall (LogAppend_spec (fewL xc)[i] hd hcalm.log hcalm.fit (by omega) (by have := hcalm.book; omega)) ?_
      rintro v w8 ⟨rfl, g⟩
      refine ⟨_, rfl, XIf.no (by rw [r1]; rfl) (xlet ((i + 1 : Nat) : Int) (by show IntKind.wrap .i64 ((i : Int) + 1) = _; rw [wi (by omega) (by omega)]; omega) (hnext _ _ ⟨i + 1, _, _, _, rfl, hlt, ?_, g⟩ (by show (9 - ((i + 1 : Nat) : Int)).toNat < (9 - (i : Int)).toNat; omega)))⟩
      have htake : (fewL xc).take (i + 1) = (fewL xc).take i ++ [(fewL xc)[i]] := by rw [List.take_add_one, hx]; rfl
      rw [show 2733 + 337 * (i + 1) = 2733 + 337 * i + 337 by omega, show 20 + (i + 1) = 20 + i + 1 by omega, htake]
      exact r2
    refine XIf.no (decide_eq_false (by show ¬ (i : Int) < (s3.len : Int); omega)) ?_
    clear hnext
    have hie : (fewL xc).take i = fewL xc := List.take_of_length_le (by omega)
    rw [hie] at hcalm
    obtain ⟨f, P, m0, cs, ts, m1, u1, u2, u3⟩ := hcalm.up
    -- sync
    refine xnil (xload (h.bring 4) 2 rfl c2 (xcall (LogSync_spec h hcalm.fit (by omega)) ?_))
    rintro v w8 ⟨rfl, g⟩
    obtain ⟨y1, f2, y2, y3, _⟩ := sync_up u1
    have hfs := hcalm.fit.sync
    obtain ⟨D1, hD1⟩ : ∃ D1, D.sync = D1 := ⟨_, rfl⟩
    rw [hD1] at g y1 y2 y3 hfs ⊢
    have g : Sat W w8 (LogP q d b l :: DiskP d D1.2 :: BookP b M :: own 1 s2 (strs (fewL xs)) :: pts p Cw :: own 1 s1 (strs (fewL xa)) :: own 1 s3 (strs (fewL xc)) :: own 1 sa (strs (X0 300).all) :: own 1 sn (strs (X0 300).snap) :: L) := g
    -- crash
    have hlen : D1.2.files.length ≤ 2 ^ 30 := Nat.le_trans hfs.len (by omega)
    have hwait : D1.2.wait.length ≤ 2 ^ 38 := Nat.le_trans hfs.waits (by omega)
    refine ⟨_, rfl, xnil (xload (g.bring 4) 0 rfl c0 (xcalls (Crash_spec (A := LogP q d b l) (s := ⟨none, 0, 0⟩) (none_ints _) (g.arr [1, 0]) hlen hfs.pieces hwait fun f hf => Nat.le_trans (hfs.last [] f hf) (by decide)) ?_))⟩
    rintro v w9 ⟨rfl, g⟩
    obtain ⟨k1, k2, _⟩ := y2.crash_nil (Q := fun _ => True) trivial
    have hM := hcalm.book
    obtain ⟨o1, o2, o3, o4⟩ := k1.open (by decide) (by omega) k2
    have hfc := hfs.crash0 []
    have g := g.drew
    have g : Sat W w9.drew (DiskP d (D1.2.crash []) :: LogP q d b l :: BookP b M :: own 1 s2 (strs (fewL xs)) :: pts p Cw :: own 1 s1 (strs (fewL xa)) :: own 1 s3 (strs (fewL xc)) :: own 1 sa (strs (X0 300).all) :: own 1 sn (strs (X0 300).snap) :: L) := g
    -- open
    refine ⟨(), rfl, xnil (xload (g.bring 4) 0 rfl c0 (xnil (xload (g.bring 4) 1 rfl c1 (xcalls (Open_spec (L := [LogP q d b l, own 1 s2 (strs (fewL xs)), pts p Cw, own 1 s1 (strs (fewL xa)), own 1 s3 (strs (fewL xc)), own 1 sa (strs (X0 300).all), own 1 sn (strs (X0 300).snap)] ++ L) (g.arr [0, 2]) hfc (by omega)) ?_))))⟩
    rintro v w10 ⟨_, hO⟩
    obtain ⟨q', s, rfl, g⟩ := hO o1
    rw [o2, o3, o4] at g
    have g : Sat W w10 (LogP q' d b ⟨2, (P ++ ts.flatten).length, m1⟩ :: own 1 s (strs (fewL xs ++ fewL xc)) :: DiskP d (D1.2.crash []) :: BookP b M :: LogP q d b l :: own 1 s2 (strs (fewL xs)) :: pts p Cw :: own 1 s1 (strs (fewL xa)) :: own 1 s3 (strs (fewL xc)) :: own 1 sa (strs (X0 300).all) :: own 1 sn (strs (X0 300).snap) :: L) := g
    refine ⟨(some ⟨q', 0, none⟩, s, (0 : Int), ()), rfl, xnil (xload (g.bring 6) 0 rfl c0 (xcalls (List_spec (g.bring 2) (Nat.le_trans hfc.len (by omega))) ?_))⟩
    rintro v w11 ⟨_, hN⟩
    obtain ⟨sN, rfl, g⟩ := hN k1.rec_.off
    have hnames : (D1.2.crash []).names = [nm 2] := by
      unfold DD.names
      rw [k1.one, List.map_cons, List.map_nil, k1.rec_.name]
    rw [hnames] at g
    have g : Sat W w11 (own 1 sN [Value.string (nm 2)] :: DiskP d (D1.2.crash []) :: LogP q' d b ⟨2, (P ++ ts.flatten).length, m1⟩ :: own 1 s (strs (fewL xs ++ fewL xc)) :: BookP b M :: LogP q d b l :: own 1 s2 (strs (fewL xs)) :: pts p Cw :: own 1 s1 (strs (fewL xa)) :: own 1 s3 (strs (fewL xc)) :: own 1 sa (strs (X0 300).all) :: own 1 sn (strs (X0 300).snap) :: L) := g
    have hsN := g.own_len
    simp only [List.length_cons, List.length_nil] at hsN
    refine ⟨(sN, (0 : Int), ()), rfl, xjoin0 (XIf.yes rfl (xnew g.drew fun c w12 g => ?_))⟩
    have g := cells_str g rfl
    refine xappend (sz := 1) (s := ⟨some ⟨c, 0, none⟩, 0, 0⟩) (x := s2) (by kernel_rfl) g (reads_own (g.bring 7)) ((g.bring 7).own_len) (fun h0 => ?_) (strs_one _) (by show 0 + s2.len ≤ _; omega) fun s5 w13 g hl5 => ?_
    · rcases (g.bring 7).open_own with ⟨_, _, _, hx, _⟩ | ⟨bb, _, ha, _⟩
      · exact hx
      · rw [ha] at h0; cases h0
    rw [List.nil_append] at g
    have hl5 : s5.len = s2.len := by rw [hl5]; exact Nat.zero_add _
    refine xappend (sz := 1) (x := s3) (by kernel_rfl) g (reads_own (g.bring 10)) ((g.bring 10).own_len) (fun h0 => ?_) (strs_one _) (by omega) fun s6 w14 g hl6 => ?_
    · rcases (g.bring 10).open_own with ⟨_, _, _, hx, _⟩ | ⟨bb, _, ha, _⟩
      · exact hx
      · rw [ha] at h0; cases h0
    rw [← strs_append] at g
    have hll : (fewL xs ++ fewL xc).length ≤ 2 ^ 60 := by rw [List.length_append]; omega
    refine xcall (same_spec (RdStr.of_own (g.bring 4)) (RdStr.of_own g) hll) ?_
    rintro v w15 ⟨rfl, hq⟩
    have g := g.quiet hq
    refine ⟨_, rfl, XIf.yes (sameL_self _) (xcall (LogSegment_spec (g.bring 3)) ?_)⟩
    rintro v w16 ⟨rfl, rfl⟩
    refine ⟨((2 : Nat) : Int), rfl, XIf.yes rfl (XIf.yes rfl (XIf.yes (beq_iff_eq.2 (show ((sN.len : Nat) : Int) = 1 by omega)) ?_))⟩
    obtain ⟨bN, hbN, hcN⟩ := (g.bring 1).own_some (by omega : 0 < sN.len)
    have hcN0 := hcN 0 (.string (nm 2)) rfl
    rw [hbN]
    refine xnil ⟨⟨by omega, by show (0 : Int) < ((sN.len : Nat) : Int); omega⟩, nm 2, ?_, ?_⟩
    · rw [Nat.zero_mul, Addr.add_mk]; exact hcN0
    refine XIf.yes seg2 (xnil (xload (g.bring 8) 2 rfl c2 (xcall (LogSize_spec (g.bring 3)) ?_)))
    rintro v w17 ⟨rfl, rfl⟩
    have hcell : World.cell? w17 (Addr.add ⟨bN, 0, none⟩ (0 * 1)) = some (Leaf.mk .str (nm 2)) := by rw [Nat.zero_mul, Addr.add_mk]; exact hcN0
    refine ⟨(((P ++ ts.flatten).length : Nat) : Int), rfl, by rw [Addr.add_mk]; exact (g.bring 8).cell (readL_mk c2), hcell, xcall (LogSize_spec (g.bring 6)) ?_⟩
    rintro v w18 ⟨rfl, rfl⟩
    refine ⟨(l.end_ : Int), rfl, hcell, XIf.yes (beq_iff_eq.2 ?_) (xcall (awake_spec g) ?_)⟩
    · rw [u2, List.length_append]
    rintro v w19 ⟨rfl, g19⟩
    obtain ⟨bN', hbN', hcN'⟩ := (g19.bring 1).own_some (by omega : 0 < sN.len)
    rw [hbN] at hbN'
    cases hbN'
    refine ⟨true, rfl, by rw [Nat.zero_mul, Addr.add_mk]; exact hcN' 0 (.string (nm 2)) rfl, hK _ ?_⟩
    exact (((((((((((g19.drop).drop).drop).drop).drop).drop).drop).drop).drop).drop).drop).drop.drop
  · exact absurd hcalm.fuse v2

end
end Go.X
