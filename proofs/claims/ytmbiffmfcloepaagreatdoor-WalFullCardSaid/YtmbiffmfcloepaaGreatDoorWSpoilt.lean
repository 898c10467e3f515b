/- WalSpoilt. -/
import Derived.Test.YtmbiffmfcloepaaGreatDoorWTurns
import Derived.Test.YtmbiffmfcloepaaGreatDoorWBent
namespace Go.X
open Go.Proofs Go.ChangeShapes Go.WideShapes Go.RowKit

theorem get_bent (l : List UInt8) (k i : Nat) (b : Int) (h : i ≠ k) : (bent l k b).getD i 0 = l.getD i 0 := by
  unfold bent
  rw [List.getD_eq_getElem?_getD, List.getElem?_set_ne (fun e => h e.symm), ← List.getD_eq_getElem?_getD]

/-- What is found of a log of which a byte was changed. -/
theorem spoilt_open {D : DD} {M : Bk} {g : DF} {tt : List (List UInt8)} {P m : List UInt8} {j : Nat} (hf : D.files = [g]) (hname : g.name = nm 1) (hsame : g.seen = g.last) (ho : D.off = false) (hw : D.wait = []) (hmost : D.most ≤ 300) (hfuse : D.fuse = -1)
    (hroom : (takesAll D.files : Int) ≤ D.most) (hE : Enc M (firstM 1) (segR [] tt) P m) (hM : M.length < 65536) (hl : g.last.length = P.length) (hC : ∀ i, i ≠ j → g.last.getD i 0 = P.getD i 0) :
    ((openW D M).err = 0 ∧ beginsL (openW D M).out tt 0 = true) ∨ (openW D M).err = 8 := by
  obtain ⟨rs1, rs2, b1, m2, e1, e2, ⟨rest, e3⟩, e4⟩ := bent_enc hM (C := g.last) (j := j) [] hE (by simpa using hl) (by simp) (fun i _ hij => by simpa using hC i hij)
  simp only [List.nil_append, List.length_nil, Nat.zero_add] at e3 e4
  have hr : Rising D.files := by rw [hf]; exact rising_one g
  have hsg := segsW_one hf hname (by decide)
  have hlw : loadW D M 1 = some (loadF M g.last 1) := by rw [loadW_mid (A := []) (B := []) hf hr ho hname M, hsame]
  have hload : ∀ c, cores rs1 (false, []) = some c → loadF M g.last 1 = ⟨b1.length, m2, c.1, c.2⟩ := by
    intro c hc
    rw [e3] at e4 ⊢
    exact loadF_enc e2 hc e4
  unfold openW
  rw [if_neg (by rw [ho]; decide), hsg]
  unfold openL
  rw [hlw]
  dsimp only
  cases rs1 with
  | nil =>
    right
    rw [hload (false, []) rfl]
    dsimp only
    rw [if_neg (by decide)]
    rfl
  | cons s rs1 =>
    left
    have e1' : [69] :: tt.map (82 :: ·) = s :: (rs1 ++ rs2) := e1
    rw [List.cons.injEq] at e1'
    obtain ⟨hs, hrs⟩ := e1'
    subst hs
    have hc : cores ([69] :: rs1) (false, []) = some (true, tt.take rs1.length) := by
      have h := cores_R (tt.take rs1.length) []
      rw [← prefix_map hrs, List.nil_append] at h
      exact h
    rw [hload _ hc]
    dsimp only
    rw [if_pos rfl]
    have hdb : dropBut D [1] 1 = D := by simp [dropBut]
    rw [hdb]
    rcases wipe_one (n := 1) (f := g) (bs := b1) (l := LD.log ⟨b1.length, m2, true, tt.take rs1.length⟩ 1) hf ho hw hmost (by omega) hroom hname hsame ⟨rest, e3⟩ rfl rfl with ⟨w1, _⟩ | ⟨w0, _⟩
    · refine ⟨w1, ?_⟩
      have := beginsL_take (a := []) (b := tt) (safe := 0) (Nat.le_refl _) rs1.length
      simpa using this
    · exact absurd hfuse w0

theorem nm1 : nm 1 = ⟨#[115, 101, 103, 45, 48, 48, 48, 48, 48, 48, 48, 49]⟩ := by kernel_rfl

/-- A byte of a log that was synced is changed; what is found. -/
theorem spoil_up {D : DD} {M : Bk} {f : DF} {tt : List (List UInt8)} {P m : List UInt8} (h : Up D M 1 f 0 (segR [] tt) tt [] P m [] [] m) (hfuse : D.fuse = -1) (hM : M.length < 65536) (a b : Int) :
    ((openW (D.spoil (nm 1) a b).2 M).err = 0 ∧ beginsL (openW (D.spoil (nm 1) a b).2 M).out tt 0 = true) ∨ (openW (D.spoil (nm 1) a b).2 M).err = 8 := by
  have hp : pad P 0 = P := by unfold pad; simp
  have hlast : f.last = P := by rw [h.last, hp]
  have hseen : f.seen = P := by rw [h.seen, List.flatten_nil, List.append_nil, hp]
  have hmid := mid_of (A := []) (B := []) h.files h.rising
  rw [h.name] at hmid
  have hw : D.wait = [] := by rw [h.wait]; rfl
  have hsp : D.spoil (nm 1) a b = if a < 0 ∨ (f.last.length : Int) ≤ a then (2, D) else (0, { D with files := [spoilt f a.toNat b] }) := by
    unfold DD.spoil
    rw [hmid.2, hmid.1]
    dsimp only
    rw [if_neg (by rw [h.name, cmpS_refl]; decide)]
    rfl
  rw [hsp]
  by_cases ho : a < 0 ∨ (f.last.length : Int) ≤ a
  · rw [if_pos ho]
    exact spoilt_open (j := 0) h.files h.name (by rw [hseen, hlast]) h.off hw h.most hfuse h.room h.enc0 hM (by rw [hlast]) fun i _ => by rw [hlast]
  · rw [if_neg ho]
    refine spoilt_open (D := { D with files := [spoilt f a.toNat b] }) (g := spoilt f a.toNat b) (j := a.toNat) rfl h.name (by unfold spoilt; rw [hseen, hlast]) h.off hw h.most hfuse ?_ h.enc0 hM (by show (bent f.last _ _).length = _; rw [bent_length, hlast]) fun i hi => ?_
    · have := h.room
      rw [h.files] at this
      show ((takesAll [spoilt f a.toNat b] : Nat) : Int) ≤ D.most
      simp only [takesAll, DF.takes, Nat.add_zero] at this ⊢
      rw [show (spoilt f a.toNat b).seen.length = f.seen.length from bent_length _ _ _, show (spoilt f a.toNat b).last.length = f.last.length from bent_length _ _ _]
      exact this
    · show (bent f.last a.toNat b).getD i 0 = _
      rw [get_bent _ _ _ _ hi, hlast]

section
variable {W w : World} {L : List SP}

theorem Spoilt_law {sL : Sl} {xl : List (List UInt8)} (hL : ∀ A, ROStr W A sL xl) (at_ by_ : Int) (hs : Sat W w L) :
    Calls Tryz.prog F.barquelaw15_WalSpoilt ⟨[.slice sL.a sL.len sL.cap, .int .i64 at_, .int .i64 by_]⟩ w fun e w' => ∃ v, e = .returned v ∧ v = .bool true ∧ Sat W w' L := by
  suffices H : ∀ K : Value → World → Prop, (∀ w', Sat W w' L → K (.bool true) w') → S.barquelaw15_WalSpoilt sL at_ by_ K w from S.barquelaw15_WalSpoilt_ok sL _ _ _ _ (H _ fun _ h => ⟨rfl, h⟩)
  intro K hK
  have hawake : ∀ w', Sat W w' L → ∀ N : Bool → World → Prop, (∀ w'', Sat W w'' L → N true w'') → XCall Tryz.prog F.barquelaw15_awake [] (.leaf .bool) w' fun (x : Bool) w'' => N x w'' := fun w' h N hN => xcall (awake_spec h) fun v w'' ⟨e, g⟩ => ⟨true, e, hN _ g⟩
  refine xcall (laid_spec (n := 300) (by decide) (by decide) hs) ?_
  rintro v w1 ⟨p, rfl, h⟩
  refine ⟨some ⟨p, 0, none⟩, rfl, XIf.no rfl ?_⟩
  obtain ⟨d, b, q, sa, sn, h⟩ := WorldP.open h
  have hlen := (hL emp).1
  obtain ⟨e1, f, P, m, e2, e3, e4, e5, e6, e7⟩ := format_new (n := 300) (by decide) (by decide)
  have hcalm0 : Calm (X0 300).D (X0 300).M (X0 300).l 1 0 [[69]] [] [] 37 1 := by
    have hg := X0_good (n := 300) (by decide)
    refine ⟨⟨f, P, m, [], [], m, e2, by show (formatW (DD.empty (300 : Nat)) []).log = _; rw [e4]; simp, by simp [e3]⟩, e6, e7, e5, hg.fit, hg.log, ?_, ?_⟩
    · show (formatW (DD.empty (300 : Nat)) []).log.end_ ≤ _
      rw [e4]; show P.length ≤ _; omega
    · show (formatW (DD.empty (300 : Nat)) []).log.n = _
      rw [e4]
  refine xloop (fun (st : Int × Unit) w' => ∃ (j : Nat) (D : DD) (M : Bk) (l : LG) (tt : List (List UInt8)) (sa : Sl), st = ((j : Int), ()) ∧ j ≤ 20 ∧ j ≤ xl.length ∧ tt.length ≤ j ∧ Calm D M l 1 0 [[69]] [] tt (37 + 337 * j) (1 + j) ∧
      Sat W w' (LogP q d b l :: DiskP d D :: BookP b M :: pts p (worldCells d b q sa sn (X0 300)) :: own 1 sa (strs tt) :: own 1 sn (strs (X0 300).snap) :: L)) (fun st => (21 - st.1).toNat)
    ⟨0, _, _, _, [], sa, rfl, by omega, Nat.zero_le _, Nat.zero_le _, hcalm0, h.arr [3, 4, 5, 0, 1, 2]⟩ ?_
  clear h hcalm0 e1 e2 e3 e4 e5 e6 e7
  rintro next _ w2 ⟨j, D, M, l, tt, sa, rfl, hj, hjl, htl, hcalm, h⟩ hnext
  refine xjoin (fun (st : Bool × Unit) w' => st = (decide (j < xl.length ∧ j < 20), ()) ∧ w' = w2) (fun J hJ => room_bit hlen (hJ _ _ ⟨rfl, rfl⟩)) ?_
  rintro _ _ ⟨rfl, rfl⟩
  have hM := hcalm.book
  by_cases hc : j < xl.length ∧ j < 20
  · have hd := h.drew
    have hx : xl[j]? = some xl[j] := List.getElem?_eq_getElem hc.1
    obtain ⟨r1, r2⟩ := hcalm.put (cutL_length xl[j]) (by omega)
    refine XIf.yes (decide_eq_true hc) (xjoin0 (xnil (xload (hd.bring 3) 2 rfl rfl (RdStr.at ((hL _).rd hd) j rfl hx (by show Int.toNat (j : Int) * 1 = j; omega) fun a => xcall (cut_spec xl[j]) ?_))))
    rintro v w3 ⟨rfl, rfl⟩
    refine ⟨str (cutL xl[j]), rfl, (hd.bring 3).cell rfl, xcall (LogAppend_spec (cutL xl[j]) hd hcalm.log hcalm.fit (by omega) (by omega)) ?_⟩
    rintro v w4 ⟨rfl, g⟩
    have gd := g.drew
    have hsa := (gd.bring 4).own_len
    rw [strs_length] at hsa
    refine ⟨_, rfl, XIf.yes (by rw [r1]; rfl) (xnil (xload (gd.bring 3) 3 rfl rfl (RdStr.at ((hL _).rd gd) j rfl hx (by show Int.toNat (j : Int) * 1 = j; omega) fun a => xcall (cut_spec xl[j]) ?_)))⟩
    rintro v w5 ⟨rfl, rfl⟩
    refine ⟨str (cutL xl[j]), rfl, (gd.bring 3).cell rfl, xnew gd fun c w6 g6 => ⟨(g6.bring 4).cell rfl, ?_⟩⟩
    refine xappend (sz := 1) (x := ⟨some ⟨c, 0, none⟩, 1, 1⟩) (by kernel_rfl) (g6.bring 5) (reads_pts g6) rfl (fun h => by cases h) rfl (by show sa.len + 1 ≤ _; omega) fun s' w7 g7 hl7 => ?_
    refine xnil (xstore (g7.bring 5) 3 rfl (by simp [worldCells]) fun w8 g8 => ?_)
    refine xlet ((j + 1 : Nat) : Int) (by show IntKind.wrap .i64 ((j : Int) + 1) = _; rw [wi (by omega) (by omega)]; omega) (hnext _ _ ⟨j + 1, (putW D M l 82 [cutL xl[j]]).disk, (putW D M l 82 [cutL xl[j]]).book, (putW D M l 82 [cutL xl[j]]).log, tt ++ [cutL xl[j]], s', rfl, by omega, by omega, by rw [List.length_append, List.length_singleton]; omega, ?_, ?_⟩ (by show (21 - ((j + 1 : Nat) : Int)).toNat < (21 - (j : Int)).toNat; omega))
    · rw [show 37 + 337 * (j + 1) = 37 + 337 * j + 337 by omega, show 1 + (j + 1) = 1 + j + 1 by omega]
      exact r2
    · rw [strs_append]
      exact ((g8.arr [3, 4, 5, 0, 1, 6, 2]).bring 6).drop
  · refine XIf.no (decide_eq_false hc) ?_
    clear hnext
    refine xnil (xload (h.bring 3) 2 rfl rfl (xcall (LogSync_spec h hcalm.fit (by omega)) ?_))
    rintro v w3 ⟨rfl, g⟩
    obtain ⟨f, P, m0, cs, ts, m1, u1, u2, u3⟩ := hcalm.up
    obtain ⟨y1, f2, y2, y3, _⟩ := sync_up u1
    have hfs := hcalm.fit.sync0
    obtain ⟨D1, hD1⟩ : ∃ D1, D.sync = D1 := ⟨_, rfl⟩
    rw [hD1] at g y1 y2 y3 hfs ⊢
    have y2 : Up D1.2 M 1 f2 0 (segR [] tt) tt [] (P ++ ts.flatten) m1 [] [] m1 := y2
    have hopen := spoil_up y2 (by rw [y3]; exact hcalm.fuse) (by omega) at_ by_
    have hfsp := hfs.spoil (nm 1) at_ by_
    have hlen2 : D1.2.files.length ≤ 2 ^ 40 := Nat.le_trans hfs.len (by omega)
    refine ⟨_, rfl, xnil (xload (g.bring 3) 0 rfl rfl ?_)⟩
    rw [← nm1]
    refine xcall (Spoil_spec (g.bring 1) y2.rising hlen2) ?_
    rintro v w4 ⟨rfl, g⟩
    obtain ⟨D2, hD2⟩ : ∃ D2, D1.2.spoil (nm 1) at_ by_ = D2 := ⟨_, rfl⟩
    rw [hD2] at g hopen hfsp ⊢
    have g := g.drew
    have g : Sat W w4.drew (DiskP d D2.2 :: LogP q d b l :: BookP b M :: pts p (worldCells d b q sa sn (X0 300)) :: own 1 sa (strs tt) :: own 1 sn (strs (X0 300).snap) :: L) := g
    refine ⟨_, rfl, xnil (xload (g.bring 3) 0 rfl rfl (xnil (xload (g.bring 3) 1 rfl rfl (xcalls (Open_spec (L := [LogP q d b l, pts p (worldCells d b q sa sn (X0 300)), own 1 sa (strs tt), own 1 sn (strs (X0 300).snap)] ++ L) (g.arr [0, 2]) hfsp (by omega)) ?_))))⟩
    rintro v w5 ⟨hOe, hO⟩
    rcases hopen with ⟨o1, o2⟩ | o1
    · obtain ⟨q', s, rfl, g⟩ := hO o1
      obtain ⟨out, hout⟩ : ∃ out, (openW D2.2 M).out = out := ⟨_, rfl⟩
      rw [hout] at g o2
      have g : Sat W w5 (LogP q' d b (openW D2.2 M).log :: own 1 s (strs out) :: DiskP d (openW D2.2 M).disk :: BookP b M :: LogP q d b l :: pts p (worldCells d b q sa sn (X0 300)) :: own 1 sa (strs tt) :: own 1 sn (strs (X0 300).snap) :: L) := g
      have hol : out.length ≤ 2 ^ 60 := by
        have := o2
        unfold beginsL at this
        simp only [Bool.and_eq_true, decide_eq_true_eq] at this
        omega
      refine ⟨(some ⟨q', 0, none⟩, s, (0 : Int), ()), rfl, XIf.no rfl (xjoin0 (xnil (xload (g.bring 5) 3 rfl rfl (xcall (begins_spec (RdStr.of_own (g.bring 1)) (RdStr.of_own (g.bring 6)) hol) ?_))))⟩
      rintro v w6 ⟨rfl, hq⟩
      have g := g.quiet hq
      refine ⟨_, rfl, XIf.yes o2 (hawake _ ((((((((g.drop).drop).drop).drop).drop).drop).drop).drop) _ fun w' h => hK w' h)⟩
    · obtain ⟨rfl, g⟩ := hOe (by rw [o1]; decide)
      rw [o1]
      exact ⟨(none, ⟨none, 0, 0⟩, (8 : Int), ()), rfl, XIf.yes rfl (xjoin0 (XIf.yes rfl (XIf.yes rfl (hawake _ ((((((g.drop).drop).drop).drop).drop).drop) _ fun w' h => hK w' h))))⟩

end
end Go.X
