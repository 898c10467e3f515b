/- WalFull. -/
import Derived.Test.YtmbiffmfcloepaaGreatDoorWSpoilt
namespace Go.X
open Go.Proofs Go.ChangeShapes Go.WideShapes Go.RowKit

/-- A log that is open, the power on for good. -/
structure Still (D : DD) (M : Bk) (l : LG) (tt : List (List UInt8)) (top k : Nat) : Prop where
  up : ∃ f P m0 cs ts m1, Up D M 1 f 0 [[69]] [] tt P m0 cs ts m1 ∧ l = ⟨1, P.length + ts.flatten.length, m1⟩
  fuse : D.fuse = -1
  most : D.most = top
  book : M.length ≤ k
  fit : Fit (20000 * k) D
  log : LGok l
  fin : l.end_ ≤ 2 ^ 20

theorem Up.small {D : DD} {M : Bk} {n E0 : Nat} {f : DF} {rs0 out0 tt1 : List (List UInt8)} {P m0 m1 : List UInt8} {cs : List (List (List UInt8))} {ts : List (List UInt8)} (h : Up D M n f E0 rs0 out0 tt1 P m0 cs ts m1) : P.length + ts.flatten.length ≤ 2 ^ 20 := by
  have h1 := h.room
  have h2 := h.most
  rw [h.takes] at h1
  unfold secs at h1
  omega

theorem Up.clean {D : DD} {M : Bk} {n E0 : Nat} {f : DF} {rs0 out0 : List (List UInt8)} {P m0 m1 : List UInt8} (h : Up D M n f E0 rs0 out0 [] P m0 [] [] m1) {Q : List (List UInt8) → Prop} (hQ : Q out0) : Clean D M Q n f rs0 P m0 out0 := by
  have hpl : pad P E0 = pad P (pad P E0).length := by
    rw [pad_length]
    unfold pad
    congr 2
    omega
  have hs : f.seen = f.last := by rw [h.seen, h.last, List.flatten_nil, List.append_nil]
  exact ⟨⟨h.off, by rw [h.wait]; rfl, h.rising, h.made, h.most, h.fuse, h.room, h.name, hs, by rw [h.last]; exact found_pad h.enc0 _, h.core, hQ, .inl h.files⟩, h.files, by rw [h.last]; exact hpl⟩

theorem Still.put {D : DD} {M : Bk} {l : LG} {tt : List (List UInt8)} {top k : Nat} (h : Still D M l tt top k) {s : List UInt8} (hs : s.length ≤ 300) :
    ((putW D M l 82 [s]).err = 0 ∧ Still (putW D M l 82 [s]).disk (putW D M l 82 [s]).book (putW D M l 82 [s]).log (tt ++ [s]) top (k + 1)) ∨
    ((putW D M l 82 [s]).err = 7 ∧ Still (putW D M l 82 [s]).disk (putW D M l 82 [s]).book (putW D M l 82 [s]).log tt top (k + 1)) := by
  obtain ⟨f, P, m0, cs, ts, m1, h1, h2⟩ := h.up
  have hfit := putW_fit h.fit M l h.log (by have := h.fin; omega) 82 [s] (show (1 : Nat) ≤ _ by decide)
  have hb := h.book
  obtain ⟨R, hR⟩ : ∃ R, putW D M l 82 [s] = R := ⟨_, rfl⟩
  rw [hR] at hfit ⊢
  rw [h2] at hR
  obtain ⟨q1, q2, q3, q4, q5⟩ := hfit
  obtain ⟨Xb, b, m2, b1, b2, b3, b4, b5⟩ := put_up h1 (by omega) hR
  have hbk : R.book.length ≤ k + 1 := by rw [b1, List.length_append]; omega
  have hft : Fit (20000 * (k + 1)) R.disk := q1.le (by simp only [List.length_singleton]; omega)
  rcases b5 with ⟨e1, e2, e3, _⟩ | ⟨e1, ⟨f', e2⟩, e3, e4, e5, _⟩ | ⟨e1, e2, _⟩
  · refine .inr ⟨e1, ⟨f, P, m0, cs, ts, m1, ?_, e3⟩, by rw [e2]; exact h.fuse, by rw [e2]; exact h.most, hbk, hft, q2, ?_⟩
    · rw [e2, b1]; exact h1.more Xb
    · rw [e3]; exact h1.small
  · exact .inl ⟨e1, ⟨f', P, m0, _, _, m2, e2, e3⟩, e4 h.fuse, by rw [e5]; exact h.most, hbk, hft, q2, by rw [e3]; exact e2.small⟩
  · exact absurd h.fuse e2

/-- A record that is too great for the device changes nothing. -/
theorem Still.big {D : DD} {M : Bk} {l : LG} {tt : List (List UInt8)} {top k : Nat} (h : Still D M l tt top k) (htop : top ≤ 60) {s : List UInt8} (h1 : 3840 ≤ s.length) (h2 : s.length ≤ 1048832) :
    (putW D M l 82 [s]).err = 7 ∧ (putW D M l 82 [s]).log = l ∧ (putW D M l 82 [s]).disk = D ∧ Still D (putW D M l 82 [s]).book l tt top (k + 1) := by
  obtain ⟨f, P, m0, cs, ts, m1, u1, u2⟩ := h.up
  obtain ⟨R, hR⟩ : ∃ R, putW D M l 82 [s] = R := ⟨_, rfl⟩
  have hb := h.book
  rw [hR]
  rw [u2] at hR
  obtain ⟨Xb, b, m2, b1, b2, b3, b4, b5⟩ := put_up u1 h2 hR
  rcases b5 with ⟨e1, e2, e3, _⟩ | ⟨_, _, _, _, _, e6⟩ | ⟨_, e2, _⟩
  · refine ⟨e1, by rw [e3, u2], e2, ⟨f, P, m0, cs, ts, m1, by rw [b1]; exact u1.more Xb, u2⟩, h.fuse, h.most, by rw [b1, List.length_append]; omega, h.fit.le (by omega), h.log, h.fin⟩
  · exfalso
    rw [h.most, b4] at e6
    unfold secs at e6
    omega
  · exact absurd h.fuse e2

section
variable {W w : World} {L : List SP}

theorem sliceBytes_own {s : Sl} {l : List UInt8} (hs : Sat W w (own 1 s (bcells l) :: L)) (h : 0 < s.len) : sliceBytes w s.a s.len (str l) := by
  have hl := hs.own_len
  rw [bcells_length] at hl
  obtain ⟨b, hb, hc⟩ := hs.own_some h
  rw [hb]
  refine ⟨by rw [str_size]; omega, bytesAt_of _ 0 fun j c hj => ?_⟩
  rw [str_toList] at hj
  rw [Nat.zero_add, Addr.add_mk, Nat.zero_add]
  exact hc j _ (by simp [bcells, hj])

theorem Full_law (n : Int) {sL : Sl} {xl : List (List UInt8)} (hL : ∀ A, ROStr W A sL xl) (s : ByteArray) (hsz : s.size ≤ 2 ^ 60) (hs : Sat W w L) :
    Calls Tryz.prog F.barquelaw15_WalFull ⟨[.int .i64 n, .slice sL.a sL.len sL.cap, .string s]⟩ w fun e w' => ∃ v, e = .returned v ∧ v = .bool true ∧ Sat W w' L := by
  suffices H : ∀ K : Value → World → Prop, (∀ w', Sat W w' L → K (.bool true) w') → S.barquelaw15_WalFull n sL s K w from S.barquelaw15_WalFull_ok _ sL _ _ _ (H _ fun _ h => ⟨rfl, h⟩)
  intro K hK
  have hawake : ∀ w', Sat W w' L → ∀ N : Bool → World → Prop, (∀ w'', Sat W w'' L → N true w'') → XCall Tryz.prog F.barquelaw15_awake [] (.leaf .bool) w' fun (x : Bool) w'' => N x w'' := fun w' h N hN => xcall (awake_spec h) fun v w'' ⟨e, g⟩ => ⟨true, e, hN _ g⟩
  refine xjoin (fun (st : Bool × Unit) w' => st = (decide (n < 10 ∨ n > 60), ()) ∧ w' = w) (fun J hJ => ?_) ?_
  · by_cases h1 : n < 10
    · exact XIf.yes (decide_eq_true h1) (hJ _ _ ⟨by rw [decide_eq_true (Or.inl h1)], rfl⟩)
    · refine XIf.no (decide_eq_false h1) (hJ _ _ ⟨?_, rfl⟩)
      have : decide (n > 60) = decide (n < 10 ∨ n > 60) := decide_eq_decide.2 (by omega)
      exact Prod.ext this rfl
  rintro _ w ⟨rfl, rfl⟩
  by_cases hn : n < 10 ∨ n > 60
  · exact XIf.yes (decide_eq_true hn) (hawake _ hs _ fun w' h => hK w' h)
  refine XIf.no (decide_eq_false hn) ?_
  obtain ⟨top, rfl⟩ : ∃ m : Nat, n = m := ⟨n.toNat, by omega⟩
  refine xcall (laid_spec (by omega) (by omega) hs) ?_
  rintro v w1 ⟨p, rfl, h⟩
  refine ⟨some ⟨p, 0, none⟩, rfl, XIf.no rfl ?_⟩
  obtain ⟨d, b, q, sa, sn, h⟩ := WorldP.open h
  have hlen := (hL emp).1
  have hs0 : Still (X0 top).D (X0 top).M (X0 top).l [] top 1 := by
    obtain ⟨e1, f, P, m, e2, e3, e4, e5, e6, e7⟩ := format_new (n := top) (by omega) (by omega)
    have hg := X0_good (n := top) (by omega)
    refine ⟨⟨f, P, m, [], [], m, e2, by show (formatW (DD.empty (top : Nat)) []).log = _; rw [e4]; simp⟩, e6, e7, e5, hg.fit, hg.log, ?_⟩
    show (formatW (DD.empty (top : Nat)) []).log.end_ ≤ _
    rw [e4]; show P.length ≤ _; omega
  refine xloop (fun (st : Int × Unit) w' => ∃ (j : Nat) (D : DD) (M : Bk) (l : LG) (tt : List (List UInt8)) (sa : Sl), st = ((j : Int), ()) ∧ j ≤ 30 ∧ j ≤ xl.length ∧ tt.length ≤ j ∧ Still D M l tt top (1 + j) ∧
      Sat W w' (LogP q d b l :: DiskP d D :: BookP b M :: pts p (worldCells d b q sa sn (X0 top)) :: own 1 sa (strs tt) :: own 1 sn (strs (X0 top).snap) :: L)) (fun st => (31 - st.1).toNat)
    ⟨0, _, _, _, [], sa, rfl, by omega, Nat.zero_le _, Nat.zero_le _, hs0, h.arr [3, 4, 5, 0, 1, 2]⟩ ?_
  clear h hs0
  rintro next _ w2 ⟨j, D, M, l, tt, sa, rfl, hj, hjl, htl, hst, h⟩ hnext
  refine xjoin (fun (st : Bool × Unit) w' => st = (decide (j < xl.length ∧ j < 30), ()) ∧ w' = w2) (fun J hJ => room_bit hlen (hJ _ _ ⟨rfl, rfl⟩)) ?_
  rintro _ _ ⟨rfl, rfl⟩
  have hM := hst.book
  by_cases hc : j < xl.length ∧ j < 30
  · have hd := h.drew
    have hx : xl[j]? = some xl[j] := List.getElem?_eq_getElem hc.1
    have hput := hst.put (cutL_length xl[j])
    refine XIf.yes (decide_eq_true hc) ?_
    obtain ⟨R, hR⟩ : ∃ R, putW D M l 82 [cutL xl[j]] = R := ⟨_, rfl⟩
    rw [hR] at hput
    refine xjoin (fun (_ : Unit) w' => ∃ (tt' : List (List UInt8)) (sa' : Sl), tt'.length ≤ j + 1 ∧ Still R.disk R.book R.log tt' top (1 + (j + 1)) ∧
      Sat W w' (LogP q d b R.log :: DiskP d R.disk :: BookP b R.book :: pts p (worldCells d b q sa' sn (X0 top)) :: own 1 sa' (strs tt') :: own 1 sn (strs (X0 top).snap) :: L)) (fun J hJ => ?_) ?_
    · refine xnil (xload (hd.bring 3) 2 rfl rfl (RdStr.at ((hL _).rd hd) j rfl hx (by show Int.toNat (j : Int) * 1 = j; omega) fun a => xcall (cut_spec xl[j]) ?_))
      rintro v w3 ⟨rfl, rfl⟩
      refine ⟨str (cutL xl[j]), rfl, (hd.bring 3).cell rfl, xcall (LogAppend_spec (cutL xl[j]) hd hst.log hst.fit (by omega) (by omega)) ?_⟩
      rintro v w4 ⟨rfl, g⟩
      rw [hR] at g ⊢
      refine ⟨R.err, rfl, ?_⟩
      rcases hput with ⟨r1, r2⟩ | ⟨r1, r2⟩
      · have gd := g.drew
        have hsa := (gd.bring 4).own_len
        rw [strs_length] at hsa
        refine XIf.yes (by rw [r1]; rfl) (xnil (xload (gd.bring 3) 3 rfl rfl (RdStr.at ((hL _).rd gd) j rfl hx (by show Int.toNat (j : Int) * 1 = j; omega) fun a => xcall (cut_spec xl[j]) ?_)))
        rintro v w5 ⟨rfl, rfl⟩
        refine ⟨str (cutL xl[j]), rfl, (gd.bring 3).cell rfl, xnew gd fun c w6 g6 => ⟨(g6.bring 4).cell rfl, ?_⟩⟩
        refine xappend (sz := 1) (x := ⟨some ⟨c, 0, none⟩, 1, 1⟩) (by kernel_rfl) (g6.bring 5) (reads_pts g6) rfl (fun h => by cases h) rfl (by show sa.len + 1 ≤ _; omega) fun s' w7 g7 hl7 => ?_
        refine xnil (xstore (g7.bring 5) 3 rfl (by simp [worldCells]) fun w8 g8 => hJ () w8 ⟨tt ++ [cutL xl[j]], s', by rw [List.length_append, List.length_singleton]; omega, ?_, ?_⟩)
        · rw [show 1 + (j + 1) = 1 + j + 1 by omega]
          exact r2
        · rw [strs_append]
          exact ((g8.arr [3, 4, 5, 0, 1, 6, 2]).bring 6).drop
      · refine XIf.no (by rw [r1]; rfl) (hJ () w4 ⟨tt, sa, by omega, ?_, g⟩)
        rw [show 1 + (j + 1) = 1 + j + 1 by omega]
        exact r2
    rintro _ w5 ⟨tt', sa', t1, t2, g5⟩
    exact xlet ((j + 1 : Nat) : Int) (by show IntKind.wrap .i64 ((j : Int) + 1) = _; rw [wi (by omega) (by omega)]; omega) (hnext _ _ ⟨j + 1, R.disk, R.book, R.log, tt', sa', rfl, by omega, by omega, t1, t2, g5⟩ (by show (31 - ((j + 1 : Nat) : Int)).toNat < (31 - (j : Int)).toNat; omega))
  refine XIf.no (decide_eq_false hc) ?_
  clear hnext
  refine xnil (xload (h.bring 3) 2 rfl rfl (xcall (LogSize_spec h) ?_))
  rintro v w3 ⟨rfl, rfl⟩
  refine ⟨(l.end_ : Int), rfl, xnil (xload (h.bring 3) 0 rfl rfl (xcall (Writes_spec (h.bring 1)) ?_))⟩
  rintro v w4 ⟨rfl, hq4⟩
  have h := (h.quiet hq4).drew
  refine ⟨D.count, rfl, xnil (xload (h.bring 3) 2 rfl rfl (xmakeB (m := 3840) (by kernel_rfl) h (by decide) (by decide) fun z w5 hzl g => ⟨(g.bring 4).cell rfl, _, sliceBytes_own g (by omega), ?_⟩))⟩
  have hx50 : (str (List.replicate 3840 (0 : UInt8))).size = 3840 := by rw [str_size, List.length_replicate]
  have hmax : IntKind.max .i64 = 9223372036854775807 := rfl
  refine ⟨by rw [hx50, hmax]; omega, xlet (str (s.data.toList ++ List.replicate 3840 0)) (by rw [← str_append, str_data]) ?_⟩
  obtain ⟨x, hx⟩ : ∃ x, s.data.toList ++ List.replicate 3840 (0 : UInt8) = x := ⟨_, rfl⟩
  have hxl : x.length = s.size + 3840 := by rw [← hx, List.length_append, List.length_replicate, size_list]
  rw [hx]
  have g : Sat W w5 (own 1 z (bcells (List.replicate 3840 0)) :: LogP q d b l :: DiskP d D :: BookP b M :: pts p (worldCells d b q sa sn (X0 top)) :: own 1 sa (strs tt) :: own 1 sn (strs (X0 top).snap) :: L) := g
  refine xcall (LogAppend_spec (L := [own 1 z (bcells (List.replicate 3840 0)), pts p (worldCells d b q sa sn (X0 top)), own 1 sa (strs tt), own 1 sn (strs (X0 top).snap)] ++ L) x (g.arr [1, 2, 3, 0]) hst.log hst.fit (by omega) (by omega)) ?_
  rintro v w6 ⟨rfl, g⟩
  have g : Sat W w6 (LogP q d b (putW D M l 82 [x]).log :: DiskP d (putW D M l 82 [x]).disk :: BookP b (putW D M l 82 [x]).book :: own 1 z (bcells (List.replicate 3840 0)) :: pts p (worldCells d b q sa sn (X0 top)) :: own 1 sa (strs tt) :: own 1 sn (strs (X0 top).snap) :: L) := g
  refine ⟨_, rfl, sliceBytes_own (g.bring 3) (by omega), ?_⟩
  by_cases hbig : 1048832 < x.length
  · -- too long
    have hput : putW D M l 82 [x] = ⟨4, D, M, l⟩ := by
      unfold putW
      have : putB 82 [x] ⟨0, [], l.mark, M⟩ = ⟨4, [], l.mark, M⟩ := by unfold putB; rw [if_pos hbig]
      rw [this]
      rfl
    rw [hput] at g ⊢
    refine xjoin0 (XIf.yes rfl (XIf.yes rfl (xjoin0 (XIf.yes (decide_eq_true (by omega)) (XIf.yes rfl (hawake _ (((((((g.drop).drop).drop).drop).drop).drop).drop) _ fun w' h => hK w' h))))))
  · obtain ⟨p1, p2, p3, p4⟩ := hst.big (by omega) (s := x) (by omega) (by omega)
    obtain ⟨R, hR⟩ : ∃ R, putW D M l 82 [x] = R := ⟨_, rfl⟩
    rw [hR] at g p1 p2 p3 p4 ⊢
    rw [p2, p3] at g
    rw [p1]
    have hM2 := p4.book
    refine xjoin (fun (st : Bool × Unit) w' => st = (false, ()) ∧ Sat W w' (LogP q d b l :: DiskP d D :: BookP b R.book :: own 1 z (bcells (List.replicate 3840 0)) :: pts p (worldCells d b q sa sn (X0 top)) :: own 1 sa (strs tt) :: own 1 sn (strs (X0 top).snap) :: L)) (fun J hJ => ?_) ?_
    · refine XIf.no rfl (xnil (xload (g.bring 4) 2 rfl rfl (xcall (LogSize_spec g) ?_)))
      rintro v w7 ⟨rfl, rfl⟩
      refine ⟨(l.end_ : Int), rfl, XIf.no (by simp) (xnil (xload (g.bring 4) 0 rfl rfl (xcall (Writes_spec (g.bring 1)) ?_)))⟩
      rintro v w8 ⟨rfl, hq8⟩
      exact ⟨D.count, rfl, hJ _ _ ⟨by simp, g.quiet hq8⟩⟩
    clear g h
    rintro _ w7 ⟨rfl, g⟩
    have g := g.drew
    refine XIf.no rfl (xnil (xload (g.bring 4) 2 rfl rfl (xmakeB (m := 3840) (by kernel_rfl) g (by decide) (by decide) fun z2 w8 hzl2 g => ⟨(g.bring 5).cell rfl, _, sliceBytes_own g (by omega), xnew g fun c w9 g => ⟨(g.bring 6).cell rfl, ?_⟩⟩)))
    have g : Sat W w9 (pts c [.string (str (List.replicate 3840 0))] :: own 1 z2 (bcells (List.replicate 3840 0)) :: LogP q d b l :: DiskP d D :: BookP b R.book :: own 1 z (bcells (List.replicate 3840 0)) :: pts p (worldCells d b q sa sn (X0 top)) :: own 1 sa (strs tt) :: own 1 sn (strs (X0 top).snap) :: L) := g
    obtain ⟨f, P, m0, cs, ts, m1, u1, u2⟩ := p4.up
    have hl1 : l.n = 1 := by rw [u2]
    refine xcall (LogTurn_spec (xs := [List.replicate 3840 0]) (s := ⟨some ⟨c, 0, none⟩, 1, 1⟩) (A := pts c [.string (str (List.replicate 3840 0))]) (L := [own 1 z2 (bcells (List.replicate 3840 0)), own 1 z (bcells (List.replicate 3840 0)), pts p (worldCells d b q sa sn (X0 top)), own 1 sa (strs tt), own 1 sn (strs (X0 top).snap)] ++ L)
      (ROStr.one _) (g.arr [2, 3, 4, 0, 1]) (by rw [hl1]; decide) p4.fit (by omega) (by omega) (by decide)) ?_
    rintro v w10 ⟨rfl, g⟩
    have hfitT := turnW_fit p4.fit R.book l p4.log (by rw [hl1]; decide) [List.replicate 3840 0] (by decide)
    obtain ⟨Xb, t1, t2, t3⟩ := turn_up u1 (by decide) (xs := [List.replicate 3840 0]) (by decide) (fun s hs => by rw [List.mem_singleton.1 hs, List.length_replicate]; decide) (l := l) hl1 rfl
    obtain ⟨R2, hR2⟩ : ∃ R2, turnW D R.book l [List.replicate 3840 0] = R2 := ⟨_, rfl⟩
    rw [hR2] at g t1 t3 hfitT ⊢
    have g : Sat W w10 (LogP q d b R2.log :: DiskP d R2.disk :: BookP b R2.book :: pts c [.string (str (List.replicate 3840 0))] :: own 1 z2 (bcells (List.replicate 3840 0)) :: own 1 z (bcells (List.replicate 3840 0)) :: pts p (worldCells d b q sa sn (X0 top)) :: own 1 sa (strs tt) :: own 1 sn (strs (X0 top).snap) :: L) := g
    obtain ⟨hf1, hf2, _⟩ := hfitT
    have hsum : sumL (segR [List.replicate 3840 0] []) = 3914 := by
      rw [sumL_seg]
      simp only [sumL, List.map_cons, List.map_nil, List.sum_cons, List.sum_nil, List.length_cons, List.length_replicate]
      omega
    rcases t3 with ⟨v1, v2, v3, _, v4, v5, _⟩ | ⟨_, _, _, _, v6⟩ | ⟨_, v2, _⟩
    · rw [v3] at g
      rw [v1]
      refine ⟨(7 : Int), rfl, xjoin (fun (st : Bool × Unit) w' => st = (false, ()) ∧ w' = w10) (fun J hJ => ?_) ?_⟩
      · refine XIf.no rfl (xnil (xload (g.bring 6) 2 rfl rfl (xcall (LogSegment_spec g) ?_)))
        rintro v w11 ⟨rfl, rfl⟩
        refine ⟨(l.n : Int), rfl, hJ _ _ ⟨?_, rfl⟩⟩
        rw [hl1]
        rfl
      rintro _ _ ⟨rfl, rfl⟩
      refine XIf.no rfl (xnil (xload (g.bring 6) 2 rfl rfl (xcall (LogSync_spec g hf1 (by omega)) ?_)))
      rintro v w12 ⟨rfl, g⟩
      obtain ⟨y1, f2, y2, y3, _⟩ := sync_up (v2.more Xb)
      have hfs := hf1.sync0
      obtain ⟨D1, hD1⟩ : ∃ D1, R2.disk.sync = D1 := ⟨_, rfl⟩
      rw [hD1] at g y1 y2 y3 hfs ⊢
      have k1 := y2.clean (Q := fun _ => True) trivial
      rw [← t1] at k1
      have hbk : R2.book.length < 65536 := by rw [t1, List.length_append]; omega
      obtain ⟨o1, o2, o3, o4⟩ := k1.open (by decide) hbk (by rw [y3]; exact v4 p4.fuse)
      have g := g.drew
      have g : Sat W w12.drew (LogP q d b l :: DiskP d D1.2 :: BookP b R2.book :: pts c [.string (str (List.replicate 3840 0))] :: own 1 z2 (bcells (List.replicate 3840 0)) :: own 1 z (bcells (List.replicate 3840 0)) :: pts p (worldCells d b q sa sn (X0 top)) :: own 1 sa (strs tt) :: own 1 sn (strs (X0 top).snap) :: L) := g
      refine ⟨_, rfl, xnil (xload (g.bring 6) 0 rfl rfl (xnil (xload (g.bring 6) 1 rfl rfl (xcalls (Open_spec (L := [LogP q d b l, pts c [.string (str (List.replicate 3840 0))], own 1 z2 (bcells (List.replicate 3840 0)), own 1 z (bcells (List.replicate 3840 0)), pts p (worldCells d b q sa sn (X0 top)), own 1 sa (strs tt), own 1 sn (strs (X0 top).snap)] ++ L) (g.arr [1, 2]) hfs (by omega)) ?_))))⟩
      rintro v w13 ⟨_, hO⟩
      obtain ⟨q', so, rfl, g⟩ := hO o1
      rw [o2, o3, o4] at g
      have g : Sat W w13 (LogP q' d b ⟨1, (P ++ ts.flatten).length, m1⟩ :: own 1 so (strs tt) :: DiskP d D1.2 :: BookP b R2.book :: LogP q d b l :: pts c [.string (str (List.replicate 3840 0))] :: own 1 z2 (bcells (List.replicate 3840 0)) :: own 1 z (bcells (List.replicate 3840 0)) :: pts p (worldCells d b q sa sn (X0 top)) :: own 1 sa (strs tt) :: own 1 sn (strs (X0 top).snap) :: L) := g
      refine ⟨(some ⟨q', 0, none⟩, so, (0 : Int), ()), rfl, xjoin0 (XIf.yes rfl (xnil (xload (g.bring 8) 3 rfl rfl (xcall (same_spec (RdStr.of_own (g.bring 1)) (RdStr.of_own (g.bring 9)) (by omega)) ?_))))⟩
      rintro v w14 ⟨rfl, hq⟩
      have g := g.quiet hq
      exact ⟨_, rfl, XIf.yes (sameL_self _) (hawake _ (((((((((((g.drop).drop).drop).drop).drop).drop).drop).drop).drop).drop).drop) _ fun w' h => hK w' h)⟩
    · exfalso
      rw [hsum, p4.most] at v6
      have : secs 3914 = 62 := rfl
      rw [this] at v6
      omega
    · exact absurd p4.fuse v2

end
end Go.X
