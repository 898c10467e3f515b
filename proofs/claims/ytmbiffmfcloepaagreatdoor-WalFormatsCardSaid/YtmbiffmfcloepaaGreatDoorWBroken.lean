/- WalBroken. -/
import Derived.Test.YtmbiffmfcloepaaGreatDoorWPlays
namespace Go.X
open Go.Proofs Go.ChangeShapes Go.WideShapes Go.RowKit

section
variable {W w : World} {L : List SP}

theorem room_bit {j m k : Nat} {s : Sl} {J : Bool × Unit → World → Prop} {w : World} (hm : m = s.len) (hJ : J (decide (j < m ∧ j < k), ()) w) :
    XIf (decide ((j : Int) < ((s.len : Nat) : Int))) (J ((decide ((j : Int) < (k : Int))), ()) w) (J (false, ()) w) := by
  by_cases h1 : j < m
  · refine XIf.yes (decide_eq_true (by omega)) ?_
    have : (decide ((j : Int) < (k : Int))) = decide (j < m ∧ j < k) := decide_eq_decide.2 ⟨fun h => ⟨h1, by omega⟩, fun h => by omega⟩
    rw [this]; exact hJ
  · refine XIf.no (decide_eq_false (by omega)) ?_
    have : decide (j < m ∧ j < k) = false := decide_eq_false (by omega)
    rw [this] at hJ; exact hJ

theorem Rec.armed {D : DD} {M : Bk} {Q : List (List UInt8) → Prop} {n : Nat} {f : DF} {rs : List (List UInt8)} {bs m : List UInt8} {out : List (List UInt8)} (h : Rec D M Q n f rs bs m out) (k : Int) : Rec (armD k D) M Q n f rs bs m out := by
  unfold armD
  split
  · rename_i hk
    exact h.fused k (by omega)
  · exact h

/-- Arm, of a device. -/
theorem arm_spec {D : DD} {d : Nat} (n : Int) (hs : Sat W w (DiskP d D :: L)) : Ret Tryz.prog F.disk_Disk_Arm [ptr d, .int .i64 n] w fun v w' => (∃ e : Int, v = .int .i64 e) ∧ Sat W w' (DiskP d (armD n D) :: L) := by
  refine (Arm_spec n hs).mono ?_
  rintro v w' ⟨a1, a2, a3⟩
  cases hoff : D.off with
  | true =>
    obtain ⟨rfl, g⟩ := a1 hoff
    exact ⟨⟨_, rfl⟩, by unfold armD; rw [if_neg (by rw [hoff]; simp)]; exact g⟩
  | false =>
    by_cases hn : n < 0
    · obtain ⟨rfl, g⟩ := a2 hoff hn
      exact ⟨⟨_, rfl⟩, by unfold armD; rw [if_neg (by omega)]; exact g⟩
    · obtain ⟨rfl, g⟩ := a3 hoff (by omega)
      exact ⟨⟨_, rfl⟩, by unfold armD; rw [if_pos ⟨hoff, by omega⟩]; exact g⟩

theorem xintAt {A : SP} {s : Sl} {xs : List Int} {i : Int} {n : Nat} {K : Addr → Int → Prop} (hR : ROInts W A s xs) (hs : Sat W w (A :: L)) (k : Nat) (hi : i = k) {x : Int} (hx : xs[k]? = some x) (hn : n = k) (hk : ∀ a, K a x) :
    XNil s.a fun a => ((0 : Int) ≤ i ∧ i < ((s.len : Nat) : Int)) ∧ XLoad (.int .i64) (Addr.add a n) w (K a) := by
  obtain ⟨b, o, ha, hc⟩ := hR.2 w L hs k x hx
  have hlt := (List.getElem?_eq_some_iff.1 hx).1
  have hl := hR.1
  rw [ha]
  refine ⟨by omega, x, ?_, hk _⟩
  rw [Addr.add_mk, hn]
  exact hc

theorem Good.opened {k : Nat} {X : WW} (h : Good k X) {n : Int} (hn : n ≤ 9223372036854775807) (xs : List Int) : Good (k + 1) { X with D := (openW (armD n X.D) X.M).disk.crash xs } := by
  obtain ⟨h1, _⟩ := openW_fits (armD_fit h.fit hn) X.M
  have := h.up (Nat.le_succ k)
  exact ⟨(h1.crash0 xs).le (by omega), this.book, this.log, this.num, this.fin, this.all, this.snap⟩

theorem Broken_law {s sf sx : Sl} {os : List WOp} {fs xs : List Int} (hO : ∀ A, ROWOps W A s os) (hFF : (∀ A, ROInts W A sf fs) ∧ ∀ x ∈ fs, x ≤ 9223372036854775807) (hX : ∀ A, ROInts W A sx xs) (hs : Sat W w L) :
    Calls Tryz.prog F.barquelaw15_WalBroken ⟨[.slice s.a s.len s.cap, .slice sf.a sf.len sf.cap, .slice sx.a sx.len sx.cap]⟩ w fun e w' => ∃ v, e = .returned v ∧ v = .bool true ∧ Sat W w' L := by
  obtain ⟨hF, hFb⟩ := hFF
  suffices H : ∀ K : Value → World → Prop, (∀ w', Sat W w' L → K (.bool true) w') → S.barquelaw15_WalBroken s sf sx K w from S.barquelaw15_WalBroken_ok s sf sx _ _ (H _ fun _ h => ⟨rfl, h⟩)
  intro K hK
  have hawake : ∀ w', Sat W w' L → ∀ N : Bool → World → Prop, (∀ w'', Sat W w'' L → N true w'') → XCall Tryz.prog F.barquelaw15_awake [] (.leaf .bool) w' fun (x : Bool) w'' => N x w'' := fun w' h N hN => xcall (awake_spec h) fun v w'' ⟨e, g⟩ => ⟨true, e, hN _ g⟩
  refine xcall (laid_spec (n := 300) (by decide) (by decide) hs) ?_
  rintro v w1 ⟨p, rfl, h⟩
  refine ⟨some ⟨p, 0, none⟩, rfl, XIf.no rfl ?_⟩
  have hol := (hO emp).1
  refine xloop (fun (st : Bool × Int × Unit) w' => ∃ (j : Nat) (b : Bool) (X : WW), st = (b, (j : Int), ()) ∧ j ≤ 40 ∧ j ≤ os.length ∧ XInv (j + 1) X ∧ Good (j + 1) X ∧ Sat W w' (WorldP p X :: L)) (fun st => (61 - st.2.1).toNat)
    ⟨0, false, X0 300, rfl, by omega, Nat.zero_le _, .inl (X0_up (by omega) (by omega)).1, X0_good (by omega), h⟩ ?_
  clear h
  rintro next _ w2 ⟨j, b0, X, rfl, hj, hjo, hinv, hg, h⟩ hnext
  have hb := hg.book
  refine xjoin (fun (st : Bool × Unit) w' => st = (decide (j < os.length ∧ j < 40), ()) ∧ w' = w2) (fun J hJ => room_bit hol (hJ _ _ ⟨rfl, rfl⟩)) ?_
  rintro _ _ ⟨rfl, rfl⟩
  by_cases hc : j < os.length ∧ j < 40
  · refine XIf.yes (decide_eq_true hc) ?_
    have ho : os[j]? = some os[j] := List.getElem?_eq_getElem hc.1
    have hok := (hO emp).2.1 os[j] (List.getElem_mem hc.1)
    refine xwop (hO _) h j rfl ho (by show Int.toNat (j : Int) * 5 = j * 5; omega) fun a => xcall (step_spec hok h hg (by omega)) ?_
    rintro v w3 ⟨rfl, h3⟩
    obtain ⟨e1, e2⟩ := step_inv hinv (by omega) hg (by omega) os[j]
    refine ⟨_, rfl, XIf.no (by rw [e1]; rfl) (xlet ((j + 1 : Nat) : Int) (by show IntKind.wrap .i64 ((j : Int) + 1) = _; rw [wi (by omega) (by omega)]; omega) ?_)⟩
    exact hnext _ _ ⟨j + 1, b0, _, rfl, by omega, by omega, e2, hg.stepX (by omega) os[j] hok.n.2, h3⟩ (by show (61 - ((j + 1 : Nat) : Int)).toNat < (61 - (j : Int)).toNat; omega)
  · refine XIf.no (decide_eq_false hc) ?_
    clear hnext
    obtain ⟨d, b, q, sa, sn, g⟩ := WorldP.open h
    refine xnil (xload g 0 rfl rfl (xcalls (crash_world (s := sx) g hg (by omega) hX) ?_))
    rintro v w3 ⟨rfl, g⟩
    refine ⟨(), rfl, ?_⟩
    have hfl := (hF emp).1
    refine xloop (fun (st : Bool × Int × Unit) w' => ∃ (i : Nat) (b1 : Bool) (D : DD) (n' : Nat) (f : DF) (rs : List (List UInt8)) (bs m' : List UInt8) (out : List (List UInt8)), st = (b1, (i : Int), ()) ∧ i ≤ 4 ∧ i ≤ fs.length ∧ n' ≤ j + 1 + i ∧ Good (j + 1 + i) { X with D := D } ∧
        Rec D X.M (Acc X.all X.safe X.turned X.snap) n' f rs bs m' out ∧ D.fuse = -1 ∧ Sat W w' (wparts p d b q sa sn { X with D := D } L)) (fun st => (5 - st.2.1).toNat) ?_ ?_
    · obtain ⟨n', f, rs, bs, m', out, r1, r2⟩ := hinv.crash (by omega) xs
      exact ⟨0, b0, X.D.crash xs, n', f, rs, bs, m', out, rfl, by omega, Nat.zero_le _, r1, hg.disk (hg.fit.crash0 xs), r2, rfl, g⟩
    clear g h
    rintro next _ w4 ⟨i, b1, D, n', f, rs, bs, m', out, rfl, hi4, hif, hn', hgi, hr, hfu, g⟩ hnext
    refine xjoin (fun (st : Bool × Unit) w' => st = (decide (i < fs.length ∧ i < 4), ()) ∧ w' = w4) (fun J hJ => room_bit hfl (hJ _ _ ⟨rfl, rfl⟩)) ?_
    rintro _ _ ⟨rfl, rfl⟩
    by_cases hci : i < fs.length ∧ i < 4
    · refine XIf.yes (decide_eq_true hci) ?_
      have gd := g.drew
      have hx : fs[i]? = some fs[i] := List.getElem?_eq_getElem hci.1
      have hxb := hFb fs[i] (List.getElem_mem hci.1)
      refine xnil (xload gd 0 rfl rfl (xintAt (hF _) gd i rfl hx (by show Int.toNat (i : Int) * 1 = i; omega) fun a => xcall (arm_spec fs[i] (gd.bring 4)) ?_))
      rintro v w5 ⟨⟨e, rfl⟩, g⟩
      have g := (g.drew)
      refine ⟨e, rfl, xnil (xload (g.bring 1) 0 rfl rfl (xnil (xload (g.bring 1) 1 rfl rfl ?_)))⟩
      have g : Sat W w5.drew (DiskP d (armD fs[i] D) :: pts p (worldCells d b q sa sn { X with D := D }) :: own 1 sa (strs X.all) :: own 1 sn (strs X.snap) :: LogP q d b X.l :: BookP b X.M :: L) := g
      refine xcalls (Open_spec (L := [pts p (worldCells d b q sa sn { X with D := D }), own 1 sa (strs X.all), own 1 sn (strs X.snap), LogP q d b X.l] ++ L) (g.arr [0, 5]) (armD_fit hgi.fit hxb) (by omega)) ?_
      rintro v w6 hO2
      have hop := open_rec (hr.armed fs[i]) (by omega) (show X.M.length < 65536 by omega)
      have hgo := hgi.opened (n := fs[i]) hxb xs
      obtain ⟨R, hR⟩ : ∃ R, openW (armD fs[i] D) X.M = R := ⟨_, rfl⟩
      have hgo : Good (j + 1 + (i + 1)) { X with D := R.disk.crash xs } := by rw [← hR]; exact hgo
      rw [hR] at hO2 hop
      -- crash and go on
      have goon : ∀ w7, Sat W w7 (wparts p d b q sa sn { X with D := R.disk } L) → Fit (20000 * (j + 1 + (i + 1))) R.disk → (∃ n' f' rs' bs' m' out', n' ≤ j + 1 + (i + 1) ∧ Rec (R.disk.crash xs) X.M (Acc X.all X.safe X.turned X.snap) n' f' rs' bs' m' out') →
          XNil (some ⟨p, 0, none⟩) fun a39 => XLoad .ptr a39 w7 fun (x40 : Option Addr) => XCalls Tryz.prog F.disk_Disk_Crash [.pointer x40, .slice sx.a sx.len sx.cap] [] w7 fun x41 w42 => XLet (((IntKind.wrap .i64 ((i : Int) + 1))) : Int) fun n43 => next (b1, (n43, ())) w42 := by
        intro w7 h7 hf7 hrec
        have hg7 : Good (j + 1 + (i + 1)) { X with D := R.disk } := ⟨hf7, hgo.book, hgo.log, hgo.num, hgo.fin, hgo.all, hgo.snap⟩
        refine xnil (xload h7 0 rfl rfl (xcalls (crash_world (s := sx) h7 hg7 (by omega) hX) ?_))
        rintro v w8 ⟨rfl, g8⟩
        refine ⟨(), rfl, xlet ((i + 1 : Nat) : Int) (by rw [wi (by omega) (by omega)]; omega) ?_⟩
        obtain ⟨n2, f2, rs2, bs2, m2, out2, r1, r2⟩ := hrec
        exact hnext _ _ ⟨i + 1, b1, R.disk.crash xs, n2, f2, rs2, bs2, m2, out2, rfl, by omega, by omega, r1, hgo, r2, rfl, g8⟩ (by show (5 - ((i + 1 : Nat) : Int)).toNat < (5 - (i : Int)).toNat; omega)
      have hfR : Fit (20000 * (j + 1 + (i + 1))) R.disk := by
        have := (openW_fits (armD_fit hgi.fit hxb) X.M).1
        have e : Fit (20000 * (j + 1 + i) + 3000) (openW (armD fs[i] D) X.M).disk := this
        rw [hR] at e
        exact e.le (by omega)
      rcases hop with ⟨o1, ⟨n2, f2, rs2, bs2, m2, o2, o3, o4⟩, _⟩ | ⟨o0, o1, o2⟩
      · obtain ⟨p', s', rfl, g6⟩ := hO2.2 o1
        have g6 : Sat W w6 (LogP p' d b R.log :: own 1 s' (R.out.map fun x => Value.string (str x)) :: DiskP d R.disk :: BookP b X.M :: pts p (worldCells d b q sa sn { X with D := D }) :: own 1 sa (strs X.all) :: own 1 sn (strs X.snap) :: LogP q d b X.l :: L) := g6
        refine ⟨(some ⟨p', 0, none⟩, s', (0 : Int), ()), rfl, xjoin0 (XIf.no rfl (XIf.no rfl ?_))⟩
        refine goon w6 (((g6.drop).drop).arr [2, 3, 4, 5, 0, 1]) hfR ⟨n2, f2, rs2, bs2, m2, _, by omega, (o3.rec_.crash xs).2⟩
      · obtain ⟨rfl, g6⟩ := hO2.1 (by rw [o1]; decide)
        have g6 : Sat W w6 (DiskP d R.disk :: BookP b X.M :: pts p (worldCells d b q sa sn { X with D := D }) :: own 1 sa (strs X.all) :: own 1 sn (strs X.snap) :: LogP q d b X.l :: L) := g6
        rw [o1]
        refine ⟨(none, ⟨none, 0, 0⟩, (14 : Int), ()), rfl, xjoin0 (XIf.yes rfl (XIf.no rfl (XIf.no rfl ?_)))⟩
        obtain ⟨n2, f2, rs2, bs2, m2, out2, r1, r2⟩ := o2 xs
        exact goon w6 (g6.arr [2, 3, 4, 5, 0, 1]) hfR ⟨n2, f2, rs2, bs2, m2, out2, by omega, r2⟩
    · refine XIf.no (decide_eq_false hci) ?_
      obtain ⟨o1, o2, o3⟩ := open_inv (X := { X with D := D }) hr hn' (by omega) (show X.M.length < 65536 by omega) hfu
      refine xjoin0 (xcall (open_spec (WorldP.shut g) hgi (by omega)) ?_)
      rintro v w5 ⟨rfl, g5⟩
      refine ⟨_, rfl, XIf.yes o1 (hawake _ g5.drop _ fun w' h => hK w' h)⟩

end
end Go.X
