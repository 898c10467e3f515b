/- WalAgain. -/
import Derived.Test.YtmbiffmfcloepaaGreatDoorWBroken
namespace Go.X
open Go.Proofs Go.ChangeShapes Go.WideShapes Go.RowKit

section
variable {W w : World} {L : List SP}

theorem fuse_same {D : DD} (h : D.fuse = -1) : ({ D with fuse := -1 } : DD) = D := by
  obtain ⟨fs, wt, mo, fu, of, co, ma⟩ := D
  dsimp only at h
  rw [h]

theorem Again_law {s : Sl} {os : List WOp} (hO : ∀ A, ROWOps W A s os) (hs : Sat W w L) :
    Calls Tryz.prog F.barquelaw15_WalAgain ⟨[.slice s.a s.len s.cap]⟩ w fun e w' => ∃ v, e = .returned v ∧ v = .bool true ∧ Sat W w' L := by
  suffices H : ∀ K : Value → World → Prop, (∀ w', Sat W w' L → K (.bool true) w') → S.barquelaw15_WalAgain s K w from S.barquelaw15_WalAgain_ok s _ _ (H _ fun _ h => ⟨rfl, h⟩)
  intro K hK
  have hawake : ∀ w', Sat W w' L → ∀ N : Bool → World → Prop, (∀ w'', Sat W w'' L → N true w'') → XCall Tryz.prog F.barquelaw15_awake [] (.leaf .bool) w' fun (x : Bool) w'' => N x w'' := fun w' h N hN => xcall (awake_spec h) fun v w'' ⟨e, g⟩ => ⟨true, e, hN _ g⟩
  refine xcall (laid_spec (n := 300) (by decide) (by decide) hs) ?_
  rintro v w1 ⟨p, rfl, h⟩
  refine ⟨some ⟨p, 0, none⟩, rfl, XIf.no rfl ?_⟩
  have hol := (hO emp).1
  refine xloop (fun (st : Int × Unit) w' => ∃ (j : Nat) (X : WW), st = ((j : Int), ()) ∧ j ≤ 40 ∧ j ≤ os.length ∧ XInv (j + 1) X ∧ Good (j + 1) X ∧ Sat W w' (WorldP p X :: L)) (fun st => (61 - st.1).toNat)
    ⟨0, X0 300, rfl, by omega, Nat.zero_le _, .inl (X0_up (by omega) (by omega)).1, X0_good (by omega), h⟩ ?_
  clear h
  rintro next _ w2 ⟨j, X, rfl, hj, hjo, hinv, hg, h⟩ hnext
  have hb := hg.book
  refine xjoin (fun (st : Bool × Unit) w' => st = (decide (j < os.length ∧ j < 40), ()) ∧ w' = w2) (fun J hJ => room_bit hol (hJ _ _ ⟨rfl, rfl⟩)) ?_
  rintro _ _ ⟨rfl, rfl⟩
  by_cases hc : j < os.length ∧ j < 40
  · refine XIf.yes (decide_eq_true hc) ?_
    have ho : os[j]? = some os[j] := List.getElem?_eq_getElem hc.1
    have hok := (hO emp).2.1 os[j] (List.getElem_mem hc.1)
    refine xwop (hO _) h j rfl ho (by show Int.toNat (j : Int) * 5 = j * 5; omega) fun a => xcall (step_spec hok h hg (by omega)) ?_
    rintro v w3 ⟨rfl, h3⟩
    obtain ⟨e1, e2⟩ := step_inv hinv (by omega) hg (by omega) os[j]
    refine ⟨_, rfl, xlet ((j + 1 : Nat) : Int) (by show IntKind.wrap .i64 ((j : Int) + 1) = _; rw [wi (by omega) (by omega)]; omega) ?_⟩
    exact hnext _ _ ⟨j + 1, _, rfl, by omega, by omega, e2, hg.stepX (by omega) os[j] hok.n.2, h3⟩ (by show (61 - ((j + 1 : Nat) : Int)).toNat < (61 - (j : Int)).toNat; omega)
  · refine XIf.no (decide_eq_false hc) ?_
    clear hnext
    obtain ⟨d, b, q, sa, sn, g⟩ := WorldP.open h
    refine xnil (xload g 0 rfl rfl (xcalls (crash_world (s := ⟨none, 0, 0⟩) g hg (by omega) none_ints) ?_))
    rintro v w3 ⟨rfl, g⟩
    obtain ⟨n', f, rs, bs, m', out, r1, r2⟩ := hinv.crash (by omega) []
    have gd := g.drew
    have hfit := hg.fit.crash0 []
    have hM : X.M.length < 65536 := by omega
    obtain ⟨D1, hD1⟩ : ∃ D1, X.D.crash [] = D1 := ⟨_, rfl⟩
    have hfu1 : D1.fuse = -1 := by rw [← hD1]; rfl
    rw [hD1] at gd r2 hfit
    have gd : Sat W w3.drew (pts p (worldCells d b q sa sn { X with D := D1 }) :: own 1 sa (strs X.all) :: own 1 sn (strs X.snap) :: LogP q d b X.l :: DiskP d D1 :: BookP b X.M :: L) := gd
    -- the first
    refine ⟨(), rfl, xnil (xload gd 0 rfl rfl (xnil (xload gd 1 rfl rfl (xcalls (Open_spec (L := [pts p (worldCells d b q sa sn { X with D := D1 }), own 1 sa (strs X.all), own 1 sn (strs X.snap), LogP q d b X.l] ++ L) (gd.arr [4, 5]) hfit (by omega)) ?_))))⟩
    rintro v w4 ⟨_, hO1⟩
    obtain ⟨hf2, ho2, _⟩ := openW_fits hfit X.M
    rcases open_rec r2 (by omega) hM with ⟨e1, ⟨n2, f2, rs2, bs2, m2, o2, o3, o4⟩, o5, _⟩ | ⟨e0, _⟩
    case inr => exact absurd hfu1 e0
    obtain ⟨R, hR⟩ : ∃ R, openW D1 X.M = R := ⟨_, rfl⟩
    rw [hR] at e1 o3 o4 o5 hf2 ho2 hO1
    have hfu2 := o5 hfu1
    obtain ⟨q1, s1, rfl, g⟩ := hO1 e1
    have g : Sat W w4 (LogP q1 d b R.log :: own 1 s1 (strs R.out) :: DiskP d R.disk :: BookP b X.M :: pts p (worldCells d b q sa sn { X with D := D1 }) :: own 1 sa (strs X.all) :: own 1 sn (strs X.snap) :: LogP q d b X.l :: L) := g
    refine ⟨(some ⟨q1, 0, none⟩, s1, (0 : Int), ()), rfl, xnil (xload (g.bring 4) 0 rfl rfl (xcall (Writes_spec (g.bring 2)) ?_))⟩
    rintro v w5 ⟨rfl, hq5⟩
    have g := (g.quiet hq5).drew
    obtain ⟨p1, p2, p3, p4⟩ := o3.open (by omega) hM hfu2
    -- the second
    refine ⟨R.disk.count, rfl, xnil (xload (g.bring 4) 0 rfl rfl (xnil (xload (g.bring 4) 1 rfl rfl (xcalls (Open_spec (L := [LogP q1 d b R.log, own 1 s1 (strs R.out), pts p (worldCells d b q sa sn { X with D := D1 }), own 1 sa (strs X.all), own 1 sn (strs X.snap), LogP q d b X.l] ++ L) (g.arr [2, 3]) hf2 (by omega)) ?_))))⟩
    rintro v w6 ⟨_, hO2⟩
    obtain ⟨q2, s2, rfl, g⟩ := hO2 p1
    rw [p2, p3, p4] at g
    have g : Sat W w6 (LogP q2 d b ⟨n2, bs2.length, m2⟩ :: own 1 s2 (strs R.out) :: DiskP d R.disk :: BookP b X.M :: LogP q1 d b R.log :: own 1 s1 (strs R.out) :: pts p (worldCells d b q sa sn { X with D := D1 }) :: own 1 sa (strs X.all) :: own 1 sn (strs X.snap) :: LogP q d b X.l :: L) := g
    refine ⟨(some ⟨q2, 0, none⟩, s2, (0 : Int), ()), rfl, xnil (xload (g.bring 6) 0 rfl rfl (xcall (Writes_spec (g.bring 2)) ?_))⟩
    rintro v w7 ⟨rfl, hq7⟩
    have g := g.quiet hq7
    -- a crash
    have hcr : R.disk.crash [] = R.disk := by rw [(o3.rec_.crash []).1]; exact fuse_same hfu2
    have hlen : R.disk.files.length ≤ 2 ^ 30 := Nat.le_trans hf2.len (by omega)
    have hwait : R.disk.wait.length ≤ 2 ^ 38 := Nat.le_trans hf2.waits (by omega)
    refine ⟨R.disk.count, rfl, xnil (xload (g.bring 6) 0 rfl rfl (xcalls (Crash_spec (A := BookP b X.M) (s := ⟨none, 0, 0⟩) (none_ints _) (g.arr [2, 3]) hlen hf2.pieces hwait fun f hf => Nat.le_trans (hf2.last [] f hf) (by decide)) ?_))⟩
    rintro v w8 ⟨rfl, g⟩
    rw [hcr] at g
    have g := g.drew
    have g : Sat W w8.drew (DiskP d R.disk :: BookP b X.M :: LogP q2 d b ⟨n2, bs2.length, m2⟩ :: own 1 s2 (strs R.out) :: LogP q1 d b R.log :: own 1 s1 (strs R.out) :: pts p (worldCells d b q sa sn { X with D := D1 }) :: own 1 sa (strs X.all) :: own 1 sn (strs X.snap) :: LogP q d b X.l :: L) := g
    -- the third
    refine ⟨(), rfl, xnil (xload (g.bring 6) 0 rfl rfl (xnil (xload (g.bring 6) 1 rfl rfl (xcalls (Open_spec g hf2 (by omega)) ?_))))⟩
    rintro v w9 ⟨_, hO3⟩
    obtain ⟨q3, s3, rfl, g⟩ := hO3 p1
    rw [p2, p3, p4] at g
    have g : Sat W w9 (LogP q3 d b ⟨n2, bs2.length, m2⟩ :: own 1 s3 (strs R.out) :: DiskP d R.disk :: BookP b X.M :: LogP q2 d b ⟨n2, bs2.length, m2⟩ :: own 1 s2 (strs R.out) :: LogP q1 d b R.log :: own 1 s1 (strs R.out) :: pts p (worldCells d b q sa sn { X with D := D1 }) :: own 1 sa (strs X.all) :: own 1 sn (strs X.snap) :: LogP q d b X.l :: L) := g
    refine ⟨(some ⟨q3, 0, none⟩, s3, (0 : Int), ()), rfl, xjoin0 (XIf.yes rfl (XIf.yes rfl (XIf.yes rfl (xcall (same_spec (RdStr.of_own (g.bring 7)) (RdStr.of_own (g.bring 5)) (by omega)) ?_))))⟩
    rintro v w10 ⟨rfl, hq10⟩
    have g := g.quiet hq10
    refine ⟨_, rfl, XIf.yes (sameL_self _) (xcall (same_spec (RdStr.of_own (g.bring 7)) (RdStr.of_own (g.bring 1)) (by omega)) ?_)⟩
    rintro v w11 ⟨rfl, hq11⟩
    have g := g.quiet hq11
    exact ⟨_, rfl, XIf.yes (sameL_self _) (XIf.yes (beq_self_int _) (hawake _ (((((((((((g.drop).drop).drop).drop).drop).drop).drop).drop).drop).drop).drop.drop) _ fun w' h => hK w' h))⟩

end
end Go.X
