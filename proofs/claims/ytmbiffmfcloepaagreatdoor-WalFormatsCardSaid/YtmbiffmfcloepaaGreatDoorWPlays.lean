/- WalPlays. -/
import Derived.Test.YtmbiffmfcloepaaGreatDoorWStart
namespace Go.X
open Go.Proofs Go.ChangeShapes Go.WideShapes Go.RowKit

section
variable {W w : World} {L : List SP}

/-- A call of the script is read. -/
theorem xwop {A : SP} {s : Sl} {os : List WOp} {i : Int} {n : Nat} {K : Addr → HL [(.int .i64), (.int .i64), .str, .slice, .slice] → Prop} (hO : ROWOps W A s os) (hs : Sat W w (A :: L)) (k : Nat) (hi : i = k) {o : WOp} (ho : os[k]? = some o) (hn : n = k * 5)
    (hk : ∀ a, K a (o.kind, o.n, str o.text, o.snap, o.fates, ())) : XNil s.a fun a => ((0 : Int) ≤ i ∧ i < ((s.len : Nat) : Int)) ∧ XLoads [(.int .i64), (.int .i64), .str, .slice, .slice] (Addr.add a n) w (K a) := by
  obtain ⟨b, off, ha, hc⟩ := hO.2.2 w L hs k o ho
  have hlt := (List.getElem?_eq_some_iff.1 ho).1
  have hl := hO.1
  rw [ha]
  refine xnil ⟨by omega, xloads (o.kind, o.n, str o.text, o.snap, o.fates, ()) (fun j v hv => ?_) (hk _)⟩
  rw [Addr.add_mk, Addr.add_mk, hn, Nat.add_assoc]
  exact hc j v hv

theorem crash_world {p k : Nat} {X : WW} {d b q : Nat} {sa sn : Sl} (hs : Sat W w (wparts p d b q sa sn X L)) (hg : Good k X) (hk : k ≤ 1000) {s : Sl} {xs : List Int} (hA : ∀ A, ROInts W A s xs) :
    Ret Tryz.prog F.disk_Disk_Crash [ptr d, .slice s.a s.len s.cap] w fun v w' => v = .tuple ⟨[]⟩ ∧ Sat W w' (wparts p d b q sa sn { X with D := X.D.crash xs } L) := by
  refine (crash_specW (hA (pts p (worldCells d b q sa sn X))) hg hk (hs.arr [4, 0])).mono ?_
  rintro v w' ⟨rfl, g⟩
  exact ⟨rfl, g.arr [1, 2, 3, 4, 0, 5]⟩

theorem Plays_law (n : Int) {s : Sl} {os : List WOp} (hO : ∀ A, ROWOps W A s os) (hs : Sat W w L) :
    Calls Tryz.prog F.barquelaw15_WalPlays ⟨[.int .i64 n, .slice s.a s.len s.cap]⟩ w fun e w' => ∃ v, e = .returned v ∧ v = .bool true ∧ Sat W w' L := by
  suffices H : ∀ K : Value → World → Prop, (∀ w', Sat W w' L → K (.bool true) w') → S.barquelaw15_WalPlays n s K w from S.barquelaw15_WalPlays_ok _ s _ _ (H _ fun _ h => ⟨rfl, h⟩)
  intro K hK
  have hawake : ∀ w', Sat W w' L → XCall Tryz.prog F.barquelaw15_awake [] (.leaf .bool) w' fun (x : Bool) w'' => K (.bool x) w'' := fun w' h => xcall (awake_spec h) fun v w'' ⟨e, g⟩ => ⟨true, e, hK _ g⟩
  refine xjoin (fun (st : Bool × Unit) w' => st = (decide (n < 10 ∨ n > 300), ()) ∧ w' = w) (fun J hJ => ?_) ?_
  · by_cases h1 : n < 10
    · exact XIf.yes (decide_eq_true h1) (hJ _ _ ⟨by rw [decide_eq_true (Or.inl h1)], rfl⟩)
    · refine XIf.no (decide_eq_false h1) (hJ _ _ ⟨?_, rfl⟩)
      have : decide (n > 300) = decide (n < 10 ∨ n > 300) := decide_eq_decide.2 (by omega)
      exact Prod.ext this rfl
  rintro _ w ⟨rfl, rfl⟩
  by_cases hn : n < 10 ∨ n > 300
  · exact XIf.yes (decide_eq_true hn) (hawake _ hs)
  refine XIf.no (decide_eq_false hn) ?_
  obtain ⟨m, rfl⟩ : ∃ m : Nat, n = m := ⟨n.toNat, by omega⟩
  refine xcall (laid_spec (by omega) (by omega) hs) ?_
  rintro v w1 ⟨p, rfl, h⟩
  refine ⟨some ⟨p, 0, none⟩, rfl, XIf.no rfl ?_⟩
  have hol := (hO emp).1
  refine xloop (fun (st : Bool × Int × Unit) w' => ∃ (j : Nat) (b : Bool) (X : WW), st = (b, (j : Int), ()) ∧ j ≤ 60 ∧ j ≤ os.length ∧ XInv (j + 1) X ∧ Good (j + 1) X ∧ Sat W w' (WorldP p X :: L)) (fun st => (61 - st.2.1).toNat)
    ⟨0, false, X0 m, rfl, by omega, Nat.zero_le _, .inl (X0_up (by omega) (by omega)).1, X0_good (by omega), h⟩ ?_
  clear h
  rintro next _ w2 ⟨j, b0, X, rfl, hj, hjo, hinv, hg, h⟩ hnext
  have hb := hg.book
  refine xjoin (fun (st : Bool × Unit) w' => st = (decide (j < os.length ∧ j < 60), ()) ∧ w' = w2) (fun J hJ => ?_) ?_
  · by_cases h1 : j < os.length
    · refine XIf.yes (decide_eq_true (by show (j : Int) < (s.len : Int); omega)) (hJ _ _ ⟨?_, rfl⟩)
      have : (decide ((j : Int) < 60)) = decide (j < os.length ∧ j < 60) := decide_eq_decide.2 ⟨fun h => ⟨h1, by omega⟩, fun h => by omega⟩
      exact Prod.ext this rfl
    · refine XIf.no (decide_eq_false (by show ¬ (j : Int) < (s.len : Int); omega)) (hJ _ _ ⟨?_, rfl⟩)
      have : false = decide (j < os.length ∧ j < 60) := (decide_eq_false (by omega)).symm
      exact Prod.ext this rfl
  rintro _ _ ⟨rfl, rfl⟩
  by_cases hc : j < os.length ∧ j < 60
  · refine XIf.yes (decide_eq_true hc) ?_
    have ho : os[j]? = some os[j] := List.getElem?_eq_getElem hc.1
    have hok := (hO emp).2.1 os[j] (List.getElem_mem hc.1)
    refine xwop (hO _) h j rfl ho (by show Int.toNat (j : Int) * 5 = j * 5; omega) fun a => xcall (step_spec hok h hg (by omega)) ?_
    rintro v w3 ⟨rfl, h3⟩
    obtain ⟨e1, e2⟩ := step_inv hinv (by omega) hg (by omega) os[j]
    refine ⟨_, rfl, XIf.no (by rw [e1]; rfl) (xlet ((j + 1 : Nat) : Int) (by show IntKind.wrap .i64 ((j : Int) + 1) = _; rw [wi (by omega) (by omega)]; omega) ?_)⟩
    exact hnext _ _ ⟨j + 1, b0, _, rfl, by omega, by omega, e2, hg.stepX (by omega) os[j] hok.n.2, h3⟩ (by show (61 - ((j + 1 : Nat) : Int)).toNat < (61 - (j : Int)).toNat; omega)
  · refine XIf.no (decide_eq_false hc) ?_
    obtain ⟨d, b, q, sa, sn, g⟩ := WorldP.open h
    refine xnil (xload g 0 rfl rfl (xcalls (crash_world (s := ⟨none, 0, 0⟩) g hg (by omega) none_ints) ?_))
    rintro v w3 ⟨rfl, g⟩
    obtain ⟨n', f, rs, bs, m', out, r1, r2⟩ := hinv.crash (by omega) []
    obtain ⟨o1, o2, o3⟩ := open_inv (X := { X with D := X.D.crash [] }) r2 r1 (by omega) (show X.M.length < 65536 by omega) rfl
    refine ⟨(), rfl, xjoin0 (xcall (open_spec (WorldP.shut g) (hg.disk (hg.fit.crash0 [])) (by omega)) ?_)⟩
    rintro v w4 ⟨rfl, g4⟩
    refine ⟨_, rfl, XIf.yes o1 ?_⟩
    exact hawake _ g4.drop

end
end Go.X
