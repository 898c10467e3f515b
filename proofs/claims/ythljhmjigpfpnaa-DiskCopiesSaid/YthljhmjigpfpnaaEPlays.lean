/- The laws DiskPlays and DiskCopies. -/
import Derived.Test.YthljhmjigpfpnaaEStep
namespace Go.X
open Go.Proofs

section
variable {W w : World} {L : List SP} {d q : Nat} {D R : DD} {i : Nat}

theorem none_ints (A : SP) : ROInts W A ⟨none, 0, 0⟩ [] := ⟨rfl, fun _ _ _ k x hx => by simp at hx⟩

theorem read_all (hf : Fit i D) (hl : Like D R) (n : ByteArray) : R.readR n 0 2097152 = D.read n 0 2097152 := read_like hf.rising hl n 0 2097152

theorem stands_spec (hi : i + 2 ≤ 2 ^ 20) (hf : Fit i D) (hl : Like D R) (hs : Sat W w (DiskP d D :: RefP q R :: L)) :
    Ret Try.prog F.barquelaw14_stands [ptr d, ptr q] w fun v w' => v = .bool true ∧ ∃ D' R', Sat W w' (DiskP d D' :: RefP q R' :: L) := by
  suffices H : ∀ K : Value → World → Prop, (∀ D' R' w', Sat W w' (DiskP d D' :: RefP q R' :: L) → K (.bool true) w') → S.barquelaw14_stands (some ⟨d, 0, none⟩) (some ⟨q, 0, none⟩) K w from
    S.barquelaw14_stands_ok _ _ _ _ (H _ fun D' R' _ h => ⟨rfl, D', R', h⟩)
  intro K hK
  refine xloop (fun (st : Bool × Int × Unit) w => ∃ (t : Nat) (D R : DD), t ≤ 2 ∧ st = (false, (t : Int), ()) ∧ Fit (i + t) D ∧ Like D R ∧ Sat W w (DiskP d D :: RefP q R :: L))
    (fun st => (2 - st.2.1).toNat) ⟨0, D, R, by omega, rfl, hf, hl, hs⟩ ?_
  clear hf hl hs
  rintro next _ w ⟨t, D, R, ht, rfl, hf, hl, h⟩ hnext
  by_cases hlt : t < 2
  case neg => exact XIf.no (decide_eq_false (show ¬ (t : Int) < 2 by omega)) (hK D R w h)
  have hlen := hf.len
  have hwaits := hf.waits
  have hcount := hf.count
  have hrl : R.files.length ≤ 2 ^ 30 := by rw [hl.len]; omega
  have hrs := hl.small hf.small
  have hrm : 0 ≤ R.most ∧ R.most ≤ 32768 := by rw [hl.most]; exact hf.most
  refine XIf.yes (decide_eq_true (show (t : Int) < 2 by omega)) (xjoin (fun (st : Bool × Unit) w' => st = (false, ()) ∧ Sat W w' (DiskP d D :: RefP q R :: L)) (fun J hJ => xnil ?_) ?_)
  · have hd := h.drew
    obtain ⟨fs, ws, h1⟩ := RefP.open hd.swap
    refine xload h1 4 rfl rfl ?_
    have h1 : Sat W _ (_ :: _ :: _ :: DiskP d D :: L) := h1
    have h2 := h1.arr [3, 0, 1, 2]
    have hwl : R.wait.length = ws.len := by have := (h1.bring 2).own_len; rw [vcells_len] at this; omega
    refine xcall (Up_spec h2) ?_
    rintro v w2 ⟨rfl, hq⟩
    have h3 := h2.quiet hq
    refine ⟨_, rfl, (h3.bring 1).cell rfl, XIf.no (by rw [hl.off]; cases D.off <;> rfl) (xcall (Free_spec h3 hf.small (by omega) hf.most) ?_)⟩
    rintro v w4 ⟨rfl, hq⟩
    have h4 := h3.quiet hq
    refine ⟨_, rfl, (h4.bring 1).cell rfl, xcall (FreeR_parts (h4.arr [1, 2, 3, 0]) hrs hrl hrm) ?_⟩
    rintro v w5 ⟨rfl, h5⟩
    have h5 := h5.arr [3, 0, 1, 2]
    refine ⟨_, rfl, (h5.bring 1).cell rfl, XIf.no (by rw [hl.free]; simp) (xnil (xload (h5.bring 1) 1 rfl rfl (xcall (Waiting_spec h5) ?_)))⟩
    rintro v w6 ⟨rfl, hq⟩
    have h6 := h5.quiet hq
    refine ⟨_, rfl, (h6.bring 1).cell rfl, (h6.bring 1).cell rfl, XIf.no (by rw [← hl.wait, hwl]; simp) (xnil (xload (h6.bring 1) 5 rfl rfl (xcall (Writes_spec h6) ?_)))⟩
    rintro v w7 ⟨rfl, hq⟩
    have h7 := h6.quiet hq
    exact ⟨_, rfl, (h7.bring 1).cell rfl, (h7.bring 1).cell rfl, (h7.bring 1).cell rfl, hJ _ _ ⟨by rw [hl.count]; simp, (RefP.shut (R := R) (fs := fs) (ws := ws) (h7.arr [1, 2, 3, 0])).swap⟩⟩
  clear h
  rintro _ w2 ⟨rfl, h2⟩
  refine XIf.no rfl (lists_both (by omega) hf hl h2 fun N s1 s2 e w3 hN h3 => xjoin (fun (st : Bool × Unit) w' => st = (false, ()) ∧ Sat W w' (own 1 s1 (N.map Value.string) :: own 1 s2 (N.map Value.string) :: DiskP d D :: RefP q R :: L)) (fun J hJ => ?_) ?_)
  · refine xcall (names_spec h3 (by omega)) ?_
    rintro v w4 ⟨rfl, h4⟩
    exact ⟨true, rfl, XIf.no rfl (hJ _ _ ⟨by simp, h4⟩)⟩
  clear h3
  rintro _ w4 ⟨rfl, h4⟩
  refine XIf.no rfl ?_
  have hsl : s2.len = N.length := by have := (h4.bring 1).own_len; simpa using this.symm
  refine xloop (fun (st : Bool × Int × Unit) w => ∃ k : Nat, k ≤ N.length ∧ st = (false, (k : Int), ()) ∧ Sat W w (own 1 s1 (N.map Value.string) :: own 1 s2 (N.map Value.string) :: DiskP d D :: RefP q R :: L))
    (fun st => ((s2.len : Int) - st.2.1).toNat) ⟨0, Nat.zero_le _, rfl, h4⟩ ?_
  clear h4
  rintro next2 _ w ⟨k, hk, rfl, h⟩ hnext2
  by_cases hkl : k < N.length
  · refine XIf.yes (decide_eq_true (show (k : Int) < (s2.len : Int) by omega)) (xelem (h.bring 1) k rfl (names_get N k hkl) (by show Int.toNat _ * 1 = _; simp) fun a => xcalls (Read_spec (name := N[k]) (at_ := 0) (n := 2097152) (h.bring 2) hf.rising hf.small (by omega)) ?_)
    rintro v w5 ⟨rfl, hq⟩
    have h5 := h.quiet hq
    refine ⟨(_, _, ()), rfl, xelem (h5.bring 1) k rfl (names_get N k hkl) (by show Int.toNat _ * 1 = _; simp) fun a => xcalls_eq (ReadR_spec (name := N[k]) (at_ := 0) (n := 2097152) (h5.bring 3) hrl) (str (R.readR N[k] 0 2097152).1, (R.readR N[k] 0 2097152).2, ()) rfl ?_⟩
    rw [read_all hf hl]
    refine xjoin0 (XIf.no (by show (!sEq (str (D.read N[k] 0 2097152).1) (str (D.read N[k] 0 2097152).1)) = false; rw [sEq_self]; rfl) (XIf.no (by simp) ?_))
    exact xlet ((k + 1 : Nat) : Int) (by dsimp only; rw [wi (by omega) (by omega)]; omega) (hnext2 _ _ ⟨k + 1, hkl, rfl, h5⟩ (by dsimp only; omega))
  · refine XIf.no (decide_eq_false (show ¬ (k : Int) < (s2.len : Int) by omega)) ?_
    refine xcalls (Crash_spec (s := ⟨none, 0, 0⟩) (none_ints emp) h.drop.drop.add_emp.swap (by omega) hf.pieces (by omega) (fun f hf' => Nat.le_trans (hf.last [] f hf') (by decide))) ?_
    rintro v w5 ⟨rfl, h5⟩
    refine ⟨(), rfl, xcalls (CrashR_spec (s := ⟨none, 0, 0⟩) none_ints (h5.bring 2) hrl (by rw [hl.wait]; exact hf.pieces) (by rw [hl.wait]; omega) (fun f h => (hrs f h).2)) ?_⟩
    rintro v w6 ⟨rfl, h6⟩
    refine ⟨(), rfl, xlet ((t + 1 : Nat) : Int) (by dsimp only; rw [wi (by omega) (by omega)]; omega) (hnext _ _ ⟨t + 1, D.crash [], R.crash [], hlt, rfl, hf.crash [], crash_like hl [], ?_⟩ (by dsimp only; omega))⟩
    exact (h6.bring 2).drop.swap

theorem awake_true (hs : Sat W w L) {K : Bool → World → Prop} (hk : ∀ w', Sat W w' L → K true w') : XCall Try.prog F.barquelaw14_awake [] (.leaf .bool) w K :=
  xcall (awake_spec hs) fun _ w' ⟨e, h⟩ => ⟨true, e, hk w' h⟩

/-- A call of a list, handed to both. -/
theorem xopL {A : SP} {ms : Sl} {os : List Op} {k : Nat} {o : Op} {K : Addr → HL [.int .i64, .int .i64, .int .i64, .str, .str, .str, .slice] → Prop} (hO : ∀ A, ROOps W A ms os) (hs : Sat W w (A :: L)) (ho : os[k]? = some o)
    (hk : ∀ a, K a (o.kind, o.at_, o.n, o.name, o.to, o.text, o.fates, ())) :
    XNil ms.a fun a => ((0 : Int) ≤ (k : Int) ∧ (k : Int) < ((ms.len : Nat) : Int)) ∧ XLoads [.int .i64, .int .i64, .int .i64, .str, .str, .str, .slice] (Addr.add a ((Int.toNat (k : Int)) * 7)) w (K a) := by
  obtain ⟨b0, off, hma, hcell⟩ := (hO A).2.2 w L hs k o ho
  have hlt := (List.getElem?_eq_some_iff.1 ho).1
  have hol : os.length = ms.len := (hO emp).1
  rw [hma]
  exact ⟨by omega, xloads (o.kind, o.at_, o.n, o.name, o.to, o.text, o.fates, ()) (fun j v hv => by rw [Int.toNat_natCast, Addr.add_mk, Addr.add_mk, Nat.add_assoc]; exact hcell j v hv) (hk _)⟩

/-- A call's kind. -/
theorem xopkind {A : SP} {ms : Sl} {os : List Op} {k : Nat} {o : Op} {K : Addr → Int → Prop} (hO : ∀ A, ROOps W A ms os) (hs : Sat W w (A :: L)) (ho : os[k]? = some o) (hk : ∀ a, K a o.kind) :
    XNil ms.a fun a => ((0 : Int) ≤ (k : Int) ∧ (k : Int) < ((ms.len : Nat) : Int)) ∧ XLoad (.int .i64) (Addr.add a ((Int.toNat (k : Int)) * 7)) w (K a) := by
  obtain ⟨b0, off, hma, hcell⟩ := (hO A).2.2 w L hs k o ho
  have hlt := (List.getElem?_eq_some_iff.1 ho).1
  have hol : os.length = ms.len := (hO emp).1
  rw [hma]
  exact ⟨by omega, xload_at (by rw [Int.toNat_natCast, Addr.add_mk]; exact hcell 0 _ rfl) (hk _)⟩

theorem free_empty (n : Int) : (DD.empty n).free = n := by simp [DD.empty, DD.free, takesAll]

def nameO : ByteArray := ⟨#[111, 118, 101, 114]⟩

theorem ref_new (n : Int) {b : Nat} (hs : Sat W w (pts b [.slice none 0 0, .slice none 0 0, .int .i64 n, .int .i64 (-1), .bool false, .int .i64 0, .int .i64 0] :: L)) : Sat W w (RefP b (DD.empty n) :: L) :=
  RefP.shut (R := DD.empty n) (fs := ⟨none, 0, 0⟩) (ws := ⟨none, 0, 0⟩) (hs.own_nil.own_nil.arr [2, 0, 1])

theorem Plays_law (sectors : Int) {ms : Sl} {os : List Op} (hO : ∀ A, ROOps W A ms os) (hs : Sat W w L) :
    Ret Try.prog F.barquelaw14_DiskPlays [.int .i64 sectors, .slice ms.a ms.len ms.cap] w fun v w' => v = .bool true ∧ Sat W w' L := by
  suffices H : ∀ K : Value → World → Prop, (∀ w', Sat W w' L → K (.bool true) w') → S.barquelaw14_DiskPlays sectors ms K w from S.barquelaw14_DiskPlays_ok _ ms _ _ (H _ fun _ h => ⟨rfl, h⟩)
  intro K hK
  by_cases hout : sectors < 0 ∨ 32768 < sectors
  · refine xcalls_eq (New_no sectors hout) (none, (1 : Int), ()) rfl (xjoin (fun (st : Bool × Unit) w' => st = (true, ()) ∧ w' = w) (fun J hJ => ?_) ?_)
    · by_cases h0 : sectors < 0
      · exact XIf.yes (decide_eq_true h0) (hJ _ _ ⟨rfl, rfl⟩)
      · refine XIf.no (decide_eq_false h0) (hJ _ _ ⟨?_, rfl⟩)
        have : sectors > 32768 := by omega
        simp [this]
    · rintro _ w' ⟨rfl, rfl⟩
      exact XIf.yes rfl (xjoin0 (XIf.yes rfl (XIf.yes rfl (awake_true hs hK))))
  have h0 : 0 ≤ sectors := by omega
  have h1 : sectors ≤ 32768 := by omega
  refine xcalls (New_yes sectors h0 h1 hs) ?_
  rintro v w1 ⟨d, rfl, h⟩
  refine ⟨(some ⟨d, 0, none⟩, (0 : Int), ()), rfl, xjoin0 (XIf.no (decide_eq_false (by omega)) (XIf.no (decide_eq_false (show ¬ sectors > 32768 by omega)) (xjoin0 (XIf.no rfl (XIf.no rfl ?_)))))⟩
  have hf0 := Fit.empty sectors h0 h1
  by_cases hbig : sectors > 200
  · refine XIf.yes (decide_eq_true hbig) (xjoin0 (XIf.yes rfl (XIf.yes rfl (xcall (Free_spec h hf0.small (by simp [DD.empty]) hf0.most) ?_))))
    rintro v w2 ⟨rfl, hq⟩
    rw [free_empty]
    exact ⟨_, rfl, XIf.yes (beq_self_int _) (awake_true (h.quiet hq).drop hK)⟩
  refine XIf.no (decide_eq_false hbig) (xnew h fun q w2 h2 => ?_)
  have h2 := (ref_new sectors h2).swap
  have hol : os.length = ms.len := (hO emp).1
  refine xloop (fun (st : Bool × Option Addr × Int × Unit) w => ∃ (i : Nat) (d : Nat) (D R : DD), i ≤ 80 ∧ i ≤ os.length ∧ st = (false, some ⟨d, 0, none⟩, (i : Int), ()) ∧ Fit i D ∧ Like D R ∧ Sat W w (DiskP d D :: RefP q R :: L))
    (fun st => (80 - st.2.2.1).toNat) ⟨0, d, _, _, by omega, Nat.zero_le _, rfl, hf0, Like.refl _, h2⟩ ?_
  clear h h2 hf0 hout h0 h1 hbig
  rintro next _ w ⟨i, d, D, R, hi, hio, rfl, hf, hl, h⟩ hnext
  refine xjoin (fun (st : Bool × Unit) w' => st = (decide (i < os.length ∧ i < 80), ()) ∧ w' = w) (fun J hJ => ?_) ?_
  · by_cases h0 : i < os.length
    · refine XIf.yes (decide_eq_true (show (i : Int) < (ms.len : Int) by omega)) (hJ _ _ ⟨?_, rfl⟩)
      have : ((i : Int) < 80) ↔ (i < os.length ∧ i < 80) := by omega
      simp only [this]
    · exact XIf.no (decide_eq_false (show ¬ (i : Int) < (ms.len : Int) by omega)) (hJ _ _ ⟨by simp [h0], rfl⟩)
  rintro _ w' ⟨rfl, rfl⟩
  by_cases hmore : i < os.length ∧ i < 80
  case neg =>
    refine XIf.no (decide_eq_false hmore) (xjoin0 (xcall (stands_spec (i := i) (by omega) hf hl h) ?_))
    rintro v w2 ⟨rfl, D', R', h2⟩
    exact ⟨true, rfl, XIf.yes rfl (awake_true h2.drop.drop hK)⟩
  obtain ⟨o, ho⟩ : ∃ o, os[i]? = some o := ⟨_, List.getElem?_eq_getElem hmore.1⟩
  have hok := (hO emp).2.1 o (List.mem_of_getElem? ho)
  refine XIf.yes (decide_eq_true hmore) (xjoin (fun (st : Option Addr × Unit) w' => ∃ d, st = (some ⟨d, 0, none⟩, ()) ∧ Sat W w' (DiskP d D :: RefP q R :: L)) (fun J hJ => ?_) ?_)
  · refine xopkind hO h ho fun a => ?_
    by_cases h12 : o.kind = 12
    case neg => exact XIf.no (by simpa using h12) (hJ _ _ ⟨d, rfl, h⟩)
    have hlen := hf.len
    have hwaits := hf.waits
    have hcount := hf.count
    have hmade := hf.made
    refine XIf.yes (by simpa using h12) (xcall (Copy_spec h (by omega) (by omega) hf.small) ?_)
    rintro v w2 ⟨c, rfl, h2⟩
    refine ⟨some ⟨c, 0, none⟩, rfl, xcall (Create_spec (name := nameO) h2.swap hf.rising (by omega) (by omega)) ?_⟩
    rintro v w3 ⟨rfl, h3⟩
    obtain ⟨D1, hD1⟩ : ∃ D1, (D.create nameO).2 = D1 := ⟨_, rfl⟩
    have hf1 : Fit (i + 1) D1 := hD1 ▸ hf.create nameO
    rw [hD1] at h3
    have hlen := hf1.len
    have hwaits := hf1.waits
    have hcount := hf1.count
    refine ⟨_, rfl, xcall (Write_spec (name := nameO) (at_ := 0) (t := nameO) h3 hf1.rising hf1.small (by omega) hf1.most hf1.fuse.2 hf1.fuse.1 hcount.1 (by show D1.count + 4 ≤ _; omega) (by show D1.wait.length + 4 ≤ _; omega)) ?_⟩
    rintro v w4 ⟨rfl, h4⟩
    obtain ⟨D2, hD2⟩ : ∃ D2, (D1.write nameO 0 nameO.data.toList).2 = D2 := ⟨_, rfl⟩
    have hf2 : Fit (i + 1 + 1) D2 := hD2 ▸ hf1.write nameO 0 _ (by decide)
    rw [hD2] at h4
    have hlen := hf2.len
    have hwaits := hf2.waits
    refine ⟨_, rfl, xnew h4 fun b w5 h5 => ?_⟩
    have hro : ROInts W (pts b [.int .i64 1, .int .i64 1, .int .i64 1]) ⟨some ⟨b, 0, none⟩, 3, 3⟩ [1, 1, 1] := by
      refine ⟨rfl, fun w L h k x hx => ⟨b, 0, rfl, ?_⟩⟩
      rcases k with _ | _ | _ | k
      · cases hx; exact h.cell rfl
      · cases hx; exact h.cell rfl
      · cases hx; exact h.cell rfl
      · simp at hx
    refine xcalls (Crash_spec (s := ⟨some ⟨b, 0, none⟩, 3, 3⟩) hro h5.swap (by omega) hf2.pieces (by omega) (fun f hf' => Nat.le_trans (hf2.last [1, 1, 1] f hf') (by decide))) ?_
    rintro v w6 ⟨rfl, h6⟩
    exact ⟨(), rfl, hJ _ _ ⟨c, rfl, h6.drop.drop⟩⟩
  clear h
  rintro _ w2 ⟨d, rfl, h⟩
  refine xjoin (fun (st : Bool × Unit) w' => ∃ D' R', st = (false, ()) ∧ Fit (i + 1) D' ∧ Like D' R' ∧ Sat W w' (DiskP d D' :: RefP q R' :: L)) (fun J hJ => ?_) ?_
  · refine XIf.no rfl (xopL hO h ho fun a => xcall (step_spec (by omega) hf hl hok h) ?_)
    rintro v w3 ⟨rfl, D', R', g1, g2, _, h3⟩
    exact ⟨true, rfl, hJ _ _ ⟨D', R', rfl, g1, g2, h3⟩⟩
  rintro _ w3 ⟨D', R', rfl, g1, g2, h3⟩
  exact XIf.no rfl (xlet ((i + 1 : Nat) : Int) (by dsimp only; rw [wi (by omega) (by omega)]; omega) (hnext _ _ ⟨i + 1, d, D', R', by omega, by omega, rfl, g1, g2, h3⟩ (by dsimp only; omega)))

theorem Copies_law {a1 a2 a3 : Sl} {o1 o2 o3 : List Op} (hO1 : ∀ A, ROOps W A a1 o1) (hO2 : ∀ A, ROOps W A a2 o2) (hO3 : ∀ A, ROOps W A a3 o3) (hs : Sat W w L) :
    Ret Try.prog F.barquelaw14_DiskCopies [.slice a1.a a1.len a1.cap, .slice a2.a a2.len a2.cap, .slice a3.a a3.len a3.cap] w fun v w' => v = .bool true ∧ Sat W w' L := by
  suffices H : ∀ K : Value → World → Prop, (∀ w', Sat W w' L → K (.bool true) w') → S.barquelaw14_DiskCopies a1 a2 a3 K w from S.barquelaw14_DiskCopies_ok a1 a2 a3 _ _ (H _ fun _ h => ⟨rfl, h⟩)
  intro K hK
  refine xcalls (New_yes 60 (by decide) (by decide) hs) ?_
  rintro v w1 ⟨d, rfl, h⟩
  refine ⟨(some ⟨d, 0, none⟩, (0 : Int), ()), rfl, xjoin0 (XIf.no rfl (XIf.no rfl (xnew h fun q w2 h2 => ?_)))⟩
  have h2 := (ref_new 60 h2).swap
  have hf0 := Fit.empty 60 (by decide) (by decide)
  have hol1 : o1.length = a1.len := (hO1 emp).1
  have hol2 : o2.length = a2.len := (hO2 emp).1
  have hol3 : o3.length = a3.len := (hO3 emp).1
  refine xloop (fun (st : Int × Unit) w => ∃ (i : Nat) (D R : DD), i ≤ 30 ∧ i ≤ o1.length ∧ st = ((i : Int), ()) ∧ Fit i D ∧ Like D R ∧ Sat W w (DiskP d D :: RefP q R :: L))
    (fun st => (30 - st.1).toNat) ⟨0, _, _, by omega, Nat.zero_le _, rfl, hf0, Like.refl _, h2⟩ ?_
  clear h h2 hf0
  rintro next _ w ⟨i, D, R, hi, hio, rfl, hf, hl, h⟩ hnext
  refine xjoin (fun (st : Bool × Unit) w' => st = (decide (i < o1.length ∧ i < 30), ()) ∧ w' = w) (fun J hJ => ?_) ?_
  · by_cases h0 : i < o1.length
    · refine XIf.yes (decide_eq_true (show (i : Int) < (a1.len : Int) by omega)) (hJ _ _ ⟨?_, rfl⟩)
      have : ((i : Int) < 30) ↔ (i < o1.length ∧ i < 30) := by omega
      simp only [this]
    · exact XIf.no (decide_eq_false (show ¬ (i : Int) < (a1.len : Int) by omega)) (hJ _ _ ⟨by simp [h0], rfl⟩)
  rintro _ w' ⟨rfl, rfl⟩
  by_cases hmore : i < o1.length ∧ i < 30
  · obtain ⟨o, ho⟩ : ∃ o, o1[i]? = some o := ⟨_, List.getElem?_eq_getElem hmore.1⟩
    have hok := (hO1 emp).2.1 o (List.mem_of_getElem? ho)
    refine XIf.yes (decide_eq_true hmore) (xopL hO1 h ho fun a => xcall (step_spec (by omega) hf hl hok h) ?_)
    rintro v w3 ⟨rfl, D', R', g1, g2, _, h3⟩
    exact ⟨true, rfl, xlet ((i + 1 : Nat) : Int) (by dsimp only; rw [wi (by omega) (by omega)]; omega) (hnext _ _ ⟨i + 1, D', R', by omega, by omega, rfl, g1, g2, h3⟩ (by dsimp only; omega))⟩
  clear hnext
  have hlen := hf.len
  have hwaits := hf.waits
  refine XIf.no (decide_eq_false hmore) (xcall (Copy_spec h (by omega) (by omega) hf.small) ?_)
  rintro v w3 ⟨c, rfl, h3⟩
  refine ⟨some ⟨c, 0, none⟩, rfl, xcall (CopyR_spec (h3.arr [2, 0, 1]) (by rw [hl.len]; omega) (by rw [hl.wait]; omega)) ?_⟩
  rintro v w4 ⟨p, rfl, h4⟩
  refine ⟨some ⟨p, 0, none⟩, rfl, XIf.no rfl ?_⟩
  refine xloop (fun (st : Bool × Int × Unit) w => ∃ (k : Nat) (D R C P : DD), k ≤ 30 ∧ st = (false, (k : Int), ()) ∧ Fit (30 + k) D ∧ Like D R ∧ Fit (30 + k) C ∧ Like C P ∧ Sat W w (DiskP d D :: RefP q R :: DiskP c C :: RefP p P :: L))
    (fun st => (30 - st.2.1).toNat) ⟨0, D, R, D, R, by omega, rfl, ?_, hl, ?_, hl, h4.arr [3, 1, 2, 0]⟩ ?_
  · obtain ⟨j, hj⟩ : ∃ j, 30 = i + j := ⟨30 - i, by omega⟩
    rw [hj]
    clear hj
    induction j with
    | zero => exact hf
    | succ j ih => exact ih.mono
  · obtain ⟨j, hj⟩ : ∃ j, 30 = i + j := ⟨30 - i, by omega⟩
    rw [hj]
    clear hj
    induction j with
    | zero => exact hf
    | succ j ih => exact ih.mono
  clear h h3 h4 hf hl hmore hlen hwaits
  rintro next _ w ⟨k, D, R, C, P, hk, rfl, hf, hl, gf, gl, h⟩ hnext
  by_cases hlt : k < 30
  case neg =>
    refine XIf.no (decide_eq_false (show ¬ (k : Int) < 30 by omega)) (xjoin0 (xcall (stands_spec (i := 30 + k) (by omega) hf hl h) ?_))
    rintro v w2 ⟨rfl, D', R', h2⟩
    refine ⟨true, rfl, XIf.yes rfl (xcall (stands_spec (i := 30 + k) (by omega) gf gl h2.drop.drop) ?_)⟩
    rintro v w3 ⟨rfl, C', P', h3⟩
    exact ⟨true, rfl, XIf.yes rfl (awake_true h3.drop.drop hK)⟩
  refine XIf.yes (decide_eq_true (show (k : Int) < 30 by omega)) (xjoin (fun (st : Bool × Unit) w' => ∃ D' R' C' P', st = (false, ()) ∧ Fit (30 + k + 1) D' ∧ Like D' R' ∧ Fit (30 + k + 1) C' ∧ Like C' P' ∧ Sat W w' (DiskP d D' :: RefP q R' :: DiskP c C' :: RefP p P' :: L)) (fun J hJ => ?_) ?_)
  case refine_2 =>
    rintro _ w3 ⟨D', R', C', P', rfl, g1, g2, g3, g4, h3⟩
    exact XIf.no rfl (xlet ((k + 1 : Nat) : Int) (by dsimp only; rw [wi (by omega) (by omega)]; omega) (hnext _ _ ⟨k + 1, D', R', C', P', by omega, rfl, g1, g2, g3, g4, h3⟩ (by dsimp only; omega)))
  -- the second one's call
  have second : ∀ {w : World} {D' R' : DD}, Fit (30 + k + 1) D' → Like D' R' → Sat W w (DiskP d D' :: RefP q R' :: DiskP c C :: RefP p P :: L) →
      ∀ {o : Op}, OpOk W o → XCall Try.prog F.barquelaw14_step [ptr c, ptr p, .agg ⟨opCells o⟩] (.leaf .bool) w fun (x : Bool) w => J (!x, ()) w := fun g1 g2 h o hok => by
    refine xcall (step_spec (by omega) gf gl hok (h.arr [2, 3, 0, 1])) ?_
    rintro v w3 ⟨rfl, C', P', g3, g4, _, h3⟩
    exact ⟨true, rfl, hJ _ _ ⟨_, _, C', P', rfl, g1, g2, g3, g4, h3.arr [2, 3, 0, 1]⟩⟩
  by_cases hm : k < o2.length
  · obtain ⟨o, ho⟩ : ∃ o, o2[k]? = some o := ⟨_, List.getElem?_eq_getElem hm⟩
    have hok := (hO2 emp).2.1 o (List.mem_of_getElem? ho)
    refine XIf.yes (decide_eq_true (show (k : Int) < (a2.len : Int) by omega)) (xopL hO2 h ho fun a => xcall (step_spec (by omega) hf hl hok h) ?_)
    rintro v w3 ⟨rfl, D', R', g1, g2, _, h3⟩
    refine ⟨true, rfl, XIf.no rfl ?_⟩
    by_cases hm3 : k < o3.length
    · obtain ⟨o', ho'⟩ : ∃ o, o3[k]? = some o := ⟨_, List.getElem?_eq_getElem hm3⟩
      exact XIf.yes (decide_eq_true (show (k : Int) < (a3.len : Int) by omega)) (xopL hO3 h3 ho' fun a => second g1 g2 h3 ((hO3 emp).2.1 o' (List.mem_of_getElem? ho')))
    · exact XIf.no (decide_eq_false (show ¬ (k : Int) < (a3.len : Int) by omega)) (hJ _ _ ⟨D', R', C, P, rfl, g1, g2, gf.mono, gl, h3⟩)
  · refine XIf.no (decide_eq_false (show ¬ (k : Int) < (a2.len : Int) by omega)) ?_
    by_cases hm3 : k < o3.length
    · obtain ⟨o', ho'⟩ : ∃ o, o3[k]? = some o := ⟨_, List.getElem?_eq_getElem hm3⟩
      exact XIf.yes (decide_eq_true (show (k : Int) < (a3.len : Int) by omega)) (xopL hO3 h ho' fun a => second hf.mono hl h ((hO3 emp).2.1 o' (List.mem_of_getElem? ho')))
    · exact XIf.no (decide_eq_false (show ¬ (k : Int) < (a3.len : Int) by omega)) (hJ _ _ ⟨D, R, C, P, rfl, hf.mono, hl, gf.mono, gl, h⟩)

end
end Go.X
