/- The device's calls Size, Read, Write, Append. -/
import Derived.Test.YtmbiffmfcloepaaGreatDoorDOps
namespace Go.X
open Go.Proofs

/-- What a write turns. -/
structure WS where
  seen : List UInt8
  wait : List DW
  fuse : Int
  count : Int
  off : Bool

def pieceLen (at_ n : Nat) : Nat := min n (64 - at_ % 64)

def burn (n : Int) : Int := if 0 < n then n - 1 else n

/-- A piece is taken. -/
def wstep (id : Int) (at_ : Nat) (t : List UInt8) (S : WS) : WS :=
  { seen := over (S.seen ++ List.replicate (at_ + t.length - S.seen.length) 0) at_ t
    wait := S.wait ++ [⟨id, at_, t⟩]
    fuse := burn S.fuse
    count := S.count + 1
    off := S.off }

def wr : Nat → Int → Nat → List UInt8 → WS → WS
  | 0, _, _, _, S => S
  | k + 1, id, at_, t, S =>
    if t = [] then S
    else if S.fuse = 0 then { S with off := true }
    else wr k id (at_ + pieceLen at_ t.length) (t.drop (pieceLen at_ t.length)) (wstep id at_ (t.take (pieceLen at_ t.length)) S)

theorem pieceLen_pos {at_ n : Nat} (h : 0 < n) : 0 < pieceLen at_ n := by unfold pieceLen; omega
theorem pieceLen_le (at_ n : Nat) : pieceLen at_ n ≤ n := by unfold pieceLen; omega

theorem wr_fuel : ∀ (k : Nat) (id : Int) (at_ : Nat) (t : List UInt8) (S : WS), t.length ≤ k → wr k id at_ t S = wr t.length id at_ t S
  | 0, id, at_, t, S, h => by
    have : t = [] := List.eq_nil_of_length_eq_zero (by omega)
    subst this; rfl
  | k + 1, id, at_, [], S, h => by simp [wr]
  | k + 1, id, at_, c :: t, S, h => by
    have hp := pieceLen_pos (at_ := at_) (n := (c :: t).length) (by simp)
    have hl : ((c :: t).drop (pieceLen at_ (c :: t).length)).length ≤ t.length := by
      rw [List.length_drop]; simp only [List.length_cons] at hp ⊢; omega
    simp only [List.length_cons] at h
    rw [wr, show (c :: t).length = t.length + 1 from rfl, wr]
    split
    · rfl
    · split
      · rfl
      · rw [show t.length + 1 = (c :: t).length from rfl, wr_fuel k _ _ _ _ (by omega), wr_fuel t.length _ _ _ _ hl]

def downE : Bool → Int
  | true => 14
  | false => 0

def DD.write (D : DD) (name : ByteArray) (at_ : Int) (t : List UInt8) : Int × DD :=
  if D.off then (14, D) else
  match behind name D.files with
  | [] => (8, D)
  | f :: rest =>
    if cmpS f.name name ≠ 0 then (8, D)
    else if at_ < 0 ∨ 2097152 - (t.length : Int) < at_ then (2, D)
    else if t ≠ [] ∧ D.free < (secs (at_.toNat + t.length) : Int) - f.takes then (7, D)
    else
      let R := wr t.length f.id at_.toNat t ⟨f.seen, D.wait, D.fuse, D.count, false⟩
      (downE R.off, { D with files := ahead name D.files ++ { f with seen := R.seen } :: rest, wait := R.wait, fuse := R.fuse, count := R.count, off := R.off })

theorem ext_list (s : ByteArray) (i j : Nat) : (s.extract i j).data.toList = (s.data.toList.take j).drop i := by
  rw [ByteArray.data_extract, Array.toList_extract, List.extract_eq_take_drop, List.drop_take]

theorem ext_str (s : ByteArray) (i j : Nat) : s.extract i j = str ((s.data.toList.take j).drop i) := by
  rw [← ext_list, str_data]

theorem size_list (s : ByteArray) : s.size = s.data.toList.length := by simp

theorem tmod64 (n : Nat) : Int.tmod (n : Int) 64 = ((n % 64 : Nat) : Int) := by
  rw [Int.tmod_eq_emod_of_nonneg (by omega)]; omega
theorem tdiv64 (n : Nat) : Int.tdiv (n : Int) 64 = ((n / 64 : Nat) : Int) := by
  rw [Int.tdiv_eq_ediv_of_nonneg (by omega)]; omega

section
variable {W w : World} {L : List SP} {d : Nat} {D : DD}

theorem Size_spec {name : ByteArray} (hs : Sat W w (DiskP d D :: L)) (hr : Rising D.files) (hn : D.files.length ≤ 2 ^ 40) :
    Ret Tryz.prog F.disk_Disk_Size [ptr d, .string name] w fun v w' => Quiet w w' ∧
      (D.off = true → v = .tuple ⟨[.int .i64 0, .int .i64 14]⟩) ∧
      (D.off = false → isHead name (behind name D.files) = false → v = .tuple ⟨[.int .i64 0, .int .i64 8]⟩) ∧
      (D.off = false → isHead name (behind name D.files) = true → ∀ f r, behind name D.files = f :: r → v = .tuple ⟨[.int .i64 f.seen.length, .int .i64 0]⟩) := by
  refine S.disk_Disk_Size_ok _ _ _ _ (xcall (ready_spec hs) ?_)
  rintro v w1 ⟨rfl, hq1⟩
  have hs1 := hs.quiet hq1
  refine ⟨_, rfl, ?_⟩
  by_cases hoff : D.off = true
  · exact XIf.yes (off_yes hoff) ⟨hq1, fun _ => by rw [off_14 hoff], fun h => absurd hoff (by rw [h]; decide), fun h => absurd hoff (by rw [h]; decide)⟩
  · have hoff' : D.off = false := by simpa using hoff
    refine XIf.no (off_no hoff') (xcall (find_spec (name := name) hs1 hr hn) ?_)
    rintro v w2 ⟨hno, hyes⟩
    cases hh : isHead name (behind name D.files) with
    | false =>
      obtain ⟨rfl, hq2⟩ := hno hh
      exact ⟨_, rfl, XIf.yes rfl ⟨hq1.trans hq2, fun h => absurd h hoff, fun _ _ => rfl, fun _ h => by cases h⟩⟩
    | true =>
      obtain ⟨l1, l2, p, f, fs, ws, rfl, e1, e2, hq2, h⟩ := hyes hh
      refine ⟨_, rfl, XIf.no rfl (xnil ?_)⟩
      obtain ⟨ls, ss, h2⟩ := FileP.open (FilesP.take (h.bring 2))
      have hl := FileP.lens (x := (p, f)) h2
      refine xload h2 3 rfl rfl ⟨hq1.trans hq2, fun h => absurd h hoff, (fun _ h => by cases h), fun _ _ g r hg => ?_⟩
      rw [hg] at e2
      obtain ⟨e3, _⟩ := List.cons.inj e2
      simp only at hl
      rw [← e3, ← hl.2]

theorem pl_int (at_ : Nat) (n : Nat) : (if ((64 : Int) - ((at_ % 64 : Nat) : Int)) < ((n : Nat) : Int) then ((64 : Int) - ((at_ % 64 : Nat) : Int)) else ((n : Nat) : Int)) = ((pieceLen at_ n : Nat) : Int) := by
  unfold pieceLen; split <;> omega

theorem burn_yes {n : Int} (h : 0 < n) : burn n = n - 1 := if_pos h
theorem burn_no {n : Int} (h : ¬ 0 < n) : burn n = n := if_neg h

theorem str_take (t : List UInt8) (m : Nat) : ByteArray.extract (str t) 0 m = str (t.take m) := by rw [ext_str, str_toList, List.drop_zero]
theorem str_drop (t : List UInt8) (m n : Nat) (h : t.length ≤ n) : ByteArray.extract (str t) m n = str (t.drop m) := by rw [ext_str, str_toList, List.take_of_length_le h]

theorem wcells_len (l : List DW) : (l.flatMap wcells).length = l.length * 4 := by
  induction l with
  | nil => rfl
  | cons p l ih => simp only [List.flatMap_cons, List.length_append, ih, List.length_cons]; simp [wcells]; omega

/-- A device's parts in memory, one of its files apart from the others. -/
def parts (d : Nat) (D : DD) (ps : List Nat) (l : List (Nat × DF)) (fs ws : Sl) (fuse count : Int) (off : Bool) (wait : List DW) (L : List SP) : List SP :=
  pts d [.slice fs.a fs.len fs.cap, .slice ws.a ws.len ws.cap, .int .i64 D.most, .int .i64 fuse, .bool off, .int .i64 count, .int .i64 D.made] ::
    own 1 fs (ps.map ptr) :: FilesP l :: own 4 ws (wait.flatMap wcells) :: L

theorem over_length {l t : List UInt8} {k : Nat} (h : k + t.length ≤ l.length) : (over l k t).length = l.length := by
  simp [over]; omega

theorem Write_spec {name : ByteArray} {at_ : Int} {t : ByteArray} (hs : Sat W w (DiskP d D :: L)) (hr : Rising D.files) (hsm : Small D.files) (hn : D.files.length ≤ 2 ^ 30) (hm : 0 ≤ D.most ∧ D.most ≤ 32768)
    (hfuse : D.fuse ≤ 9223372036854775807) (hfuse0 : -1 ≤ D.fuse) (hcount0 : 0 ≤ D.count) (hcount : D.count + t.size ≤ 2 ^ 60) (hwait : D.wait.length + t.size ≤ 2 ^ 38) :
    Ret Tryz.prog F.disk_Disk_Write [ptr d, .string name, .int .i64 at_, .string t] w fun v w' => v = .int .i64 (D.write name at_ t.data.toList).1 ∧ Sat W w' (DiskP d (D.write name at_ t.data.toList).2 :: L) := by
  suffices H : ∀ K : Value → World → Prop, (∀ v w', v = .int .i64 (D.write name at_ t.data.toList).1 ∧ Sat W w' (DiskP d (D.write name at_ t.data.toList).2 :: L) → K v w') →
      S.disk_Disk_Write (some ⟨d, 0, none⟩) name at_ t K w from S.disk_Disk_Write_ok _ _ _ _ _ _ (H _ fun _ _ h => h)
  intro K hK
  refine xcall (ready_spec hs) ?_
  rintro v w1 ⟨rfl, hq1⟩
  have hs1 := hs.quiet hq1
  refine ⟨_, rfl, ?_⟩
  by_cases hoff : D.off = true
  · refine XIf.yes (off_yes hoff) ?_
    have : D.write name at_ t.data.toList = (14, D) := by unfold DD.write; rw [if_pos hoff]
    rw [this] at hK
    exact hK _ _ ⟨by rw [off_14 hoff], hs1⟩
  have hoff' : D.off = false := by simpa using hoff
  refine XIf.no (off_no hoff') (xcall (find_spec (name := name) hs1 hr (by omega)) ?_)
  rintro v w2 ⟨hno, hyes⟩
  cases hh : isHead name (behind name D.files) with
  | false =>
    obtain ⟨rfl, hq2⟩ := hno hh
    have hs2 := hs1.quiet hq2
    refine ⟨_, rfl, XIf.yes rfl ?_⟩
    have : D.write name at_ t.data.toList = (8, D) := by
      unfold DD.write
      rw [if_neg hoff]
      split
      · rfl
      · rename_i f r hb
        rw [hb] at hh
        simp only [isHead, decide_eq_false_iff_not] at hh
        rw [if_pos hh]
    rw [this] at hK
    exact hK _ _ ⟨rfl, hs2⟩
  | true =>
    obtain ⟨l1, l2, p, f, fs, ws, rfl, e1, e2, hq2, h⟩ := hyes hh
    have hfiles : (l1 ++ (p, f) :: l2).map (·.2) = D.files := by rw [List.map_append, List.map_cons, e1, e2, ahead_behind]
    have hname : ¬ cmpS f.name name ≠ 0 := by
      rw [← e2] at hh
      simpa [isHead] using hh
    have hfm : f.seen.length ≤ 2097152 ∧ f.last.length ≤ 2097152 := hsm f (by rw [← hfiles]; simp)
    have hsz : t.size = t.data.toList.length := size_list t
    refine ⟨_, rfl, XIf.no rfl ?_⟩
    have hwrite : D.write name at_ t.data.toList = (if at_ < 0 ∨ 2097152 - (t.data.toList.length : Int) < at_ then (2, D)
        else if t.data.toList ≠ [] ∧ D.free < (secs (at_.toNat + t.data.toList.length) : Int) - f.takes then (7, D)
        else
          let R := wr t.data.toList.length f.id at_.toNat t.data.toList ⟨f.seen, D.wait, D.fuse, D.count, false⟩
          (downE R.off, { D with files := ahead name D.files ++ { f with seen := R.seen } :: l2.map (·.2), wait := R.wait, fuse := R.fuse, count := R.count, off := R.off })) := by
      unfold DD.write
      rw [if_neg hoff, ← e2]
      simp only [if_neg hname]
    have hsat := DiskP.shut hfiles h
    have htl : t.data.toList.length ≤ 2 ^ 38 := by omega
    refine xjoin (fun (s : Bool × Unit) w => s.1 = decide (at_ < 0 ∨ 2097152 - (t.data.toList.length : Int) < at_) ∧ w = w2) (fun J hJ => ?_) ?_
    · by_cases h0 : at_ < 0
      · exact XIf.yes (by simpa using h0) (hJ _ _ ⟨by simp [h0], rfl⟩)
      · refine XIf.no (by simpa using h0) (xlet (2097152 - (t.data.toList.length : Int)) (by rw [hsz, wi (by omega) (by omega)]) (hJ _ _ ⟨?_, rfl⟩))
        simp [h0]
    rintro ⟨b, _⟩ w3 ⟨hb, rfl⟩
    simp only at hb
    subst hb
    by_cases hrange : at_ < 0 ∨ 2097152 - (t.data.toList.length : Int) < at_
    · refine XIf.yes (by simpa using hrange) ?_
      rw [hwrite, if_pos hrange] at hK
      exact hK _ _ ⟨rfl, hsat⟩
    rw [if_neg hrange] at hwrite
    refine XIf.no (by simpa using hrange) ?_
    obtain ⟨at', rfl⟩ : ∃ n : Nat, at_ = n := ⟨at_.toNat, by omega⟩
    simp only [Int.toNat_natCast] at hwrite
    have hat : at' + t.data.toList.length ≤ 2097152 := by omega
    obtain ⟨ls, ss, h2⟩ := FileP.open (FilesP.take (h.bring 2))
    obtain ⟨hls, hss⟩ := FileP.lens (x := (p, f)) h2
    simp only at hls hss
    refine xlet ((at' + t.data.toList.length : Nat) : Int) (by rw [hsz, wi (by omega) (by omega)]; omega) (xnil (xload h2.drew 3 rfl rfl (xnil (xload h2.drew 2 rfl rfl ?_))))
    refine xlet ((max f.seen.length f.last.length : Nat) : Int) (by rw [max_if, hls, hss]) (xcall (sectors_spec _ (by omega)) ?_)
    rintro v w4 ⟨rfl, rfl⟩
    refine ⟨_, rfl, h2.drew.cell rfl, h2.drew.cell rfl, xcall (sectors_spec _ (by omega)) ?_⟩
    rintro v w4 ⟨rfl, rfl⟩
    refine ⟨_, rfl, h2.drew.cell rfl, h2.drew.cell rfl, xlet ((secs (at' + t.data.toList.length) : Int) - f.takes) ?_ ?_⟩
    · have h1 := secs_le (n := at' + t.data.toList.length) (m := 32768) (by omega)
      have h2 := takes_le hfm
      show IntKind.wrap .i64 ((secs (at' + t.data.toList.length) : Int) - (f.takes : Int)) = _
      rw [wi (by omega) (by omega)]
    refine xjoin (fun (s : Bool × Unit) w => s.1 = decide (t.data.toList ≠ [] ∧ D.free < (secs (at' + t.data.toList.length) : Int) - f.takes) ∧ Quiet w3 w) (fun J hJ => ?_) ?_
    · by_cases h0 : 0 < t.data.toList.length
      · refine XIf.yes (by rw [hsz]; simpa using h0) (xcall (Free_spec hsat.drew hsm hn hm) ?_)
        rintro v w5 ⟨rfl, hq5⟩
        refine ⟨_, rfl, hJ _ _ ⟨?_, (Quiet.refl w3).drew.trans hq5⟩⟩
        have : t.data.toList ≠ [] := fun e => by rw [e] at h0; simp at h0
        simp [this]
      · refine XIf.no (by rw [hsz]; simpa using h0) (hJ _ _ ⟨?_, (Quiet.refl w3).drew⟩)
        have : t.data.toList = [] := List.eq_nil_of_length_eq_zero (by omega)
        simp [this]
    rintro ⟨b, _⟩ w5 ⟨hb, hq5⟩
    simp only at hb
    subst hb
    have hs5 := hsat.quiet hq5
    have h := h.quiet hq5
    by_cases hfull : t.data.toList ≠ [] ∧ D.free < (secs (at' + t.data.toList.length) : Int) - f.takes
    · refine XIf.yes (by simpa using hfull) ?_
      rw [hwrite, if_pos hfull] at hK
      exact hK _ _ ⟨rfl, hs5⟩
    refine XIf.no (by simpa using hfull) ?_
    rw [hwrite, if_neg hfull] at hK
    clear hwrite hs5 hsat hs hs1 hyes hno
    obtain ⟨R, hR⟩ : ∃ R, wr t.data.toList.length f.id at' t.data.toList ⟨f.seen, D.wait, D.fuse, D.count, false⟩ = R := ⟨_, rfl⟩
    rw [hR] at hK
    have hps : (l1 ++ (p, f) :: l2).map (fun x => ptr x.1) = ((l1 ++ (p, f) :: l2).map (·.1)).map ptr := by rw [List.map_map]; rfl
    obtain ⟨ps, hpsd⟩ : ∃ ps, (l1 ++ (p, f) :: l2).map (fun x => ptr x.1) = ps := ⟨_, rfl⟩
    rw [hpsd] at h
    have fin : ∀ (w : World) (ws : Sl) (S : WS), Sat W w (pts d [.slice fs.a fs.len fs.cap, .slice ws.a ws.len ws.cap, .int .i64 D.most, .int .i64 S.fuse, .bool S.off, .int .i64 S.count, .int .i64 D.made] ::
        own 1 fs ps :: FilesP (l1 ++ (p, { f with seen := S.seen }) :: l2) :: own 4 ws (S.wait.flatMap wcells) :: L) →
        Sat W w (DiskP d { D with files := ahead name D.files ++ { f with seen := S.seen } :: l2.map (·.2), wait := S.wait, fuse := S.fuse, count := S.count, off := S.off } :: L) := by
      intro w ws S h
      refine DiskP.shut (l := l1 ++ (p, { f with seen := S.seen }) :: l2) (fs := fs) (ws := ws) ?_ ?_
      · rw [List.map_append, List.map_cons, e1]
      · rw [show (l1 ++ (p, { f with seen := S.seen }) :: l2).map (fun x => ptr x.1) = ps from by rw [← hpsd]; simp]
        exact h
    refine xloop (fun (st : Int × ByteArray × Int × Unit) w => ∃ (k : Nat) (u : List UInt8) (S : WS) (ws : Sl) (n : Int), st = ((k : Int), str u, n, ()) ∧ wr u.length f.id k u S = R ∧ S.off = false ∧
        k + u.length ≤ 2097152 ∧ -1 ≤ S.fuse ∧ S.fuse ≤ 9223372036854775807 ∧ 0 ≤ S.count ∧ S.count + u.length ≤ 2 ^ 60 ∧ S.wait.length + u.length ≤ 2 ^ 38 ∧
        Sat W w (pts d [.slice fs.a fs.len fs.cap, .slice ws.a ws.len ws.cap, .int .i64 D.most, .int .i64 S.fuse, .bool S.off, .int .i64 S.count, .int .i64 D.made] ::
          own 1 fs ps :: FilesP (l1 ++ (p, { f with seen := S.seen }) :: l2) :: own 4 ws (S.wait.flatMap wcells) :: L))
      (fun st => st.2.1.size) ⟨at', t.data.toList, ⟨f.seen, D.wait, D.fuse, D.count, false⟩, ws, 0, by rw [str_data], hR, rfl, hat, hfuse0, hfuse, hcount0, (by (try dsimp only); omega), (by (try dsimp only); omega), by rw [← hoff']; exact h⟩ ?_
    clear h hR hpsd hps hq5 hq2 hq1 h2 hfull hls hss
    rintro next _ w ⟨k, u, S, ws, n, rfl, hR, hSoff, hk, hf1, hf2, hc1, hc2, hw2, h⟩ hnext
    have hul : (str u).size = u.length := str_size u
    by_cases hu : u = []
    · subst hu
      refine XIf.no (by rw [hul]; rfl) ?_
      have : S = R := by rw [← hR]; rfl
      subst this
      refine hK _ _ ⟨?_, fin w ws S h⟩
      rw [hSoff]; rfl
    have hupos : 0 < u.length := List.length_pos_iff.2 hu
    obtain ⟨m, hm'⟩ : ∃ m, pieceLen k u.length = m := ⟨_, rfl⟩
    refine XIf.yes (by rw [hul]; simpa using hupos) ⟨by decide, xlet ((k % 64 : Nat) : Int) (tmod64 k) (xlet ((64 : Int) - ((k % 64 : Nat) : Int)) (by (try dsimp only); rw [wi (by omega) (by omega)]; (try omega)) (xlet (m : Int) (by rw [hul, ← hm']; exact pl_int k u.length) (xnil (xload h 3 rfl rfl ?_))))⟩
    have hm0 : 0 < m := hm' ▸ pieceLen_pos hupos
    have hm1 : m ≤ u.length := hm' ▸ pieceLen_le _ _
    by_cases hfz : S.fuse = 0
    · refine XIf.yes (by simpa using hfz) (xnil (xstore h 4 rfl (by simp) fun w' h' => ?_))
      have hRe : R = { S with off := true } := by
        rw [← hR, show u.length = (u.length - 1) + 1 by omega, wr, if_neg hu, if_pos hfz]
      subst hRe
      exact hK _ _ ⟨rfl, fin w' ws { S with off := true } h'⟩
    refine XIf.no (by simpa using hfz) ?_
    have hRs : wr (u.length - m) f.id (k + m) (u.drop m) (wstep f.id k (u.take m) S) = R := by
      obtain ⟨c, u', rfl⟩ : ∃ c u', u = c :: u' := by cases u with
        | nil => exact absurd rfl hu
        | cons c u' => exact ⟨c, u', rfl⟩
      rw [← hR]
      simp only [List.length_cons] at hm' ⊢
      rw [wr, if_neg hu, if_neg hfz]
      simp only [List.length_cons, hm']
      rw [wr_fuel u'.length _ _ _ _ (by rw [List.length_drop]; simp only [List.length_cons]; omega), List.length_drop]
      rfl
    refine xjoin (fun _ w => Sat W w (pts d [.slice fs.a fs.len fs.cap, .slice ws.a ws.len ws.cap, .int .i64 D.most, .int .i64 (burn S.fuse), .bool S.off, .int .i64 S.count, .int .i64 D.made] ::
          own 1 fs ps :: FilesP (l1 ++ (p, { f with seen := S.seen }) :: l2) :: own 4 ws (S.wait.flatMap wcells) :: L)) (fun J hJ => ?_) ?_
    · refine xnil (xload h 3 rfl rfl ?_)
      by_cases hpos : 0 < S.fuse
      · refine XIf.yes (by simpa using hpos) (xnil (xload h 3 rfl rfl (xlet (S.fuse - 1) (wi (by omega) (by omega)) (xnil (xstore h 3 rfl (by simp) fun w' h' => hJ _ _ ?_)))))
        rw [burn_yes hpos]
        exact h'
      · refine XIf.no (by simpa using hpos) (hJ _ _ ?_)
        rw [burn_no hpos]
        exact h
    clear h
    rintro _ w' h
    refine xnil (xload h 5 rfl rfl (xlet (S.count + 1) (wi (by omega) (by omega)) (xnil (xstore h 5 rfl (by simp) fun w' h => xnil (xload h.drew 1 rfl rfl (xnil ?_))))))
    obtain ⟨ls, ss, h2⟩ := FileP.open (FilesP.take (h.drew.bring 2))
    obtain ⟨_, hss⟩ := FileP.lens (x := (p, { f with seen := S.seen })) h2
    simp only at hss
    refine xload h2 0 rfl rfl ⟨by decide, xlet ((k / 64 : Nat) : Int) (by rw [tdiv64, wi (by omega) (by omega)]) ⟨by decide, xlet ((k % 64 : Nat) : Int) (tmod64 k) ⟨⟨⟨by omega, by rw [hul]; omega⟩, by omega, by omega⟩, xlet (str (u.take m)) (by rw [Int.toNat_natCast, str_take]) ?_⟩⟩⟩
    refine xnew h2 fun b w' h => ⟨(h.bring 1).cell rfl, (h.bring 5).cell rfl, ?_⟩
    refine xappend (x := ⟨some ⟨b, 0, none⟩, 1, 1⟩) (by kernel_rfl) (h.bring 7) (reads_pts h) rfl (fun h => by cases h) rfl ?_ fun ws' w' h hws => ?_
    · have := (h.bring 7).own_len
      rw [wcells_len] at this
      show ws.len + 1 ≤ _
      omega
    refine ⟨(h.bring 2).cell rfl, xnil (xstore (h.bring 6) 1 rfl (by simp) fun w' h => xnil (xload (h.bring 3) 3 rfl rfl ?_))⟩
    refine xlet ((k + m : Nat) : Int) (by rw [wi (by omega) (by omega)]; omega) (xcall (grown_spec (h.bring 5) (by omega)) ?_)
    rintro v w' ⟨ss', rfl, h⟩
    refine ⟨ss', rfl, xnil (xstore (h.bring 4) 3 rfl (by simp) fun w' h => xnil (xload h.drew 3 rfl rfl ?_))⟩
    have hgl := (h.bring 1).own_len
    have hgl2 : ss'.len = max (k + m) S.seen.length := by
      rw [bcells_length, List.length_append, List.length_replicate] at hgl
      dsimp only at hgl
      omega
    refine ⟨⟨⟨by omega, by omega⟩, by omega, by show (k : Int) ≤ (ss'.len : Int); omega⟩, xlet0 ?_⟩
    refine ⟨⟨⟨by omega, by rw [hul]; omega⟩, by omega, by omega⟩, xlet (str (u.take m)) (by rw [Int.toNat_natCast, str_take]) ?_⟩
    have htl : (u.take m).length = m := by rw [List.length_take]; omega
    refine xcopyS (k := k) (by kernel_rfl) (h.drew.bring 1) (fun b hb hk => ?_) ?_ ?_ fun w' h => ?_
    · show (if ss'.cap = Int.toNat (k : Int) then ss'.a else Option.map (fun b => Addr.add b (Int.toNat (k : Int) * 1)) ss'.a) = _
      rw [Int.toNat_natCast]
      exact view_ptr hb hk
    · rw [str_size, htl, List.length_append, List.length_replicate]; omega
    · show Int.toNat ((ss'.len : Nat) : Int) - Int.toNat (k : Int) = _
      omega
    rw [str_toList] at h
    refine ⟨(h.bring 1).cell rfl, xlet ((k + m : Nat) : Int) (by rw [wi (by omega) (by omega)]; omega) ⟨⟨⟨by omega, by omega⟩, by omega, by rw [hul]; omega⟩, xlet (str (u.drop m)) ?_ ?_⟩⟩
    · rw [hul, Int.toNat_natCast, Int.toNat_natCast, str_drop _ _ _ (Nat.le_refl _)]
    refine hnext _ _ ⟨k + m, u.drop m, wstep f.id k (u.take m) S, ws', n, rfl, ?_, hSoff, ?_, ?_, ?_, ?_, ?_, ?_, ?_⟩ ?_
    · rw [List.length_drop]; exact hRs
    · rw [List.length_drop]; omega
    · show -1 ≤ burn S.fuse
      unfold burn; split <;> omega
    · show burn S.fuse ≤ _
      unfold burn; split <;> omega
    · show 0 ≤ S.count + 1
      omega
    · show S.count + 1 + ((u.drop m).length : Int) ≤ _
      rw [List.length_drop]; omega
    · show (S.wait ++ [_]).length + _ ≤ _
      rw [List.length_drop, List.length_append]; simp only [List.length_singleton]; omega
    · have h5 := (h.drew.arr [4, 1, 5, 0, 6, 2, 7, 3]).drop
      have h6 := (FilesP.put (FileP.shut (f := { f with seen := over (S.seen ++ List.replicate (k + m - S.seen.length) 0) k (u.take m) }) h5)).arr [1, 2, 0, 3]
      have e3 : (wstep f.id k (u.take m) S).seen = over (S.seen ++ List.replicate (k + m - S.seen.length) 0) k (u.take m) := by
        simp only [wstep, htl]
      have e4 : (wstep f.id k (u.take m) S).wait.flatMap wcells = S.wait.flatMap wcells ++ wcells ⟨f.id, k, u.take m⟩ := by
        simp [wstep]
      rw [e3, e4]
      exact h6
    · show (str (u.drop m)).size < (str u).size
      rw [str_size, str_size, List.length_drop]; omega

end
end Go.X
