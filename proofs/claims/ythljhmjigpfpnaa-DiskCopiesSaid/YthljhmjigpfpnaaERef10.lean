/- The document's device: Write. -/
import Derived.Test.YthljhmjigpfpnaaERef9
namespace Go.X
open Go.Proofs

def DD.writeR (R : DD) (name : ByteArray) (at_ : Int) (t : List UInt8) : Int × DD :=
  if R.off then (14, R) else match findR name R.files with
  | none => (8, R)
  | some k => match R.files[k]? with
    | none => (8, R)
    | some f =>
      if at_ < 0 ∨ 2097152 - (t.length : Int) < at_ then (2, R)
      else if t ≠ [] ∧ R.free < (secs (at_.toNat + t.length) : Int) - f.takes then (7, R)
      else (downE (wr t.length f.id at_.toNat t ⟨f.seen, R.wait, R.fuse, R.count, false⟩).off,
        { R with files := R.files.set k { f with seen := (wr t.length f.id at_.toNat t ⟨f.seen, R.wait, R.fuse, R.count, false⟩).seen }
                 wait := (wr t.length f.id at_.toNat t ⟨f.seen, R.wait, R.fuse, R.count, false⟩).wait
                 fuse := (wr t.length f.id at_.toNat t ⟨f.seen, R.wait, R.fuse, R.count, false⟩).fuse
                 count := (wr t.length f.id at_.toNat t ⟨f.seen, R.wait, R.fuse, R.count, false⟩).count
                 off := (wr t.length f.id at_.toNat t ⟨f.seen, R.wait, R.fuse, R.count, false⟩).off })

section
variable {W w : World} {L : List SP} {q : Nat} {R : DD}

/-- A file's first field, where it stands. -/
theorem rcell0 {fs : Sl} {l : List DF} {a : Addr} {k : Nat} {g : DF} (hs : Sat W w (own 4 fs (l.flatMap rcells) :: L)) (ha : fs.a = some a) (hk : l[k]? = some g) : w.cell? (Addr.add a ((Int.toNat (k : Int)) * 4)) = some (.int .i64 g.id) := by
  have hlt := (List.getElem?_eq_some_iff.1 hk).1
  have hlen : l.length = fs.len := by have := hs.own_len; rw [rcells_len] at this; omega
  obtain ⟨b1, hb1, hc1⟩ := hs.own_some (by omega)
  rw [ha] at hb1
  cases hb1
  rw [Int.toNat_natCast, Addr.add_mk, Nat.zero_add]
  exact hc1 _ _ (rget l k 0 g _ hk rfl)

theorem WriteR_spec {name : ByteArray} {at_ : Int} {t : List UInt8} (hs : Sat W w (RefP q R :: L)) (hsm : Small R.files) (hn : R.files.length ≤ 2 ^ 30) (hm : 0 ≤ R.most ∧ R.most ≤ 32768)
    (hfuse : R.fuse ≤ 9223372036854775807) (hfuse0 : -1 ≤ R.fuse) (hcount0 : 0 ≤ R.count) (hcount : R.count + t.length ≤ 2 ^ 60) (hwait : R.wait.length + t.length ≤ 2 ^ 38) (htl : t.length ≤ 2 ^ 40) :
    Ret Try.prog F.barqueref14_Disk_Write [ptr q, .string name, .int .i64 at_, .string (str t)] w fun v w' => v = .int .i64 (R.writeR name at_ t).1 ∧ Sat W w' (RefP q (R.writeR name at_ t).2 :: L) := by
  suffices H : ∀ K : Value → World → Prop, (∀ v w', v = .int .i64 (R.writeR name at_ t).1 ∧ Sat W w' (RefP q (R.writeR name at_ t).2 :: L) → K v w') → S.barqueref14_Disk_Write (some ⟨q, 0, none⟩) name at_ (str t) K w from S.barqueref14_Disk_Write_ok _ _ _ _ _ _ (H _ fun _ _ h => h)
  intro K hK
  refine xnil ?_
  obtain ⟨fs, ws, h⟩ := RefP.open hs
  have hfl : R.files.length = fs.len := by have := (h.bring 1).own_len; rw [rcells_len] at this; omega
  refine xload h 4 rfl rfl ?_
  unfold DD.writeR at hK
  by_cases hoff : R.off = true
  · rw [if_pos hoff] at hK
    exact XIf.yes hoff (hK _ _ ⟨rfl, hs⟩)
  have hoff' : R.off = false := by simpa using hoff
  rw [if_neg hoff] at hK
  refine XIf.no hoff' (xcall_eq (findZ_spec (name := name) hs hn) (findZ name R.files) rfl ?_)
  have hz : findZ name R.files = match findR name R.files with | some k => (k : Int) | none => -1 := rfl
  cases hf : findR name R.files with
  | none =>
    rw [hf] at hK
    rw [hz, hf]
    exact XIf.yes rfl (hK _ _ ⟨rfl, hs⟩)
  | some k =>
    obtain ⟨f, hk, _⟩ := findR_lt hf
    have hlt := (List.getElem?_eq_some_iff.1 hk).1
    have hfs := hsm f (List.mem_of_getElem? hk)
    rw [hf] at hK
    dsimp only at hK
    rw [hk] at hK
    dsimp only at hK
    rw [hz, hf]
    have et : (str t).size = t.length := str_size _
    refine XIf.no (decide_eq_false (show ¬ (k : Int) < 0 by omega)) (xjoin (fun st w' => st = (decide (at_ < 0 ∨ 2097152 - (t.length : Int) < at_), ()) ∧ w' = w) (fun J hJ => ?_) ?_)
    · by_cases h0 : at_ < 0
      · exact XIf.yes (decide_eq_true h0) (hJ _ _ ⟨by simp [h0], rfl⟩)
      · refine XIf.no (decide_eq_false h0) (xlet (2097152 - (t.length : Int)) (by rw [et, wi (by omega) (by omega)]) (hJ _ _ ⟨?_, rfl⟩))
        have : (at_ > 2097152 - (t.length : Int)) ↔ (at_ < 0 ∨ 2097152 - (t.length : Int) < at_) := by omega
        exact Prod.ext (decide_eq_decide.2 this) rfl
    rintro _ w' ⟨rfl, rfl⟩
    by_cases hout : at_ < 0 ∨ 2097152 - (t.length : Int) < at_
    · rw [if_pos hout] at hK
      exact XIf.yes (decide_eq_true hout) (hK _ _ ⟨rfl, hs⟩)
    rw [if_neg hout] at hK
    obtain ⟨a0, rfl⟩ : ∃ a0 : Nat, at_ = a0 := ⟨at_.toNat, by omega⟩
    rw [Int.toNat_natCast] at hK
    refine XIf.no (decide_eq_false hout) (xjoin (fun st w'' => st = (decide (t ≠ [] ∧ R.free < (secs (a0 + t.length) : Int) - f.takes), ()) ∧ Sat W w'' (RefP q R :: L)) (fun J hJ => ?_) ?_)
    · by_cases h0 : t = []
      · exact XIf.no (by rw [str_empty]; simp [h0]) (hJ _ _ ⟨by simp [h0], hs.drew⟩)
      · have hd := h.drew
        refine XIf.yes (by rw [str_empty]; simpa using h0) (xlet ((a0 + t.length : Nat) : Int) (by rw [et, wi (by omega) (by omega)]; omega) (xnil (xload hd 0 rfl rfl ?_)))
        obtain ⟨b0, hb0, hcell⟩ := (hd.bring 1).own_some (by show 0 < fs.len; omega)
        have hb0 : fs.a = some ⟨b0, 0, none⟩ := hb0
        refine (show XNil fs.a _ from ?_)
        rw [hb0]
        have hrd : ∀ {w : World} {L'}, Sat W w (own 4 fs (R.files.flatMap rcells) :: L') → ∀ j v, (rcells f)[j]? = some v → w.cell? (Addr.add (Addr.add ⟨b0, 0, none⟩ ((Int.toNat (k : Int)) * 4)) j) = some v := by
          intro w L' h j v hv
          obtain ⟨b1, hb1, hc1⟩ := h.own_some (by omega)
          rw [hb0] at hb1
          cases hb1
          rw [Int.toNat_natCast, Addr.add_mk, Addr.add_mk, Nat.zero_add]
          exact hc1 _ _ (rget R.files k j f v hk hv)
        refine xnil ⟨⟨by show (0 : Int) ≤ (k : Int); omega, by show (k : Int) < (fs.len : Int); omega⟩, xloads (f.id, f.name, str f.last, str f.seen, ()) (hrd (hd.bring 1)) (xcall_eq (taken_spec (a0 + t.length) (by omega)) (secs (a0 + t.length) : Int) rfl ⟨cellsAt_of _ 0 fun j v hv => by rw [Nat.zero_add]; exact hrd (hd.bring 1) j v hv, ?_, ?_⟩)⟩
        · exact hd.cell (by show some (Value.slice fs.a fs.len fs.cap) = _; rw [hb0]; rfl)
        refine xcall (takes_spec f hfs.1 hfs.2 hd) ?_
        rintro v w1 ⟨rfl, h1⟩
        have hsec : secs (a0 + t.length) ≤ 2 ^ 40 := by unfold secs; omega
        have htk := takes_le hfs
        refine ⟨(f.takes : Int), rfl, h1.cell (by show some (Value.slice fs.a fs.len fs.cap) = _; rw [hb0]; rfl), xlet ((secs (a0 + t.length) : Int) - f.takes) (wi (by omega) (by omega)) (xcall (FreeR_parts h1 hsm hn hm) ?_)⟩
        rintro v w2 ⟨rfl, h2⟩
        refine ⟨R.free, rfl, h2.cell (by show some (Value.slice fs.a fs.len fs.cap) = _; rw [hb0]; rfl), hJ _ _ ⟨?_, RefP.shut h2⟩⟩
        have : ((secs (a0 + t.length) : Int) - f.takes > R.free) ↔ (t ≠ [] ∧ R.free < (secs (a0 + t.length) : Int) - f.takes) := ⟨fun h => ⟨h0, h⟩, fun h => h.2⟩
        exact Prod.ext (decide_eq_decide.2 this) rfl
    rintro _ w1 ⟨rfl, hs1⟩
    by_cases hfull : t ≠ [] ∧ R.free < (secs (a0 + t.length) : Int) - f.takes
    · rw [if_pos hfull] at hK
      exact XIf.yes (decide_eq_true hfull) (hK _ _ ⟨rfl, hs1⟩)
    rw [if_neg hfull] at hK
    refine XIf.no (decide_eq_false hfull) ?_
    obtain ⟨Z, hZ⟩ : ∃ Z, wr t.length f.id a0 t ⟨f.seen, R.wait, R.fuse, R.count, false⟩ = Z := ⟨_, rfl⟩
    rw [hZ] at hK
    have fin : ∀ (w : World) (fs ws : Sl) (S : WS), Sat W w (pts q [.slice fs.a fs.len fs.cap, .slice ws.a ws.len ws.cap, .int .i64 R.most, .int .i64 S.fuse, .bool S.off, .int .i64 S.count, .int .i64 R.made] ::
        own 4 fs ((R.files.set k { f with seen := S.seen }).flatMap rcells) :: own 3 ws (S.wait.flatMap vcells) :: L) →
        Sat W w (RefP q { R with files := R.files.set k { f with seen := S.seen }, wait := S.wait, fuse := S.fuse, count := S.count, off := S.off } :: L) :=
      fun w fs ws S h => RefP.shut (R := { R with files := R.files.set k { f with seen := S.seen }, wait := S.wait, fuse := S.fuse, count := S.count, off := S.off }) (fs := fs) (ws := ws) h
    obtain ⟨fs1, ws1, h1⟩ := RefP.open hs1
    have hset0 : R.files.set k { f with seen := f.seen } = R.files := by
      apply List.ext_getElem?
      intro j
      by_cases hj : j = k
      · subst hj; rw [List.getElem?_set_self hlt, hk]
      · rw [List.getElem?_set_ne (Ne.symm hj)]
    refine xloop (fun (st : Int × ByteArray × Int × Unit) w => ∃ (c : Nat) (u : List UInt8) (S : WS) (fs ws : Sl) (n : Int), st = ((c : Int), str u, n, ()) ∧ wr u.length f.id c u S = Z ∧ S.off = false ∧ S.seen.length ≤ 2097152 ∧
        c + u.length ≤ 2097152 ∧ -1 ≤ S.fuse ∧ S.fuse ≤ 9223372036854775807 ∧ 0 ≤ S.count ∧ S.count + u.length ≤ 2 ^ 60 ∧ S.wait.length + u.length ≤ 2 ^ 38 ∧
        Sat W w (pts q [.slice fs.a fs.len fs.cap, .slice ws.a ws.len ws.cap, .int .i64 R.most, .int .i64 S.fuse, .bool S.off, .int .i64 S.count, .int .i64 R.made] ::
          own 4 fs ((R.files.set k { f with seen := S.seen }).flatMap rcells) :: own 3 ws (S.wait.flatMap vcells) :: L))
      (fun st => st.2.1.size) ⟨a0, t, ⟨f.seen, R.wait, R.fuse, R.count, false⟩, fs1, ws1, 0, rfl, hZ, rfl, hfs.1, by omega, hfuse0, hfuse, hcount0, hcount, hwait, by rw [hset0, ← hoff']; exact h1⟩ ?_
    clear h1 hs1 h hs hZ hfull
    rintro next _ w ⟨c, u, S, fs, ws, n, rfl, hR, hSoff, hsl, hck, hf1, hf2, hc1, hc2, hw2, h⟩ hnext
    have hul : (str u).size = u.length := str_size u
    by_cases hu : u = []
    · subst hu
      refine XIf.no (by rw [str_empty]; rfl) ?_
      have : S = Z := by rw [← hR]; rfl
      subst this
      refine hK _ _ ⟨?_, fin w fs ws S h⟩
      rw [hSoff]; rfl
    have hupos : 0 < u.length := List.length_pos_iff.2 hu
    obtain ⟨m, hm'⟩ : ∃ m, pieceLen c u.length = m := ⟨_, rfl⟩
    have hm0 : 0 < m := hm' ▸ pieceLen_pos hupos
    have hm1 : m ≤ u.length := hm' ▸ pieceLen_le _ _
    have hfl2 : R.files.length = fs.len := by have := (h.bring 1).own_len; rw [rcells_len, List.length_set] at this; omega
    have hwl2 : S.wait.length = ws.len := by have := (h.bring 2).own_len; rw [vcells_len] at this; omega
    refine XIf.yes (by rw [str_empty]; simpa using hu) ⟨by decide, xlet ((c % 64 : Nat) : Int) (tmod64 c) (xlet ((64 : Int) - ((c % 64 : Nat) : Int)) (wi (by omega) (by omega)) (xjoin (fun (st : Int × Unit) w' => st = ((m : Int), ()) ∧ w' = w) (fun J hJ => ?_) ?_))⟩
    · by_cases hgt : (64 : Int) - ((c % 64 : Nat) : Int) > ((str u).size : Int)
      · refine XIf.yes (decide_eq_true hgt) (hJ _ _ ⟨?_, rfl⟩)
        rw [hul] at hgt ⊢
        rw [← hm', pl_pos hgt]
      · refine XIf.no (decide_eq_false hgt) (hJ _ _ ⟨?_, rfl⟩)
        rw [hul] at hgt
        rw [← hm', pl_neg hgt]
    rintro _ w' ⟨rfl, rfl⟩
    refine xnil (xload h 3 rfl rfl ?_)
    by_cases hfz : S.fuse = 0
    · refine XIf.yes (by simpa using hfz) (xnil (xstore h 4 rfl (by simp) fun w' h' => ?_))
      have hRe : Z = { S with off := true } := by
        rw [← hR, show u.length = (u.length - 1) + 1 by omega, wr, if_neg hu, if_pos hfz]
      subst hRe
      exact hK _ _ ⟨rfl, fin w' fs ws { S with off := true } h'⟩
    refine XIf.no (by simpa using hfz) ?_
    have hRs : wr (u.length - m) f.id (c + m) (u.drop m) (wstep f.id c (u.take m) S) = Z := by
      obtain ⟨c0, u', rfl⟩ : ∃ c0 u', u = c0 :: u' := by cases u with
        | nil => exact absurd rfl hu
        | cons c0 u' => exact ⟨c0, u', rfl⟩
      rw [← hR]
      simp only [List.length_cons] at hm' ⊢
      rw [wr, if_neg hu, if_neg hfz]
      simp only [List.length_cons, hm']
      rw [wr_fuel u'.length _ _ _ _ (by rw [List.length_drop]; simp only [List.length_cons]; omega), List.length_drop]
      rfl
    refine xjoin (fun _ w => Sat W w (pts q [.slice fs.a fs.len fs.cap, .slice ws.a ws.len ws.cap, .int .i64 R.most, .int .i64 (burn S.fuse), .bool S.off, .int .i64 S.count, .int .i64 R.made] ::
          own 4 fs ((R.files.set k { f with seen := S.seen }).flatMap rcells) :: own 3 ws (S.wait.flatMap vcells) :: L)) (fun J hJ => ?_) ?_
    · refine xnil (xload h 3 rfl rfl ?_)
      by_cases hpos : 0 < S.fuse
      · refine XIf.yes (by simpa using hpos) (xnil (xload h 3 rfl rfl (xlet (S.fuse - 1) (wi (by omega) (by omega)) (xnil (xstore h 3 rfl (by simp) fun w' h' => hJ _ _ ?_)))))
        rw [burn_yes hpos]
        exact h'
      · refine XIf.no (by simpa using hpos) (hJ _ _ ?_)
        rw [burn_no hpos]
        exact h
    clear h
    rintro _ w' h
    have hkS : (R.files.set k { f with seen := S.seen })[k]? = some { f with seen := S.seen } := List.getElem?_set_self hlt
    have htl : (u.take m).length = m := by rw [List.length_take]; omega
    refine xnil (xload h 5 rfl rfl (xlet (S.count + 1) (wi (by omega) (by omega)) (xnil (xstore h 5 rfl (by simp) fun w' h => xnil (xload h.drew 1 rfl rfl (xnil (xload h.drew 0 rfl rfl ?_)))))))
    refine xfield0 (l := .int .i64) (sz := 4) (h.drew.bring 1) k rfl (by (try dsimp only); omega) (by rw [Int.toNat_natCast]) (x := f.id) (rget _ k 0 _ _ hkS rfl) fun a35 ha35 => ?_
    have ha35 : fs.a = some a35 := ha35
    refine ⟨⟨by show (0 : Int) ≤ (m : Int) ∧ (m : Int) ≤ ((str u).size : Int); rw [hul]; omega, by omega, by omega⟩, xlet (str (u.take m)) (by rw [Int.toNat_natCast]; exact str_take _ _) (xnew h.drew fun b w' h => ⟨rcell0 (g := { f with seen := S.seen }) (h.bring 2) ha35 hkS, (h.bring 1).cell rfl, (h.bring 1).cell rfl, ?_⟩)⟩
    refine xappend (x := ⟨some ⟨b, 0, none⟩, 1, 1⟩) (news := vcells ⟨f.id, c, u.take m⟩) (by kernel_rfl) (h.bring 3) (reads_pts h) rfl (fun h => by cases h) rfl (by show ws.len + 1 ≤ _; omega) fun ws' w' h _ => ?_
    refine ⟨rcell0 (g := { f with seen := S.seen }) (h.bring 3) ha35 hkS, (h.bring 2).cell rfl, xnil (xstore (h.bring 2) 1 rfl (by simp) fun w' h => xnil (xload h.drew 0 rfl rfl (xnil (xload h.drew 0 rfl rfl ?_))))⟩
    refine xfield (l := .str) (sz := 4) (h.drew.bring 3) k rfl (by (try dsimp only); omega) (by rw [Int.toNat_natCast]) (x := str S.seen) (rget _ k 3 _ _ hkS rfl) fun _ _ => ?_
    refine ⟨⟨by show (0 : Int) ≤ (m : Int) ∧ (m : Int) ≤ ((str u).size : Int); rw [hul]; omega, by omega, by omega⟩, xlet (str (u.take m)) (by rw [Int.toNat_natCast]; exact str_take _ _) ?_⟩
    refine xcall (laid_spec S.seen (u.take m) c (by omega) (by omega) (by omega) h.drew) ?_
    rintro v w' ⟨rfl, h⟩
    refine ⟨_, rfl, h.cell rfl, h.cell rfl, xsetf (sz := 4) (h.bring 3) k rfl (by (try dsimp only); omega) (by rw [Int.toNat_natCast]) (by omega) fun _ w' h => ?_⟩
    refine xlet ((c + m : Nat) : Int) (by dsimp only; rw [wi (by omega) (by omega)]; omega) ⟨⟨by omega, by show (0 : Int) ≤ (m : Int); omega, by show (m : Int) ≤ ((str u).size : Int); rw [hul]; omega⟩, xlet (str (u.drop m)) (by rw [Int.toNat_natCast, Int.toNat_natCast]; exact str_drop _ _ _ (by show u.length ≤ (str u).size; rw [hul]; exact Nat.le_refl _)) ?_⟩
    have e3 : (wstep f.id c (u.take m) S).seen = laidL S.seen c (u.take m) := rfl
    have e4 : (wstep f.id c (u.take m) S).wait.flatMap vcells = S.wait.flatMap vcells ++ vcells ⟨f.id, c, u.take m⟩ := by simp [wstep]
    refine hnext _ _ ⟨c + m, u.drop m, wstep f.id c (u.take m) S, fs, ws', n, rfl, ?_, hSoff, ?_, ?_, ?_, ?_, ?_, ?_, ?_, ?_⟩ ?_
    · rw [List.length_drop]; exact hRs
    · rw [e3, laidL_length, htl]; omega
    · rw [List.length_drop]; omega
    · show -1 ≤ burn S.fuse
      unfold burn; split <;> omega
    · show burn S.fuse ≤ _
      unfold burn; split <;> omega
    · show 0 ≤ S.count + 1
      omega
    · show S.count + 1 + ((u.drop m).length : Int) ≤ _
      rw [List.length_drop]; omega
    · show (S.wait ++ [_]).length + _ ≤ _
      rw [List.length_drop, List.length_append]; simp only [List.length_singleton]; omega
    · rw [rset _ k 3 _ { f with seen := laidL S.seen c (u.take m) } (.string (str (laidL S.seen c (u.take m)))) hkS (by omega) rfl, List.set_set] at h
      rw [e3, e4]
      exact ((h.arr [1, 0, 2, 3]).bring 3).drop.arr [0, 1, 2]
    · show (str (u.drop m)).size < (str u).size
      rw [str_size, str_size, List.length_drop]; omega

end
end Go.X
