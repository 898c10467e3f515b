/- The device's calls Read and Append; a file's bytes last. -/
import Derived.Test.YtmbiffmfcloepaaGreatDoorDWrite
namespace Go.X
open Go.Proofs

def DD.read (D : DD) (name : ByteArray) (at_ n : Int) : List UInt8 × Int :=
  if D.off then ([], 14) else
  match behind name D.files with
  | [] => ([], 8)
  | f :: _ =>
    if cmpS f.name name ≠ 0 then ([], 8)
    else if at_ < 0 ∨ n < 0 then ([], 2)
    else ((f.seen.drop at_.toNat).take n.toNat, 0)

def DD.append (D : DD) (name : ByteArray) (t : List UInt8) : Int × DD :=
  if D.off then (14, D) else
  match behind name D.files with
  | [] => (8, D)
  | f :: _ => if cmpS f.name name ≠ 0 then (8, D) else D.write name f.seen.length t

section
variable {W w : World} {L : List SP} {d : Nat} {D : DD}

theorem isHead_cons {name : ByteArray} {f : DF} {r : List DF} (h : isHead name (f :: r) = true) : ¬ cmpS f.name name ≠ 0 := by simpa [isHead] using h

theorem behind_no {name : ByteArray} {fs : List DF} (h : isHead name (behind name fs) = false) : behind name fs = [] ∨ ∃ f r, behind name fs = f :: r ∧ cmpS f.name name ≠ 0 := by
  cases hb : behind name fs with
  | nil => exact .inl rfl
  | cons f r =>
    rw [hb] at h
    simp only [isHead, decide_eq_false_iff_not] at h
    exact .inr ⟨f, r, rfl, h⟩

theorem str_nil : str [] = ByteArray.empty := rfl

theorem Read_spec {name : ByteArray} {at_ n : Int} (hs : Sat W w (DiskP d D :: L)) (hr : Rising D.files) (hsm : Small D.files) (hn : D.files.length ≤ 2 ^ 30) :
    Ret Tryz.prog F.disk_Disk_Read [ptr d, .string name, .int .i64 at_, .int .i64 n] w fun v w' => v = .tuple ⟨[.string (str (D.read name at_ n).1), .int .i64 (D.read name at_ n).2]⟩ ∧ Quiet w w' := by
  suffices H : ∀ K : Value → World → Prop, (∀ v w', v = .tuple ⟨[.string (str (D.read name at_ n).1), .int .i64 (D.read name at_ n).2]⟩ ∧ Quiet w w' → K v w') →
      S.disk_Disk_Read (some ⟨d, 0, none⟩) name at_ n K w from S.disk_Disk_Read_ok _ _ _ _ _ _ (H _ fun _ _ h => h)
  intro K hK
  refine xcall (ready_spec hs) ?_
  rintro v w1 ⟨rfl, hq1⟩
  refine ⟨_, rfl, ?_⟩
  by_cases hoff : D.off = true
  · refine XIf.yes (off_yes hoff) (hK _ _ ⟨?_, hq1⟩)
    have : D.read name at_ n = ([], 14) := by unfold DD.read; rw [if_pos hoff]
    rw [this, off_14 hoff]
    rfl
  have hoff' : D.off = false := by simpa using hoff
  refine XIf.no (off_no hoff') (xcall (find_spec (name := name) (hs.quiet hq1) hr (by omega)) ?_)
  rintro v w2 ⟨hno, hyes⟩
  cases hh : isHead name (behind name D.files) with
  | false =>
    obtain ⟨rfl, hq2⟩ := hno hh
    refine ⟨_, rfl, XIf.yes rfl (hK _ _ ⟨?_, hq1.trans hq2⟩)⟩
    have : D.read name at_ n = ([], 8) := by
      unfold DD.read
      rw [if_neg hoff]
      rcases behind_no hh with hb | ⟨f, r, hb, hc⟩
      · rw [hb]
      · rw [hb]; simp only [if_pos hc]
    rw [this]
    rfl
  | true =>
    obtain ⟨l1, l2, p, f, fs, ws, rfl, e1, e2, hq2, h⟩ := hyes hh
    have hfiles : (l1 ++ (p, f) :: l2).map (·.2) = D.files := by rw [List.map_append, List.map_cons, e1, e2, ahead_behind]
    have hfm : f.seen.length ≤ 2097152 ∧ f.last.length ≤ 2097152 := hsm f (by rw [← hfiles]; simp)
    have hread : D.read name at_ n = if at_ < 0 ∨ n < 0 then ([], 2) else ((f.seen.drop at_.toNat).take n.toNat, 0) := by
      unfold DD.read
      rw [← e2] at hh
      rw [if_neg hoff, ← e2]
      simp only [if_neg (isHead_cons hh)]
    have hq := hq1.trans hq2
    refine ⟨_, rfl, XIf.no rfl ?_⟩
    refine xjoin (fun (s : Bool × Unit) w => s.1 = decide (at_ < 0 ∨ n < 0) ∧ w = w2) (fun J hJ => ?_) ?_
    · by_cases h0 : at_ < 0
      · exact XIf.yes (by simpa using h0) (hJ _ _ ⟨by simp [h0], rfl⟩)
      · exact XIf.no (by simpa using h0) (hJ _ _ ⟨by simp [h0], rfl⟩)
    rintro ⟨b, _⟩ w3 ⟨hb, rfl⟩
    simp only at hb
    subst hb
    by_cases hrange : at_ < 0 ∨ n < 0
    · refine XIf.yes (by simpa using hrange) (hK _ _ ⟨?_, hq⟩)
      rw [hread, if_pos hrange]; rfl
    refine XIf.no (by simpa using hrange) (xnil ?_)
    rw [if_neg hrange] at hread
    obtain ⟨k, rfl⟩ : ∃ k : Nat, at_ = k := ⟨at_.toNat, by omega⟩
    obtain ⟨m, rfl⟩ : ∃ m : Nat, n = m := ⟨n.toNat, by omega⟩
    simp only [Int.toNat_natCast] at hread
    obtain ⟨ls, ss, h2⟩ := FileP.open (FilesP.take (h.bring 2))
    obtain ⟨hls, hss⟩ := FileP.lens (x := (p, f)) h2
    simp only at hls hss
    refine xload h2 3 rfl rfl ?_
    by_cases hend : f.seen.length ≤ k
    · refine XIf.yes (decide_eq_true (show (k : Int) ≥ (ss.len : Int) by omega)) (hK _ _ ⟨?_, hq⟩)
      rw [hread, List.drop_eq_nil_of_le hend, List.take_nil]; rfl
    refine XIf.no (decide_eq_false (show ¬ ((k : Int) ≥ (ss.len : Int)) by omega)) (xnil (xload h2.drew 3 rfl rfl (xnil (xload h2.drew 3 rfl rfl ?_))))
    refine xlet ((ss.len : Int) - k) (wi (n := (ss.len : Int) - k) (by omega) (by omega)) (xlet ((min m (ss.len - k) : Nat) : Int) ?_ (xlet ((k + min m (ss.len - k) : Nat) : Int) ?_ ?_))
    · split <;> omega
    · rw [wi (by omega) (by omega)]; omega
    have hcap : ss.len ≤ ss.cap := by
      rcases (h2.bring 2).open_own with ⟨_, h1, h2, _⟩ | ⟨_, _, _, _, _, h3, _⟩
      · omega
      · exact h3
    refine ⟨⟨⟨by omega, by show ((k + min m (ss.len - k) : Nat) : Int) ≤ (ss.cap : Int); omega⟩, by omega, by omega⟩, xlet0 ?_⟩
    have hb2 : Int.toNat ((k + min m (ss.len - k) : Nat) : Int) - Int.toNat (k : Int) = min m (ss.len - k) := by omega
    refine (show XBytes (if ss.cap = Int.toNat (k : Int) then ss.a else Option.map (fun b => Addr.add b (Int.toNat (k : Int) * 1)) ss.a) (Int.toNat ((k + min m (ss.len - k) : Nat) : Int) - Int.toNat (k : Int)) _ _ from ?_)
    rw [hb2, Int.toNat_natCast]
    refine xbytes (h2.drew.bring 2) (fun b hb hk => by rw [view_ptr hb hk, Nat.mul_one]) (fun h0 => by rw [h0]; simp) (by rw [← hss]; omega) (fun hc => if_pos hc) (hK _ _ ⟨?_, hq.drew⟩)
    rw [hread, hss]
    congr 3
    have : (f.seen.drop k).take (min m (f.seen.length - k)) = (f.seen.drop k).take m := by
      rw [← List.length_drop, List.take_eq_take_iff]
      simp
    rw [this]


/-- A piece lasts, or its first bytes: what becomes of a file. -/
def lastF (p : DW) (n : Nat) (f : DF) : DF :=
  if f.id = p.id ∧ 0 < n then { f with last := over (f.last ++ List.replicate (p.at_ + n - f.last.length) 0) p.at_ (p.text.take n) } else f

def lastX (p : DW) (n : Nat) (x : Nat × DF) : Nat × DF := (x.1, lastF p n x.2)

theorem last_spec {fs : Sl} {l : List (Nat × DF)} {rest : List Value} (p : DW) (n : Nat) (hs : Sat W w (pts d (.slice fs.a fs.len fs.cap :: rest) :: own 1 fs (l.map fun x => ptr x.1) :: FilesP l :: L))
    (hp : p.at_ + n ≤ 2097152) (hn : n ≤ p.text.length) (hl : l.length ≤ 2 ^ 40) :
    Ret Tryz.prog F.disk_Disk_last [ptr d, .agg ⟨wcells p⟩, .int .i64 n] w fun v w' => v = .tuple ⟨[]⟩ ∧ Sat W w' (pts d (.slice fs.a fs.len fs.cap :: rest) :: own 1 fs (l.map fun x => ptr x.1) :: FilesP (l.map (lastX p n)) :: L) := by
  suffices H : ∀ K : Value → World → Prop, (∀ v w', v = .tuple ⟨[]⟩ ∧ Sat W w' (pts d (.slice fs.a fs.len fs.cap :: rest) :: own 1 fs (l.map fun x => ptr x.1) :: FilesP (l.map (lastX p n)) :: L) → K v w') →
      S.disk_Disk_last (some ⟨d, 0, none⟩) (p.id, ((p.at_ / 64 : Nat) : Int), ((p.at_ % 64 : Nat) : Int), (⟨p.text.toArray⟩ : ByteArray), ()) n K w from S.disk_Disk_last_ok (some ⟨d, 0, none⟩) (p.id, ((p.at_ / 64 : Nat) : Int), ((p.at_ % 64 : Nat) : Int), (⟨p.text.toArray⟩ : ByteArray), ()) n _ w (H _ fun _ _ h => h)
  intro K hK
  have hlen : fs.len = l.length := by have := (hs.bring 1).own_len; simpa using this.symm
  have hps : ∀ l1 : List (Nat × DF), (l1.map (lastX p n)).map (fun x => ptr x.1) = l1.map fun x => ptr x.1 := fun l1 => by rw [List.map_map]; rfl
  refine xnew hs fun b w1 h => xnil (xload (h.bring 1) 0 rfl rfl ?_)
  refine xloop (fun (st : Int × Unit) w => ∃ l1 l2 : List (Nat × DF), l = l1 ++ l2 ∧ st = ((l1.length : Int), ()) ∧
      Sat W w (pts b (wcells p) :: pts d (.slice fs.a fs.len fs.cap :: rest) :: own 1 fs (l.map fun x => ptr x.1) :: FilesP (l1.map (lastX p n) ++ l2) :: L))
    (fun st => ((fs.len : Int) - st.1).toNat) ⟨[], l, rfl, rfl, h⟩ ?_
  clear h
  rintro next _ w ⟨l1, l2, e, rfl, h⟩ hnext
  cases l2 with
  | nil =>
    rw [List.append_nil] at e
    subst e
    refine XIf.no (decide_eq_false (show ¬ ((l.length : Int) < (fs.len : Int)) by omega)) (hK _ _ ⟨rfl, ?_⟩)
    have := h.drop
    rw [List.append_nil] at this
    exact this
  | cons x l2 =>
    have hlt : l1.length < l.length := by rw [e]; simp
    refine XIf.yes (decide_eq_true (show (l1.length : Int) < (fs.len : Int) by omega)) ?_
    refine xjoin (fun _ w => Sat W w (pts b (wcells p) :: pts d (.slice fs.a fs.len fs.cap :: rest) :: own 1 fs (l.map fun x => ptr x.1) :: FilesP (l1.map (lastX p n) ++ lastX p n x :: l2) :: L)) (fun J hJ => ?_) ?_
    case refine_2 =>
      rintro _ w' h'
      refine xlet ((l1.length + 1 : Nat) : Int) (by rw [wi (by omega) (by omega)]; omega) (hnext _ _ ⟨l1 ++ [x], l2, by simp [e], by simp, ?_⟩ (by dsimp only; omega))
      simpa using h'
    refine xelem (h.bring 2) l1.length rfl (x := some ⟨x.1, 0, none⟩) (by simp [readL, e, ptr, Leaf.un]) (by show Int.toNat _ * 1 = _; simp) fun a => ?_
    obtain ⟨q, f⟩ := x
    obtain ⟨ls, ss, h2⟩ := FileP.open (FilesP.take (h.bring 3))
    obtain ⟨hls, _⟩ := FileP.lens (x := (q, f)) h2
    simp only at hls
    refine xjoin (fun (s : Bool × Unit) w' => s.1 = decide (f.id = p.id ∧ 0 < n) ∧ w' = w.drew) (fun J' hJ' => ?_) ?_
    · refine xnil (xload h2.drew 0 rfl rfl (xload (h2.drew.bring 4) 0 rfl rfl ?_))
      by_cases hid : f.id = p.id
      · refine XIf.yes (by simpa using hid) (hJ' _ _ ⟨by simp [hid], rfl⟩)
      · refine XIf.no (by simpa using hid) (hJ' _ _ ⟨by simp [hid], rfl⟩)
    rintro ⟨c, _⟩ w2 ⟨hc, rfl⟩
    simp only at hc
    subst hc
    by_cases hid : f.id = p.id ∧ 0 < n
    case neg =>
      refine XIf.no (by simpa using hid) (hJ _ _ ?_)
      have : lastX p n (q, f) = (q, f) := by unfold lastX lastF; rw [if_neg hid]
      rw [this]
      exact h.drew
    refine XIf.yes (by simpa using hid) ?_
    have h2 := h2.drew
    refine xload (h2.bring 4) 1 rfl rfl (xlet ((p.at_ / 64 * 64 : Nat) : Int) (by rw [wi (by omega) (by omega)]; omega) (xload (h2.bring 4) 2 rfl rfl (xlet (p.at_ : Int) (by rw [wi (by omega) (by omega)]; omega) (xnil (xload h2 2 rfl rfl ?_)))))
    refine xlet ((p.at_ + n : Nat) : Int) (by rw [wi (by omega) (by omega)]; omega) (xcall (grown_spec (h2.bring 1) (by omega)) ?_)
    rintro v w' ⟨ls', rfl, h3⟩
    refine ⟨ls', rfl, xnil (xstore (h3.bring 1) 2 rfl (by simp) fun w' h4 => xnil (xload h4.drew 2 rfl rfl ?_))⟩
    have hgl := (h4.bring 1).own_len
    have hgl2 : ls'.len = max (p.at_ + n) f.last.length := by
      rw [bcells_length, List.length_append, List.length_replicate] at hgl
      dsimp only at hgl
      omega
    refine ⟨⟨⟨by omega, by omega⟩, by omega, by show (p.at_ : Int) ≤ (ls'.len : Int); omega⟩, xlet0 ?_⟩
    have hsz : (⟨p.text.toArray⟩ : ByteArray).size = p.text.length := str_size p.text
    refine xload (h4.drew.bring 4) 3 rfl rfl ⟨⟨⟨by omega, by show (n : Int) ≤ ((⟨p.text.toArray⟩ : ByteArray).size : Int); omega⟩, by omega, by omega⟩, xlet (str (p.text.take n)) (by rw [Int.toNat_natCast]; exact str_take p.text n) ?_⟩
    have htl : (p.text.take n).length = n := by rw [List.length_take]; omega
    refine xcopyS (k := p.at_) (by kernel_rfl) (h4.drew.bring 1) (fun b hb hk => ?_) ?_ ?_ fun w' h5 => ?_
    · show (if ls'.cap = Int.toNat (p.at_ : Int) then ls'.a else Option.map (fun b => Addr.add b (Int.toNat (p.at_ : Int) * 1)) ls'.a) = _
      rw [Int.toNat_natCast]
      exact view_ptr hb hk
    · rw [str_size, htl, List.length_append, List.length_replicate]; dsimp only; omega
    · show Int.toNat ((ls'.len : Nat) : Int) - Int.toNat (p.at_ : Int) = _
      omega
    rw [str_toList] at h5
    refine ⟨(h5.bring 4).cell rfl, (h5.bring 1).cell rfl, hJ _ _ ?_⟩
    have e2 : lastX p n (q, f) = (q, { f with last := over (f.last ++ List.replicate (p.at_ + n - f.last.length) 0) p.at_ (p.text.take n) }) := by
      unfold lastX lastF; rw [if_pos hid]
    rw [e2]
    exact (FilesP.put (FileP.shut (p := q) (f := { f with last := over (f.last ++ List.replicate (p.at_ + n - f.last.length) 0) p.at_ (p.text.take n) }) (ls := ls') (ss := ss) (h5.arr [1, 0, 2, 3, 4, 5, 6]))).arr [1, 2, 3, 0]

end
end Go.X
