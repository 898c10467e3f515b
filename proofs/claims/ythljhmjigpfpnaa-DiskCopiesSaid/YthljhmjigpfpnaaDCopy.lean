/- The device's calls Spoil and Copy. -/
import Derived.Test.YthljhmjigpfpnaaDRename
namespace Go.X
open Go.Proofs

/-- A byte with some of its bits turned. -/
def xorB (c : UInt8) (by_ : Int) : UInt8 := UInt8.ofNat (ibits .xor .u8 (c.toNat : Int) (IntKind.wrap .u8 by_)).toNat

theorem wrap_u8 (n : Int) : 0 ≤ IntKind.wrap .u8 n ∧ IntKind.wrap .u8 n < 256 := by
  unfold IntKind.wrap
  have hb : IntKind.bits .u8 = 8 := rfl
  have hs : IntKind.signed .u8 = false := rfl
  simp only [hb, hs, Bool.false_and, Bool.false_eq_true, if_false]
  omega

theorem xorB_eq (c : UInt8) (by_ : Int) : ibits .xor .u8 (c.toNat : Int) (IntKind.wrap .u8 by_) = ((xorB c by_).toNat : Int) := by
  have h : 0 ≤ ibits .xor .u8 (c.toNat : Int) (IntKind.wrap .u8 by_) ∧ ibits .xor .u8 (c.toNat : Int) (IntKind.wrap .u8 by_) < 256 := wrap_u8 _
  unfold xorB
  rw [UInt8.toNat_ofNat']
  omega

def bent (l : List UInt8) (k : Nat) (by_ : Int) : List UInt8 := l.set k (xorB (l.getD k 0) by_)

theorem bent_length (l : List UInt8) (k : Nat) (by_ : Int) : (bent l k by_).length = l.length := by simp [bent]

def spoilt (f : DF) (k : Nat) (by_ : Int) : DF := { f with last := bent f.last k by_, seen := bent f.seen k by_ }

def DD.spoil (D : DD) (name : ByteArray) (at_ by_ : Int) : Int × DD :=
  match behind name D.files with
  | [] => (8, D)
  | f :: r =>
    if cmpS f.name name ≠ 0 then (8, D) else if at_ < 0 ∨ (f.last.length : Int) ≤ at_ then (2, D)
    else (0, { D with files := ahead name D.files ++ spoilt f at_.toNat by_ :: r })

section
variable {W w : World} {L : List SP} {d : Nat} {D : DD}

theorem bcells_get (l : List UInt8) (k : Nat) (h : k < l.length) : readL (.int .u8) (bcells l) k = some ((l.getD k 0).toNat : Int) := by
  simp [readL, bcells, List.getElem?_map, List.getElem?_eq_getElem h, Leaf.un, List.getD_eq_getElem?_getD]

theorem bcells_set (l : List UInt8) (k : Nat) (c : UInt8) : (bcells l).set k (.int .u8 c.toNat) = bcells (l.set k c) := by simp [bcells, List.map_set]

theorem Spoil_spec {name : ByteArray} {at_ by_ : Int} (hs : Sat W w (DiskP d D :: L)) (hr : Rising D.files) (hn : D.files.length ≤ 2 ^ 40) :
    Ret Try.prog F.disk_Disk_Spoil [ptr d, .string name, .int .i64 at_, .int .i64 by_] w fun v w' => v = .int .i64 (D.spoil name at_ by_).1 ∧ Sat W w' (DiskP d (D.spoil name at_ by_).2 :: L) := by
  suffices H : ∀ K : Value → World → Prop, (∀ v w', v = .int .i64 (D.spoil name at_ by_).1 ∧ Sat W w' (DiskP d (D.spoil name at_ by_).2 :: L) → K v w') → S.disk_Disk_Spoil (some ⟨d, 0, none⟩) name at_ by_ K w from S.disk_Disk_Spoil_ok _ _ _ _ _ _ (H _ fun _ _ h => h)
  intro K hK
  refine XIf.no rfl (xcall (find_spec (name := name) hs hr hn) ?_)
  rintro v w1 ⟨hno, hyes⟩
  cases hh : isHead name (behind name D.files) with
  | false =>
    obtain ⟨rfl, hq⟩ := hno hh
    have : D.spoil name at_ by_ = (8, D) := by
      unfold DD.spoil
      rcases behind_no hh with hb | ⟨f, r, hb, hc⟩
      · rw [hb]
      · rw [hb]; simp only [if_pos hc]
    rw [this] at hK
    exact ⟨none, rfl, XIf.yes rfl (hK _ _ ⟨rfl, hs.quiet hq⟩)⟩
  | true =>
    obtain ⟨l1, l2, p, f, fs, ws, rfl, e1, e2, hq, h⟩ := hyes hh
    have hs1 := hs.quiet hq
    have hc : ¬ cmpS f.name name ≠ 0 := by rw [← e2] at hh; exact isHead_cons hh
    have hsp : D.spoil name at_ by_ = if at_ < 0 ∨ (f.last.length : Int) ≤ at_ then (2, D) else (0, { D with files := ahead name D.files ++ spoilt f at_.toNat by_ :: l2.map (·.2) }) := by
      unfold DD.spoil
      rw [← e2]
      dsimp only
      rw [if_neg hc]
    obtain ⟨ls, ss, h2⟩ := FileP.open (FilesP.take (h.bring 2))
    have hl := FileP.lens (x := (p, f)) h2
    simp only at hl
    refine ⟨some ⟨p, 0, none⟩, rfl, XIf.no rfl (xjoin (fun st w' => st = (decide (at_ < 0 ∨ (f.last.length : Int) ≤ at_), ()) ∧ w' = w1) (fun J hJ => ?_) ?_)⟩
    · by_cases h0 : at_ < 0
      · exact XIf.yes (decide_eq_true h0) (hJ _ _ ⟨by simp [h0], rfl⟩)
      · refine XIf.no (decide_eq_false h0) (xnil (xload h2 2 rfl rfl (hJ _ _ ⟨?_, rfl⟩)))
        have : (at_ ≥ ((ls.len : Nat) : Int)) ↔ (at_ < 0 ∨ (f.last.length : Int) ≤ at_) := by rw [hl.1]; omega
        simp only [this]
    rintro _ w' ⟨rfl, rfl⟩
    by_cases hout : at_ < 0 ∨ (f.last.length : Int) ≤ at_
    · rw [hsp, if_pos hout] at hK
      exact XIf.yes (decide_eq_true hout) (hK _ _ ⟨rfl, hs1⟩)
    rw [hsp, if_neg hout] at hK
    obtain ⟨k, rfl⟩ : ∃ k : Nat, at_ = k := ⟨at_.toNat, by omega⟩
    have hk : k < f.last.length := by omega
    refine XIf.no (decide_eq_false hout) (xnil (xload h2 2 rfl rfl (xelem (h2.bring 1) k rfl (x := ((f.last.getD k 0).toNat : Int)) (bcells_get _ _ hk) (by show Int.toNat _ * 1 = _; simp) fun a => ?_)))
    refine xlet0 (xlet ((xorB (f.last.getD k 0) by_).toNat : Int) (xorB_eq _ _) (xput (h2.bring 1) k rfl (by (try dsimp only); omega) (by show Int.toNat _ * 1 = _; simp) fun a w2 h3 => ?_))
    rw [bcells_set] at h3
    have h3 : Sat W w2 (own 1 ls (bcells (bent f.last k by_)) :: pts p [.int .i64 f.id, .string f.name, .slice ls.a ls.len ls.cap, .slice ss.a ss.len ss.cap] :: own 1 ss (bcells f.seen) :: FilesP (l1 ++ l2) ::
        pts d [.slice fs.a fs.len fs.cap, .slice ws.a ws.len ws.cap, .int .i64 D.most, .int .i64 D.fuse, .bool D.off, .int .i64 D.count, .int .i64 D.made] :: own 1 fs ((l1 ++ (p, f) :: l2).map fun x => ptr x.1) :: own 4 ws (D.wait.flatMap wcells) :: L) := h3
    refine xjoin (fun (_ : Unit) w' => Sat W w' (own 1 ls (bcells (bent f.last k by_)) :: pts p [.int .i64 f.id, .string f.name, .slice ls.a ls.len ls.cap, .slice ss.a ss.len ss.cap] :: own 1 ss (bcells (bent f.seen k by_)) :: FilesP (l1 ++ l2) ::
        pts d [.slice fs.a fs.len fs.cap, .slice ws.a ws.len ws.cap, .int .i64 D.most, .int .i64 D.fuse, .bool D.off, .int .i64 D.count, .int .i64 D.made] :: own 1 fs ((l1 ++ (p, f) :: l2).map fun x => ptr x.1) :: own 4 ws (D.wait.flatMap wcells) :: L)) (fun J hJ => ?_) ?_
    · refine xnil (xload (h3.bring 1) 3 rfl rfl ?_)
      by_cases hks : k < f.seen.length
      · refine XIf.yes (decide_eq_true (show (k : Int) < (ss.len : Int) by omega)) (xnil (xload (h3.bring 1) 3 rfl rfl (xelem (h3.bring 2) k rfl (x := ((f.seen.getD k 0).toNat : Int)) (bcells_get _ _ hks) (by show Int.toNat _ * 1 = _; simp) fun a => ?_)))
        refine xlet0 (xlet ((xorB (f.seen.getD k 0) by_).toNat : Int) (xorB_eq _ _) (xput (h3.bring 2) k rfl (by (try dsimp only); omega) (by show Int.toNat _ * 1 = _; simp) fun a w3 h4 => hJ _ _ ?_))
        rw [bcells_set] at h4
        exact h4.arr [1, 2, 0]
      · refine XIf.no (decide_eq_false (show ¬ (k : Int) < (ss.len : Int) by omega)) (hJ _ _ ?_)
        have : bent f.seen k by_ = f.seen := by unfold bent; exact List.set_eq_of_length_le (by omega)
        rw [this]
        exact h3
    rintro _ w3 h4
    refine hK _ _ ⟨rfl, ?_⟩
    have h5 := FilesP.put (FileP.shut (p := p) (f := spoilt f k by_) (ls := ls) (ss := ss) h4.swap)
    have h6 : Sat W w3 (pts d [.slice fs.a fs.len fs.cap, .slice ws.a ws.len ws.cap, .int .i64 D.most, .int .i64 D.fuse, .bool D.off, .int .i64 D.count, .int .i64 D.made] :: own 1 fs ((l1 ++ (p, f) :: l2).map fun x => ptr x.1) :: FilesP (l1 ++ (p, spoilt f k by_) :: l2) :: own 4 ws (D.wait.flatMap wcells) :: L) := h5.arr [1, 2, 0]
    have e5 : ((l1 ++ (p, f) :: l2).map fun x => ptr x.1) = (l1 ++ (p, spoilt f k by_) :: l2).map fun x => ptr x.1 := by simp
    rw [e5] at h6
    refine DiskP.shut (D := { D with files := ahead name D.files ++ spoilt f (k : Int).toNat by_ :: l2.map (·.2) }) (l := l1 ++ (p, spoilt f k by_) :: l2) (fs := fs) (ws := ws) ?_ h6
    rw [List.map_append, List.map_cons, e1, Int.toNat_natCast]

/-! ### Copy -/

theorem wcells_one (ps : List DW) : allOne (ps.flatMap wcells) = true := by
  refine allOne_of fun v hv => ?_
  obtain ⟨p, _, hp⟩ := List.mem_flatMap.1 hv
  simp only [wcells, List.mem_cons, List.not_mem_nil, or_false] at hp
  rcases hp with rfl | rfl | rfl | rfl <;> rfl

theorem Clone43_spec {s : Sl} {ps : List DW} (hs : Sat W w (own 4 s (ps.flatMap wcells) :: L)) (hl : ps.length ≤ 2 ^ 40) :
    Ret Try.prog F.slices_Clone_43 [.slice s.a s.len s.cap] w fun v w' => ∃ s' : Sl, v = .slice s'.a s'.len s'.cap ∧ Sat W w' (own 4 s' (ps.flatMap wcells) :: own 4 s (ps.flatMap wcells) :: L) := by
  have hlen : ps.length = s.len := by have := hs.own_len; rw [wcells_len] at this; omega
  refine S.slices_Clone_43_ok s _ _ ?_
  cases ha : Option.isNone s.a with
  | true =>
    have ha' : s.a = none := by simpa using ha
    refine XIf.yes ha ⟨⟨none, 0, 0⟩, rfl, ?_⟩
    have : ps = [] := by
      rcases hs.open_own with ⟨_, h0, _⟩ | ⟨b, rest, h, _⟩
      · exact List.eq_nil_of_length_eq_zero (by omega)
      · rw [ha'] at h; cases h
    subst this
    exact hs.own_nil
  | false =>
    refine XIf.no ha (xnew hs fun b w1 h => ?_)
    have h1 : Sat W w1 (own 4 ⟨some ⟨b, 0, none⟩, 0, 0⟩ [] :: own 4 s (ps.flatMap wcells) :: L) := Sat.shut_own (rest := []) rfl rfl rfl (Nat.le_refl _) h
    exact xappend (s := ⟨some ⟨b, 0, none⟩, 0, 0⟩) (x := s) (by kernel_rfl) h1 (reads_own (h1.bring 1)) (h1.bring 1).own_len (fun h => by rw [h] at ha; cases ha) (wcells_one ps) (by show 0 + s.len ≤ _; omega) fun s' w' h' hl' => ⟨s', rfl, h'⟩

theorem Copy_spec (hs : Sat W w (DiskP d D :: L)) (hn : D.files.length ≤ 2 ^ 30) (hw : D.wait.length ≤ 2 ^ 38) (hsm : Small D.files) :
    Ret Try.prog F.disk_Disk_Copy [ptr d] w fun v w' => ∃ o, v = ptr o ∧ Sat W w' (DiskP o D :: DiskP d D :: L) := by
  suffices H : ∀ K : Value → World → Prop, (∀ o w', Sat W w' (DiskP o D :: DiskP d D :: L) → K (ptr o) w') → S.disk_Disk_Copy (some ⟨d, 0, none⟩) K w from S.disk_Disk_Copy_ok _ _ _ (H _ fun o _ h => ⟨o, rfl, h⟩)
  intro K hK
  refine XIf.no rfl (xnil ?_)
  obtain ⟨l, fs, ws, hl, h⟩ := DiskP.open hs.drew
  have hll : l.length = D.files.length := by rw [← hl, List.length_map]
  have hfl : fs.len = l.length := by have := (h.bring 1).own_len; simpa using this.symm
  refine xload h 1 rfl rfl (xnil (xload h 2 rfl rfl (xnil (xload h 3 rfl rfl (xnil (xload h 4 rfl rfl (xnil (xload h 5 rfl rfl (xnil (xload h 6 rfl rfl ?_))))))))))
  refine xcall (Clone43_spec (h.bring 3) (by omega)) ?_
  rintro v w1 ⟨wt, rfl, h1⟩
  refine ⟨wt, rfl, (h1.bring 2).cell rfl, (h1.bring 2).cell rfl, (h1.bring 2).cell rfl, (h1.bring 2).cell rfl, (h1.bring 2).cell rfl, xnew h1 fun o w2 h2 => ?_⟩
  refine ⟨(h2.bring 3).cell rfl, (h2.bring 3).cell rfl, (h2.bring 3).cell rfl, (h2.bring 3).cell rfl, (h2.bring 3).cell rfl, xnil (xload (h2.bring 3) 0 rfl rfl ?_)⟩
  have h3 : Sat W w2 (own 1 ⟨none, 0, 0⟩ [] :: FilesP [] :: pts o [.slice none 0 0, .slice wt.a wt.len wt.cap, .int .i64 D.most, .int .i64 D.fuse, .bool D.off, .int .i64 D.count, .int .i64 D.made] :: own 4 wt (D.wait.flatMap wcells) :: own 4 ws (D.wait.flatMap wcells) ::
      pts d [.slice fs.a fs.len fs.cap, .slice ws.a ws.len ws.cap, .int .i64 D.most, .int .i64 D.fuse, .bool D.off, .int .i64 D.count, .int .i64 D.made] :: own 1 fs (l.map fun x => ptr x.1) :: FilesP l :: L) := (Sat.shut_all (As := []) h2).own_nil
  refine xloop (fun (st : Int × Unit) w => ∃ (l1 l2 m : List (Nat × DF)) (g : Sl), l = l1 ++ l2 ∧ st = ((l1.length : Int), ()) ∧ m.map (·.2) = l1.map (·.2) ∧
      Sat W w (own 1 g (m.map fun x => ptr x.1) :: FilesP m :: pts o [.slice g.a g.len g.cap, .slice wt.a wt.len wt.cap, .int .i64 D.most, .int .i64 D.fuse, .bool D.off, .int .i64 D.count, .int .i64 D.made] :: own 4 wt (D.wait.flatMap wcells) :: own 4 ws (D.wait.flatMap wcells) ::
      pts d [.slice fs.a fs.len fs.cap, .slice ws.a ws.len ws.cap, .int .i64 D.most, .int .i64 D.fuse, .bool D.off, .int .i64 D.count, .int .i64 D.made] :: own 1 fs (l.map fun x => ptr x.1) :: FilesP l :: L))
    (fun st => ((fs.len : Int) - st.1).toNat) ⟨[], l, [], ⟨none, 0, 0⟩, rfl, rfl, rfl, h3⟩ ?_
  clear h h1 h2 h3
  rintro next _ w ⟨l1, l2, m, g, e, rfl, hm, h⟩ hnext
  have hml : m.length = l1.length := by have := congrArg List.length hm; simpa using this
  have hgl : g.len = m.length := by have := h.own_len; simpa using this.symm
  cases l2 with
  | nil =>
    rw [List.append_nil] at e
    subst e
    refine XIf.no (decide_eq_false (show ¬ ((l.length : Int) < (fs.len : Int)) by omega)) (hK o w ?_)
    have h2 := DiskP.shut (D := D) (l := l) (fs := fs) (ws := ws) hl (h.arr [5, 6, 7, 4])
    exact DiskP.shut (D := D) (l := m) (fs := g) (ws := wt) (by rw [hm, hl]) (h2.arr [3, 1, 2, 4, 0])
  | cons x l2 =>
    have hlt : l1.length < l.length := by rw [e]; simp
    have hxs := hsm x.2 (by rw [← hl, e]; simp)
    refine XIf.yes (decide_eq_true (show (l1.length : Int) < (fs.len : Int) by omega)) (xelem (h.bring 6) l1.length rfl (x := some ⟨x.1, 0, none⟩) (by simp [readL, e, ptr, Leaf.un]) (by show Int.toNat _ * 1 = _; simp) fun a => ?_)
    refine xload (h.drew.bring 2) 0 rfl rfl (xnil ?_)
    have h2 := h.drew.bring 7
    rw [e] at h2
    obtain ⟨ls, ss, h3⟩ := FileP.open (FilesP.take h2)
    refine xload h3 0 rfl rfl (xnil (xload h3 1 rfl rfl (xnil (xload h3 2 rfl rfl (xnil (xload h3 3 rfl rfl ?_))))))
    -- what lasts, and what is seen
    refine xcall (Clone_spec (h3.bring 1) (by omega)) ?_
    rintro v w3 ⟨la, rfl, h4⟩
    refine ⟨la, rfl, (h4.bring 2).cell rfl, (h4.bring 2).cell rfl, (h4.bring 2).cell rfl, (h4.bring 7).cell rfl, xcall (Clone_spec (h4.bring 3) (by omega)) ?_⟩
    rintro v w4 ⟨sa, rfl, h5⟩
    refine ⟨sa, rfl, (h5.bring 4).cell rfl, (h5.bring 4).cell rfl, (h5.bring 8).cell rfl, xnew h5 fun q w5 h6 => ⟨(h6.bring 5).cell rfl, (h6.bring 5).cell rfl, (h6.bring 9).cell rfl, xnew h6 fun r w6 h7 => ⟨(h7.bring 6).cell rfl, (h7.bring 6).cell rfl, (h7.bring 10).cell rfl, ?_⟩⟩⟩
    refine xappend (x := ⟨some ⟨r, 0, none⟩, 1, 1⟩) (news := [ptr q]) (by kernel_rfl) (h7.bring 8) (reads_pts h7) rfl (fun h => by cases h) rfl (by (try dsimp only); omega) fun g' w7 h8 _ => ?_
    refine ⟨(h8.bring 7).cell rfl, (h8.bring 7).cell rfl, xstore (h8.bring 10) 0 rfl (by simp) fun w8 h9 => xlet ((l1.length + 1 : Nat) : Int) (by dsimp only; rw [wi (by omega) (by omega)]; omega) (hnext _ _ ⟨l1 ++ [x], l2, m ++ [(q, x.2)], g', by simp [e], by simp, by simp [hm], ?_⟩ (by dsimp only; omega))⟩
    have h10 := FileP.shut (p := q) (f := x.2) (ls := la) (ss := sa) (h9.arr [3, 6, 4, 8, 7, 5, 9, 10, 1, 0, 11, 12, 13, 14, 2])
    have h11 := FilesP.put (FileP.shut (p := x.1) (f := x.2) (ls := ls) (ss := ss) (h10.arr [1, 2, 3, 4, 0]))
    have h12 := h11.arr [1, 2, 0]
    have h13 := FilesP.put (l1 := m) (l2 := []) (x := (q, x.2)) (by rw [List.append_nil]; exact h12)
    have h14 := (h13.bring 8).drop
    have h15 := h14.arr [2, 0, 3, 4, 5, 6, 7, 1]
    have e5 : ((m ++ [(q, x.2)]).map fun x => ptr x.1) = (m.map fun x => ptr x.1) ++ [ptr q] := by simp
    rw [e5, e]
    exact h15

end
end Go.X
