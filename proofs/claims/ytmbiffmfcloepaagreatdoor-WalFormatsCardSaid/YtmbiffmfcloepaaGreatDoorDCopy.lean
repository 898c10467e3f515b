/- The device's calls Spoil and Copy. -/
import Derived.Test.YtmbiffmfcloepaaGreatDoorDRename
namespace Go.X
open Go.Proofs

/-- A byte with some of its bits turned. -/
def xorB (c : UInt8) (by_ : Int) : UInt8 := UInt8.ofNat (ibits .xor .u8 (c.toNat : Int) (IntKind.wrap .u8 by_)).toNat

theorem wrap_u8 (n : Int) : 0 ≤ IntKind.wrap .u8 n ∧ IntKind.wrap .u8 n < 256 := by
  unfold IntKind.wrap
  have hb : IntKind.bits .u8 = 8 := rfl
  have hs : IntKind.signed .u8 = false := rfl
  simp only [hb, hs, Bool.false_and, Bool.false_eq_true, if_false]
  omega

theorem xorB_eq (c : UInt8) (by_ : Int) : ibits .xor .u8 (c.toNat : Int) (IntKind.wrap .u8 by_) = ((xorB c by_).toNat : Int) := by
  have h : 0 ≤ ibits .xor .u8 (c.toNat : Int) (IntKind.wrap .u8 by_) ∧ ibits .xor .u8 (c.toNat : Int) (IntKind.wrap .u8 by_) < 256 := wrap_u8 _
  unfold xorB
  rw [UInt8.toNat_ofNat']
  omega

def bent (l : List UInt8) (k : Nat) (by_ : Int) : List UInt8 := l.set k (xorB (l.getD k 0) by_)

theorem bent_length (l : List UInt8) (k : Nat) (by_ : Int) : (bent l k by_).length = l.length := by simp [bent]

def spoilt (f : DF) (k : Nat) (by_ : Int) : DF := { f with last := bent f.last k by_, seen := bent f.seen k by_ }

def DD.spoil (D : DD) (name : ByteArray) (at_ by_ : Int) : Int × DD :=
  match behind name D.files with
  | [] => (8, D)
  | f :: r =>
    if cmpS f.name name ≠ 0 then (8, D) else if at_ < 0 ∨ (f.last.length : Int) ≤ at_ then (2, D)
    else (0, { D with files := ahead name D.files ++ spoilt f at_.toNat by_ :: r })

section
variable {W w : World} {L : List SP} {d : Nat} {D : DD}

theorem bcells_get (l : List UInt8) (k : Nat) (h : k < l.length) : readL (.int .u8) (bcells l) k = some ((l.getD k 0).toNat : Int) := by
  simp [readL, bcells, List.getElem?_map, List.getElem?_eq_getElem h, Leaf.un, List.getD_eq_getElem?_getD]

theorem bcells_set (l : List UInt8) (k : Nat) (c : UInt8) : (bcells l).set k (.int .u8 c.toNat) = bcells (l.set k c) := by simp [bcells, List.map_set]

theorem Spoil_spec {name : ByteArray} {at_ by_ : Int} (hs : Sat W w (DiskP d D :: L)) (hr : Rising D.files) (hn : D.files.length ≤ 2 ^ 40) :
    Ret Tryz.prog F.disk_Disk_Spoil [ptr d, .string name, .int .i64 at_, .int .i64 by_] w fun v w' => v = .int .i64 (D.spoil name at_ by_).1 ∧ Sat W w' (DiskP d (D.spoil name at_ by_).2 :: L) := by
  suffices H : ∀ K : Value → World → Prop, (∀ v w', v = .int .i64 (D.spoil name at_ by_).1 ∧ Sat W w' (DiskP d (D.spoil name at_ by_).2 :: L) → K v w') → S.disk_Disk_Spoil (some ⟨d, 0, none⟩) name at_ by_ K w from S.disk_Disk_Spoil_ok _ _ _ _ _ _ (H _ fun _ _ h => h)
  intro K hK
  refine XIf.no rfl (xcall (find_spec (name := name) hs hr hn) ?_)
  rintro v w1 ⟨hno, hyes⟩
  cases hh : isHead name (behind name D.files) with
  | false =>
    obtain ⟨rfl, hq⟩ := hno hh
    have : D.spoil name at_ by_ = (8, D) := by
      unfold DD.spoil
      rcases behind_no hh with hb | ⟨f, r, hb, hc⟩
      · rw [hb]
      · rw [hb]; simp only [if_pos hc]
    rw [this] at hK
    exact ⟨none, rfl, XIf.yes rfl (hK _ _ ⟨rfl, hs.quiet hq⟩)⟩
  | true =>
    obtain ⟨l1, l2, p, f, fs, ws, rfl, e1, e2, hq, h⟩ := hyes hh
    have hs1 := hs.quiet hq
    have hc : ¬ cmpS f.name name ≠ 0 := by rw [← e2] at hh; exact isHead_cons hh
    have hsp : D.spoil name at_ by_ = if at_ < 0 ∨ (f.last.length : Int) ≤ at_ then (2, D) else (0, { D with files := ahead name D.files ++ spoilt f at_.toNat by_ :: l2.map (·.2) }) := by
      unfold DD.spoil
      rw [← e2]
      dsimp only
      rw [if_neg hc]
    obtain ⟨ls, ss, h2⟩ := FileP.open (FilesP.take (h.bring 2))
    have hl := FileP.lens (x := (p, f)) h2
    simp only at hl
    refine ⟨some ⟨p, 0, none⟩, rfl, XIf.no rfl (xjoin (fun st w' => st = (decide (at_ < 0 ∨ (f.last.length : Int) ≤ at_), ()) ∧ w' = w1) (fun J hJ => ?_) ?_)⟩
    · by_cases h0 : at_ < 0
      · exact XIf.yes (decide_eq_true h0) (hJ _ _ ⟨by simp [h0], rfl⟩)
      · refine XIf.no (decide_eq_false h0) (xnil (xload h2 2 rfl rfl (hJ _ _ ⟨?_, rfl⟩)))
        have : (at_ ≥ ((ls.len : Nat) : Int)) ↔ (at_ < 0 ∨ (f.last.length : Int) ≤ at_) := by rw [hl.1]; omega
        simp only [this]
    rintro _ w' ⟨rfl, rfl⟩
    by_cases hout : at_ < 0 ∨ (f.last.length : Int) ≤ at_
    · rw [hsp, if_pos hout] at hK
      exact XIf.yes (decide_eq_true hout) (hK _ _ ⟨rfl, hs1⟩)
    rw [hsp, if_neg hout] at hK
    obtain ⟨k, rfl⟩ : ∃ k : Nat, at_ = k := ⟨at_.toNat, by omega⟩
    have hk : k < f.last.length := by omega
    refine XIf.no (decide_eq_false hout) (xnil (xload h2 2 rfl rfl (xelem (h2.bring 1) k rfl (x := ((f.last.getD k 0).toNat : Int)) (bcells_get _ _ hk) (by show Int.toNat _ * 1 = _; simp) fun a => ?_)))
    refine xlet0 (xlet ((xorB (f.last.getD k 0) by_).toNat : Int) (xorB_eq _ _) (xput (h2.bring 1) k rfl (by (try dsimp only); omega) (by show Int.toNat _ * 1 = _; simp) fun a w2 h3 => ?_))
    rw [bcells_set] at h3
    have h3 : Sat W w2 (own 1 ls (bcells (bent f.last k by_)) :: pts p [.int .i64 f.id, .string f.name, .slice ls.a ls.len ls.cap, .slice ss.a ss.len ss.cap] :: own 1 ss (bcells f.seen) :: FilesP (l1 ++ l2) ::
        pts d [.slice fs.a fs.len fs.cap, .slice ws.a ws.len ws.cap, .int .i64 D.most, .int .i64 D.fuse, .bool D.off, .int .i64 D.count, .int .i64 D.made] :: own 1 fs ((l1 ++ (p, f) :: l2).map fun x => ptr x.1) :: own 4 ws (D.wait.flatMap wcells) :: L) := h3
    refine xjoin (fun (_ : Unit) w' => Sat W w' (own 1 ls (bcells (bent f.last k by_)) :: pts p [.int .i64 f.id, .string f.name, .slice ls.a ls.len ls.cap, .slice ss.a ss.len ss.cap] :: own 1 ss (bcells (bent f.seen k by_)) :: FilesP (l1 ++ l2) ::
        pts d [.slice fs.a fs.len fs.cap, .slice ws.a ws.len ws.cap, .int .i64 D.most, .int .i64 D.fuse, .bool D.off, .int .i64 D.count, .int .i64 D.made] :: own 1 fs ((l1 ++ (p, f) :: l2).map fun x => ptr x.1) :: own 4 ws (D.wait.flatMap wcells) :: L)) (fun J hJ => ?_) ?_
    · refine xnil (xload (h3.bring 1) 3 rfl rfl ?_)
      by_cases hks : k < f.seen.length
      · refine XIf.yes (decide_eq_true (show (k : Int) < (ss.len : Int) by omega)) (xnil (xload (h3.bring 1) 3 rfl rfl (xelem (h3.bring 2) k rfl (x := ((f.seen.getD k 0).toNat : Int)) (bcells_get _ _ hks) (by show Int.toNat _ * 1 = _; simp) fun a => ?_)))
        refine xlet0 (xlet ((xorB (f.seen.getD k 0) by_).toNat : Int) (xorB_eq _ _) (xput (h3.bring 2) k rfl (by (try dsimp only); omega) (by show Int.toNat _ * 1 = _; simp) fun a w3 h4 => hJ _ _ ?_))
        rw [bcells_set] at h4
        exact h4.arr [1, 2, 0]
      · refine XIf.no (decide_eq_false (show ¬ (k : Int) < (ss.len : Int) by omega)) (hJ _ _ ?_)
        have : bent f.seen k by_ = f.seen := by unfold bent; exact List.set_eq_of_length_le (by omega)
        rw [this]
        exact h3
    rintro _ w3 h4
    refine hK _ _ ⟨rfl, ?_⟩
    have h5 := FilesP.put (FileP.shut (p := p) (f := spoilt f k by_) (ls := ls) (ss := ss) h4.swap)
    have h6 : Sat W w3 (pts d [.slice fs.a fs.len fs.cap, .slice ws.a ws.len ws.cap, .int .i64 D.most, .int .i64 D.fuse, .bool D.off, .int .i64 D.count, .int .i64 D.made] :: own 1 fs ((l1 ++ (p, f) :: l2).map fun x => ptr x.1) :: FilesP (l1 ++ (p, spoilt f k by_) :: l2) :: own 4 ws (D.wait.flatMap wcells) :: L) := h5.arr [1, 2, 0]
    have e5 : ((l1 ++ (p, f) :: l2).map fun x => ptr x.1) = (l1 ++ (p, spoilt f k by_) :: l2).map fun x => ptr x.1 := by simp
    rw [e5] at h6
    refine DiskP.shut (D := { D with files := ahead name D.files ++ spoilt f (k : Int).toNat by_ :: l2.map (·.2) }) (l := l1 ++ (p, spoilt f k by_) :: l2) (fs := fs) (ws := ws) ?_ h6
    rw [List.map_append, List.map_cons, e1, Int.toNat_natCast]

/-! ### Copy -/

theorem wcells_one (ps : List DW) : allOne (ps.flatMap wcells) = true := by
  refine allOne_of fun v hv => ?_
  obtain ⟨p, _, hp⟩ := List.mem_flatMap.1 hv
  simp only [wcells, List.mem_cons, List.not_mem_nil, or_false] at hp
  rcases hp with rfl | rfl | rfl | rfl <;> rfl



end
end Go.X
