/- The device's calls Remove, Rename, List. -/
import Derived.Test.YtmbiffmfcloepaaGreatDoorDMore
namespace Go.X
open Go.Proofs

section
variable {W w : World} {L : List SP} {d : Nat} {D : DD}

/-- The device without the first file behind a name. -/
def DD.without (D : DD) (name : ByteArray) : List DF := ahead name D.files ++ (behind name D.files).tail

def headId : List DF → Int
  | f :: _ => f.id
  | [] => 0

def DD.remove (D : DD) (name : ByteArray) : Int × DD :=
  if D.off then (14, D) else if isHead name (behind name D.files) = false then (8, D)
  else (0, { D with files := D.without name, wait := D.wait.filter fun p => !(p.id == headId (behind name D.files)) })

theorem Remove_1_spec {p : DW} {q g : Nat} {id : Int} {rest : List Value} (hs : Sat W w (pts q [ptr g] :: pts g (.int .i64 id :: rest) :: L)) :
    Ret Tryz.prog F.disk_Disk_Remove_1 [.agg ⟨wcells p⟩, .pointer (some ⟨q, 0, none⟩)] w fun v w' => v = .bool (p.id == id) ∧ Sat W w' (pts q [ptr g] :: pts g (.int .i64 id :: rest) :: L) := by
  refine S.disk_Disk_Remove_1_ok (p.id, ((p.at_ / 64 : Nat) : Int), ((p.at_ % 64 : Nat) : Int), (⟨p.text.toArray⟩ : ByteArray), ()) _ _ _ (xnew hs fun b w1 h1 => ?_)
  refine xload h1.drew 0 rfl rfl (xload (h1.drew.bring 1) 0 rfl (x := some ⟨g, 0, none⟩) rfl (xnil (xload (h1.drew.bring 2) 0 rfl rfl ⟨rfl, h1.drew.drop⟩)))

theorem Sat.under_all {A : SP} {As L : List SP} (hs : Sat W w (A :: (As ++ L))) : Sat W w (A :: all As :: L) := hs.of_star fun _ s => star_mono (fun h s => star_unall As L h s) s
theorem Sat.under_open {A : SP} {As L : List SP} (hs : Sat W w (A :: all As :: L)) : Sat W w (A :: (As ++ L)) := hs.of_star fun _ s => star_mono (fun h s => star_all As L h s) s

theorem ptrs_map (l : List (Nat × DF)) : l.map (fun x => ptr x.1) = (l.map (·.1)).map ptr := by rw [List.map_map]; rfl

/-- The files' pointers at a file's place. -/
theorem mid_get (l1 l2 : List (Nat × DF)) (x : Nat × DF) : ((l1 ++ x :: l2).map fun x => ptr x.1)[l1.length]? = some (ptr x.1) := by simp

theorem mid_del (l1 l2 : List (Nat × DF)) (x : Nat × DF) : ((l1 ++ x :: l2).map fun x => ptr x.1).take l1.length ++ ((l1 ++ x :: l2).map fun x => ptr x.1).drop (l1.length + 1) = (l1 ++ l2).map fun x => ptr x.1 := by
  have e1 : ((l1 ++ x :: l2).map fun x => ptr x.1) = (l1.map fun x => ptr x.1) ++ (ptr x.1 :: l2.map fun x => ptr x.1) := by simp
  have hl : l1.length = (l1.map fun x => ptr x.1).length := by simp
  rw [e1, hl, List.take_left, List.drop_append, List.drop_eq_nil_of_le (by omega), Nat.add_sub_cancel_left]
  simp

/-- A file that is there: its place. -/
theorem file_mid {name : ByteArray} {l : List (Nat × DF)} (hl : l.map (·.2) = D.files) (hh : isHead name (behind name D.files) = true) :
    ∃ l1 p f l2, l = l1 ++ (p, f) :: l2 ∧ l1.map (·.2) = ahead name D.files ∧ f :: l2.map (·.2) = behind name D.files ∧ l1.length = (ahead name D.files).length := by
  cases hb : behind name D.files with
  | nil => rw [hb] at hh; cases hh
  | cons f r =>
    have hD : l.map (·.2) = ahead name D.files ++ f :: r := by rw [hl, ← hb]; exact (ahead_behind name D.files).symm
    obtain ⟨l1, l3, rfl, h1, h3⟩ := List.map_eq_append_iff.1 hD
    obtain ⟨x, l2, rfl, h4, h5⟩ := List.map_eq_cons_iff.1 h3
    obtain ⟨p, f'⟩ := x
    subst h4
    exact ⟨l1, p, f', l2, rfl, h1, by rw [h5], by rw [← h1, List.length_map]⟩

theorem Remove_spec {name : ByteArray} (hs : Sat W w (DiskP d D :: L)) (hr : Rising D.files) (hn : D.files.length ≤ 2 ^ 30) (hw : D.wait.length ≤ 2 ^ 38) :
    Ret Tryz.prog F.disk_Disk_Remove [ptr d, .string name] w fun v w' => v = .int .i64 (D.remove name).1 ∧ Sat W w' (DiskP d (D.remove name).2 :: L) := by
  suffices H : ∀ K : Value → World → Prop, (∀ v w', v = .int .i64 (D.remove name).1 ∧ Sat W w' (DiskP d (D.remove name).2 :: L) → K v w') → S.disk_Disk_Remove (some ⟨d, 0, none⟩) name K w from S.disk_Disk_Remove_ok _ _ _ _ (H _ fun _ _ h => h)
  intro K hK
  refine xcall (ready_spec hs) ?_
  rintro v w1 ⟨rfl, hq1⟩
  refine ⟨_, rfl, ?_⟩
  have hs1 := hs.quiet hq1
  by_cases hoff : D.off = true
  · have : D.remove name = (14, D) := by unfold DD.remove; rw [if_pos hoff]
    rw [this] at hK
    exact XIf.yes (off_yes hoff) (hK _ _ ⟨by rw [off_14 hoff], hs1⟩)
  have hoff' : D.off = false := by simpa using hoff
  refine XIf.no (off_no hoff') (xcalls (place_spec (name := name) hs1 hr (by omega)) ?_)
  rintro v w3 ⟨rfl, hq3⟩
  refine ⟨(_, _, ()), rfl, ?_⟩
  have hs3 := hs1.quiet hq3
  cases hh : isHead name (behind name D.files) with
  | false =>
    have : D.remove name = (8, D) := by unfold DD.remove; rw [if_neg hoff, if_pos hh]
    rw [this] at hK
    exact XIf.yes (by show (!isHead name (behind name D.files)) = true; rw [hh]; rfl) (hK _ _ ⟨rfl, hs3⟩)
  | true =>
    have hrm : D.remove name = (0, { D with files := D.without name, wait := D.wait.filter fun p => !(p.id == headId (behind name D.files)) }) := by
      unfold DD.remove; rw [if_neg hoff, if_neg (by rw [hh]; simp)]
    rw [hrm] at hK
    refine XIf.no (by show (!isHead name (behind name D.files)) = false; rw [hh]; rfl) (xnil ?_)
    obtain ⟨l, fs, ws, hl, h⟩ := DiskP.open hs3
    obtain ⟨l1, p, f, l2, rfl, e1, e2, e3⟩ := file_mid hl hh
    have hlen : (l1 ++ (p, f) :: l2).length = D.files.length := by rw [← hl, List.length_map]
    have hfl : fs.len = (l1 ++ (p, f) :: l2).length := by have := (h.bring 1).own_len; simp at this; simp; omega
    have hk : l1.length < fs.len := by rw [hfl]; simp
    have hwl : ws.len = D.wait.length := by have := (h.bring 3).own_len; rw [wcells_len] at this; omega
    refine xload h 0 rfl rfl (xelem (h.bring 1) l1.length (by rw [e3]) (x := some ⟨p, 0, none⟩) (by simp [readL, ptr, Leaf.un]) (by rw [e3]; simp) fun a => ?_)
    refine xnew h fun q w4 h4 => xstore h4 0 rfl (by simp) fun w5 h5 => xnil (xload (h5.bring 1) 0 rfl rfl (xlet ((l1.length + 1 : Nat) : Int) (by show IntKind.wrap .i64 (((ahead name D.files).length : Int) + 1) = _; rw [← e3, wi (by omega) (by omega)]; omega) ?_))
    have h6 : Sat W w5 (own 1 fs ((l1 ++ (p, f) :: l2).map fun x => ptr x.1) :: pts q [ptr p] :: pts d [.slice fs.a fs.len fs.cap, .slice ws.a ws.len ws.cap, .int .i64 D.most, .int .i64 D.fuse, .bool D.off, .int .i64 D.count, .int .i64 D.made] ::
        FilesP (l1 ++ (p, f) :: l2) :: own 4 ws (D.wait.flatMap wcells) :: L) := h5.arr [2, 0, 1, 3, 4]
    have hdel := Delete_spec (k := l1.length) h6 (by rw [ptrs_map]; exact allOne_ptrs _) hk (by omega)
    rw [← e3]
    refine xcall hdel ?_
    rintro v w6 ⟨s', rfl, hsl, h7⟩
    rw [mid_del] at h7
    refine ⟨s', rfl, xnil (xstore (h7.bring 2) 0 rfl (by simp) fun w7 h8 => xnil (xload h8 1 rfl rfl ?_))⟩
    -- the pieces
    obtain ⟨ls, ss, h9⟩ := FileP.open (FilesP.take (h8.bring 3))
    have h10 : Sat W w7 (own 4 ws (D.wait.flatMap wcells) :: pts q [ptr p] :: pts p [.int .i64 f.id, .string f.name, .slice ls.a ls.len ls.cap, .slice ss.a ss.len ss.cap] ::
        FilesP (l1 ++ l2) :: pts d [.slice s'.a s'.len s'.cap, .slice ws.a ws.len ws.cap, .int .i64 D.most, .int .i64 D.fuse, .bool D.off, .int .i64 D.count, .int .i64 D.made] :: own 1 s' ((l1 ++ l2).map fun x => ptr x.1) :: own 1 ls (bcells f.last) :: own 1 ss (bcells f.seen) :: L) := h9.arr [7, 6, 0, 3, 4, 5]
    have h11 := Sat.under_all (As := [pts q [ptr p], pts p [.int .i64 f.id, .string f.name, .slice ls.a ls.len ls.cap, .slice ss.a ss.len ss.cap]]) h10
    refine xcall (DeleteFunc_spec (c := fun x => x.id == f.id) (by kernel_rfl) h11 (by (try dsimp only); omega) (fun qs x w L h => ?_)) ?_
    · have h := Sat.under_open h
      have h' := h.arr [1, 2, 0]
      refine (Remove_1_spec (p := x) h').mono ?_
      rintro v w' ⟨rfl, h⟩
      exact ⟨rfl, Sat.under_all (As := [_, _]) (h.arr [2, 0, 1])⟩
    rintro v w8 ⟨s2, rfl, h12⟩
    refine ⟨s2, rfl, xnil (xstore (h12.bring 3) 1 rfl (by simp) fun w9 h13 => hK _ _ ⟨rfl, ?_⟩)⟩
    have h14 : Sat W w9 (pts d [.slice s'.a s'.len s'.cap, .slice s2.a s2.len s2.cap, .int .i64 D.most, .int .i64 D.fuse, .bool D.off, .int .i64 D.count, .int .i64 D.made] :: own 4 s2 ((D.wait.filter fun x => !(x.id == f.id)).flatMap wcells) ::
        all [pts q [ptr p], pts p [.int .i64 f.id, .string f.name, .slice ls.a ls.len ls.cap, .slice ss.a ss.len ss.cap]] :: FilesP (l1 ++ l2) :: own 1 s' ((l1 ++ l2).map fun x => ptr x.1) :: own 1 ls (bcells f.last) :: own 1 ss (bcells f.seen) :: L) := h13
    have hid : headId (behind name D.files) = f.id := by rw [← e2]; rfl
    rw [hid]
    refine DiskP.shut (D := { D with files := D.without name, wait := D.wait.filter fun x => !(x.id == f.id) }) (l := l1 ++ l2) (fs := s') (ws := s2) ?_ ?_
    · rw [List.map_append, e1]
      show _ = ahead name D.files ++ (behind name D.files).tail
      rw [← e2]
      rfl
    · have h15 := h14.arr [0, 4, 3, 1, 5, 6, 2]
      exact (h15.arr [4, 5, 6, 0, 1, 2, 3]).drop.drop.drop

end
end Go.X
