/- The device's call Create. -/
import Derived.Test.YtmbiffmfcloepaaGreatDoorDInsert
namespace Go.X
open Go.Proofs

section
variable {W w : World} {L : List SP} {d : Nat} {D : DD}

def DD.create (D : DD) (name : ByteArray) : Int × DD :=
  if D.off then (14, D) else if nameB name = false then (1, D) else if isHead name (behind name D.files) then (9, D)
  else (0, { D with files := ahead name D.files ++ ⟨D.made, name, [], []⟩ :: behind name D.files, made := D.made + 1 })

theorem allOne_ptrs (ps : List Nat) : allOne (ps.map ptr) = true := by
  induction ps with
  | nil => rfl
  | cons p ps ih => exact ih

theorem Create_spec {name : ByteArray} (hs : Sat W w (DiskP d D :: L)) (hr : Rising D.files) (hn : D.files.length ≤ 2 ^ 30) (hmade : 0 ≤ D.made ∧ D.made ≤ 2 ^ 40) :
    Ret Tryz.prog F.disk_Disk_Create [ptr d, .string name] w fun v w' => v = .int .i64 (D.create name).1 ∧ Sat W w' (DiskP d (D.create name).2 :: L) := by
  suffices H : ∀ K : Value → World → Prop, (∀ v w', v = .int .i64 (D.create name).1 ∧ Sat W w' (DiskP d (D.create name).2 :: L) → K v w') → S.disk_Disk_Create (some ⟨d, 0, none⟩) name K w from S.disk_Disk_Create_ok _ _ _ _ (H _ fun _ _ h => h)
  intro K hK
  refine xcall (ready_spec hs) ?_
  rintro v w1 ⟨rfl, hq1⟩
  refine ⟨_, rfl, ?_⟩
  have hs1 := hs.quiet hq1
  by_cases hoff : D.off = true
  · have : D.create name = (14, D) := by unfold DD.create; rw [if_pos hoff]
    rw [this] at hK
    exact XIf.yes (off_yes hoff) (hK _ _ ⟨by rw [off_14 hoff], hs1⟩)
  have hoff' : D.off = false := by simpa using hoff
  refine XIf.no (off_no hoff') (xcall (named_spec name hs1) ?_)
  rintro v w2 ⟨rfl, hs2⟩
  refine ⟨_, rfl, ?_⟩
  by_cases hnm : nameB name = false
  · have : D.create name = (1, D) := by unfold DD.create; rw [if_neg hoff, if_pos hnm]
    rw [this] at hK
    exact XIf.yes (by rw [hnm]; rfl) (hK _ _ ⟨rfl, hs2⟩)
  have hnm' : nameB name = true := by simpa using hnm
  refine XIf.no (by rw [hnm']; rfl) (xcalls (place_spec (name := name) hs2 hr (by omega)) ?_)
  rintro v w3 ⟨rfl, hq3⟩
  refine ⟨(_, _, ()), rfl, ?_⟩
  have hs3 := hs2.quiet hq3
  cases hh : isHead name (behind name D.files) with
  | true =>
    have : D.create name = (9, D) := by unfold DD.create; rw [if_neg hoff, if_neg hnm, if_pos hh]
    rw [this] at hK
    exact XIf.yes hh (hK _ _ ⟨rfl, hs3⟩)
  | false =>
    have hcr : D.create name = (0, { D with files := ahead name D.files ++ ⟨D.made, name, [], []⟩ :: behind name D.files, made := D.made + 1 }) := by
      unfold DD.create; rw [if_neg hoff, if_neg hnm, hh]; rfl
    rw [hcr] at hK
    refine XIf.no hh (xnil ?_)
    obtain ⟨l, fs, ws, hl, h⟩ := DiskP.open hs3.drew
    refine xload h 0 rfl rfl (xnil (xload h 6 rfl rfl (xnew h fun p w4 h4 => ?_)))
    have hll : l.length = D.files.length := by rw [← hl, List.length_map]
    have hfl : fs.len = l.length := by have := (h.bring 1).own_len; simpa using this.symm
    have hk : (ahead name D.files).length ≤ l.length := by
      have := congrArg List.length (ahead_behind name D.files)
      rw [List.length_append] at this; omega
    refine ⟨(h4.bring 1).cell rfl, (h4.bring 1).cell rfl, xnewF h4 fun b w5 h5 hfz => ⟨(h5.bring 2).cell rfl, (h5.bring 2).cell rfl, ?_⟩⟩
    have hmap : l.map (fun x => ptr x.1) = (l.map (·.1)).map ptr := by rw [List.map_map]; rfl
    have h6 : Sat W w5 (pts b [ptr p] :: own 1 fs (l.map fun x => ptr x.1) :: pts p [.int .i64 D.made, .string name, .slice none 0 0, .slice none 0 0] ::
        pts d [.slice fs.a fs.len fs.cap, .slice ws.a ws.len ws.cap, .int .i64 D.most, .int .i64 D.fuse, .bool D.off, .int .i64 D.count, .int .i64 D.made] :: FilesP l :: own 4 ws (D.wait.flatMap wcells) :: L) := h5.arr [0, 3, 1, 2, 4, 5]
    refine xcall (Insert_spec (k := (ahead name D.files).length) h6 hfz rfl (by rw [hmap]; exact allOne_ptrs _) (by (try dsimp only); omega) (by (try dsimp only); omega)) ?_
    rintro v w6 ⟨s', rfl, hsl, h7⟩
    refine ⟨s', rfl, (h7.bring 2).cell rfl, xnil (xstore (h7.bring 2) 0 rfl (by simp) fun w7 h8 => xnil (xload h8 6 rfl rfl (xlet (D.made + 1) (wi (by omega) (by omega)) (xnil (xstore h8 6 rfl (by simp) fun w8 h9 => hK _ _ ⟨rfl, ?_⟩)))))⟩
    have h10 : Sat W w8 (pts p [.int .i64 D.made, .string name, .slice none 0 0, .slice none 0 0] :: pts d [.slice s'.a s'.len s'.cap, .slice ws.a ws.len ws.cap, .int .i64 D.most, .int .i64 D.fuse, .bool D.off, .int .i64 D.count, .int .i64 (D.made + 1)] ::
        own 1 s' ((l.map fun x => ptr x.1).take (ahead name D.files).length ++ ptr p :: (l.map fun x => ptr x.1).drop (ahead name D.files).length) :: FilesP l :: own 4 ws (D.wait.flatMap wcells) :: L) := h9.arr [2, 0, 1, 3, 4]
    have h11 := (h10.own_nil (sz := 1)).own_nil (sz := 1)
    have h12 : Sat W w8 (pts p [.int .i64 D.made, .string name, .slice none 0 0, .slice none 0 0] :: own 1 ⟨none, 0, 0⟩ (bcells []) :: own 1 ⟨none, 0, 0⟩ (bcells []) :: _) := h11.arr [2, 0, 1]
    have h13 := FileP.shut (p := p) (f := ⟨D.made, name, [], []⟩) (ls := ⟨none, 0, 0⟩) (ss := ⟨none, 0, 0⟩) h12
    have h14 := h13.arr [0, 3]
    have h16 := (FilesP.put (l1 := l.take (ahead name D.files).length) (l2 := l.drop (ahead name D.files).length) (by rw [List.take_append_drop]; exact h14)).arr [1, 2, 0]
    refine DiskP.shut (D := { D with files := ahead name D.files ++ ⟨D.made, name, [], []⟩ :: behind name D.files, made := D.made + 1 }) (l := l.take (ahead name D.files).length ++ (p, ⟨D.made, name, [], []⟩) :: l.drop (ahead name D.files).length) (fs := s') (ws := ws) ?_ ?_
    · have ht : (ahead name D.files ++ behind name D.files).take (ahead name D.files).length = ahead name D.files := List.take_left
      have hd : (ahead name D.files ++ behind name D.files).drop (ahead name D.files).length = behind name D.files := List.drop_left
      rw [ahead_behind] at ht hd
      rw [List.map_append, List.map_cons, List.map_take, List.map_drop, hl, ht, hd]
    · rw [List.map_append, List.map_cons, List.map_take, List.map_drop]
      exact h16

end
end Go.X
