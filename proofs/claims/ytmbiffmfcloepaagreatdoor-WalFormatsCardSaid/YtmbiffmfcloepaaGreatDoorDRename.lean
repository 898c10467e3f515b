/- The device's calls Rename and List. -/
import Derived.Test.YtmbiffmfcloepaaGreatDoorDRemove
namespace Go.X
open Go.Proofs

section
variable {W w : World} {L : List SP} {d : Nat} {D : DD}

def renamed (f : DF) (to : ByteArray) : DF := { f with name := to }

def DD.rename (D : DD) (fr to : ByteArray) : Int × DD :=
  if D.off then (14, D) else if nameB to = false then (1, D) else
  match behind fr D.files with
  | [] => (8, D)
  | f :: _ =>
    if cmpS f.name fr ≠ 0 then (8, D) else if isHead to (behind to D.files) then (9, D)
    else (0, { D with files := ahead to (D.without fr) ++ renamed f to :: behind to (D.without fr) })

theorem rising_drop {A B : List DF} {f : DF} (h : Rising (A ++ f :: B)) : Rising (A ++ B) := by
  induction A with
  | nil => exact h.2
  | cons a A ih =>
    refine ⟨fun x hx => h.1 x ?_, ih h.2⟩
    rcases List.mem_append.1 hx with hx | hx
    · exact List.mem_append_left _ hx
    · simp [hx]

theorem ins_map (l1 l2 : List (Nat × DF)) (x : Nat × DF) (k : Nat) (hk : l1.length = k) : (((l1 ++ l2).map fun x => ptr x.1).take k) ++ ptr x.1 :: (((l1 ++ l2).map fun x => ptr x.1).drop k) = (l1 ++ x :: l2).map fun x => ptr x.1 := by
  have hl : k = (l1.map fun x => ptr x.1).length := by simp [hk]
  rw [List.map_append, hl, List.take_left, List.drop_left]
  simp


/-! ### List -/

theorem List_spec (hs : Sat W w (DiskP d D :: L)) (hn : D.files.length ≤ 2 ^ 30) :
    Ret Tryz.prog F.disk_Disk_List [ptr d] w fun v w' => (D.off = true → v = .tuple ⟨[.slice none 0 0, .int .i64 14]⟩ ∧ Sat W w' (DiskP d D :: L)) ∧
      (D.off = false → ∃ s : Sl, v = .tuple ⟨[.slice s.a s.len s.cap, .int .i64 0]⟩ ∧ Sat W w' (own 1 s (D.names.map Value.string) :: DiskP d D :: L)) := by
  refine S.disk_Disk_List_ok _ _ _ (xcall (ready_spec hs) ?_)
  rintro v w1 ⟨rfl, hq1⟩
  refine ⟨_, rfl, ?_⟩
  have hs1 := hs.quiet hq1
  by_cases hoff : D.off = true
  · exact XIf.yes (off_yes hoff) ⟨fun _ => ⟨by rw [off_14 hoff], hs1⟩, fun h => absurd hoff (by rw [h]; decide)⟩
  have hoff' : D.off = false := by simpa using hoff
  refine XIf.no (off_no hoff') (xnil ?_)
  obtain ⟨l, fs, ws, hl, h⟩ := DiskP.open hs1
  refine xload h 0 rfl rfl ?_
  have hll : l.length = D.files.length := by rw [← hl, List.length_map]
  have hfl : fs.len = l.length := by have := (h.bring 1).own_len; simpa using this.symm
  refine xloop (fun (st : Sl × Int × Unit) w => ∃ (l1 l2 : List (Nat × DF)) (g : Sl), l = l1 ++ l2 ∧ st = (g, (l1.length : Int), ()) ∧ g.len = l1.length ∧
      Sat W w (own 1 g (l1.map fun x => .string x.2.name) :: pts d [.slice fs.a fs.len fs.cap, .slice ws.a ws.len ws.cap, .int .i64 D.most, .int .i64 D.fuse, .bool D.off, .int .i64 D.count, .int .i64 D.made] ::
        own 1 fs (l.map fun x => ptr x.1) :: FilesP l :: own 4 ws (D.wait.flatMap wcells) :: L))
    (fun st => ((fs.len : Int) - st.2.1).toNat) ⟨[], l, ⟨none, 0, 0⟩, rfl, rfl, rfl, h.own_nil⟩ ?_
  clear h
  rintro next _ w ⟨l1, l2, g, e, rfl, hg, h⟩ hnext
  cases l2 with
  | nil =>
    rw [List.append_nil] at e
    subst e
    refine XIf.no (decide_eq_false (show ¬ ((l.length : Int) < (fs.len : Int)) by omega)) ⟨fun h => absurd h hoff, fun _ => ⟨g, rfl, ?_⟩⟩
    have e2 : l.map (fun x => Value.string x.2.name) = D.names.map Value.string := by
      unfold DD.names
      rw [← hl, List.map_map, List.map_map]
      rfl
    rw [e2] at h
    have h2 := DiskP.shut (D := D) (l := l) (fs := fs) (ws := ws) hl (h.arr [1, 2, 3, 4, 0])
    exact h2.swap
  | cons x l2 =>
    have hlt : l1.length < l.length := by rw [e]; simp
    refine XIf.yes (decide_eq_true (show (l1.length : Int) < (fs.len : Int) by omega)) (xelem (h.bring 2) l1.length rfl (x := some ⟨x.1, 0, none⟩) (by simp [readL, e, ptr, Leaf.un]) (by show Int.toNat _ * 1 = _; simp) fun a => xnil ?_)
    have h2 := h.bring 3
    rw [e] at h2
    obtain ⟨ls, ss, h3⟩ := FileP.open (FilesP.take h2)
    refine xload h3 1 rfl rfl ?_
    refine xappend1 (by kernel_rfl) h rfl rfl (by (try dsimp only); omega) fun a s' w' h4 hl4 => xlet ((l1.length + 1 : Nat) : Int) (by dsimp only; rw [wi (by omega) (by omega)]; omega) (hnext _ _ ⟨l1 ++ [x], l2, s', by simp [e], by simp, by rw [List.length_append]; have e4 : s'.len = g.len + 1 := hl4; show s'.len = l1.length + 1; omega, ?_⟩ (by dsimp only; omega))
    rw [List.map_append]
    exact h4

end
end Go.X
