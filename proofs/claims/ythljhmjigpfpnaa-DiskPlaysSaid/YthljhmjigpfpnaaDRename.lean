/- The device's calls Rename and List. -/
import Derived.Test.YthljhmjigpfpnaaDRemove
namespace Go.X
open Go.Proofs

section
variable {W w : World} {L : List SP} {d : Nat} {D : DD}

def renamed (f : DF) (to : ByteArray) : DF := { f with name := to }

def DD.rename (D : DD) (fr to : ByteArray) : Int × DD :=
  if D.off then (14, D) else if nameB to = false then (1, D) else
  match behind fr D.files with
  | [] => (8, D)
  | f :: _ =>
    if cmpS f.name fr ≠ 0 then (8, D) else if isHead to (behind to D.files) then (9, D)
    else (0, { D with files := ahead to (D.without fr) ++ renamed f to :: behind to (D.without fr) })

theorem rising_drop {A B : List DF} {f : DF} (h : Rising (A ++ f :: B)) : Rising (A ++ B) := by
  induction A with
  | nil => exact h.2
  | cons a A ih =>
    refine ⟨fun x hx => h.1 x ?_, ih h.2⟩
    rcases List.mem_append.1 hx with hx | hx
    · exact List.mem_append_left _ hx
    · simp [hx]

theorem ins_map (l1 l2 : List (Nat × DF)) (x : Nat × DF) (k : Nat) (hk : l1.length = k) : (((l1 ++ l2).map fun x => ptr x.1).take k) ++ ptr x.1 :: (((l1 ++ l2).map fun x => ptr x.1).drop k) = (l1 ++ x :: l2).map fun x => ptr x.1 := by
  have hl : k = (l1.map fun x => ptr x.1).length := by simp [hk]
  rw [List.map_append, hl, List.take_left, List.drop_left]
  simp

theorem Rename_spec {fr to : ByteArray} (hs : Sat W w (DiskP d D :: L)) (hr : Rising D.files) (hn : D.files.length ≤ 2 ^ 30) :
    Ret Try.prog F.disk_Disk_Rename [ptr d, .string fr, .string to] w fun v w' => v = .int .i64 (D.rename fr to).1 ∧ Sat W w' (DiskP d (D.rename fr to).2 :: L) := by
  suffices H : ∀ K : Value → World → Prop, (∀ v w', v = .int .i64 (D.rename fr to).1 ∧ Sat W w' (DiskP d (D.rename fr to).2 :: L) → K v w') → S.disk_Disk_Rename (some ⟨d, 0, none⟩) fr to K w from S.disk_Disk_Rename_ok _ _ _ _ _ (H _ fun _ _ h => h)
  intro K hK
  refine xcall (ready_spec hs) ?_
  rintro v w1 ⟨rfl, hq1⟩
  refine ⟨_, rfl, ?_⟩
  have hs1 := hs.quiet hq1
  by_cases hoff : D.off = true
  · have : D.rename fr to = (14, D) := by unfold DD.rename; rw [if_pos hoff]
    rw [this] at hK
    exact XIf.yes (off_yes hoff) (hK _ _ ⟨by rw [off_14 hoff], hs1⟩)
  have hoff' : D.off = false := by simpa using hoff
  refine XIf.no (off_no hoff') (xcall (named_spec to hs1) ?_)
  rintro v w2 ⟨rfl, hs2⟩
  refine ⟨_, rfl, ?_⟩
  by_cases hnm : nameB to = false
  · have : D.rename fr to = (1, D) := by unfold DD.rename; rw [if_neg hoff, if_pos hnm]
    rw [this] at hK
    exact XIf.yes (by rw [hnm]; rfl) (hK _ _ ⟨rfl, hs2⟩)
  have hnm' : nameB to = true := by simpa using hnm
  refine XIf.no (by rw [hnm']; rfl) (xcalls (place_spec (name := fr) hs2 hr (by omega)) ?_)
  rintro v w3 ⟨rfl, hq3⟩
  refine ⟨(_, _, ()), rfl, ?_⟩
  have hs3 := hs2.quiet hq3
  cases hh : isHead fr (behind fr D.files) with
  | false =>
    have : D.rename fr to = (8, D) := by
      unfold DD.rename
      rw [if_neg hoff, if_neg hnm]
      rcases behind_no hh with hb | ⟨f, r, hb, hc⟩
      · rw [hb]
      · rw [hb]; simp only [if_pos hc]
    rw [this] at hK
    exact XIf.yes (by show (!isHead fr (behind fr D.files)) = true; rw [hh]; rfl) (hK _ _ ⟨rfl, hs3⟩)
  | true =>
    refine XIf.no (by show (!isHead fr (behind fr D.files)) = false; rw [hh]; rfl) (xcall (find_spec (name := to) hs3 hr (by omega)) ?_)
    rintro v w4 ⟨hno, hyes⟩
    cases ht : isHead to (behind to D.files) with
    | true =>
      obtain ⟨_, _, p, _, _, _, rfl, _, _, hq4, _⟩ := hyes ht
      have : D.rename fr to = (9, D) := by
        unfold DD.rename
        rw [if_neg hoff, if_neg hnm]
        cases hb : behind fr D.files with
        | nil => rw [hb] at hh; cases hh
        | cons f r => rw [hb] at hh; dsimp only; rw [if_neg (isHead_cons hh), if_pos ht]
      rw [this] at hK
      exact ⟨some ⟨p, 0, none⟩, rfl, XIf.yes rfl (hK _ _ ⟨rfl, hs3.quiet hq4⟩)⟩
    | false =>
      obtain ⟨rfl, hq4⟩ := hno ht
      have hs4 := hs3.quiet hq4
      refine ⟨none, rfl, XIf.no rfl (xnil ?_)⟩
      obtain ⟨l, fs, ws, hl, h⟩ := DiskP.open hs4
      obtain ⟨l1, p, f, l2, rfl, e1, e2, e3⟩ := file_mid hl hh
      have hwo : D.without fr = (l1 ++ l2).map (·.2) := by
        unfold DD.without
        rw [← e1, ← e2, List.map_append]
        rfl
      have hDf : D.files = l1.map (·.2) ++ f :: l2.map (·.2) := by rw [← hl]; simp
      have hrn : D.rename fr to = (0, { D with files := ahead to (D.without fr) ++ renamed f to :: behind to (D.without fr) }) := by
        unfold DD.rename
        rw [if_neg hoff, if_neg hnm, ← e2]
        dsimp only
        rw [← e2] at hh
        rw [if_neg (isHead_cons hh), if_neg (by rw [ht]; simp)]
      rw [hrn] at hK
      have hlen : (l1 ++ (p, f) :: l2).length = D.files.length := by rw [← hl, List.length_map]
      have hfl : fs.len = (l1 ++ (p, f) :: l2).length := by have := (h.bring 1).own_len; simp at this; simp; omega
      have hk : l1.length < fs.len := by rw [hfl]; simp
      refine xload h 0 rfl rfl (xelem (h.bring 1) l1.length (by rw [e3]) (x := some ⟨p, 0, none⟩) (by simp [readL, ptr, Leaf.un]) (by rw [e3]; simp) fun a => ?_)
      refine xnil (xload h 0 rfl rfl (xlet ((l1.length + 1 : Nat) : Int) (by show IntKind.wrap .i64 (((ahead fr D.files).length : Int) + 1) = _; rw [← e3, wi (by omega) (by omega)]; omega) ?_))
      have hdel := Delete_spec (k := l1.length) (h.bring 1) (by rw [ptrs_map]; exact allOne_ptrs _) hk (by omega)
      rw [← e3]
      refine xcall hdel ?_
      rintro v w6 ⟨s', rfl, hsl, h7⟩
      rw [mid_del] at h7
      refine ⟨s', rfl, xnil (xstore (h7.bring 1) 0 rfl (by simp) fun w7 h8 => xnil ?_)⟩
      obtain ⟨ls, ss, h9⟩ := FileP.open (FilesP.take (h8.bring 2))
      refine xstore h9 1 rfl (by simp) fun w8 h10 => ?_
      -- the file stands alone, under its new name
      have h11 := FileP.shut (p := p) (f := renamed f to) (ls := ls) (ss := ss) h10
      have h12 : Sat W w8 (pts d [.slice s'.a s'.len s'.cap, .slice ws.a ws.len ws.cap, .int .i64 D.most, .int .i64 D.fuse, .bool D.off, .int .i64 D.count, .int .i64 D.made] :: own 1 s' ((l1 ++ l2).map fun x => ptr x.1) :: FilesP (l1 ++ l2) :: own 4 ws (D.wait.flatMap wcells) ::
          FileP (p, renamed f to) :: L) := h11.arr [2, 3, 1, 4, 0]
      have h13 := DiskP.shut (D := { D with files := D.without fr }) (l := l1 ++ l2) (fs := s') (ws := ws) hwo.symm h12
      have hri : Rising (D.without fr) := by
        rw [hwo, List.map_append]
        rw [hDf] at hr
        exact rising_drop hr
      have hwl : (D.without fr).length + 1 = D.files.length := by rw [hwo, hDf]; simp; omega
      refine xcalls (place_spec (name := to) h13 hri (by show (D.without fr).length ≤ _; omega)) ?_
      rintro v w9 ⟨rfl, hq9⟩
      have h14 := h13.quiet hq9
      refine ⟨(((ahead to (D.without fr)).length : Int), _, ()), rfl, xnil ?_⟩
      obtain ⟨m, fs2, ws2, hm, h15⟩ := DiskP.open h14
      have hm' : m.map (·.2) = D.without fr := hm
      have hkm : (ahead to (D.without fr)).length ≤ m.length := by
        have := congrArg List.length (ahead_behind to (D.without fr))
        rw [List.length_append] at this
        have h2 := congrArg List.length hm'
        rw [List.length_map] at h2
        omega
      have hml : m.length + 1 = D.files.length := by have := congrArg List.length hm'; rw [List.length_map] at this; omega
      have hfl2 : fs2.len = m.length := by have := (h15.bring 1).own_len; simpa using this.symm
      refine xload h15 0 rfl rfl (xnewF h15 fun b w10 h16 hfz => ?_)
      have h17 : Sat W w10 (pts b [ptr p] :: own 1 fs2 (m.map fun x => ptr x.1) :: pts d [.slice fs2.a fs2.len fs2.cap, .slice ws2.a ws2.len ws2.cap, .int .i64 D.most, .int .i64 D.fuse, .bool D.off, .int .i64 D.count, .int .i64 D.made] :: FilesP m :: own 4 ws2 (D.wait.flatMap wcells) :: FileP (p, renamed f to) :: L) := h16.arr [0, 2, 1]
      refine xcall (Insert_spec (k := (ahead to (D.without fr)).length) h17 hfz rfl (by rw [ptrs_map]; exact allOne_ptrs _) (by show _ ≤ fs2.len; omega) (by show fs2.len + 1 ≤ _; omega)) ?_
      rintro v w11 ⟨s2, rfl, hsl2, h18⟩
      refine ⟨s2, rfl, xnil (xstore (h18.bring 1) 0 rfl (by simp) fun w12 h19 => hK _ _ ⟨rfl, ?_⟩)⟩
      obtain ⟨m1, m2, rfl, hm1⟩ : ∃ m1 m2, m = m1 ++ m2 ∧ m1.length = (ahead to (D.without fr)).length := ⟨m.take (ahead to (D.without fr)).length, m.drop (ahead to (D.without fr)).length, (List.take_append_drop _ _).symm, by rw [List.length_take]; omega⟩
      have h20 : Sat W w12 (FileP (p, renamed f to) :: FilesP (m1 ++ m2) :: pts d [.slice s2.a s2.len s2.cap, .slice ws2.a ws2.len ws2.cap, .int .i64 D.most, .int .i64 D.fuse, .bool D.off, .int .i64 D.count, .int .i64 D.made] ::
          own 1 s2 (((m1 ++ m2).map fun x => ptr x.1).take (ahead to (D.without fr)).length ++ ptr p :: ((m1 ++ m2).map fun x => ptr x.1).drop (ahead to (D.without fr)).length) :: own 4 ws2 (D.wait.flatMap wcells) :: L) := h19.arr [4, 2, 0, 1, 3]
      have e5 := ins_map m1 m2 (p, renamed f to) _ hm1
      rw [show (ptr p : Value) = ptr (p, renamed f to).1 from rfl, e5] at h20
      have h21 := (FilesP.put h20).arr [1, 2, 0]
      refine DiskP.shut (D := { D with files := ahead to (D.without fr) ++ renamed f to :: behind to (D.without fr) }) (l := m1 ++ (p, renamed f to) :: m2) (fs := s2) (ws := ws2) ?_ h21
      have hsplit : m1.map (·.2) ++ m2.map (·.2) = ahead to (D.without fr) ++ behind to (D.without fr) := by rw [ahead_behind, ← hm', List.map_append]
      obtain ⟨e6, e7⟩ := List.append_inj hsplit (by rw [List.length_map, hm1])
      rw [List.map_append, List.map_cons, e6, e7]

/-! ### List -/

def ncells (l : List DF) : List Value := l.map fun f => .string f.name

def DD.names (D : DD) : List ByteArray := D.files.map (·.name)

theorem List_spec (hs : Sat W w (DiskP d D :: L)) (hn : D.files.length ≤ 2 ^ 30) :
    Ret Try.prog F.disk_Disk_List [ptr d] w fun v w' => (D.off = true → v = .tuple ⟨[.slice none 0 0, .int .i64 14]⟩ ∧ Sat W w' (DiskP d D :: L)) ∧
      (D.off = false → ∃ s : Sl, v = .tuple ⟨[.slice s.a s.len s.cap, .int .i64 0]⟩ ∧ Sat W w' (own 1 s (D.names.map Value.string) :: DiskP d D :: L)) := by
  refine S.disk_Disk_List_ok _ _ _ (xcall (ready_spec hs) ?_)
  rintro v w1 ⟨rfl, hq1⟩
  refine ⟨_, rfl, ?_⟩
  have hs1 := hs.quiet hq1
  by_cases hoff : D.off = true
  · exact XIf.yes (off_yes hoff) ⟨fun _ => ⟨by rw [off_14 hoff], hs1⟩, fun h => absurd hoff (by rw [h]; decide)⟩
  have hoff' : D.off = false := by simpa using hoff
  refine XIf.no (off_no hoff') (xnil ?_)
  obtain ⟨l, fs, ws, hl, h⟩ := DiskP.open hs1
  refine xload h 0 rfl rfl ?_
  have hll : l.length = D.files.length := by rw [← hl, List.length_map]
  have hfl : fs.len = l.length := by have := (h.bring 1).own_len; simpa using this.symm
  refine xloop (fun (st : Sl × Int × Unit) w => ∃ (l1 l2 : List (Nat × DF)) (g : Sl), l = l1 ++ l2 ∧ st = (g, (l1.length : Int), ()) ∧ g.len = l1.length ∧
      Sat W w (own 1 g (l1.map fun x => .string x.2.name) :: pts d [.slice fs.a fs.len fs.cap, .slice ws.a ws.len ws.cap, .int .i64 D.most, .int .i64 D.fuse, .bool D.off, .int .i64 D.count, .int .i64 D.made] ::
        own 1 fs (l.map fun x => ptr x.1) :: FilesP l :: own 4 ws (D.wait.flatMap wcells) :: L))
    (fun st => ((fs.len : Int) - st.2.1).toNat) ⟨[], l, ⟨none, 0, 0⟩, rfl, rfl, rfl, h.own_nil⟩ ?_
  clear h
  rintro next _ w ⟨l1, l2, g, e, rfl, hg, h⟩ hnext
  cases l2 with
  | nil =>
    rw [List.append_nil] at e
    subst e
    refine XIf.no (decide_eq_false (show ¬ ((l.length : Int) < (fs.len : Int)) by omega)) ⟨fun h => absurd h hoff, fun _ => ⟨g, rfl, ?_⟩⟩
    have e2 : l.map (fun x => Value.string x.2.name) = D.names.map Value.string := by
      unfold DD.names
      rw [← hl, List.map_map, List.map_map]
      rfl
    rw [e2] at h
    have h2 := DiskP.shut (D := D) (l := l) (fs := fs) (ws := ws) hl (h.arr [1, 2, 3, 4, 0])
    exact h2.swap
  | cons x l2 =>
    have hlt : l1.length < l.length := by rw [e]; simp
    refine XIf.yes (decide_eq_true (show (l1.length : Int) < (fs.len : Int) by omega)) (xelem (h.bring 2) l1.length rfl (x := some ⟨x.1, 0, none⟩) (by simp [readL, e, ptr, Leaf.un]) (by show Int.toNat _ * 1 = _; simp) fun a => xnil ?_)
    have h2 := h.bring 3
    rw [e] at h2
    obtain ⟨ls, ss, h3⟩ := FileP.open (FilesP.take h2)
    refine xload h3 1 rfl rfl ?_
    refine xappend1 (by kernel_rfl) h rfl rfl (by (try dsimp only); omega) fun a s' w' h4 hl4 => xlet ((l1.length + 1 : Nat) : Int) (by dsimp only; rw [wi (by omega) (by omega)]; omega) (hnext _ _ ⟨l1 ++ [x], l2, s', by simp [e], by simp, by rw [List.length_append]; have e4 : s'.len = g.len + 1 := hl4; show s'.len = l1.length + 1; omega, ?_⟩ (by dsimp only; omega))
    rw [List.map_append]
    exact h4

end
end Go.X
