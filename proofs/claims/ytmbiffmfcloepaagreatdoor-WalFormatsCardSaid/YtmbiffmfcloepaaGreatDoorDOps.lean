/- The device's calls that change no file. -/
import Derived.Test.YtmbiffmfcloepaaGreatDoorDPlace
import Derived.Test.YtmbiffmfcloepaaGreatDoorXMem2
namespace Go.X
open Go.Proofs

section
variable {W w : World} {L : List SP} {d : Nat} {D : DD}

theorem FileP.lens {x : Nat × DF} {ls ss : Sl} (h : Sat W w (pts x.1 [.int .i64 x.2.id, .string x.2.name, .slice ls.a ls.len ls.cap, .slice ss.a ss.len ss.cap] :: own 1 ls (bcells x.2.last) :: own 1 ss (bcells x.2.seen) :: L)) :
    ls.len = x.2.last.length ∧ ss.len = x.2.seen.length := by
  have h1 := (h.bring 1).own_len
  have h2 := (h.bring 2).own_len
  rw [bcells_length] at h1 h2
  omega

theorem takesAll_append : ∀ (a b : List DF), takesAll (a ++ b) = takesAll a + takesAll b
  | [], b => by simp [takesAll]
  | f :: a, b => by simp [takesAll, takesAll_append a b]; omega

theorem secs_le {n m : Nat} (h : n ≤ 64 * m) : secs n ≤ m := by unfold secs; omega

def Small (fs : List DF) : Prop := ∀ f ∈ fs, f.seen.length ≤ 2097152 ∧ f.last.length ≤ 2097152

theorem takes_le {f : DF} (h : f.seen.length ≤ 2097152 ∧ f.last.length ≤ 2097152) : f.takes ≤ 32768 := secs_le (by omega)

theorem takesAll_le : ∀ {fs : List DF}, Small fs → takesAll fs ≤ 32768 * fs.length
  | [], _ => Nat.le_refl _
  | f :: fs, h => by
    have h1 := takes_le (h f List.mem_cons_self)
    have h2 := takesAll_le (fs := fs) fun g hg => h g (List.mem_cons_of_mem _ hg)
    simp only [takesAll, List.length_cons]; omega

theorem max_if (a b : Nat) : (if ((a : Nat) : Int) > ((b : Nat) : Int) then ((a : Nat) : Int) else ((b : Nat) : Int)) = ((max b a : Nat) : Int) := by
  split <;> omega

theorem min_if (a b : Nat) : (if ((a : Nat) : Int) < ((b : Nat) : Int) then ((a : Nat) : Int) else ((b : Nat) : Int)) = ((min b a : Nat) : Int) := by
  split <;> omega

theorem used_spec (hs : Sat W w (DiskP d D :: L)) (hsm : Small D.files) (hn : D.files.length ≤ 2 ^ 30) :
    Ret Tryz.prog F.disk_Disk_used [ptr d] w fun v w' => v = .int .i64 (takesAll D.files) ∧ Quiet w w' := by
  obtain ⟨w0, hw0⟩ : ∃ x : World, x = w := ⟨w, rfl⟩
  subst hw0
  refine S.disk_Disk_used_ok _ _ _ (xnil ?_)
  obtain ⟨l, fs, ws, hl, h⟩ := DiskP.open hs
  refine xload h 0 rfl rfl ?_
  have hll : l.length = D.files.length := by rw [← hl, List.length_map]
  have hlen : fs.len = l.length := by have := (h.bring 1).own_len; simpa using this.symm
  refine xloop (fun st w => ∃ l1 l2 : List (Nat × DF), l = l1 ++ l2 ∧ st = ((takesAll (l1.map (·.2)) : Int), ((l1.length : Nat) : Int), ()) ∧ Quiet w0 w)
    (fun st => (fs.len - st.2.1).toNat) ⟨[], l, rfl, rfl, Quiet.refl _⟩ ?_
  rintro next _ w ⟨l1, l2, e, rfl, hq⟩ hnext
  have h := h.quiet hq
  cases l2 with
  | nil =>
    rw [List.append_nil] at e
    subst e
    refine XIf.no (by rw [decide_eq_false_iff_not]; (try dsimp only); omega) ⟨?_, hq⟩
    rw [hl]
  | cons x l2 =>
    have hlt : l1.length < l.length := by rw [e]; simp
    have hsmx := hsm x.2 (by rw [← hl, e]; simp)
    have hbound : takesAll (l1.map (·.2)) + x.2.takes ≤ 32768 * D.files.length := by
      have h1 := takesAll_le hsm
      have h2 : takesAll D.files = takesAll (l1.map (·.2)) + (x.2.takes + takesAll (l2.map (·.2))) := by
        rw [← hl, e, List.map_append, takesAll_append, List.map_cons, takesAll]
      omega
    refine XIf.yes (by rw [decide_eq_true_iff]; (try dsimp only); omega) (xelem (h.bring 1) l1.length rfl (x := some ⟨x.1, 0, none⟩) ?_ (by show Int.toNat _ * 1 = _; simp) fun a => xnil ?_)
    · simp [readL, e, ptr, Leaf.un]
    · have h1 := h.bring 2
      rw [e] at h1
      obtain ⟨ls, ss, h2⟩ := FileP.open (FilesP.take h1)
      obtain ⟨hls, hss⟩ := FileP.lens h2
      refine xload h2.drew 3 rfl rfl (xnil (xload h2.drew 2 rfl rfl (xlet ((max x.2.seen.length x.2.last.length : Nat) : Int) ?_ ?_)))
      · rw [max_if, hls, hss]
      · refine xcall (sectors_spec _ (by omega)) ?_
        rintro v w' ⟨rfl, rfl⟩
        refine ⟨_, rfl, h2.drew.cell rfl, h2.drew.cell rfl, xlet ((takesAll (l1.map (·.2)) + x.2.takes : Nat) : Int) ?_ (xlet ((l1.length + 1 : Nat) : Int) ?_ (hnext _ _ ⟨l1 ++ [x], l2, by simp [e], ?_, hq.drew⟩ ?_))⟩
        · dsimp only
          rw [show secs (max x.2.seen.length x.2.last.length) = x.2.takes from rfl, wi (by omega) (by omega)]
          omega
        · dsimp only
          rw [wi (by omega) (by omega)]; omega
        · simp [takesAll_append, takesAll]
        · dsimp only; omega

theorem Free_spec (hs : Sat W w (DiskP d D :: L)) (hsm : Small D.files) (hn : D.files.length ≤ 2 ^ 30) (hm : 0 ≤ D.most ∧ D.most ≤ 32768) :
    Ret Tryz.prog F.disk_Disk_Free [ptr d] w fun v w' => v = .int .i64 D.free ∧ Quiet w w' := by
  refine S.disk_Disk_Free_ok _ _ _ (XIf.no rfl (xnil ?_))
  obtain ⟨l, fs, ws, hl, h⟩ := DiskP.open hs
  refine xload h.drew 2 rfl rfl (xcall (used_spec hs.drew hsm hn) ?_)
  rintro v w' ⟨rfl, hq⟩
  have hb := takesAll_le hsm
  refine ⟨_, rfl, (h.drew.quiet hq).cell rfl, xlet D.free ?_ ⟨rfl, (Quiet.refl w).drew.trans hq⟩⟩
  unfold DD.free
  rw [wi (by omega) (by omega)]

theorem Writes_spec (hs : Sat W w (DiskP d D :: L)) : Ret Tryz.prog F.disk_Disk_Writes [ptr d] w fun v w' => v = .int .i64 D.count ∧ Quiet w w' := by
  refine S.disk_Disk_Writes_ok _ _ _ (XIf.no rfl (xnil ?_))
  obtain ⟨l, fs, ws, hl, h⟩ := DiskP.open hs
  exact xload h 5 rfl rfl ⟨rfl, Quiet.refl w⟩

theorem Up_spec (hs : Sat W w (DiskP d D :: L)) : Ret Tryz.prog F.disk_Disk_Up [ptr d] w fun v w' => v = .bool (!D.off) ∧ Quiet w w' := by
  refine S.disk_Disk_Up_ok _ _ _ (xjoin0 (XIf.yes rfl (xnil ?_)))
  obtain ⟨l, fs, ws, hl, h⟩ := DiskP.open hs
  exact xload h 4 rfl rfl ⟨rfl, Quiet.refl w⟩

def errOff (D : DD) : Int := if D.off then 14 else 0

theorem off_yes (h : D.off = true) : ((if D.off then 14 else 0 : Int) != 0) = true := by rw [h]; rfl
theorem off_no (h : D.off = false) : ((if D.off then 14 else 0 : Int) != 0) = false := by rw [h]; rfl
theorem off_14 (h : D.off = true) : (if D.off then 14 else 0 : Int) = 14 := by rw [h]; rfl

theorem Arm_spec (n : Int) (hs : Sat W w (DiskP d D :: L)) : Ret Tryz.prog F.disk_Disk_Arm [ptr d, .int .i64 n] w fun v w' =>
    (D.off = true → v = .int .i64 14 ∧ Sat W w' (DiskP d D :: L)) ∧ (D.off = false → n < 0 → v = .int .i64 1 ∧ Sat W w' (DiskP d D :: L)) ∧
    (D.off = false → 0 ≤ n → v = .int .i64 0 ∧ Sat W w' (DiskP d { D with fuse := n } :: L)) := by
  refine S.disk_Disk_Arm_ok _ _ _ _ (xcall (ready_spec hs) ?_)
  rintro v w' ⟨rfl, hq⟩
  have hs' := hs.quiet hq
  refine ⟨_, rfl, ?_⟩
  by_cases hoff : D.off = true
  · exact XIf.yes (off_yes hoff) ⟨fun _ => ⟨by rw [off_14 hoff], hs'⟩, fun h => absurd hoff (by rw [h]; decide), fun h => absurd hoff (by rw [h]; decide)⟩
  · have hoff' : D.off = false := by simpa using hoff
    refine XIf.no (off_no hoff') ?_
    by_cases hn : n < 0
    · exact XIf.yes (by simpa using hn) ⟨fun h => absurd h hoff, fun _ _ => ⟨rfl, hs'⟩, fun _ h => absurd hn (by omega)⟩
    · refine XIf.no (by simpa using hn) (xnil ?_)
      obtain ⟨l, fs, ws, hl, h⟩ := DiskP.open hs'
      refine xstore h 3 rfl (by simp) fun w'' h' => ⟨fun h => absurd h hoff, fun _ h => absurd h hn, fun _ _ => ⟨rfl, ?_⟩⟩
      exact DiskP.shut (D := { D with fuse := n }) hl h'

theorem grown_spec {s : Sl} {l : List UInt8} {n : Nat} (hs : Sat W w (own 1 s (bcells l) :: L)) (hn : n ≤ 2 ^ 40) :
    Ret Tryz.prog F.disk_grown [.slice s.a s.len s.cap, .int .i64 n] w fun v w' => ∃ s' : Sl, v = .slice s'.a s'.len s'.cap ∧ Sat W w' (own 1 s' (bcells (l ++ List.replicate (n - l.length) 0)) :: L) := by
  refine S.disk_grown_ok ⟨s.a, s.len, s.cap⟩ _ _ _ ?_
  refine xloop (fun st w => ∃ (s' : Sl) (l' : List UInt8), st = (s', ()) ∧ l' ++ List.replicate (n - l'.length) 0 = l ++ List.replicate (n - l.length) 0 ∧ Sat W w (own 1 s' (bcells l') :: L))
    (fun st => n - st.1.len) ⟨s, l, rfl, rfl, hs⟩ ?_
  rintro next _ w ⟨s', l', rfl, e, h⟩ hnext
  have hl : l'.length = s'.len := by have := h.own_len; rw [bcells_length] at this; omega
  by_cases hlt : s'.len < n
  · refine XIf.yes (by rw [decide_eq_true_iff]; (try dsimp only); omega) (xlet ((n - s'.len : Nat) : Int) (by (try dsimp only); rw [wi (by omega) (by omega)]; (try omega)) (xgrow (by kernel_rfl) h rfl (by (try dsimp only); omega) fun s'' w'' h'' hl'' => ?_))
    have hl3 : s''.len = s'.len + (n - s'.len) := hl''
    refine hnext _ w'' ⟨s'', _, rfl, ?_, h''⟩ (by (try dsimp only); omega)
    rw [← e]
    simp only [List.length_append, List.length_replicate, hl]
    rw [show n - (s'.len + (n - s'.len)) = 0 by omega]
    simp
  · refine XIf.no (by rw [decide_eq_false_iff_not]; (try dsimp only); omega) ⟨s', rfl, ?_⟩
    rw [← e, show n - l'.length = 0 by omega]
    simpa using h

/-- May a text be a name? -/
def nameB (s : ByteArray) : Bool := !(s.data.toList.isEmpty) && decide (s.size ≤ 24) && s.data.toList.all fun c => decide (33 ≤ c.toNat) && decide (c.toNat ≤ 126)

theorem sEq_empty (s : ByteArray) : sEq s ByteArray.empty = s.data.toList.isEmpty := by
  unfold sEq
  rw [ByteArray.toList_eq, ByteArray.toList_eq]
  cases h : s.data.toList with
  | nil => rfl
  | cons a l => rfl

theorem named_spec (s : ByteArray) (hs : Sat W w L) : Ret Tryz.prog F.disk_named [.string s] w fun v w' => v = .bool (nameB s) ∧ Sat W w' L := by
  refine S.disk_named_ok _ _ _ (xjoin0 ?_)
  by_cases h0 : s.data.toList.isEmpty = true
  · refine XIf.yes (by rw [sEq_empty]; exact h0) (XIf.yes rfl ⟨?_, hs⟩)
    simp [nameB, h0]
  · have h0' : s.data.toList.isEmpty = false := by simpa using h0
    refine XIf.no (by rw [sEq_empty]; exact h0') ?_
    by_cases h1 : s.size ≤ 24
    · refine XIf.no (by rw [decide_eq_false_iff_not]; (try dsimp only); omega) (xtobytes (by kernel_rfl) hs fun x w' h hlen => ?_)
      refine xloop (fun st w => ∃ k : Nat, st.2.1 = (k : Int) ∧ k ≤ s.size ∧ (s.data.toList.take k).all (fun c => decide (33 ≤ c.toNat) && decide (c.toNat ≤ 126)) = true ∧ Sat W w (own 1 x (bcells s.data.toList) :: L))
        (fun st => ((s.size : Int) - st.2.1).toNat) ⟨0, rfl, by omega, by simp, h⟩ ?_
      rintro next ⟨b, i, _⟩ w ⟨k, hk, hks, hall, h⟩ hnext
      simp only at hk
      subst hk
      have hsz : s.data.toList.length = s.size := by simp
      by_cases hlt : k < s.size
      · have hget : s.data.toList[k]? = some s.data.toList[k] := List.getElem?_eq_getElem (by omega)
        generalize s.data.toList[k] = c at hget
        refine XIf.yes (by rw [decide_eq_true_iff]; (try dsimp only); omega) (xelem h k rfl (x := (c.toNat : Int)) (by simp [readL, bcells, hget, Leaf.un]) (by show Int.toNat _ * 1 = _; simp) fun a => xjoin0 ?_)
        have hmem : c ∈ s.data.toList := List.mem_of_getElem? hget
        have hbad : ¬ (33 ≤ c.toNat ∧ c.toNat ≤ 126) → nameB s = false := fun hb => by
          have : (s.data.toList.all fun c => decide (33 ≤ c.toNat) && decide (c.toNat ≤ 126)) = false := by
            rw [List.all_eq_false]
            exact ⟨c, hmem, by simpa using hb⟩
          simp only [nameB, this, Bool.and_false]
        by_cases h33 : c.toNat < 33
        · refine XIf.yes (by rw [decide_eq_true_iff]; (try dsimp only); omega) (XIf.yes rfl ⟨by rw [hbad (by omega)], h.drop⟩)
        · refine XIf.no (by rw [decide_eq_false_iff_not]; (try dsimp only); omega) ?_
          by_cases h126 : c.toNat ≤ 126
          · refine XIf.no (by rw [decide_eq_false_iff_not]; (try dsimp only); omega) (xlet ((k + 1 : Nat) : Int) (by (try dsimp only); rw [wi (by omega) (by omega)]; (try omega)) (hnext _ _ ⟨k + 1, rfl, by omega, ?_, h⟩ (by (try dsimp only); omega)))
            rw [List.take_add_one, hget, List.all_append, hall]
            simp; omega
          · refine XIf.yes (by rw [decide_eq_true_iff]; (try dsimp only); omega) ⟨by rw [hbad (by omega)], h.drop⟩
      · refine XIf.no (by rw [decide_eq_false_iff_not]; (try dsimp only); omega) ⟨?_, h.drop⟩
        have : k = s.size := by omega
        rw [List.take_of_length_le (by omega)] at hall
        simp only [nameB, h0', hall]
        simp [h1]
    · refine XIf.yes (by rw [decide_eq_true_iff]; (try dsimp only); omega) ⟨?_, hs⟩
      simp [nameB, h1]

end
end Go.X
