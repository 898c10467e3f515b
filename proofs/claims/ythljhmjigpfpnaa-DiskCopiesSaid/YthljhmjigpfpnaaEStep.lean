/- A call of both devices. -/
import Derived.Test.YthljhmjigpfpnaaELike
import Derived.Test.YthljhmjigpfpnaaDOp
namespace Go.X
open Go.Proofs

section
variable {W w : World} {L : List SP} {d q : Nat} {D R : DD} {i : Nat}

/-- Both list their files' names. -/
theorem lists_both {K : Sl × Int × Unit → Sl × Int × Unit → World → Prop} (hi : i ≤ 2 ^ 20) (hf : Fit i D) (hl : Like D R) (hs : Sat W w (DiskP d D :: RefP q R :: L))
    (hk : ∀ (N : List ByteArray) (s1 s2 : Sl) e w', N.length ≤ i → Sat W w' (own 1 s1 (N.map Value.string) :: own 1 s2 (N.map Value.string) :: DiskP d D :: RefP q R :: L) → K (s1, e, ()) (s2, e, ()) w') :
    XCalls Try.prog F.disk_Disk_List [ptr d] [.leaf .slice, .leaf (.int .i64)] w fun x w' => XCalls Try.prog F.barqueref14_Disk_List [ptr q] [.leaf .slice, .leaf (.int .i64)] w' fun y w'' => K x y w'' := by
  have hlen := hf.len
  have hrl : R.files.length ≤ 2 ^ 30 := by rw [hl.len]; omega
  refine xcalls (List_spec hs (by omega)) ?_
  rintro v w1 ⟨h1, h2⟩
  by_cases ho : D.off = true
  · obtain ⟨rfl, hs1⟩ := h1 ho
    refine ⟨(⟨none, 0, 0⟩, (14 : Int), ()), rfl, xcalls (ListR_spec hs1.swap hrl) ?_⟩
    rintro v w2 ⟨h3, _⟩
    obtain ⟨rfl, hs2⟩ := h3 (by rw [hl.off]; exact ho)
    exact ⟨(⟨none, 0, 0⟩, (14 : Int), ()), rfl, hk [] ⟨none, 0, 0⟩ ⟨none, 0, 0⟩ 14 _ (Nat.zero_le _) hs2.swap.own_nil.own_nil⟩
  · have ho' : D.off = false := by simpa using ho
    obtain ⟨s1, rfl, hs1⟩ := h2 ho'
    refine ⟨(s1, (0 : Int), ()), rfl, xcalls (ListR_spec (hs1.arr [2, 0, 1]) hrl) ?_⟩
    rintro v w2 ⟨_, h3⟩
    obtain ⟨s2, rfl, hs2⟩ := h3 (by rw [hl.off]; exact ho')
    rw [names_like hf.rising hl] at hs2
    exact ⟨(s2, (0 : Int), ()), rfl, hk D.names s1 s2 0 _ (by unfold DD.names; rw [List.length_map]; exact hlen) (hs2.arr [2, 0, 3, 1])⟩

theorem beq_self_int (a : Int) : (a == a) = true := by simp

theorem size_eq {v : Value} (h1 : D.off = true → v = .tuple ⟨[.int .i64 0, .int .i64 14]⟩) {name : ByteArray}
    (h2 : D.off = false → isHead name (behind name D.files) = false → v = .tuple ⟨[.int .i64 0, .int .i64 8]⟩)
    (h3 : D.off = false → isHead name (behind name D.files) = true → ∀ f r, behind name D.files = f :: r → v = .tuple ⟨[.int .i64 f.seen.length, .int .i64 0]⟩) :
    v = .tuple ⟨[.int .i64 (D.size name).1, .int .i64 (D.size name).2]⟩ := by
  unfold DD.size
  by_cases ho : D.off = true
  · rw [if_pos ho]; exact h1 ho
  have ho' : D.off = false := by simpa using ho
  rw [if_neg ho]
  cases hb : behind name D.files with
  | nil => exact h2 ho' (by rw [hb]; rfl)
  | cons f r =>
    dsimp only
    by_cases hn : cmpS f.name name ≠ 0
    · rw [if_pos hn]; exact h2 ho' (by rw [hb]; simpa [isHead] using hn)
    · rw [if_neg hn]; exact h3 ho' (by rw [hb]; simpa [isHead] using hn) f r hb

theorem step_spec {o : Op} (hi : i ≤ 2 ^ 20) (hf : Fit i D) (hl : Like D R) (hok : OpOk W o) (hs : Sat W w (DiskP d D :: RefP q R :: L)) :
    Ret Try.prog F.barquelaw14_step [ptr d, ptr q, .agg ⟨opCells o⟩] w fun v w' => v = .bool true ∧ ∃ D' R', Fit (i + 1) D' ∧ Like D' R' ∧ D'.most = D.most ∧ Sat W w' (DiskP d D' :: RefP q R' :: L) := by
  suffices H : ∀ K : Value → World → Prop, (∀ D' R' w', Fit (i + 1) D' → Like D' R' → D'.most = D.most → Sat W w' (DiskP d D' :: RefP q R' :: L) → K (.bool true) w') →
      S.barquelaw14_step (some ⟨d, 0, none⟩) (some ⟨q, 0, none⟩) (o.kind, o.at_, o.n, o.name, o.to, o.text, o.fates, ()) K w from
    S.barquelaw14_step_ok _ _ (o.kind, o.at_, o.n, o.name, o.to, o.text, o.fates, ()) _ _ (H _ fun D' R' _ h1 h2 h3 h4 => ⟨rfl, D', R', h1, h2, h3, h4⟩)
  intro K hK
  have hlen := hf.len
  have hmade := hf.made
  have hwaits := hf.waits
  have hcount := hf.count
  have hrl : R.files.length ≤ 2 ^ 30 := by rw [hl.len]; omega
  have hrs := hl.small hf.small
  have hrw : PiecesOk R.wait := by rw [hl.wait]; exact hf.pieces
  have hrwl : R.wait.length ≤ 2 ^ 38 := by rw [hl.wait]; omega
  have hrll : ∀ f ∈ R.files, f.last.length ≤ 2097152 := fun f h => (hrs f h).2
  have hrm : 0 ≤ R.most ∧ R.most ≤ 32768 := by rw [hl.most]; exact hf.most
  have hnm : o.name.size ≤ 2 ^ 63 - 1 := hok.name
  have hto : o.to.size ≤ 2 ^ 63 - 1 := hok.to
  refine xnew hs fun b w1 h => ?_
  have h : Sat W w1 (pts b (opCells o) :: DiskP d D :: RefP q R :: L) := h
  refine xload h 5 rfl rfl (xcall_eq (cut_spec o.text) (str (o.text.data.toList.take 700)) rfl ?_)
  obtain ⟨t, ht⟩ : ∃ t, o.text.data.toList.take 700 = t := ⟨_, rfl⟩
  have htl : t.length ≤ 700 := by rw [← ht, List.length_take]; omega
  rw [ht]
  have etl : (str t).data.toList = t := str_toList t
  have ets : (str t).size = t.length := str_size t
  -- what both say, and how they stand
  have fin : ∀ {D' R' : DD} {w'}, Fit (i + 1) D' → Like D' R' → D'.most = D.most → Sat W w' (RefP q R' :: pts b (opCells o) :: DiskP d D' :: L) → K (.bool true) w' := fun h1 h2 h3 h4 =>
    hK _ _ _ h1 h2 h3 (h4.bring 1).drop.swap
  have most_of : ∀ {e : Int} {X Y : DD}, Like X Y → Y.most = R.most → X.most = D.most := fun h e => by rw [← h.most, e, hl.most]
  refine xload h 0 rfl rfl ?_
  by_cases h0 : o.kind = 0
  · have hd := h.drew
    refine XIf.yes (by simpa using h0) (xload hd 3 rfl rfl (xload hd 3 rfl rfl (xcall (Create_spec (name := o.name) hd.swap hf.rising (by omega) (by omega)) ?_)))
    rintro v w2 ⟨rfl, h2⟩
    obtain ⟨e1, e2⟩ := create_like hf.rising hl o.name
    refine ⟨_, rfl, (h2.bring 1).cell rfl, xcall (CreateR_spec (name := o.name) (h2.arr [2, 1, 0]) hrl (by rw [hl.made]; omega) hnm) ?_⟩
    rintro v w3 ⟨rfl, h3⟩
    refine ⟨_, rfl, ?_⟩
    rw [e1, beq_self_int]
    exact fin (hf.create _) e2 (by unfold DD.create; split <;> (try split) <;> (try split) <;> rfl) h3
  refine XIf.no (by simpa using h0) ?_
  by_cases h1 : o.kind = 1
  · have hd := h.drew
    refine XIf.yes (by simpa using h1) (xload hd 3 rfl rfl (xload hd 3 rfl rfl (xcall (Remove_spec (name := o.name) hd.swap hf.rising (by omega) (by omega)) ?_)))
    rintro v w2 ⟨rfl, h2⟩
    obtain ⟨e1, e2⟩ := remove_like hf.rising hl o.name
    refine ⟨_, rfl, (h2.bring 1).cell rfl, xcall (RemoveR_spec (name := o.name) (h2.arr [2, 1, 0]) hrl hrwl) ?_⟩
    rintro v w3 ⟨rfl, h3⟩
    refine ⟨_, rfl, ?_⟩
    rw [e1, beq_self_int]
    exact fin (hf.remove _) e2 (by unfold DD.remove; split <;> (try split) <;> rfl) h3
  refine XIf.no (by simpa using h1) ?_
  by_cases h2 : o.kind = 2
  · have hd := h.drew
    refine XIf.yes (by simpa using h2) (xload hd 3 rfl rfl (xload hd 4 rfl rfl (xload hd 3 rfl rfl (xload hd 4 rfl rfl (xcall (Rename_spec (fr := o.name) (to := o.to) hd.swap hf.rising (by omega)) ?_)))))
    rintro v w2 ⟨rfl, h2⟩
    obtain ⟨e1, e2⟩ := rename_like hf.rising hl o.name o.to
    refine ⟨_, rfl, (h2.bring 1).cell rfl, (h2.bring 1).cell rfl, xcall (RenameR_spec (fr := o.name) (to := o.to) (h2.arr [2, 1, 0]) hrl hto) ?_⟩
    rintro v w3 ⟨rfl, h3⟩
    refine ⟨_, rfl, ?_⟩
    rw [e1, beq_self_int]
    exact fin (hf.rename _ _) e2 (by unfold DD.rename; split <;> (try split) <;> (try split) <;> (try split) <;> (try split) <;> rfl) h3
  refine XIf.no (by simpa using h2) ?_
  by_cases h3 : o.kind = 3
  · refine XIf.yes (by simpa using h3) (lists_both hi hf hl (h.arr [1, 2, 0]) fun N s1 s2 e w2 hN h2 => xjoin0 (xcall (names_spec h2 (by omega)) ?_))
    rintro v w3 ⟨rfl, h3⟩
    refine ⟨true, rfl, XIf.yes rfl ?_⟩
    rw [beq_self_int]
    exact fin hf.mono hl rfl (h3.drop.drop.arr [1, 2, 0])
  refine XIf.no (by simpa using h3) ?_
  by_cases h4 : o.kind = 4
  · refine XIf.yes (by simpa using h4) (xload h 3 rfl rfl (xcalls (Size_spec (name := o.name) h.swap hf.rising (by omega)) ?_))
    rintro v w2 ⟨hq2, s1, s2, s3⟩
    obtain rfl := size_eq s1 s2 s3
    have hh := h.quiet hq2
    refine ⟨((D.size o.name).1, (D.size o.name).2, ()), rfl, xload hh 3 rfl rfl (xcalls_eq (SizeR_spec (name := o.name) (hh.bring 2) hrl) ((R.sizeR o.name).1, (R.sizeR o.name).2, ()) rfl ?_)⟩
    rw [size_like hf.rising hl]
    refine xjoin0 (XIf.yes (beq_self_int _) ?_)
    dsimp only
    rw [beq_self_int]
    exact fin hf.mono hl rfl (hh.arr [2, 0, 1])
  refine XIf.no (by simpa using h4) ?_
  by_cases h5 : o.kind = 5
  · refine XIf.yes (by simpa using h5) (xload h 3 rfl rfl (xload h 1 rfl rfl (xload h 2 rfl rfl (xcalls (Read_spec (name := o.name) (at_ := o.at_) (n := o.n) h.swap hf.rising hf.small (by omega)) ?_))))
    rintro v w2 ⟨rfl, hq2⟩
    have hh := h.quiet hq2
    refine ⟨(_, _, ()), rfl, xload hh 3 rfl rfl (xload hh 1 rfl rfl (xload hh 2 rfl rfl (xcalls_eq (ReadR_spec (name := o.name) (at_ := o.at_) (n := o.n) (hh.bring 2) hrl) (str (R.readR o.name o.at_ o.n).1, (R.readR o.name o.at_ o.n).2, ()) rfl ?_)))⟩
    rw [read_like hf.rising hl]
    refine xjoin0 (XIf.yes (sEq_self _) ?_)
    dsimp only
    rw [beq_self_int]
    exact fin hf.mono hl rfl (hh.arr [2, 0, 1])
  refine XIf.no (by simpa using h5) ?_
  by_cases h6 : o.kind = 6
  · have hd := h.drew
    refine XIf.yes (by simpa using h6) (xload hd 3 rfl rfl (xload hd 1 rfl rfl (xload hd 3 rfl rfl (xload hd 1 rfl rfl (xcall_eq (low_spec o.at_) (lowZ o.at_) rfl ⟨hd.cell rfl, hd.cell rfl, hd.cell rfl, ?_⟩)))))
    refine xcall (Write_spec (name := o.name) (at_ := lowZ o.at_) (t := str t) hd.swap hf.rising hf.small (by omega) hf.most hf.fuse.2 hf.fuse.1 hcount.1 (by rw [ets]; omega) (by rw [ets]; omega)) ?_
    rintro v w2 ⟨rfl, h2⟩
    rw [etl] at h2 ⊢
    obtain ⟨e1, e2⟩ := write_like hf.rising hl o.name (lowZ o.at_) t
    refine ⟨_, rfl, (h2.bring 1).cell rfl, (h2.bring 1).cell rfl, xcall_eq (low_spec o.at_) (lowZ o.at_) rfl ⟨(h2.bring 1).cell rfl, xcall (WriteR_spec (name := o.name) (at_ := lowZ o.at_) (t := t) (h2.arr [2, 1, 0]) hrs hrl hrm (by rw [hl.fuse]; exact hf.fuse.2) (by rw [hl.fuse]; exact hf.fuse.1) (by rw [hl.count]; exact hcount.1) (by rw [hl.count]; omega) (by rw [hl.wait]; omega) (by omega)) ?_⟩⟩
    rintro v w3 ⟨rfl, h3⟩
    refine ⟨_, rfl, ?_⟩
    rw [e1, beq_self_int]
    exact fin (hf.write _ _ _ htl) e2 (write_most _ _ _ _) h3
  refine XIf.no (by simpa using h6) ?_
  by_cases h7 : o.kind = 7
  · refine XIf.yes (by simpa using h7) (xload h 3 rfl rfl (xcalls_eq (SizeR_spec (name := o.name) (h.bring 2) hrl) ((R.sizeR o.name).1, (R.sizeR o.name).2, ()) rfl ?_))
    obtain ⟨e1, e2⟩ := append_like hf.rising hl o.name t
    refine xjoin (fun (st : Int × Unit) w' => st = ((R.appendR o.name t).1, ()) ∧ Sat W w' (pts b (opCells o) :: DiskP d D :: RefP q (R.appendR o.name t).2 :: L)) (fun J hJ => ?_) ?_
    · by_cases hz : (R.sizeR o.name).2 = 0
      · refine XIf.yes (by simpa using hz) (xload h 3 rfl rfl (xcall (WriteR_spec (name := o.name) (at_ := (R.sizeR o.name).1) (t := t) (h.bring 2) hrs hrl hrm (by rw [hl.fuse]; exact hf.fuse.2) (by rw [hl.fuse]; exact hf.fuse.1) (by rw [hl.count]; exact hcount.1) (by rw [hl.count]; omega) (by rw [hl.wait]; omega) (by omega)) ?_))
        rintro v w2 ⟨rfl, h2⟩
        have e : R.appendR o.name t = R.writeR o.name (R.sizeR o.name).1 t := by unfold DD.appendR; rw [if_pos hz]
        refine ⟨_, rfl, hJ _ _ ⟨by rw [e], ?_⟩⟩
        rw [e]
        exact h2.arr [1, 2, 0]
      · refine XIf.no (by simpa using hz) (hJ _ _ ?_)
        have e : R.appendR o.name t = ((R.sizeR o.name).2, R) := by unfold DD.appendR; rw [if_neg hz]
        rw [e]
        exact ⟨rfl, h⟩
    rintro _ w2 ⟨rfl, h2⟩
    refine xload h2 3 rfl rfl (xcall (Append_spec (name := o.name) (t := str t) h2.swap hf.rising hf.small (by omega) hf.most hf.fuse.2 hf.fuse.1 hcount.1 (by rw [ets]; omega) (by rw [ets]; omega)) ?_)
    rintro v w3 ⟨rfl, h3⟩
    rw [etl] at h3 ⊢
    refine ⟨_, rfl, ?_⟩
    dsimp only
    rw [e1, beq_self_int]
    exact fin (hf.append _ _ htl) e2 (append_most _ _ _) (h3.arr [2, 1, 0])
  refine XIf.no (by simpa using h7) ?_
  by_cases h8 : o.kind = 8
  · refine XIf.yes (by simpa using h8) (xcall (Sync_spec h.swap (by omega) hf.pieces (by omega)) ?_)
    rintro v w2 ⟨rfl, h2⟩
    obtain ⟨e1, e2⟩ := sync_like hl
    refine ⟨_, rfl, xcall (SyncR_spec (h2.arr [2, 1, 0]) hrl hrw hrwl hrll) ?_⟩
    rintro v w3 ⟨rfl, h3⟩
    refine ⟨_, rfl, ?_⟩
    rw [e1, beq_self_int]
    exact fin hf.sync e2 (by unfold DD.sync; split <;> rfl) h3
  refine XIf.no (by simpa using h8) ?_
  by_cases h9 : o.kind = 9
  · have hd := h.drew
    refine XIf.yes (by simpa using h9) (xload hd 2 rfl rfl (xload hd 2 rfl rfl (xcall (Arm_spec o.n hd.swap) ?_)))
    rintro v w2 ⟨ha, hb, hc⟩
    by_cases ho : D.off = true
    · obtain ⟨rfl, h2⟩ := ha ho
      refine ⟨(14 : Int), rfl, (h2.bring 1).cell rfl, xcall (ArmR_spec o.n (h2.arr [2, 1, 0])) ?_⟩
      rintro v w3 ⟨ga, _, _⟩
      obtain ⟨rfl, h3⟩ := ga (by rw [hl.off]; exact ho)
      exact ⟨(14 : Int), rfl, fin hf.mono hl rfl h3⟩
    have ho' : D.off = false := by simpa using ho
    have hr' : R.off = false := by rw [hl.off]; exact ho'
    by_cases hn : o.n < 0
    · obtain ⟨rfl, h2⟩ := hb ho' hn
      refine ⟨(1 : Int), rfl, (h2.bring 1).cell rfl, xcall (ArmR_spec o.n (h2.arr [2, 1, 0])) ?_⟩
      rintro v w3 ⟨_, gb, _⟩
      obtain ⟨rfl, h3⟩ := gb hr' hn
      exact ⟨(1 : Int), rfl, fin hf.mono hl rfl h3⟩
    · obtain ⟨rfl, h2⟩ := hc ho' (by omega)
      refine ⟨(0 : Int), rfl, (h2.bring 1).cell rfl, xcall (ArmR_spec o.n (h2.arr [2, 1, 0])) ?_⟩
      rintro v w3 ⟨_, _, gc⟩
      obtain ⟨rfl, h3⟩ := gc hr' (by omega)
      exact ⟨(0 : Int), rfl, fin (hf.arm (by omega) hok.n.2) (arm_like hl _) rfl h3⟩
  refine XIf.no (by simpa using h9) ?_
  by_cases h10 : o.kind = 10
  · refine XIf.yes (by simpa using h10) (xload h 6 rfl rfl (xcalls (Crash_spec (hok.fates _) h.swap (by omega) hf.pieces (by omega) (fun f hf' => Nat.le_trans (hf.last o.xs f hf') (by decide))) ?_))
    rintro v w2 ⟨rfl, h2⟩
    refine ⟨(), rfl, xload (h2.bring 1) 6 rfl rfl (xcalls (CrashR_spec hok.fates (h2.arr [2, 1, 0]) hrl hrw hrwl hrll) ?_)⟩
    rintro v w3 ⟨rfl, h3⟩
    exact ⟨(), rfl, fin (hf.crash o.xs) (crash_like hl o.xs) rfl h3⟩
  refine XIf.no (by simpa using h10) ?_
  by_cases h11 : o.kind = 11
  · have hd := h.drew
    refine XIf.yes (by simpa using h11) (xload hd 3 rfl rfl (xload hd 1 rfl rfl (xload hd 2 rfl rfl (xload hd 3 rfl rfl (xload hd 1 rfl rfl (xload hd 2 rfl rfl (xcall (Spoil_spec (name := o.name) (at_ := o.at_) (by_ := o.n) hd.swap hf.rising (by omega)) ?_)))))))
    rintro v w2 ⟨rfl, h2⟩
    obtain ⟨e1, e2⟩ := spoil_like hf.rising hl o.name o.at_ o.n
    refine ⟨_, rfl, (h2.bring 1).cell rfl, (h2.bring 1).cell rfl, (h2.bring 1).cell rfl, xcall (SpoilR_spec (name := o.name) (at_ := o.at_) (by_ := o.n) (h2.arr [2, 1, 0]) hrl) ?_⟩
    rintro v w3 ⟨rfl, h3⟩
    refine ⟨_, rfl, ?_⟩
    rw [e1, beq_self_int]
    exact fin (hf.spoil _ _ _) e2 (by unfold DD.spoil; split <;> (try split) <;> (try split) <;> rfl) h3
  exact XIf.no (by simpa using h11) (fin hf.mono hl rfl (h.arr [2, 0, 1]))

end
end Go.X
