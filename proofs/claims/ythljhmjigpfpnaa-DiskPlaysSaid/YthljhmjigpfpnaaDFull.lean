/- The laws DiskFull and DiskFuse: the walks. -/
import Derived.Test.YthljhmjigpfpnaaDPlain
namespace Go.X
open Go.Proofs

/-- A device with one empty file. -/
def DD.one (n : Int) : DD := { files := [⟨0, nameA, [], []⟩], wait := [], most := n, fuse := -1, off := false, count := 0, made := 1 }

theorem one_eq (n : Int) : (DD.empty n).create nameA = (0, DD.one n) := by kernel_rfl

theorem lessB_self (f : DF) : lessB f.name f = false := by unfold lessB; rw [cmpS_refl]; rfl
theorem behind_self (f : DF) (r : List DF) : behind f.name (f :: r) = f :: r := by unfold behind; rw [List.dropWhile_cons, lessB_self]; rfl
theorem ahead_self (f : DF) (r : List DF) : ahead f.name (f :: r) = [] := by unfold ahead; rw [List.takeWhile_cons, lessB_self]; rfl
theorem isHead_self (f : DF) (r : List DF) : isHead f.name (behind f.name (f :: r)) = true := by rw [behind_self]; simp [isHead, cmpS_refl]

/-- A device whose first file stands otherwise. -/
def DD.after (D : DD) (f : DF) (r : List DF) (R : WS) : DD :=
  { files := { f with seen := R.seen } :: r, wait := R.wait, most := D.most, fuse := R.fuse, off := R.off, count := R.count, made := D.made }

/-- A write to the first file. -/
theorem write_first {D : DD} {f : DF} {r : List DF} (hf : D.files = f :: r) (ho : D.off = false) (at_ : Nat) (t : List UInt8) (hat : at_ + t.length ≤ 2097152) (hfr : ¬ (t ≠ [] ∧ D.free < (secs (at_ + t.length) : Int) - f.takes)) :
    D.write f.name at_ t = (downE (wr t.length f.id at_ t ⟨f.seen, D.wait, D.fuse, D.count, false⟩).off, D.after f r (wr t.length f.id at_ t ⟨f.seen, D.wait, D.fuse, D.count, false⟩)) := by
  unfold DD.write
  rw [ho, hf, behind_self, ahead_self]
  simp only [Bool.false_eq_true, if_false]
  rw [if_neg (by rw [cmpS_refl]; simp), if_neg (by omega), Int.toNat_natCast, if_neg hfr]
  rfl

theorem write_full {D : DD} {f : DF} {r : List DF} (hf : D.files = f :: r) (ho : D.off = false) (at_ : Nat) (t : List UInt8) (hat : at_ + t.length ≤ 2097152) (hfr : t ≠ [] ∧ D.free < (secs (at_ + t.length) : Int) - f.takes) :
    D.write f.name at_ t = (7, D) := by
  unfold DD.write
  rw [ho, hf, behind_self]
  simp only [Bool.false_eq_true, if_false]
  rw [if_neg (by rw [cmpS_refl]; simp), if_neg (by omega), Int.toNat_natCast, if_pos hfr]

section
variable {W w : World} {L : List SP}

theorem str_empty (l : List UInt8) : sEq (str l) ByteArray.empty = decide (l = []) := sEq_str l []

theorem free_one (n : Int) (f : DF) (w : List DW) (fu c m : Int) (o : Bool) : DD.free ⟨[f], w, n, fu, o, c, m⟩ = n - f.takes := by
  simp [DD.free, takesAll]

theorem full_write (n : Int) (k : Nat) (t : List UInt8) (hk : k ≤ 5000) (ht : t.length ≤ 700) : ∃ e seen wait fuse count, (DD.one n).write nameA k t = (e, ⟨[⟨0, nameA, [], seen⟩], wait, n, fuse, false, count, 1⟩) ∧ wait.length ≤ 700 ∧
    ((t = [] ∧ e = 0 ∧ seen = []) ∨ (t ≠ [] ∧ n < secs (k + t.length) ∧ e = 7 ∧ seen = [] ∧ wait = []) ∨ (t ≠ [] ∧ (secs (k + t.length) : Int) ≤ n ∧ e = 0 ∧ seen.length = k + t.length)) := by
  have hfree : (DD.one n).free = n := by rw [DD.one, free_one]; simp [DF.takes, secs]
  have htk : DF.takes ⟨0, nameA, [], []⟩ = 0 := by simp [DF.takes, secs]
  by_cases h : t ≠ [] ∧ n < (secs (k + t.length) : Int)
  · refine ⟨7, [], [], -1, 0, ?_, by simp, .inr (.inl ⟨h.1, h.2, rfl, rfl, rfl⟩)⟩
    exact write_full (D := DD.one n) (f := ⟨0, nameA, [], []⟩) (r := []) rfl rfl k t (by omega) (by rw [hfree, htk]; exact ⟨h.1, by omega⟩)
  · have hw := write_first (D := DD.one n) (f := ⟨0, nameA, [], []⟩) (r := []) rfl rfl k t (by omega) (by rw [hfree, htk]; intro h'; exact h ⟨h'.1, by omega⟩)
    rw [wr_all _ _ _ _ _ (.inl (by simp [DD.one]))] at hw
    refine ⟨_, _, _, _, _, hw, ?_, ?_⟩
    · have := pcs_len t.length 0 k t
      simp only [DD.one, List.nil_append]
      omega
    · by_cases h0 : t = []
      · subst h0
        exact .inl ⟨rfl, rfl, rfl⟩
      · refine .inr (.inr ⟨h0, ?_, rfl, ?_⟩)
        · have : ¬ n < (secs (k + t.length) : Int) := fun h' => h ⟨h0, h'⟩
          omega
        · show ((pcs t.length 0 k t).foldl lay []).length = _
          rw [lays_length _ _ _ _ _ (Nat.le_refl _), if_neg h0]
          simp

theorem Full_law (sectors at_ : Int) (s : ByteArray) (hs : Sat W w L) : Ret Try.prog F.barquelaw14_DiskFull [.int .i64 sectors, .int .i64 at_, .string s] w fun v w' => v = .bool true ∧ Sat W w' L := by
  suffices H : ∀ K : Value → World → Prop, (∀ w', Sat W w' L → K (.bool true) w') → S.barquelaw14_DiskFull sectors at_ s K w from S.barquelaw14_DiskFull_ok _ _ _ _ _ (H _ fun _ h => ⟨rfl, h⟩)
  intro K hK
  refine xcall_eq (cut_spec s) (str (s.data.toList.take 700)) rfl ?_
  obtain ⟨t, ht⟩ : ∃ t, s.data.toList.take 700 = t := ⟨_, rfl⟩
  have htl : t.length ≤ 700 := by rw [← ht, List.length_take]; omega
  rw [ht]
  have hawake : ∀ w', Sat W w' L → ∀ K' : Bool → World → Prop, (∀ w', Sat W w' L → K' true w') → XCall Try.prog F.barquelaw14_awake [] (.leaf .bool) w' K' := fun w' h K' hk =>
    xcall (awake_spec h) fun v w'' ⟨e, h'⟩ => ⟨true, e, hk w'' h'⟩
  refine xjoin (fun st w' => st = (decide (sectors < 0 ∨ 200 < sectors ∨ at_ < 0 ∨ 5000 < at_), ()) ∧ w' = w) (fun J hJ => ?_) ?_
  · by_cases h1 : sectors < 0
    · exact XIf.yes (decide_eq_true h1) (hJ _ _ ⟨by simp [h1], rfl⟩)
    refine XIf.no (decide_eq_false h1) ?_
    by_cases h2 : 200 < sectors
    · exact XIf.yes (decide_eq_true h2) (hJ _ _ ⟨by simp [h2], rfl⟩)
    refine XIf.no (decide_eq_false h2) ?_
    by_cases h3 : at_ < 0
    · exact XIf.yes (decide_eq_true h3) (hJ _ _ ⟨by simp [h3], rfl⟩)
    refine XIf.no (decide_eq_false h3) (hJ _ _ ⟨?_, rfl⟩)
    simp [h1, h2, h3]
  rintro _ w' ⟨rfl, rfl⟩
  by_cases hout : sectors < 0 ∨ 200 < sectors ∨ at_ < 0 ∨ 5000 < at_
  · exact XIf.yes (decide_eq_true hout) (hawake _ hs _ fun w' h => hK w' h)
  refine XIf.no (decide_eq_false hout) (xcalls (New_yes sectors (by omega) (by omega) hs) ?_)
  rintro v w1 ⟨d, rfl, h1⟩
  refine ⟨(some ⟨d, 0, none⟩, (0 : Int), ()), rfl, xjoin0 (XIf.no rfl (XIf.no rfl ?_))⟩
  refine xcall (Create_spec (name := nameA) h1 trivial (by simp [DD.empty]) (by simp [DD.empty])) ?_
  rintro v w2 ⟨rfl, h2⟩
  rw [one_eq] at h2 ⊢
  obtain ⟨k, rfl⟩ : ∃ k : Nat, at_ = k := ⟨at_.toNat, by omega⟩
  have hsz : (str t).size = t.length := str_size t
  refine ⟨(0 : Int), rfl, xcall (Write_spec (name := nameA) (at_ := (k : Int)) (t := str t) h2 (rising_one _) (small_one (by decide)) (by simp [DD.one]) (by simp only [DD.one]; omega) (by simp [DD.one]) (by simp [DD.one]) (by simp [DD.one]) (by rw [hsz]; simp only [DD.one]; omega) (by rw [hsz]; simp only [DD.one, List.length_nil]; omega)) ?_⟩
  rintro v w3 ⟨rfl, h3⟩
  rw [str_toList] at h3 ⊢
  obtain ⟨e, seen, wait, fuse, count, hw, hwl, hcase⟩ := full_write sectors k t (by omega) htl
  rw [hw] at h3 ⊢
  have hsl : seen.length ≤ 5700 := by
    rcases hcase with ⟨_, _, rfl⟩ | ⟨_, _, _, rfl, _⟩ | ⟨_, _, _, h⟩
    · simp
    · simp
    · omega
  have hsm : Small [(⟨0, nameA, [], seen⟩ : DF)] := small_one ⟨by show seen.length ≤ _; omega, by simp⟩
  have htk : DF.takes ⟨0, nameA, [], seen⟩ = secs seen.length := by simp [DF.takes]
  refine ⟨e, rfl, xcalls (Size_spec (name := nameA) h3 (rising_one _) (by simp)) ?_⟩
  rintro v w4 ⟨hq4, _, _, hsz4⟩
  have hv := hsz4 rfl (isHead_self ⟨0, nameA, [], seen⟩ []) ⟨0, nameA, [], seen⟩ [] (behind_self ⟨0, nameA, [], seen⟩ [])
  subst hv
  have h4 := h3.quiet hq4
  have hFree : ∀ K' : Int → World → Prop, (∀ w', Sat W w' (DiskP d ⟨[⟨0, nameA, [], seen⟩], wait, sectors, fuse, false, count, 1⟩ :: L) → K' (sectors - secs seen.length) w') → XCall Try.prog F.disk_Disk_Free [.pointer (some ⟨d, 0, none⟩)] (.leaf (.int .i64)) w4 K' := by
    intro K' hk
    refine xcall (Free_spec h4 hsm (by simp) ⟨by show 0 ≤ sectors; omega, by show sectors ≤ 32768; omega⟩) ?_
    rintro v w5 ⟨rfl, hq5⟩
    refine ⟨_, rfl, ?_⟩
    rw [free_one, htk]
    exact hk w5 (h4.quiet hq5)
  refine ⟨((seen.length : Int), (0 : Int), ()), rfl, xlet ((k + t.length : Nat) : Int) (by rw [hsz, wi (by omega) (by omega)]; omega) (xlet ((k + t.length + 63 : Nat) : Int) (by rw [wi (by omega) (by omega)]; omega) ⟨by decide, xlet (secs (k + t.length) : Int) (by rw [tdiv64, wi (by omega) (by omega)]; rfl) ?_⟩)⟩
  rcases hcase with ⟨rfl, rfl, rfl⟩ | ⟨hn0, hlt, rfl, rfl, rfl⟩ | ⟨hn0, hge, rfl, hlen⟩
  · refine XIf.yes (sEq_self _) (xjoin0 (XIf.yes rfl (XIf.yes rfl (hFree _ fun w' h => XIf.yes (by simp [secs]) (hawake w' h.drop _ fun w' h => hK w' h)))))
  · refine XIf.no (by rw [str_empty]; simpa using hn0) (XIf.yes (decide_eq_true hlt) (xjoin0 (XIf.yes rfl (XIf.yes rfl (XIf.yes rfl (hFree _ fun w5 h => XIf.yes (by simp [secs]) (xcall (Waiting_spec h) ?_)))))))
    rintro v w6 ⟨rfl, hq6⟩
    exact ⟨(0 : Int), rfl, XIf.yes rfl (hawake w6 (h.quiet hq6).drop _ fun w' h => hK w' h)⟩
  · refine XIf.no (by rw [str_empty]; simpa using hn0) (XIf.no (decide_eq_false (by show ¬ ((secs (k + t.length) : Int) > sectors); omega)) (xjoin0 (XIf.yes rfl (xlet ((k + t.length : Nat) : Int) (by rw [hsz, wi (by omega) (by omega)]; omega) (XIf.yes (by simp [hlen]) (hFree _ fun w5 h => xlet (sectors - (secs (k + t.length) : Int)) (wi (by unfold secs; omega) (by unfold secs; omega)) (XIf.yes (by simp [hlen]) (hawake w5 h.drop _ fun w' h => hK w' h))))))))

/-- The closed facts that a make of bytes asks of the types. -/
def okMakeB (P : Program) (t : TypeId) : Bool :=
  match under P t with
  | some (.slice e) => match ti P e with
    | some i => Nat.beq i.size 1 && Nat.beq i.bytes 1 && (match i.zero with
      | some (.int .u8 0) => true
      | _ => false)
    | none => false
  | _ => false

theorem okMakeB_spec {P : Program} {t : TypeId} (h : okMakeB P t = true) : ∃ e i, P.underlying t = some (.slice e) ∧ P.info? e = some i ∧ i.size = 1 ∧ i.bytes = 1 ∧ i.zero = some (.int .u8 0) := by
  unfold okMakeB at h
  split at h
  · rename_i e h1
    split at h
    · rename_i i hi
      simp only [Bool.and_eq_true] at h
      obtain ⟨⟨h3, h4⟩, h5⟩ := h
      split at h5
      · rename_i hz
        exact ⟨e, i, under_eq h1, ti_info hi, Nat.eq_of_beq_eq_true h3, Nat.eq_of_beq_eq_true h4, hz⟩
      · cases h5
    · cases h
  · cases h

theorem made_bytes (n : Nat) : (madeCells (#[.int .u8 0] : Array Value) n).toList = bcells (List.replicate n 0) := by
  unfold madeCells bcells
  apply List.ext_getElem
  · simp
  · intro i h1 h2
    simp [Nat.mod_one]

/-- **make** of bytes. -/
theorem xmakeB {P : Program} {t : TypeId} {n : Int} {m : Nat} {K : Sl → World → Prop} (hok : okMakeB P t = true) (hs : Sat W w L) (hm : n = m) (hsz : m ≤ 2 ^ 40)
    (hk : ∀ s w', s.len = m → Sat W w' (own 1 s (bcells (List.replicate m 0)) :: L) → K s w') : XDo P (Instr.makeSlice t (.int .i64 n) (.int .i64 n)) (.leaf .slice) w K := by
  obtain ⟨e, i, ht, hi, h1, hb, hz⟩ := okMakeB_spec hok
  subst hm
  have hr := run_make (P := P) w t e i _ ht hi hz .i64 .i64 (m : Int) (m : Int) (by omega) (Int.le_refl _) (by rw [hb]; omega) (by omega)
  rw [Int.toNat_natCast, h1, Nat.mul_one] at hr
  refine ⟨⟨some ⟨w.heap.size, 0, none⟩, m, m⟩, _, hr, hk _ _ rfl ?_⟩
  have hnew := hs.new_block (cs := (madeCells (#[.int .u8 0] : Array Value) m).toList) (t := e)
  have hnew' : Sat W (w.alloc (.cells (madeCells (#[.int .u8 0] : Array Value) m) e)) (pts w.heap.size (bcells (List.replicate m 0) ++ []) :: L) := by
    rw [List.append_nil, ← made_bytes]; exact hnew
  refine Sat.shut_own rfl ?_ ?_ (Nat.le_refl _) hnew'
  · simp [bcells_length]
  · simp [bcells_length]

/-- The device whose fuse is set, behind the pieces. -/
theorem fuse_write (m : Nat) (hm : m ≤ 100) : ∃ seen wait, ({ DD.one 200 with fuse := m } : DD).write nameA 0 (List.replicate (64 * m) 0) = (0, ⟨[⟨0, nameA, [], seen⟩], wait, 200, 0, false, m, 1⟩) ∧ wait.length = m ∧ seen.length = 64 * m := by
  obtain ⟨t, ht⟩ : ∃ t : List UInt8, List.replicate (64 * m) 0 = t := ⟨_, rfl⟩
  have htl : t.length = 64 * m := by rw [← ht, List.length_replicate]
  rw [ht]
  have hfree : ({ DD.one 200 with fuse := m } : DD).free = 200 := by simp [DD.free, DD.one, takesAll, DF.takes, secs]
  have htk : DF.takes ⟨0, nameA, [], []⟩ = 0 := by simp [DF.takes, secs]
  have hp := pcs_whole m t.length 0 0 t htl (by omega)
  rw [Nat.mul_zero] at hp
  have hw := write_first (D := { DD.one 200 with fuse := m }) (f := ⟨0, nameA, [], []⟩) (r := []) rfl rfl 0 t (by omega) (by rw [hfree, htk, htl]; unfold secs; omega)
  rw [wr_all _ _ _ _ _ (.inr (by show ((pcs t.length 0 0 t).length : Int) ≤ (m : Int); omega))] at hw
  refine ⟨(pcs t.length 0 0 t).foldl lay [], pcs t.length 0 0 t, hw.trans ?_, hp, ?_⟩
  · have h0 : burns (pcs t.length 0 0 t).length (m : Int) = 0 := by rw [hp, burns_pos m (Int.le_refl _)]; omega
    have h1 : (0 : Int) + ((pcs t.length 0 0 t).length : Int) = m := by rw [hp]; omega
    show (downE false, (⟨[⟨0, nameA, [], (pcs t.length 0 0 t).foldl lay []⟩], [] ++ pcs t.length 0 0 t, 200, burns (pcs t.length 0 0 t).length (m : Int), false, (0 : Int) + ((pcs t.length 0 0 t).length : Int), 1⟩ : DD)) = _
    rw [h0, h1]
    rfl
  · rw [lays_length _ _ _ _ _ (Nat.le_refl _)]
    split
    · rename_i h; rw [h] at htl; simpa using htl
    · simp [htl]

theorem fuse_append (m : Nat) (hm : m ≤ 100) (seen : List UInt8) (wait : List DW) (hs : seen.length = 64 * m) :
    (⟨[⟨0, nameA, [], seen⟩], wait, 200, 0, false, m, 1⟩ : DD).append nameA [120] = (14, ⟨[⟨0, nameA, [], seen⟩], wait, 200, 0, true, m, 1⟩) := by
  have hb : behind nameA [(⟨0, nameA, [], seen⟩ : DF)] = [⟨0, nameA, [], seen⟩] := behind_self ⟨0, nameA, [], seen⟩ []
  unfold DD.append
  rw [hb]
  simp only [Bool.false_eq_true, if_false]
  rw [if_neg (by rw [cmpS_refl]; simp)]
  have htk : DF.takes ⟨0, nameA, [], seen⟩ = m := by simp [DF.takes, secs, hs]; omega
  have hw := write_first (D := (⟨[⟨0, nameA, [], seen⟩], wait, 200, 0, false, m, 1⟩ : DD)) (f := ⟨0, nameA, [], seen⟩) (r := []) rfl rfl seen.length [120] (by simp [hs]; omega) (by rw [free_one, htk, hs]; unfold secs; simp; omega)
  exact hw

theorem Fuse_law (n : Int) (hs : Sat W w L) : Ret Try.prog F.barquelaw14_DiskFuse [.int .i64 n] w fun v w' => v = .bool true ∧ Sat W w' L := by
  suffices H : ∀ K : Value → World → Prop, (∀ w', Sat W w' L → K (.bool true) w') → S.barquelaw14_DiskFuse n K w from S.barquelaw14_DiskFuse_ok _ _ _ (H _ fun _ h => ⟨rfl, h⟩)
  intro K hK
  have hawake : ∀ w', Sat W w' L → ∀ K' : Bool → World → Prop, (∀ w', Sat W w' L → K' true w') → XCall Try.prog F.barquelaw14_awake [] (.leaf .bool) w' K' := fun w' h K' hk =>
    xcall (awake_spec h) fun v w'' ⟨e, h'⟩ => ⟨true, e, hk w'' h'⟩
  refine xcalls (New_yes 200 (by omega) (by omega) hs) ?_
  rintro v w1 ⟨d, rfl, h1⟩
  refine ⟨(some ⟨d, 0, none⟩, (0 : Int), ()), rfl, xjoin0 (XIf.no rfl (XIf.no rfl ?_))⟩
  refine xcall (Create_spec (name := nameA) h1 trivial (by simp [DD.empty]) (by simp [DD.empty])) ?_
  rintro v w2 ⟨rfl, h2⟩
  rw [one_eq] at h2 ⊢
  refine ⟨(0 : Int), rfl, xjoin (fun st w' => st = (decide (n < 0 ∨ 100 < n), ()) ∧ w' = w2) (fun J hJ => ?_) ?_⟩
  · by_cases h1 : n < 0
    · exact XIf.yes (decide_eq_true h1) (hJ _ _ ⟨by simp [h1], rfl⟩)
    refine XIf.no (decide_eq_false h1) (hJ _ _ ⟨?_, rfl⟩)
    simp [h1]
  rintro _ w' ⟨rfl, rfl⟩
  by_cases hout : n < 0 ∨ 100 < n
  · refine XIf.yes (decide_eq_true hout) (xjoin0 (xcall (Arm_spec n h2) ?_))
    rintro v w3 ⟨_, hneg, hpos⟩
    by_cases hn : n < 0
    · obtain ⟨rfl, h3⟩ := hneg rfl hn
      exact ⟨(1 : Int), rfl, XIf.yes (by simp [hn]) (hawake _ h3.drop _ fun w' h => hK w' h)⟩
    · obtain ⟨rfl, h3⟩ := hpos rfl (by omega)
      exact ⟨(0 : Int), rfl, XIf.yes (by simp; omega) (hawake _ h3.drop _ fun w' h => hK w' h)⟩
  refine XIf.no (decide_eq_false hout) (xcall (Arm_spec n h2) ?_)
  rintro v w3 ⟨_, _, hpos⟩
  obtain ⟨rfl, h3⟩ := hpos rfl (by omega)
  obtain ⟨m, rfl⟩ : ∃ m : Nat, n = m := ⟨n.toNat, by omega⟩
  refine ⟨(0 : Int), rfl, xlet ((64 * m : Nat) : Int) (by rw [wi (by omega) (by omega)]; omega) (xmakeB (by kernel_rfl) h3 rfl (by omega) fun s w4 hsl h4 => ?_)⟩
  have had := h4.own_addr
  refine xbytes (k := 0) (l := List.replicate (64 * m) 0) h4 (fun b hb _ => hb) (fun h => h) (by simp; omega) (fun _ => rfl) ?_
  rw [List.drop_zero, List.take_of_length_le (by simp; omega)]
  obtain ⟨seen, wait, hw, hwl, hsl'⟩ := fuse_write m (by omega)
  have hsz : (str (List.replicate (64 * m) 0)).size = 64 * m := by rw [str_size, List.length_replicate]
  refine xcall (Write_spec (name := nameA) (at_ := 0) (t := str (List.replicate (64 * m) 0)) h4.swap (rising_one _) (small_one (by decide)) (by simp [DD.one]) (by simp [DD.one]) (by show (m : Int) ≤ _; omega) (by show -1 ≤ (m : Int); omega) (by simp [DD.one]) (by rw [hsz]; simp only [DD.one]; omega) (by rw [hsz]; simp only [DD.one, List.length_nil]; omega)) ?_
  rintro v w5 ⟨rfl, h5⟩
  rw [str_toList, hw] at h5 ⊢
  refine ⟨(0 : Int), rfl, xcall (Up_spec h5) ?_⟩
  rintro v w6 ⟨rfl, hq6⟩
  have h6 := h5.quiet hq6
  refine ⟨true, rfl, xcall (Append_spec (name := nameA) (t := ⟨#[120]⟩) h6 (rising_one _) (small_one ⟨by show seen.length ≤ _; omega, by simp⟩) (by simp) (by simp) (by simp) (by simp) (by show (0 : Int) ≤ m; omega) (by show (m : Int) + ((1 : Nat) : Int) ≤ _; omega) (by show wait.length + 1 ≤ _; omega)) ?_⟩
  rintro v w7 ⟨rfl, h7⟩
  have hap : (⟨[⟨0, nameA, [], seen⟩], wait, 200, 0, false, m, 1⟩ : DD).append nameA (⟨#[120]⟩ : ByteArray).data.toList = (14, ⟨[⟨0, nameA, [], seen⟩], wait, 200, 0, true, m, 1⟩) := fuse_append m (by omega) seen wait hsl'
  rw [hap] at h7 ⊢
  refine ⟨(14 : Int), rfl, xcalls (Size_spec (name := nameA) h7 (rising_one _) (by simp)) ?_⟩
  rintro v w8 ⟨hq8, hsz8, _, _⟩
  have h8 := h7.quiet hq8
  have hv := hsz8 rfl
  subst hv
  refine ⟨((0 : Int), (14 : Int), ()), rfl, xjoin0 (XIf.yes rfl (XIf.yes rfl (XIf.yes rfl (XIf.yes rfl (xcall (Up_spec h8) ?_)))))⟩
  rintro v w9 ⟨rfl, hq9⟩
  have h9 := h8.quiet hq9
  refine ⟨false, rfl, XIf.yes rfl (XIf.yes rfl (xcall (Writes_spec h9) ?_))⟩
  rintro v w10 ⟨rfl, hq10⟩
  have h10 := h9.quiet hq10
  refine ⟨(m : Int), rfl, XIf.yes (by simp) (xcall (Waiting_spec h10) ?_)⟩
  rintro v w11 ⟨rfl, hq11⟩
  have h11 := h10.quiet hq11
  exact ⟨(wait.length : Int), rfl, XIf.yes (by simp [hwl]) (hawake w11 h11.drop.drop _ fun w' h => hK w' h)⟩

end
end Go.X
