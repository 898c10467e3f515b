import Derived.Test.YtmbiffmfcloepaaGreatDoorWBase

/-! The log: what a segment holds; the segments; what stands behind the last record goes. -/
namespace Go.X
open Go.Proofs

section
variable {W w : World} {L : List SP} {p d b i : Nat} {D : DD} {M : Bk} {l : LG}

theorem read_len (D : DD) (hs : Small D.files) (name : ByteArray) (a n : Int) : (D.read name a n).1.length ≤ 2097152 := by
  unfold DD.read
  split
  · exact Nat.zero_le _
  cases hb : behind name D.files with
  | nil => exact Nat.zero_le _
  | cons f r =>
    dsimp only
    split
    · exact Nat.zero_le _
    split
    · exact Nat.zero_le _
    · have hf := (hs f (by rw [← ahead_behind name D.files, hb]; simp)).1
      simp only [List.length_take, List.length_drop]
      omega

theorem size_bound (D : DD) (hs : Small D.files) (name : ByteArray) : 0 ≤ (D.size name).1 ∧ (D.size name).1 ≤ 2097152 := by
  unfold DD.size
  split
  · exact ⟨by decide, by decide⟩
  cases hb : behind name D.files with
  | nil =>
    show (0 : Int) ≤ 0 ∧ (0 : Int) ≤ 2097152
    decide
  | cons f r =>
    dsimp only
    split
    · show (0 : Int) ≤ 0 ∧ (0 : Int) ≤ 2097152
      decide
    · have hf := (hs f (by rw [← ahead_behind name D.files, hb]; simp)).1
      show (0 : Int) ≤ (f.seen.length : Int) ∧ (f.seen.length : Int) ≤ 2097152
      omega

/-- A file's size. -/
theorem xsize {name : ByteArray} {K : HT [.leaf (.int .i64), .leaf (.int .i64)] → World → Prop} (hs : Sat W w (DiskP d D :: L)) (hf : Fit i D) (hi : i ≤ 2 ^ 28) (hk : ∀ w', Quiet w w' → Sat W w' (DiskP d D :: L) → K ((D.size name).1, (D.size name).2, ()) w') :
    XCalls Tryz.prog F.disk_Disk_Size [ptr d, .string name] [.leaf (.int .i64), .leaf (.int .i64)] w K := by
  have := hf.len
  refine xcalls (Size_spec (name := name) hs hf.rising (by omega)) ?_
  rintro v w2 ⟨hq, s1, s2, s3⟩
  obtain rfl := size_eq s1 s2 s3
  exact ⟨_, rfl, hk w2 hq (hs.quiet hq)⟩

theorem next_spec (all last : List UInt8) (a : Nat) (hs : Sat W w (BookP b M :: L)) (hl : all.length ≤ 2 ^ 40) (ha : a ≤ all.length) (hla : last.length ≤ 2 ^ 40) :
    Ret Tryz.prog F.wal_next [ptr b, .string (str all), .int .i64 a, .string (str last)] w fun v w' => Sat W w' (BookP b M :: L) ∧
      (nextB M all a last = none → v = .tuple ⟨[.string ByteArray.empty, .string ByteArray.empty, .bool false]⟩) ∧
      (∀ s m, nextB M all a last = some (s, m) → v = .tuple ⟨[.string (str s), .string (str m), .bool true]⟩) := by
  suffices H : ∀ K : Value → World → Prop, (nextB M all a last = none → ∀ w', Sat W w' (BookP b M :: L) → K (.tuple ⟨[.string ByteArray.empty, .string ByteArray.empty, .bool false]⟩) w') →
      (∀ s m, nextB M all a last = some (s, m) → ∀ w', Sat W w' (BookP b M :: L) → K (.tuple ⟨[.string (str s), .string (str m), .bool true]⟩) w') → S.wal_next (some ⟨b, 0, none⟩) (str all) a (str last) K w from
    S.wal_next_ok _ _ _ _ _ _ (H _ (fun h w' hs => ⟨hs, fun _ => rfl, fun s m h' => (by rw [h] at h'; cases h')⟩) fun s m h w' hs => ⟨hs, fun h' => (by rw [h] at h'; cases h'), fun s' m' h' => (by rw [h] at h'; cases h'; rfl)⟩)
  intro K hK1 hK2
  have e1 : (str all).size = all.length := str_size all
  refine xlet ((all.length - a : Nat) : Int) (by rw [e1, wi (by omega) (by omega)]; omega) ?_
  unfold nextB at hK1 hK2
  by_cases h36 : all.length < a + 36
  · rw [if_pos h36] at hK1
    exact XIf.yes (decide_eq_true (show ((all.length - a : Nat) : Int) < 36 by omega)) (hK1 rfl w hs)
  rw [if_neg h36] at hK1 hK2
  dsimp only at hK1 hK2
  have hl4 : ((all.drop a).take 4).length = 4 := by rw [List.length_take, List.length_drop]; omega
  refine XIf.no (decide_eq_false (show ¬ ((all.length - a : Nat) : Int) < 36 by omega)) (xlet ((a + 4 : Nat) : Int) (by rw [wi (by omega) (by omega)]; omega) ⟨by rw [e1]; omega, xlet (str ((all.drop a).take 4)) ?_ (xcall (value_spec _ hl4) ?_)⟩)
  · rw [Int.toNat_natCast, Int.toNat_natCast, ext_str, str_toList, List.drop_take]
    congr 2; omega
  rintro v w1 ⟨rfl, hq⟩
  obtain ⟨n, hn⟩ : ∃ n, val4 ((all.drop a).take 4) = n := ⟨_, rfl⟩
  have hn4 : n < 4294967296 := hn ▸ val4_lt _
  rw [hn] at hK1 hK2 ⊢
  have h1 := hs.quiet hq
  refine ⟨(n : Int), rfl, xjoin (fun (st : Bool × Unit) w' => st = (decide (n < 1 ∨ 1048833 < n ∨ all.length < a + 36 + n), ()) ∧ w' = w1) (fun J hJ => ?_) ?_⟩
  · by_cases hn1 : n < 1
    · exact XIf.yes (decide_eq_true (show (n : Int) < 1 by omega)) (hJ _ _ ⟨by simp [hn1], rfl⟩)
    refine XIf.no (decide_eq_false (show ¬ (n : Int) < 1 by omega)) ?_
    by_cases hn2 : 1048833 < n
    · exact XIf.yes (decide_eq_true (show (n : Int) > 1048833 by omega)) (hJ _ _ ⟨by simp [hn2], rfl⟩)
    refine XIf.no (decide_eq_false (show ¬ (n : Int) > 1048833 by omega)) (xlet ((all.length - a : Nat) : Int) (by rw [e1, wi (by omega) (by omega)]; omega) (xlet ((all.length - a - 36 : Nat) : Int) (by rw [wi (by omega) (by omega)]; omega) (hJ _ _ ⟨?_, rfl⟩)))
    have : ((n : Int) > ((all.length - a - 36 : Nat) : Int)) ↔ (n < 1 ∨ 1048833 < n ∨ all.length < a + 36 + n) := by omega
    exact Prod.ext (decide_eq_decide.2 this) rfl
  rintro _ w' ⟨rfl, rfl⟩
  by_cases hbad : n < 1 ∨ 1048833 < n ∨ all.length < a + 36 + n
  · rw [if_pos hbad] at hK1
    exact XIf.yes (decide_eq_true hbad) (hK1 rfl _ h1)
  rw [if_neg hbad] at hK1 hK2
  obtain ⟨m, hm⟩ : ∃ m, (all.drop (a + 4)).take 32 = m := ⟨_, rfl⟩
  obtain ⟨s, hsd⟩ : ∃ s, (all.drop (a + 36)).take n = s := ⟨_, rfl⟩
  rw [hm, hsd] at hK1 hK2
  have hsl : s.length ≤ 2 ^ 40 := by rw [← hsd, List.length_take]; omega
  refine XIf.no (decide_eq_false hbad) (xlet ((a + 4 : Nat) : Int) (by rw [wi (by omega) (by omega)]; omega) (xlet ((a + 36 : Nat) : Int) (by rw [wi (by omega) (by omega)]; omega) ⟨by rw [e1]; omega, xlet (str m) ?_ (xlet ((a + 36 : Nat) : Int) (by rw [wi (by omega) (by omega)]; omega) (xlet ((a + 36 : Nat) : Int) (by rw [wi (by omega) (by omega)]; omega) (xlet ((a + 36 + n : Nat) : Int) (by rw [wi (by omega) (by omega)]; omega) ⟨by rw [e1]; omega, xlet (str s) ?_ ⟨?_, xlet (str (last ++ s)) (str_append _ _) (xcall (Is_spec (last ++ s) m h1.drew) ?_)⟩⟩)))⟩))
  · rw [Int.toNat_natCast, Int.toNat_natCast, ext_str, str_toList, List.drop_take, ← hm]
    congr 2; omega
  · rw [Int.toNat_natCast, Int.toNat_natCast, ext_str, str_toList, List.drop_take, ← hsd]
    congr 2; omega
  · rw [str_size, str_size]
    show ((last.length + s.length : Nat) : Int) ≤ 9223372036854775807
    omega
  rintro v w2 ⟨rfl, h2⟩
  refine ⟨_, rfl, ?_⟩
  cases his : M.is (last ++ s) m with
  | false =>
    rw [if_neg (by rw [his]; simp)] at hK1
    exact XIf.yes rfl (hK1 rfl _ h2)
  | true =>
    rw [if_pos his] at hK2
    exact XIf.no rfl (hK2 s m rfl _ h2)

theorem nextB_some {M : Bk} {all last s m : List UInt8} {a : Nat} (h : nextB M all a last = some (s, m)) : 1 ≤ s.length ∧ s.length ≤ 1048833 ∧ a + 36 + s.length ≤ all.length ∧ m.length = 32 := by
  unfold nextB at h
  split at h
  · cases h
  · rename_i h1
    dsimp only at h
    split at h
    · cases h
    · rename_i h2
      split at h
      · cases h
        rw [List.length_take, List.length_drop, List.length_take, List.length_drop]
        omega
      · cases h

theorem allZ_iff (l : List UInt8) : allZ l = true ↔ AllZ l := by
  unfold allZ AllZ
  rw [List.all_eq_true]
  simp

theorem tail_extract (s : List UInt8) (_h : 1 ≤ s.length) : ByteArray.extract (str s) 1 (str s).size = str s.tail := by
  rw [str_drop s 1 _ (by rw [str_size]; exact Nat.le_refl _)]
  simp

theorem load_spec (n : Nat) (hn : n ≤ 2 ^ 40) (hs : Sat W w (DiskP d D :: BookP b M :: L)) (hf : Fit i D) (hi : i ≤ 2 ^ 28) :
    Ret Tryz.prog F.wal_load [ptr d, ptr b, .int .i64 n] w fun v w' =>
      (loadW D M n = none → v = .tuple ⟨[.pointer none, .slice none 0 0, .bool false]⟩ ∧ Sat W w' (DiskP d D :: BookP b M :: L)) ∧
      (∀ S, loadW D M n = some S → ∃ (p : Nat) (s : Sl), v = .tuple ⟨[ptr p, .slice s.a s.len s.cap, .bool S.sealed]⟩ ∧ Sat W w' (LogP p d b (S.log n) :: own 1 s (S.out.map fun x => Value.string (str x)) :: DiskP d D :: BookP b M :: L)) := by
  suffices H : ∀ K : Value → World → Prop, (loadW D M n = none → ∀ w', Sat W w' (DiskP d D :: BookP b M :: L) → K (.tuple ⟨[.pointer none, .slice none 0 0, .bool false]⟩) w') →
      (∀ S, loadW D M n = some S → ∀ (p : Nat) (s : Sl) w', Sat W w' (LogP p d b (S.log n) :: own 1 s (S.out.map fun x => Value.string (str x)) :: DiskP d D :: BookP b M :: L) → K (.tuple ⟨[ptr p, .slice s.a s.len s.cap, .bool S.sealed]⟩) w') →
      S.wal_load (some ⟨d, 0, none⟩) (some ⟨b, 0, none⟩) n K w from
    S.wal_load_ok _ _ _ _ _ (H _ (fun h w' hs => ⟨fun _ => ⟨rfl, hs⟩, fun S h' => (by rw [h] at h'; cases h')⟩) fun S h p s w' hs => ⟨fun h' => (by rw [h] at h'; cases h'), fun S' h' => (by rw [h] at h'; cases h'; exact ⟨p, s, rfl, hs⟩)⟩)
  intro K hK1 hK2
  unfold loadW at hK1 hK2
  refine xcall (name_spec n hn hs) ?_
  rintro v w1 ⟨rfl, h1⟩
  refine ⟨nm n, rfl, xsize h1 hf hi fun w2 _ h2 => ?_⟩
  by_cases he : (D.size (nm n)).2 ≠ 0
  · rw [if_pos he] at hK1
    exact XIf.yes (by simpa using he) (hK1 rfl _ h2)
  rw [if_neg he] at hK1 hK2
  refine XIf.no (by simpa using he) (xcall (name_spec n hn h2) ?_)
  rintro v w3 ⟨rfl, h3⟩
  have hlen := hf.len
  refine ⟨nm n, rfl, xcalls (Read_spec (name := nm n) (at_ := 0) (n := (D.size (nm n)).1) h3 hf.rising hf.small (by omega)) ?_⟩
  rintro v w4 ⟨rfl, hq⟩
  have h4 := h3.quiet hq
  refine ⟨(_, _, ()), rfl, ?_⟩
  by_cases he2 : (D.read (nm n) 0 (D.size (nm n)).1).2 ≠ 0
  · rw [if_pos he2] at hK1
    exact XIf.yes (by simpa using he2) (hK1 rfl _ h4)
  rw [if_neg he2] at hK1 hK2
  obtain ⟨all, hall⟩ : ∃ all, (D.read (nm n) 0 (D.size (nm n)).1).1 = all := ⟨_, rfl⟩
  have hal : all.length ≤ 2097152 := hall ▸ read_len D hf.small _ _ _
  rw [hall] at hK1 hK2
  have hK3 := hK2 _ rfl
  clear hK1 hK2
  refine XIf.no (by simpa using he2) (xcall (first_spec n hn h4) ?_)
  rintro v w5 ⟨rfl, h5⟩
  refine ⟨str (firstM n), rfl, xnew h5 fun p w6 h6 => ?_⟩
  have h6 : Sat W w6 (LogP p d b ⟨n, 0, firstM n⟩ :: DiskP d D :: BookP b M :: L) := h6
  obtain ⟨Z, hZ⟩ : ∃ Z, loadF M all n = Z := ⟨_, rfl⟩
  rw [hZ] at hK3
  have hfirst : (firstM n).length ≤ 2 ^ 20 := by unfold firstM; rw [List.length_append, segName_length]; decide
  rw [hall]
  refine xloopN (fun m (st : Option Addr × Sl × Bool × Sl × Bool × Unit) w => ∃ (k : Nat) (S : LD) (s : Sl), m = all.length - S.end_ ∧ st = (none, ⟨none, 0, 0⟩, false, s, S.sealed, ()) ∧ loadL M all k S = Z ∧ all.length < S.end_ + k ∧ S.end_ ≤ all.length ∧
      S.mark.length ≤ 2 ^ 20 ∧ S.out.length ≤ S.end_ ∧ Sat W w (LogP p d b (S.log n) :: own 1 s (S.out.map fun x => Value.string (str x)) :: DiskP d D :: BookP b M :: L)) all.length
    ⟨all.length + 1, ⟨0, firstM n, false, []⟩, ⟨none, 0, 0⟩, rfl, rfl, hZ, by show all.length < 0 + (all.length + 1); omega, Nat.zero_le _, hfirst, Nat.le_refl _, h6.own_nil.swap⟩ ?_
  clear h5 h6 h4 h3 h2 h1 hs
  rintro next m _ w ⟨k, S, s, rfl, rfl, hS, hk, hend, hml, hol, h⟩ hnext
  obtain ⟨k, rfl⟩ : ∃ k', k = k' + 1 := ⟨k - 1, by omega⟩
  have hd := h.drew
  refine xload hd 3 rfl rfl (xload hd 4 rfl rfl (xcalls (next_spec all S.mark S.end_ (hd.bring 3) (by omega) hend (by show S.mark.length ≤ _; omega)) ?_))
  rintro v w7 ⟨h7, hno, hyes⟩
  have h7 : Sat W w7 (LogP p d b (S.log n) :: own 1 s (S.out.map fun x => Value.string (str x)) :: DiskP d D :: BookP b M :: L) := h7.arr [1, 2, 3, 0]
  unfold loadL at hS
  cases hnx : nextB M all S.end_ S.mark with
  | none =>
    obtain rfl := hno hnx
    rw [hnx] at hS
    have hS : S = Z := hS
    subst hS
    exact ⟨(ByteArray.empty, ByteArray.empty, false, ()), rfl, XIf.yes rfl (hK3 p s w7 h7)⟩
  | some sm =>
    obtain ⟨t, mk⟩ := sm
    obtain rfl := hyes t mk hnx
    rw [hnx] at hS
    dsimp only at hS
    obtain ⟨ht1, ht2, ht3, ht4⟩ := nextB_some hnx
    have e1 : (str t).size = t.length := str_size t
    obtain ⟨c, t', htt⟩ : ∃ c t', t = c :: t' := by cases t with
      | nil => simp at ht1
      | cons c t' => exact ⟨c, t', rfl⟩
    have hg0 : ((List.getD (ByteArray.data (str t)).toList 0 0).toNat : Int) = (c.toNat : Int) := by rw [getD_str, htt]; rfl
    have hb0 : (0 : Int) ≤ 0 ∧ (0 : Int) < (((str t).size : Nat) : Int) := by rw [e1]; omega
    have hc : ∀ k : Nat, k < 256 → (((c.toNat : Nat) : Int) == (k : Int)) = decide (c = UInt8.ofNat k) := by
      intro k hk
      by_cases h : c = UInt8.ofNat k
      · have : (c.toNat : Int) = k := by rw [h, u8_toNat]; omega
        rw [this]; simp [h]
      · have : ¬ (c.toNat : Int) = (k : Int) := fun e => h (UInt8.toNat.inj (by
          have : (UInt8.ofNat k).toNat = k := by rw [UInt8.toNat_ofNat']; omega
          omega))
        rw [decide_eq_false h]
        exact beq_false_of_ne this
    refine ⟨(str t, str mk, true, ()), rfl, XIf.no rfl ?_⟩
    -- what the step makes
    have stop : loadStep S t mk = none → K (.tuple ⟨[ptr p, .slice s.a s.len s.cap, .bool S.sealed]⟩) w7 := fun hst => by
      rw [hst] at hS
      have hS : S = Z := hS
      subst hS
      exact hK3 p s w7 h7
    refine xjoin (fun (st : Option Addr × Sl × Bool × Sl × Bool × Unit) w' => ∃ (S' : LD) (s' : Sl), loadStep S t mk = some S' ∧ st = (none, ⟨none, 0, 0⟩, false, s', S'.sealed, ()) ∧
        Sat W w' (LogP p d b (S.log n) :: own 1 s' (S'.out.map fun x => Value.string (str x)) :: DiskP d D :: BookP b M :: L)) (fun J hJ => ?_) ?_
    · -- which kind
      refine xjoin (fun (st : Bool × Unit) w' => st = (decide (t = [69] ∧ S.sealed = false), ()) ∧ w' = w7) (fun J2 hJ2 => ?_) ?_
      · refine ⟨hb0, xlet (c.toNat : Int) hg0 ?_⟩
        by_cases h69 : c = 69
        · refine XIf.yes (by rw [show (69 : Int) = ((69 : Nat) : Int) from rfl, hc 69 (by decide)]; exact decide_eq_true h69) ?_
          cases hse : S.sealed with
          | false =>
            refine XIf.yes rfl (hJ2 _ _ ⟨?_, rfl⟩)
            have : ((((str t).size : Nat) : Int) == 1) = decide (t = [69] ∧ false = false) := by
              rw [e1, htt]
              by_cases ht' : t' = []
              · subst ht'; simp [h69]
              · have h0 : 0 < t'.length := List.length_pos_iff.2 ht'
                have h1 : ¬ (((c :: t').length : Nat) : Int) = 1 := by simp only [List.length_cons]; omega
                rw [beq_false_of_ne h1, decide_eq_false]
                rintro ⟨h, _⟩
                exact ht' (List.cons.inj h).2
            exact Prod.ext (by rw [this]; simp [hse]) rfl
          | true => exact XIf.no rfl (hJ2 _ _ ⟨by simp [hse], rfl⟩)
        · refine XIf.no (by rw [show (69 : Int) = ((69 : Nat) : Int) from rfl, hc 69 (by decide)]; exact decide_eq_false h69) (hJ2 _ _ ⟨?_, rfl⟩)
          rw [decide_eq_false]
          rintro ⟨h, _⟩
          rw [htt] at h
          exact h69 (List.cons.inj h).1
      rintro _ w' ⟨rfl, rfl⟩
      by_cases hE : t = [69] ∧ S.sealed = false
      · refine XIf.yes (decide_eq_true hE) (hJ _ _ ⟨⟨S.end_ + 36 + t.length, mk, true, S.out⟩, s, ?_, rfl, h7⟩)
        unfold loadStep; rw [if_pos hE]
      · refine XIf.no (decide_eq_false hE) (xjoin (fun (st : Bool × Unit) w'' => st = (decide (c = 83 ∧ S.sealed = false ∨ c = 82 ∧ S.sealed = true), ()) ∧ w'' = w') (fun J2 hJ2 => ?_) ?_)
        · refine xjoin (fun (st : Bool × Unit) w'' => st = (decide (c = 83 ∧ S.sealed = false), ()) ∧ w'' = w') (fun J3 hJ3 => ?_) ?_
          · refine ⟨hb0, xlet (c.toNat : Int) hg0 ?_⟩
            by_cases h83 : c = 83
            · refine XIf.yes (by rw [show (83 : Int) = ((83 : Nat) : Int) from rfl, hc 83 (by decide)]; exact decide_eq_true h83) (hJ3 _ _ ⟨?_, rfl⟩)
              cases hse : S.sealed <;> simp [h83]
            · exact XIf.no (by rw [show (83 : Int) = ((83 : Nat) : Int) from rfl, hc 83 (by decide)]; exact decide_eq_false h83) (hJ3 _ _ ⟨by simp [h83], rfl⟩)
          rintro _ w'' ⟨rfl, rfl⟩
          by_cases h83 : c = 83 ∧ S.sealed = false
          · exact XIf.yes (decide_eq_true h83) (hJ2 _ _ ⟨by simp [h83], rfl⟩)
          · refine XIf.no (decide_eq_false h83) (xjoin0 ⟨hb0, xlet (c.toNat : Int) hg0 ?_⟩)
            by_cases h82 : c = 82
            · refine XIf.yes (by rw [show (82 : Int) = ((82 : Nat) : Int) from rfl, hc 82 (by decide)]; exact decide_eq_true h82) (hJ2 _ _ ⟨?_, rfl⟩)
              cases hse : S.sealed <;> simp [h82]
            · exact XIf.no (by rw [show (82 : Int) = ((82 : Nat) : Int) from rfl, hc 82 (by decide)]; exact decide_eq_false h82) (hJ2 _ _ ⟨by simp [h82, h83], rfl⟩)
        rintro _ w'' ⟨rfl, rfl⟩
        have hhd : t.headD 0 = c := by rw [htt]; rfl
        by_cases hSR : c = 83 ∧ S.sealed = false ∨ c = 82 ∧ S.sealed = true
        · refine XIf.yes (decide_eq_true hSR) ⟨by rw [e1]; omega, xlet (str t.tail) (by rw [Int.toNat_natCast]; exact tail_extract t ht1) ?_⟩
          refine xappend1 (by kernel_rfl) (h7.bring 1) rfl rfl (by
            have := (h7.bring 1).own_len
            rw [List.length_map] at this
            show s.len + 1 ≤ _
            omega) fun a s' w8 h8 hl8 => hJ _ _ ⟨⟨S.end_ + 36 + t.length, mk, S.sealed, S.out ++ [t.tail]⟩, s', ?_, rfl, ?_⟩
          · unfold loadStep; rw [if_neg hE, hhd, if_pos hSR]
          · rw [List.map_append]
            exact h8.swap
        · refine XIf.no (decide_eq_false hSR) (stop ?_)
          unfold loadStep; rw [if_neg hE, hhd, if_neg hSR]
    · rintro _ w8 ⟨S', s', hst, rfl, h8⟩
      rw [hst] at hS
      have hS : loadL M all k S' = Z := hS
      have hend' : S'.end_ = S.end_ + 36 + t.length ∧ S'.mark = mk ∧ S'.out.length ≤ S.out.length + 1 := by
        unfold loadStep at hst
        split at hst
        · cases hst; exact ⟨rfl, rfl, Nat.le_succ _⟩
        split at hst
        · cases hst; exact ⟨rfl, rfl, by simp⟩
        · cases hst
      obtain ⟨hE1, hE2, hE3⟩ := hend'
      refine xload h8 3 rfl rfl (xlet ((36 + t.length : Nat) : Int) (by rw [e1, wi (by omega) (by omega)]; omega) (xlet ((S.end_ + 36 + t.length : Nat) : Int) (by show IntKind.wrap .i64 ((S.end_ : Int) + ((36 + t.length : Nat) : Int)) = _; rw [wi (by omega) (by omega)]; omega) (xstore h8 3 rfl (by simp) fun w9 h9 => xstore h9 4 rfl (by simp) fun w10 h10 => hnext (all.length - S'.end_) _ w10 (by omega) ⟨k, S', s', rfl, rfl, hS, by omega, by omega, by rw [hE2, ht4]; decide, by omega, ?_⟩)))
      have e : LogP p d b (S'.log n) = pts p [ptr d, ptr b, .int .i64 (n : Nat), .int .i64 ((S.end_ + 36 + t.length : Nat) : Int), .string (str mk)] := by
        unfold LogP LD.log
        rw [hE1, hE2]
      rw [e]
      exact h10

theorem segments_spec (hs : Sat W w (DiskP d D :: L)) (hf : Fit i D) (hi : i ≤ 2 ^ 28) :
    Ret Tryz.prog F.wal_segments [ptr d] w fun v w' => (D.off = true → v = .tuple ⟨[.slice none 0 0, .int .i64 14]⟩ ∧ Sat W w' (DiskP d D :: L)) ∧
      (D.off = false → ∃ s : Sl, v = .tuple ⟨[.slice s.a s.len s.cap, .int .i64 0]⟩ ∧ Sat W w' (own 1 s ((segsW D).map fun n => Value.int .i64 (n : Nat)) :: DiskP d D :: L)) := by
  suffices H : ∀ K : Value → World → Prop, (D.off = true → ∀ w', Sat W w' (DiskP d D :: L) → K (.tuple ⟨[.slice none 0 0, .int .i64 14]⟩) w') →
      (D.off = false → ∀ (s : Sl) w', Sat W w' (own 1 s ((segsW D).map fun n => Value.int .i64 (n : Nat)) :: DiskP d D :: L) → K (.tuple ⟨[.slice s.a s.len s.cap, .int .i64 0]⟩) w') → S.wal_segments (some ⟨d, 0, none⟩) K w from
    S.wal_segments_ok _ _ _ (H _ (fun ho w' h => ⟨fun _ => ⟨rfl, h⟩, fun h => (by rw [ho] at h; cases h)⟩) fun ho s w' h => ⟨fun h => (by rw [ho] at h; cases h), fun _ => ⟨s, rfl, h⟩⟩)
  intro K hK1 hK2
  have hlen := hf.len
  refine xcalls (List_spec hs (by omega)) ?_
  rintro v w1 ⟨h1, h2⟩
  by_cases ho : D.off = true
  · obtain ⟨rfl, h⟩ := h1 ho
    exact ⟨(⟨none, 0, 0⟩, (14 : Int), ()), rfl, XIf.yes rfl (hK1 ho _ h)⟩
  have ho' : D.off = false := by simpa using ho
  obtain ⟨s0, rfl, h⟩ := h2 ho'
  have hK3 := hK2 ho'
  clear hK1 hK2 h1 h2
  have hnl : D.names.length ≤ i := by unfold DD.names; rw [List.length_map]; exact hlen
  have hsl : s0.len = D.names.length := by have := h.own_len; simpa using this.symm
  refine ⟨(s0, (0 : Int), ()), rfl, XIf.no rfl (xlet ((D.names.length : Int) - 1) (by show IntKind.wrap .i64 ((s0.len : Int) - 1) = _; rw [hsl, wi (by omega) (by omega)]) ?_)⟩
  refine xloop (fun (st : Sl × Int × Unit) w => ∃ (j : Nat) (s : Sl), st = (s, (D.names.length : Int) - 1 - j, ()) ∧ j ≤ D.names.length ∧
      Sat W w (own 1 s (((D.names.reverse.take j).filterMap fun x => segNum x.data.toList).map fun n => Value.int .i64 (n : Nat)) :: own 1 s0 (D.names.map Value.string) :: DiskP d D :: L)) (fun st => (st.2.1 + 1).toNat)
    ⟨0, ⟨none, 0, 0⟩, by simp, Nat.zero_le _, h.own_nil⟩ ?_
  clear h
  rintro next _ w ⟨j, s, rfl, hj, h⟩ hnext
  by_cases hlt : j < D.names.length
  · have hk : D.names.length - 1 - j < D.names.length := by omega
    obtain ⟨x, hx⟩ : ∃ x, D.names[D.names.length - 1 - j]'hk = x := ⟨_, rfl⟩
    have hrev : D.names.reverse[j]? = some x := by
      rw [List.getElem?_reverse hlt, List.getElem?_eq_getElem hk, hx]
    have htake : (D.names.reverse.take (j + 1)).filterMap (fun x => segNum x.data.toList) = (D.names.reverse.take j).filterMap (fun x => segNum x.data.toList) ++ (match segNum x.data.toList with | some n => [n] | none => []) := by
      rw [List.take_add_one, hrev, List.filterMap_append]
      congr 1
      cases hn : segNum x.data.toList <;> simp [hn]
    refine XIf.yes (decide_eq_true (show (D.names.length : Int) - 1 - (j : Int) ≥ 0 by omega)) (xjoin (fun (st : Sl × Unit) w' => ∃ s', st = (s', ()) ∧ Sat W w' (own 1 s' (((D.names.reverse.take (j + 1)).filterMap fun x => segNum x.data.toList).map fun n => Value.int .i64 (n : Nat)) :: own 1 s0 (D.names.map Value.string) :: DiskP d D :: L)) (fun J hJ => ?_) ?_)
    · refine xelem (h.bring 1) (D.names.length - 1 - j) (by show (D.names.length : Int) - 1 - (j : Int) = ((D.names.length - 1 - j : Nat) : Int); omega) (x := x) (by rw [names_get _ _ hk, hx]) (by show Int.toNat ((D.names.length : Int) - 1 - (j : Int)) * 1 = D.names.length - 1 - j; omega) fun a => ?_
      have hns := number_spec x.data.toList h
      rw [str_data] at hns
      refine xcalls hns ?_
      rintro v w2 ⟨rfl, h2⟩
      cases hn : segNum x.data.toList with
      | none =>
        rw [hn] at htake
        rw [List.append_nil] at htake
        exact ⟨(0, false, ()), rfl, XIf.no rfl (hJ _ _ ⟨s, rfl, by rw [htake]; exact h2⟩)⟩
      | some n =>
        rw [hn] at htake
        refine ⟨((n : Int), true, ()), rfl, XIf.yes rfl (xappend1 (by kernel_rfl) h2 rfl rfl ?_ fun a s' w3 h3 hl3 => hJ _ _ ⟨s', rfl, ?_⟩)⟩
        · have := h2.own_len
          rw [List.length_map] at this
          have hfl : ((D.names.reverse.take j).filterMap fun x => segNum x.data.toList).length ≤ (D.names.reverse.take j).length := List.length_filterMap_le _ _
          rw [List.length_take] at hfl
          show s.len + 1 ≤ _
          omega
        · rw [htake, List.map_append]
          exact h3
    · rintro _ w3 ⟨s', rfl, h3⟩
      exact xlet ((D.names.length : Int) - 1 - ((j + 1 : Nat) : Int)) (by show IntKind.wrap .i64 ((D.names.length : Int) - 1 - (j : Int) - 1) = _; rw [wi (by omega) (by omega)]; omega) (hnext _ _ ⟨j + 1, s', rfl, by omega, h3⟩ (by show ((D.names.length : Int) - 1 - ((j + 1 : Nat) : Int) + 1).toNat < ((D.names.length : Int) - 1 - (j : Int) + 1).toNat; omega))
  · have hje : j = D.names.length := by omega
    subst hje
    rw [List.take_of_length_le (by rw [List.length_reverse]; exact Nat.le_refl _)] at h
    refine XIf.no (decide_eq_false (show ¬ (D.names.length : Int) - 1 - (D.names.length : Int) ≥ 0 by omega)) (hK3 s w ?_)
    exact (h.bring 1).drop

theorem wipe_spec (hs : Sat W w (LogP p d b l :: DiskP d D :: L)) (hl : LGok l) (hf : Fit i D) (hi : i ≤ 2 ^ 26) :
    Ret Tryz.prog F.wal_Log_wipe [ptr p] w fun v w' => v = .int .i64 (wipeW D l).1 ∧ Sat W w' (LogP p d b l :: DiskP d (wipeW D l).2 :: L) := by
  suffices H : ∀ K : Value → World → Prop, (∀ R w', wipeW D l = R → Sat W w' (LogP p d b l :: DiskP d R.2 :: L) → K (.int .i64 R.1) w') → S.wal_Log_wipe (some ⟨p, 0, none⟩) K w from
    S.wal_Log_wipe_ok _ _ _ (H _ fun R w' e h => by subst e; exact ⟨rfl, h⟩)
  intro K hK
  have hl1 := hl.n
  have hl2 := hl.end_
  have hlen := hf.len
  unfold wipeW at hK
  have hd := hs.drew
  refine xnil (xload hd 0 rfl rfl (xnil (xload hd 2 rfl rfl (xcall (name_spec l.n hl.n hd) ?_))))
  rintro v w1 ⟨rfl, h1⟩
  refine ⟨nm l.n, rfl, h1.cell rfl, xsize (h1.bring 1) hf (by omega) fun w2 _ h2 => ?_⟩
  have h2 := h2.swap
  dsimp only at hK
  by_cases hz : (D.size (nm l.n)).2 ≠ 0
  · rw [if_pos hz] at hK
    exact XIf.yes (by simpa using hz) (hK ((D.size (nm l.n)).2, D) w2 rfl h2)
  rw [if_neg hz] at hK
  have hd2 := h2.drew
  have hsb := size_bound D hf.small (nm l.n)
  refine XIf.no (by simpa using hz) (xnil (xload hd2 0 rfl rfl (xnil (xload hd2 2 rfl rfl (xnil (xload hd2 3 rfl rfl (xnil (xload hd2 3 rfl rfl (xlet ((D.size (nm l.n)).1 - (l.end_ : Int)) (wi (by omega) (by omega)) (xcall (name_spec l.n hl.n hd2) ?_))))))))))
  rintro v w3 ⟨rfl, h3⟩
  refine ⟨nm l.n, rfl, h3.cell rfl, h3.cell rfl, h3.cell rfl, xcalls (Read_spec (name := nm l.n) (at_ := (l.end_ : Nat)) (n := (D.size (nm l.n)).1 - (l.end_ : Int)) (h3.bring 1) hf.rising hf.small (by omega)) ?_⟩
  rintro v w4 ⟨rfl, hq4⟩
  have h4 := h3.quiet hq4
  obtain ⟨r, hr⟩ : ∃ r, D.read (nm l.n) (l.end_ : Nat) ((D.size (nm l.n)).1 - (l.end_ : Int)) = r := ⟨_, rfl⟩
  have hrl : r.1.length ≤ 2097152 := hr ▸ read_len D hf.small _ _ _
  rw [hr] at hK ⊢
  refine ⟨(str r.1, r.2, ()), rfl, h4.cell rfl, xjoin (fun (st : Bool × Unit) w' => st = (decide (r.2 ≠ 0 ∨ allZ r.1 = true), ()) ∧ Sat W w' (LogP p d b l :: DiskP d D :: L)) (fun J hJ => ?_) ?_⟩
  · by_cases hr2 : r.2 ≠ 0
    · exact XIf.yes (by simpa using hr2) (hJ _ _ ⟨by simp [hr2], h4⟩)
    · refine XIf.no (by simpa using hr2) (xcall (Trim_spec r.1 (by omega)) ?_)
      rintro v w5 ⟨m, rfl, hm, hq5⟩
      refine ⟨str m, rfl, hJ _ _ ⟨?_, h4.quiet hq5⟩⟩
      rw [str_empty]
      have : (m = []) ↔ (r.2 ≠ 0 ∨ allZ r.1 = true) := by
        rw [hm, ← allZ_iff]
        constructor
        · exact .inr
        · rintro (h | h)
          · exact absurd h hr2
          · exact h
      exact Prod.ext (decide_eq_decide.2 this) rfl
  clear h4
  rintro _ w5 ⟨rfl, h5⟩
  by_cases hstop : r.2 ≠ 0 ∨ allZ r.1 = true
  · rw [if_pos hstop] at hK
    exact XIf.yes (decide_eq_true hstop) (hK (r.2, D) w5 rfl h5)
  rw [if_neg hstop] at hK
  have hd5 := h5.drew
  have e1 : (str r.1).size = r.1.length := str_size _
  refine XIf.no (decide_eq_false hstop) (xnil (xload hd5 0 rfl rfl (xnil (xload hd5 2 rfl rfl (xnil (xload hd5 3 rfl rfl (xcall (name_spec l.n hl.n hd5) ?_)))))))
  rintro v w6 ⟨rfl, h6⟩
  refine ⟨nm l.n, rfl, h6.cell rfl, h6.cell rfl, xcall (Repeat_spec r.1.length (by omega) (by exact h6)) ?_⟩
  rintro v w7 ⟨rfl, h7⟩
  have hsz : (str (List.replicate r.1.length (0 : UInt8))).size = r.1.length := by rw [str_size, List.length_replicate]
  have hwaits := hf.waits
  have hcount := hf.count
  refine ⟨_, rfl, h7.cell rfl, h7.cell rfl, xcall (Write_spec (name := nm l.n) (at_ := (l.end_ : Nat)) (t := str (List.replicate r.1.length 0)) (h7.bring 1) hf.rising hf.small (by omega) hf.most hf.fuse.2 hf.fuse.1 hcount.1 (by rw [hsz]; omega) (by rw [hsz]; omega)) ?_⟩
  rintro v w8 ⟨rfl, h8⟩
  rw [str_toList] at h8 ⊢
  have hf2 := hf.writeN 3000 (nm l.n) (l.end_ : Nat) (List.replicate r.1.length 0) (by rw [List.length_replicate]; omega)
  obtain ⟨R, hR⟩ : ∃ R, D.write (nm l.n) (l.end_ : Nat) (List.replicate r.1.length 0) = R := ⟨_, rfl⟩
  rw [hR] at hK h8 hf2 ⊢
  refine ⟨R.1, rfl, ?_⟩
  by_cases hR0 : R.1 ≠ 0
  · rw [if_pos hR0] at hK
    exact XIf.yes (by simpa using hR0) (hK R w8 rfl h8.swap)
  rw [if_neg hR0] at hK
  have hlen2 : R.2.files.length ≤ 2 ^ 30 := Nat.le_trans hf2.len (by omega)
  have hwaits2 : R.2.wait.length ≤ 2 ^ 38 := Nat.le_trans hf2.waits (by omega)
  refine XIf.no (by simpa using hR0) (xnil (xload h8.swap 0 rfl rfl (xcall (Sync_spec h8 hlen2 hf2.pieces hwaits2) ?_)))
  rintro v w9 ⟨rfl, h9⟩
  exact ⟨_, rfl, hK R.2.sync w9 rfl h9.swap⟩

end
end Go.X

/-! The log's calls. -/
namespace Go.X
open Go.Proofs

theorem putB_bound (sign : UInt8) : ∀ (xs : List (List UInt8)) (S : PB), S.mark.length ≤ 2 ^ 20 → (putB sign xs S).bytes.length ≤ S.bytes.length + 1048869 * xs.length ∧ (putB sign xs S).mark.length ≤ 2 ^ 20 ∧ (putB sign xs S).book.length ≤ S.book.length + xs.length
  | [], S, h => ⟨by simp [putB], h, by simp [putB]⟩
  | s :: l, S, h => by
    unfold putB
    split
    · exact ⟨by dsimp only; omega, h, by dsimp only; omega⟩
    · rename_i hs
      obtain ⟨h1, h2, h3⟩ := putB_bound sign l { S with bytes := S.bytes ++ (four (sign :: s).length ++ S.book.mark (S.mark ++ sign :: s) ++ sign :: s), mark := S.book.mark (S.mark ++ sign :: s), book := S.book.add (S.mark ++ sign :: s) } (by rw [mark_length]; decide)
      have hr := recLen (S.book.mark (S.mark ++ sign :: s)) (sign :: s) (mark_length _ _)
      have ha := add_length S.book (S.mark ++ sign :: s)
      dsimp only at h1 h3
      rw [List.length_append, hr] at h1
      have hsl : (sign :: s).length = s.length + 1 := rfl
      have hcl : (s :: l).length = l.length + 1 := rfl
      exact ⟨by omega, h2, by omega⟩

theorem putW_fit {i : Nat} {D : DD} (hf : Fit i D) (M : Bk) (l : LG) (hl : LGok l) (he : l.end_ ≤ 2 ^ 39) (sign : UInt8) (xs : List (List UInt8)) (hx : xs.length ≤ 2 ^ 14) :
    Fit (i + 1500 * xs.length) (putW D M l sign xs).disk ∧ LGok (putW D M l sign xs).log ∧ (putW D M l sign xs).log.n = l.n ∧ (putW D M l sign xs).log.end_ ≤ l.end_ + 1048869 * xs.length ∧ (putW D M l sign xs).book.length ≤ M.length + xs.length := by
  obtain ⟨h1, h2, h3⟩ := putB_bound sign xs ⟨0, [], l.mark, M⟩ hl.mark
  obtain ⟨Z, hZ⟩ : ∃ Z, putB sign xs ⟨0, [], l.mark, M⟩ = Z := ⟨_, rfl⟩
  rw [hZ] at h1 h2 h3
  simp only [List.length_nil, Nat.zero_add] at h1
  unfold putW
  rw [hZ]
  dsimp only
  split
  · exact ⟨hf.monoN _, hl, rfl, by show l.end_ ≤ _; omega, h3⟩
  · have hw := hf.writeN (1500 * xs.length) (nm l.n) (l.end_ : Nat) Z.bytes (by omega)
    split
    · exact ⟨hw, hl, rfl, by show l.end_ ≤ _; omega, h3⟩
    · exact ⟨hw, ⟨hl.n, by show l.end_ + Z.bytes.length ≤ _; omega, h2⟩, rfl, by show l.end_ + Z.bytes.length ≤ _; omega, h3⟩

section
variable {W w : World} {L : List SP} {p d b i : Nat} {D : DD} {M : Bk} {l : LG} {A : SP}

/-- What a begun segment leaves in memory. -/
def BegunP (d b : Nat) (A : SP) (L : List SP) (R : PR4) (v : Value) (W w : World) : Prop :=
  (R.err ≠ 0 → v = .tuple ⟨[.pointer none, .int .i64 R.err]⟩ ∧ Sat W w (DiskP d R.disk :: BookP b R.book :: A :: L)) ∧
  (R.err = 0 → ∃ p, v = .tuple ⟨[ptr p, .int .i64 0]⟩ ∧ Sat W w (LogP p d b R.log :: DiskP d R.disk :: BookP b R.book :: A :: L))

theorem firstM_len (n : Nat) : (firstM n).length = 20 := by unfold firstM; rw [List.length_append, segName_length]; rfl

theorem begin_spec {s : Sl} {xs : List (List UInt8)} (n : Nat) (hn : n ≤ 2 ^ 40) (hR : ROStr W A s xs) (hs : Sat W w (DiskP d D :: BookP b M :: A :: L)) (hf : Fit i D) (hi : i ≤ 2 ^ 25) (hM : M.length ≤ 2 ^ 38) (hx : xs.length ≤ 2 ^ 13) :
    Ret Tryz.prog F.wal_begin [ptr d, ptr b, .int .i64 n, .slice s.a s.len s.cap] w fun v w' => BegunP d b A L (beginW D M n xs) v W w' := by
  suffices H : ∀ K : Value → World → Prop, (∀ R v w', beginW D M n xs = R → BegunP d b A L R v W w' → K v w') → S.wal_begin (some ⟨d, 0, none⟩) (some ⟨b, 0, none⟩) n s K w from
    S.wal_begin_ok _ _ _ s _ _ (H _ fun R v w' e h => by subst e; exact h)
  intro K hK
  have hlen := hf.len
  have hmade := hf.made
  unfold beginW at hK
  dsimp only at hK
  refine xcall (name_spec n hn hs) ?_
  rintro v w1 ⟨rfl, h1⟩
  refine ⟨nm n, rfl, xcall (Create_spec (name := nm n) h1 hf.rising (by omega) (by omega)) ?_⟩
  rintro v w2 ⟨rfl, h2⟩
  have hf1 := hf.create (nm n)
  obtain ⟨C, hC⟩ : ∃ C, D.create (nm n) = C := ⟨_, rfl⟩
  rw [hC] at h2 hf1 hK ⊢
  refine ⟨C.1, rfl, ?_⟩
  by_cases hc : C.1 ≠ 0
  · rw [if_pos hc] at hK
    exact XIf.yes (by simpa using hc) (hK _ _ _ rfl ⟨fun _ => ⟨rfl, h2⟩, fun h => absurd h hc⟩)
  rw [if_neg hc] at hK
  refine XIf.no (by simpa using hc) (xcall (first_spec n hn h2) ?_)
  rintro v w3 ⟨rfl, h3⟩
  refine ⟨str (firstM n), rfl, xnew h3 fun p w4 h4 => ?_⟩
  have h4 : Sat W w4 (LogP p d b ⟨n, 0, firstM n⟩ :: DiskP d C.2 :: BookP b M :: A :: L) := h4
  have hl0 : LGok ⟨n, 0, firstM n⟩ := ⟨hn, Nat.zero_le _, by show (firstM n).length ≤ _; rw [firstM_len]; decide⟩
  refine xcall (put_spec 83 hR h4 hl0 hf1 (by omega) (by omega) (by omega)) ?_
  rintro v w5 ⟨rfl, h5⟩
  obtain ⟨hfA, hlA, hnA, heA, hbA⟩ := putW_fit hf1 M ⟨n, 0, firstM n⟩ hl0 (Nat.zero_le _) 83 xs (by omega)
  obtain ⟨RA, hRA⟩ : ∃ RA, putW C.2 M ⟨n, 0, firstM n⟩ 83 xs = RA := ⟨_, rfl⟩
  rw [hRA] at h5 hfA hlA hnA heA hbA hK ⊢
  obtain ⟨RB, hRB⟩ : ∃ RB, (if RA.err = 0 then putW RA.disk RA.book RA.log 69 [[]] else RA) = RB := ⟨_, rfl⟩
  rw [hRB] at hK
  have hBfit : Fit (i + 1 + 1500 * xs.length + 1500) RB.disk ∧ LGok RB.log := by
    rw [← hRB]
    split
    · obtain ⟨g1, g2, _⟩ := putW_fit hfA RA.book RA.log hlA (by dsimp only at heA; omega) 69 [[]] (by decide)
      exact ⟨g1, g2⟩
    · exact ⟨hfA.monoN 1500, hlA⟩
  refine ⟨RA.err, rfl, xjoin (fun (st : Int × Unit) w' => st = (RB.err, ()) ∧ Sat W w' (LogP p d b RB.log :: DiskP d RB.disk :: BookP b RB.book :: A :: L)) (fun J hJ => ?_) ?_⟩
  · by_cases hA0 : RA.err = 0
    · rw [if_pos hA0] at hRB
      refine XIf.yes (by simpa using hA0) (xnew h5 fun c w6 h6 => ?_)
      have h6 : Sat W w6 (pts c [.string (str [])] :: LogP p d b RA.log :: DiskP d RA.disk :: BookP b RA.book :: A :: L) := h6
      have hbM : RA.book.length ≤ 2 ^ 39 := by omega
      have hiA : i + 1 + 1500 * xs.length ≤ 2 ^ 26 := by omega
      refine xcall (put_spec (xs := [[]]) (s := ⟨some ⟨c, 0, none⟩, 1, 1⟩) 69 (ROStr.one (b := c) []) (h6.arr [1, 2, 3, 0]) hlA hfA hiA hbM (by decide)) ?_
      rintro v w7 ⟨rfl, h7⟩
      rw [hRB] at h7 ⊢
      exact ⟨RB.err, rfl, hJ _ _ ⟨rfl, (h7.bring 3).drop⟩⟩
    · rw [if_neg hA0] at hRB
      subst hRB
      exact XIf.no (by simpa using hA0) (hJ _ _ ⟨rfl, h5⟩)
  clear h5 h4 h3 h2 h1
  rintro _ w6 ⟨rfl, h6⟩
  obtain ⟨SS, hSS⟩ : ∃ SS, (if RB.err = 0 then RB.disk.sync else (RB.err, RB.disk)) = SS := ⟨_, rfl⟩
  rw [hSS] at hK
  have hlenB : RB.disk.files.length ≤ 2 ^ 30 := Nat.le_trans hBfit.1.len (by omega)
  have hwaitB : RB.disk.wait.length ≤ 2 ^ 38 := Nat.le_trans hBfit.1.waits (by omega)
  have hSfit : Fit (i + 1 + 1500 * xs.length + 1500 + 1) SS.2 := by
    rw [← hSS]
    split
    · exact hBfit.1.sync
    · exact hBfit.1.mono
  refine xjoin (fun (st : Int × Unit) w' => st = (SS.1, ()) ∧ Sat W w' (LogP p d b RB.log :: DiskP d SS.2 :: BookP b RB.book :: A :: L)) (fun J hJ => ?_) ?_
  · by_cases hB0 : RB.err = 0
    · rw [if_pos hB0] at hSS
      refine XIf.yes (by simpa using hB0) (xcall (Sync_spec (h6.bring 1) hlenB hBfit.1.pieces hwaitB) ?_)
      rintro v w7 ⟨rfl, h7⟩
      rw [hSS] at h7 ⊢
      exact ⟨SS.1, rfl, hJ _ _ ⟨rfl, h7.swap⟩⟩
    · rw [if_neg hB0] at hSS
      subst hSS
      exact XIf.no (by simpa using hB0) (hJ _ _ ⟨rfl, h6⟩)
  clear h6
  rintro _ w7 ⟨rfl, h7⟩
  refine xjoin (fun (_ : Unit) w' => Sat W w' (LogP p d b RB.log :: DiskP d (if SS.1 = 7 ∨ SS.1 = 4 ∨ SS.1 = 2 then (SS.2.remove (nm n)).2 else SS.2) :: BookP b RB.book :: A :: L)) (fun J hJ => ?_) ?_
  · refine xjoin (fun (st : Bool × Unit) w' => st = (decide (SS.1 = 7 ∨ SS.1 = 4 ∨ SS.1 = 2), ()) ∧ w' = w7) (fun J2 hJ2 => ?_) ?_
    · by_cases g7 : SS.1 = 7
      · exact XIf.yes (by simpa using g7) (hJ2 _ _ ⟨by simp [g7], rfl⟩)
      refine XIf.no (by simpa using g7) ?_
      by_cases g4 : SS.1 = 4
      · exact XIf.yes (by simpa using g4) (hJ2 _ _ ⟨by simp [g4], rfl⟩)
      refine XIf.no (by simpa using g4) (hJ2 _ _ ⟨?_, rfl⟩)
      have : (SS.1 == 2) = decide (SS.1 = 7 ∨ SS.1 = 4 ∨ SS.1 = 2) := by
        by_cases g2 : SS.1 = 2
        · simp [g2]
        · rw [beq_false_of_ne g2, decide_eq_false]
          rintro (h | h | h)
          · exact g7 h
          · exact g4 h
          · exact g2 h
      exact Prod.ext this rfl
    rintro _ w' ⟨rfl, rfl⟩
    by_cases hrm : SS.1 = 7 ∨ SS.1 = 4 ∨ SS.1 = 2
    · rw [if_pos hrm] at hJ
      refine XIf.yes (decide_eq_true hrm) (xcall (name_spec n hn h7) ?_)
      rintro v w8 ⟨rfl, h8⟩
      have hlenS : SS.2.files.length ≤ 2 ^ 30 := Nat.le_trans hSfit.len (by omega)
      have hwaitS : SS.2.wait.length ≤ 2 ^ 38 := Nat.le_trans hSfit.waits (by omega)
      refine ⟨nm n, rfl, xcall (Remove_spec (name := nm n) (h8.bring 1) hSfit.rising hlenS hwaitS) ?_⟩
      rintro v w9 ⟨rfl, h9⟩
      exact ⟨_, rfl, hJ () w9 h9.swap⟩
    · rw [if_neg hrm] at hJ
      exact XIf.no (decide_eq_false hrm) (hJ () _ h7)
  rintro _ w8 h8
  by_cases hS0 : SS.1 ≠ 0
  · refine XIf.yes (by simpa using hS0) (hK _ _ _ rfl ⟨fun _ => ⟨rfl, h8.drop⟩, fun h => absurd h hS0⟩)
  · refine XIf.no (by simpa using hS0) (hK _ _ _ rfl ⟨fun h => absurd h hS0, fun _ => ⟨p, rfl, h8⟩⟩)

theorem beginW_fit {i : Nat} {D : DD} (hf : Fit i D) (M : Bk) (n : Nat) (hn : n ≤ 2 ^ 40) (xs : List (List UInt8)) (hx : xs.length ≤ 2 ^ 13) :
    Fit (i + 1500 * xs.length + 1510) (beginW D M n xs).disk ∧ LGok (beginW D M n xs).log ∧ (beginW D M n xs).book.length ≤ M.length + xs.length + 1 := by
  have hf1 := hf.create (nm n)
  have hl0 : LGok ⟨n, 0, firstM n⟩ := ⟨hn, Nat.zero_le _, by show (firstM n).length ≤ _; rw [firstM_len]; decide⟩
  unfold beginW
  dsimp only
  split
  · exact ⟨(hf1.monoN (1500 * xs.length + 1509)).cast (by omega), hl0, by show M.length ≤ _; omega⟩
  obtain ⟨hfA, hlA, hnA, heA, hbA⟩ := putW_fit hf1 M ⟨n, 0, firstM n⟩ hl0 (Nat.zero_le _) 83 xs (by omega)
  obtain ⟨RA, hRA⟩ : ∃ RA, putW (D.create (nm n)).2 M ⟨n, 0, firstM n⟩ 83 xs = RA := ⟨_, rfl⟩
  rw [hRA] at hfA hlA hnA heA hbA ⊢
  obtain ⟨RB, hRB⟩ : ∃ RB, (if RA.err = 0 then putW RA.disk RA.book RA.log 69 [[]] else RA) = RB := ⟨_, rfl⟩
  have hBfit : Fit (i + 1 + 1500 * xs.length + 1500) RB.disk ∧ LGok RB.log ∧ RB.book.length ≤ M.length + xs.length + 1 := by
    rw [← hRB]
    split
    · obtain ⟨g1, g2, _, _, g5⟩ := putW_fit hfA RA.book RA.log hlA (by dsimp only at heA; omega) 69 [[]] (by decide)
      exact ⟨g1, g2, by simp only [List.length_singleton] at g5; omega⟩
    · exact ⟨hfA.monoN 1500, hlA, by omega⟩
  rw [hRB]
  obtain ⟨SS, hSS⟩ : ∃ SS, (if RB.err = 0 then RB.disk.sync else (RB.err, RB.disk)) = SS := ⟨_, rfl⟩
  have hSfit : Fit (i + 1 + 1500 * xs.length + 1500 + 1) SS.2 := by
    rw [← hSS]
    split
    · exact hBfit.1.sync
    · exact hBfit.1.mono
  rw [hSS]
  refine ⟨?_, hBfit.2.1, hBfit.2.2⟩
  dsimp only
  split
  · exact ((hSfit.remove (nm n)).monoN 7).cast (by omega)
  · exact (hSfit.monoN 8).cast (by omega)

end
end Go.X

/-! The log: Format, Open, Append, Sync, Turn, Size, Segment. -/
namespace Go.X
open Go.Proofs

theorem dropAll_fit {i : Nat} : ∀ (ns : List Nat) {D : DD}, Fit i D → Fit i (dropAll D ns)
  | [], _, h => h
  | n :: ns, _, h => dropAll_fit ns (h.remove0 (nm n))

theorem dropBut_fit {i : Nat} (n : Nat) : ∀ (ns : List Nat) {D : DD}, Fit i D → Fit i (dropBut D ns n)
  | [], _, h => h
  | k :: ns, D, h => by
    unfold dropBut
    rw [List.foldl_cons]
    split
    · exact dropBut_fit n ns (h.remove0 (nm k))
    · exact dropBut_fit n ns h

theorem wipeW_fit {i : Nat} {D : DD} (h : Fit i D) (l : LG) : Fit (i + 3000) (wipeW D l).2 := by
  unfold wipeW
  dsimp only
  split
  · exact h.monoN 3000
  split
  · exact h.monoN 3000
  · have hrl := read_len D h.small (nm l.n) (l.end_ : Nat) ((D.size (nm l.n)).1 - (l.end_ : Int))
    have hw := h.writeN 3000 (nm l.n) (l.end_ : Nat) (List.replicate (D.read (nm l.n) (l.end_ : Nat) ((D.size (nm l.n)).1 - (l.end_ : Int))).1.length 0) (by rw [List.length_replicate]; omega)
    split
    · exact hw
    · exact hw.sync0

theorem openL_fit {i : Nat} {D : DD} (h : Fit i D) (M : Bk) (all : List Nat) : ∀ ns, Fit (i + 3000) (openL D M all ns).disk
  | [] => h.monoN 3000
  | n :: ns => by
    unfold openL
    split
    · split
      · exact wipeW_fit (dropBut_fit n all h) _
      · exact openL_fit h M all ns
    · exact openL_fit h M all ns

theorem segsW_lt {D : DD} {n : Nat} (h : n ∈ segsW D) : n < 100000000 := by
  unfold segsW at h
  obtain ⟨x, _, hx⟩ := List.mem_filterMap.1 h
  exact segNum_lt hx

theorem segsW_len (D : DD) : (segsW D).length ≤ D.files.length := by
  unfold segsW
  refine Nat.le_trans (List.length_filterMap_le _ _) ?_
  unfold DD.names
  rw [List.length_reverse, List.length_map]
  exact Nat.le_refl _

theorem loadL_ok {M : Bk} {all : List UInt8} : ∀ (k : Nat) (S : LD), S.end_ ≤ all.length → S.mark.length ≤ 2 ^ 20 → (loadL M all k S).end_ ≤ all.length ∧ (loadL M all k S).mark.length ≤ 2 ^ 20
  | 0, S, h1, h2 => ⟨h1, h2⟩
  | k + 1, S, h1, h2 => by
    unfold loadL
    split
    · exact ⟨h1, h2⟩
    · rename_i s m hn
      obtain ⟨g1, g2, g3, g4⟩ := nextB_some hn
      split
      · exact ⟨h1, h2⟩
      · rename_i S' hst
        have : S'.end_ = S.end_ + 36 + s.length ∧ S'.mark = m := by
          unfold loadStep at hst
          split at hst
          · cases hst; exact ⟨rfl, rfl⟩
          split at hst
          · cases hst; exact ⟨rfl, rfl⟩
          · cases hst
        exact loadL_ok k S' (by omega) (by rw [this.2, g4]; decide)

theorem loadW_ok {i : Nat} {D : DD} (hf : Fit i D) {M : Bk} {n : Nat} {S : LD} (h : loadW D M n = some S) (hn : n ≤ 2 ^ 40) : LGok (S.log n) := by
  unfold loadW at h
  split at h
  · cases h
  split at h
  · cases h
  · cases h
    have hal := read_len D hf.small (nm n) 0 (D.size (nm n)).1
    have := loadL_ok (M := M) (all := (D.read (nm n) 0 (D.size (nm n)).1).1) ((D.read (nm n) 0 (D.size (nm n)).1).1.length + 1) ⟨0, firstM n, false, []⟩ (Nat.zero_le _) (by show (firstM n).length ≤ _; rw [firstM_len]; decide)
    exact ⟨hn, Nat.le_trans this.1 (by omega), this.2⟩

section
variable {W w : World} {L : List SP} {p d b i : Nat} {D : DD} {M : Bk} {l : LG} {A : SP}

theorem ints_get (l : List Nat) (k : Nat) (h : k < l.length) : readL (.int .i64) (l.map fun n => Value.int .i64 (n : Nat)) k = some (l[k] : Int) := by
  simp [readL, List.getElem?_map, List.getElem?_eq_getElem h, Leaf.un]

theorem Format_spec (hs : Sat W w (DiskP d D :: BookP b M :: L)) (hf : Fit i D) (hi : i ≤ 2 ^ 25) (hM : M.length ≤ 2 ^ 38) :
    Ret Tryz.prog F.wal_Format [ptr d, ptr b] w fun v w' => BegunP d b emp L (formatW D M) v W w' := by
  suffices H : ∀ K : Value → World → Prop, (∀ R v w', formatW D M = R → BegunP d b emp L R v W w' → K v w') → S.wal_Format (some ⟨d, 0, none⟩) (some ⟨b, 0, none⟩) K w from
    S.wal_Format_ok _ _ _ _ (H _ fun R v w' e h => by subst e; exact h)
  intro K hK
  have hlen := hf.len
  refine xcall_eq (none_ok (hs.bring 1)) false rfl (XIf.no rfl (xcalls (segments_spec hs hf (by omega)) ?_))
  rintro v w1 ⟨h1, h2⟩
  unfold formatW at hK
  by_cases ho : D.off = true
  · rw [if_pos ho] at hK
    obtain ⟨rfl, h⟩ := h1 ho
    refine ⟨(⟨none, 0, 0⟩, (14 : Int), ()), rfl, XIf.yes rfl (hK _ _ _ rfl ⟨fun _ => ⟨rfl, h.add_emp.arr [1, 2, 0]⟩, fun h => (by cases h)⟩)⟩
  have ho' : D.off = false := by simpa using ho
  rw [if_neg ho] at hK
  obtain ⟨s, rfl, h⟩ := h2 ho'
  obtain ⟨ns, hns⟩ : ∃ ns, segsW D = ns := ⟨_, rfl⟩
  have hlt : ∀ n ∈ ns, n < 100000000 := fun n hn => segsW_lt (D := D) (by rw [hns]; exact hn)
  have hnl : ns.length ≤ i := by rw [← hns]; exact Nat.le_trans (segsW_len D) hlen
  rw [hns] at h hK
  have hsl : s.len = ns.length := by have := h.own_len; simpa using this.symm
  refine ⟨(s, (0 : Int), ()), rfl, XIf.no rfl ?_⟩
  refine xloop (fun (st : Int × Unit) w => ∃ k : Nat, st = ((k : Int), ()) ∧ k ≤ ns.length ∧ Sat W w (own 1 s (ns.map fun n => Value.int .i64 (n : Nat)) :: DiskP d (dropAll D (ns.take k)) :: BookP b M :: L)) (fun st => ((s.len : Int) - st.1).toNat)
    ⟨0, rfl, Nat.zero_le _, h⟩ ?_
  clear h
  rintro next _ w ⟨k, rfl, hk, h⟩ hnext
  by_cases hkl : k < ns.length
  · have hD := dropAll_fit (ns.take k) hf
    have htk : dropAll D (ns.take (k + 1)) = ((dropAll D (ns.take k)).remove (nm ns[k])).2 := by
      unfold dropAll
      rw [List.take_add_one, List.getElem?_eq_getElem hkl, List.foldl_append]
      rfl
    refine XIf.yes (decide_eq_true (show (k : Int) < (s.len : Int) by omega)) (xelem h k rfl (ints_get ns k hkl) (by show Int.toNat _ * 1 = _; simp) fun a => xcall (name_spec ns[k] (by have := hlt _ (List.getElem_mem hkl); omega) h) ?_)
    rintro v w2 ⟨rfl, h2⟩
    have hlen2 : (dropAll D (ns.take k)).files.length ≤ 2 ^ 30 := Nat.le_trans hD.len (by omega)
    have hwait2 : (dropAll D (ns.take k)).wait.length ≤ 2 ^ 38 := Nat.le_trans hD.waits (by omega)
    refine ⟨_, rfl, xcall (Remove_spec (name := nm ns[k]) (h2.bring 1) hD.rising hlen2 hwait2) ?_⟩
    rintro v w3 ⟨rfl, h3⟩
    refine ⟨_, rfl, xlet ((k + 1 : Nat) : Int) (by dsimp only; rw [wi (by omega) (by omega)]; omega) (hnext _ _ ⟨k + 1, rfl, hkl, ?_⟩ (by dsimp only; omega))⟩
    rw [htk]
    exact h3.swap
  · have hke : k = ns.length := by omega
    rw [hke, List.take_length] at h
    have hD := dropAll_fit ns hf
    refine XIf.no (decide_eq_false (show ¬ (k : Int) < (s.len : Int) by omega)) (xcalls (begin_spec (s := ⟨none, 0, 0⟩) (xs := []) 1 (by decide) (ROStr.nil emp) (h.drop.add_emp.arr [1, 2, 0]) hD hi hM (by decide)) ?_)
    rintro v w2 hb
    obtain ⟨R, hR⟩ : ∃ R, beginW (dropAll D ns) M 1 [] = R := ⟨_, rfl⟩
    rw [hR] at hb hK
    by_cases he : R.err = 0
    · obtain ⟨p, rfl, h3⟩ := hb.2 he
      exact ⟨(some ⟨p, 0, none⟩, (0 : Int), ()), rfl, hK _ _ _ rfl hb⟩
    · obtain ⟨rfl, h3⟩ := hb.1 he
      exact ⟨(none, R.err, ()), rfl, hK _ _ _ rfl hb⟩

/-- What Open leaves. -/
def OpenedP (d b : Nat) (M : Bk) (L : List SP) (R : OR) (v : Value) (W w : World) : Prop :=
  (R.err ≠ 0 → v = .tuple ⟨[.pointer none, .slice none 0 0, .int .i64 R.err]⟩ ∧ Sat W w (DiskP d R.disk :: BookP b M :: L)) ∧
  (R.err = 0 → ∃ (p : Nat) (s : Sl), v = .tuple ⟨[ptr p, .slice s.a s.len s.cap, .int .i64 0]⟩ ∧ Sat W w (LogP p d b R.log :: own 1 s (R.out.map fun x => Value.string (str x)) :: DiskP d R.disk :: BookP b M :: L))

theorem Open_spec (hs : Sat W w (DiskP d D :: BookP b M :: L)) (hf : Fit i D) (hi : i ≤ 2 ^ 25) :
    Ret Tryz.prog F.wal_Open [ptr d, ptr b] w fun v w' => OpenedP d b M L (openW D M) v W w' := by
  suffices H : ∀ K : Value → World → Prop, (∀ R v w', openW D M = R → OpenedP d b M L R v W w' → K v w') → S.wal_Open (some ⟨d, 0, none⟩) (some ⟨b, 0, none⟩) K w from
    S.wal_Open_ok _ _ _ _ (H _ fun R v w' e h => by subst e; exact h)
  intro K hK
  have hlen := hf.len
  refine xcall_eq (none_ok (hs.bring 1)) false rfl (XIf.no rfl (xcalls (segments_spec hs hf (by omega)) ?_))
  rintro v w1 ⟨h1, h2⟩
  unfold openW at hK
  by_cases ho : D.off = true
  · rw [if_pos ho] at hK
    obtain ⟨rfl, h⟩ := h1 ho
    refine ⟨(⟨none, 0, 0⟩, (14 : Int), ()), rfl, XIf.yes rfl (hK _ _ _ rfl ⟨fun _ => ⟨rfl, h⟩, fun h => (by cases h)⟩)⟩
  have ho' : D.off = false := by simpa using ho
  rw [if_neg ho] at hK
  obtain ⟨s, rfl, h⟩ := h2 ho'
  obtain ⟨ns, hns⟩ : ∃ ns, segsW D = ns := ⟨_, rfl⟩
  have hlt : ∀ n ∈ ns, n < 100000000 := fun n hn => segsW_lt (D := D) (by rw [hns]; exact hn)
  have hnl : ns.length ≤ i := by rw [← hns]; exact Nat.le_trans (segsW_len D) hlen
  rw [hns] at h hK
  have hsl : s.len = ns.length := by have := h.own_len; simpa using this.symm
  obtain ⟨Z, hZ⟩ : ∃ Z, openL D M ns ns = Z := ⟨_, rfl⟩
  rw [hZ] at hK
  refine ⟨(s, (0 : Int), ()), rfl, XIf.no rfl ?_⟩
  refine xloop (fun (st : Option Addr × Sl × Int × Int × Unit) w => ∃ k : Nat, st = (none, ⟨none, 0, 0⟩, 0, (k : Int), ()) ∧ k ≤ ns.length ∧ openL D M ns (ns.drop k) = Z ∧ Sat W w (own 1 s (ns.map fun n => Value.int .i64 (n : Nat)) :: DiskP d D :: BookP b M :: L)) (fun st => ((s.len : Int) - st.2.2.2.1).toNat)
    ⟨0, rfl, Nat.zero_le _, hZ, h⟩ ?_
  clear h
  rintro next _ w ⟨k, rfl, hk, hop, h⟩ hnext
  by_cases hkl : k < ns.length
  case neg =>
    rw [List.drop_eq_nil_of_le (by omega)] at hop
    have hop : (⟨8, D, ⟨0, 0, []⟩, []⟩ : OR) = Z := hop
    subst hop
    exact XIf.no (decide_eq_false (show ¬ (k : Int) < (s.len : Int) by omega)) (hK _ _ _ rfl ⟨fun _ => ⟨rfl, h.drop⟩, fun h => (by cases h)⟩)
  rw [List.drop_eq_getElem_cons hkl] at hop
  have hnk : ns[k] < 100000000 := hlt _ (List.getElem_mem hkl)
  obtain ⟨n, hn⟩ : ∃ n, ns[k] = n := ⟨_, rfl⟩
  rw [hn] at hop hnk
  refine XIf.yes (decide_eq_true (show (k : Int) < (s.len : Int) by omega)) (xelem h k rfl (x := (n : Int)) (by rw [ints_get ns k hkl, hn]) (by show Int.toNat _ * 1 = _; simp) fun a => xcalls (load_spec n (by omega) (h.arr [1, 2, 0]) hf (by omega)) ?_)
  rintro v w2 ⟨hno, hyes⟩
  unfold openL at hop
  have again : ∀ {w2}, openL D M ns (ns.drop (k + 1)) = Z → Sat W w2 (own 1 s (ns.map fun n => Value.int .i64 (n : Nat)) :: DiskP d D :: BookP b M :: L) → next (none, ⟨none, 0, 0⟩, 0, ((k + 1 : Nat) : Int), ()) w2 := fun hop h2 =>
    hnext _ _ ⟨k + 1, rfl, hkl, hop, h2⟩ (by dsimp only; omega)
  cases hld : loadW D M n with
  | none =>
    obtain ⟨rfl, h2⟩ := hno hld
    rw [hld] at hop
    exact ⟨(none, ⟨none, 0, 0⟩, false, ()), rfl, XIf.yes rfl (xlet ((k + 1 : Nat) : Int) (by dsimp only; rw [wi (by omega) (by omega)]; omega) (again hop (h2.arr [2, 0, 1])))⟩
  | some S =>
    obtain ⟨p, so, rfl, h2⟩ := hyes S hld
    rw [hld] at hop
    dsimp only at hop
    refine ⟨(some ⟨p, 0, none⟩, so, S.sealed, ()), rfl, ?_⟩
    cases hse : S.sealed with
    | false =>
      rw [hse, if_neg (by decide)] at hop
      exact XIf.yes rfl (xlet ((k + 1 : Nat) : Int) (by dsimp only; rw [wi (by omega) (by omega)]; omega) (again hop (h2.drop.drop.arr [2, 0, 1])))
    | true =>
      rw [hse, if_pos rfl] at hop
      clear hnext again
      refine XIf.no rfl ?_
      have hlog := loadW_ok hf hld (show n ≤ 2 ^ 40 by omega)
      refine xloop (fun (st : Int × Unit) w => ∃ j : Nat, st = ((j : Int), ()) ∧ j ≤ ns.length ∧ Sat W w (LogP p d b (S.log n) :: own 1 so (S.out.map fun x => Value.string (str x)) :: DiskP d (dropBut D (ns.take j) n) :: BookP b M :: own 1 s (ns.map fun n => Value.int .i64 (n : Nat)) :: L)) (fun st => ((s.len : Int) - st.1).toNat)
        ⟨0, rfl, Nat.zero_le _, h2⟩ ?_
      clear h2 h
      rintro next _ w ⟨j, rfl, hj, h⟩ hnext
      by_cases hjl : j < ns.length
      · have hD := dropBut_fit n (ns.take j) hf
        have htk : dropBut D (ns.take (j + 1)) n = if ns[j] ≠ n then ((dropBut D (ns.take j) n).remove (nm ns[j])).2 else dropBut D (ns.take j) n := by
          unfold dropBut
          rw [List.take_add_one, List.getElem?_eq_getElem hjl, List.foldl_append]
          rfl
        refine XIf.yes (decide_eq_true (show (j : Int) < (s.len : Int) by omega)) (xjoin (fun (_ : Unit) w' => Sat W w' (LogP p d b (S.log n) :: own 1 so (S.out.map fun x => Value.string (str x)) :: DiskP d (dropBut D (ns.take (j + 1)) n) :: BookP b M :: own 1 s (ns.map fun n => Value.int .i64 (n : Nat)) :: L)) (fun J hJ => ?_) ?_)
        · refine xelem (h.bring 4) j rfl (ints_get ns j hjl) (by show Int.toNat _ * 1 = _; simp) fun a => ?_
          by_cases hjn : ns[j] ≠ n
          · rw [htk, if_pos hjn] at hJ
            refine XIf.yes (by have : (ns[j] : Int) ≠ (n : Int) := by omega
                               simpa using this) (xcall (name_spec ns[j] (by have := hlt _ (List.getElem_mem hjl); omega) h) ?_)
            rintro v w3 ⟨rfl, h3⟩
            have hlen2 : (dropBut D (ns.take j) n).files.length ≤ 2 ^ 30 := Nat.le_trans hD.len (by omega)
            have hwait2 : (dropBut D (ns.take j) n).wait.length ≤ 2 ^ 38 := Nat.le_trans hD.waits (by omega)
            refine ⟨_, rfl, xcall (Remove_spec (name := nm ns[j]) (h3.bring 2) hD.rising hlen2 hwait2) ?_⟩
            rintro v w4 ⟨rfl, h4⟩
            exact ⟨_, rfl, hJ () w4 (h4.arr [1, 2, 0])⟩
          · rw [htk, if_neg hjn] at hJ
            refine XIf.no (by have : (ns[j] : Int) = (n : Int) := by omega
                              simp [this]) (hJ () w h)
        · rintro _ w3 h3
          exact xlet ((j + 1 : Nat) : Int) (by dsimp only; rw [wi (by omega) (by omega)]; omega) (hnext _ _ ⟨j + 1, rfl, hjl, h3⟩ (by dsimp only; omega))
      · have hje : j = ns.length := by omega
        rw [hje, List.take_length] at h
        have hD := dropBut_fit n ns hf
        refine XIf.no (decide_eq_false (show ¬ (j : Int) < (s.len : Int) by omega)) (xcall (wipe_spec (h.arr [0, 2]) hlog hD (by omega)) ?_)
        rintro v w3 ⟨rfl, h3⟩
        subst hop
        refine ⟨_, rfl, ?_⟩
        by_cases he : (wipeW (dropBut D ns n) (S.log n)).1 ≠ 0
        · refine XIf.yes (by simpa using he) (hK _ _ _ rfl ⟨fun _ => ⟨rfl, ?_⟩, fun h => absurd h he⟩)
          exact (h3.arr [0, 2, 4, 1, 3]).drop.drop.drop
        · refine XIf.no (by simpa using he) (hK _ _ _ rfl ⟨fun h => absurd h he, fun _ => ⟨p, so, rfl, ?_⟩⟩)
          have h4 : Sat W w3 (own 1 s (ns.map fun n => Value.int .i64 (n : Nat)) :: LogP p d b (S.log n) :: own 1 so (S.out.map fun x => Value.string (str x)) :: DiskP d (wipeW (dropBut D ns n) (S.log n)).2 :: BookP b M :: L) := h3.arr [4, 0, 2, 1, 3]
          exact h4.drop

theorem closed_spec (hs : Sat W w (LogP p d b l :: L)) : Ret Tryz.prog F.wal_Log_closed [ptr p] w fun v w' => v = .bool false ∧ w' = w :=
  S.wal_Log_closed_ok _ _ _ (xjoin0 (XIf.no rfl (xnil (xload hs 0 rfl rfl ⟨rfl, rfl⟩))))

theorem closed_nil : Ret Tryz.prog F.wal_Log_closed [.pointer none] w fun v w' => v = .bool true ∧ w' = w :=
  S.wal_Log_closed_ok _ _ _ (xjoin0 (XIf.yes rfl ⟨rfl, rfl⟩))

theorem LogAppend_spec (x : List UInt8) (hs : Sat W w (LogP p d b l :: DiskP d D :: BookP b M :: L)) (hl : LGok l) (hf : Fit i D) (hi : i ≤ 2 ^ 26) (hM : M.length ≤ 2 ^ 39) :
    Ret Tryz.prog F.wal_Log_Append [ptr p, .string (str x)] w fun v w' => v = .int .i64 (putW D M l 82 [x]).err ∧ Sat W w' (LogP p d b (putW D M l 82 [x]).log :: DiskP d (putW D M l 82 [x]).disk :: BookP b (putW D M l 82 [x]).book :: L) := by
  refine S.wal_Log_Append_ok _ _ _ _ (xcall_eq (closed_spec hs) false rfl (XIf.no rfl (xnew hs fun c w1 h1 => ?_)))
  refine xcall (put_spec (xs := [x]) (s := ⟨some ⟨c, 0, none⟩, 1, 1⟩) 82 (ROStr.one (b := c) x) (h1.arr [1, 2, 3, 0]) hl hf hi hM (show (1 : Nat) ≤ 2 ^ 14 by decide)) ?_
  rintro v w2 ⟨rfl, h2⟩
  exact ⟨_, rfl, rfl, (h2.bring 3).drop⟩

theorem LogSync_spec (hs : Sat W w (LogP p d b l :: DiskP d D :: L)) (hf : Fit i D) (hi : i ≤ 2 ^ 28) :
    Ret Tryz.prog F.wal_Log_Sync [ptr p] w fun v w' => v = .int .i64 D.sync.1 ∧ Sat W w' (LogP p d b l :: DiskP d D.sync.2 :: L) := by
  have hlen : D.files.length ≤ 2 ^ 30 := Nat.le_trans hf.len (by omega)
  have hwait : D.wait.length ≤ 2 ^ 38 := Nat.le_trans hf.waits (by omega)
  refine S.wal_Log_Sync_ok _ _ _ (xcall_eq (closed_spec hs) false rfl (XIf.no rfl (xnil (xload hs 0 rfl rfl (xcall (Sync_spec hs.swap hlen hf.pieces hwait) ?_)))))
  rintro v w2 ⟨rfl, h2⟩
  exact ⟨_, rfl, rfl, h2.swap⟩

theorem LogSize_spec (hs : Sat W w (LogP p d b l :: L)) : Ret Tryz.prog F.wal_Log_Size [ptr p] w fun v w' => v = .int .i64 (l.end_ : Nat) ∧ w' = w :=
  S.wal_Log_Size_ok _ _ _ (xcall_eq (closed_spec hs) false rfl (XIf.no rfl (xnil (xload hs 3 rfl rfl ⟨rfl, rfl⟩))))

theorem LogSegment_spec (hs : Sat W w (LogP p d b l :: L)) : Ret Tryz.prog F.wal_Log_Segment [ptr p] w fun v w' => v = .int .i64 (l.n : Nat) ∧ w' = w :=
  S.wal_Log_Segment_ok _ _ _ (xcall_eq (closed_spec hs) false rfl (XIf.no rfl (xnil (xload hs 2 rfl rfl ⟨rfl, rfl⟩))))

theorem LogTurn_spec {s : Sl} {xs : List (List UInt8)} (hR : ROStr W A s xs) (hs : Sat W w (LogP p d b l :: DiskP d D :: BookP b M :: A :: L)) (hn : l.n < 100000000) (hf : Fit i D) (hi : i ≤ 2 ^ 25) (hM : M.length ≤ 2 ^ 38) (hx : xs.length ≤ 2 ^ 13) :
    Ret Tryz.prog F.wal_Log_Turn [ptr p, .slice s.a s.len s.cap] w fun v w' => v = .int .i64 (turnW D M l xs).err ∧ Sat W w' (LogP p d b (turnW D M l xs).log :: DiskP d (turnW D M l xs).disk :: BookP b (turnW D M l xs).book :: A :: L) := by
  suffices H : ∀ K : Value → World → Prop, (∀ R w', turnW D M l xs = R → Sat W w' (LogP p d b R.log :: DiskP d R.disk :: BookP b R.book :: A :: L) → K (.int .i64 R.err) w') → S.wal_Log_Turn (some ⟨p, 0, none⟩) s K w from
    S.wal_Log_Turn_ok _ s _ _ (H _ fun R w' e h => by subst e; exact ⟨rfl, h⟩)
  intro K hK
  unfold turnW at hK
  refine xcall_eq (closed_spec hs) false rfl (XIf.no rfl (xnil (xload hs 2 rfl rfl ?_)))
  by_cases h9 : l.n = 99999999
  · rw [if_pos h9] at hK
    refine XIf.yes (by rw [h9]; rfl) (hK _ w rfl hs)
  rw [if_neg h9] at hK
  have hd := hs.drew
  refine XIf.no (by have : (l.n : Int) ≠ 99999999 := by omega
                    simpa using this) (xnil (xload hd 0 rfl rfl (xnil (xload hd 1 rfl rfl (xnil (xload hd 2 rfl rfl (xlet ((l.n + 1 : Nat) : Int) (by rw [wi (by omega) (by omega)]; omega) ?_)))))))
  refine xcalls (begin_spec (A := A) (L := LogP p d b l :: L) (l.n + 1) (by omega) hR (hd.arr [1, 2, 3, 0]) hf hi hM hx) ?_
  rintro v w1 hb
  obtain ⟨hfb, hlb, hMb⟩ := beginW_fit hf M (l.n + 1) (by omega) xs hx
  obtain ⟨R, hRR⟩ : ∃ R, beginW D M (l.n + 1) xs = R := ⟨_, rfl⟩
  rw [hRR] at hb hK hfb hlb
  dsimp only at hK
  by_cases he : R.err ≠ 0
  · rw [if_pos he] at hK
    obtain ⟨rfl, h1⟩ := hb.1 he
    refine ⟨(none, R.err, ()), rfl, (h1.bring 3).cell rfl, XIf.yes (by simpa using he) (hK ⟨R.err, R.disk, R.book, l⟩ w1 rfl (h1.arr [3, 0, 1, 2]))⟩
  · rw [if_neg he] at hK
    obtain ⟨q, rfl, h1⟩ := hb.2 (by simpa using he)
    have hd1 := h1.drew
    refine ⟨(some ⟨q, 0, none⟩, (0 : Int), ()), rfl, (h1.bring 4).cell rfl, XIf.no rfl (xnil (xload (hd1.bring 4) 0 rfl rfl (xnil (xload (hd1.bring 4) 2 rfl rfl (xcall (name_spec l.n (by omega) hd1) ?_)))))⟩
    rintro v w2 ⟨rfl, h2⟩
    have hlen : R.disk.files.length ≤ 2 ^ 30 := Nat.le_trans hfb.len (by omega)
    have hwait : R.disk.wait.length ≤ 2 ^ 38 := Nat.le_trans hfb.waits (by omega)
    refine ⟨nm l.n, rfl, (h2.bring 4).cell rfl, xcall (Remove_spec (name := nm l.n) (h2.bring 1) hfb.rising hlen hwait) ?_⟩
    rintro v w3 ⟨rfl, h3⟩
    have h3 := h3.swap
    refine ⟨_, rfl, xnil (xloads (some ⟨d, 0, none⟩, some ⟨b, 0, none⟩, (R.log.n : Int), (R.log.end_ : Int), str R.log.mark, ()) (fun j v hv => ?_) (xnil ?_))⟩
    · rw [Addr.add_mk, Nat.zero_add]
      exact h3.cell hv
    · refine xstores [ptr d, ptr b, .int .i64 (R.log.n : Nat), .int .i64 (R.log.end_ : Nat), .string (str R.log.mark)] 0 w3 _ (h3.bring 4) (by simp) fun w4 h4 => hK _ w4 rfl ?_
      have h4 : Sat W w4 (LogP p d b R.log :: LogP q d b R.log :: DiskP d (R.disk.remove (nm l.n)).2 :: BookP b R.book :: A :: L) := h4
      exact (h4.bring 1).drop

end
end Go.X
