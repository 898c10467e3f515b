/- How much a device may have; a file's size. -/
import Derived.Test.YtmbiffmfcloepaaGreatDoorDCopy
import Derived.Test.YtmbiffmfcloepaaGreatDoorDPieces
namespace Go.X

section
variable {D : DD} {i : Nat}

/-- How much a device may have behind so many calls. -/
structure Fit (i : Nat) (D : DD) : Prop where
  rising : Rising D.files
  small : Small D.files
  len : D.files.length ≤ i
  made : 0 ≤ D.made ∧ D.made ≤ i
  pieces : PiecesOk D.wait
  waits : D.wait.length ≤ 700 * i
  count : 0 ≤ D.count ∧ D.count ≤ 700 * i
  fuse : -1 ≤ D.fuse ∧ D.fuse ≤ 9223372036854775807
  most : 0 ≤ D.most ∧ D.most ≤ 32768

theorem Fit.mono {i : Nat} {D : DD} (h : Fit i D) : Fit (i + 1) D where
  rising := h.rising
  small := h.small
  len := by have := h.len; omega
  made := by have := h.made; omega
  pieces := h.pieces
  waits := by have := h.waits; omega
  count := by have := h.count; omega
  fuse := h.fuse
  most := h.most

theorem takesAll_perm {a b : List DF} (h : a.Perm b) : takesAll a = takesAll b := by
  induction h with
  | nil => rfl
  | cons x _ ih => simp [takesAll, ih]
  | swap x y l => simp only [takesAll]; omega
  | trans _ _ ih1 ih2 => rw [ih1, ih2]

theorem nodup_names {fs : List DF} (h : Rising fs) : (fs.map (·.name)).Nodup := rise_nodup (rising_rise h)

theorem isHead_no {name : ByteArray} {fs : List DF} (hr : Rising fs) (h : isHead name (behind name fs) = false) : ∀ f ∈ fs, f.name ≠ name := by
  intro f hf e
  obtain ⟨A, B, rfl⟩ := List.append_of_mem hf
  have := (behind_mid hr).2
  rw [← e, this] at h
  simp [isHead, cmpS_refl] at h

def DD.size (D : DD) (name : ByteArray) : Int × Int :=
  if D.off then (0, 14) else
  match behind name D.files with
  | [] => (0, 8)
  | f :: _ => if cmpS f.name name ≠ 0 then (0, 8) else (f.seen.length, 0)

theorem Fit.create (h : Fit i D) (name : ByteArray) : Fit (i + 1) (D.create name).2 := by
  unfold DD.create
  split
  · exact h.mono
  split
  · exact h.mono
  split
  · exact h.mono
  · rename_i hh
    have hh : isHead name (behind name D.files) = false := by simpa using hh
    have hmem : ∀ f, f ∈ ahead name D.files ++ (⟨D.made, name, [], []⟩ : DF) :: behind name D.files → f ∈ D.files ∨ f = ⟨D.made, name, [], []⟩ := by
      intro f hf
      rcases List.mem_append.1 hf with hf | hf
      · left; rw [← ahead_behind name D.files]; exact List.mem_append_left _ hf
      · rcases List.mem_cons.1 hf with rfl | hf
        · exact .inr rfl
        · left; rw [← ahead_behind name D.files]; exact List.mem_append_right _ hf
    refine (show Fit (i + 1) { D with files := ahead name D.files ++ (⟨D.made, name, [], []⟩ : DF) :: behind name D.files, made := D.made + 1 } from ?_)
    refine ⟨rising_put (nw := ⟨D.made, name, [], []⟩) rfl h.rising hh, fun f hf => ?_, ?_, ?_, h.pieces, h.mono.waits, h.mono.count, h.fuse, h.most⟩
    · rcases hmem f hf with hf | rfl
      · exact h.small f hf
      · exact ⟨Nat.zero_le _, Nat.zero_le _⟩
    · show (ahead name D.files ++ _ :: behind name D.files).length ≤ _
      have e : (ahead name D.files).length + (behind name D.files).length = D.files.length := by rw [← List.length_append, ahead_behind]
      have := h.len
      simp only [List.length_append, List.length_cons]
      omega
    · have := h.made
      show 0 ≤ D.made + 1 ∧ D.made + 1 ≤ _
      omega

theorem Fit.remove0 (h : Fit i D) (name : ByteArray) : Fit i (D.remove name).2 := by
  unfold DD.remove
  split
  · exact h
  split
  · exact h
  · rename_i hh
    have hh : isHead name (behind name D.files) = true := by simpa using hh
    cases hb : behind name D.files with
    | nil => rw [hb] at hh; cases hh
    | cons f B =>
      have hD : D.files = ahead name D.files ++ f :: B := by rw [← hb, ahead_behind]
      have hw : D.without name = ahead name D.files ++ B := by unfold DD.without; rw [hb]; rfl
      have hr := h.rising
      rw [hD] at hr
      have hsub : ∀ g ∈ ahead name D.files ++ B, g ∈ D.files := fun g hg => by
        rw [hD]
        rcases List.mem_append.1 hg with hg | hg
        · exact List.mem_append_left _ hg
        · exact List.mem_append_right _ (List.mem_cons_of_mem _ hg)
      rw [hw]
      refine ⟨rising_drop hr, fun g hg => h.small g (hsub g hg), ?_, h.made, fun p hp => h.pieces p (List.mem_filter.1 hp).1, ?_, h.count, h.fuse, h.most⟩
      · have := h.len
        rw [hD] at this
        show (ahead name D.files ++ B).length ≤ _
        simp only [List.length_append, List.length_cons] at this ⊢
        omega
      · have := h.waits
        have e := List.length_filter_le (fun p => !(p.id == headId (f :: B))) D.wait
        show (D.wait.filter _).length ≤ _
        omega

theorem Fit.remove (h : Fit i D) (name : ByteArray) : Fit (i + 1) (D.remove name).2 := (h.remove0 name).mono

theorem Fit.rename (h : Fit i D) (fr to : ByteArray) : Fit (i + 1) (D.rename fr to).2 := by
  unfold DD.rename
  split
  · exact h.mono
  split
  · exact h.mono
  cases hb : behind fr D.files with
  | nil => exact h.mono
  | cons f B =>
    dsimp only
    split
    · exact h.mono
    split
    · exact h.mono
    · rename_i hh
      have hh : isHead to (behind to D.files) = false := by simpa using hh
      have hD : D.files = ahead fr D.files ++ f :: B := by rw [← hb, ahead_behind]
      have hw : D.without fr = ahead fr D.files ++ B := by unfold DD.without; rw [hb]; rfl
      have hr := h.rising
      rw [hD] at hr
      have hr2 := rising_drop hr
      have hsub : ∀ g ∈ ahead fr D.files ++ B, g ∈ D.files := fun g hg => by
        rw [hD]
        rcases List.mem_append.1 hg with hg | hg
        · exact List.mem_append_left _ hg
        · exact List.mem_append_right _ (List.mem_cons_of_mem _ hg)
      have hfree : isHead to (behind to (ahead fr D.files ++ B)) = false := by
        cases hx : isHead to (behind to (ahead fr D.files ++ B)) with
        | false => rfl
        | true =>
          exfalso
          cases hb2 : behind to (ahead fr D.files ++ B) with
          | nil => rw [hb2] at hx; cases hx
          | cons g r =>
            rw [hb2] at hx
            have hgn : g.name = to := cmpS_eq (by simpa [isHead] using hx)
            have hg : g ∈ ahead fr D.files ++ B := by rw [← ahead_behind to (ahead fr D.files ++ B), hb2]; simp
            exact isHead_no h.rising hh g (hsub g hg) hgn
      rw [hw]
      have hmem : ∀ g, g ∈ ahead to (ahead fr D.files ++ B) ++ renamed f to :: behind to (ahead fr D.files ++ B) → g ∈ D.files ∨ g = renamed f to := by
        intro g hg
        have hx : ∀ y, y ∈ ahead to (ahead fr D.files ++ B) ∨ y ∈ behind to (ahead fr D.files ++ B) → y ∈ D.files := fun y hy => hsub y (by rw [← ahead_behind to (ahead fr D.files ++ B)]; simpa using hy)
        rcases List.mem_append.1 hg with hg | hg
        · exact .inl (hx g (.inl hg))
        · rcases List.mem_cons.1 hg with rfl | hg
          · exact .inr rfl
          · exact .inl (hx g (.inr hg))
      refine (show Fit (i + 1) { D with files := ahead to (ahead fr D.files ++ B) ++ renamed f to :: behind to (ahead fr D.files ++ B) } from ?_)
      refine ⟨rising_put (nw := renamed f to) rfl hr2 hfree, fun g hg => ?_, ?_, h.mono.made, h.pieces, h.mono.waits, h.mono.count, h.fuse, h.most⟩
      · rcases hmem g hg with hg | rfl
        · exact h.small g hg
        · exact h.small f (by rw [hD]; simp)
      · have := h.len
        rw [hD] at this
        have e : (ahead to (ahead fr D.files ++ B)).length + (behind to (ahead fr D.files ++ B)).length = (ahead fr D.files ++ B).length := by rw [← List.length_append, ahead_behind]
        show (ahead to (ahead fr D.files ++ B) ++ renamed f to :: behind to (ahead fr D.files ++ B)).length ≤ _
        simp only [List.length_append, List.length_cons] at this e ⊢
        omega

theorem Fit.cast {j : Nat} (h : Fit i D) (e : i = j) : Fit j D := e ▸ h

theorem Fit.monoN (h : Fit i D) : ∀ k, Fit (i + k) D
  | 0 => h
  | k + 1 => (h.monoN k).mono

theorem Fit.writeN (h : Fit i D) (k : Nat) (name : ByteArray) (at_ : Int) (t : List UInt8) (ht : t.length ≤ 700 * k) : Fit (i + k) (D.write name at_ t).2 := by
  have hm := h.monoN k
  unfold DD.write
  split
  · exact hm
  cases hb : behind name D.files with
  | nil => exact hm
  | cons f B =>
    dsimp only
    split
    · exact hm
    split
    · exact hm
    split
    · exact hm
    · rename_i hout _
      have hD : D.files = ahead name D.files ++ f :: B := by rw [← hb, ahead_behind]
      have hf := h.small f (by rw [hD]; simp)
      obtain ⟨a, rfl⟩ : ∃ a : Nat, at_ = a := ⟨at_.toNat, by omega⟩
      rw [Int.toNat_natCast]
      obtain ⟨n, hn1, hn2, hn3, hn4, hn5, hn6⟩ := wr_some t.length f.id a t ⟨f.seen, D.wait, D.fuse, D.count, false⟩ h.fuse.1
      obtain ⟨Z, hZ⟩ : ∃ Z, wr t.length f.id a t ⟨f.seen, D.wait, D.fuse, D.count, false⟩ = Z := ⟨_, rfl⟩
      rw [hZ] at hn2 hn3 hn4 hn5 hn6 ⊢
      have hpl := pcs_len t.length f.id a t
      have hps : ∀ p ∈ (pcs t.length f.id a t).take n, p.at_ + p.text.length ≤ 2097152 := fun p hp => by
        have := pcs_ok _ _ _ _ p (List.mem_of_mem_take hp); omega
      have hseen : Z.seen.length ≤ 2097152 := by rw [hn2]; exact (lays_some _ f.seen 2097152 hps hf.1).2
      refine ⟨?_, fun g hg => ?_, ?_, hm.made, fun p hp => ?_, ?_, ?_, ?_, h.most⟩
      · have hr := h.rising
        rw [hD] at hr
        exact rising_mid (f := f) (g := { f with seen := Z.seen }) rfl hr
      · have hg : g ∈ ahead name D.files ++ { f with seen := Z.seen } :: B := hg
        rcases List.mem_append.1 hg with hg | hg
        · exact h.small g (by rw [hD]; exact List.mem_append_left _ hg)
        · rcases List.mem_cons.1 hg with rfl | hg
          · exact ⟨hseen, hf.2⟩
          · exact h.small g (by rw [hD]; exact List.mem_append_right _ (List.mem_cons_of_mem _ hg))
      · have := h.len
        rw [hD] at this
        show (ahead name D.files ++ { f with seen := Z.seen } :: B).length ≤ _
        simp only [List.length_append, List.length_cons] at this ⊢
        omega
      · have hp : p ∈ Z.wait := hp
        rw [hn3] at hp
        rcases List.mem_append.1 hp with hp | hp
        · exact h.pieces p hp
        · exact hps p hp
      · have := h.waits
        show Z.wait.length ≤ _
        rw [hn3, List.length_append, List.length_take]
        dsimp only
        omega
      · have := h.count
        show 0 ≤ Z.count ∧ Z.count ≤ _
        rw [hn4]
        dsimp only
        omega
      · have := h.fuse
        dsimp only at hn6
        exact ⟨hn5, by show Z.fuse ≤ _; omega⟩

theorem Fit.write (h : Fit i D) (name : ByteArray) (at_ : Int) (t : List UInt8) (ht : t.length ≤ 700) : Fit (i + 1) (D.write name at_ t).2 := h.writeN 1 name at_ t (by omega)

theorem write_most (D : DD) (name : ByteArray) (at_ : Int) (t : List UInt8) : (D.write name at_ t).2.most = D.most := by
  unfold DD.write
  split
  · rfl
  split
  · rfl
  split
  · rfl
  split
  · rfl
  split
  · rfl
  · rfl

theorem append_most (D : DD) (name : ByteArray) (t : List UInt8) : (D.append name t).2.most = D.most := by
  unfold DD.append
  split
  · rfl
  split
  · rfl
  split
  · rfl
  · exact write_most D name _ t

theorem Fit.append (h : Fit i D) (name : ByteArray) (t : List UInt8) (ht : t.length ≤ 700) : Fit (i + 1) (D.append name t).2 := by
  unfold DD.append
  split
  · exact h.mono
  cases hb : behind name D.files with
  | nil => exact h.mono
  | cons f B =>
    dsimp only
    split
    · exact h.mono
    · exact h.write name _ t ht

theorem Fit.sync0 (h : Fit i D) : Fit i D.sync.2 := by
  unfold DD.sync
  split
  · exact h
  · refine ⟨rising_map (syncF_name _) h.rising, fun f hf => ?_, by have := h.len; show (D.files.map _).length ≤ _; rw [List.length_map]; omega, h.made, fun p hp => (by cases hp), Nat.zero_le _, h.count, h.fuse, h.most⟩
    obtain ⟨g, hg, rfl⟩ := List.mem_map.1 hf
    have := h.small g hg
    exact ⟨by rw [syncF_seen]; exact this.1, syncF_small _ _ h.pieces this.2⟩

theorem Fit.sync (h : Fit i D) : Fit (i + 1) D.sync.2 := h.sync0.mono

theorem Fit.last (h : Fit i D) (xs : List Int) : ∀ f ∈ D.files, (fatesF (D.wait.zip xs) f).last.length ≤ 2097152 := fun f hf =>
  fatesF_small (B := 2097152) _ _ (fun q hq => h.pieces q.1 (List.of_mem_zip hq).1) (h.small f hf).2

theorem Fit.crash0 (h : Fit i D) (xs : List Int) : Fit i (D.crash xs) := by
  refine ⟨rising_map (g := fun f => reborn (fatesF (D.wait.zip xs) f)) (fun f => fatesF_name _ _) h.rising, fun f hf => ?_, by have := h.len; show (D.files.map _).length ≤ _; rw [List.length_map]; omega, h.made, fun p hp => (by cases hp), Nat.zero_le _, h.count, (by show (-1 : Int) ≤ -1 ∧ (-1 : Int) ≤ _; omega), h.most⟩
  obtain ⟨g, hg, rfl⟩ := List.mem_map.1 hf
  have := h.last xs g hg
  exact ⟨this, this⟩

theorem Fit.crash (h : Fit i D) (xs : List Int) : Fit (i + 1) (D.crash xs) := (h.crash0 xs).mono

theorem Fit.arm0 (h : Fit i D) {n : Int} (h0 : 0 ≤ n) (h1 : n ≤ 9223372036854775807) : Fit i { D with fuse := n } :=
  ⟨h.rising, h.small, h.len, h.made, h.pieces, h.waits, h.count, ⟨by show -1 ≤ n; omega, h1⟩, h.most⟩

theorem Fit.arm (h : Fit i D) {n : Int} (h0 : 0 ≤ n) (h1 : n ≤ 9223372036854775807) : Fit (i + 1) { D with fuse := n } := (h.arm0 h0 h1).mono

theorem Fit.spoil (h : Fit i D) (name : ByteArray) (at_ by_ : Int) : Fit (i + 1) (D.spoil name at_ by_).2 := by
  unfold DD.spoil
  cases hb : behind name D.files with
  | nil => exact h.mono
  | cons f B =>
    dsimp only
    split
    · exact h.mono
    split
    · exact h.mono
    · have hD : D.files = ahead name D.files ++ f :: B := by rw [← hb, ahead_behind]
      have hf := h.small f (by rw [hD]; simp)
      have hm := h.mono
      have hr := h.rising
      rw [hD] at hr
      refine ⟨rising_mid (f := f) (g := spoilt f at_.toNat by_) rfl hr, fun g hg => ?_, ?_, hm.made, h.pieces, hm.waits, hm.count, h.fuse, h.most⟩
      · have hg : g ∈ ahead name D.files ++ spoilt f at_.toNat by_ :: B := hg
        rcases List.mem_append.1 hg with hg | hg
        · exact h.small g (by rw [hD]; exact List.mem_append_left _ hg)
        · rcases List.mem_cons.1 hg with rfl | hg
          · exact ⟨by show (bent f.seen _ _).length ≤ _; rw [bent_length]; exact hf.1, by show (bent f.last _ _).length ≤ _; rw [bent_length]; exact hf.2⟩
          · exact h.small g (by rw [hD]; exact List.mem_append_right _ (List.mem_cons_of_mem _ hg))
      · have := h.len
        rw [hD] at this
        show (ahead name D.files ++ spoilt f at_.toNat by_ :: B).length ≤ _
        simp only [List.length_append, List.length_cons] at this ⊢
        omega

theorem Fit.empty (n : Int) (h0 : 0 ≤ n) (h1 : n ≤ 32768) : Fit 0 (DD.empty n) :=
  ⟨trivial, fun f hf => (by cases hf), Nat.le_refl _, by simp [DD.empty], fun p hp => (by cases hp), Nat.le_refl _, by simp [DD.empty], by simp [DD.empty], ⟨h0, h1⟩⟩

theorem size_eq {v : Value} (h1 : D.off = true → v = .tuple ⟨[.int .i64 0, .int .i64 14]⟩) {name : ByteArray}
    (h2 : D.off = false → isHead name (behind name D.files) = false → v = .tuple ⟨[.int .i64 0, .int .i64 8]⟩)
    (h3 : D.off = false → isHead name (behind name D.files) = true → ∀ f r, behind name D.files = f :: r → v = .tuple ⟨[.int .i64 f.seen.length, .int .i64 0]⟩) :
    v = .tuple ⟨[.int .i64 (D.size name).1, .int .i64 (D.size name).2]⟩ := by
  unfold DD.size
  by_cases ho : D.off = true
  · rw [if_pos ho]; exact h1 ho
  have ho' : D.off = false := by simpa using ho
  rw [if_neg ho]
  cases hb : behind name D.files with
  | nil => exact h2 ho' (by rw [hb]; rfl)
  | cons f r =>
    dsimp only
    by_cases hn : cmpS f.name name ≠ 0
    · rw [if_pos hn]; exact h2 ho' (by rw [hb]; simpa [isHead] using hn)
    · rw [if_neg hn]; exact h3 ho' (by rw [hb]; simpa [isHead] using hn) f r hb

end
end Go.X
