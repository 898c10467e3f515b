/- Two devices that stand alike: the document's keeps its files in the order in which they were made. No program in sight. -/
import Derived.Test.YthljhmjigpfpnaaERef11
namespace Go.X

structure Like (D R : DD) : Prop where
  perm : R.files.Perm D.files
  wait : R.wait = D.wait
  most : R.most = D.most
  fuse : R.fuse = D.fuse
  off : R.off = D.off
  count : R.count = D.count
  made : R.made = D.made

/-- How much a device may have behind so many calls. -/
structure Fit (i : Nat) (D : DD) : Prop where
  rising : Rising D.files
  small : Small D.files
  len : D.files.length ≤ i
  made : 0 ≤ D.made ∧ D.made ≤ i
  pieces : PiecesOk D.wait
  waits : D.wait.length ≤ 700 * i
  count : 0 ≤ D.count ∧ D.count ≤ 700 * i
  fuse : -1 ≤ D.fuse ∧ D.fuse ≤ 9223372036854775807
  most : 0 ≤ D.most ∧ D.most ≤ 32768

theorem Fit.mono {i : Nat} {D : DD} (h : Fit i D) : Fit (i + 1) D where
  rising := h.rising
  small := h.small
  len := by have := h.len; omega
  made := by have := h.made; omega
  pieces := h.pieces
  waits := by have := h.waits; omega
  count := by have := h.count; omega
  fuse := h.fuse
  most := h.most

section
variable {D R : DD}

theorem Like.len (h : Like D R) : R.files.length = D.files.length := h.perm.length_eq
theorem Like.small (h : Like D R) (hs : Small D.files) : Small R.files := fun f hf => hs f (h.perm.mem_iff.1 hf)

theorem takesAll_perm {a b : List DF} (h : a.Perm b) : takesAll a = takesAll b := by
  induction h with
  | nil => rfl
  | cons x _ ih => simp [takesAll, ih]
  | swap x y l => simp only [takesAll]; omega
  | trans _ _ ih1 ih2 => rw [ih1, ih2]

theorem Like.free (h : Like D R) : R.free = D.free := by unfold DD.free; rw [h.most, takesAll_perm h.perm]

theorem nodup_names {fs : List DF} (h : Rising fs) : (fs.map (·.name)).Nodup := rise_nodup (rising_rise h)

theorem isHead_no {name : ByteArray} {fs : List DF} (hr : Rising fs) (h : isHead name (behind name fs) = false) : ∀ f ∈ fs, f.name ≠ name := by
  intro f hf e
  obtain ⟨A, B, rfl⟩ := List.append_of_mem hf
  have := (behind_mid hr).2
  rw [← e, this] at h
  simp [isHead, cmpS_refl] at h

/-- A name is found in both, or in none. -/
theorem find_like (hr : Rising D.files) (hp : R.files.Perm D.files) (name : ByteArray) :
    (isHead name (behind name D.files) = false ∧ findR name R.files = none) ∨
    ∃ A f B P Q, D.files = A ++ f :: B ∧ R.files = P ++ f :: Q ∧ f.name = name ∧ ahead name D.files = A ∧ behind name D.files = f :: B ∧ findR name R.files = some P.length ∧ (P ++ Q).Perm (A ++ B) := by
  cases hh : isHead name (behind name D.files) with
  | false => exact .inl ⟨rfl, findR_none fun f hf => isHead_no hr hh f (hp.mem_iff.1 hf)⟩
  | true =>
    right
    cases hb : behind name D.files with
    | nil => rw [hb] at hh; cases hh
    | cons f B =>
      rw [hb] at hh
      have hn : f.name = name := cmpS_eq (by simpa [isHead] using hh)
      have hD : D.files = ahead name D.files ++ f :: B := by rw [← hb, ahead_behind]
      have hf : f ∈ R.files := hp.mem_iff.2 (by rw [hD]; simp)
      obtain ⟨P, Q, hR⟩ := List.append_of_mem hf
      have hnd : (R.files.map (·.name)).Nodup := (hp.map _).nodup_iff.2 (nodup_names hr)
      refine ⟨ahead name D.files, f, B, P, Q, hD, hR, hn, rfl, rfl, ?_, ?_⟩
      · refine findR_some (f := f) (by rw [hR]; simp) hn fun j g hj hg => ?_
        intro e
        rw [hR, List.getElem?_append_left hj] at hg
        have hgP : g ∈ P := List.mem_of_getElem? hg
        rw [hR, List.map_append, List.map_cons, List.nodup_append] at hnd
        exact hnd.2.2 g.name (List.mem_map.2 ⟨g, hgP, rfl⟩) f.name List.mem_cons_self (by rw [e, hn])
      · have h1 : (f :: (P ++ Q)).Perm (f :: (ahead name D.files ++ B)) := by
          refine List.perm_middle.symm.trans ?_
          rw [← hR]
          refine hp.trans ?_
          conv => lhs; rw [hD]
          exact List.perm_middle
        exact h1.cons_inv

theorem perm_mid {A B P Q : List DF} (h : (P ++ Q).Perm (A ++ B)) (g : DF) : (P ++ g :: Q).Perm (A ++ g :: B) :=
  List.perm_middle.trans ((h.cons g).trans List.perm_middle.symm)

theorem perm_put {P Q A B : List DF} (h : (P ++ Q).Perm (A ++ B)) (g : DF) (to : ByteArray) : (P ++ g :: Q).Perm (ahead to (A ++ B) ++ g :: behind to (A ++ B)) := by
  refine List.perm_middle.trans ((h.cons g).trans ?_)
  have := (List.perm_middle (a := g) (l₁ := ahead to (A ++ B)) (l₂ := behind to (A ++ B))).symm
  rwa [ahead_behind] at this

theorem get_mid (P Q : List DF) (f : DF) : (P ++ f :: Q)[P.length]? = some f := by simp
theorem set_mid (P Q : List DF) (f g : DF) : (P ++ f :: Q).set P.length g = P ++ g :: Q := by simp
theorem cut_mid (P Q : List DF) (f : DF) : (P ++ f :: Q).take P.length ++ (P ++ f :: Q).drop (P.length + 1) = P ++ Q := by
  rw [List.take_left, ← List.drop_drop, List.drop_left]; rfl

theorem create_like (hr : Rising D.files) (h : Like D R) (name : ByteArray) : (R.createR name).1 = (D.create name).1 ∧ Like (D.create name).2 (R.createR name).2 := by
  unfold DD.create DD.createR
  rw [h.off]
  by_cases ho : D.off = true
  · rw [if_pos ho, if_pos ho]; exact ⟨rfl, h⟩
  rw [if_neg ho, if_neg ho]
  by_cases hn : nameB name = false
  · rw [if_pos hn, if_pos hn]; exact ⟨rfl, h⟩
  rw [if_neg hn, if_neg hn]
  rcases find_like hr h.perm name with ⟨e1, e2⟩ | ⟨A, f, B, P, Q, e1, e2, e3, e4, e5, e6, e7⟩
  · rw [e1, e2]
    refine ⟨rfl, ?_, h.wait, h.most, h.fuse, rfl, h.count, by show R.made + 1 = D.made + 1; rw [h.made]⟩
    show (R.files ++ [(⟨R.made, name, [], []⟩ : DF)]).Perm (ahead name D.files ++ (⟨D.made, name, [], []⟩ : DF) :: behind name D.files)
    rw [h.made]
    refine (List.perm_append_singleton _ _).trans ((h.perm.cons _).trans ?_)
    have := (List.perm_middle (a := (⟨D.made, name, [], []⟩ : DF)) (l₁ := ahead name D.files) (l₂ := behind name D.files)).symm
    rwa [ahead_behind] at this
  · have : isHead name (behind name D.files) = true := by rw [e5, ← e3]; simp [isHead, cmpS_refl]
    rw [e6, if_pos this]
    exact ⟨rfl, h⟩

theorem remove_like (hr : Rising D.files) (h : Like D R) (name : ByteArray) : (R.removeR name).1 = (D.remove name).1 ∧ Like (D.remove name).2 (R.removeR name).2 := by
  unfold DD.remove DD.removeR
  rw [h.off]
  by_cases ho : D.off = true
  · rw [if_pos ho, if_pos ho]; exact ⟨rfl, h⟩
  rw [if_neg ho, if_neg ho]
  rcases find_like hr h.perm name with ⟨e1, e2⟩ | ⟨A, f, B, P, Q, e1, e2, e3, e4, e5, e6, e7⟩
  · rw [e1, e2]; exact ⟨rfl, h⟩
  · have hh : isHead name (behind name D.files) = true := by rw [e5, ← e3]; simp [isHead, cmpS_refl]
    have eg : R.files[P.length]? = some f := by rw [e2]; exact get_mid _ _ _
    rw [e6, if_neg (by rw [hh]; simp)]
    dsimp only
    rw [eg]
    refine ⟨rfl, ?_, ?_, h.most, h.fuse, rfl, h.count, h.made⟩
    · show (R.files.take P.length ++ R.files.drop (P.length + 1)).Perm (D.without name)
      unfold DD.without
      rw [e2, cut_mid, e4, e5]
      exact e7
    · show R.wait.filter _ = D.wait.filter _
      rw [h.wait, e5]
      rfl

theorem rename_like (hr : Rising D.files) (h : Like D R) (fr to : ByteArray) : (R.renameR fr to).1 = (D.rename fr to).1 ∧ Like (D.rename fr to).2 (R.renameR fr to).2 := by
  unfold DD.rename DD.renameR
  rw [h.off]
  by_cases ho : D.off = true
  · rw [if_pos ho, if_pos ho]; exact ⟨rfl, h⟩
  rw [if_neg ho, if_neg ho]
  by_cases hn : nameB to = false
  · rw [if_pos hn, if_pos hn]; exact ⟨rfl, h⟩
  rw [if_neg hn, if_neg hn]
  rcases find_like hr h.perm fr with ⟨e1, e2⟩ | ⟨A, f, B, P, Q, e1, e2, e3, e4, e5, e6, e7⟩
  · rw [e2]
    rcases behind_no e1 with e | ⟨f, r, e, hne⟩
    · rw [e]; exact ⟨rfl, h⟩
    · rw [e]
      dsimp only
      rw [if_pos hne]; exact ⟨rfl, h⟩
  · have eg : R.files[P.length]? = some f := by rw [e2]; exact get_mid _ _ _
    rw [e6, e5]
    dsimp only
    rw [if_neg (by rw [e3, cmpS_refl]; simp)]
    rcases find_like hr h.perm to with ⟨d1, d2⟩ | ⟨A', f', B', P', Q', d1, d2, d3, d4, d5, d6, d7⟩
    · rw [d2, d1]
      dsimp only
      rw [eg]
      refine ⟨rfl, ?_, h.wait, h.most, h.fuse, rfl, h.count, h.made⟩
      show (R.files.set P.length (renamed f to)).Perm (ahead to (D.without fr) ++ renamed f to :: behind to (D.without fr))
      have : D.without fr = A ++ B := by unfold DD.without; rw [e4, e5]; rfl
      rw [this, e2, set_mid]
      exact perm_put e7 _ _
    · have hh : isHead to (behind to D.files) = true := by rw [d5, ← d3]; simp [isHead, cmpS_refl]
      rw [d6, if_pos hh]
      exact ⟨rfl, h⟩

def DD.size (D : DD) (name : ByteArray) : Int × Int :=
  if D.off then (0, 14) else
  match behind name D.files with
  | [] => (0, 8)
  | f :: _ => if cmpS f.name name ≠ 0 then (0, 8) else (f.seen.length, 0)

theorem size_like (hr : Rising D.files) (h : Like D R) (name : ByteArray) : R.sizeR name = D.size name := by
  unfold DD.sizeR DD.size
  rw [h.off]
  by_cases ho : D.off = true
  · rw [if_pos ho, if_pos ho]
  rw [if_neg ho, if_neg ho]
  rcases find_like hr h.perm name with ⟨e1, e2⟩ | ⟨A, f, B, P, Q, e1, e2, e3, e4, e5, e6, e7⟩
  · rw [e2]
    rcases behind_no e1 with e | ⟨f, r, e, hne⟩
    · rw [e]
    · rw [e]; dsimp only; rw [if_pos hne]
  · have eg : R.files[P.length]? = some f := by rw [e2]; exact get_mid _ _ _
    rw [e6, e5]
    dsimp only
    rw [eg, if_neg (by rw [e3, cmpS_refl]; simp)]

theorem read_like (hr : Rising D.files) (h : Like D R) (name : ByteArray) (at_ n : Int) : R.readR name at_ n = D.read name at_ n := by
  unfold DD.readR DD.read
  rw [h.off]
  by_cases ho : D.off = true
  · rw [if_pos ho, if_pos ho]
  rw [if_neg ho, if_neg ho]
  rcases find_like hr h.perm name with ⟨e1, e2⟩ | ⟨A, f, B, P, Q, e1, e2, e3, e4, e5, e6, e7⟩
  · rw [e2]
    rcases behind_no e1 with e | ⟨f, r, e, hne⟩
    · rw [e]
    · rw [e]; dsimp only; rw [if_pos hne]
  · have eg : R.files[P.length]? = some f := by rw [e2]; exact get_mid _ _ _
    rw [e6, e5]
    dsimp only
    rw [eg, if_neg (by rw [e3, cmpS_refl]; simp)]

theorem write_like (hr : Rising D.files) (h : Like D R) (name : ByteArray) (at_ : Int) (t : List UInt8) : (R.writeR name at_ t).1 = (D.write name at_ t).1 ∧ Like (D.write name at_ t).2 (R.writeR name at_ t).2 := by
  unfold DD.writeR DD.write
  rw [h.off, h.free, h.wait, h.fuse, h.count]
  by_cases ho : D.off = true
  · rw [if_pos ho, if_pos ho]; exact ⟨rfl, h⟩
  rw [if_neg ho, if_neg ho]
  rcases find_like hr h.perm name with ⟨e1, e2⟩ | ⟨A, f, B, P, Q, e1, e2, e3, e4, e5, e6, e7⟩
  · rw [e2]
    rcases behind_no e1 with e | ⟨f, r, e, hne⟩
    · rw [e]; exact ⟨rfl, h⟩
    · rw [e]; dsimp only; rw [if_pos hne]; exact ⟨rfl, h⟩
  · have eg : R.files[P.length]? = some f := by rw [e2]; exact get_mid _ _ _
    rw [e6, e5]
    dsimp only
    rw [eg, if_neg (by rw [e3, cmpS_refl]; simp)]
    dsimp only
    by_cases h1 : at_ < 0 ∨ 2097152 - (t.length : Int) < at_
    · rw [if_pos h1, if_pos h1]; exact ⟨rfl, h⟩
    rw [if_neg h1, if_neg h1]
    by_cases h2 : t ≠ [] ∧ D.free < (secs (at_.toNat + t.length) : Int) - f.takes
    · rw [if_pos h2, if_pos h2]; exact ⟨rfl, h⟩
    rw [if_neg h2, if_neg h2]
    obtain ⟨Z, hZ⟩ : ∃ Z, wr t.length f.id at_.toNat t ⟨f.seen, D.wait, D.fuse, D.count, false⟩ = Z := ⟨_, rfl⟩
    rw [hZ]
    refine ⟨rfl, ?_, rfl, h.most, rfl, rfl, rfl, h.made⟩
    show (R.files.set P.length { f with seen := Z.seen }).Perm (ahead name D.files ++ { f with seen := Z.seen } :: B)
    rw [e2, set_mid, e4]
    exact perm_mid e7 _

/-- An append, by the document's size and write. -/
def DD.appendR (R : DD) (name : ByteArray) (t : List UInt8) : Int × DD :=
  if (R.sizeR name).2 = 0 then R.writeR name (R.sizeR name).1 t else ((R.sizeR name).2, R)

theorem append_like (hr : Rising D.files) (h : Like D R) (name : ByteArray) (t : List UInt8) : (R.appendR name t).1 = (D.append name t).1 ∧ Like (D.append name t).2 (R.appendR name t).2 := by
  have hz := size_like hr h name
  unfold DD.append
  unfold DD.size at hz
  by_cases ho : D.off = true
  · rw [if_pos ho] at hz
    have e : R.appendR name t = (14, R) := by unfold DD.appendR; rw [hz]; rfl
    rw [if_pos ho, e]; exact ⟨rfl, h⟩
  rw [if_neg ho] at hz ⊢
  cases hb : behind name D.files with
  | nil =>
    rw [hb] at hz
    have e : R.appendR name t = (8, R) := by unfold DD.appendR; rw [hz]; rfl
    rw [e]; exact ⟨rfl, h⟩
  | cons f r =>
    rw [hb] at hz
    dsimp only at hz ⊢
    by_cases hne : cmpS f.name name ≠ 0
    · rw [if_pos hne] at hz
      have e : R.appendR name t = (8, R) := by unfold DD.appendR; rw [hz]; rfl
      rw [if_pos hne, e]; exact ⟨rfl, h⟩
    · rw [if_neg hne] at hz
      have e : R.appendR name t = R.writeR name f.seen.length t := by unfold DD.appendR; rw [hz]; rfl
      rw [if_neg hne, e]
      exact write_like hr h name _ t

theorem sync_like (h : Like D R) : R.sync.1 = D.sync.1 ∧ Like D.sync.2 R.sync.2 := by
  unfold DD.sync
  rw [h.off, h.wait]
  by_cases ho : D.off = true
  · rw [if_pos ho, if_pos ho]; exact ⟨rfl, h⟩
  · rw [if_neg ho, if_neg ho]
    exact ⟨rfl, h.perm.map _, rfl, h.most, h.fuse, rfl, h.count, h.made⟩

theorem crash_like (h : Like D R) (xs : List Int) : Like (D.crash xs) (R.crash xs) := by
  unfold DD.crash
  rw [h.wait]
  exact ⟨h.perm.map _, rfl, h.most, rfl, rfl, h.count, h.made⟩

theorem arm_like (h : Like D R) (n : Int) : Like { D with fuse := n } { R with fuse := n } := ⟨h.perm, h.wait, h.most, rfl, h.off, h.count, h.made⟩

theorem spoil_like (hr : Rising D.files) (h : Like D R) (name : ByteArray) (at_ by_ : Int) : (R.spoilR name at_ by_).1 = (D.spoil name at_ by_).1 ∧ Like (D.spoil name at_ by_).2 (R.spoilR name at_ by_).2 := by
  unfold DD.spoilR DD.spoil
  rcases find_like hr h.perm name with ⟨e1, e2⟩ | ⟨A, f, B, P, Q, e1, e2, e3, e4, e5, e6, e7⟩
  · rw [e2]
    rcases behind_no e1 with e | ⟨f, r, e, hne⟩
    · rw [e]; exact ⟨rfl, h⟩
    · rw [e]; dsimp only; rw [if_pos hne]; exact ⟨rfl, h⟩
  · have eg : R.files[P.length]? = some f := by rw [e2]; exact get_mid _ _ _
    rw [e6, e5]
    dsimp only
    rw [eg, if_neg (by rw [e3, cmpS_refl]; simp)]
    dsimp only
    by_cases h1 : at_ < 0 ∨ (f.last.length : Int) ≤ at_
    · rw [if_pos h1, if_pos h1]; exact ⟨rfl, h⟩
    rw [if_neg h1, if_neg h1]
    refine ⟨rfl, ?_, h.wait, h.most, h.fuse, h.off, h.count, h.made⟩
    show (R.files.set P.length (spoilt f at_.toNat by_)).Perm (ahead name D.files ++ spoilt f at_.toNat by_ :: B)
    rw [e2, set_mid, e4]
    exact perm_mid e7 _

theorem names_like (hr : Rising D.files) (h : Like D R) : sortN R.names = D.names := sortN_eq (rising_rise hr) (h.perm.map _)

/-! ### What stays in bounds -/

variable {i : Nat}

theorem Fit.create (h : Fit i D) (name : ByteArray) : Fit (i + 1) (D.create name).2 := by
  unfold DD.create
  split
  · exact h.mono
  split
  · exact h.mono
  split
  · exact h.mono
  · rename_i hh
    have hh : isHead name (behind name D.files) = false := by simpa using hh
    have hmem : ∀ f, f ∈ ahead name D.files ++ (⟨D.made, name, [], []⟩ : DF) :: behind name D.files → f ∈ D.files ∨ f = ⟨D.made, name, [], []⟩ := by
      intro f hf
      rcases List.mem_append.1 hf with hf | hf
      · left; rw [← ahead_behind name D.files]; exact List.mem_append_left _ hf
      · rcases List.mem_cons.1 hf with rfl | hf
        · exact .inr rfl
        · left; rw [← ahead_behind name D.files]; exact List.mem_append_right _ hf
    refine (show Fit (i + 1) { D with files := ahead name D.files ++ (⟨D.made, name, [], []⟩ : DF) :: behind name D.files, made := D.made + 1 } from ?_)
    refine ⟨rising_put (nw := ⟨D.made, name, [], []⟩) rfl h.rising hh, fun f hf => ?_, ?_, ?_, h.pieces, h.mono.waits, h.mono.count, h.fuse, h.most⟩
    · rcases hmem f hf with hf | rfl
      · exact h.small f hf
      · exact ⟨Nat.zero_le _, Nat.zero_le _⟩
    · show (ahead name D.files ++ _ :: behind name D.files).length ≤ _
      have e : (ahead name D.files).length + (behind name D.files).length = D.files.length := by rw [← List.length_append, ahead_behind]
      have := h.len
      simp only [List.length_append, List.length_cons]
      omega
    · have := h.made
      show 0 ≤ D.made + 1 ∧ D.made + 1 ≤ _
      omega

theorem Fit.remove (h : Fit i D) (name : ByteArray) : Fit (i + 1) (D.remove name).2 := by
  unfold DD.remove
  split
  · exact h.mono
  split
  · exact h.mono
  · rename_i hh
    have hh : isHead name (behind name D.files) = true := by simpa using hh
    cases hb : behind name D.files with
    | nil => rw [hb] at hh; cases hh
    | cons f B =>
      have hD : D.files = ahead name D.files ++ f :: B := by rw [← hb, ahead_behind]
      have hw : D.without name = ahead name D.files ++ B := by unfold DD.without; rw [hb]; rfl
      have hr := h.rising
      rw [hD] at hr
      have hsub : ∀ g ∈ ahead name D.files ++ B, g ∈ D.files := fun g hg => by
        rw [hD]
        rcases List.mem_append.1 hg with hg | hg
        · exact List.mem_append_left _ hg
        · exact List.mem_append_right _ (List.mem_cons_of_mem _ hg)
      rw [hw]
      refine ⟨rising_drop hr, fun g hg => h.small g (hsub g hg), ?_, h.mono.made, fun p hp => h.pieces p (List.mem_filter.1 hp).1, ?_, h.mono.count, h.fuse, h.most⟩
      · have := h.len
        rw [hD] at this
        show (ahead name D.files ++ B).length ≤ _
        simp only [List.length_append, List.length_cons] at this ⊢
        omega
      · have := h.waits
        have e := List.length_filter_le (fun p => !(p.id == headId (f :: B))) D.wait
        show (D.wait.filter _).length ≤ _
        omega

theorem Fit.rename (h : Fit i D) (fr to : ByteArray) : Fit (i + 1) (D.rename fr to).2 := by
  unfold DD.rename
  split
  · exact h.mono
  split
  · exact h.mono
  cases hb : behind fr D.files with
  | nil => exact h.mono
  | cons f B =>
    dsimp only
    split
    · exact h.mono
    split
    · exact h.mono
    · rename_i hh
      have hh : isHead to (behind to D.files) = false := by simpa using hh
      have hD : D.files = ahead fr D.files ++ f :: B := by rw [← hb, ahead_behind]
      have hw : D.without fr = ahead fr D.files ++ B := by unfold DD.without; rw [hb]; rfl
      have hr := h.rising
      rw [hD] at hr
      have hr2 := rising_drop hr
      have hsub : ∀ g ∈ ahead fr D.files ++ B, g ∈ D.files := fun g hg => by
        rw [hD]
        rcases List.mem_append.1 hg with hg | hg
        · exact List.mem_append_left _ hg
        · exact List.mem_append_right _ (List.mem_cons_of_mem _ hg)
      have hfree : isHead to (behind to (ahead fr D.files ++ B)) = false := by
        cases hx : isHead to (behind to (ahead fr D.files ++ B)) with
        | false => rfl
        | true =>
          exfalso
          cases hb2 : behind to (ahead fr D.files ++ B) with
          | nil => rw [hb2] at hx; cases hx
          | cons g r =>
            rw [hb2] at hx
            have hgn : g.name = to := cmpS_eq (by simpa [isHead] using hx)
            have hg : g ∈ ahead fr D.files ++ B := by rw [← ahead_behind to (ahead fr D.files ++ B), hb2]; simp
            exact isHead_no h.rising hh g (hsub g hg) hgn
      rw [hw]
      have hmem : ∀ g, g ∈ ahead to (ahead fr D.files ++ B) ++ renamed f to :: behind to (ahead fr D.files ++ B) → g ∈ D.files ∨ g = renamed f to := by
        intro g hg
        have hx : ∀ y, y ∈ ahead to (ahead fr D.files ++ B) ∨ y ∈ behind to (ahead fr D.files ++ B) → y ∈ D.files := fun y hy => hsub y (by rw [← ahead_behind to (ahead fr D.files ++ B)]; simpa using hy)
        rcases List.mem_append.1 hg with hg | hg
        · exact .inl (hx g (.inl hg))
        · rcases List.mem_cons.1 hg with rfl | hg
          · exact .inr rfl
          · exact .inl (hx g (.inr hg))
      refine (show Fit (i + 1) { D with files := ahead to (ahead fr D.files ++ B) ++ renamed f to :: behind to (ahead fr D.files ++ B) } from ?_)
      refine ⟨rising_put (nw := renamed f to) rfl hr2 hfree, fun g hg => ?_, ?_, h.mono.made, h.pieces, h.mono.waits, h.mono.count, h.fuse, h.most⟩
      · rcases hmem g hg with hg | rfl
        · exact h.small g hg
        · exact h.small f (by rw [hD]; simp)
      · have := h.len
        rw [hD] at this
        have e : (ahead to (ahead fr D.files ++ B)).length + (behind to (ahead fr D.files ++ B)).length = (ahead fr D.files ++ B).length := by rw [← List.length_append, ahead_behind]
        show (ahead to (ahead fr D.files ++ B) ++ renamed f to :: behind to (ahead fr D.files ++ B)).length ≤ _
        simp only [List.length_append, List.length_cons] at this e ⊢
        omega

theorem Fit.write (h : Fit i D) (name : ByteArray) (at_ : Int) (t : List UInt8) (ht : t.length ≤ 700) : Fit (i + 1) (D.write name at_ t).2 := by
  unfold DD.write
  split
  · exact h.mono
  cases hb : behind name D.files with
  | nil => exact h.mono
  | cons f B =>
    dsimp only
    split
    · exact h.mono
    split
    · exact h.mono
    split
    · exact h.mono
    · rename_i hout _
      have hD : D.files = ahead name D.files ++ f :: B := by rw [← hb, ahead_behind]
      have hf := h.small f (by rw [hD]; simp)
      obtain ⟨a, rfl⟩ : ∃ a : Nat, at_ = a := ⟨at_.toNat, by omega⟩
      rw [Int.toNat_natCast]
      obtain ⟨n, hn1, hn2, hn3, hn4, hn5, hn6⟩ := wr_some t.length f.id a t ⟨f.seen, D.wait, D.fuse, D.count, false⟩ h.fuse.1
      obtain ⟨Z, hZ⟩ : ∃ Z, wr t.length f.id a t ⟨f.seen, D.wait, D.fuse, D.count, false⟩ = Z := ⟨_, rfl⟩
      rw [hZ] at hn2 hn3 hn4 hn5 hn6 ⊢
      have hpl := pcs_len t.length f.id a t
      have hps : ∀ p ∈ (pcs t.length f.id a t).take n, p.at_ + p.text.length ≤ 2097152 := fun p hp => by
        have := pcs_ok _ _ _ _ p (List.mem_of_mem_take hp); omega
      have hseen : Z.seen.length ≤ 2097152 := by rw [hn2]; exact (lays_some _ f.seen 2097152 hps hf.1).2
      refine ⟨?_, fun g hg => ?_, ?_, h.mono.made, fun p hp => ?_, ?_, ?_, ?_, h.most⟩
      · have hr := h.rising
        rw [hD] at hr
        exact rising_mid (f := f) (g := { f with seen := Z.seen }) rfl hr
      · have hg : g ∈ ahead name D.files ++ { f with seen := Z.seen } :: B := hg
        rcases List.mem_append.1 hg with hg | hg
        · exact h.small g (by rw [hD]; exact List.mem_append_left _ hg)
        · rcases List.mem_cons.1 hg with rfl | hg
          · exact ⟨hseen, hf.2⟩
          · exact h.small g (by rw [hD]; exact List.mem_append_right _ (List.mem_cons_of_mem _ hg))
      · have := h.len
        rw [hD] at this
        show (ahead name D.files ++ { f with seen := Z.seen } :: B).length ≤ _
        simp only [List.length_append, List.length_cons] at this ⊢
        omega
      · have hp : p ∈ Z.wait := hp
        rw [hn3] at hp
        rcases List.mem_append.1 hp with hp | hp
        · exact h.pieces p hp
        · exact hps p hp
      · have := h.waits
        show Z.wait.length ≤ _
        rw [hn3, List.length_append, List.length_take]
        dsimp only
        omega
      · have := h.count
        show 0 ≤ Z.count ∧ Z.count ≤ _
        rw [hn4]
        dsimp only
        omega
      · have := h.fuse
        dsimp only at hn6
        exact ⟨hn5, by show Z.fuse ≤ _; omega⟩

theorem write_most (D : DD) (name : ByteArray) (at_ : Int) (t : List UInt8) : (D.write name at_ t).2.most = D.most := by
  unfold DD.write
  split
  · rfl
  split
  · rfl
  split
  · rfl
  split
  · rfl
  split
  · rfl
  · rfl

theorem append_most (D : DD) (name : ByteArray) (t : List UInt8) : (D.append name t).2.most = D.most := by
  unfold DD.append
  split
  · rfl
  split
  · rfl
  split
  · rfl
  · exact write_most D name _ t

theorem Fit.append (h : Fit i D) (name : ByteArray) (t : List UInt8) (ht : t.length ≤ 700) : Fit (i + 1) (D.append name t).2 := by
  unfold DD.append
  split
  · exact h.mono
  cases hb : behind name D.files with
  | nil => exact h.mono
  | cons f B =>
    dsimp only
    split
    · exact h.mono
    · exact h.write name _ t ht

theorem syncF_small : ∀ (l : List DW) (f : DF), (∀ p ∈ l, p.at_ + p.text.length ≤ 2097152) → f.last.length ≤ 2097152 → (syncF l f).last.length ≤ 2097152
  | [], _, _, h => h
  | p :: l, f, hp, h => by
    show (syncF l (lastF p p.text.length f)).last.length ≤ _
    exact syncF_small l _ (fun q hq => hp q (List.mem_cons_of_mem _ hq)) (lastF_small (hp p List.mem_cons_self) (Nat.le_refl _) h)

theorem lastF_seen (p : DW) (n : Nat) (f : DF) : (lastF p n f).seen = f.seen := by unfold lastF; split <;> rfl

theorem syncF_seen : ∀ (l : List DW) (f : DF), (syncF l f).seen = f.seen
  | [], _ => rfl
  | p :: l, f => (syncF_seen l (lastF p p.text.length f)).trans (lastF_seen _ _ _)

theorem syncF_name : ∀ (l : List DW) (f : DF), (syncF l f).name = f.name
  | [], _ => rfl
  | p :: l, f => (syncF_name l (lastF p p.text.length f)).trans (lastF_name _ _ _)

theorem Fit.sync (h : Fit i D) : Fit (i + 1) D.sync.2 := by
  unfold DD.sync
  split
  · exact h.mono
  · refine ⟨rising_map (syncF_name _) h.rising, fun f hf => ?_, by have := h.len; show (D.files.map _).length ≤ _; rw [List.length_map]; omega, h.mono.made, fun p hp => (by cases hp), Nat.zero_le _, h.mono.count, h.fuse, h.most⟩
    obtain ⟨g, hg, rfl⟩ := List.mem_map.1 hf
    have := h.small g hg
    exact ⟨by rw [syncF_seen]; exact this.1, syncF_small _ _ h.pieces this.2⟩

theorem Fit.last (h : Fit i D) (xs : List Int) : ∀ f ∈ D.files, (fatesF (D.wait.zip xs) f).last.length ≤ 2097152 := fun f hf =>
  fatesF_small (B := 2097152) _ _ (fun q hq => h.pieces q.1 (List.of_mem_zip hq).1) (h.small f hf).2

theorem Fit.crash (h : Fit i D) (xs : List Int) : Fit (i + 1) (D.crash xs) := by
  refine ⟨rising_map (g := fun f => reborn (fatesF (D.wait.zip xs) f)) (fun f => fatesF_name _ _) h.rising, fun f hf => ?_, by have := h.len; show (D.files.map _).length ≤ _; rw [List.length_map]; omega, h.mono.made, fun p hp => (by cases hp), Nat.zero_le _, h.mono.count, (by show (-1 : Int) ≤ -1 ∧ (-1 : Int) ≤ _; omega), h.most⟩
  obtain ⟨g, hg, rfl⟩ := List.mem_map.1 hf
  have := h.last xs g hg
  exact ⟨this, this⟩

theorem Fit.arm (h : Fit i D) {n : Int} (h0 : 0 ≤ n) (h1 : n ≤ 9223372036854775807) : Fit (i + 1) { D with fuse := n } := by
  have := h.mono
  exact ⟨this.rising, this.small, this.len, this.made, this.pieces, this.waits, this.count, ⟨by show -1 ≤ n; omega, h1⟩, this.most⟩

theorem Fit.spoil (h : Fit i D) (name : ByteArray) (at_ by_ : Int) : Fit (i + 1) (D.spoil name at_ by_).2 := by
  unfold DD.spoil
  cases hb : behind name D.files with
  | nil => exact h.mono
  | cons f B =>
    dsimp only
    split
    · exact h.mono
    split
    · exact h.mono
    · have hD : D.files = ahead name D.files ++ f :: B := by rw [← hb, ahead_behind]
      have hf := h.small f (by rw [hD]; simp)
      have hm := h.mono
      have hr := h.rising
      rw [hD] at hr
      refine ⟨rising_mid (f := f) (g := spoilt f at_.toNat by_) rfl hr, fun g hg => ?_, ?_, hm.made, h.pieces, hm.waits, hm.count, h.fuse, h.most⟩
      · have hg : g ∈ ahead name D.files ++ spoilt f at_.toNat by_ :: B := hg
        rcases List.mem_append.1 hg with hg | hg
        · exact h.small g (by rw [hD]; exact List.mem_append_left _ hg)
        · rcases List.mem_cons.1 hg with rfl | hg
          · exact ⟨by show (bent f.seen _ _).length ≤ _; rw [bent_length]; exact hf.1, by show (bent f.last _ _).length ≤ _; rw [bent_length]; exact hf.2⟩
          · exact h.small g (by rw [hD]; exact List.mem_append_right _ (List.mem_cons_of_mem _ hg))
      · have := h.len
        rw [hD] at this
        show (ahead name D.files ++ spoilt f at_.toNat by_ :: B).length ≤ _
        simp only [List.length_append, List.length_cons] at this ⊢
        omega

theorem Fit.empty (n : Int) (h0 : 0 ≤ n) (h1 : n ≤ 32768) : Fit 0 (DD.empty n) :=
  ⟨trivial, fun f hf => (by cases hf), Nat.le_refl _, by simp [DD.empty], fun p hp => (by cases hp), Nat.le_refl _, by simp [DD.empty], by simp [DD.empty], ⟨h0, h1⟩⟩

theorem Like.refl (D : DD) : Like D D := ⟨List.Perm.refl _, rfl, rfl, rfl, rfl, rfl, rfl⟩

end
end Go.X
