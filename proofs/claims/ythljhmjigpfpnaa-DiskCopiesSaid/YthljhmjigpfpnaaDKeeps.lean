/- The law DiskKeeps. -/
import Derived.Test.YthljhmjigpfpnaaDOp
import Derived.Test.YthljhmjigpfpnaaDTorn
namespace Go.X
open Go.Proofs

/-! ### Files by name -/

theorem rising_tail {A B : List DF} (h : Rising (A ++ B)) : Rising B := by
  induction A with
  | nil => exact h
  | cons a A ih => exact ih h.2

theorem behind_mid : ∀ {A : List DF} {f : DF} {B : List DF}, Rising (A ++ f :: B) → ahead f.name (A ++ f :: B) = A ∧ behind f.name (A ++ f :: B) = f :: B
  | [], f, B, _ => ⟨ahead_self f B, behind_self f B⟩
  | a :: A, f, B, h => by
    have hlt : lessB f.name a = true := decide_eq_true (h.1 f (by simp))
    obtain ⟨h1, h2⟩ := behind_mid h.2
    unfold ahead behind at *
    rw [List.cons_append, List.takeWhile_cons, List.dropWhile_cons, hlt]
    simp only [if_true]
    exact ⟨by rw [h1], h2⟩

theorem rising_map {g : DF → DF} (hg : ∀ f, (g f).name = f.name) : ∀ {l : List DF}, Rising l → Rising (l.map g)
  | [], _ => trivial
  | f :: l, h => ⟨fun x hx => by
      obtain ⟨y, hy, rfl⟩ := List.mem_map.1 hx
      rw [hg, hg]
      exact h.1 y hy, rising_map hg h.2⟩

theorem rising_mid {A B : List DF} {f g : DF} (hn : g.name = f.name) (h : Rising (A ++ f :: B)) : Rising (A ++ g :: B) := by
  induction A with
  | nil => exact ⟨fun x hx => by rw [hn]; exact h.1 x hx, h.2⟩
  | cons a A ih =>
    refine ⟨fun x hx => ?_, ih h.2⟩
    rcases List.mem_append.1 hx with hx | hx
    · exact h.1 x (List.mem_append_left _ hx)
    · rcases List.mem_cons.1 hx with rfl | hx
      · rw [hn]; exact h.1 f (by simp)
      · exact h.1 x (by simp [hx])

theorem rising_put {name : ByteArray} {nw : DF} (hn : nw.name = name) : ∀ {fs : List DF}, Rising fs → isHead name (behind name fs) = false → Rising (ahead name fs ++ nw :: behind name fs)
  | [], _, _ => ⟨fun _ h => (by cases h), trivial⟩
  | f :: fs, h, hh => by
    cases hl : lessB name f with
    | true =>
      have e1 : ahead name (f :: fs) = f :: ahead name fs := by unfold ahead; rw [List.takeWhile_cons, hl]; rfl
      have e2 : behind name (f :: fs) = behind name fs := by unfold behind; rw [List.dropWhile_cons, hl]; rfl
      rw [e1, e2]
      rw [e2] at hh
      refine ⟨fun x hx => ?_, rising_put hn h.2 hh⟩
      have hmem : ∀ y, y ∈ ahead name fs ∨ y ∈ behind name fs → y ∈ fs := fun y hy => by rw [← ahead_behind name fs]; simpa using hy
      rcases List.mem_append.1 hx with hx | hx
      · exact h.1 x (hmem x (.inl hx))
      · rcases List.mem_cons.1 hx with rfl | hx
        · rw [hn]; exact of_decide_eq_true hl
        · exact h.1 x (hmem x (.inr hx))
    | false =>
      have e1 : ahead name (f :: fs) = [] := by unfold ahead; rw [List.takeWhile_cons, hl]; rfl
      have e2 : behind name (f :: fs) = f :: fs := by unfold behind; rw [List.dropWhile_cons, hl]; rfl
      rw [e1, e2]
      rw [e2] at hh
      have h1 : ¬ cmpS f.name name < 0 := of_decide_eq_false hl
      have h2 : cmpS f.name name ≠ 0 := by simpa [isHead] using hh
      have h3 : cmpS name f.name < 0 := by rw [cmpS_swap]; omega
      refine ⟨fun x hx => ?_, h⟩
      rw [hn]
      rcases List.mem_cons.1 hx with rfl | hx
      · exact h3
      · exact cmpS_trans h3 (h.1 x hx)

/-! ### Pieces that follow each other -/

theorem lay_end (l u : List UInt8) (id : Int) : lay l ⟨id, l.length, u⟩ = l ++ u := by
  unfold lay over
  show (l ++ List.replicate (l.length + u.length - l.length) 0).take l.length ++ u ++ (l ++ List.replicate (l.length + u.length - l.length) 0).drop (l.length + u.length) = _
  rw [List.take_left, List.drop_eq_nil_of_le (by simp), List.append_nil]

theorem lays_end : ∀ (k : Nat) (id : Int) (t l : List UInt8), t.length ≤ k → (pcs k id l.length t).foldl lay l = l ++ t
  | 0, _, t, l, h => by
    have : t = [] := List.eq_nil_of_length_eq_zero (by omega)
    simp [pcs, this]
  | k + 1, id, t, l, h => by
    by_cases ht : t = []
    · simp [pcs, ht]
    · have hp := pieceLen_pos (at_ := l.length) (List.length_pos_iff.2 ht)
      have hp' := pieceLen_le l.length t.length
      have e : (l ++ t.take (pieceLen l.length t.length)).length = l.length + pieceLen l.length t.length := by rw [List.length_append, List.length_take]; omega
      rw [pcs, if_neg ht, List.foldl_cons, lay_end, ← e, lays_end k id _ _ (by rw [List.length_drop]; omega), List.append_assoc, List.take_append_drop]

theorem sync_pcs : ∀ (k : Nat) (at_ : Nat) (t : List UInt8) (f : DF), t.length ≤ k → syncF (pcs k f.id at_ t) f = { f with last := (pcs k f.id at_ t).foldl lay f.last }
  | 0, _, t, f, _ => by simp [pcs, syncF]
  | k + 1, at_, t, f, h => by
    by_cases ht : t = []
    · simp [pcs, ht, syncF]
    · have hp := pieceLen_pos (at_ := at_) (List.length_pos_iff.2 ht)
      have hp' := pieceLen_le at_ t.length
      have hl : (t.take (pieceLen at_ t.length)).length = pieceLen at_ t.length := by rw [List.length_take]; omega
      rw [pcs, if_neg ht]
      have e : lastF ⟨f.id, at_, t.take (pieceLen at_ t.length)⟩ (t.take (pieceLen at_ t.length)).length f = { f with last := lay f.last ⟨f.id, at_, t.take (pieceLen at_ t.length)⟩ } := by
        unfold lastF
        rw [if_pos ⟨rfl, by omega⟩, List.take_of_length_le (Nat.le_refl _)]
        rfl
      have ih := sync_pcs k (at_ + pieceLen at_ t.length) (t.drop (pieceLen at_ t.length)) { f with last := lay f.last ⟨f.id, at_, t.take (pieceLen at_ t.length)⟩ } (by rw [List.length_drop]; omega)
      unfold syncF at ih ⊢
      rw [List.foldl_cons, e, List.foldl_cons]
      exact ih

/-! ### What no fate can change -/

theorem take_over {l u : List UInt8} {k n : Nat} (h : n ≤ k) (hl : k ≤ l.length) : (over l k u).take n = l.take n := by
  unfold over
  rw [List.append_assoc, List.take_append_of_le_length (by rw [List.length_take]; omega), List.take_take, Nat.min_eq_left h]

theorem lastF_keeps {p : DW} {f : DF} {n m : Nat} (hp : n ≤ p.at_) (hf : n ≤ f.last.length) (hm : m ≤ p.text.length) : (lastF p m f).last.take n = f.last.take n ∧ n ≤ (lastF p m f).last.length := by
  unfold lastF
  split
  · have hr : (f.last ++ List.replicate (p.at_ + m - f.last.length) 0).length = max f.last.length (p.at_ + m) := by rw [List.length_append, List.length_replicate]; omega
    refine ⟨?_, ?_⟩
    · show (over _ _ _).take n = _
      rw [take_over hp (by omega), List.take_append_of_le_length hf]
    · show n ≤ (over _ _ _).length
      rw [over_length (by rw [hr, List.length_take]; omega), hr]
      omega
  · exact ⟨rfl, hf⟩

theorem fateF_keeps {x : Int} {p : DW} {f : DF} {n : Nat} (hp : n ≤ p.at_) (hf : n ≤ f.last.length) : (fateF x p f).last.take n = f.last.take n ∧ n ≤ (fateF x p f).last.length := by
  unfold fateF
  split
  · exact lastF_keeps (p := halved p) hp hf (Nat.le_refl _)
  · split
    · exact lastF_keeps hp hf (Nat.le_refl _)
    · exact ⟨rfl, hf⟩

theorem fatesF_keeps : ∀ (l : List (DW × Int)) {f : DF} {n : Nat}, (∀ q ∈ l, n ≤ q.1.at_) → n ≤ f.last.length → (fatesF l f).last.take n = f.last.take n ∧ n ≤ (fatesF l f).last.length
  | [], _, _, _, h => ⟨rfl, h⟩
  | q :: l, f, n, hq, h => by
    obtain ⟨h1, h2⟩ := fateF_keeps (x := q.2) (hq q List.mem_cons_self) h
    obtain ⟨h3, h4⟩ := fatesF_keeps l (f := fateF q.2 q.1 f) (fun q' h' => hq q' (List.mem_cons_of_mem _ h')) h2
    exact ⟨h3.trans h1, h4⟩

/-! ### The device while the law's calls are made -/

def nameK : ByteArray := ⟨#[107, 101, 112, 116]⟩

structure Kp (s : List UInt8) (i : Nat) (D : DD) : Prop where
  rising : Rising D.files
  file : ∃ A f B, D.files = A ++ f :: B ∧ f.name = nameK ∧ f.last = s ∧ s.length ≤ f.seen.length
  small : ∀ f ∈ D.files, f.seen.length ≤ 700 * (i + 1) ∧ f.last.length ≤ 700
  len : D.files.length ≤ i + 1
  made : 0 ≤ D.made ∧ D.made ≤ i + 1
  wait : ∀ p ∈ D.wait, s.length ≤ p.at_ ∧ p.at_ + p.text.length ≤ 700 * (i + 1)
  waits : D.wait.length ≤ 700 * (i + 1)
  most : D.most = 200
  fuse : -1 ≤ D.fuse ∧ D.fuse ≤ 9223372036854775807
  count : 0 ≤ D.count ∧ D.count ≤ 700 * (i + 1)

theorem Kp.mono {s : List UInt8} {i : Nat} {D : DD} (h : Kp s i D) : Kp s (i + 1) D where
  rising := h.rising
  file := h.file
  small := fun f hf => by have := h.small f hf; omega
  len := by have := h.len; omega
  made := by have := h.made; omega
  wait := fun p hp => by have := h.wait p hp; omega
  waits := by have := h.waits; omega
  most := h.most
  fuse := h.fuse
  count := by have := h.count; omega

theorem Kp.create {s : List UInt8} {i : Nat} {D : DD} (h : Kp s i D) (name : ByteArray) : Kp s (i + 1) (D.create name).2 := by
  unfold DD.create
  split
  · exact h.mono
  · split
    · exact h.mono
    · split
      · exact h.mono
      · rename_i hh
        have hh' : isHead name (behind name D.files) = false := by simpa using hh
        have hm := h.mono
        obtain ⟨A, f, B, e, hn, hl, hs⟩ := h.file
        have hne : f.name ≠ name := fun e' => by
          have hb := (behind_mid (A := A) (f := f) (B := B) (by rw [← e]; exact h.rising)).2
          rw [e', ← e] at hb
          rw [hb] at hh'
          simp [isHead, e', cmpS_refl] at hh'
        have hmem : f ∈ ahead name D.files ∨ f ∈ behind name D.files := by
          have : f ∈ ahead name D.files ++ behind name D.files := by rw [ahead_behind, e]; simp
          simpa using this
        have hri : Rising (ahead name D.files ++ ⟨D.made, name, [], []⟩ :: behind name D.files) := rising_put (name := name) (nw := ⟨D.made, name, [], []⟩) (fs := D.files) rfl h.rising hh'
        show Kp s (i + 1) ⟨ahead name D.files ++ ⟨D.made, name, [], []⟩ :: behind name D.files, D.wait, D.most, D.fuse, D.off, D.count, D.made + 1⟩
        refine Kp.mk hri ?_ ?_ ?_ ?_ hm.wait hm.waits hm.most hm.fuse hm.count
        · rcases hmem with hmem | hmem
          · obtain ⟨a, b, e'⟩ := List.append_of_mem hmem
            exact ⟨a, f, b ++ ⟨D.made, name, [], []⟩ :: behind name D.files, by show ahead name D.files ++ _ = _; rw [e']; simp, hn, hl, hs⟩
          · obtain ⟨a, b, e'⟩ := List.append_of_mem hmem
            exact ⟨ahead name D.files ++ ⟨D.made, name, [], []⟩ :: a, f, b, by show ahead name D.files ++ _ :: behind name D.files = _; rw [e']; simp, hn, hl, hs⟩
        · intro g hg
          have hg : g ∈ ahead name D.files ++ ⟨D.made, name, [], []⟩ :: behind name D.files := hg
          have : g = ⟨D.made, name, [], []⟩ ∨ g ∈ D.files := by
            rcases List.mem_append.1 hg with hg | hg
            · right; rw [← ahead_behind name D.files]; exact List.mem_append_left _ hg
            · rcases List.mem_cons.1 hg with rfl | hg
              · left; rfl
              · right; rw [← ahead_behind name D.files]; exact List.mem_append_right _ hg
          rcases this with rfl | hg
          · simp
          · exact hm.small g hg
        · have h1 := congrArg List.length (ahead_behind name D.files)
          have h2 := h.len
          show (ahead name D.files ++ _ :: behind name D.files).length ≤ _
          rw [List.length_append] at h1 ⊢
          rw [List.length_cons]; omega
        · have := h.made
          show 0 ≤ D.made + 1 ∧ D.made + 1 ≤ _
          omega

theorem Kp.arm {s : List UInt8} {i : Nat} {D : DD} (h : Kp s i D) {n : Int} (h0 : 0 ≤ n) (h1 : n ≤ 9223372036854775807) : Kp s (i + 1) { D with fuse := n } := by
  have hm := h.mono
  exact ⟨hm.rising, hm.file, hm.small, hm.len, hm.made, hm.wait, hm.waits, hm.most, ⟨by show -1 ≤ n; omega, h1⟩, hm.count⟩

theorem lays_some : ∀ (ps : List DW) (l : List UInt8) (B : Nat), (∀ p ∈ ps, p.at_ + p.text.length ≤ B) → l.length ≤ B → l.length ≤ (ps.foldl lay l).length ∧ (ps.foldl lay l).length ≤ B
  | [], _, _, _, h => ⟨Nat.le_refl _, h⟩
  | p :: ps, l, B, hp, h => by
    have h1 := hp p List.mem_cons_self
    have hl := lay_length l p
    obtain ⟨h2, h3⟩ := lays_some ps (lay l p) B (fun q hq => hp q (List.mem_cons_of_mem _ hq)) (by omega)
    exact ⟨by rw [List.foldl_cons]; omega, h3⟩

theorem Kp.append {s : List UInt8} {i : Nat} {D : DD} (h : Kp s i D) (t : List UInt8) (ht : t.length ≤ 700) : Kp s (i + 1) (D.append nameK t).2 := by
  unfold DD.append
  split
  · exact h.mono
  · rename_i hoff
    obtain ⟨A, f, B, e, hn, hl, hs⟩ := h.file
    obtain ⟨ha, hb⟩ := behind_mid (A := A) (f := f) (B := B) (by rw [← e]; exact h.rising)
    rw [hn, ← e] at ha hb
    have hc : ¬ cmpS f.name nameK ≠ 0 := by rw [hn, cmpS_refl]; simp
    have hfs := h.small f (by rw [e]; simp)
    rw [hb]
    dsimp only
    rw [if_neg hc]
    unfold DD.write
    rw [if_neg hoff, hb]
    dsimp only
    rw [if_neg hc, Int.toNat_natCast]
    split
    · exact h.mono
    · split
      · exact h.mono
      · have hm := h.mono
        obtain ⟨n, h1, h2, h3, h4, h5, h6⟩ := wr_some t.length f.id f.seen.length t ⟨f.seen, D.wait, D.fuse, D.count, false⟩ h.fuse.1
        have hpk : ∀ p ∈ (pcs t.length f.id f.seen.length t).take n, f.seen.length ≤ p.at_ ∧ p.at_ + p.text.length ≤ f.seen.length + t.length := fun p hp => (pcs_ok _ _ _ _ p (List.mem_of_mem_take hp)).2
        have hpl := pcs_len t.length f.id f.seen.length t
        obtain ⟨R, hR⟩ : ∃ R, wr t.length f.id f.seen.length t ⟨f.seen, D.wait, D.fuse, D.count, false⟩ = R := ⟨_, rfl⟩
        rw [hR] at h2 h3 h4 h5 h6 ⊢
        obtain ⟨h7, h8⟩ := lays_some ((pcs t.length f.id f.seen.length t).take n) f.seen (f.seen.length + t.length) (fun p hp => (hpk p hp).2) (by omega)
        have hR7 : f.seen.length ≤ R.seen.length := by rw [h2]; exact h7
        have hR8 : R.seen.length ≤ f.seen.length + t.length := by rw [h2]; exact h8
        have hfiles : ahead nameK D.files ++ { f with seen := R.seen } :: B = A ++ { f with seen := R.seen } :: B := by rw [ha]
        have h3' : R.wait = D.wait ++ (pcs t.length f.id f.seen.length t).take n := h3
        have h4' : R.count = D.count + n := h4
        have h6' : R.fuse ≤ D.fuse := h6
        have hcnt := h.count
        have hfu := h.fuse
        have hwl := h.waits
        refine ⟨?_, ⟨A, { f with seen := R.seen }, B, hfiles, hn, hl, by show s.length ≤ R.seen.length; omega⟩, ?_, ?_, hm.made, ?_, ?_, hm.most, ⟨h5, by show R.fuse ≤ _; omega⟩, ?_⟩
        · show Rising (ahead nameK D.files ++ { f with seen := R.seen } :: B)
          rw [hfiles]
          exact rising_mid (f := f) rfl (by rw [← e]; exact h.rising)
        · intro g hg
          have hg : g ∈ ahead nameK D.files ++ { f with seen := R.seen } :: B := hg
          rw [hfiles] at hg
          have : g = { f with seen := R.seen } ∨ g ∈ D.files := by
            rw [e]
            rcases List.mem_append.1 hg with hg | hg
            · right; exact List.mem_append_left _ hg
            · rcases List.mem_cons.1 hg with rfl | hg
              · left; rfl
              · right; simp [hg]
          rcases this with rfl | hg
          · refine ⟨by show R.seen.length ≤ _; omega, hfs.2⟩
          · exact hm.small g hg
        · have := h.len
          show (ahead nameK D.files ++ { f with seen := R.seen } :: B).length ≤ _
          rw [hfiles]
          rw [e] at this
          rw [List.length_append, List.length_cons] at this ⊢
          omega
        · intro p hp
          have hp : p ∈ R.wait := hp
          rw [h3', List.mem_append] at hp
          rcases hp with hp | hp
          · exact hm.wait p hp
          · have := hpk p hp
            omega
        · show R.wait.length ≤ _
          rw [h3', List.length_append, List.length_take]
          omega
        · show 0 ≤ R.count ∧ R.count ≤ _
          omega

/-- The device when the first write is synced. -/
def DD.kept (s : List UInt8) (c : Int) : DD := { files := [⟨0, nameK, s, s⟩], wait := [], most := 200, fuse := -1, off := false, count := c, made := 1 }

def DD.oneK : DD := { files := [⟨0, nameK, [], []⟩], wait := [], most := 200, fuse := -1, off := false, count := 0, made := 1 }
theorem oneK_eq : (DD.empty 200).create nameK = (0, DD.oneK) := by kernel_rfl

theorem kept_write (t : List UInt8) (ht : t.length ≤ 700) : ∃ D, DD.oneK.write nameK 0 t = (0, D) ∧ D.off = false ∧ D.sync = (0, DD.kept t (pcs t.length 0 0 t).length) ∧ D.files.length = 1 ∧ PiecesOk D.wait ∧ D.wait.length ≤ 700 := by
  have hfree : DD.oneK.free = 200 := by rw [DD.oneK, free_one]; simp [DF.takes, secs]
  have htk : DF.takes ⟨0, nameK, [], []⟩ = 0 := by simp [DF.takes, secs]
  have hw := write_first (D := DD.oneK) (f := ⟨0, nameK, [], []⟩) (r := []) rfl rfl 0 t (by omega) (by rw [hfree, htk]; unfold secs; omega)
  rw [wr_all _ _ _ _ _ (.inl (by simp [DD.oneK]))] at hw
  have hl : (pcs t.length 0 0 t).foldl lay [] = t := by
    have := lays_end t.length 0 t [] (Nat.le_refl _)
    simpa using this
  have hb : burns (pcs t.length 0 0 t).length (-1) = -1 := burns_neg (by decide) _
  refine ⟨⟨[⟨0, nameK, [], t⟩], pcs t.length 0 0 t, 200, -1, false, (pcs t.length 0 0 t).length, 1⟩, hw.trans ?_, rfl, ?_, rfl, fun p hp => ?_, ?_⟩
  · show (downE false, (⟨[⟨0, nameK, [], (pcs t.length 0 0 t).foldl lay []⟩], [] ++ pcs t.length 0 0 t, 200, burns (pcs t.length 0 0 t).length (-1), false, (0 : Int) + ((pcs t.length 0 0 t).length : Int), 1⟩ : DD)) = _
    rw [hl, hb, List.nil_append, Int.zero_add]
    rfl
  · have hsy := sync_pcs t.length 0 t ⟨0, nameK, [], t⟩ (Nat.le_refl _)
    show (0, (⟨[syncF (pcs t.length 0 0 t) ⟨0, nameK, [], t⟩], [], 200, -1, false, _, 1⟩ : DD)) = _
    have hsy : syncF (pcs t.length 0 0 t) ⟨0, nameK, [], t⟩ = ⟨0, nameK, t, t⟩ := by rw [hsy]; show (⟨0, nameK, (pcs t.length 0 0 t).foldl lay [], t⟩ : DF) = _; rw [hl]
    rw [hsy]
    rfl
  · have := pcs_ok _ _ _ _ p hp
    show p.at_ + p.text.length ≤ 2097152
    omega
  · have := pcs_len t.length 0 0 t
    show (pcs t.length 0 0 t).length ≤ 700
    omega

theorem kept_start (t : List UInt8) (ht : t.length ≤ 700) : Kp t 0 (DD.kept t (pcs t.length 0 0 t).length) := by
  have hp := pcs_len t.length 0 0 t
  refine ⟨rising_one _, ⟨[], ⟨0, nameK, t, t⟩, [], rfl, rfl, rfl, Nat.le_refl _⟩, fun f hf => ?_, by simp [DD.kept], by simp [DD.kept], fun p hp => by simp [DD.kept] at hp, by simp [DD.kept], rfl, by simp [DD.kept], ?_⟩
  · simp only [DD.kept, List.mem_cons, List.not_mem_nil, or_false] at hf
    subst hf
    exact ⟨by show t.length ≤ _; omega, ht⟩
  · show (0 : Int) ≤ ((pcs t.length 0 0 t).length : Int) ∧ ((pcs t.length 0 0 t).length : Int) ≤ _
    omega

/-- Whatever the fates: what was synced is read. -/
theorem Kp.end {s : List UInt8} {i : Nat} {D : DD} (h : Kp s i D) (hi : i ≤ 100) (xs : List Int) :
    Rising (D.crash xs).files ∧ Small (D.crash xs).files ∧ (D.crash xs).files.length ≤ 101 ∧ (D.crash xs).read nameK 0 s.length = (s, 0) ∧ ∀ f ∈ D.files, (fatesF (D.wait.zip xs) f).last.length ≤ 2 ^ 40 := by
  have hz : ∀ q ∈ D.wait.zip xs, s.length ≤ q.1.at_ ∧ q.1.at_ + q.1.text.length ≤ 700 * (i + 1) := fun q hq => h.wait q.1 (List.of_mem_zip hq).1
  have hsm : ∀ f ∈ D.files, (fatesF (D.wait.zip xs) f).last.length ≤ 700 * (i + 1) := fun f hf =>
    fatesF_small (B := 700 * (i + 1)) _ _ (fun q hq => (hz q hq).2) (by have := (h.small f hf).2; omega)
  have hnm : ∀ f, (reborn (fatesF (D.wait.zip xs) f)).name = f.name := fun f => fatesF_name _ _
  have hri : Rising (D.files.map fun f => reborn (fatesF (D.wait.zip xs) f)) := rising_map hnm h.rising
  refine ⟨hri, fun f hf => ?_, ?_, ?_, fun f hf => by have := hsm f hf; omega⟩
  · obtain ⟨g, hg, rfl⟩ := List.mem_map.1 (show f ∈ D.files.map fun f => reborn (fatesF (D.wait.zip xs) f) from hf)
    have := hsm g hg
    exact ⟨by show (fatesF (D.wait.zip xs) g).last.length ≤ _; omega, by show (fatesF (D.wait.zip xs) g).last.length ≤ _; omega⟩
  · show (D.files.map _).length ≤ _
    rw [List.length_map]
    have := h.len
    omega
  · obtain ⟨A, f, B, e, hn, hl, _⟩ := h.file
    obtain ⟨g, hg⟩ : ∃ g : DF → DF, (fun f => reborn (fatesF (D.wait.zip xs) f)) = g := ⟨_, rfl⟩
    have hfl : (D.crash xs).files = A.map g ++ g f :: B.map g := by
      show D.files.map _ = _
      rw [hg, e]; simp
    have hgn : (g f).name = nameK := by rw [← hg]; exact (hnm f).trans hn
    have hbm := (behind_mid (A := A.map g) (f := g f) (B := B.map g) (by rw [← hfl]; exact hri)).2
    rw [hgn, ← hfl] at hbm
    unfold DD.read
    have hoff : (D.crash xs).off = false := rfl
    rw [hoff, hbm]
    simp only [Bool.false_eq_true, if_false]
    rw [if_neg (by rw [hgn, cmpS_refl]; simp), if_neg (by omega), Int.toNat_natCast]
    have hk := (fatesF_keeps (D.wait.zip xs) (f := f) (n := s.length) (fun q hq => (hz q hq).1) (by rw [hl]; exact Nat.le_refl _)).1
    have : (g f).seen = (fatesF (D.wait.zip xs) f).last := by rw [← hg]; rfl
    rw [this]
    show (((fatesF (D.wait.zip xs) f).last.drop 0).take s.length, (0 : Int)) = _
    rw [List.drop_zero, hk, hl, List.take_of_length_le (Nat.le_refl _)]

section
variable {W w : World} {L : List SP}

theorem Keeps_law (s : ByteArray) {ms : Sl} {os : List Op} {fs : Sl} {xs : List Int} (hO : ∀ A, ROOps W A ms os) (hA : ∀ A, ROInts W A fs xs) (hs : Sat W w L) :
    Ret Try.prog F.barquelaw14_DiskKeeps [.string s, .slice ms.a ms.len ms.cap, .slice fs.a fs.len fs.cap] w fun v w' => v = .bool true ∧ Sat W w' L := by
  suffices H : ∀ K : Value → World → Prop, (∀ w', Sat W w' L → K (.bool true) w') → S.barquelaw14_DiskKeeps s ms fs K w from S.barquelaw14_DiskKeeps_ok _ ms fs _ _ (H _ fun _ h => ⟨rfl, h⟩)
  intro K hK
  have hawake : ∀ w', Sat W w' L → ∀ K' : Bool → World → Prop, (∀ w', Sat W w' L → K' true w') → XCall Try.prog F.barquelaw14_awake [] (.leaf .bool) w' K' := fun w' h K' hk =>
    xcall (awake_spec h) fun v w'' ⟨e, h'⟩ => ⟨true, e, hk w'' h'⟩
  refine xcalls (New_yes 200 (by omega) (by omega) hs) ?_
  rintro v w1 ⟨d, rfl, h1⟩
  refine ⟨(some ⟨d, 0, none⟩, (0 : Int), ()), rfl, xjoin0 (XIf.no rfl (XIf.no rfl ?_))⟩
  refine xcall_eq (cut_spec s) (str (s.data.toList.take 700)) rfl ?_
  obtain ⟨t, ht⟩ : ∃ t, s.data.toList.take 700 = t := ⟨_, rfl⟩
  have htl : t.length ≤ 700 := by rw [← ht, List.length_take]; omega
  rw [ht]
  have hsz : (str t).size = t.length := str_size t
  refine xcall (Create_spec (name := nameK) h1 trivial (by simp [DD.empty]) (by simp [DD.empty])) ?_
  rintro v w2 ⟨rfl, h2⟩
  rw [oneK_eq] at h2 ⊢
  refine ⟨(0 : Int), rfl, xjoin (fun st w' => st = (false, ()) ∧ Sat W w' (DiskP d (DD.kept t (pcs t.length 0 0 t).length) :: L)) (fun J hJ => ?_) ?_⟩
  · refine xcall (Write_spec (name := nameK) (at_ := 0) (t := str t) h2 (rising_one _) (small_one (by decide)) (by simp [DD.oneK]) (by simp [DD.oneK]) (by simp [DD.oneK]) (by simp [DD.oneK]) (by simp [DD.oneK]) (by rw [hsz]; simp only [DD.oneK]; omega) (by rw [hsz]; simp only [DD.oneK, List.length_nil]; omega)) ?_
    rintro v w3 ⟨rfl, h3⟩
    rw [str_toList] at h3 ⊢
    obtain ⟨D, hw, hoff, hsy, hfl, hpo, hwl⟩ := kept_write t htl
    rw [hw] at h3 ⊢
    refine ⟨(0 : Int), rfl, XIf.no rfl (xcall (Sync_spec h3 (by show D.files.length ≤ _; omega) hpo (by show D.wait.length ≤ _; omega)) ?_)⟩
    rintro v w4 ⟨rfl, h4⟩
    have h4 : Sat W w4 (DiskP d D.sync.2 :: L) := h4
    rw [hsy] at h4
    have e4 : D.sync.1 = 0 := by rw [hsy]
    exact ⟨(0 : Int), by show Value.int .i64 D.sync.1 = _; rw [e4]; rfl, hJ _ _ ⟨rfl, h4⟩⟩
  rintro _ w4 ⟨rfl, h4⟩
  refine XIf.no rfl ?_
  refine xloop (fun (st : Int × Unit) w => ∃ (i : Nat) (D : DD), i ≤ 40 ∧ i ≤ os.length ∧ st = ((i : Int), ()) ∧ Kp t i D ∧ Sat W w (DiskP d D :: L)) (fun st => (40 - st.1).toNat)
    ⟨0, _, by omega, Nat.zero_le _, rfl, kept_start t htl, h4⟩ ?_
  clear h4 h2 h1
  rintro next _ w ⟨i, D, hi, hio, rfl, hkp, h⟩ hnext
  have hol : os.length = ms.len := (hO emp).1
  refine xjoin (fun st w' => st = (decide (i < os.length ∧ i < 40), ()) ∧ w' = w) (fun J hJ => ?_) ?_
  · by_cases h0 : i < os.length
    · refine XIf.yes (decide_eq_true (show (i : Int) < (ms.len : Int) by omega)) (hJ _ _ ⟨?_, rfl⟩)
      have : ((i : Int) < 40) ↔ (i < os.length ∧ i < 40) := by omega
      simp only [this]
    · exact XIf.no (decide_eq_false (show ¬ (i : Int) < (ms.len : Int) by omega)) (hJ _ _ ⟨by simp [h0], rfl⟩)
  rintro _ w' ⟨rfl, rfl⟩
  by_cases hmore : i < os.length ∧ i < 40
  · refine XIf.yes (decide_eq_true hmore) (xjoin (fun (_ : Unit) w'' => ∃ D', Kp t (i + 1) D' ∧ Sat W w'' (DiskP d D' :: L)) (fun J hJ => ?_) ?_)
    case refine_2 =>
      rintro _ w'' ⟨D', hkp', h'⟩
      exact xlet ((i + 1 : Nat) : Int) (by dsimp only; rw [wi (by omega) (by omega)]; omega) (hnext _ _ ⟨i + 1, D', by omega, by omega, rfl, hkp', h'⟩ (by dsimp only; omega))
    obtain ⟨o, ho⟩ : ∃ o, os[i]? = some o := ⟨_, List.getElem?_eq_getElem hmore.1⟩
    have hok := (hO emp).2.1 o (List.mem_of_getElem? ho)
    obtain ⟨b0, off, hma, hcell⟩ := (hO (DiskP d D)).2.2 w' L h i o ho
    rw [hma]
    refine xnil ⟨⟨by omega, by show (i : Int) < (ms.len : Int); omega⟩, xloads (o.kind, o.at_, o.n, o.name, o.to, o.text, o.fates, ()) (fun j v hv => by rw [Int.toNat_natCast, Addr.add_mk, Addr.add_mk, Nat.add_assoc]; exact hcell j v hv) (xnew h fun b w3 h3 => ?_)⟩
    refine xstores (opCells o) 0 w3 _ h3 (by simp [opCells]) fun w4 h4 => ?_
    have h4 : Sat W w4 (pts b (opCells o) :: DiskP d D :: L) := h4
    have hkl := hkp.len
    have hkw := hkp.waits
    have hkc := hkp.count
    have hsm : Small D.files := fun f hf => by have := hkp.small f hf; omega
    -- Create
    refine xjoin (fun (_ : Unit) w5 => ∃ D', (o.kind = 0 ∧ Kp t (i + 1) D' ∨ Kp t i D' ∧ D' = D) ∧ Sat W w5 (pts b (opCells o) :: DiskP d D' :: L)) (fun J1 hJ1 => ?_) ?_
    · refine xload h4 0 rfl rfl ?_
      by_cases hk0 : o.kind = 0
      · refine XIf.yes (by simpa using hk0) (xload h4 3 rfl rfl (xcall (Create_spec (name := o.name) h4.swap hkp.rising (by omega) (by have := hkp.made; omega)) ?_))
        rintro v w5 ⟨rfl, h5⟩
        exact ⟨_, rfl, hJ1 _ _ ⟨_, .inl ⟨hk0, hkp.create o.name⟩, h5.swap⟩⟩
      · exact XIf.no (by simpa using hk0) (hJ1 _ _ ⟨D, .inr ⟨hkp, rfl⟩, h4⟩)
    rintro _ w5 ⟨D1, hD1, h5⟩
    -- Append
    refine xjoin (fun (_ : Unit) w6 => ∃ D', ((o.kind = 0 ∨ o.kind = 6 ∨ o.kind = 7) ∧ Kp t (i + 1) D' ∨ Kp t i D' ∧ D' = D) ∧ Sat W w6 (pts b (opCells o) :: DiskP d D' :: L)) (fun J2 hJ2 => ?_) ?_
    · refine xjoin (fun st w6 => st = (decide (o.kind = 6 ∨ o.kind = 7), ()) ∧ w6 = w5) (fun J3 hJ3 => ?_) ?_
      · refine xload h5 0 rfl rfl ?_
        by_cases hk6 : o.kind = 6
        · exact XIf.yes (by simpa using hk6) (hJ3 _ _ ⟨by simp [hk6], rfl⟩)
        · refine XIf.no (by simpa using hk6) (xload h5 0 rfl rfl (hJ3 _ _ ⟨?_, rfl⟩))
          by_cases hk7 : o.kind = 7 <;> simp [hk6, hk7]
      rintro _ w6 ⟨rfl, rfl⟩
      by_cases hk : o.kind = 6 ∨ o.kind = 7
      · obtain ⟨hkp1, rfl⟩ : Kp t i D1 ∧ D1 = D := by
          rcases hD1 with ⟨h0, _⟩ | h
          · omega
          · exact h
        refine XIf.yes (decide_eq_true hk) (xload h5 5 rfl rfl (xcall_eq (cut_spec o.text) (str (o.text.data.toList.take 700)) rfl ?_))
        have hul : (o.text.data.toList.take 700).length ≤ 700 := by rw [List.length_take]; omega
        have husz : (str (o.text.data.toList.take 700)).size ≤ 700 := by rw [str_size]; exact hul
        refine xcall (Append_spec (name := nameK) (t := str (o.text.data.toList.take 700)) h5.swap hkp.rising hsm (by omega) (by rw [hkp.most]; decide) hkp.fuse.2 hkp.fuse.1 hkp.count.1 (by omega) (by omega)) ?_
        rintro v w7 ⟨rfl, h7⟩
        refine ⟨_, rfl, hJ2 _ _ ⟨_, .inl ⟨.inr hk, ?_⟩, h7.swap⟩⟩
        rw [str_toList]
        exact hkp.append _ hul
      · refine XIf.no (decide_eq_false hk) (hJ2 _ _ ⟨D1, ?_, h5⟩)
        rcases hD1 with ⟨h0, h1⟩ | h
        · exact .inl ⟨.inl h0, h1⟩
        · exact .inr h
    rintro _ w6 ⟨D2, hD2, h6⟩
    -- Arm
    refine xload h6 0 rfl rfl ?_
    by_cases hk9 : o.kind = 9
    · obtain ⟨hkp2, rfl⟩ : Kp t i D2 ∧ D2 = D := by
        rcases hD2 with ⟨h0, _⟩ | h
        · omega
        · exact h
      refine XIf.yes (by simpa using hk9) (xload h6 2 rfl rfl (xcall (Arm_spec o.n h6.swap) ?_))
      rintro v w7 ⟨ha, hb, hc⟩
      by_cases hoff : D2.off = true
      · obtain ⟨rfl, h7⟩ := ha hoff
        exact ⟨_, rfl, hJ _ _ ⟨D2, hkp.mono, h7.swap.drop⟩⟩
      have hoff' : D2.off = false := by simpa using hoff
      by_cases hneg : o.n < 0
      · obtain ⟨rfl, h7⟩ := hb hoff' hneg
        exact ⟨_, rfl, hJ _ _ ⟨D2, hkp.mono, h7.swap.drop⟩⟩
      · obtain ⟨rfl, h7⟩ := hc hoff' (by omega)
        exact ⟨_, rfl, hJ _ _ ⟨_, hkp.arm (by omega) hok.n.2, h7.swap.drop⟩⟩
    · refine XIf.no (by simpa using hk9) (hJ _ _ ⟨D2, ?_, h6.drop⟩)
      rcases hD2 with ⟨_, h1⟩ | ⟨h1, _⟩
      · exact h1
      · exact h1.mono
  -- the crash
  obtain ⟨e1, e2, e3, e4, e5⟩ := hkp.end (by omega) xs
  have hkl := hkp.len
  have hkw := hkp.waits
  refine XIf.no (decide_eq_false hmore) (xcalls (Crash_spec (hA emp) h.add_emp.swap (by omega) (fun p hp => by have := hkp.wait p hp; show p.at_ + p.text.length ≤ 2097152; omega) (by omega) e5) ?_)
  rintro v w5 ⟨rfl, h5⟩
  have h5 : Sat W w5 (DiskP d (D.crash xs) :: L) := h5.swap.drop
  have hn : (((str t).size : Nat) : Int) = (t.length : Int) := by rw [hsz]
  rw [hn]
  refine ⟨(), rfl, xcalls (Read_spec (name := nameK) (at_ := 0) (n := t.length) h5 e1 e2 (by omega)) ?_⟩
  rintro v w6 ⟨rfl, hq6⟩
  rw [e4]
  exact ⟨(_, _, ()), rfl, xjoin0 (XIf.yes rfl (XIf.yes (sEq_self _) (hawake w6 (h5.quiet hq6).drop _ fun w' h => hK w' h)))⟩

end
end Go.X
