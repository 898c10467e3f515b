import Derived.Test.YtmbiffmfcloepaaGreatDoorWTears
import Derived.Test.YtmbiffmfcloepaaGreatDoorWAll

/-! A device behind a crash: what its segments hold; what opening finds. -/
namespace Go.X

/-- What a segment's bytes tell: records, and nothing behind. -/
structure Found (M : Bk) (n : Nat) (C : List UInt8) (rs : List (List UInt8)) (bs m : List UInt8) : Prop where
  enc : Enc M (firstM n) rs bs m
  pre : ∃ rest, C = bs ++ rest
  dead : Dead M C bs.length m

theorem Found.load {M : Bk} {n : Nat} {C bs m : List UInt8} {rs : List (List UInt8)} (h : Found M n C rs bs m) {c : Bool × List (List UInt8)} (hc : cores rs (false, []) = some c) : loadF M C n = ⟨bs.length, m, c.1, c.2⟩ := by
  obtain ⟨rest, e⟩ := h.pre
  have hn := h.dead.none
  rw [e] at hn ⊢
  exact loadF_enc h.enc hc hn

theorem Found.len {M : Bk} {n : Nat} {C bs m : List UInt8} {rs : List (List UInt8)} (h : Found M n C rs bs m) : bs.length ≤ C.length := by
  obtain ⟨rest, e⟩ := h.pre
  rw [e, List.length_append]; omega

theorem Found.take {M : Bk} {n : Nat} {C bs m : List UInt8} {rs : List (List UInt8)} (h : Found M n C rs bs m) : C.take bs.length = bs := by
  obtain ⟨rest, e⟩ := h.pre
  rw [e]; exact List.take_left' rfl

/-- Records with noughts behind. -/
theorem found_pad {M : Bk} {n : Nat} {rs : List (List UInt8)} {bs m : List UInt8} (h : Enc M (firstM n) rs bs m) (E : Nat) : Found M n (pad bs E) rs bs m :=
  ⟨h, ⟨_, rfl⟩, .zero fun i hi => by rw [get_pad, get_past hi]⟩

theorem loadW_mid {D : DD} {A B : List DF} {f : DF} (hD : D.files = A ++ f :: B) (hr : Rising D.files) (ho : D.off = false) {n : Nat} (hn : f.name = nm n) (M : Bk) : loadW D M n = some (loadF M f.seen n) := by
  unfold loadW
  rw [← hn, size_mid hD hr ho]
  dsimp only
  rw [if_neg (fun h => h rfl)]
  have := read_mid hD hr ho 0 f.seen.length
  rw [List.drop_zero, List.take_length] at this
  have e : D.read f.name 0 (f.seen.length : Int) = (f.seen, 0) := this
  rw [e, if_neg (fun h => h rfl)]

/-! ### A file whose writes may not have lasted -/

/-- A segment's file: what lasts of it, what waits. -/
structure Half (W : List DW) (M : Bk) (n : Nat) (f : DF) (E0 : Nat) (rs0 : List (List UInt8)) (P m0 : List UInt8) (cs : List (List (List UInt8))) (ts : List (List UInt8)) (m1 : List UInt8) : Prop where
  name : f.name = nm n
  enc0 : Enc M (firstM n) rs0 P m0
  encC : EncC M m0 cs ts m1
  last : f.last = pad P E0
  wait : ∃ k, W.filter (fun p => p.id == f.id) = (wpcs f.id P.length ts).take k

theorem Half.crash {W : List DW} {M : Bk} {n E0 : Nat} {f : DF} {rs0 : List (List UInt8)} {P m0 m1 : List UInt8} {cs : List (List (List UInt8))} {ts : List (List UInt8)} (h : Half W M n f E0 rs0 P m0 cs ts m1) (hM : M.length < 65536) (xs : List Int) :
    ∃ rs1 rs2 b1 m2, cs.flatten = rs1 ++ rs2 ∧ Found M n (fatesF (W.zip xs) f).last (rs0 ++ rs1) (P ++ b1) m2 ∧ (fatesF (W.zip xs) f).last.length ≤ max (max P.length E0) (P.length + ts.flatten.length) ∧ (rs2 = [] → b1 = ts.flatten) := by
  obtain ⟨qs, q1, q2, q3⟩ := fates_keeps f.id W xs f rfl
  obtain ⟨k, hk⟩ := h.wait
  rw [hk] at q1
  obtain ⟨κ, k1, k2, k3, k4, k5⟩ := mask_many f.id ts P.length qs f.last k q1 q2
  rw [q3]
  obtain ⟨C, hC⟩ : ∃ C, keeps qs f.last = C := ⟨_, rfl⟩
  rw [hC] at k2 k4 k5 ⊢
  rw [h.last] at k2 k4 k5
  rw [pad_length] at k4 k5
  have hget : ∀ i, C.getD i 0 = if (decide (i < P.length) || κ i) then (P ++ ts.flatten).getD i 0 else 0 := by
    intro i
    rw [k2, get_append, get_pad]
    by_cases hκ : κ i = true
    · have := k1 i hκ
      rw [if_pos hκ, if_pos (by rw [hκ, Bool.or_true]), if_neg (by omega)]
    · rw [if_neg hκ]
      by_cases hi : i < P.length
      · rw [if_pos (by rw [decide_eq_true hi, Bool.true_or]), if_pos hi]
      · rw [if_neg (by rw [decide_eq_false hi, Bool.false_or]; exact hκ), get_past (by omega)]
  obtain ⟨rs1, rs2, b1, b2, m2, e1, e2, e3, e4, ⟨rest', e5⟩, e6⟩ := torn_many hM hget h.encC P rfl (by
      refine ext_get (by rw [List.length_take]; omega) fun i => ?_
      rw [get_take]
      by_cases hi : i < P.length
      · rw [if_pos hi, hget, decide_eq_true hi, Bool.true_or, if_pos rfl, get_append, if_pos hi]
      · rw [if_neg hi, get_past (by omega)]) fun p t q hq c c1 c2 hne => by
    refine k3 p t q hq c c1 c2 fun e => hne ?_
    rw [e, decide_eq_false (show ¬ c - 1 < P.length by omega), decide_eq_false (show ¬ c < P.length by omega)]
  refine ⟨rs1, rs2, b1, m2, e1, ⟨h.enc0.append e3, ⟨rest', by rw [e5, List.append_assoc]⟩, by rw [List.length_append]; exact e6⟩, k5, fun h0 => ?_⟩
  subst h0
  cases e4
  rw [e2, List.append_nil]

/-! ### A device behind a crash -/

/-- The power is on; a segment, and perhaps the next one, half made or whole. -/
structure Rec (D : DD) (M : Bk) (Q : List (List UInt8) → Prop) (n : Nat) (f : DF) (rs : List (List UInt8)) (bs m : List UInt8) (out : List (List UInt8)) : Prop where
  off : D.off = false
  wait : D.wait = []
  rising : Rising D.files
  made : f.id < D.made
  most : D.most ≤ 300
  fuse : -1 ≤ D.fuse
  room : (takesAll D.files : Int) ≤ D.most
  name : f.name = nm n
  same : f.seen = f.last
  found : Found M n f.last rs bs m
  core : cores rs (false, []) = some (true, out)
  ok : Q out
  files : D.files = [f] ∨ ∃ g rs' bs' m' c, D.files = [f, g] ∧ g.name = nm (n + 1) ∧ g.seen = g.last ∧ g.id < D.made ∧ g.id ≠ f.id ∧ Found M (n + 1) g.last rs' bs' m' ∧ cores rs' (false, []) = some c ∧ (c.1 = true → g.last = bs' ∧ Q c.2)

theorem segsW_one {D : DD} {f : DF} {n : Nat} (h : D.files = [f]) (hn : f.name = nm n) (hb : n < 100000000) : segsW D = [n] := by
  unfold segsW DD.names
  rw [h]
  simp only [List.map_cons, List.map_nil, List.reverse_cons, List.reverse_nil, List.nil_append, List.filterMap_cons, List.filterMap_nil, hn, nm, str_toList, segNum_segName n hb]

theorem segsW_two {D : DD} {f g : DF} {n k : Nat} (h : D.files = [f, g]) (hn : f.name = nm n) (hk : g.name = nm k) (hb : n < 100000000) (hb2 : k < 100000000) : segsW D = [k, n] := by
  unfold segsW DD.names
  rw [h]
  simp only [List.map_cons, List.map_nil, List.reverse_cons, List.reverse_nil, List.nil_append, List.cons_append, List.filterMap_cons, List.filterMap_nil, hn, hk, nm, str_toList, segNum_segName n hb, segNum_segName k hb2]

/-- What a wipe leaves of a device with one file. -/
theorem wipe_one {D : DD} {n : Nat} {f : DF} {bs : List UInt8} {l : LG} (hf : D.files = [f]) (ho : D.off = false) (hw : D.wait = []) (hmost : D.most ≤ 300) (hfuse : -1 ≤ D.fuse) (hroom : (takesAll D.files : Int) ≤ D.most)
    (hname : f.name = nm n) (hsame : f.seen = f.last) (hF : ∃ rest, f.last = bs ++ rest) (hln : l.n = n) (hle : l.end_ = bs.length) :
    ((wipeW D l).1 = 0 ∧ (∃ f', (wipeW D l).2.files = [f'] ∧ f'.name = f.name ∧ f'.id = f.id ∧ f'.last = pad bs f.last.length ∧ f'.seen = f'.last) ∧ (wipeW D l).2.off = false ∧ (wipeW D l).2.wait = [] ∧ (wipeW D l).2.most = D.most ∧ (wipeW D l).2.made = D.made ∧
      -1 ≤ (wipeW D l).2.fuse ∧ (D.fuse = -1 → (wipeW D l).2.fuse = -1) ∧ (f.last = pad bs f.last.length → (wipeW D l).2 = D)) ∨
    (D.fuse ≠ -1 ∧ (wipeW D l).1 = 14 ∧ (wipeW D l).2.off = true ∧ (wipeW D l).2.most = D.most ∧ (wipeW D l).2.made = D.made ∧ ∃ f' k, (wipeW D l).2.files = [f'] ∧ f'.name = f.name ∧ f'.id = f.id ∧ f'.last = f.last ∧
      (wipeW D l).2.wait = (pcs (f.last.length - bs.length) f.id bs.length (List.replicate (f.last.length - bs.length) 0)).take k) := by
  have hr : Rising D.files := by rw [hf]; exact rising_one f
  have hD : D.files = [] ++ f :: [] := hf
  obtain ⟨rest, hrest⟩ := hF
  have hlen : bs.length ≤ f.last.length := by rw [hrest, List.length_append]; omega
  have hrl : rest.length = f.last.length - bs.length := by rw [hrest, List.length_append]; omega
  have hsz := size_mid hD hr ho
  rw [hname] at hsz
  have hrd := read_mid hD hr ho bs.length (f.last.length - bs.length)
  rw [hname, hsame] at hrd
  have hrd2 : (f.last.drop bs.length).take (f.last.length - bs.length) = rest := by
    rw [← hrl]
    conv => lhs; rw [hrest, List.drop_left, List.take_length]
  rw [hrd2] at hrd
  have htk : takesAll D.files = secs f.last.length := by
    rw [hf]; simp [takesAll, DF.takes, hsame]
  have hbig : f.last.length ≤ 2097152 := by
    rw [htk] at hroom
    unfold secs at hroom
    omega
  obtain ⟨W, hW⟩ : ∃ W, wipeW D l = W := ⟨_, rfl⟩
  rw [hW]
  unfold wipeW at hW
  rw [hln, hle, hsz, hsame] at hW
  dsimp only at hW
  rw [if_neg (by decide), show (f.last.length : Int) - (bs.length : Int) = ((f.last.length - bs.length : Nat) : Int) by omega, hrd] at hW
  dsimp only at hW
  by_cases hz : allZ rest = true
  · rw [if_pos (.inr hz)] at hW
    subst hW
    left
    have hp : f.last = pad bs f.last.length := by
      have hz' := (allZ_iff rest).1 hz
      refine ext_get (by rw [pad_length]; omega) fun i => ?_
      rw [get_pad, hrest, get_append]
      split
      · rfl
      · rename_i h
        rw [get_past (a := bs) (by omega)]
        by_cases h2 : i - bs.length < rest.length
        · rw [List.getD_eq_getElem?_getD, List.getElem?_eq_getElem h2]
          exact hz' _ (List.getElem_mem h2)
        · exact get_past (by omega)
    exact ⟨rfl, ⟨f, hf, rfl, rfl, hp, hsame⟩, ho, hw, rfl, rfl, hfuse, fun h => h, fun _ => rfl⟩
  · rw [if_neg (by rintro (h | h); exact h rfl; exact hz h)] at hW
    have hfree : ¬ ((List.replicate rest.length (0 : UInt8)) ≠ [] ∧ D.free < (secs (bs.length + (List.replicate rest.length (0 : UInt8)).length) : Int) - f.takes) := by
      rintro ⟨_, h⟩
      rw [List.length_replicate, show bs.length + rest.length = f.last.length by omega] at h
      have ht : f.takes = secs f.last.length := by simp [DF.takes, hsame]
      unfold DD.free at h
      rw [ht] at h
      omega
    have hwr := write_yes hD hr ho (a := bs.length) (t := List.replicate rest.length 0) (by rw [List.length_replicate]; omega) hfree
    rw [hname] at hwr
    rw [hwr] at hW
    obtain ⟨g1, g2, g3, g4, g5⟩ := wr_cases (List.replicate rest.length (0 : UInt8)).length f.id bs.length (List.replicate rest.length 0) ⟨f.seen, D.wait, D.fuse, D.count, false⟩ (Nat.le_refl _) rfl hfuse
    obtain ⟨R, hR⟩ : ∃ R, wr (List.replicate rest.length (0 : UInt8)).length f.id bs.length (List.replicate rest.length 0) ⟨f.seen, D.wait, D.fuse, D.count, false⟩ = R := ⟨_, rfl⟩
    rw [hR] at hW g1 g2 g3 g4 g5
    dsimp only at g4 g5
    have hnz : ¬ f.last = pad bs f.last.length := by
      intro e
      apply hz
      rw [allZ_iff]
      intro b hb
      obtain ⟨i, hi, rfl⟩ := List.getElem_of_mem hb
      have e1 : f.last.getD (bs.length + i) 0 = rest[i] := by
        rw [hrest, get_append, if_neg (by omega), show bs.length + i - bs.length = i by omega, List.getD_eq_getElem?_getD, List.getElem?_eq_getElem hi]
        rfl
      rw [← e1, e, get_pad, get_past (by omega)]
    rcases g5 with ⟨a1, a2, a3⟩ | ⟨a1, k, a2, a3⟩
    · left
      rw [a1] at hW
      simp only [downE, ne_eq, not_true_eq_false, if_false] at hW
      have hon : (D.wrote [] f [] R).off = false := a1
      rw [sync_on hon] at hW
      subst hW
      rw [hw, List.nil_append] at a3
      have hlay : (pcs (List.replicate rest.length (0 : UInt8)).length f.id bs.length (List.replicate rest.length 0)).foldl lay f.last = pad bs f.last.length := by
        refine ext_get ?_ fun i => ?_
        · rw [lays_length _ _ _ _ _ (Nat.le_refl _), pad_length, List.length_replicate]
          split <;> omega
        · rw [get_lays _ _ _ _ _ _ (Nat.le_refl _), get_pad, get_zeros, List.length_replicate, hrest, get_append]
          by_cases h1 : i < bs.length
          · rw [if_neg (by omega), if_pos h1]
          · rw [get_past (a := bs) (by omega)]
            split
            · rfl
            · exact get_past (by omega)
      have hsync := sync_pcs (List.replicate rest.length (0 : UInt8)).length bs.length (List.replicate rest.length 0) { f with seen := R.seen } (Nat.le_refl _)
      have hsync : syncF (D.wrote [] f [] R).wait { f with seen := R.seen } = { f with seen := R.seen, last := pad bs f.last.length } := by
        rw [← hlay]
        show syncF R.wait _ = _
        rw [a3]
        exact hsync
      refine ⟨rfl, ⟨{ f with seen := R.seen, last := pad bs f.last.length }, ?_, rfl, rfl, rfl, ?_⟩, a1, rfl, rfl, rfl, g1, fun h => (g4 h).2, fun h => absurd h hnz⟩
      · show [syncF (D.wrote [] f [] R).wait { f with seen := R.seen }] = _
        rw [hsync]
      · show R.seen = pad bs f.last.length
        rw [a2, hsame]
        exact hlay
    · right
      rw [a1] at hW
      have h14 : ¬ (14 : Int) = 0 := by decide
      simp only [downE, ne_eq, h14, not_false_eq_true, if_true] at hW
      subst hW
      refine ⟨(fun e => by have := (g4 e).1; rw [a1] at this; cases this), rfl, a1, rfl, rfl, { f with seen := R.seen }, k, rfl, rfl, rfl, rfl, ?_⟩
      show R.wait = _
      rw [a3, hw, List.nil_append, List.length_replicate, hrl]

theorem crash_files {D : DD} (hw : D.wait = []) (hs : ∀ f ∈ D.files, f.seen = f.last) (xs : List Int) : D.crash xs = { D with fuse := -1, off := false } := by
  unfold DD.crash
  rw [hw]
  have : D.files.map (fun f => reborn (fatesF (([] : List DW).zip xs) f)) = D.files := by
    have e : ∀ l : List DF, (∀ f ∈ l, f.seen = f.last) → l.map (fun f => reborn (fatesF (([] : List DW).zip xs) f)) = l := by
      intro l
      induction l with
      | nil => intro _; rfl
      | cons f l ih =>
        intro h
        rw [List.map_cons, ih fun g hg => h g (List.mem_cons_of_mem _ hg)]
        congr 1
        have := h f List.mem_cons_self
        obtain ⟨i, nm, la, se⟩ := f
        dsimp only at this
        subst this
        rfl
    exact e _ hs
  obtain ⟨fs, w, mo, fu, of, co, ma⟩ := D
  dsimp only at *
  subst hw
  rw [← this]
  simp only [DD.mk.injEq, and_true]
  rw [this]
  exact this

theorem Rec.sames {D : DD} {M : Bk} {Q : List (List UInt8) → Prop} {n : Nat} {f : DF} {rs : List (List UInt8)} {bs m : List UInt8} {out : List (List UInt8)} (h : Rec D M Q n f rs bs m out) : ∀ g ∈ D.files, g.seen = g.last := by
  intro g hg
  rcases h.files with e | ⟨g', _, _, _, _, e, _, e2, _⟩
  · rw [e] at hg
    rw [List.mem_singleton.1 hg]; exact h.same
  · rw [e] at hg
    rcases List.mem_cons.1 hg with rfl | hg
    · exact h.same
    · rw [List.mem_singleton.1 hg]; exact e2

/-- Another fuse. -/
theorem Rec.fused {D : DD} {M : Bk} {Q : List (List UInt8) → Prop} {n : Nat} {f : DF} {rs : List (List UInt8)} {bs m : List UInt8} {out : List (List UInt8)} (h : Rec D M Q n f rs bs m out) (k : Int) (hk : -1 ≤ k) : Rec { D with fuse := k } M Q n f rs bs m out :=
  ⟨h.off, h.wait, h.rising, h.made, h.most, hk, h.room, h.name, h.same, h.found, h.core, h.ok, h.files⟩

theorem Rec.crash {D : DD} {M : Bk} {Q : List (List UInt8) → Prop} {n : Nat} {f : DF} {rs : List (List UInt8)} {bs m : List UInt8} {out : List (List UInt8)} (h : Rec D M Q n f rs bs m out) (xs : List Int) : D.crash xs = { D with fuse := -1 } ∧ Rec (D.crash xs) M Q n f rs bs m out := by
  have e : D.crash xs = { D with fuse := -1 } := by
    rw [crash_files h.wait h.sames]
    have := h.off
    obtain ⟨fs, w, mo, fu, of, co, ma⟩ := D
    dsimp only at *
    rw [this]
  exact ⟨e, by rw [e]; exact h.fused (-1) (Int.le_refl _)⟩

/-- One segment, whole, noughts behind. -/
structure Clean (D : DD) (M : Bk) (Q : List (List UInt8) → Prop) (n : Nat) (f : DF) (rs : List (List UInt8)) (bs m : List UInt8) (out : List (List UInt8)) : Prop where
  rec_ : Rec D M Q n f rs bs m out
  one : D.files = [f]
  pads : f.last = pad bs f.last.length

/-- What opening a device with one segment does. -/
theorem wipe_rec {D : DD} {M : Bk} {Q : List (List UInt8) → Prop} {n : Nat} {f : DF} {rs : List (List UInt8)} {bs m : List UInt8} {out : List (List UInt8)} (h : Rec D M Q n f rs bs m out) (h1 : D.files = [f]) (hM : M.length < 65536) {l : LG} (hn : l.n = n) (hl : l.end_ = bs.length) :
    ((wipeW D l).1 = 0 ∧ (∃ f', Clean (wipeW D l).2 M Q n f' rs bs m out) ∧ (D.fuse = -1 → (wipeW D l).2.fuse = -1) ∧ (f.last = pad bs f.last.length → (wipeW D l).2 = D)) ∨
    (D.fuse ≠ -1 ∧ (wipeW D l).1 = 14 ∧ ∀ xs, ∃ f', Rec ((wipeW D l).2.crash xs) M Q n f' rs bs m out) := by
  have htk : takesAll D.files = secs f.last.length := by rw [h1]; simp [takesAll, DF.takes, h.same]
  have hroom := h.room
  rw [htk] at hroom
  rcases wipe_one h1 h.off h.wait h.most h.fuse h.room h.name h.same h.found.pre hn hl with ⟨e1, ⟨f', e2, e3, e4, e5, e6⟩, e7, e8, e9, e10, e11, e12, e13⟩ | ⟨e0, e1, e2, e3, e4, f', k, e5, e6, e7, e8, e9⟩
  · refine .inl ⟨e1, ⟨f', ⟨⟨e7, e8, by rw [e2]; exact rising_one _, by rw [e10, e4]; exact h.made, by rw [e9]; exact h.most, e11, ?_, by rw [e3]; exact h.name, e6, by rw [e5]; exact found_pad h.found.enc _, h.core, h.ok, .inl e2⟩, e2, ?_⟩⟩, e12, e13⟩
    · have hp : (pad bs f.last.length).length = f.last.length := by rw [pad_length]; have := h.found.len; omega
      rw [e2, e9]
      simp only [takesAll, DF.takes, e6, e5, hp, Nat.max_self, Nat.add_zero]
      exact hroom
    · rw [e5, pad_length]
      congr 1
      have := h.found.len
      omega
  · refine .inr ⟨e0, e1, fun xs => ?_⟩
    obtain ⟨qs, q1, q2, q3⟩ := fates_keeps f'.id (wipeW D l).2.wait xs f' rfl
    rw [e9] at q1
    have hfil : ((pcs (f.last.length - bs.length) f.id bs.length (List.replicate (f.last.length - bs.length) 0)).take k).filter (fun p => p.id == f'.id) = (pcs (f.last.length - bs.length) f.id bs.length (List.replicate (f.last.length - bs.length) 0)).take k :=
      List.filter_eq_self.2 fun p hp => by
        have := (pcs_ok _ _ _ _ p (List.mem_of_mem_take hp)).1
        rw [this, e7]; simp
    rw [hfil] at q1
    obtain ⟨d1, d2, d3, _⟩ := h.found.dead.wipe hM h.found.len q1 q2
    rw [e8] at q3
    have hfd : Found M n (keeps qs f.last) rs bs m := ⟨h.found.enc, ⟨(keeps qs f.last).drop bs.length, by
      conv => rhs; arg 1; rw [← h.found.take, ← d2]
      exact (List.take_append_drop _ _).symm⟩, d1⟩
    have hcf : ((wipeW D l).2.crash xs).files = [reborn (fatesF ((wipeW D l).2.wait.zip xs) f')] := by
      unfold DD.crash
      rw [e5]
      rfl
    have hlast : (reborn (fatesF ((wipeW D l).2.wait.zip xs) f')).last = keeps qs f.last := q3
    refine ⟨reborn (fatesF ((wipeW D l).2.wait.zip xs) f'), rfl, rfl, by rw [hcf]; exact rising_one _, ?_, ?_, ?_, ?_, ?_, rfl, by rw [hlast]; exact hfd, h.core, h.ok, .inl hcf⟩
    · show (fatesF _ f').id < (wipeW D l).2.made
      rw [fatesF_id, e7, e4]; exact h.made
    · show (wipeW D l).2.most ≤ 300
      rw [e3]; exact h.most
    · show (-1 : Int) ≤ -1
      omega
    · rw [hcf]
      show ((takesAll [reborn _] : Nat) : Int) ≤ (wipeW D l).2.most
      simp only [takesAll, DF.takes, Nat.add_zero]
      rw [show (reborn (fatesF ((wipeW D l).2.wait.zip xs) f')).seen = keeps qs f.last from q3, hlast, d3, Nat.max_self, e3]
      exact hroom
    · show (fatesF _ f').name = nm n
      rw [fatesF_name, e6]; exact h.name

/-- What opening finds. -/
theorem open_rec {D : DD} {M : Bk} {Q : List (List UInt8) → Prop} {n : Nat} {f : DF} {rs : List (List UInt8)} {bs m : List UInt8} {out : List (List UInt8)} (h : Rec D M Q n f rs bs m out) (hs : n ≤ 1000000) (hM : M.length < 65536) :
    ((openW D M).err = 0 ∧ (∃ n' f' rs' bs' m', n' ≤ n + 1 ∧ Clean (openW D M).disk M Q n' f' rs' bs' m' (openW D M).out ∧ (openW D M).log = ⟨n', bs'.length, m'⟩) ∧ (D.fuse = -1 → (openW D M).disk.fuse = -1) ∧
      (D.files = [f] → (openW D M).out = out ∧ (f.last = pad bs f.last.length → (openW D M).disk = D))) ∨
    (D.fuse ≠ -1 ∧ (openW D M).err = 14 ∧ ∀ xs, ∃ n' f' rs' bs' m' out', n' ≤ n + 1 ∧ Rec ((openW D M).disk.crash xs) M Q n' f' rs' bs' m' out') := by
  have hoff := h.off
  unfold openW
  rw [if_neg (by rw [hoff]; decide)]
  -- one segment, chosen
  have one : ∀ (D1 : DD), Rec D1 M Q n f rs bs m out → D1.files = [f] → D1.fuse = D.fuse → ∀ R : OR, R = ⟨(wipeW D1 ((loadF M f.last n).log n)).1, (wipeW D1 ((loadF M f.last n).log n)).2, (loadF M f.last n).log n, (loadF M f.last n).out⟩ →
      (R.err = 0 ∧ (∃ n' f' rs' bs' m', n' ≤ n + 1 ∧ Clean R.disk M Q n' f' rs' bs' m' R.out ∧ R.log = ⟨n', bs'.length, m'⟩) ∧ (D.fuse = -1 → R.disk.fuse = -1) ∧ (D.files = [f] → D1 = D → R.out = out ∧ (f.last = pad bs f.last.length → R.disk = D))) ∨
      (D.fuse ≠ -1 ∧ R.err = 14 ∧ ∀ xs, ∃ n' f' rs' bs' m' out', n' ≤ n + 1 ∧ Rec (R.disk.crash xs) M Q n' f' rs' bs' m' out') := by
    intro D1 hD1 hone hfu R hR
    have hload := h.found.load h.core
    rw [hload] at hR
    rcases wipe_rec hD1 hone hM (l := LD.log ⟨bs.length, m, true, out⟩ n) rfl rfl with ⟨w1, ⟨f', w2⟩, w3, w4⟩ | ⟨w0, w1, w2⟩
    · refine .inl ?_
      rw [hR]
      refine ⟨w1, ⟨n, f', rs, bs, m, Nat.le_succ _, w2, rfl⟩, fun e => w3 (by rw [hfu]; exact e), fun _ e2 => ⟨rfl, fun e3 => by rw [w4 e3, e2]⟩⟩
    · refine .inr ?_
      rw [hR]
      refine ⟨by rw [← hfu]; exact w0, w1, fun xs => ?_⟩
      obtain ⟨f', hf'⟩ := w2 xs
      exact ⟨n, f', rs, bs, m, out, Nat.le_succ _, hf'⟩
  have hload := h.found.load h.core
  rcases h.files with e | ⟨g, rs', bs', m', c, e, e1, e2, e3, e3', e4, e5, e6⟩
  · have hsg := segsW_one e h.name (by omega)
    have hlw : loadW D M n = some (loadF M f.last n) := by rw [loadW_mid (A := []) (B := []) e h.rising hoff h.name M, h.same]
    rw [hsg]
    unfold openL
    rw [hlw]
    dsimp only
    rw [if_pos (by rw [hload])]
    have hdb : dropBut D [n] n = D := by simp [dropBut]
    rw [hdb]
    rcases one D h e rfl _ rfl with ⟨a1, a2, a3, a4⟩ | a
    · exact .inl ⟨a1, a2, a3, fun e => a4 e rfl⟩
    · exact .inr a
  · have hsg := segsW_two e h.name e1 (by omega) (by omega)
    have hlw : loadW D M n = some (loadF M f.last n) := by rw [loadW_mid (A := []) (B := [g]) e h.rising hoff h.name M, h.same]
    have hlg : loadW D M (n + 1) = some (loadF M g.last (n + 1)) := by rw [loadW_mid (A := [f]) (B := []) e h.rising hoff e1 M, e2]
    have hlg2 := e4.load e5
    have hno : D.files ≠ [f] := by rw [e]; simp
    have hrm := h.room
    rw [e] at hrm
    simp only [takesAll, Nat.add_zero] at hrm
    rw [hsg]
    unfold openL
    rw [hlg]
    dsimp only
    rw [hlg2]
    dsimp only
    cases hc : c.1 with
    | true =>
      rw [if_pos rfl]
      obtain ⟨e7, e8⟩ := e6 hc
      have hdb : dropBut D [n + 1, n] (n + 1) = { D with files := [g], wait := [] } := by
        have hrem := remove_mid (A := []) (B := [g]) e h.rising hoff
        rw [h.name] at hrem
        unfold dropBut
        simp only [List.foldl_cons, List.foldl_nil, ne_eq, not_true_eq_false, if_false]
        rw [if_pos (by omega), hrem, h.wait]
        rfl
      rw [hdb]
      have hgs : g.seen = g.last := e2
      have hrec : Rec { D with files := [g], wait := [] } M Q (n + 1) g rs' bs' m' c.2 := by
        refine ⟨hoff, rfl, rising_one _, e3, h.most, h.fuse, ?_, e1, e2, e4, ?_, e8, .inl rfl⟩
        · show ((takesAll [g] : Nat) : Int) ≤ D.most
          simp only [takesAll, Nat.add_zero]
          omega
        · rw [e5]
          congr 1
          exact Prod.ext hc rfl
      rcases wipe_rec hrec rfl hM (l := LD.log ⟨bs'.length, m', true, c.2⟩ (n + 1)) rfl rfl with ⟨w1, ⟨f', w2⟩, w3, w4⟩ | ⟨w0, w1, w2⟩
      · exact .inl ⟨w1, ⟨n + 1, f', rs', bs', m', Nat.le_refl _, w2, rfl⟩, w3, fun e => absurd e hno⟩
      · refine .inr ⟨w0, w1, fun xs => ?_⟩
        obtain ⟨f', hf'⟩ := w2 xs
        exact ⟨n + 1, f', rs', bs', m', c.2, Nat.le_refl _, hf'⟩
    | false =>
      rw [if_neg (by decide)]
      unfold openL
      rw [hlw]
      dsimp only
      rw [if_pos (by rw [hload])]
      have hdb : dropBut D [n + 1, n] n = { D with files := [f], wait := [] } := by
        have hrem := remove_mid (A := [f]) (B := []) e h.rising hoff
        rw [e1] at hrem
        unfold dropBut
        simp only [List.foldl_cons, List.foldl_nil, ne_eq, not_true_eq_false, if_false]
        rw [if_pos (by omega), hrem, h.wait]
        rfl
      rw [hdb]
      have hrec : Rec { D with files := [f], wait := [] } M Q n f rs bs m out := by
        refine ⟨hoff, rfl, rising_one _, h.made, h.most, h.fuse, ?_, h.name, h.same, h.found, h.core, h.ok, .inl rfl⟩
        show ((takesAll [f] : Nat) : Int) ≤ D.most
        simp only [takesAll, Nat.add_zero]
        omega
      rcases one _ hrec rfl rfl _ rfl with ⟨a1, a2, a3, a4⟩ | a
      · exact .inl ⟨a1, a2, a3, fun e => absurd e hno⟩
      · exact .inr a

end Go.X

/-! The laws' world, plain: what holds of it behind each call. -/
namespace Go.X

/-! ### Names rise as their numbers -/

def digK (k n : Nat) : List UInt8 := (List.range k).map fun i => UInt8.ofNat (48 + n / 10 ^ (k - 1 - i) % 10)

theorem digK_succ (k n : Nat) : digK (k + 1) n = UInt8.ofNat (48 + n / 10 ^ k % 10) :: digK k n := by
  unfold digK
  rw [List.range_succ_eq_map, List.map_cons, List.map_map]
  congr 1
  refine List.map_congr_left fun i _ => ?_
  show UInt8.ofNat (48 + n / 10 ^ (k + 1 - 1 - (i + 1)) % 10) = _
  rw [show k + 1 - 1 - (i + 1) = k - 1 - i by omega]

theorem digK_lt : ∀ (k a b : Nat), a % 10 ^ k < b % 10 ^ k → cmpL (digK k a) (digK k b) < 0
  | 0, a, b, h => by simp [Nat.mod_one] at h
  | k + 1, a, b, h => by
    rw [digK_succ, digK_succ]
    have ha := Nat.mod_pow_succ (b := 10) (k := k) (x := a)
    have hb := Nat.mod_pow_succ (b := 10) (k := k) (x := b)
    have la : a / 10 ^ k % 10 < 10 := Nat.mod_lt _ (by decide)
    have lb : b / 10 ^ k % 10 < 10 := Nat.mod_lt _ (by decide)
    have ta : (UInt8.ofNat (48 + a / 10 ^ k % 10)).toNat = 48 + a / 10 ^ k % 10 := digit_toNat _
    have tb : (UInt8.ofNat (48 + b / 10 ^ k % 10)).toNat = 48 + b / 10 ^ k % 10 := digit_toNat _
    have ma : a % 10 ^ k < 10 ^ k := Nat.mod_lt _ (Nat.pow_pos (by decide))
    have mb : b % 10 ^ k < 10 ^ k := Nat.mod_lt _ (Nat.pow_pos (by decide))
    unfold cmpL
    by_cases h1 : a / 10 ^ k % 10 < b / 10 ^ k % 10
    · rw [if_pos (by rw [UInt8.lt_iff_toNat_lt, ta, tb]; omega)]; decide
    · rw [if_neg (by rw [UInt8.lt_iff_toNat_lt, ta, tb]; omega)]
      by_cases h2 : b / 10 ^ k % 10 < a / 10 ^ k % 10
      · exfalso
        have : 10 ^ k * (b / 10 ^ k % 10) + 10 ^ k ≤ 10 ^ k * (a / 10 ^ k % 10) := by
          rw [← Nat.mul_succ]; exact Nat.mul_le_mul_left _ h2
        omega
      · have e : a / 10 ^ k % 10 = b / 10 ^ k % 10 := by omega
        rw [if_neg (by rw [UInt8.lt_iff_toNat_lt, ta, tb]; omega)]
        refine digK_lt k a b ?_
        rw [ha, hb, e] at h
        omega

theorem nm_lt {a b : Nat} (h : a < b) (hb : b < 100000000) : cmpS (nm a) (nm b) < 0 := by
  unfold cmpS nm segName
  rw [str_toList, str_toList]
  have e : ∀ n, digits8 n = digK 8 n := fun n => rfl
  rw [e, e]
  have key : ∀ (p x y : List UInt8), cmpL x y < 0 → cmpL (p ++ x) (p ++ y) < 0 := by
    intro p
    induction p with
    | nil => intro x y h; exact h
    | cons c p ih =>
      intro x y h
      rw [List.cons_append, List.cons_append]
      unfold cmpL
      rw [if_neg (u8_lt_irrefl c), if_neg (u8_lt_irrefl c)]
      exact ih x y h
  exact key _ _ _ (digK_lt 8 a b (by rw [Nat.mod_eq_of_lt (by omega), Nat.mod_eq_of_lt (by omega)]; exact h))

/-! ### Writing at a segment's end -/

theorem takesAll_mid (A B : List DF) (g : DF) : takesAll (A ++ g :: B) = takesAll A + g.takes + takesAll B := by
  rw [takesAll_append]
  simp only [takesAll]
  omega

/-- A write at the end of what a file has. -/
theorem put_end {D : DD} {A B : List DF} {g : DF} {n E0 : Nat} {T b : List UInt8} (hD : D.files = A ++ g :: B) (hr : Rising D.files) (ho : D.off = false) (hn : g.name = nm n) (hseen : g.seen = pad T E0) (hlast : g.last.length ≤ max T.length E0)
    (hmost : D.most ≤ 300) (hroom : (takesAll D.files : Int) ≤ D.most) (hfuse : -1 ≤ D.fuse) (hb : b.length ≤ 2000000) :
    ((b ≠ [] ∧ D.free < (secs (T.length + b.length) : Int) - g.takes) ∧ D.write (nm n) (T.length : Nat) b = (7, D)) ∨
    (¬ (b ≠ [] ∧ D.free < (secs (T.length + b.length) : Int) - g.takes) ∧
      (((D.write (nm n) (T.length : Nat) b).1 = 0 ∧ (D.write (nm n) (T.length : Nat) b).2.off = false ∧ (D.write (nm n) (T.length : Nat) b).2.files = A ++ ({ g with seen := pad (T ++ b) E0 } : DF) :: B ∧
        (D.write (nm n) (T.length : Nat) b).2.wait = D.wait ++ pcs b.length g.id T.length b ∧ (D.write (nm n) (T.length : Nat) b).2.most = D.most ∧ (D.write (nm n) (T.length : Nat) b).2.made = D.made ∧ -1 ≤ (D.write (nm n) (T.length : Nat) b).2.fuse ∧
        (D.fuse = -1 → (D.write (nm n) (T.length : Nat) b).2.fuse = -1) ∧ (takesAll (D.write (nm n) (T.length : Nat) b).2.files : Int) ≤ D.most) ∨
       (D.fuse ≠ -1 ∧ (D.write (nm n) (T.length : Nat) b).1 = 14 ∧ (D.write (nm n) (T.length : Nat) b).2.off = true ∧ (∃ u, (D.write (nm n) (T.length : Nat) b).2.files = A ++ ({ g with seen := u } : DF) :: B ∧ u.length ≤ max (max T.length E0) (T.length + b.length)) ∧
        (∃ k, (D.write (nm n) (T.length : Nat) b).2.wait = D.wait ++ (pcs b.length g.id T.length b).take k) ∧ (D.write (nm n) (T.length : Nat) b).2.most = D.most ∧ (D.write (nm n) (T.length : Nat) b).2.made = D.made ∧
        (takesAll (D.write (nm n) (T.length : Nat) b).2.files : Int) ≤ D.most))) := by
  have htk : g.takes = secs (max T.length E0) := by
    unfold DF.takes
    rw [hseen, pad_length]
    congr 1
    omega
  have hall := takesAll_mid A B g
  rw [← hD] at hall
  have hsmall : T.length + b.length ≤ 2097152 := by
    have h1 : secs (max T.length E0) ≤ 300 := by omega
    unfold secs at h1
    omega
  by_cases hf : b ≠ [] ∧ D.free < (secs (T.length + b.length) : Int) - g.takes
  · left
    refine ⟨hf, ?_⟩
    rw [← hn]
    exact write_no hD hr ho hsmall hf
  · right
    refine ⟨hf, ?_⟩
    have hw := write_yes hD hr ho hsmall hf
    rw [hn] at hw
    rw [hw]
    obtain ⟨g1, g2, g3, g4, g5⟩ := wr_cases b.length g.id T.length b ⟨g.seen, D.wait, D.fuse, D.count, false⟩ (Nat.le_refl _) rfl hfuse
    obtain ⟨R, hR⟩ : ∃ R, wr b.length g.id T.length b ⟨g.seen, D.wait, D.fuse, D.count, false⟩ = R := ⟨_, rfl⟩
    rw [hR] at g1 g2 g3 g4 g5 ⊢
    dsimp only at g4 g5
    have hroom2 : ∀ u : List UInt8, u.length ≤ max (max T.length E0) (if b = [] then 0 else T.length + b.length) → (takesAll (A ++ ({ g with seen := u } : DF) :: B) : Int) ≤ D.most := by
      intro u hu
      rw [takesAll_mid]
      have h1 : ({ g with seen := u } : DF).takes = secs (max u.length g.last.length) := rfl
      unfold DD.free at hf
      by_cases hb0 : b = []
      · rw [if_pos hb0] at hu
        have h2 : secs (max u.length g.last.length) ≤ secs (max T.length E0) := by unfold secs; omega
        omega
      · rw [if_neg hb0] at hu
        have h2 : secs (max u.length g.last.length) ≤ max (secs (max T.length E0)) (secs (T.length + b.length)) := by unfold secs; omega
        have h3 : ¬ D.most - (takesAll D.files : Int) < (secs (T.length + b.length) : Int) - g.takes := fun h => hf ⟨hb0, h⟩
        omega
    rcases g5 with ⟨a1, a2, a3⟩ | ⟨a1, k, a2, a3⟩
    · left
      have e : R.seen = pad (T ++ b) E0 := by rw [a2, hseen]; exact lays_pad E0 _ _ _ _ (Nat.le_refl _)
      refine ⟨by rw [a1]; rfl, a1, by show A ++ _ :: B = _; rw [e], a3, rfl, rfl, g1, fun h => (g4 h).2, ?_⟩
      show (takesAll (A ++ ({ g with seen := R.seen } : DF) :: B) : Int) ≤ _
      refine hroom2 _ ?_
      rw [e, pad_length, List.length_append]
      split
      · rename_i hb0; subst hb0; simp only [List.length_nil]; omega
      · omega
    · right
      have hl : R.seen.length ≤ max (max T.length E0) (if b = [] then 0 else T.length + b.length) := by
        by_cases hb0 : b = []
        · subst hb0
          have hk : (pcs ([] : List UInt8).length g.id T.length []).take k = [] := by simp [pcs]
          rw [a2, hk, List.foldl_nil, hseen, pad_length]
          omega
        · rw [if_neg hb0, a2]
          refine (lays_some _ _ _ (fun p hp => ?_) ?_).2
          · have := (pcs_ok _ _ _ _ p (List.mem_of_mem_take hp)).2.2
            omega
          · rw [hseen, pad_length]; omega
      refine ⟨(fun h => by have := (g4 h).1; rw [a1] at this; cases this), by rw [a1]; rfl, a1, ⟨R.seen, rfl, by split at hl <;> omega⟩, ⟨k, a3⟩, rfl, rfl, hroom2 _ hl⟩

/-! ### States -/

/-- What may be found. -/
def Acc (all : List (List UInt8)) (safe : Nat) (turned : Bool) (snap out : List (List UInt8)) : Prop := beginsL out all safe = true ∨ (turned && sameL out snap) = true

theorem beginsL_take {a b : List (List UInt8)} {safe : Nat} (h : safe ≤ a.length) (j : Nat) : beginsL (a ++ b.take j) (a ++ b) safe = true := by
  unfold beginsL
  rw [decide_eq_true, decide_eq_true, decide_eq_true]
  · rfl
  · rw [List.length_append, List.length_take, List.take_append, List.take_of_length_le (by omega)]
    congr 1
    rw [show a.length + min j b.length - a.length = min j b.length by omega]
    by_cases hj : j ≤ b.length
    · rw [Nat.min_eq_left hj]
    · rw [Nat.min_eq_right (by omega), List.take_length, List.take_of_length_le (by omega)]
  · rw [List.length_append]; omega
  · rw [List.length_append, List.length_append, List.length_take]; omega

/-- A segment's file, of which R records may not have lasted. -/
structure Tail (W : List DW) (M : Bk) (n : Nat) (f : DF) (E0 : Nat) (rs0 out0 tt1 : List (List UInt8)) (P m0 : List UInt8) (cs : List (List (List UInt8))) (ts : List (List UInt8)) (m1 : List UInt8) : Prop where
  half : Half W M n f E0 rs0 P m0 cs ts m1
  core : cores rs0 (false, []) = some (true, out0)
  flat : cs.flatten = tt1.map (82 :: ·)

theorem Half.more {W : List DW} {M : Bk} {n E0 : Nat} {f : DF} {rs0 : List (List UInt8)} {P m0 m1 : List UInt8} {cs : List (List (List UInt8))} {ts : List (List UInt8)} (h : Half W M n f E0 rs0 P m0 cs ts m1) (Y : Bk) : Half W (M ++ Y) n f E0 rs0 P m0 cs ts m1 :=
  ⟨h.name, h.enc0.more Y, h.encC.more Y, h.last, h.wait⟩

theorem prefix_map {l a b : List (List UInt8)} {c : UInt8} (h : l.map (c :: ·) = a ++ b) : a = (l.take a.length).map (c :: ·) := by
  rw [List.map_take, h, List.take_left' rfl]

theorem Tail.found {W : List DW} {M : Bk} {n E0 : Nat} {f : DF} {rs0 out0 tt1 : List (List UInt8)} {P m0 m1 : List UInt8} {cs : List (List (List UInt8))} {ts : List (List UInt8)} (h : Tail W M n f E0 rs0 out0 tt1 P m0 cs ts m1) (hM : M.length < 65536) (xs : List Int) :
    ∃ rs bs m j, Found M n (fatesF (W.zip xs) f).last rs bs m ∧ cores rs (false, []) = some (true, out0 ++ tt1.take j) ∧ (fatesF (W.zip xs) f).last.length ≤ max (max P.length E0) (P.length + ts.flatten.length) := by
  obtain ⟨rs1, rs2, b1, m2, e1, e2, e3, _⟩ := h.half.crash hM xs
  rw [h.flat] at e1
  refine ⟨rs0 ++ rs1, P ++ b1, m2, rs1.length, e2, ?_, e3⟩
  rw [cores_append, h.core]
  dsimp only
  conv => lhs; rw [prefix_map e1]
  exact cores_R _ _

/-- A crash of a device with one segment. -/
theorem rec_one {D : DD} {M : Bk} {Q : List (List UInt8) → Prop} {n E0 : Nat} {f : DF} {rs0 out0 tt1 : List (List UInt8)} {P m0 m1 : List UInt8} {cs : List (List (List UInt8))} {ts : List (List UInt8)} (h : Tail D.wait M n f E0 rs0 out0 tt1 P m0 cs ts m1) (hf : D.files = [f])
    (hmade : f.id < D.made) (hmost : D.most ≤ 300) (hroom : (secs (max (max P.length E0) (P.length + ts.flatten.length)) : Int) ≤ D.most) (hM : M.length < 65536) (hQ : ∀ j, Q (out0 ++ tt1.take j)) (xs : List Int) :
    ∃ f' rs bs m out, Rec (D.crash xs) M Q n f' rs bs m out := by
  obtain ⟨rs, bs, m, j, e1, e2, e3⟩ := h.found hM xs
  have hfl : (D.crash xs).files = [reborn (fatesF (D.wait.zip xs) f)] := by unfold DD.crash; rw [hf]; rfl
  refine ⟨reborn (fatesF (D.wait.zip xs) f), rs, bs, m, _, rfl, rfl, by rw [hfl]; exact rising_one _, ?_, hmost, Int.le_refl _, ?_, ?_, rfl, e1, e2, hQ j, .inl hfl⟩
  · show (fatesF _ f).id < D.made
    rw [fatesF_id]; exact hmade
  · rw [hfl]
    show ((takesAll [reborn _] : Nat) : Int) ≤ D.most
    have e : (reborn (fatesF (D.wait.zip xs) f)).takes = secs (fatesF (D.wait.zip xs) f).last.length := by
      show secs (max _ _) = _
      rw [show (reborn (fatesF (D.wait.zip xs) f)).seen = (fatesF (D.wait.zip xs) f).last from rfl, show (reborn (fatesF (D.wait.zip xs) f)).last = (fatesF (D.wait.zip xs) f).last from rfl, Nat.max_self]
    simp only [takesAll, e, Nat.add_zero]
    have : secs (fatesF (D.wait.zip xs) f).last.length ≤ secs (max (max P.length E0) (P.length + ts.flatten.length)) := by unfold secs; omega
    omega
  · show (fatesF _ f).name = nm n
    rw [fatesF_name]; exact h.half.name

/-- A crash of a device with a segment and the next one, half made. -/
theorem rec_two {D : DD} {M : Bk} {Q : List (List UInt8) → Prop} {n E0 : Nat} {f g : DF} {rs0 out0 tt1 snap : List (List UInt8)} {P m0 m1 m2 : List UInt8} {cs cs2 : List (List (List UInt8))} {ts ts2 : List (List UInt8)} (h : Tail D.wait M n f E0 rs0 out0 tt1 P m0 cs ts m1)
    (h2 : Half D.wait M (n + 1) g 0 [] [] (firstM (n + 1)) cs2 ts2 m2) (hc2 : cs2.flatten = snap.map (83 :: ·) ∨ cs2.flatten = segR snap []) (hf : D.files = [f, g]) (hr : Rising D.files)
    (hmade : f.id < D.made) (hmade2 : g.id < D.made) (hne : g.id ≠ f.id) (hmost : D.most ≤ 300) (hroom : ((secs (max (max P.length E0) (P.length + ts.flatten.length)) + secs ts2.flatten.length : Nat) : Int) ≤ D.most) (hM : M.length < 65536)
    (hQ : ∀ j, Q (out0 ++ tt1.take j)) (hQ2 : Q snap) (xs : List Int) : ∃ f' rs bs m out, Rec (D.crash xs) M Q n f' rs bs m out := by
  obtain ⟨rs, bs, m, j, e1, e2, e3⟩ := h.found hM xs
  obtain ⟨rs1, rs2, b1, m3, a1, a2, a3, a4⟩ := h2.crash hM xs
  have hfl : (D.crash xs).files = [reborn (fatesF (D.wait.zip xs) f), reborn (fatesF (D.wait.zip xs) g)] := by unfold DD.crash; rw [hf]; rfl
  have htk : ∀ x : DF, (reborn x).takes = secs x.last.length := by
    intro x
    show secs (max _ _) = _
    rw [show (reborn x).seen = x.last from rfl, show (reborn x).last = x.last from rfl, Nat.max_self]
  simp only [List.nil_append, List.length_nil, Nat.zero_add, Nat.max_self, Nat.zero_max] at a2 a3
  refine ⟨reborn (fatesF (D.wait.zip xs) f), rs, bs, m, _, rfl, rfl, ?_, ?_, hmost, Int.le_refl _, ?_, ?_, rfl, e1, e2, hQ j, .inr ⟨reborn (fatesF (D.wait.zip xs) g), rs1, b1, m3, ?_⟩⟩
  · rw [show (D.crash xs).files = D.files.map fun f => reborn (fatesF (D.wait.zip xs) f) from rfl]
    exact rising_map (g := fun f => reborn (fatesF (D.wait.zip xs) f)) (fun f => fatesF_name _ _) hr
  · show (fatesF _ f).id < D.made
    rw [fatesF_id]; exact hmade
  · rw [hfl]
    show ((takesAll [reborn _, reborn _] : Nat) : Int) ≤ D.most
    simp only [takesAll, htk, Nat.add_zero]
    have t1 : secs (fatesF (D.wait.zip xs) f).last.length ≤ secs (max (max P.length E0) (P.length + ts.flatten.length)) := by unfold secs; omega
    have t2 : secs (fatesF (D.wait.zip xs) g).last.length ≤ secs ts2.flatten.length := by unfold secs; omega
    omega
  · show (fatesF _ f).name = nm n
    rw [fatesF_name]; exact h.half.name
  · have hnm : (reborn (fatesF (D.wait.zip xs) g)).name = nm (n + 1) := by
      show (fatesF _ g).name = _
      rw [fatesF_name]; exact h2.name
    have hgid : (reborn (fatesF (D.wait.zip xs) g)).id = g.id := by
      show (fatesF _ g).id = _
      rw [fatesF_id]
    have hfid : (reborn (fatesF (D.wait.zip xs) f)).id = f.id := by
      show (fatesF _ f).id = _
      rw [fatesF_id]
    have hS : ∀ l : List (List UInt8), l.map (83 :: ·) = rs1 ++ rs2 → ∃ c, cores rs1 (false, []) = some c ∧ c.1 = false := by
      intro l hl
      refine ⟨(false, [] ++ l.take rs1.length), ?_, rfl⟩
      conv => lhs; rw [prefix_map hl]
      exact cores_S _ _
    rcases hc2 with hc2 | hc2
    · rw [hc2] at a1
      obtain ⟨c, hc, hc1⟩ := hS snap a1
      exact ⟨c, hfl, hnm, rfl, by rw [hgid]; exact hmade2, by rw [hgid, hfid]; exact hne, a2, hc, fun h => by rw [hc1] at h; cases h⟩
    · rw [hc2] at a1
      by_cases h0 : rs2 = []
      · subst h0
        rw [List.append_nil] at a1
        refine ⟨(true, snap ++ []), hfl, hnm, rfl, by rw [hgid]; exact hmade2, by rw [hgid, hfid]; exact hne, a2, by rw [← a1]; exact cores_seg _ _, fun _ => ⟨?_, by rw [List.append_nil]; exact hQ2⟩⟩
        have hb := a4 rfl
        show (fatesF (D.wait.zip xs) g).last = b1
        obtain ⟨rest, hrest⟩ := a2.pre
        rw [hb] at hrest ⊢
        rw [hrest] at a3 ⊢
        rw [List.length_append] at a3
        have : rest = [] := List.eq_nil_of_length_eq_zero (by omega)
        rw [this, List.append_nil]
      · -- the last record is missing: what was read is of the snapshot alone
        obtain ⟨r2, x, rfl⟩ : ∃ r2 x, rs2 = r2 ++ [x] := ⟨rs2.dropLast, rs2.getLast h0, (List.dropLast_concat_getLast h0).symm⟩
        unfold segR at a1
        simp only [List.map_nil] at a1
        rw [← List.append_assoc] at a1
        obtain ⟨a1, _⟩ := List.append_inj' a1 rfl
        have hS' : ∃ c, cores rs1 (false, []) = some c ∧ c.1 = false := by
          refine ⟨(false, [] ++ snap.take rs1.length), ?_, rfl⟩
          conv => lhs; rw [prefix_map a1]
          exact cores_S _ _
        obtain ⟨c, hc, hc1⟩ := hS'
        exact ⟨c, hfl, hnm, rfl, by rw [hgid]; exact hmade2, by rw [hgid, hfid]; exact hne, a2, hc, fun h => by rw [hc1] at h; cases h⟩

end Go.X

/-! The laws' world: appending, syncing. -/
namespace Go.X

/-- A log that is open: one segment. -/
structure Up (D : DD) (M : Bk) (n : Nat) (f : DF) (E0 : Nat) (rs0 out0 tt1 : List (List UInt8)) (P m0 : List UInt8) (cs : List (List (List UInt8))) (ts : List (List UInt8)) (m1 : List UInt8) : Prop where
  off : D.off = false
  files : D.files = [f]
  name : f.name = nm n
  enc0 : Enc M (firstM n) rs0 P m0
  encC : EncC M m0 cs ts m1
  last : f.last = pad P E0
  core : cores rs0 (false, []) = some (true, out0)
  flat : cs.flatten = tt1.map (82 :: ·)
  wait : D.wait = wpcs f.id P.length ts
  seen : f.seen = pad (P ++ ts.flatten) E0
  made : f.id < D.made
  most : D.most ≤ 300
  fuse : -1 ≤ D.fuse
  room : (takesAll D.files : Int) ≤ D.most

section
variable {D : DD} {M : Bk} {n E0 : Nat} {f : DF} {rs0 out0 tt1 : List (List UInt8)} {P m0 m1 : List UInt8} {cs : List (List (List UInt8))} {ts : List (List UInt8)}

theorem Up.tail (h : Up D M n f E0 rs0 out0 tt1 P m0 cs ts m1) : Tail D.wait M n f E0 rs0 out0 tt1 P m0 cs ts m1 :=
  ⟨⟨h.name, h.enc0, h.encC, h.last, ⟨(wpcs f.id P.length ts).length, by
    rw [h.wait, List.take_length]
    exact List.filter_eq_self.2 fun p hp => by rw [wpcs_id f.id _ _ p hp]; simp⟩⟩, h.core, h.flat⟩

theorem Up.rising (h : Up D M n f E0 rs0 out0 tt1 P m0 cs ts m1) : Rising D.files := by rw [h.files]; exact rising_one f

theorem Up.takes (h : Up D M n f E0 rs0 out0 tt1 P m0 cs ts m1) : takesAll D.files = secs (max (P.length + ts.flatten.length) E0) := by
  rw [h.files]
  simp only [takesAll, DF.takes, h.seen, h.last, pad_length, List.length_append, Nat.add_zero]
  congr 1
  omega

theorem Up.more (h : Up D M n f E0 rs0 out0 tt1 P m0 cs ts m1) (Y : Bk) : Up D (M ++ Y) n f E0 rs0 out0 tt1 P m0 cs ts m1 :=
  ⟨h.off, h.files, h.name, h.enc0.more Y, h.encC.more Y, h.last, h.core, h.flat, h.wait, h.seen, h.made, h.most, h.fuse, h.room⟩

/-- A crash of a log that is open. -/
theorem Up.crash (h : Up D M n f E0 rs0 out0 tt1 P m0 cs ts m1) (hM : M.length < 65536) {Q : List (List UInt8) → Prop} (hQ : ∀ j, Q (out0 ++ tt1.take j)) (xs : List Int) : ∃ f' rs bs m out, Rec (D.crash xs) M Q n f' rs bs m out := by
  refine rec_one h.tail h.files h.made h.most ?_ hM hQ xs
  have := h.room
  rw [h.takes] at this
  rw [show max (max P.length E0) (P.length + ts.flatten.length) = max (P.length + ts.flatten.length) E0 by omega]
  exact this

/-- The pieces of a write behind others, of which some are taken. -/
theorem wait_some {W : List DW} {id : Int} {a k : Nat} {ts : List (List UInt8)} {b : List UInt8} (hw : W = wpcs id a ts) :
    ∃ k', (W ++ (pcs b.length id (a + ts.flatten.length) b).take k).filter (fun p => p.id == id) = (wpcs id a (ts ++ [b])).take k' := by
  refine ⟨(wpcs id a ts).length + k, ?_⟩
  have e : (wpcs id a ts ++ pcs b.length id (a + ts.flatten.length) b).take ((wpcs id a ts).length + k) = wpcs id a ts ++ (pcs b.length id (a + ts.flatten.length) b).take k := by
    rw [List.take_append, List.take_of_length_le (Nat.le_add_right _ _), show (wpcs id a ts).length + k - (wpcs id a ts).length = k by omega]
  rw [hw, wpcs_snoc, e]
  refine List.filter_eq_self.2 fun p hp => ?_
  rcases List.mem_append.1 hp with hp | hp
  · rw [wpcs_id id _ _ p hp]; simp
  · rw [(pcs_ok _ _ _ _ p (List.mem_of_mem_take hp)).1]; simp

theorem one_enc {M : Bk} {m s b m' : List UInt8} (h : Enc M m [s] b m') : b.length = 36 + s.length := by
  cases h with
  | cons hk h1 h2 h3 =>
    cases h3
    rw [List.append_nil, recK_length]

/-- A record is appended. -/
theorem put_up (h : Up D M n f E0 rs0 out0 tt1 P m0 cs ts m1) {s : List UInt8} (hs : s.length ≤ 1048832) {R : PR4} (hR : putW D M ⟨n, P.length + ts.flatten.length, m1⟩ 82 [s] = R) :
    ∃ Xb b m2, R.book = M ++ Xb ∧ Xb.length ≤ 1 ∧ Enc (M ++ Xb) m1 [82 :: s] b m2 ∧ b.length = 37 + s.length ∧
      ((R.err = 7 ∧ R.disk = D ∧ R.log = ⟨n, P.length + ts.flatten.length, m1⟩ ∧ D.most - takesAll D.files < (secs (P.length + ts.flatten.length + b.length) : Int) - takesAll D.files) ∨
       (R.err = 0 ∧ (∃ f', Up R.disk R.book n f' E0 rs0 out0 (tt1 ++ [s]) P m0 (cs ++ [[82 :: s]]) (ts ++ [b]) m2) ∧ R.log = ⟨n, P.length + (ts ++ [b]).flatten.length, m2⟩ ∧ (D.fuse = -1 → R.disk.fuse = -1) ∧ R.disk.most = D.most ∧
        ¬ D.most - takesAll D.files < (secs (P.length + ts.flatten.length + b.length) : Int) - takesAll D.files) ∨
       (R.err = 14 ∧ D.fuse ≠ -1 ∧ R.disk.off = true ∧ R.log = ⟨n, P.length + ts.flatten.length, m1⟩ ∧
        ∀ (Q : List (List UInt8) → Prop), (∀ j, Q (out0 ++ (tt1 ++ [s]).take j)) → ∀ Y xs, (M ++ Xb ++ Y).length < 65536 → ∃ f' rs bs m out, Rec (R.disk.crash xs) (M ++ Xb ++ Y) Q n f' rs bs m out)) := by
  obtain ⟨b, Xb, p1, p2, p3, p4, p5⟩ := putB_enc 82 [s] ⟨0, [], m1, M⟩ rfl (fun t ht => by rw [List.mem_singleton.1 ht]; omega)
  obtain ⟨Z, hZ⟩ : ∃ Z, putB 82 [s] ⟨0, [], m1, M⟩ = Z := ⟨_, rfl⟩
  rw [hZ] at p1 p2 p3 p5
  dsimp only at p1 p2 p3 p4 p5
  simp only [List.nil_append] at p2
  simp only [List.map_cons, List.map_nil] at p5
  have hbl : b.length = 37 + s.length := by rw [one_enc p5, List.length_cons]; omega
  have hTl : (P ++ ts.flatten).length = P.length + ts.flatten.length := List.length_append
  refine ⟨Xb, b, Z.mark, ?_, p4, p5, hbl, ?_⟩
  · rw [← hR]
    unfold putW
    dsimp only
    rw [hZ]
    split
    · exact p3
    · split <;> exact p3
  unfold putW at hR
  dsimp only at hR
  rw [hZ, if_neg (by rw [p1]; exact fun h => h rfl), p2] at hR
  have hpe := put_end (A := []) (B := []) (g := f) (n := n) (E0 := E0) (T := P ++ ts.flatten) (b := b) h.files h.rising h.off h.name h.seen (by rw [h.last, pad_length, hTl]; omega) h.most h.room h.fuse (by omega)
  rw [hTl] at hpe
  have htk : f.takes = takesAll D.files := by rw [h.files]; simp [takesAll]
  have hb0 : b ≠ [] := fun e => by rw [e] at hbl; simp at hbl; omega
  rw [htk] at hpe
  unfold DD.free at hpe
  obtain ⟨Wr, hWr⟩ : ∃ Wr, D.write (nm n) ((P.length + ts.flatten.length : Nat) : Int) b = Wr := ⟨_, rfl⟩
  rw [hWr] at hpe hR
  have hro := h.room
  rcases hpe with ⟨⟨_, c1⟩, c2⟩ | ⟨c0, ⟨c1, c2, c3, c4, c5, c6, c7, c8, c9⟩ | ⟨c1, c2, c3, ⟨u, c4, c4'⟩, ⟨k, c5⟩, c6, c7, c8⟩⟩
  · left
    rw [c2] at hR
    dsimp only at hR
    rw [if_pos (by decide)] at hR
    rw [← hR]
    exact ⟨rfl, rfl, rfl, c1⟩
  · right; left
    rw [if_neg (by rw [c1]; exact fun h => h rfl)] at hR
    rw [← hR]
    have hfl : (ts ++ [b]).flatten = ts.flatten ++ b := by simp
    refine ⟨rfl, ⟨{ f with seen := pad ((P ++ ts.flatten) ++ b) E0 }, ?_⟩, ?_, c8, c5, fun h => c0 ⟨hb0, h⟩⟩
    · rw [p3]
      refine ⟨c2, c3, h.name, h.enc0.more Xb, (h.encC.more Xb).snoc p5, h.last, h.core, by simp [h.flat], ?_, ?_, by rw [c6]; exact h.made, by rw [c5]; exact h.most, c7, by rw [c5]; exact c9⟩
      · show Wr.2.wait = _
        rw [c4, h.wait, wpcs_snoc]
      · show pad _ _ = _
        rw [hfl, List.append_assoc]
    · rw [hfl, List.length_append]
      simp only [LG.mk.injEq, true_and, and_true]
      omega
  · right; right
    rw [c2, if_pos (by decide)] at hR
    rw [← hR]
    refine ⟨rfl, c1, c3, rfl, fun Q hQ Y xs hMY => ?_⟩
    have hfl : (ts ++ [b]).flatten.length = ts.flatten.length + b.length := by simp
    have htl : Tail Wr.2.wait (M ++ Xb ++ Y) n { f with seen := u } E0 rs0 out0 (tt1 ++ [s]) P m0 (cs ++ [[82 :: s]]) (ts ++ [b]) Z.mark :=
      ⟨⟨h.name, (h.enc0.more Xb).more Y, (((h.encC.more Xb).snoc p5)).more Y, h.last, by rw [c5]; exact wait_some h.wait⟩, h.core, by simp [h.flat]⟩
    refine rec_one htl c4 (by rw [c7]; exact h.made) (by rw [c6]; exact h.most) ?_ hMY hQ xs
    rw [hfl, c6]
    have h1 : ¬ D.most - (takesAll D.files : Int) < (secs (P.length + ts.flatten.length + b.length) : Int) - takesAll D.files := fun h => c0 ⟨hb0, h⟩
    rw [h.takes] at hro h1
    have h2 : secs (max (max P.length E0) (P.length + (ts.flatten.length + b.length))) ≤ max (secs (P.length + ts.flatten.length + b.length)) (secs (max (P.length + ts.flatten.length) E0)) := by unfold secs; omega
    omega

/-- All lasts. -/
theorem sync_up (h : Up D M n f E0 rs0 out0 tt1 P m0 cs ts m1) : D.sync.1 = 0 ∧ ∃ f', Up D.sync.2 M n f' E0 (rs0 ++ tt1.map (82 :: ·)) (out0 ++ tt1) [] (P ++ ts.flatten) m1 [] [] m1 ∧ D.sync.2.fuse = D.fuse ∧ D.sync.2.most = D.most ∧ D.sync.2.count = D.count := by
  rw [sync_on h.off]
  refine ⟨rfl, { f with last := pad (P ++ ts.flatten) E0 }, ?_, rfl, rfl, rfl⟩
  have hs := wsync E0 ts P f h.last
  have hfl : ({ D with files := D.files.map (syncF D.wait), wait := [] } : DD).files = [{ f with last := pad (P ++ ts.flatten) E0 }] := by
    show D.files.map (syncF D.wait) = _
    rw [h.files, h.wait]
    simp only [List.map_cons, List.map_nil]
    rw [hs]
  refine ⟨h.off, hfl, h.name, ?_, .nil _, rfl, ?_, rfl, rfl, ?_, h.made, h.most, h.fuse, ?_⟩
  · have := h.enc0.append h.encC.flat
    rwa [h.flat] at this
  · rw [cores_append, h.core]
    exact cores_R _ _
  · show f.seen = _
    rw [h.seen]
    simp
  · rw [hfl]
    have := h.room
    rw [h.takes] at this
    simp only [takesAll, DF.takes, h.seen, pad_length, List.length_append, Nat.max_self, Nat.add_zero]
    exact this

end

/-! ### The laws' world -/

def XUp (N : Nat) (X : WW) : Prop := ∃ n f E0 rs0 out0 tt1 P m0 cs ts m1, n ≤ N ∧ Up X.D X.M n f E0 rs0 out0 tt1 P m0 cs ts m1 ∧ X.l = ⟨n, P.length + ts.flatten.length, m1⟩ ∧ X.all = out0 ++ tt1 ∧ X.safe ≤ out0.length
def XDown (N : Nat) (X : WW) : Prop := X.D.off = true ∧ X.l.n ≤ N ∧ ∀ Y xs, (X.M ++ Y).length < 65536 → ∃ n f rs bs m out, n ≤ N ∧ Rec (X.D.crash xs) (X.M ++ Y) (Acc X.all X.safe X.turned X.snap) n f rs bs m out
def XInv (N : Nat) (X : WW) : Prop := XUp N X ∨ XDown N X

theorem XUp.up {N N' : Nat} {X : WW} (h : XUp N X) (hN : N ≤ N') : XUp N' X := by
  obtain ⟨n, f, E0, rs0, out0, tt1, P, m0, cs, ts, m1, h1, h2⟩ := h
  exact ⟨n, f, E0, rs0, out0, tt1, P, m0, cs, ts, m1, by omega, h2⟩

theorem XInv.up {N N' : Nat} {X : WW} (h : XInv N X) (hN : N ≤ N') : XInv N' X := by
  rcases h with h | ⟨h1, h0, h2⟩
  · exact .inl (h.up hN)
  · refine .inr ⟨h1, by omega, fun Y xs hY => ?_⟩
    obtain ⟨n, f, rs, bs, m, out, h3, h4⟩ := h2 Y xs hY
    exact ⟨n, f, rs, bs, m, out, by omega, h4⟩

theorem XInv.num {N : Nat} {X : WW} (h : XInv N X) : X.l.n ≤ N := by
  rcases h with ⟨n, f, E0, rs0, out0, tt1, P, m0, cs, ts, m1, h1, h2, h3, h4⟩ | ⟨h1, h0, h2⟩
  · rw [h3]; exact h1
  · exact h0

theorem XInv.crash {N : Nat} {X : WW} (h : XInv N X) (hM : X.M.length < 65536) (xs : List Int) : ∃ n f rs bs m out, n ≤ N ∧ Rec (X.D.crash xs) X.M (Acc X.all X.safe X.turned X.snap) n f rs bs m out := by
  rcases h with ⟨n, f, E0, rs0, out0, tt1, P, m0, cs, ts, m1, h1, h2, h3, h4, h5⟩ | ⟨h1, h0, h2⟩
  · obtain ⟨f', rs, bs, m, out, hr⟩ := h2.crash hM (Q := Acc X.all X.safe X.turned X.snap) (fun j => .inl (by rw [h4]; exact beginsL_take h5 j)) xs
    exact ⟨n, f', rs, bs, m, out, h1, hr⟩
  · have := h2 [] xs (by rw [List.append_nil]; exact hM)
    rwa [List.append_nil] at this

theorem app_inv {N : Nat} {X : WW} (h : XInv N X) {s : List UInt8} (hs : s.length ≤ 300) : (appX s X).1 = true ∧ XInv N (appX s X).2 := by
  rcases h with ⟨n, f, E0, rs0, out0, tt1, P, m0, cs, ts, m1, h1, h2, h3, h4, h5⟩ | ⟨h1, h0, h2⟩
  · obtain ⟨R, hR⟩ : ∃ R, putW X.D X.M X.l 82 [s] = R := ⟨_, rfl⟩
    unfold appX
    rw [hR]
    dsimp only
    rw [h3] at hR
    obtain ⟨Xb, b, m2, b1, b2, b3, b4, b5⟩ := put_up h2 (by omega) hR
    rw [h2.off]
    rcases b5 with ⟨e1, e2, e3, _⟩ | ⟨e1, ⟨f', e2⟩, e3, e4, e5, _⟩ | ⟨e1, e2, e3, e4, e5⟩
    · refine ⟨by rw [e1]; rfl, .inl ⟨n, f, E0, rs0, out0, tt1, P, m0, cs, ts, m1, h1, ?_, e3, ?_, h5⟩⟩
      · show Up R.disk R.book _ _ _ _ _ _ _ _ _ _ _
        rw [e2, b1]
        exact h2.more Xb
      · show (if R.err = 0 ∨ R.err = 14 ∧ false = false then X.all ++ [s] else X.all) = _
        rw [e1, if_neg (by simp), h4]
    · refine ⟨by rw [e1]; rfl, .inl ⟨n, f', E0, rs0, out0, tt1 ++ [s], P, m0, _, _, m2, h1, e2, e3, ?_, h5⟩⟩
      show (if R.err = 0 ∨ R.err = 14 ∧ false = false then X.all ++ [s] else X.all) = _
      rw [if_pos (.inl e1), h4, List.append_assoc]
    · have hall : (if R.err = 0 ∨ R.err = 14 ∧ false = false then X.all ++ [s] else X.all) = out0 ++ (tt1 ++ [s]) := by
        rw [if_pos (.inr ⟨e1, rfl⟩), h4, List.append_assoc]
      refine ⟨by rw [e1, e3]; rfl, .inr ⟨e3, by show R.log.n ≤ N; rw [e4]; exact h1, fun Y xs hY => ?_⟩⟩
      dsimp only at hY ⊢
      rw [b1] at hY ⊢
      rw [hall]
      obtain ⟨f', rs, bs, m, out, hr⟩ := e5 (Acc (out0 ++ (tt1 ++ [s])) X.safe X.turned X.snap) (fun j => .inl (beginsL_take h5 j)) Y xs hY
      exact ⟨n, f', rs, bs, m, out, h1, hr⟩
  · obtain ⟨b, Xb, p1, p2, p3, p4, p5⟩ := putB_enc 82 [s] ⟨0, [], X.l.mark, X.M⟩ rfl (fun t ht => by rw [List.mem_singleton.1 ht]; omega)
    have hput : putW X.D X.M X.l 82 [s] = ⟨14, X.D, X.M ++ Xb, X.l⟩ := by
      unfold putW
      dsimp only
      rw [p1, if_neg (fun h => h rfl), write_off h1, p3]
      dsimp only
      rw [if_pos (by decide)]
    unfold appX
    rw [hput]
    dsimp only
    rw [h1]
    refine ⟨rfl, .inr ⟨h1, h0, fun Y xs hY => ?_⟩⟩
    dsimp only at hY ⊢
    rw [if_neg (by simp)]
    rw [List.append_assoc] at hY ⊢
    exact h2 (Xb ++ Y) xs hY

theorem sync_inv {N : Nat} {X : WW} (h : XInv N X) : (syncX' X).1 = true ∧ XInv N (syncX' X).2 := by
  rcases h with ⟨n, f, E0, rs0, out0, tt1, P, m0, cs, ts, m1, h1, h2, h3, h4, h5⟩ | ⟨h1, h0, h2⟩
  · obtain ⟨e1, f', e2, e3, e4, e5⟩ := sync_up h2
    unfold syncX'
    dsimp only
    rw [e1, h2.off]
    refine ⟨rfl, .inl ⟨n, f', E0, _, _, [], _, m1, [], [], m1, h1, e2, ?_, ?_, ?_⟩⟩
    · dsimp only
      rw [h3]
      simp
    · dsimp only
      rw [h4, List.append_nil]
    · dsimp only
      rw [if_pos rfl, h4]
      exact Nat.le_refl _
  · unfold syncX'
    rw [sync_off h1]
    dsimp only
    rw [h1]
    refine ⟨rfl, .inr ⟨h1, h0, fun Y xs hY => ?_⟩⟩
    dsimp only at hY ⊢
    rw [if_neg (by decide)]
    exact h2 Y xs hY

theorem arm_inv {N : Nat} {X : WW} (h : XInv N X) (k : Int) : XInv N { X with D := armD k X.D } := by
  rcases h with ⟨n, f, E0, rs0, out0, tt1, P, m0, cs, ts, m1, h1, h2, h3, h4, h5⟩ | ⟨h1, h0, h2⟩
  · refine .inl ⟨n, f, E0, rs0, out0, tt1, P, m0, cs, ts, m1, h1, ?_, h3, h4, h5⟩
    unfold armD
    dsimp only
    split
    · rename_i hk
      exact ⟨h2.off, h2.files, h2.name, h2.enc0, h2.encC, h2.last, h2.core, h2.flat, h2.wait, h2.seen, h2.made, h2.most, by show -1 ≤ k; omega, h2.room⟩
    · exact h2
  · have : armD k X.D = X.D := by unfold armD; rw [if_neg (by rw [h1]; simp)]
    rw [this]
    exact .inr ⟨h1, h0, h2⟩

/-- A clean device is a log that is open. -/
theorem Clean.up {D : DD} {M : Bk} {Q : List (List UInt8) → Prop} {n : Nat} {f : DF} {rs : List (List UInt8)} {bs m : List UInt8} {out : List (List UInt8)} (h : Clean D M Q n f rs bs m out) : Up D M n f f.last.length rs out [] bs m [] [] m := by
  have hr := h.rec_
  exact ⟨hr.off, h.one, hr.name, hr.found.enc, .nil _, h.pads, hr.core, rfl, by rw [hr.wait]; rfl, by rw [hr.same, List.flatten_nil, List.append_nil]; exact h.pads, hr.made, hr.most, hr.fuse, hr.room⟩

theorem Clean.xup {X : WW} {Q : List (List UInt8) → Prop} {n N : Nat} {f : DF} {rs : List (List UInt8)} {bs m : List UInt8} (h : Clean X.D X.M Q n f rs bs m X.all) (hn : n ≤ N) (hl : X.l = ⟨n, bs.length, m⟩) (hs : X.safe ≤ X.all.length) : XUp N X :=
  ⟨n, f, _, rs, X.all, [], bs, m, [], [], m, hn, h.up, by rw [hl]; simp, by simp, hs⟩

/-- Opening behind a crash. -/
theorem open_inv {N : Nat} {X : WW} {n : Nat} {f : DF} {rs : List (List UInt8)} {bs m : List UInt8} {out : List (List UInt8)} (h : Rec X.D X.M (Acc X.all X.safe X.turned X.snap) n f rs bs m out) (hn : n ≤ N) (hN : N ≤ 1000000) (hM : X.M.length < 65536) (hf : X.D.fuse = -1) :
    (openX X).1 = true ∧ XUp (N + 1) (openX X).2 ∧ (openX X).2.D.fuse = -1 := by
  obtain ⟨R, hR⟩ : ∃ R, openW X.D X.M = R := ⟨_, rfl⟩
  have ho := open_rec h (by omega) hM
  rw [hR] at ho
  unfold openX
  rw [hR]
  dsimp only
  rcases ho with ⟨e1, ⟨n', f', rs', bs', m', e2, e3, e4⟩, e5, _⟩ | ⟨e0, _⟩
  · have hq : ¬ (beginsL R.out X.all X.safe = false ∧ (X.turned && sameL R.out X.snap) = false) := by
      rintro ⟨q1, q2⟩
      rcases e3.rec_.ok with q | q
      · rw [q1] at q; cases q
      · rw [q2] at q; cases q
    rw [if_neg (by rw [e1]; exact fun h => h rfl), if_neg hq]
    refine ⟨rfl, Clean.xup (X := { X with D := R.disk, l := R.log, all := R.out, safe := R.out.length, turned := false }) e3 (by omega) e4 (Nat.le_refl _), e5 hf⟩
  · exact absurd hf e0

end Go.X

/-! The laws' world: turning. -/
namespace Go.X

def sumL (rs : List (List UInt8)) : Nat := (rs.map fun s => 36 + s.length).sum

theorem enc_sum {M : Bk} {m bs m' : List UInt8} {rs : List (List UInt8)} (h : Enc M m rs bs m') : bs.length = sumL rs := by
  induction h with
  | nil m => rfl
  | cons a b c _ ih => rw [List.length_append, recK_length, ih]; simp [sumL]

theorem sumL_le {l : List (List UInt8)} {k : Nat} (c : UInt8) (h : ∀ s ∈ l, s.length ≤ k) : sumL (l.map (c :: ·)) ≤ (37 + k) * l.length := by
  induction l with
  | nil => simp [sumL]
  | cons s l ih =>
    have h1 := h s List.mem_cons_self
    have h2 := ih fun t ht => h t (List.mem_cons_of_mem _ ht)
    simp only [sumL, List.map_cons, List.sum_cons, List.length_cons] at h2 ⊢
    rw [Nat.mul_succ]
    omega

theorem z00 : ¬ ((0 : Int) ≠ 0) := fun h => h rfl
theorem z7 : (7 : Int) ≠ 0 := by decide
theorem z14 : (14 : Int) ≠ 0 := by decide
theorem or7 : (7 : Int) = 7 ∨ (7 : Int) = 4 ∨ (7 : Int) = 2 := .inl rfl
theorem or0 : ¬ ((0 : Int) = 7 ∨ (0 : Int) = 4 ∨ (0 : Int) = 2) := by decide
theorem or14 : ¬ ((14 : Int) = 7 ∨ (14 : Int) = 4 ∨ (14 : Int) = 2) := by decide

/-- Turning, call by call. -/
theorem turn_how {D D1 : DD} {M : Bk} {n : Nat} {xs : List (List UInt8)} {l : LG} {A B : PR4} {S : Int × DD} (hl : l.n = n) (hn : n ≠ 99999999) (hc : D.create (nm (n + 1)) = (0, D1)) (hA : putW D1 M ⟨n + 1, 0, firstM (n + 1)⟩ 83 xs = A)
    (hB : (if A.err = 0 then putW A.disk A.book A.log 69 [[]] else A) = B) (hS : (if B.err = 0 then B.disk.sync else (B.err, B.disk)) = S) :
    turnW D M l xs = (if S.1 ≠ 0 then ⟨S.1, if S.1 = 7 ∨ S.1 = 4 ∨ S.1 = 2 then (S.2.remove (nm (n + 1))).2 else S.2, B.book, l⟩
      else ⟨0, ((if S.1 = 7 ∨ S.1 = 4 ∨ S.1 = 2 then (S.2.remove (nm (n + 1))).2 else S.2).remove (nm n)).2, B.book, B.log⟩) := by
  unfold turnW
  rw [hl, if_neg hn]
  have hb : beginW D M (n + 1) xs = ⟨S.1, if S.1 = 7 ∨ S.1 = 4 ∨ S.1 = 2 then (S.2.remove (nm (n + 1))).2 else S.2, B.book, B.log⟩ := by
    unfold beginW
    rw [hc]
    dsimp only
    rw [if_neg z00, hA, hB, hS]
  rw [hb]

theorem filter_other {W : List DW} {id : Int} (h : ∀ p ∈ W, p.id ≠ id) : W.filter (fun p => !(p.id == id)) = W :=
  List.filter_eq_self.2 fun p hp => by simpa using h p hp

theorem filter_same {W : List DW} {id : Int} (h : ∀ p ∈ W, p.id = id) : W.filter (fun p => !(p.id == id)) = [] :=
  List.filter_eq_nil_iff.2 fun p hp => by simpa using h p hp

theorem filter_none' {W : List DW} {id : Int} (h : ∀ p ∈ W, p.id ≠ id) : W.filter (fun p => p.id == id) = [] :=
  List.filter_eq_nil_iff.2 fun p hp => by simpa using h p hp

theorem syncF_other {f : DF} : ∀ {W : List DW}, (∀ p ∈ W, p.id ≠ f.id) → syncF W f = f
  | [], _ => rfl
  | p :: W, h => by
    show syncF W (lastF p p.text.length f) = f
    rw [lastF_none (fun e => h p List.mem_cons_self e.1.symm)]
    exact syncF_other fun q hq => h q (List.mem_cons_of_mem _ hq)

theorem syncF_append (a b : List DW) (f : DF) : syncF (a ++ b) f = syncF b (syncF a f) := by unfold syncF; rw [List.foldl_append]

section
variable {D : DD} {M : Bk} {n E0 : Nat} {f : DF} {rs0 out0 tt1 : List (List UInt8)} {P m0 m1 : List UInt8} {cs : List (List (List UInt8))} {ts : List (List UInt8)}

theorem Up.waits (h : Up D M n f E0 rs0 out0 tt1 P m0 cs ts m1) : ∀ p ∈ D.wait, p.id = f.id := fun p hp => by rw [h.wait] at hp; exact wpcs_id f.id _ _ p hp

/-- What the waiting writes of a segment are behind those to the next one. -/
theorem Up.two (h : Up D M n f E0 rs0 out0 tt1 P m0 cs ts m1) {W2 : List DW} {g : Int} (hg : g ≠ f.id) (h2 : ∀ p ∈ W2, p.id = g) :
    (D.wait ++ W2).filter (fun p => p.id == f.id) = (wpcs f.id P.length ts).take (wpcs f.id P.length ts).length ∧ (D.wait ++ W2).filter (fun p => p.id == g) = W2 ∧ (D.wait ++ W2).filter (fun p => !(p.id == g)) = D.wait := by
  refine ⟨?_, ?_, ?_⟩
  · rw [List.filter_append, filter_none' (W := W2) (fun p hp => by rw [h2 p hp]; exact hg), List.append_nil, List.take_length, h.wait]
    exact List.filter_eq_self.2 fun p hp => by rw [wpcs_id f.id _ _ p hp]; simp
  · rw [List.filter_append, filter_none' (W := D.wait) (fun p hp => by rw [h.waits p hp]; exact fun e => hg e.symm), List.nil_append]
    exact List.filter_eq_self.2 fun p hp => by rw [h2 p hp]; simp
  · rw [List.filter_append, filter_same h2, List.append_nil]
    exact filter_other fun p hp => by rw [h.waits p hp]; exact fun e => hg e.symm

/-- The device goes on as it was, but for its counts. -/
theorem Up.like (h : Up D M n f E0 rs0 out0 tt1 P m0 cs ts m1) {D' : DD} (h1 : D'.files = D.files) (h2 : D'.wait = D.wait) (h3 : D'.off = false) (h4 : D'.most = D.most) (h5 : f.id < D'.made) (h6 : -1 ≤ D'.fuse) : Up D' M n f E0 rs0 out0 tt1 P m0 cs ts m1 :=
  ⟨h3, by rw [h1]; exact h.files, h.name, h.enc0, h.encC, h.last, h.core, h.flat, by rw [h2]; exact h.wait, h.seen, h5, by rw [h4]; exact h.most, h6, by rw [h1, h4]; exact h.room⟩

/-- Turning. -/
theorem turn_up (h : Up D M n f E0 rs0 out0 tt1 P m0 cs ts m1) (hn : n ≤ 1000000) {xs : List (List UInt8)} (hx : xs.length ≤ 8) (hxs : ∀ s ∈ xs, s.length ≤ 4096) {l : LG} (hl : l.n = n) {R : PR4} (hR : turnW D M l xs = R) :
    ∃ Xb, R.book = M ++ Xb ∧ Xb.length ≤ 9 ∧
      ((R.err = 7 ∧ Up R.disk M n f E0 rs0 out0 tt1 P m0 cs ts m1 ∧ R.log = l ∧ R.disk.count = R.disk.count ∧ (D.fuse = -1 → R.disk.fuse = -1) ∧ R.disk.most = D.most ∧ D.most - takesAll D.files < (secs (sumL (segR xs [])) : Int)) ∨
       (R.err = 0 ∧ (∃ g P' m', Up R.disk (M ++ Xb) (n + 1) g 0 (segR xs []) xs [] P' m' [] [] m' ∧ R.log = ⟨n + 1, P'.length, m'⟩) ∧ (D.fuse = -1 → R.disk.fuse = -1) ∧ R.disk.most = D.most ∧ (takesAll D.files + secs (sumL (segR xs [])) : Int) ≤ D.most) ∨
       (R.err = 14 ∧ D.fuse ≠ -1 ∧ R.disk.off = true ∧ R.log = l ∧
        ∀ (Q : List (List UInt8) → Prop), (∀ j, Q (out0 ++ tt1.take j)) → Q xs → ∀ Y zs, (M ++ Xb ++ Y).length < 65536 → ∃ f' rs bs m out, Rec (R.disk.crash zs) (M ++ Xb ++ Y) Q n f' rs bs m out)) := by
  have hlt : cmpS (nm n) (nm (n + 1)) < 0 := nm_lt (Nat.lt_succ_self n) (by omega)
  obtain ⟨g0, hg0⟩ : ∃ g0 : DF, g0 = ⟨D.made, nm (n + 1), [], []⟩ := ⟨_, rfl⟩
  obtain ⟨D1, hD1⟩ : ∃ D1 : DD, D1 = { D with files := [f, g0], made := D.made + 1 } := ⟨_, rfl⟩
  have hcreate : D.create (nm (n + 1)) = (0, D1) := by
    have hls : lessB (nm (n + 1)) f = true := by unfold lessB; rw [h.name]; exact decide_eq_true hlt
    have ha : ahead (nm (n + 1)) [f] = [f] := by unfold ahead; rw [List.takeWhile_cons, hls]; rfl
    have hb : behind (nm (n + 1)) [f] = [] := by unfold behind; rw [List.dropWhile_cons, hls]; rfl
    unfold DD.create
    rw [if_neg (by rw [h.off]; decide), if_neg (by rw [nameB_nm]; decide), h.files, hb, if_neg (by simp [isHead]), ha, hD1, hg0]
    rfl
  have hne : g0.id ≠ f.id := by rw [hg0]; show D.made ≠ f.id; have := h.made; omega
  have hr2 : ∀ u v : List UInt8, Rising [f, { g0 with last := u, seen := v }] := fun u v => ⟨fun g hg => by
    rw [List.mem_singleton.1 hg, h.name, hg0]; exact hlt, rising_one _⟩
  have hgn : g0.name = nm (n + 1) := by rw [hg0]
  have hgl : g0.last = [] := by rw [hg0]
  have hgs : g0.seen = [] := by rw [hg0]
  have htk1 : takesAll D1.files = takesAll D.files := by
    rw [hD1, h.files]
    simp only [takesAll, DF.takes, hgl, hgs]
    rfl
  have hTf := h.takes
  have hro := h.room
  obtain ⟨bS, X1, s1, s2, s3, s4, s5⟩ := putB_enc 83 xs ⟨0, [], firstM (n + 1), M⟩ rfl (fun t ht => by have := hxs t ht; omega)
  obtain ⟨Z, hZ⟩ : ∃ Z, putB 83 xs ⟨0, [], firstM (n + 1), M⟩ = Z := ⟨_, rfl⟩
  rw [hZ] at s1 s2 s3 s5
  dsimp only at s1 s2 s3 s4 s5
  rw [List.nil_append] at s2
  have hbSl : bS.length ≤ 40000 := by
    rw [enc_sum s5]
    have := sumL_le 83 hxs
    have h8 : (37 + 4096) * xs.length ≤ (37 + 4096) * 8 := Nat.mul_le_mul_left _ hx
    omega
  obtain ⟨bE, X2, t1, t2, t3, t4, t5⟩ := putB_enc 69 [[]] ⟨0, [], Z.mark, M ++ X1⟩ rfl (fun t ht => by rw [List.mem_singleton.1 ht]; simp)
  obtain ⟨Z2, hZ2⟩ : ∃ Z2, putB 69 [[]] ⟨0, [], Z.mark, M ++ X1⟩ = Z2 := ⟨_, rfl⟩
  rw [hZ2] at t1 t2 t3 t5
  dsimp only at t1 t2 t3 t4 t5
  rw [List.nil_append] at t2
  simp only [List.map_cons, List.map_nil] at t5
  have hbEl : bE.length = 37 := by rw [one_enc t5]; rfl
  have hsum : sumL (segR xs []) = bS.length + bE.length := by
    rw [enc_sum s5, hbEl]
    simp [segR, sumL]
  -- the first write
  have hf1 : D1.files = [f] ++ g0 :: [] := by rw [hD1]; rfl
  have w1 := put_end (A := [f]) (B := []) (g := g0) (n := n + 1) (E0 := 0) (T := []) (b := bS) hf1 (by rw [hf1]; have := hr2 g0.last g0.seen; exact this) (by rw [hD1]; exact h.off) hgn (by rw [hgs]; rfl) (by rw [hgl]; exact Nat.zero_le _) (by rw [hD1]; exact h.most) (by rw [htk1, hD1]; exact hro) (by rw [hD1]; exact h.fuse) (by omega)
  have hg0t : g0.takes = 0 := by simp [DF.takes, hgl, hgs, secs]
  simp only [List.length_nil, Nat.zero_add, List.nil_append, Nat.max_self, Nat.zero_max] at w1
  rw [hg0t] at w1
  unfold DD.free at w1
  rw [htk1] at w1
  have hm1 : D1.most = D.most := by rw [hD1]
  have hfu1 : D1.fuse = D.fuse := by rw [hD1]
  have hwt1 : D1.wait = D.wait := by rw [hD1]
  have hmd1 : D1.made = D.made + 1 := by rw [hD1]
  rw [hm1, hfu1, hwt1, hmd1] at w1
  have hA : putW D1 M ⟨n + 1, 0, firstM (n + 1)⟩ 83 xs = (if (D1.write (nm (n + 1)) ((0 : Nat) : Int) bS).1 ≠ 0 then ⟨(D1.write (nm (n + 1)) ((0 : Nat) : Int) bS).1, (D1.write (nm (n + 1)) ((0 : Nat) : Int) bS).2, M ++ X1, ⟨n + 1, 0, firstM (n + 1)⟩⟩
      else ⟨0, (D1.write (nm (n + 1)) ((0 : Nat) : Int) bS).2, M ++ X1, ⟨n + 1, bS.length, Z.mark⟩⟩) := by
    unfold putW
    dsimp only
    rw [hZ, if_neg (by rw [s1]; exact fun h => h rfl), s2, s3]
    simp only [Nat.zero_add]
  obtain ⟨W1, hW1⟩ : ∃ W1, D1.write (nm (n + 1)) ((0 : Nat) : Int) bS = W1 := ⟨_, rfl⟩
  rw [hW1] at hA w1
  have hn9 : n ≠ 99999999 := by omega
  have hmono : secs bS.length ≤ secs (bS.length + bE.length) := by unfold secs; omega
  have half2 : ∀ (Y : Bk) (u : List UInt8) (k : Nat), Tail (D.wait ++ (pcs bS.length g0.id 0 bS).take k) (M ++ X1 ++ Y) n f E0 rs0 out0 tt1 P m0 cs ts m1 ∧
      Half (D.wait ++ (pcs bS.length g0.id 0 bS).take k) (M ++ X1 ++ Y) (n + 1) { g0 with seen := u } 0 [] [] (firstM (n + 1)) [xs.map (83 :: ·)] [bS] Z.mark := by
    intro Y u k
    obtain ⟨q1, q2, _⟩ := h.two (W2 := (pcs bS.length g0.id 0 bS).take k) hne (fun p hp => (pcs_ok _ _ _ _ p (List.mem_of_mem_take hp)).1)
    refine ⟨⟨⟨h.name, (h.enc0.more X1).more Y, (h.encC.more X1).more Y, h.last, ⟨_, q1⟩⟩, h.core, h.flat⟩, ⟨hgn, .nil _, .cons (s5.more Y) (.nil _), by rw [show ({ g0 with seen := u } : DF).last = g0.last from rfl, hgl]; rfl, ⟨k, ?_⟩⟩⟩
    rw [show ({ g0 with seen := u } : DF).id = g0.id from rfl, q2]
    simp [wpcs]
  have hrm : ∀ (DD' : DD) (u v : List UInt8), DD'.files = [f, { g0 with last := u, seen := v }] → DD'.off = false → DD'.remove (nm (n + 1)) = (0, { DD' with files := [f], wait := DD'.wait.filter fun p => !(p.id == g0.id) }) := by
    intro DD' u v e1 e2
    have := remove_mid (D := DD') (A := [f]) (B := []) (f := { g0 with last := u, seen := v }) e1 (by rw [e1]; exact hr2 u v) e2
    rw [show ({ g0 with last := u, seen := v } : DF).name = nm (n + 1) from hgn] at this
    exact this
  rcases w1 with ⟨⟨_, c1⟩, c2⟩ | ⟨c0, ⟨c1, c2, c3, c4, c5, c6, c7, c8, c9⟩ | ⟨c1, c2, c3, ⟨u, c4, _⟩, ⟨k, c5⟩, c6, c7, c8⟩⟩
  · -- no room for the snapshot
    rw [c2, if_pos z7] at hA
    have hR2 := turn_how hl hn9 hcreate hA (if_neg z7) (if_neg z7)
    rw [hR, if_pos z7, if_pos or7] at hR2
    have hrem := hrm D1 [] [] (by rw [hf1, hg0]; rfl) (by rw [hD1]; exact h.off)
    rw [hrem] at hR2
    refine ⟨X1, by rw [hR2], by omega, .inl ?_⟩
    rw [hR2]
    refine ⟨rfl, h.like (by rw [h.files]) ?_ (by show D1.off = false; rw [hD1]; exact h.off) hm1 (by show f.id < D1.made; rw [hmd1]; have := h.made; omega) (by show -1 ≤ D1.fuse; rw [hfu1]; exact h.fuse), rfl, rfl, fun e => by show D1.fuse = -1; rw [hfu1, e], hm1, ?_⟩
    · show D1.wait.filter _ = D.wait
      rw [hwt1]
      exact filter_other fun p hp => by rw [h.waits p hp]; exact fun e => hne e.symm
    · rw [hsum]
      omega
  · -- the snapshot is written
    rw [if_neg (by rw [c1]; exact z00)] at hA
    have hf2 : W1.2.files = [f] ++ { g0 with seen := bS } :: [] := by
      rw [c3]
      have : pad bS 0 = bS := by unfold pad; simp
      rw [this]
    have hB : putW W1.2 (M ++ X1) ⟨n + 1, bS.length, Z.mark⟩ 69 [[]] = (if (W1.2.write (nm (n + 1)) ((bS.length : Nat) : Int) bE).1 ≠ 0 then ⟨(W1.2.write (nm (n + 1)) ((bS.length : Nat) : Int) bE).1, (W1.2.write (nm (n + 1)) ((bS.length : Nat) : Int) bE).2, M ++ X1 ++ X2, ⟨n + 1, bS.length, Z.mark⟩⟩
        else ⟨0, (W1.2.write (nm (n + 1)) ((bS.length : Nat) : Int) bE).2, M ++ X1 ++ X2, ⟨n + 1, bS.length + bE.length, Z2.mark⟩⟩) := by
      unfold putW
      dsimp only
      rw [hZ2, if_neg (by rw [t1]; exact fun h => h rfl), t2, t3]
    have w2 := put_end (A := [f]) (B := []) (g := { g0 with seen := bS }) (n := n + 1) (E0 := 0) (T := bS) (b := bE) hf2 (by rw [hf2]; have := hr2 g0.last bS; exact this) c2 hgn (by unfold pad; simp) (by rw [show ({ g0 with seen := bS } : DF).last = g0.last from rfl, hgl]; exact Nat.zero_le _)
      (by rw [c5]; exact h.most) (by rw [c5]; exact c9) c7 (by omega)
    obtain ⟨W2, hW2⟩ : ∃ W2, W1.2.write (nm (n + 1)) ((bS.length : Nat) : Int) bE = W2 := ⟨_, rfl⟩
    rw [hW2] at hB w2
    have hg1t : ({ g0 with seen := bS } : DF).takes = secs bS.length := by simp [DF.takes, hgl]
    have htk2 : takesAll W1.2.files = takesAll D.files + secs bS.length := by
      rw [hf2, takesAll_mid, hg1t, h.files]
      simp [takesAll]
    rw [hg1t] at w2
    unfold DD.free at w2
    rw [htk2, c5, c6, c4] at w2
    have hbE0 : bE ≠ [] := fun e => by rw [e] at hbEl; simp at hbEl
    have hids : ∀ p ∈ pcs bS.length g0.id 0 bS, p.id = g0.id := fun p hp => (pcs_ok _ _ _ _ p hp).1
    rcases w2 with ⟨⟨_, d1⟩, d2⟩ | ⟨d0, ⟨d1, d2, d3, d4, d5, d6, d7, d8, d9⟩ | ⟨d1, d2, d3, ⟨u, d4, _⟩, ⟨k, d5⟩, d6, d7, d8⟩⟩
    · -- no room for its end
      rw [d2, if_pos z7] at hB
      have hR2 := turn_how hl hn9 hcreate hA ((if_pos rfl).trans hB) (if_neg z7)
      rw [hR, if_pos z7, if_pos or7] at hR2
      have hrem := hrm W1.2 g0.last bS hf2 c2
      rw [hrem] at hR2
      refine ⟨X1 ++ X2, by rw [hR2, ← List.append_assoc], by rw [List.length_append]; simp only [List.length_singleton] at t4; omega, .inl ?_⟩
      rw [hR2]
      refine ⟨rfl, h.like (by rw [h.files]) ?_ c2 c5 (by show f.id < W1.2.made; rw [c6]; have := h.made; omega) c7, rfl, rfl, fun e => c8 e, c5, ?_⟩
      · show W1.2.wait.filter _ = D.wait
        rw [c4]
        exact (h.two hne hids).2.2
      · rw [hsum]
        push_cast at d1
        omega
    · -- all is written
      rw [if_neg (by rw [d1]; exact z00)] at hB
      have hR2 := turn_how hl hn9 hcreate hA ((if_pos rfl).trans hB) ((if_pos rfl).trans (sync_on d2))
      rw [hR, if_neg z00, if_neg or0] at hR2
      have hpad : pad (bS ++ bE) 0 = bS ++ bE := by unfold pad; simp
      rw [hpad] at d3
      have hids2 : ∀ p ∈ pcs bE.length g0.id bS.length bE, p.id = g0.id := fun p hp => (pcs_ok _ _ _ _ p hp).1
      -- the new file lasts
      have hsg : syncF W2.2.wait { g0 with seen := bS ++ bE } = { g0 with last := bS ++ bE, seen := bS ++ bE } := by
        rw [d4, syncF_append, syncF_append, syncF_other (W := D.wait) (f := { g0 with seen := bS ++ bE }) (fun p hp => by rw [h.waits p hp]; exact fun e => hne e.symm)]
        have e1 := wsync 0 [bS, bE] [] { g0 with seen := bS ++ bE } (by show g0.last = _; rw [hgl]; rfl)
        simp only [wpcs, List.length_nil, Nat.zero_add, List.append_nil, List.nil_append, List.flatten_cons, List.flatten_nil] at e1
        rw [syncF_append, hpad] at e1
        exact e1
      have hsf := syncF_name W2.2.wait f
      have hfm : W2.2.files.map (syncF W2.2.wait) = syncF W2.2.wait f :: { g0 with last := bS ++ bE, seen := bS ++ bE } :: [] := by
        rw [d3]
        simp only [List.map_cons, List.map_nil, List.cons_append, List.nil_append]
        rw [hsg]
      have hr3 : Rising (W2.2.files.map (syncF W2.2.wait)) := by
        rw [hfm]
        refine ⟨fun g hg => ?_, rising_one _⟩
        rw [List.mem_singleton.1 hg, hsf, h.name]
        show cmpS (nm n) g0.name < 0
        rw [hgn]; exact hlt
      have hrem := remove_mid (D := { W2.2 with files := W2.2.files.map (syncF W2.2.wait), wait := [] }) (A := []) (B := [{ g0 with last := bS ++ bE, seen := bS ++ bE }]) (f := syncF W2.2.wait f) hfm hr3 d2
      rw [hsf, h.name] at hrem
      dsimp only at hR2
      rw [hrem] at hR2
      refine ⟨X1 ++ X2, by rw [hR2, ← List.append_assoc], by rw [List.length_append]; simp only [List.length_singleton] at t4; omega, .inr (.inl ?_)⟩
      rw [hR2]
      refine ⟨rfl, ⟨{ g0 with last := bS ++ bE, seen := bS ++ bE }, bS ++ bE, Z2.mark, ?_, by rw [List.length_append]⟩, fun e => d8 (c8 e), d5, ?_⟩
      · refine ⟨d2, rfl, hgn, ?_, .nil _, hpad.symm, ?_, rfl, rfl, ?_, ?_, by rw [show ({ W2.2 with files := [] ++ [({ g0 with last := bS ++ bE, seen := bS ++ bE } : DF)], wait := [].filter fun p : DW => !(p.id == (syncF W2.2.wait f).id) } : DD).most = W2.2.most from rfl, d5]; exact h.most, d7, ?_⟩
        · rw [← List.append_assoc]
          have := (s5.more X2).append t5
          simpa [segR] using this
        · have := cores_seg xs []
          rwa [List.append_nil] at this
        · show bS ++ bE = pad (bS ++ bE ++ [].flatten) 0
          rw [List.flatten_nil, List.append_nil, hpad]
        · show g0.id < W2.2.made
          rw [d6, hg0]
          show D.made < D.made + 1
          omega
        · show ((takesAll [({ g0 with last := bS ++ bE, seen := bS ++ bE } : DF)] : Nat) : Int) ≤ W2.2.most
          rw [d5]
          rw [d3, takesAll_mid] at d9
          simp only [takesAll, DF.takes, Nat.max_self, Nat.add_zero] at d9 ⊢
          rw [show ({ g0 with seen := bS ++ bE } : DF).last = g0.last from rfl, hgl] at d9
          simp only [List.length_nil, Nat.max_zero] at d9
          omega
      · rw [hsum]
        have hdd : ¬ D.most - ((takesAll D.files + secs bS.length : Nat) : Int) < (secs (bS.length + bE.length) : Int) - (secs bS.length : Nat) := fun h => d0 ⟨hbE0, h⟩
        omega
    · -- the power goes while its end is written
      rw [d2, if_pos z14] at hB
      have hR2 := turn_how hl hn9 hcreate hA ((if_pos rfl).trans hB) (if_neg z14)
      rw [hR, if_pos z14, if_neg or14] at hR2
      refine ⟨X1 ++ X2, by rw [hR2, ← List.append_assoc], by rw [List.length_append]; simp only [List.length_singleton] at t4; omega, .inr (.inr ?_)⟩
      rw [hR2]
      refine ⟨rfl, fun e => d1 (c8 e), d3, rfl, fun Q hQ hQx Y zs hY => ?_⟩
      dsimp only
      rw [← List.append_assoc] at hY ⊢
      have hids3 : ∀ p ∈ pcs bS.length g0.id 0 bS ++ (pcs bE.length g0.id bS.length bE).take k, p.id = g0.id := fun p hp => by
        rcases List.mem_append.1 hp with hp | hp
        · exact hids p hp
        · exact (pcs_ok _ _ _ _ p (List.mem_of_mem_take hp)).1
      have d5 : W2.2.wait = D.wait ++ (pcs bS.length g0.id 0 bS ++ (pcs bE.length g0.id bS.length bE).take k) := by rw [d5, List.append_assoc]
      obtain ⟨q1, q2, _⟩ := h.two hne hids3
      rw [← d5] at q1 q2
      have htl : Tail W2.2.wait (M ++ X1 ++ X2 ++ Y) n f E0 rs0 out0 tt1 P m0 cs ts m1 := ⟨⟨h.name, ((h.enc0.more X1).more X2).more Y, ((h.encC.more X1).more X2).more Y, h.last, ⟨_, q1⟩⟩, h.core, h.flat⟩
      have hhf : Half W2.2.wait (M ++ X1 ++ X2 ++ Y) (n + 1) { g0 with seen := u } 0 [] [] (firstM (n + 1)) [xs.map (83 :: ·), [[69]]] [bS, bE] Z2.mark := by
        refine ⟨hgn, .nil _, .cons ((s5.more X2).more Y) (.cons (t5.more Y) (.nil _)), by rw [show ({ g0 with seen := u } : DF).last = g0.last from rfl, hgl]; rfl, ⟨(pcs bS.length g0.id 0 bS).length + k, ?_⟩⟩
        rw [show ({ g0 with seen := u } : DF).id = g0.id from rfl, q2]
        simp only [wpcs, List.length_nil, Nat.zero_add, List.append_nil]
        rw [List.take_append, List.take_of_length_le (Nat.le_add_right _ _), show (pcs bS.length g0.id 0 bS).length + k - (pcs bS.length g0.id 0 bS).length = k by omega]
      refine rec_two htl hhf (.inr (by simp [segR])) d4 (by rw [d4]; have := hr2 g0.last u; exact this) (by rw [d7]; have := h.made; omega) (by show g0.id < _; rw [d7, hg0]; show D.made < D.made + 1; omega) hne (by rw [d6]; exact h.most) ?_ hY hQ hQx zs
      rw [d6]
      simp only [List.flatten_cons, List.flatten_nil, List.append_nil, List.length_append]
      have hdd : ¬ D.most - ((takesAll D.files + secs bS.length : Nat) : Int) < (secs (bS.length + bE.length) : Int) - (secs bS.length : Nat) := fun h => d0 ⟨hbE0, h⟩
      rw [hTf] at hdd
      rw [show max (max P.length E0) (P.length + ts.flatten.length) = max (P.length + ts.flatten.length) E0 by omega]
      omega
  · -- the power goes while the snapshot is written
    rw [c2, if_pos z14] at hA
    have hR2 := turn_how hl hn9 hcreate hA (if_neg z14) (if_neg z14)
    rw [hR, if_pos z14, if_neg or14] at hR2
    refine ⟨X1, by rw [hR2], by omega, .inr (.inr ?_)⟩
    rw [hR2]
    refine ⟨rfl, c1, c3, rfl, fun Q hQ hQx Y zs hY => ?_⟩
    dsimp only
    obtain ⟨htl, hhf⟩ := half2 Y u k
    rw [← c5] at htl hhf
    refine rec_two htl hhf (.inl (by simp)) c4 (by rw [c4]; have := hr2 g0.last u; exact this) (by rw [c7]; have := h.made; omega) (by show g0.id < _; rw [c7, hg0]; show D.made < D.made + 1; omega) hne (by rw [c6]; exact h.most) ?_ hY hQ hQx zs
    rw [c6]
    simp only [List.flatten_cons, List.flatten_nil, List.append_nil]
    rw [show max (max P.length E0) (P.length + ts.flatten.length) = max (P.length + ts.flatten.length) E0 by omega]
    rw [hTf] at c0
    by_cases hb0 : bS = []
    · rw [hb0]
      have : secs ([] : List UInt8).length = 0 := rfl
      rw [this]
      rw [hTf] at hro
      omega
    · have hcc : ¬ D.most - ((secs (max (P.length + ts.flatten.length) E0) : Nat) : Int) < (secs bS.length : Int) - ((0 : Nat) : Int) := fun h => c0 ⟨hb0, h⟩
      omega

end
theorem sameL_self (x : List (List UInt8)) : sameL x x = true := decide_eq_true rfl

theorem turn_inv {N : Nat} {X : WW} (h : XInv N X) (hN : N ≤ 1000000) {xs : List (List UInt8)} (hx : xs.length ≤ 8) (hxs : ∀ s ∈ xs, s.length ≤ 300) : (turnX xs X).1 = true ∧ XInv (N + 1) (turnX xs X).2 := by
  rcases h with ⟨n, f, E0, rs0, out0, tt1, P, m0, cs, ts, m1, h1, h2, h3, h4, h5⟩ | ⟨h1, h0, h2⟩
  · obtain ⟨R, hR⟩ : ∃ R, turnW X.D X.M X.l xs = R := ⟨_, rfl⟩
    obtain ⟨Xb, b1, b2, b3⟩ := turn_up h2 (by omega) hx (fun s hs => Nat.le_trans (hxs s hs) (by decide)) (l := X.l) (by rw [h3]) hR
    unfold turnX
    rw [hR]
    dsimp only
    rw [h2.off]
    rcases b3 with ⟨e1, e2, e3, _, e4, e5, _⟩ | ⟨e1, ⟨g, P', m', e2, e3⟩, e4, e5, _⟩ | ⟨e1, e2, e3, e4, e5⟩
    · rw [if_neg (by rw [e1]; decide), if_neg (by rw [e1]; decide)]
      refine ⟨by rw [e1, e3]; simp, .inl ⟨n, f, E0, rs0, out0, tt1, P, m0, cs, ts, m1, by omega, ?_, ?_, h4, h5⟩⟩
      · show Up R.disk R.book _ _ _ _ _ _ _ _ _ _ _
        rw [b1]
        exact e2.more Xb
      · show R.log = _
        rw [e3, h3]
    · rw [if_pos e1]
      refine ⟨by rw [e3, h3]; simp, .inl ⟨n + 1, g, 0, segR xs [], xs, [], P', m', [], [], m', by omega, ?_, ?_, ?_, Nat.le_refl _⟩⟩
      · show Up R.disk R.book _ _ _ _ _ _ _ _ _ _ _
        rw [b1]
        exact e2
      · show R.log = _
        rw [e3]; simp
      · show xs = xs ++ []
        simp
    · rw [if_neg (by rw [e1]; decide), if_pos e1, if_pos rfl]
      refine ⟨e3, .inr ⟨e3, by show R.log.n ≤ N + 1; rw [e4, h3]; show n ≤ N + 1; omega, fun Y zs hY => ?_⟩⟩
      dsimp only at hY ⊢
      rw [b1] at hY ⊢
      obtain ⟨f', rs, bs, m, out, hr⟩ := e5 (Acc X.all X.safe true xs) (fun j => .inl (by rw [h4]; exact beginsL_take h5 j)) (.inr (by rw [sameL_self]; rfl)) Y zs hY
      exact ⟨n, f', rs, bs, m, out, by omega, hr⟩
  · have hturn : turnW X.D X.M X.l xs = ⟨14, X.D, X.M, X.l⟩ := by
      unfold turnW
      rw [if_neg (by omega)]
      unfold beginW
      rw [create_off h1]
      dsimp only
      rw [if_pos (by decide : (14 : Int) ≠ 0)]
      dsimp only
      rw [if_pos (by decide : (14 : Int) ≠ 0)]
    unfold turnX
    rw [hturn]
    dsimp only
    rw [h1, if_neg (by decide), if_pos rfl, if_neg (by decide)]
    refine ⟨rfl, .inr ⟨h1, by show X.l.n ≤ N + 1; omega, fun Y zs hY => ?_⟩⟩
    obtain ⟨n, f, rs, bs, m, out, h3, h4⟩ := h2 Y zs hY
    exact ⟨n, f, rs, bs, m, out, by omega, h4⟩

/-- Each step of the laws' world. -/
theorem step_inv {N k : Nat} {X : WW} (h : XInv N X) (hN : N ≤ 100000) (hg : Good k X) (hk : k ≤ 1000) (o : WOp) : (stepX o X).1 = true ∧ XInv (N + 1) (stepX o X).2 := by
  have hb := hg.book
  unfold stepX
  split
  · obtain ⟨h1, h2⟩ := app_inv h (cutL_length o.text)
    exact ⟨h1, h2.up (Nat.le_succ _)⟩
  split
  · obtain ⟨h1, h2⟩ := sync_inv h
    exact ⟨h1, h2.up (Nat.le_succ _)⟩
  split
  · exact turn_inv h (by omega) (fewL_length _) (fun s hs => fewL_cut hs)
  split
  · obtain ⟨n, f, rs, bs, m, out, h1, h2⟩ := h.crash (by omega) o.fx
    obtain ⟨h3, h4, _⟩ := open_inv (X := { X with D := X.D.crash o.fx }) h2 h1 (by omega) (show X.M.length < 65536 by omega) rfl
    exact ⟨h3, .inl h4⟩
  · exact ⟨rfl, (arm_inv h o.n).up (Nat.le_succ _)⟩

end Go.X

/-! Formatting a device that has no segments. -/
namespace Go.X

theorem segsW_nil {D : DD} (h : D.files = []) : segsW D = [] := by unfold segsW DD.names; rw [h]; rfl

theorem takesAll_zero : ∀ {A : List DF}, (∀ x ∈ A, x.seen = [] ∧ x.last = []) → takesAll A = 0
  | [], _ => rfl
  | x :: A, h => by
    have h1 := h x List.mem_cons_self
    simp [takesAll, DF.takes, h1.1, h1.2, secs, takesAll_zero fun y hy => h y (List.mem_cons_of_mem _ hy)]

/-- A segment is begun on a device whose files are all empty. -/
theorem begin_empty {D : DD} {M : Bk} {A B : List DF} {D1 : DD} {g0 : DF} (hc : D.create (nm 1) = (0, D1)) (hg0 : g0 = ⟨D.made, nm 1, [], []⟩) (hD1 : D1 = { D with files := A ++ g0 :: B, made := D.made + 1 })
    (hr : Rising (A ++ g0 :: B)) (ho : D.off = false) (hw : D.wait = []) (hm0 : 1 ≤ D.most) (hm : D.most ≤ 300) (hf : D.fuse = -1) (he : ∀ x ∈ A ++ B, x.seen = [] ∧ x.last = []) (hid : ∀ x ∈ A ++ B, x.id < D.made) :
    ∃ Xb P m, (beginW D M 1 []).err = 0 ∧ (beginW D M 1 []).book = M ++ Xb ∧ Xb.length ≤ 1 ∧ Enc (M ++ Xb) (firstM 1) [[69]] P m ∧ P.length = 37 ∧ (beginW D M 1 []).log = ⟨1, 37, m⟩ ∧
      (beginW D M 1 []).disk.files = A ++ { g0 with last := P, seen := P } :: B ∧ (beginW D M 1 []).disk.off = false ∧ (beginW D M 1 []).disk.wait = [] ∧ (beginW D M 1 []).disk.fuse = -1 ∧ (beginW D M 1 []).disk.most = D.most ∧ (beginW D M 1 []).disk.made = D.made + 1 := by
  have hgn : g0.name = nm 1 := by rw [hg0]
  have hgl : g0.last = [] := by rw [hg0]
  have hgs : g0.seen = [] := by rw [hg0]
  have hf1 : D1.files = A ++ g0 :: B := by rw [hD1]
  have hz : takesAll A + takesAll B = 0 := by rw [← takesAll_append]; exact takesAll_zero he
  have hg0t : g0.takes = 0 := by simp [DF.takes, hgl, hgs, secs]
  have htk1 : takesAll D1.files = 0 := by rw [hf1, takesAll_mid]; omega
  have hr2 : ∀ u v : List UInt8, Rising (A ++ { g0 with last := u, seen := v } :: B) := fun u v => rising_mid (f := g0) rfl hr
  have w1 := put_end (A := A) (B := B) (g := g0) (n := 1) (E0 := 0) (T := []) (b := []) hf1 (by rw [hf1]; exact hr) (by rw [hD1]; exact ho) hgn (by rw [hgs]; rfl) (by rw [hgl]; exact Nat.zero_le _) (by rw [hD1]; exact hm) (by rw [htk1, hD1]; show ((0 : Nat) : Int) ≤ D.most; omega) (by rw [hD1]; show -1 ≤ D.fuse; omega) (by decide)
  obtain ⟨bE, X2, t1, t2, t3, t4, t5⟩ := putB_enc 69 [[]] ⟨0, [], firstM 1, M⟩ rfl (fun t ht => by rw [List.mem_singleton.1 ht]; simp)
  obtain ⟨Z2, hZ2⟩ : ∃ Z2, putB 69 [[]] ⟨0, [], firstM 1, M⟩ = Z2 := ⟨_, rfl⟩
  rw [hZ2] at t1 t2 t3 t5
  dsimp only at t1 t2 t3 t4 t5
  rw [List.nil_append] at t2
  simp only [List.map_cons, List.map_nil] at t5
  have hbEl : bE.length = 37 := by rw [one_enc t5]; rfl
  have hA : putW D1 M ⟨1, 0, firstM 1⟩ 83 [] = (if (D1.write (nm 1) ((0 : Nat) : Int) []).1 ≠ 0 then ⟨(D1.write (nm 1) ((0 : Nat) : Int) []).1, (D1.write (nm 1) ((0 : Nat) : Int) []).2, M, ⟨1, 0, firstM 1⟩⟩
      else ⟨0, (D1.write (nm 1) ((0 : Nat) : Int) []).2, M, ⟨1, 0, firstM 1⟩⟩) := rfl
  simp only [List.length_nil] at w1
  obtain ⟨W1, hW1⟩ : ∃ W1, D1.write (nm 1) ((0 : Nat) : Int) [] = W1 := ⟨_, rfl⟩
  rw [hW1] at hA w1
  have hfu1 : D1.fuse = D.fuse := by rw [hD1]
  rcases w1 with ⟨⟨c1, _⟩, _⟩ | ⟨c0, ⟨c1, c2, c3, c4, c5, c6, c7, c8, c9⟩ | ⟨c1, _⟩⟩
  · exact absurd rfl c1
  · rw [if_neg (by rw [c1]; exact z00)] at hA
    have hpad0 : pad ([] ++ [] : List UInt8) 0 = [] := rfl
    rw [hpad0] at c3
    have hg : ({ g0 with seen := [] } : DF) = g0 := by rw [hg0]
    rw [hg] at c3
    have hB : putW W1.2 M ⟨1, 0, firstM 1⟩ 69 [[]] = (if (W1.2.write (nm 1) ((0 : Nat) : Int) bE).1 ≠ 0 then ⟨(W1.2.write (nm 1) ((0 : Nat) : Int) bE).1, (W1.2.write (nm 1) ((0 : Nat) : Int) bE).2, M ++ X2, ⟨1, 0, firstM 1⟩⟩
        else ⟨0, (W1.2.write (nm 1) ((0 : Nat) : Int) bE).2, M ++ X2, ⟨1, 37, Z2.mark⟩⟩) := by
      unfold putW
      dsimp only
      rw [hZ2, if_neg (by rw [t1]; exact z00), t2, t3, hbEl]
    have hm1 : D1.most = D.most := by rw [hD1]
    have htk2 : takesAll W1.2.files = 0 := by rw [c3, ← hf1, htk1]
    have w2 := put_end (A := A) (B := B) (g := g0) (n := 1) (E0 := 0) (T := []) (b := bE) c3 (by rw [c3]; exact hr) c2 hgn (by rw [hgs]; rfl) (by rw [hgl]; exact Nat.zero_le _) (by rw [c5, hm1]; exact hm) (by rw [htk2, c5, hm1]; show ((0 : Nat) : Int) ≤ D.most; omega) c7 (by omega)
    simp only [List.length_nil] at w2
    obtain ⟨W2, hW2⟩ : ∃ W2, W1.2.write (nm 1) ((0 : Nat) : Int) bE = W2 := ⟨_, rfl⟩
    rw [hW2] at hB w2
    unfold DD.free at w2
    rw [htk2, hg0t, c5, hm1, hbEl] at w2
    have hs37 : secs (0 + 37) = 1 := rfl
    rw [hs37] at w2
    have hfuW1 : W1.2.fuse = -1 := c8 (by rw [hfu1]; exact hf)
    rcases w2 with ⟨⟨_, d1⟩, d2⟩ | ⟨d0, ⟨d1, d2, d3, d4, d5, d6, d7, d8, d9⟩ | ⟨d1, _⟩⟩
    · exfalso; omega
    · rw [if_neg (by rw [d1]; exact z00)] at hB
      have hpad : pad ([] ++ bE) 0 = bE := by unfold pad; simp
      rw [hpad] at d3
      have hwait2 : W2.2.wait = wpcs g0.id 0 [bE] := by
        rw [d4, c4, hD1, hw]
        simp [wpcs, pcs, hbEl]
      have hsg : syncF W2.2.wait { g0 with seen := bE } = { g0 with last := bE, seen := bE } := by
        have e1 := wsync 0 [bE] [] { g0 with seen := bE } (by show g0.last = _; rw [hgl]; rfl)
        simp only [List.length_nil, List.nil_append, List.flatten_cons, List.flatten_nil, List.append_nil] at e1
        rw [hwait2]
        have : pad bE 0 = bE := by unfold pad; simp
        rw [this] at e1
        exact e1
      have hsx : ∀ x ∈ A ++ B, syncF W2.2.wait x = x := fun x hx => syncF_other fun p hp => by
        rw [hwait2] at hp
        rw [wpcs_id _ _ _ p hp, hg0]
        have := hid x hx
        show D.made ≠ x.id
        omega
      have hmap : ∀ C : List DF, (∀ x ∈ C, syncF W2.2.wait x = x) → C.map (syncF W2.2.wait) = C := by
        intro C
        induction C with
        | nil => intro _; rfl
        | cons x C ih => intro h; rw [List.map_cons, h x List.mem_cons_self, ih fun y hy => h y (List.mem_cons_of_mem _ hy)]
      have hmapA := hmap A fun x hx => hsx x (List.mem_append_left _ hx)
      have hmapB := hmap B fun x hx => hsx x (List.mem_append_right _ hx)
      have hbeg : beginW D M 1 [] = ⟨0, { W2.2 with files := A ++ { g0 with last := bE, seen := bE } :: B, wait := [] }, M ++ X2, ⟨1, 37, Z2.mark⟩⟩ := by
        unfold beginW
        rw [hc]
        dsimp only
        rw [if_neg z00, hA]
        dsimp only
        rw [if_pos rfl, hB]
        dsimp only
        rw [if_pos rfl, sync_on d2]
        dsimp only
        rw [if_neg or0, d3, List.map_append, List.map_cons, hmapA, hmapB, hsg]
      refine ⟨X2, bE, Z2.mark, ?_⟩
      rw [hbeg]
      exact ⟨rfl, rfl, t4, t5, hbEl, rfl, rfl, d2, rfl, d8 hfuW1, by show W2.2.most = _; rw [d5], by show W2.2.made = _; rw [d6, c6, hD1]⟩
    · exact absurd hfuW1 d1
  · exact absurd (by rw [hfu1]; exact hf) c1

/-- A device laid anew. -/
theorem format_new {n : Nat} (h1 : 1 ≤ n) (h2 : n ≤ 300) : (formatW (DD.empty n) []).err = 0 ∧ ∃ f P m, Up (formatW (DD.empty n) []).disk (formatW (DD.empty n) []).book 1 f 0 [[69]] [] [] P m [] [] m ∧ P.length = 37 ∧ (formatW (DD.empty n) []).log = ⟨1, P.length, m⟩ ∧
    (formatW (DD.empty n) []).book.length ≤ 1 ∧ (formatW (DD.empty n) []).disk.fuse = -1 ∧ (formatW (DD.empty n) []).disk.most = n := by
  have hfm : formatW (DD.empty n) [] = beginW (DD.empty n) [] 1 [] := by
    unfold formatW
    rw [if_neg (by show ¬ (false = true); decide), segsW_nil rfl]
    rfl
  rw [hfm]
  have hc : (DD.empty n).create (nm 1) = (0, { DD.empty n with files := [⟨0, nm 1, [], []⟩], made := 0 + 1 }) := by
    unfold DD.create
    rw [if_neg (by show ¬ (false = true); decide), if_neg (by rw [nameB_nm]; decide), if_neg (by show ¬ (isHead (nm 1) (behind (nm 1) []) = true); simp [behind, isHead])]
    rfl
  obtain ⟨Xb, P, m, e1, e2, e3, e4, e5, e6, e7, e8, e9, e10, e11, e12⟩ := begin_empty (D := DD.empty n) (M := []) (A := []) (B := []) (D1 := _) (g0 := ⟨0, nm 1, [], []⟩) hc rfl rfl (rising_one _) rfl rfl (by show (1 : Int) ≤ n; omega) (by show (n : Int) ≤ 300; omega) rfl (fun x hx => by cases hx) (fun x hx => by cases hx)
  refine ⟨e1, { (⟨0, nm 1, [], []⟩ : DF) with last := P, seen := P }, P, m, ?_, e5, by rw [e6, e5], by rw [e2]; simpa using e3, e10, e11⟩
  have hp : pad P 0 = P := by unfold pad; simp
  refine ⟨e8, e7, rfl, ?_, .nil _, hp.symm, rfl, rfl, by rw [e9]; rfl, ?_, by rw [e12]; show (0 : Int) < 0 + 1; decide, by rw [e11]; show (n : Int) ≤ 300; omega, by rw [e10]; decide, ?_⟩
  · rw [e2]; exact e4
  · show P = pad (P ++ [].flatten) 0
    rw [List.flatten_nil, List.append_nil, hp]
  · rw [e7, e11]
    show ((takesAll [({ id := 0, name := nm 1, last := P, seen := P } : DF)] : Nat) : Int) ≤ n
    simp only [takesAll, DF.takes, e5, Nat.max_self, Nat.add_zero]
    have : secs 37 = 1 := rfl
    rw [this]
    omega

end Go.X
