/- WalFormats. -/
import Derived.Test.YtmbiffmfcloepaaGreatDoorWBroken
namespace Go.X
open Go.Proofs Go.ChangeShapes Go.WideShapes Go.RowKit

/-! ### Plain -/

theorem head_mem {name : ByteArray} {fs : List DF} (hr : Rising fs) {f : DF} (hf : f ∈ fs) (hn : f.name = name) : ∃ A B, fs = A ++ f :: B ∧ ahead name fs = A ∧ behind name fs = f :: B := by
  obtain ⟨A, B, rfl⟩ := List.append_of_mem hf
  subst hn
  exact ⟨A, B, rfl, behind_mid hr⟩

theorem rising_ne {A B : List DF} {f : DF} (h : Rising (A ++ f :: B)) : ∀ g ∈ A ++ B, g.name ≠ f.name := by
  intro g hg e
  have hnd := nodup_names h
  rw [List.map_append, List.map_cons, List.nodup_append] at hnd
  obtain ⟨_, h2, h3⟩ := hnd
  rcases List.mem_append.1 hg with hg | hg
  · exact h3 g.name (List.mem_map.2 ⟨g, hg, rfl⟩) f.name (by simp) e
  · exact (List.nodup_cons.1 h2).1 (List.mem_map.2 ⟨g, hg, e⟩)

theorem filter_names {A B : List DF} {f : DF} (h : Rising (A ++ f :: B)) : (A ++ f :: B).filter (fun g => decide (g.name ≠ f.name)) = A ++ B := by
  have hne := rising_ne h
  rw [List.filter_append, List.filter_cons, if_neg (by simp)]
  rw [List.filter_eq_self.2 fun g hg => decide_eq_true (hne g (List.mem_append_left _ hg)), List.filter_eq_self.2 fun g hg => decide_eq_true (hne g (List.mem_append_right _ hg))]

/-- Removing, said of the names. -/
theorem remove_filter {D : DD} (hr : Rising D.files) (ho : D.off = false) (hw : D.wait = []) (name : ByteArray) : (D.remove name).2 = { D with files := D.files.filter fun g => decide (g.name ≠ name) } := by
  by_cases h : ∃ f ∈ D.files, f.name = name
  · obtain ⟨f, hf, hn⟩ := h
    obtain ⟨A, B, hD⟩ := List.append_of_mem hf
    have hrem := remove_mid hD hr ho
    rw [hn] at hrem
    rw [hrem, hD]
    have hr' := hr
    rw [hD] at hr'
    have hfl := filter_names hr'
    rw [hn] at hfl
    rw [hfl, hw]
    obtain ⟨fs, wt, mo, fu, of, co, ma⟩ := D
    dsimp only at hw
    subst hw
    rfl
  · have hno : ∀ g ∈ D.files, g.name ≠ name := fun g hg e => h ⟨g, hg, e⟩
    have hh : isHead name (behind name D.files) = false := by
      cases hb : behind name D.files with
      | nil => rfl
      | cons g r =>
        have hg : g ∈ D.files := by rw [← ahead_behind name D.files, hb]; simp
        exact decide_eq_false fun e => hno g hg (cmpS_eq e)
    unfold DD.remove
    rw [if_neg (by rw [ho]; decide), if_pos hh, List.filter_eq_self.2 fun g hg => decide_eq_true (hno g hg)]

theorem rising_filter {p : DF → Bool} : ∀ {fs : List DF}, Rising fs → Rising (fs.filter p)
  | [], _ => trivial
  | f :: fs, h => by
    rw [List.filter_cons]
    split
    · exact ⟨fun g hg => h.1 g (List.mem_filter.1 hg).1, rising_filter h.2⟩
    · exact rising_filter h.2

theorem dropAll_filter : ∀ (ns : List Nat) {D : DD}, Rising D.files → D.off = false → D.wait = [] → dropAll D ns = { D with files := D.files.filter fun g => ns.all fun n => decide (g.name ≠ nm n) }
  | [], D, _, _, _ => by
    have e : D.files.filter (fun g => ([] : List Nat).all fun n => decide (g.name ≠ nm n)) = D.files := List.filter_eq_self.2 fun g _ => rfl
    rw [e]
    rfl
  | n :: ns, D, hr, ho, hw => by
    show dropAll (D.remove (nm n)).2 ns = _
    rw [remove_filter hr ho hw, dropAll_filter ns (D := { D with files := D.files.filter fun g => decide (g.name ≠ nm n) }) (rising_filter hr) ho hw, List.filter_filter]
    congr 1
    refine List.filter_congr fun g _ => ?_
    rw [List.all_cons, Bool.and_comm]

/-- The files that are no segments. -/
theorem drop_segs {D : DD} (hr : Rising D.files) (ho : D.off = false) (hw : D.wait = []) : dropAll D (segsW D) = { D with files := D.files.filter fun g => (segNum g.name.data.toList).isNone } := by
  rw [dropAll_filter _ hr ho hw]
  congr 1
  refine List.filter_congr fun g hg => ?_
  cases hs : segNum g.name.data.toList with
  | none =>
    refine List.all_eq_true.2 fun n hn => decide_eq_true fun e => ?_
    rw [e, nm, str_toList, segNum_segName n (segsW_lt hn)] at hs
    cases hs
  | some n =>
    have hn : n ∈ segsW D := by
      unfold segsW DD.names
      exact List.mem_filterMap.2 ⟨g.name, by rw [List.mem_reverse]; exact List.mem_map.2 ⟨g, hg, rfl⟩, hs⟩
    have hname : g.name = nm n := by
      have := segName_segNum hs
      rw [nm, ← this, str_data]
    have : ((segsW D).all fun n => decide (g.name ≠ nm n)) = false := by
      rw [Bool.eq_false_iff]
      intro h
      have := List.all_eq_true.1 h n hn
      exact of_decide_eq_true this hname
    rw [this]
    rfl

theorem create_rising {D : DD} (hr : Rising D.files) (ho : D.off = false) {name : ByteArray} (hn : nameB name = true) (hno : ∀ g ∈ D.files, g.name ≠ name) :
    ∃ A B, D.files = A ++ B ∧ D.create name = (0, { D with files := A ++ (⟨D.made, name, [], []⟩ : DF) :: B, made := D.made + 1 }) ∧ Rising (A ++ (⟨D.made, name, [], []⟩ : DF) :: B) := by
  have hh : isHead name (behind name D.files) = false := by
    cases hb : behind name D.files with
    | nil => rfl
    | cons g r =>
      have hg : g ∈ D.files := by rw [← ahead_behind name D.files, hb]; simp
      exact decide_eq_false fun e => hno g hg (cmpS_eq e)
  refine ⟨ahead name D.files, behind name D.files, (ahead_behind _ _).symm, ?_, rising_put (nw := ⟨D.made, name, [], []⟩) rfl hr hh⟩
  unfold DD.create
  rw [if_neg (by rw [ho]; decide), if_neg (by rw [hn]; decide), if_neg (by rw [hh]; decide)]

/-- Making a file: one more, or nothing. -/
theorem create_cases {D : DD} (hr : Rising D.files) (ho : D.off = false) (name : ByteArray) :
    ((D.create name).1 ≠ 0 ∧ (D.create name).2 = D) ∨
    ((D.create name).1 = 0 ∧ ∃ A B, D.files = A ++ B ∧ (D.create name).2 = { D with files := A ++ (⟨D.made, name, [], []⟩ : DF) :: B, made := D.made + 1 } ∧ Rising (A ++ (⟨D.made, name, [], []⟩ : DF) :: B)) := by
  by_cases hn : nameB name = true
  · by_cases hex : ∃ g ∈ D.files, g.name = name
    · left
      obtain ⟨g, hg, he⟩ := hex
      obtain ⟨A, B, _, _, hb⟩ := head_mem hr hg he
      unfold DD.create
      rw [if_neg (by rw [ho]; decide), if_neg (by rw [hn]; decide), if_pos (by rw [hb]; simp [isHead, he, cmpS_refl])]
      exact ⟨by show (9 : Int) ≠ 0; decide, rfl⟩
    · right
      obtain ⟨A, B, h1, h2, h3⟩ := create_rising hr ho hn fun g hg e => hex ⟨g, hg, e⟩
      rw [h2]
      exact ⟨rfl, A, B, h1, rfl, h3⟩
  · left
    unfold DD.create
    rw [if_neg (by rw [ho]; decide), if_pos (by simpa using hn)]
    exact ⟨by show (1 : Int) ≠ 0; decide, rfl⟩

theorem segsW_mid {D : DD} {A B : List DF} {g : DF} (h : D.files = A ++ g :: B) (hg : g.name = nm 1) (hA : ∀ x ∈ A ++ B, segNum x.name.data.toList = none) : segsW D = [1] := by
  have none' : ∀ C : List DF, (∀ x ∈ C, segNum x.name.data.toList = none) → ((C.map (·.name)).reverse.filterMap fun x => segNum x.data.toList) = [] := fun C hC =>
    List.filterMap_eq_nil_iff.2 fun x hx => by
      rw [List.mem_reverse] at hx
      obtain ⟨y, hy, rfl⟩ := List.mem_map.1 hx
      exact hC y hy
  unfold segsW DD.names
  rw [h, List.map_append, List.map_cons, List.reverse_append, List.reverse_cons, List.filterMap_append, List.filterMap_append, none' B fun x hx => hA x (List.mem_append_right _ hx), none' A fun x hx => hA x (List.mem_append_left _ hx)]
  simp only [List.filterMap_cons, List.filterMap_nil, hg, nm, str_toList, segNum_segName 1 (by decide)]
  rfl

/-- Formatting a device whose segments go: an empty log. -/
theorem format_any {D : DD} {M : Bk} (hr : Rising D.files) (ho : D.off = false) (hw : D.wait = []) (hm0 : 1 ≤ D.most) (hm : D.most ≤ 300) (hf : D.fuse = -1) (hid : ∀ x ∈ D.files, x.id < D.made)
    (he : ∀ x ∈ D.files, segNum x.name.data.toList = none → x.seen = [] ∧ x.last = []) :
    (formatW D M).err = 0 ∧ (formatW D M).log.n = 1 ∧ (openW (formatW D M).disk (formatW D M).book).err = 0 ∧ (openW (formatW D M).disk (formatW D M).book).out = [] ∧ (openW (formatW D M).disk (formatW D M).book).disk = (formatW D M).disk ∧
      ∀ x ∈ D.files, segNum x.name.data.toList = none → ((formatW D M).disk.size x.name).2 = 0 := by
  obtain ⟨D3, hD3⟩ : ∃ D3 : DD, D3 = { D with files := D.files.filter fun g => (segNum g.name.data.toList).isNone } := ⟨_, rfl⟩
  have hfm : formatW D M = beginW D3 M 1 [] := by
    unfold formatW
    rw [if_neg (by rw [ho]; decide), drop_segs hr ho hw, ← hD3]
  have hmem : ∀ x ∈ D3.files, x ∈ D.files ∧ segNum x.name.data.toList = none := fun x hx => by
    rw [hD3] at hx
    obtain ⟨h1, h2⟩ := List.mem_filter.1 hx
    exact ⟨h1, by simpa using h2⟩
  have hr3 : Rising D3.files := by rw [hD3]; exact rising_filter hr
  have hno : ∀ g ∈ D3.files, g.name ≠ nm 1 := fun g hg e => by
    have := (hmem g hg).2
    rw [e, nm, str_toList, segNum_segName 1 (by decide)] at this
    cases this
  have ho3 : D3.off = false := by rw [hD3]; exact ho
  obtain ⟨A, B, h1, h2, h3⟩ := create_rising hr3 ho3 (nameB_nm 1) hno
  have hAB : ∀ x ∈ A ++ B, x ∈ D3.files := fun x hx => by rw [h1]; exact hx
  obtain ⟨Xb, P, m, b1, b2, b3, b4, b5, b6, b7, b8, b9, b10, b11, b12⟩ := begin_empty (M := M) h2 rfl rfl h3 ho3 (by rw [hD3]; exact hw) (by rw [hD3]; exact hm0) (by rw [hD3]; exact hm) (by rw [hD3]; exact hf)
    (fun x hx => he x (hmem x (hAB x hx)).1 (hmem x (hAB x hx)).2) (fun x hx => by rw [hD3]; exact hid x (hmem x (hAB x hx)).1)
  rw [hfm]
  obtain ⟨R, hR⟩ : ∃ R, beginW D3 M 1 [] = R := ⟨_, rfl⟩
  rw [hR] at b1 b2 b6 b7 b8 b9 b10 b11 b12 ⊢
  obtain ⟨g, hg⟩ : ∃ g : DF, g = { (⟨D3.made, nm 1, [], []⟩ : DF) with last := P, seen := P } := ⟨_, rfl⟩
  have b7 : R.disk.files = A ++ g :: B := by rw [b7, hg]
  have hgn : g.name = nm 1 := by rw [hg]
  have hgs : g.seen = P := by rw [hg]
  have hrR : Rising R.disk.files := by
    rw [b7, hg]
    exact rising_mid (f := ⟨D3.made, nm 1, [], []⟩) rfl h3
  have hseg := segsW_mid b7 hgn fun x hx => (hmem x (hAB x hx)).2
  have hload : loadF R.book P 1 = ⟨P.length, m, true, []⟩ := by
    have hc : cores [[69]] (false, []) = some (true, ([] : List (List UInt8))) := cores_seg [] []
    have := loadF_enc (rest := []) (n := 1) (by rw [b2]; exact b4 : Enc R.book (firstM 1) [[69]] P m) hc (nextB_short (by simp))
    rwa [List.append_nil] at this
  have hwipe : wipeW R.disk (LD.log ⟨P.length, m, true, []⟩ 1) = (0, R.disk) := by
    have hsz := size_mid b7 hrR b8
    have hrd := read_mid b7 hrR b8 P.length 0
    rw [hgn, hgs] at hsz hrd
    have hL : LD.log ⟨P.length, m, true, []⟩ 1 = ⟨1, P.length, m⟩ := rfl
    rw [hL]
    unfold wipeW
    dsimp only
    rw [hsz]
    dsimp only
    rw [if_neg (fun h => h rfl), show ((P.length : Int) - (P.length : Nat)) = ((0 : Nat) : Int) by omega, hrd]
    dsimp only
    rw [if_pos (.inr (by rw [List.take_zero]; rfl))]
  have hopen : openW R.disk R.book = ⟨0, R.disk, LD.log ⟨P.length, m, true, []⟩ 1, []⟩ := by
    unfold openW
    rw [if_neg (by rw [b8]; decide), hseg]
    unfold openL
    rw [loadW_mid b7 hrR b8 hgn, hgs, hload]
    dsimp only
    rw [if_pos rfl]
    have hdb : dropBut R.disk [1] 1 = R.disk := by simp [dropBut]
    rw [hdb, hwipe]
  refine ⟨b1, by rw [b6], by rw [hopen], by rw [hopen], by rw [hopen], fun x hx hs => ?_⟩
  have hx3 : x ∈ A ++ B := by
    rw [← h1, hD3]
    exact List.mem_filter.2 ⟨hx, by rw [hs]; rfl⟩
  have hxR : x ∈ R.disk.files := by
    rw [b7]
    rcases List.mem_append.1 hx3 with h | h
    · exact List.mem_append_left _ h
    · exact List.mem_append_right _ (List.mem_cons_of_mem _ h)
  obtain ⟨A', B', hsp⟩ := List.append_of_mem hxR
  rw [size_mid hsp hrR b8]

section
variable {W w : World} {L : List SP}

theorem pre4_lit : (⟨#[115, 101, 103, 45]⟩ : ByteArray) = str pre4 := rfl

theorem Formats_law {s : Sl} {os : List WOp} (hO : ∀ A, ROWOps W A s os) (name : ByteArray) (hs : Sat W w L) :
    Calls Tryz.prog F.barquelaw15_WalFormats ⟨[.slice s.a s.len s.cap, .string name]⟩ w fun e w' => ∃ v, e = .returned v ∧ v = .bool true ∧ Sat W w' L := by
  suffices H : ∀ K : Value → World → Prop, (∀ w', Sat W w' L → K (.bool true) w') → S.barquelaw15_WalFormats s name K w from S.barquelaw15_WalFormats_ok s _ _ _ (H _ fun _ h => ⟨rfl, h⟩)
  intro K hK
  have hawake : ∀ w', Sat W w' L → ∀ N : Bool → World → Prop, (∀ w'', Sat W w'' L → N true w'') → XCall Tryz.prog F.barquelaw15_awake [] (.leaf .bool) w' fun (x : Bool) w'' => N x w'' := fun w' h N hN => xcall (awake_spec h) fun v w'' ⟨e, g⟩ => ⟨true, e, hN _ g⟩
  refine xcall (laid_spec (n := 300) (by decide) (by decide) hs) ?_
  rintro v w1 ⟨p, rfl, h⟩
  refine ⟨some ⟨p, 0, none⟩, rfl, XIf.no rfl ?_⟩
  have hol := (hO emp).1
  refine xloop (fun (st : Int × Unit) w' => ∃ (j : Nat) (X : WW), st = ((j : Int), ()) ∧ j ≤ 20 ∧ j ≤ os.length ∧ XInv (j + 1) X ∧ Good (j + 1) X ∧ Sat W w' (WorldP p X :: L)) (fun st => (61 - st.1).toNat)
    ⟨0, X0 300, rfl, by omega, Nat.zero_le _, .inl (X0_up (by omega) (by omega)).1, X0_good (by omega), h⟩ ?_
  clear h
  rintro next _ w2 ⟨j, X, rfl, hj, hjo, hinv, hg, h⟩ hnext
  have hb := hg.book
  refine xjoin (fun (st : Bool × Unit) w' => st = (decide (j < os.length ∧ j < 20), ()) ∧ w' = w2) (fun J hJ => room_bit hol (hJ _ _ ⟨rfl, rfl⟩)) ?_
  rintro _ _ ⟨rfl, rfl⟩
  by_cases hc : j < os.length ∧ j < 20
  · refine XIf.yes (decide_eq_true hc) ?_
    have ho : os[j]? = some os[j] := List.getElem?_eq_getElem hc.1
    have hok := (hO emp).2.1 os[j] (List.getElem_mem hc.1)
    refine xwop (hO _) h j rfl ho (by show Int.toNat (j : Int) * 5 = j * 5; omega) fun a => xcall (step_spec hok h hg (by omega)) ?_
    rintro v w3 ⟨rfl, h3⟩
    obtain ⟨e1, e2⟩ := step_inv hinv (by omega) hg (by omega) os[j]
    refine ⟨_, rfl, xlet ((j + 1 : Nat) : Int) (by show IntKind.wrap .i64 ((j : Int) + 1) = _; rw [wi (by omega) (by omega)]; omega) ?_⟩
    exact hnext _ _ ⟨j + 1, _, rfl, by omega, by omega, e2, hg.stepX (by omega) os[j] hok.n.2, h3⟩ (by show (61 - ((j + 1 : Nat) : Int)).toNat < (61 - (j : Int)).toNat; omega)
  refine XIf.no (decide_eq_false hc) ?_
  clear hnext
  obtain ⟨d, b, q, sa, sn, g⟩ := WorldP.open h
  refine xnil (xload g 0 rfl rfl (xcalls (crash_world (s := ⟨none, 0, 0⟩) g hg (by omega) none_ints) ?_))
  rintro v w3 ⟨rfl, g⟩
  obtain ⟨n', f, rs, bs, m', out, r1, r2⟩ := hinv.crash (by omega) []
  have hfit := hg.fit.crash0 []
  obtain ⟨D1, hD1⟩ : ∃ D1, X.D.crash [] = D1 := ⟨_, rfl⟩
  have hfu1 : D1.fuse = -1 := by rw [← hD1]; rfl
  rw [hD1] at g r2 hfit
  -- what the device has
  have hsegs : ∀ x ∈ D1.files, segNum x.name.data.toList ≠ none := by
    intro x hx e
    rcases r2.files with h1 | ⟨g', _, _, _, _, h1, h2, _⟩
    · rw [h1, List.mem_singleton] at hx
      rw [hx, r2.name, nm, str_toList, segNum_segName _ (by omega)] at e
      cases e
    · rw [h1] at hx
      rcases List.mem_cons.1 hx with rfl | hx
      · rw [r2.name, nm, str_toList, segNum_segName _ (by omega)] at e
        cases e
      · rw [List.mem_singleton.1 hx, h2, nm, str_toList, segNum_segName _ (by omega)] at e
        cases e
  have hids : ∀ x ∈ D1.files, x.id < D1.made := by
    intro x hx
    rcases r2.files with h1 | ⟨g', _, _, _, _, h1, _, _, h2, _⟩
    · rw [h1, List.mem_singleton] at hx
      rw [hx]; exact r2.made
    · rw [h1] at hx
      rcases List.mem_cons.1 hx with rfl | hx
      · exact r2.made
      · rw [List.mem_singleton.1 hx]; exact h2
  have hmost1 : 1 ≤ D1.most := by
    have hro := r2.room
    have hrs : rs ≠ [] := fun e => by have := r2.core; rw [e] at this; cases this
    have hl1 := r2.found.enc.len
    have hl2 := r2.found.len
    have hl3 : 0 < rs.length := List.length_pos_iff.2 hrs
    have htk : 1 ≤ takesAll D1.files := by
      have hf1 : 1 ≤ f.takes := by unfold DF.takes secs; omega
      rcases r2.files with h1 | ⟨g', _, _, _, _, h1, _⟩
      · rw [h1]; simp only [takesAll]; omega
      · rw [h1]; simp only [takesAll]; omega
    omega
  have hcr := create_cases r2.rising r2.off name
  have hfit2 := hfit.create name
  have g : Sat W w3 (pts p (worldCells d b q sa sn X) :: own 1 sa (strs X.all) :: own 1 sn (strs X.snap) :: LogP q d b X.l :: DiskP d D1 :: BookP b X.M :: L) := g
  have hmade := hfit.made
  refine ⟨(), rfl, xnil (xload g 0 rfl rfl (xcall (Create_spec (name := name) (g.bring 4) r2.rising (Nat.le_trans hfit.len (by omega)) (by omega)) ?_))⟩
  rintro v w4 ⟨rfl, g⟩
  obtain ⟨C, hC⟩ : ∃ C, D1.create name = C := ⟨_, rfl⟩
  rw [hC] at g hcr hfit2 ⊢
  -- what formatting makes
  have hfa : Rising C.2.files ∧ C.2.off = false ∧ C.2.wait = [] ∧ C.2.most = D1.most ∧ C.2.fuse = -1 ∧ (∀ x ∈ C.2.files, x.id < C.2.made) ∧ (∀ x ∈ C.2.files, segNum x.name.data.toList = none → x.seen = [] ∧ x.last = []) ∧ (C.1 = 0 → ∃ x ∈ C.2.files, x.name = name) := by
    rcases hcr with ⟨h1, h2⟩ | ⟨h1, A, B, h2, h3, h4⟩
    · rw [h2]
      exact ⟨r2.rising, r2.off, r2.wait, rfl, hfu1, hids, fun x hx e => absurd e (hsegs x hx), fun e => absurd e h1⟩
    · rw [h3]
      have hmem : ∀ x ∈ A ++ (⟨D1.made, name, [], []⟩ : DF) :: B, x ∈ D1.files ∨ x = ⟨D1.made, name, [], []⟩ := fun x hx => by
        rw [h2]
        rcases List.mem_append.1 hx with hx | hx
        · exact .inl (List.mem_append_left _ hx)
        · rcases List.mem_cons.1 hx with rfl | hx
          · exact .inr rfl
          · exact .inl (List.mem_append_right _ hx)
      refine ⟨h4, r2.off, r2.wait, rfl, hfu1, fun x hx => ?_, fun x hx e => ?_, fun _ => ⟨⟨D1.made, name, [], []⟩, by simp, rfl⟩⟩
      · rcases hmem x hx with hx | rfl
        · have := hids x hx
          show x.id < D1.made + 1
          omega
        · show D1.made < D1.made + 1
          omega
      · rcases hmem x hx with hx | rfl
        · exact absurd e (hsegs x hx)
        · exact ⟨rfl, rfl⟩
  obtain ⟨a1, a2, a3, a4, a5, a6, a7, a8⟩ := hfa
  obtain ⟨f1, f2, f3, f4, f5, f6⟩ := format_any (M := X.M) a1 a2 a3 (by rw [a4]; exact hmost1) (by rw [a4]; exact r2.most) a5 a6 a7
  obtain ⟨hff, _, hfb, _⟩ := format_fit hfit2 X.M
  have g := g.drew
  have g : Sat W w4.drew (DiskP d C.2 :: pts p (worldCells d b q sa sn X) :: own 1 sa (strs X.all) :: own 1 sn (strs X.snap) :: LogP q d b X.l :: BookP b X.M :: L) := g
  refine ⟨C.1, rfl, xnil (xload (g.bring 1) 0 rfl rfl (xnil (xload (g.bring 1) 1 rfl rfl (xcalls (Format_spec (L := [pts p (worldCells d b q sa sn X), own 1 sa (strs X.all), own 1 sn (strs X.snap), LogP q d b X.l] ++ L) (g.arr [0, 5]) hfit2 (by omega) (by omega)) ?_))))⟩
  rintro v w5 ⟨_, hB⟩
  obtain ⟨q2, rfl, g⟩ := hB f1
  obtain ⟨R, hR⟩ : ∃ R, formatW C.2 X.M = R := ⟨_, rfl⟩
  rw [hR] at g f2 f3 f4 f5 f6 hff hfb
  have g := g.drew
  have g : Sat W w5.drew (LogP q2 d b R.log :: DiskP d R.disk :: BookP b R.book :: emp :: pts p (worldCells d b q sa sn X) :: own 1 sa (strs X.all) :: own 1 sn (strs X.snap) :: LogP q d b X.l :: L) := g
  refine ⟨(some ⟨q2, 0, none⟩, (0 : Int), ()), rfl, xnil (xload (g.bring 4) 0 rfl rfl (xnil (xload (g.bring 4) 1 rfl rfl (xcalls (Open_spec (L := [LogP q2 d b R.log, emp, pts p (worldCells d b q sa sn X), own 1 sa (strs X.all), own 1 sn (strs X.snap), LogP q d b X.l] ++ L) (g.arr [1, 2]) hff (by omega)) ?_))))⟩
  rintro v w6 ⟨_, hO2⟩
  obtain ⟨q3, so, rfl, g⟩ := hO2 f3
  rw [f4, f5] at g
  have g : Sat W w6 (LogP q3 d b (openW R.disk R.book).log :: own 1 so [] :: DiskP d R.disk :: BookP b R.book :: LogP q2 d b R.log :: emp :: pts p (worldCells d b q sa sn X) :: own 1 sa (strs X.all) :: own 1 sn (strs X.snap) :: LogP q d b X.l :: L) := g
  have hso := (g.bring 1).own_len
  simp only [List.length_nil] at hso
  refine ⟨(some ⟨q3, 0, none⟩, so, (0 : Int), ()), rfl, xnil (xload (g.bring 6) 0 rfl rfl (xsize (name := name) (g.bring 2) hff (by omega) fun w7 hq7 g7 => ?_))⟩
  have g : Sat W w7 (LogP q3 d b (openW R.disk R.book).log :: own 1 so [] :: DiskP d R.disk :: BookP b R.book :: LogP q2 d b R.log :: emp :: pts p (worldCells d b q sa sn X) :: own 1 sa (strs X.all) :: own 1 sn (strs X.snap) :: LogP q d b X.l :: L) := g.quiet hq7
  refine xjoin (fun (st : Bool × Unit) w' => st = (decide (name.data.toList.length = 12 ∧ name.data.toList.take 4 = pre4), ()) ∧ w' = w7) (fun J hJ => ?_) ?_
  · by_cases h12 : name.size = 12
    · refine XIf.yes (beq_iff_eq.2 (by omega)) ⟨⟨⟨by omega, by omega⟩, by omega, by omega⟩, xlet (str (name.data.toList.take 4)) (by rw [ext_str]; simp) (hJ _ _ ⟨?_, rfl⟩)⟩
      have : sEq (str (name.data.toList.take 4)) ⟨#[115, 101, 103, 45]⟩ = decide (name.data.toList.length = 12 ∧ name.data.toList.take 4 = pre4) := by
        rw [pre4_lit, sEq_str]
        refine decide_eq_decide.2 ⟨fun h => ⟨by rw [← size_list]; exact h12, h⟩, fun h => h.2⟩
      exact Prod.ext this rfl
    · refine XIf.no (by rw [Bool.eq_false_iff]; exact fun h => h12 (by have := beq_iff_eq.1 h; omega)) (hJ _ _ ⟨?_, rfl⟩)
      rw [decide_eq_false (fun h => h12 (by rw [size_list]; exact h.1))]
  rintro _ w8 ⟨rfl, rfl⟩
  refine xjoin (fun (st : Bool × Unit) w' => st = (false, ()) ∧ w' = w8) (fun J hJ => ?_) ?_
  · refine XIf.no rfl (XIf.no rfl (XIf.no (by rw [show so.len = 0 by omega]; rfl) (xcall (LogSegment_spec (g.bring 4)) ?_)))
    rintro v w9 ⟨rfl, rfl⟩
    refine ⟨(R.log.n : Int), rfl, hJ _ _ ⟨?_, rfl⟩⟩
    rw [f2]
    rfl
  rintro _ w10 ⟨rfl, rfl⟩
  have gl : Sat W w10 L := (((((((((g.drop).drop).drop).drop).drop).drop).drop).drop).drop).drop
  refine XIf.no rfl (xjoin0 ?_)
  by_cases hmd : C.1 = 0
  · refine XIf.no (by rw [hmd]; rfl) ?_
    by_cases hseg : name.data.toList.length = 12 ∧ name.data.toList.take 4 = pre4
    · exact XIf.yes (decide_eq_true hseg) (hawake _ gl _ fun w' h => hK w' h)
    · obtain ⟨x, hx1, hx2⟩ := a8 hmd
      have hnone : segNum x.name.data.toList = none := by
        rw [hx2]
        unfold segNum
        rw [if_pos]
        by_cases h12 : name.data.toList.length = 12
        · exact .inr fun e => hseg ⟨h12, e⟩
        · exact .inl h12
      have hz := f6 x hx1 hnone
      rw [hx2] at hz
      exact XIf.no (decide_eq_false hseg) (XIf.yes (by rw [hz]; rfl) (hawake _ gl _ fun w' h => hK w' h))
  · exact XIf.yes (by simpa using hmd) (hawake _ gl _ fun w' h => hK w' h)

end
end Go.X
