/- Where a file stands among the others, by name. -/
import Derived.Test.YtmbiffmfcloepaaGreatDoorDSmall
namespace Go.X
open Go.Proofs

/-! ### The order of names -/

theorem u8_lt_trans {a b c : UInt8} (h1 : a < b) (h2 : b < c) : a < c := by
  rw [UInt8.lt_iff_toNat_lt] at *; omega

theorem u8_asymm {a b : UInt8} (h1 : a < b) : ¬ b < a := by
  rw [UInt8.lt_iff_toNat_lt] at *; omega

theorem cmpL_range : ∀ (x y : List UInt8), cmpL x y = -1 ∨ cmpL x y = 0 ∨ cmpL x y = 1
  | [], [] => .inr (.inl rfl)
  | [], _ :: _ => .inl rfl
  | _ :: _, [] => .inr (.inr rfl)
  | a :: x, b :: y => by
    unfold cmpL
    split
    · exact .inl rfl
    · split
      · exact .inr (.inr rfl)
      · exact cmpL_range x y

theorem cmpL_eq : ∀ {x y : List UInt8}, cmpL x y = 0 → x = y
  | [], [], _ => rfl
  | [], _ :: _, h => by simp [cmpL] at h
  | _ :: _, [], h => by simp [cmpL] at h
  | a :: x, b :: y, h => by
    unfold cmpL at h
    split at h
    · cases h
    · split at h
      · cases h
      · rename_i h1 h2
        rw [u8_eq_of_not h1 h2, cmpL_eq h]

theorem cmpL_refl : ∀ (x : List UInt8), cmpL x x = 0
  | [] => rfl
  | a :: x => by unfold cmpL; rw [if_neg (u8_lt_irrefl a), if_neg (u8_lt_irrefl a)]; exact cmpL_refl x

theorem cmpL_swap : ∀ (x y : List UInt8), cmpL y x = - cmpL x y
  | [], [] => rfl
  | [], _ :: _ => rfl
  | _ :: _, [] => rfl
  | a :: x, b :: y => by
    unfold cmpL
    by_cases h1 : a < b
    · rw [if_pos h1, if_neg (u8_asymm h1), if_pos h1]; rfl
    · by_cases h2 : b < a
      · rw [if_pos h2, if_neg h1, if_pos h2]
      · rw [if_neg h2, if_neg h1, if_neg h1, if_neg h2]; exact cmpL_swap x y

theorem cmpL_trans : ∀ {x y z : List UInt8}, cmpL x y < 0 → cmpL y z < 0 → cmpL x z < 0
  | [], [], [], h1, _ => h1
  | [], _ :: _, [], _, h2 => by simp [cmpL] at h2
  | [], _, _ :: _, _, _ => by simp [cmpL]
  | _ :: _, [], _, h1, _ => by simp [cmpL] at h1
  | _ :: _, _ :: _, [], _, h2 => by simp [cmpL] at h2
  | a :: x, b :: y, c :: z, h1, h2 => by
    unfold cmpL at h1 h2 ⊢
    by_cases hab : a < b
    · by_cases hbc : b < c
      · rw [if_pos (u8_lt_trans hab hbc)]; decide
      · rw [if_neg hbc] at h2
        by_cases hcb : c < b
        · rw [if_pos hcb] at h2; exact absurd h2 (by decide)
        · rw [← u8_eq_of_not hbc hcb, if_pos hab]; decide
    · rw [if_neg hab] at h1
      by_cases hba : b < a
      · rw [if_pos hba] at h1; exact absurd h1 (by decide)
      · rw [if_neg hba] at h1
        have e := u8_eq_of_not hab hba
        subst e
        by_cases hbc : a < c
        · rw [if_pos hbc]; decide
        · rw [if_neg hbc] at h2 ⊢
          by_cases hcb : c < a
          · rw [if_pos hcb] at h2; exact absurd h2 (by decide)
          · rw [if_neg hcb] at h2 ⊢
            exact cmpL_trans h1 h2

theorem bytes_ext {a b : ByteArray} (h : a.data.toList = b.data.toList) : a = b := by
  cases a; cases b; congr; exact Array.ext' h

theorem cmpS_eq {a b : ByteArray} (h : cmpS a b = 0) : a = b := bytes_ext (cmpL_eq h)
theorem cmpS_refl (a : ByteArray) : cmpS a a = 0 := cmpL_refl _
theorem cmpS_trans {a b c : ByteArray} (h1 : cmpS a b < 0) (h2 : cmpS b c < 0) : cmpS a c < 0 := cmpL_trans h1 h2
theorem cmpS_swap (a b : ByteArray) : cmpS b a = - cmpS a b := cmpL_swap _ _

/-- Files whose names rise. -/
def Rising : List DF → Prop
  | [] => True
  | f :: fs => (∀ g ∈ fs, cmpS f.name g.name < 0) ∧ Rising fs

def lessB (name : ByteArray) (f : DF) : Bool := decide (cmpS f.name name < 0)
/-- The files ahead of a name, and the others. -/
def ahead (name : ByteArray) (fs : List DF) : List DF := fs.takeWhile (lessB name)
def behind (name : ByteArray) (fs : List DF) : List DF := fs.dropWhile (lessB name)

theorem ahead_behind (name : ByteArray) (fs : List DF) : ahead name fs ++ behind name fs = fs := List.takeWhile_append_dropWhile

/-- Is the first of these files the one of the name? -/
def isHead (name : ByteArray) : List DF → Bool
  | [] => false
  | f :: _ => decide (cmpS f.name name = 0)

theorem rising_lt : ∀ {fs : List DF} {i j : Nat} {f g : DF}, Rising fs → i < j → fs[i]? = some f → fs[j]? = some g → cmpS f.name g.name < 0
  | h :: fs, 0, j + 1, f, g, hr, _, h1, h2 => by
    simp at h1 h2; subst h1
    exact hr.1 g (List.mem_of_getElem? h2)
  | h :: fs, i + 1, j + 1, f, g, hr, hlt, h1, h2 => by
    simp at h1 h2
    exact rising_lt hr.2 (by omega) h1 h2

theorem takeWhile_len {α : Type} {p : α → Bool} : ∀ {l : List α} {k : Nat}, k ≤ l.length → (∀ i x, i < k → l[i]? = some x → p x = true) → (∀ x, l[k]? = some x → p x = false) → (l.takeWhile p).length = k
  | [], k, h, _, _ => by simp at h; simp [h]
  | x :: l, 0, _, _, h2 => by simp [h2 x rfl]
  | x :: l, k + 1, h, h1, h2 => by
    rw [List.takeWhile_cons, h1 0 x (by omega) rfl]
    simp only [if_true, List.length_cons]
    rw [takeWhile_len (k := k) (by simpa using h) (fun i y hi hy => h1 (i + 1) y (by omega) (by simpa using hy)) (fun y hy => h2 y (by simpa using hy))]

section
variable {W w : World} {L : List SP} {d : Nat} {D : DD}

theorem Compare_spec (a b : ByteArray) : Ret Tryz.prog F.strings_Compare [.string a, .string b] w fun v w' => v = .int .i64 (cmpS a b) ∧ w' = w := by
  refine S.strings_Compare_ok _ _ _ _ ?_
  have h : Ret Tryz.prog F.internal_bytealg_CompareString [.string a, .string b] w fun v w' => v = .int .i64 (cmpS a b) ∧ w' = w := by
    refine S.internal_bytealg_CompareString_ok _ _ _ _ ?_
    exact ⟨cmpS a b, w, cmpstring_run a b w, rfl, rfl⟩
  refine xcall h ?_
  rintro v w' ⟨rfl, rfl⟩
  exact ⟨_, rfl, rfl, rfl⟩

theorem half (i j : Nat) (h : i + j ≤ 2 ^ 62) : IntKind.wrap .i64 (ishr .u64 (IntKind.wrap .u64 (IntKind.wrap .i64 ((i : Int) + j))) 1) = ((i + j) / 2 : Nat) := by
  have e1 : IntKind.wrap .i64 ((i : Int) + j) = i + j := wi (by omega) (by omega)
  have e2 : IntKind.wrap .u64 ((i : Int) + j) = i + j := wu (by omega) (by omega)
  rw [e1, e2]
  have : ishr .u64 ((i : Int) + j) 1 = ((i + j) / 2 : Nat) := by
    unfold ishr
    have h1 : min (1 : Int).toNat (IntKind.bits .u64) = 1 := rfl
    rw [h1]
    rw [Int.fdiv_eq_ediv_of_nonneg _ (by decide)]
    omega
  rw [this, wi (by omega) (by omega)]

/-- A search by halves: the callee tells of each element how it stands to the target. -/
theorem bs_spec {A : SP} {s : Sl} {ps : List Nat} {name : ByteArray} {c : Nat → Int} {g : FuncId} (hb : hasBody Tryz.prog g = true) (hn : s.len ≤ 2 ^ 40)
    (hs : Sat W w (own 1 s (ps.map ptr) :: A :: L))
    (hc : ∀ k p w, ps[k]? = some p → Sat W w (own 1 s (ps.map ptr) :: A :: L) → Ret Tryz.prog g [ptr p, .string name] w fun v w' => v = .int .i64 (c k) ∧ Quiet w w')
    (hm : ∀ i j, i < j → j < ps.length → c j < 0 → c i < 0) :
    Ret Tryz.prog F.slices_BinarySearchFunc [.slice s.a s.len s.cap, .string name, .func (.func g) #[] #[]] w fun v w' =>
      ∃ k : Nat, v = .tuple ⟨[.int .i64 k, .bool (decide (k < ps.length ∧ c k = 0))]⟩ ∧ k ≤ ps.length ∧ (∀ i, i < k → c i < 0) ∧ (k < ps.length → 0 ≤ c k) ∧ Quiet w w' := by
  refine S.slices_BinarySearchFunc_ok _ _ _ _ _ ?_
  obtain ⟨w0, hw0⟩ : ∃ x : World, x = w := ⟨w, rfl⟩
  subst hw0
  have hlen : ps.length = s.len := by have := hs.own_len; simpa using this
  have call : ∀ (k p : Nat) (w : World) (K : Int → World → Prop), ps[k]? = some p → Sat W w (own 1 s (ps.map ptr) :: A :: L) →
      (∀ w', Quiet w w' → K (c k) w') → XCallV Tryz.prog (.func (.func g) #[] #[]) [ptr p, .string name] (.leaf (.int .i64)) w K := by
    intro k p w K hp hs hk
    unfold XCallV
    simp only [hb, List.nil_append, List.append_nil]
    exact xcall (t := .leaf (.int .i64)) (hc k p w hp hs) fun v w' ⟨e, h⟩ => ⟨c k, e, hk w' h⟩
  refine xloop (fun st w => ∃ i j : Nat, st = ((i : Int), (j : Int), ()) ∧ i ≤ j ∧ j ≤ ps.length ∧ (∀ k, k < i → c k < 0) ∧ (j < ps.length → 0 ≤ c j) ∧ Quiet w0 w)
    (fun st => (st.2.1 - st.1).toNat) ⟨0, ps.length, by rw [hlen]; rfl, by omega, Nat.le_refl _, by omega, by omega, Quiet.refl _⟩ ?_
  rintro next _ w ⟨i, j, rfl, hij, hj, h1, h2, hq⟩ hnext
  have hs := hs.quiet hq
  by_cases hlt : i < j
  · refine XIf.yes (by simpa using hlt) ⟨by decide, ?_⟩
    have hh := half i j (by omega)
    have hk : (i + j) / 2 < ps.length := by omega
    obtain ⟨p, hp⟩ : ∃ p, ps[(i + j) / 2]? = some p := ⟨_, List.getElem?_eq_getElem hk⟩
    refine xelem hs ((i + j) / 2) hh (x := some ⟨p, 0, none⟩) (by simp [readL, hp, ptr, Leaf.un]) (by show Int.toNat _ * 1 = _; rw [hh, Nat.mul_one, Int.toNat_natCast]) fun a => ?_
    refine call ((i + j) / 2) p w _ hp hs fun w' hs' => ?_
    by_cases hneg : c ((i + j) / 2) < 0
    · refine XIf.yes (by simpa using hneg) (hnext _ w' ⟨(i + j) / 2 + 1, j, ?_, by omega, hj, ?_, h2, hq.trans hs'⟩ ?_)
      · show (_, _, ()) = _
        rw [hh, wi (by omega) (by omega)]; simp
      · intro k hk'
        by_cases hlt' : k < (i + j) / 2
        · exact hm k _ hlt' hk hneg
        · have : k = (i + j) / 2 := by omega
          rw [this]; exact hneg
      · show (_ - _ : Int).toNat < (_ - _ : Int).toNat
        rw [hh, wi (by omega) (by omega)]; simp only; omega
    · refine XIf.no (by simpa using hneg) (hnext _ w' ⟨i, (i + j) / 2, ?_, by omega, by omega, h1, fun _ => by omega, hq.trans hs'⟩ ?_)
      · show (_, _, ()) = _
        rw [hh]
      · show (_ - _ : Int).toNat < (_ - _ : Int).toNat
        rw [hh]; simp only; omega
  · have e : i = j := by omega
    subst e
    refine XIf.no (by simp) (xjoin0 ?_)
    by_cases hk : i < ps.length
    · obtain ⟨p, hp⟩ : ∃ p, ps[i]? = some p := ⟨_, List.getElem?_eq_getElem hk⟩
      refine XIf.yes (by simp; omega) (xelem hs i rfl (x := some ⟨p, 0, none⟩) (by simp [readL, hp, ptr, Leaf.un]) (by show Int.toNat _ * 1 = _; simp) fun a => ?_)
      refine call i p w _ hp hs fun w' hs' => ⟨i, ?_, hj, h1, h2, hq.trans hs'⟩
      simp only [hk, true_and]
      rfl
    · refine XIf.no (by simp; omega) ⟨i, ?_, hj, h1, h2, hq⟩
      simp only [hk, false_and]
      rfl

/-- A file's name, by its place. -/
theorem place1_spec {l : List (Nat × DF)} {k : Nat} {x : Nat × DF} {A : SP} {name : ByteArray} (hx : l[k]? = some x) (hs : Sat W w (A :: FilesP l :: L)) :
    Ret Tryz.prog F.disk_Disk_place_1 [ptr x.1, .string name] w fun v w' => v = .int .i64 (cmpS x.2.name name) ∧ Quiet w w' := by
  obtain ⟨l1, l2, e, hl⟩ := split_at (List.getElem?_eq_some_iff.1 hx).1
  rw [(List.getElem?_eq_some_iff.1 hx).2] at e
  have h1 := hs.swap
  rw [e] at h1
  obtain ⟨ls, ss, h2⟩ := FileP.open (FilesP.take h1)
  refine S.disk_Disk_place_1_ok _ _ _ _ (xnil (xload h2 1 rfl rfl (xcall (Compare_spec _ _) ?_)))
  rintro v w' ⟨rfl, rfl⟩
  exact ⟨_, rfl, rfl, Quiet.refl _⟩

/-- Where a name stands among the files. -/
theorem place_spec {name : ByteArray} (hs : Sat W w (DiskP d D :: L)) (hr : Rising D.files) (hn : D.files.length ≤ 2 ^ 40) :
    Ret Tryz.prog F.disk_Disk_place [ptr d, .string name] w fun v w' =>
      v = .tuple ⟨[.int .i64 (ahead name D.files).length, .bool (isHead name (behind name D.files))]⟩ ∧ Quiet w w' := by
  refine S.disk_Disk_place_ok _ _ _ _ (xnil ?_)
  obtain ⟨l, fs, ws, hl, h⟩ := DiskP.open hs
  refine xload h 0 rfl rfl ?_
  have hll : l.length = D.files.length := by rw [← hl, List.length_map]
  have hlen : fs.len = l.length := by have := (h.bring 1).own_len; simpa using this.symm
  have hfile : ∀ (k : Nat) (x : Nat × DF), l[k]? = some x → D.files[k]? = some x.2 := fun k x hx => by rw [← hl, List.getElem?_map, hx]; rfl
  have hget : ∀ k p, (l.map (·.1))[k]? = some p → ∃ f, l[k]? = some (p, f) ∧ D.files[k]? = some f := fun k p hp => by
    rw [List.getElem?_map] at hp
    cases hx : l[k]? with
    | none => rw [hx] at hp; cases hp
    | some x => rw [hx] at hp; cases hp; exact ⟨x.2, hx, hfile k x hx⟩
  have hmap : l.map (fun x => ptr x.1) = (l.map (·.1)).map ptr := by rw [List.map_map]; rfl
  have h1 := h.sink 2
  rw [hmap] at h1
  have hlk : ∀ {k : Nat}, k < (l.map (·.1)).length → k < D.files.length := fun {k} h => by rw [List.length_map, hll] at h; exact h
  refine xcalls (bs_spec (c := fun k => match D.files[k]? with | some f => cmpS f.name name | none => 0) (g := F.disk_Disk_place_1) (by kernel_rfl) (show fs.len ≤ _ by omega) h1 ?_ ?_) ?_
  · intro k p w hp hs
    obtain ⟨f, hx, hf⟩ := hget k p hp
    simp only [hf]
    exact place1_spec hx hs
  · intro i j hij hj hneg
    have hj' := hlk hj
    simp only [List.getElem?_eq_getElem hj', List.getElem?_eq_getElem (Nat.lt_trans hij hj')] at hneg ⊢
    exact cmpS_trans (rising_lt hr hij (List.getElem?_eq_getElem _) (List.getElem?_eq_getElem hj')) hneg
  · rintro v w' ⟨k, rfl, hk, h2, h3, hs'⟩
    refine ⟨((k : Int), _, ()), rfl, ?_, ?_⟩
    · have hk' : k ≤ D.files.length := by rw [List.length_map, hll] at hk; exact hk
      have hkl : (ahead name D.files).length = k := by
        refine takeWhile_len hk' (fun i f hi hf => ?_) fun f hf => ?_
        · have := h2 i hi
          simp only [hf] at this
          simpa [lessB] using this
        · have := h3 (by rw [List.length_map, hll]; exact (List.getElem?_eq_some_iff.1 hf).1)
          simp only [hf] at this
          simpa [lessB] using this
      have hbh : behind name D.files = D.files.drop k := by
        have e : (ahead name D.files ++ behind name D.files).drop (ahead name D.files).length = behind name D.files := List.drop_left
        rw [ahead_behind, hkl] at e
        exact e.symm
      have hbool : decide (k < (l.map (·.1)).length ∧ (match D.files[k]? with | some f => cmpS f.name name | none => 0) = 0) = isHead name (behind name D.files) := by
        rw [hbh, List.length_map, hll]
        cases hf : D.files[k]? with
        | none =>
          have : D.files.length ≤ k := by simpa using hf
          rw [List.drop_eq_nil_of_le this]
          simp only [isHead, decide_eq_false_iff_not]; omega
        | some f =>
          have hlt := (List.getElem?_eq_some_iff.1 hf).1
          rw [List.drop_eq_getElem_cons hlt, (List.getElem?_eq_some_iff.1 hf).2]
          simp [isHead, hlt]
      show Value.tuple ⟨[.int .i64 k, .bool (decide (k < (l.map (·.1)).length ∧ (match D.files[k]? with | some f => cmpS f.name name | none => 0) = 0))]⟩ = _
      rw [hbool, hkl]
    · exact hs'

theorem find_spec {name : ByteArray} (hs : Sat W w (DiskP d D :: L)) (hr : Rising D.files) (hn : D.files.length ≤ 2 ^ 40) :
    Ret Tryz.prog F.disk_Disk_find [ptr d, .string name] w fun v w' =>
      (isHead name (behind name D.files) = false → v = .pointer none ∧ Quiet w w') ∧
      (isHead name (behind name D.files) = true → ∃ l1 l2 p f fs ws, v = ptr p ∧ l1.map (·.2) = ahead name D.files ∧ f :: l2.map (·.2) = behind name D.files ∧ Quiet w w' ∧
        Sat W w' (pts d [.slice fs.a fs.len fs.cap, .slice ws.a ws.len ws.cap, .int .i64 D.most, .int .i64 D.fuse, .bool D.off, .int .i64 D.count, .int .i64 D.made] ::
          own 1 fs ((l1 ++ (p, f) :: l2).map fun x => ptr x.1) :: FilesP (l1 ++ (p, f) :: l2) :: own 4 ws (D.wait.flatMap wcells) :: L)) := by
  refine S.disk_Disk_find_ok _ _ _ _ (xcalls (place_spec (name := name) hs hr hn) ?_)
  rintro v w' ⟨rfl, hq⟩
  have hs' := hs.quiet hq
  refine ⟨(_, _, ()), rfl, ?_⟩
  cases hh : isHead name (behind name D.files) with
  | false => exact XIf.no hh ⟨fun _ => ⟨rfl, hq⟩, fun h => by cases h⟩
  | true =>
    refine XIf.yes hh (xnil ?_)
    obtain ⟨l, fs, ws, hl, h⟩ := DiskP.open hs'
    refine xload h 0 rfl rfl ?_
    have hb : ∃ f r, behind name D.files = f :: r := by
      cases hb : behind name D.files with
      | nil => rw [hb] at hh; cases hh
      | cons f r => exact ⟨f, r, rfl⟩
    obtain ⟨f, r, hb⟩ := hb
    have hD : D.files = ahead name D.files ++ f :: r := by rw [← hb]; exact (ahead_behind name D.files).symm
    have hll : l.length = D.files.length := by rw [← hl, List.length_map]
    have hk : (ahead name D.files).length < l.length := by rw [hll]; conv => rhs; rw [hD]
                                                           simp
    obtain ⟨l1, l2, e, hl1⟩ := split_at hk
    generalize hx : l[(ahead name D.files).length] = x at e
    obtain ⟨p, f'⟩ := x
    have hl' : l1.map (·.2) ++ f' :: l2.map (·.2) = ahead name D.files ++ f :: r := by
      rw [← hD, ← hl, e, List.map_append, List.map_cons]
    obtain ⟨e1, e2⟩ := List.append_inj hl' (by rw [List.length_map, hl1])
    obtain ⟨e3, e4⟩ := List.cons.inj e2
    subst e3
    refine xelem (h.bring 1) (ahead name D.files).length rfl (x := some ⟨p, 0, none⟩) ?_ (by show Int.toNat _ * 1 = _; simp) fun a => ?_
    · have : l[(ahead name D.files).length]? = some (p, f') := by rw [← hx]; exact List.getElem?_eq_getElem hk
      simp [readL, this, ptr, Leaf.un]
    · refine ⟨(fun h => by cases h), fun _ => ⟨l1, l2, p, f', fs, ws, rfl, e1, ?_, hq, ?_⟩⟩
      · rw [hb, e4]
      · rw [← e]; exact h

end
end Go.X
