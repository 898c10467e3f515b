/- The document's device: Create, Sync, Rename. -/
import Derived.Test.YthljhmjigpfpnaaERef4
namespace Go.X
open Go.Proofs

def DD.renameR (R : DD) (fr to : ByteArray) : Int × DD :=
  if R.off then (14, R) else if nameB to = false then (1, R) else match findR fr R.files with
  | none => (8, R)
  | some k => match findR to R.files with
    | some _ => (9, R)
    | none => match R.files[k]? with
      | some f => (0, { R with files := R.files.set k (renamed f to) })
      | none => (8, R)

section
variable {W w : World} {L : List SP} {q : Nat} {R : DD}

theorem CreateR_spec {name : ByteArray} (hs : Sat W w (RefP q R :: L)) (hn : R.files.length ≤ 2 ^ 30) (hmade : 0 ≤ R.made ∧ R.made ≤ 2 ^ 40) (hnm : name.size ≤ 2 ^ 63 - 1) :
    Ret Try.prog F.barqueref14_Disk_Create [ptr q, .string name] w fun v w' => v = .int .i64 (R.createR name).1 ∧ Sat W w' (RefP q (R.createR name).2 :: L) := by
  suffices H : ∀ K : Value → World → Prop, (∀ v w', v = .int .i64 (R.createR name).1 ∧ Sat W w' (RefP q (R.createR name).2 :: L) → K v w') → S.barqueref14_Disk_Create (some ⟨q, 0, none⟩) name K w from S.barqueref14_Disk_Create_ok _ _ _ _ (H _ fun _ _ h => h)
  intro K hK
  refine xnil ?_
  obtain ⟨fs, ws, h⟩ := RefP.open hs
  have hfl : R.files.length = fs.len := by have := (h.bring 1).own_len; rw [rcells_len] at this; omega
  refine xload h 4 rfl rfl ?_
  unfold DD.createR at hK
  by_cases hoff : R.off = true
  · rw [if_pos hoff] at hK
    exact XIf.yes hoff (hK _ _ ⟨rfl, hs⟩)
  rw [if_neg hoff] at hK
  refine XIf.no (by simpa using hoff) (xcall_eq (Name_spec name hnm) (nameB name) rfl ?_)
  by_cases hb : nameB name = false
  · rw [if_pos hb] at hK
    exact XIf.yes (by rw [hb]; rfl) (hK _ _ ⟨rfl, hs⟩)
  have hb' : nameB name = true := by simpa using hb
  rw [if_neg hb] at hK
  refine XIf.no (by rw [hb']; rfl) (xcall_eq (findZ_spec (name := name) hs hn) (findZ name R.files) rfl ?_)
  unfold findZ
  cases hf : findR name R.files with
  | some k =>
    rw [hf] at hK
    exact XIf.yes (decide_eq_true (show (k : Int) ≥ 0 by omega)) (hK _ _ ⟨rfl, hs⟩)
  | none =>
    rw [hf] at hK
    have hd := h.drew
    refine XIf.no rfl (xnil (xload hd 0 rfl rfl (xnil (xload hd 6 rfl rfl (xnew hd fun b w1 h1 => ⟨(h1.bring 1).cell rfl, (h1.bring 1).cell rfl, ?_⟩)))))
    refine xappend (x := ⟨some ⟨b, 0, none⟩, 1, 1⟩) (news := [.int .i64 R.made, .string name, .string ByteArray.empty, .string ByteArray.empty]) (by kernel_rfl) (h1.bring 2) (reads_pts h1) rfl (fun h => by cases h) rfl (by (try dsimp only); omega) fun s' w2 h2 _ => ?_
    refine ⟨(h2.bring 2).cell rfl, xnil (xstore (h2.bring 2) 0 rfl (by simp) fun w3 h3 => xnil (xload h3 6 rfl rfl (xlet (R.made + 1) (wi (by omega) (by omega)) (xnil (xstore h3 6 rfl (by simp) fun w4 h4 => hK _ _ ⟨rfl, ?_⟩)))))⟩
    refine RefP.shut (R := { R with files := R.files ++ [⟨R.made, name, [], []⟩], made := R.made + 1 }) (fs := s') (ws := ws) ?_
    have e : (R.files ++ [(⟨R.made, name, [], []⟩ : DF)]).flatMap rcells = R.files.flatMap rcells ++ [.int .i64 R.made, .string name, .string ByteArray.empty, .string ByteArray.empty] := by
      rw [List.flatMap_append]; rfl
    show Sat W w4 (_ :: own 4 s' ((R.files ++ [(⟨R.made, name, [], []⟩ : DF)]).flatMap rcells) :: _)
    rw [e]
    exact (h4.bring 2).drop.arr [0, 1]

theorem RenameR_spec {fr to : ByteArray} (hs : Sat W w (RefP q R :: L)) (hn : R.files.length ≤ 2 ^ 30) (hto : to.size ≤ 2 ^ 63 - 1) :
    Ret Try.prog F.barqueref14_Disk_Rename [ptr q, .string fr, .string to] w fun v w' => v = .int .i64 (R.renameR fr to).1 ∧ Sat W w' (RefP q (R.renameR fr to).2 :: L) := by
  suffices H : ∀ K : Value → World → Prop, (∀ v w', v = .int .i64 (R.renameR fr to).1 ∧ Sat W w' (RefP q (R.renameR fr to).2 :: L) → K v w') → S.barqueref14_Disk_Rename (some ⟨q, 0, none⟩) fr to K w from S.barqueref14_Disk_Rename_ok _ _ _ _ _ (H _ fun _ _ h => h)
  intro K hK
  refine xnil ?_
  obtain ⟨fs, ws, h⟩ := RefP.open hs
  have hfl : R.files.length = fs.len := by have := (h.bring 1).own_len; rw [rcells_len] at this; omega
  refine xload h 4 rfl rfl ?_
  unfold DD.renameR at hK
  by_cases hoff : R.off = true
  · rw [if_pos hoff] at hK
    exact XIf.yes hoff (hK _ _ ⟨rfl, hs⟩)
  rw [if_neg hoff] at hK
  refine XIf.no (by simpa using hoff) (xcall_eq (Name_spec to hto) (nameB to) rfl ?_)
  by_cases hb : nameB to = false
  · rw [if_pos hb] at hK
    exact XIf.yes (by rw [hb]; rfl) (hK _ _ ⟨rfl, hs⟩)
  have hb' : nameB to = true := by simpa using hb
  rw [if_neg hb] at hK
  refine XIf.no (by rw [hb']; rfl) (xcall_eq (findZ_spec (name := fr) hs hn) (findZ fr R.files) rfl ?_)
  have hz1 : findZ fr R.files = match findR fr R.files with | some k => (k : Int) | none => -1 := rfl
  have hz2 : findZ to R.files = match findR to R.files with | some k => (k : Int) | none => -1 := rfl
  cases hf : findR fr R.files with
  | none =>
    rw [hf] at hK
    rw [hz1, hf]
    exact XIf.yes rfl (hK _ _ ⟨rfl, hs⟩)
  | some k =>
    obtain ⟨f, hk, _⟩ := findR_lt hf
    have hlt := (List.getElem?_eq_some_iff.1 hk).1
    rw [hf] at hK
    rw [hz1, hf]
    refine XIf.no (decide_eq_false (show ¬ (k : Int) < 0 by omega)) (xcall_eq (findZ_spec (name := to) hs hn) (findZ to R.files) rfl ?_)
    rw [hz2]
    cases ht : findR to R.files with
    | some j =>
      rw [ht] at hK
      exact XIf.yes (decide_eq_true (show (j : Int) ≥ 0 by omega)) (hK _ _ ⟨rfl, hs⟩)
    | none =>
      rw [ht] at hK
      dsimp only at hK
      rw [hk] at hK
      refine XIf.no rfl (xnil (xload h 0 rfl rfl (xsetf (sz := 4) (h.bring 1) k rfl (by (try dsimp only); omega) (by rw [Int.toNat_natCast]) (by omega) fun a w1 h1 => hK _ _ ⟨rfl, ?_⟩)))
      rw [rset R.files k 1 f (renamed f to) (.string to) hk (by omega) rfl] at h1
      exact RefP.shut (R := { R with files := R.files.set k (renamed f to) }) (fs := fs) (ws := ws) h1.swap

theorem SyncR_spec (hs : Sat W w (RefP q R :: L)) (hn : R.files.length ≤ 2 ^ 30) (hw : PiecesOk R.wait) (hwl : R.wait.length ≤ 2 ^ 38) (hll : ∀ f ∈ R.files, f.last.length ≤ 2097152) :
    Ret Try.prog F.barqueref14_Disk_Sync [ptr q] w fun v w' => v = .int .i64 R.sync.1 ∧ Sat W w' (RefP q R.sync.2 :: L) := by
  suffices H : ∀ K : Value → World → Prop, (∀ v w', v = .int .i64 R.sync.1 ∧ Sat W w' (RefP q R.sync.2 :: L) → K v w') → S.barqueref14_Disk_Sync (some ⟨q, 0, none⟩) K w from S.barqueref14_Disk_Sync_ok _ _ _ (H _ fun _ _ h => h)
  intro K hK
  refine xnil ?_
  obtain ⟨fs, ws, h⟩ := RefP.open hs
  refine xload h 4 rfl rfl ?_
  unfold DD.sync at hK
  by_cases hoff : R.off = true
  · rw [if_pos hoff] at hK
    exact XIf.yes hoff (hK _ _ ⟨rfl, hs⟩)
  rw [if_neg hoff] at hK
  refine XIf.no (by simpa using hoff) ?_
  have hwlen : R.wait.length = ws.len := by have := (h.bring 2).own_len; rw [vcells_len] at this; omega
  refine xloop (fun (st : Int × Unit) w => ∃ l1 l2 : List DW, R.wait = l1 ++ l2 ∧ st = ((l1.length : Int), ()) ∧ (∀ f ∈ R.files.map (syncF l1), f.last.length ≤ 2097152) ∧
      Sat W w (pts q [.slice fs.a fs.len fs.cap, .slice ws.a ws.len ws.cap, .int .i64 R.most, .int .i64 R.fuse, .bool R.off, .int .i64 R.count, .int .i64 R.made] :: own 4 fs ((R.files.map (syncF l1)).flatMap rcells) :: own 3 ws (R.wait.flatMap vcells) :: L))
    (fun st => ((ws.len : Int) - st.1).toNat) ⟨[], R.wait, rfl, rfl, by rw [show R.files.map (syncF []) = R.files from List.map_id _]; exact hll, by rw [show R.files.map (syncF []) = R.files from List.map_id _]; exact h⟩ ?_
  clear h
  rintro next _ w ⟨l1, l2, e, rfl, hsm, h⟩ hnext
  refine xnil (xload h 1 rfl rfl ?_)
  cases l2 with
  | nil =>
    rw [List.append_nil] at e
    refine XIf.no (decide_eq_false (show ¬ (l1.length : Int) < (ws.len : Int) by rw [← hwlen, e]; omega)) (xnil (xstore h 1 rfl (by simp) fun w' h' => hK _ _ ⟨rfl, ?_⟩))
    refine RefP.shut (R := { R with files := R.files.map (syncF R.wait), wait := [] }) (fs := fs) (ws := ⟨none, 0, 0⟩) ?_
    rw [e]
    exact ((h'.bring 2).drop.own_nil (sz := 3)).arr [1, 2, 0]
  | cons p l2 =>
    have hlt : l1.length < R.wait.length := by rw [e]; simp
    have hget : R.wait[l1.length]? = some p := by rw [e]; simp
    have hpo := hw p (by rw [e]; simp)
    have etx : (str p.text).size = p.text.length := str_size _
    have hd := h.drew
    refine XIf.yes (decide_eq_true (show (l1.length : Int) < (ws.len : Int) by omega)) (xnil (xload hd 1 rfl rfl ?_))
    obtain ⟨a, ha, hcell⟩ := (hd.bring 2).own_some (by show 0 < ws.len; omega)
    refine (show XNil ws.a _ from ?_)
    rw [ha]
    refine xnil ⟨⟨by show (0 : Int) ≤ (l1.length : Int); omega, by show (l1.length : Int) < (ws.len : Int); omega⟩, xloads (p.id, (p.at_ : Int), str p.text, ()) (fun j v hv => ?_) ?_⟩
    · rw [Int.toNat_natCast, Addr.add_mk, Addr.add_mk, Nat.zero_add]
      exact hcell _ _ (vget R.wait l1.length j p v hget hv)
    refine xnil (xload hd 1 rfl rfl ?_)
    refine xfield (l := .str) (sz := 3) (o := 2) (hd.bring 2) l1.length rfl (by (try dsimp only); omega) (by rw [Int.toNat_natCast]) (x := str p.text) (vget R.wait l1.length 2 p _ hget rfl) fun a2 ha2 => ?_
    have hl := lastsR_spec (q := q) (fs := fs) (l := R.files.map (syncF l1)) p p.text.length hd hpo (Nat.le_refl _) (by rw [List.length_map]; exact hn) hsm
    refine xcalls (by rw [etx]; exact hl) ?_
    rintro v w2 ⟨rfl, h2⟩
    have hmap : (R.files.map (syncF l1)).map (lastF p p.text.length) = R.files.map (syncF (l1 ++ [p])) := by
      rw [List.map_map]; congr 1; funext f; simp [syncF]
    rw [hmap] at h2
    have ha2' : a2 = ⟨a, 0, none⟩ := by have h3 : ws.a = some a2 := ha2; rw [ha] at h3; cases h3; rfl
    obtain ⟨b2, hb2, hcell2⟩ := (h2.bring 2).own_some (by show 0 < ws.len; omega)
    have hb2' : b2 = a := by have h3 : ws.a = some ⟨b2, 0, none⟩ := hb2; rw [ha] at h3; cases h3; rfl
    refine ⟨(), rfl, ?_, h2.cell (by show some (Value.slice ws.a ws.len ws.cap) = _; rw [ha]; rfl), h2.cell (by show some (Value.slice ws.a ws.len ws.cap) = _; rw [ha]; rfl), xlet ((l1.length + 1 : Nat) : Int) (by dsimp only; rw [wi (by omega) (by omega)]; omega) (hnext _ _ ⟨l1 ++ [p], l2, by simp [e], by simp, fun f hf => ?_, h2⟩ (by dsimp only; omega))⟩
    · rw [ha2', Int.toNat_natCast, Addr.add_mk, Addr.add_mk, Nat.zero_add, ← hb2']
      exact hcell2 _ _ (vget R.wait l1.length 2 p _ hget rfl)
    · rw [← hmap] at hf
      obtain ⟨g, hg, rfl⟩ := List.mem_map.1 hf
      have hgl := hsm g hg
      by_cases hdo : g.id = p.id ∧ 0 < p.text.length
      · rw [lastF_laid hdo.1 hdo.2 (Nat.le_refl _)]
        show (laidL _ _ _).length ≤ _
        rw [laidL_length, List.length_take]
        omega
      · rw [lastF_none hdo]
        exact hgl

end
end Go.X
