/- The device's calls Sync and Crash. -/
import Derived.Test.YtmbiffmfcloepaaGreatDoorDRead
namespace Go.X
open Go.Proofs

section
variable {W w : World} {L : List SP} {d : Nat} {D : DD}

theorem cellsAt_of {a : Addr} : ∀ (vs : List Value) (i : Nat), (∀ j v, vs[j]? = some v → w.cell? (a.add (i + j)) = some v) → cellsAt w a i vs
  | [], _, _ => trivial
  | v :: vs, i, h => ⟨h 0 v rfl, cellsAt_of vs (i + 1) fun j u hu => by have := h (j + 1) u (by simpa using hu); rwa [show i + (j + 1) = i + 1 + j by omega] at this⟩

theorem xloads {ls : List Leaf} {a : Addr} {K : HL ls → Prop} (x : HL ls) (h : ∀ j v, (HL.cells ls x)[j]? = some v → w.cell? (a.add j) = some v) (hk : K x) : XLoads ls a w K :=
  ⟨x, cellsAt_of _ 0 fun j v hv => by rw [Nat.zero_add]; exact h j v hv, hk⟩

theorem flat_get : ∀ (l : List DW) (k j : Nat) (p : DW) (v : Value), l[k]? = some p → (wcells p)[j]? = some v → (l.flatMap wcells)[k * 4 + j]? = some v
  | q :: l, 0, j, p, v, h, hv => by
    simp at h; subst h
    have hj : j < 4 := by have := (List.getElem?_eq_some_iff.1 hv).1; simpa [wcells] using this
    simp only [List.flatMap_cons, Nat.zero_mul, Nat.zero_add]
    rw [List.getElem?_append_left (by simpa [wcells] using hj)]
    exact hv
  | q :: l, k + 1, j, p, v, h, hv => by
    have := flat_get l k j p v (by simpa using h) hv
    simp only [List.flatMap_cons]
    rw [List.getElem?_append_right (by simp [wcells]; omega)]
    rw [← this]
    congr 1
    simp [wcells]; omega

theorem Clone_spec {s : Sl} {l : List UInt8} (hs : Sat W w (own 1 s (bcells l) :: L)) (hl : l.length ≤ 2 ^ 40) :
    Ret Tryz.prog F.slices_Clone [.slice s.a s.len s.cap] w fun v w' => ∃ s' : Sl, v = .slice s'.a s'.len s'.cap ∧ Sat W w' (own 1 s' (bcells l) :: own 1 s (bcells l) :: L) := by
  have hlen : l.length = s.len := by have := hs.own_len; rw [bcells_length] at this; omega
  refine S.slices_Clone_ok s _ _ ?_
  cases ha : Option.isNone s.a with
  | true =>
    have ha' : s.a = none := by simpa using ha
    refine XIf.yes ha ⟨⟨none, 0, 0⟩, rfl, ?_⟩
    have : l = [] := by
      rcases hs.open_own with ⟨_, h0, _⟩ | ⟨b, rest, h, _⟩
      · exact List.eq_nil_of_length_eq_zero (by omega)
      · rw [ha'] at h; cases h
    subst this
    exact hs.own_nil
  | false =>
    refine XIf.no ha (xnew hs fun b w1 h => ?_)
    have h1 : Sat W w1 (own 1 ⟨some ⟨b, 0, none⟩, 0, 0⟩ [] :: own 1 s (bcells l) :: L) := Sat.shut_own (rest := []) rfl rfl rfl (Nat.le_refl _) h
    exact xappend (s := ⟨some ⟨b, 0, none⟩, 0, 0⟩) (x := s) (by kernel_rfl) h1 (reads_own (h1.bring 1)) (h1.bring 1).own_len (fun h => by rw [h] at ha; cases ha) (bcells_one l) (by show 0 + s.len ≤ _; omega) fun s' w' h' hl' => ⟨s', rfl, h'⟩

/-! ### What lasts -/

def PiecesOk (l : List DW) : Prop := ∀ p ∈ l, p.at_ + p.text.length ≤ 2097152

def syncX (l : List DW) (x : Nat × DF) : Nat × DF := l.foldl (fun x p => lastX p p.text.length x) x
def syncF (l : List DW) (f : DF) : DF := l.foldl (fun f p => lastF p p.text.length f) f

theorem syncX_eq : ∀ (l : List DW) (x : Nat × DF), syncX l x = (x.1, syncF l x.2)
  | [], _ => rfl
  | p :: l, x => by simp only [syncX, syncF, List.foldl_cons]; exact syncX_eq l _

theorem syncX_ptr (l : List DW) (fs : List (Nat × DF)) : (fs.map (syncX l)).map (fun x => ptr x.1) = fs.map fun x => ptr x.1 := by
  rw [List.map_map]; congr 1; funext x; simp [syncX_eq]

def DD.sync (D : DD) : Int × DD := if D.off then (14, D) else (0, { D with files := D.files.map (syncF D.wait), wait := [] })

theorem Sync_spec (hs : Sat W w (DiskP d D :: L)) (hn : D.files.length ≤ 2 ^ 30) (hw : PiecesOk D.wait) (hwl : D.wait.length ≤ 2 ^ 38) :
    Ret Tryz.prog F.disk_Disk_Sync [ptr d] w fun v w' => v = .int .i64 D.sync.1 ∧ Sat W w' (DiskP d D.sync.2 :: L) := by
  suffices H : ∀ K : Value → World → Prop, (∀ v w', v = .int .i64 D.sync.1 ∧ Sat W w' (DiskP d D.sync.2 :: L) → K v w') → S.disk_Disk_Sync (some ⟨d, 0, none⟩) K w from S.disk_Disk_Sync_ok _ _ _ (H _ fun _ _ h => h)
  intro K hK
  refine xcall (ready_spec hs) ?_
  rintro v w1 ⟨rfl, hq1⟩
  refine ⟨_, rfl, ?_⟩
  have hs1 := hs.quiet hq1
  by_cases hoff : D.off = true
  · have : D.sync = (14, D) := by unfold DD.sync; rw [if_pos hoff]
    rw [this] at hK
    exact XIf.yes (off_yes hoff) (hK _ _ ⟨by rw [off_14 hoff], hs1⟩)
  have hoff' : D.off = false := by simpa using hoff
  have hsync : D.sync = (0, { D with files := D.files.map (syncF D.wait), wait := [] }) := by unfold DD.sync; rw [if_neg hoff]
  rw [hsync] at hK
  refine XIf.no (off_no hoff') (xnil ?_)
  obtain ⟨l, fs, ws, hl, h⟩ := DiskP.open hs1
  refine xload h 1 rfl rfl ?_
  have hll : l.length = D.files.length := by rw [← hl, List.length_map]
  have hwlen : ws.len = D.wait.length := by have := (h.bring 3).own_len; rw [wcells_len] at this; omega
  refine xloop (fun (st : Int × Unit) w => ∃ l1 l2 : List DW, D.wait = l1 ++ l2 ∧ st = ((l1.length : Int), ()) ∧
      Sat W w (pts d [.slice fs.a fs.len fs.cap, .slice ws.a ws.len ws.cap, .int .i64 D.most, .int .i64 D.fuse, .bool D.off, .int .i64 D.count, .int .i64 D.made] ::
        own 1 fs (l.map fun x => ptr x.1) :: FilesP (l.map (syncX l1)) :: own 4 ws (D.wait.flatMap wcells) :: L))
    (fun st => ((ws.len : Int) - st.1).toNat) ⟨[], D.wait, rfl, rfl, by rw [show l.map (syncX []) = l from List.map_id l]; exact h⟩ ?_
  clear h
  rintro next _ w ⟨l1, l2, e, rfl, h⟩ hnext
  cases l2 with
  | nil =>
    rw [List.append_nil] at e
    refine XIf.no (decide_eq_false (show ¬ ((l1.length : Int) < (ws.len : Int)) by rw [hwlen, e]; omega)) (xnil (xstore h 1 rfl (by simp) fun w' h => hK _ _ ⟨rfl, ?_⟩))
    have h2 : Sat W w' (pts d _ :: own 1 fs _ :: FilesP _ :: own 4 ⟨none, 0, 0⟩ [] :: L) := ((h.bring 3).drop.own_nil).arr [1, 2, 3, 0]
    refine DiskP.shut (D := { D with files := D.files.map (syncF D.wait), wait := [] }) (l := l.map (syncX l1)) (fs := fs) (ws := ⟨none, 0, 0⟩) ?_ ?_
    · rw [← e, List.map_map, ← hl, List.map_map]
      congr 1; funext x; simp [syncX_eq]
    · rw [syncX_ptr]; exact h2
  | cons p l2 =>
    have hlt : l1.length < D.wait.length := by rw [e]; simp
    have hget : D.wait[l1.length]? = some p := by rw [e]; simp
    have hpo := hw p (by rw [e]; simp)
    have htsz : (⟨p.text.toArray⟩ : ByteArray).size = p.text.length := str_size p.text
    refine XIf.yes (decide_eq_true (show (l1.length : Int) < (ws.len : Int) by omega)) ?_
    obtain ⟨a, ha, hc⟩ := (h.bring 3).own_some (by omega)
    refine (show XNil ws.a _ from ?_)
    rw [ha]
    refine xnil ⟨⟨by omega, by show (l1.length : Int) < (ws.len : Int); omega⟩, xloads (p.id, ((p.at_ / 64 : Nat) : Int), ((p.at_ % 64 : Nat) : Int), (⟨p.text.toArray⟩ : ByteArray), ()) (fun j v hv => ?_) (xnew h fun b w' h => ?_)⟩
    · rw [Int.toNat_natCast, Addr.add_mk, Addr.add_mk, Nat.zero_add]
      exact hc _ _ (flat_get D.wait l1.length j p v hget hv)
    refine xstores (wcells p) 0 w' _ h (by simp [wcells]) fun w' h => ?_
    have h : Sat W w' (pts b (wcells p) :: _) := h
    refine xloads (p.id, ((p.at_ / 64 : Nat) : Int), ((p.at_ % 64 : Nat) : Int), (⟨p.text.toArray⟩ : ByteArray), ()) (fun j v hv => by rw [Addr.add_mk, Nat.zero_add]; exact h.cell hv) ?_
    refine xload h 3 rfl rfl ?_
    have hlast := last_spec (l := l.map (syncX l1)) p p.text.length (by rw [syncX_ptr]; exact h.drop) hpo (Nat.le_refl _) (by rw [List.length_map, hll]; omega)
    rw [syncX_ptr] at hlast
    refine xcalls (by rw [htsz]; exact hlast) ?_
    rintro v w' ⟨rfl, h⟩
    refine ⟨(), rfl, xlet ((l1.length + 1 : Nat) : Int) (by dsimp only; rw [wi (by omega) (by omega)]; omega) (hnext _ _ ⟨l1 ++ [p], l2, by simp [e], by simp, ?_⟩ (by dsimp only; omega))⟩
    have : (l.map (syncX l1)).map (lastX p p.text.length) = l.map (syncX (l1 ++ [p])) := by
      rw [List.map_map]; congr 1; funext x; simp [syncX]
    rw [this] at h
    exact h

/-! ### Crashes -/

/-- A slice of ints that can be read wherever a part of memory stands. -/
def ROInts (W : World) (A : SP) (s : Sl) (xs : List Int) : Prop :=
  xs.length = s.len ∧ ∀ (w : World) (L : List SP), Sat W w (A :: L) → ∀ k x, xs[k]? = some x → ∃ b o, s.a = some ⟨b, o, none⟩ ∧ w.cell? ⟨b, o + k, none⟩ = some (.int .i64 x)

def halved (p : DW) : DW := { p with text := p.text.take (p.text.length / 2) }

/-- What a fate makes of a file. -/
def fateF (x : Int) (p : DW) (f : DF) : DF :=
  if x = 2 then lastF (halved p) (halved p).text.length f else if x = 1 then lastF p p.text.length f else f

def fateX (x : Int) (p : DW) (y : Nat × DF) : Nat × DF := (y.1, fateF x p y.2)

def fatesF : List (DW × Int) → DF → DF
  | [], f => f
  | p :: l, f => fatesF l (fateF p.2 p.1 f)

def fatesX (l : List (DW × Int)) (y : Nat × DF) : Nat × DF := (y.1, fatesF l y.2)

def reborn (f : DF) : DF := { f with seen := f.last }

def DD.crash (D : DD) (fates : List Int) : DD :=
  { D with files := D.files.map fun f => reborn (fatesF (D.wait.zip fates) f), wait := [], fuse := -1, off := false }

theorem fatesF_snoc : ∀ (l : List (DW × Int)) (q : DW × Int) (f : DF), fatesF (l ++ [q]) f = fateF q.2 q.1 (fatesF l f)
  | [], _, _ => rfl
  | _ :: l, q, _ => fatesF_snoc l q _

theorem fatesX_ptr (l : List (DW × Int)) (fs : List (Nat × DF)) : (fs.map (fatesX l)).map (fun x => ptr x.1) = fs.map fun x => ptr x.1 := by
  rw [List.map_map]; rfl

theorem halved_len (p : DW) : (halved p).text.length = p.text.length / 2 := by simp [halved]; omega

theorem zip_snoc {α β : Type} : ∀ (l : List α) (m : List β) (k : Nat) (a : α) (b : β), l[k]? = some a → m[k]? = some b → (l.zip m).take (k + 1) = (l.zip m).take k ++ [(a, b)]
  | [], _, k, _, _, h, _ => by simp at h
  | _ :: _, [], k, _, _, _, h => by simp at h
  | x :: l, y :: m, 0, a, b, h1, h2 => by simp at h1 h2; simp [h1, h2]
  | x :: l, y :: m, k + 1, a, b, h1, h2 => by
    simp only [List.zip_cons_cons, List.take_succ_cons, List.cons_append]
    rw [zip_snoc l m k a b (by simpa using h1) (by simpa using h2)]

theorem Crash_nil {s : Sl} (_hs : Sat W w L) : Ret Tryz.prog F.disk_Disk_Crash [.pointer none, .slice s.a s.len s.cap] w fun v w' => v = .tuple ⟨[]⟩ ∧ w' = w :=
  S.disk_Disk_Crash_ok none s _ _ (XIf.yes rfl ⟨rfl, rfl⟩)

theorem Crash_spec {A : SP} {s : Sl} {xs : List Int} (hA : ROInts W A s xs) (hs : Sat W w (DiskP d D :: A :: L)) (hn : D.files.length ≤ 2 ^ 30) (hw : PiecesOk D.wait) (hwl : D.wait.length ≤ 2 ^ 38)
    (hlast : ∀ f ∈ D.files, (fatesF (D.wait.zip xs) f).last.length ≤ 2 ^ 40) :
    Ret Tryz.prog F.disk_Disk_Crash [ptr d, .slice s.a s.len s.cap] w fun v w' => v = .tuple ⟨[]⟩ ∧ Sat W w' (DiskP d (D.crash xs) :: A :: L) := by
  suffices H : ∀ K : Value → World → Prop, (∀ v w', v = .tuple ⟨[]⟩ ∧ Sat W w' (DiskP d (D.crash xs) :: A :: L) → K v w') → S.disk_Disk_Crash (some ⟨d, 0, none⟩) s K w from S.disk_Disk_Crash_ok _ s _ _ (H _ fun _ _ h => h)
  intro K hK
  obtain ⟨hxl, hA⟩ := hA
  refine XIf.no rfl ?_
  obtain ⟨l, fs, ws, hl, h⟩ := DiskP.open hs
  have hll : l.length = D.files.length := by rw [← hl, List.length_map]
  have hwlen : ws.len = D.wait.length := by have := (h.bring 3).own_len; rw [wcells_len] at this; omega
  have hzl : (D.wait.zip xs).length = min D.wait.length xs.length := List.length_zip
  refine xjoin (fun _ w => Sat W w (pts d [.slice fs.a fs.len fs.cap, .slice ws.a ws.len ws.cap, .int .i64 D.most, .int .i64 D.fuse, .bool D.off, .int .i64 D.count, .int .i64 D.made] ::
        own 1 fs (l.map fun x => ptr x.1) :: FilesP (l.map (fatesX (D.wait.zip xs))) :: own 4 ws (D.wait.flatMap wcells) :: A :: L)) (fun J hJ => ?_) ?_
  · refine xnil (xload h 1 rfl rfl ?_)
    refine xloop (fun (st : Int × Unit) w => ∃ k : Nat, k ≤ D.wait.length ∧ k ≤ xs.length ∧ st = ((k : Int), ()) ∧
        Sat W w (pts d [.slice fs.a fs.len fs.cap, .slice ws.a ws.len ws.cap, .int .i64 D.most, .int .i64 D.fuse, .bool D.off, .int .i64 D.count, .int .i64 D.made] ::
          own 1 fs (l.map fun x => ptr x.1) :: FilesP (l.map (fatesX ((D.wait.zip xs).take k))) :: own 4 ws (D.wait.flatMap wcells) :: A :: L))
      (fun st => ((ws.len : Int) - st.1).toNat) ⟨0, by omega, by omega, rfl, by rw [show l.map (fatesX ((D.wait.zip xs).take 0)) = l from List.map_id l]; exact h⟩ ?_
    clear h
    rintro next _ w ⟨k, hk1, hk2, rfl, h⟩ hnext
    by_cases hkw : k = D.wait.length
    · subst hkw
      refine XIf.no (decide_eq_false (show ¬ ((D.wait.length : Int) < (ws.len : Int)) by omega)) (hJ _ _ ?_)
      rw [List.take_of_length_le (by omega)] at h
      exact h
    have hlt : k < D.wait.length := by omega
    refine XIf.yes (decide_eq_true (show (k : Int) < (ws.len : Int) by omega)) ?_
    obtain ⟨p, hp⟩ : ∃ p, D.wait[k]? = some p := ⟨_, List.getElem?_eq_getElem hlt⟩
    have hpo := hw p (List.mem_of_getElem? hp)
    have htsz : (⟨p.text.toArray⟩ : ByteArray).size = p.text.length := str_size p.text
    -- the round's end
    refine xjoin (fun _ w => k < xs.length ∧ Sat W w (pts d [.slice fs.a fs.len fs.cap, .slice ws.a ws.len ws.cap, .int .i64 D.most, .int .i64 D.fuse, .bool D.off, .int .i64 D.count, .int .i64 D.made] ::
          own 1 fs (l.map fun x => ptr x.1) :: FilesP (l.map (fatesX ((D.wait.zip xs).take (k + 1)))) :: own 4 ws (D.wait.flatMap wcells) :: A :: L)) (fun J' hJ' => ?_) ?_
    case refine_2 =>
      rintro _ w' ⟨hkx, h⟩
      exact xlet ((k + 1 : Nat) : Int) (by dsimp only; rw [wi (by omega) (by omega)]; omega) (hnext _ _ ⟨k + 1, by omega, by omega, rfl, h⟩ (by dsimp only; omega))
    obtain ⟨a, ha, hc⟩ := (h.bring 3).own_some (by omega)
    refine (show XNil ws.a _ from ?_)
    rw [ha]
    refine xnil ⟨⟨by omega, by show (k : Int) < (ws.len : Int); omega⟩, xloads (p.id, ((p.at_ / 64 : Nat) : Int), ((p.at_ % 64 : Nat) : Int), (⟨p.text.toArray⟩ : ByteArray), ()) (fun j v hv => ?_) (xnew h fun b w' h => ?_)⟩
    · rw [Int.toNat_natCast, Addr.add_mk, Addr.add_mk, Nat.zero_add]
      exact hc _ _ (flat_get D.wait k j p v hp hv)
    refine xstores (wcells p) 0 w' _ h (by simp [wcells]) fun w' h => ?_
    have h : Sat W w' (pts b (wcells p) :: _) := h
    by_cases hkx : k = xs.length
    · refine XIf.yes (decide_eq_true (show (k : Int) ≥ (s.len : Int) by omega)) (hJ _ _ ?_)
      rw [List.take_of_length_le (by omega)] at h
      exact h.drop
    have hkx' : k < xs.length := by omega
    obtain ⟨x, hx⟩ : ∃ x, xs[k]? = some x := ⟨_, List.getElem?_eq_getElem hkx'⟩
    refine XIf.no (decide_eq_false (show ¬ ((k : Int) ≥ (s.len : Int)) by omega)) (xload h 3 rfl rfl ?_)
    obtain ⟨b', o, hsa, hcell⟩ := hA w' _ (h.bring 5) k x hx
    refine (show XNil s.a _ from ?_)
    rw [hsa]
    refine xnil ⟨⟨by omega, by show (k : Int) < (s.len : Int); omega⟩, xload_at (l := .int .i64) (x := x) (by rw [Int.toNat_natCast, Nat.mul_one, Addr.add_mk]; exact hcell) ?_⟩
    have hsnoc := zip_snoc D.wait xs k p x hp hx
    have hstep : ∀ (q : DW) (n : Nat), (∀ f, fateF x p f = lastF q n f) → (l.map (fatesX ((D.wait.zip xs).take k))).map (lastX q n) = l.map (fatesX ((D.wait.zip xs).take (k + 1))) := by
      intro q n hq
      rw [List.map_map, hsnoc]
      congr 1; funext y
      simp only [Function.comp, fatesX, lastX, fatesF_snoc, hq]
    have hptr := fatesX_ptr ((D.wait.zip xs).take k) l
    -- the call, whichever text stands in the box
    refine xjoin (fun (_ : Int × Unit) w => ∃ q : DW, (∀ f, fateF x p f = lastF q q.text.length f) ∧ q.at_ + q.text.length ≤ 2097152 ∧ Sat W w (pts b (wcells q) ::
          pts d [.slice fs.a fs.len fs.cap, .slice ws.a ws.len ws.cap, .int .i64 D.most, .int .i64 D.fuse, .bool D.off, .int .i64 D.count, .int .i64 D.made] ::
          own 1 fs (l.map fun x => ptr x.1) :: FilesP (l.map (fatesX ((D.wait.zip xs).take k))) :: own 4 ws (D.wait.flatMap wcells) :: A :: L)) (fun J'' hJ'' => ?_) ?_
    case refine_2 =>
      rintro _ w' ⟨q, hq, hqo, h⟩
      have hqsz : (⟨q.text.toArray⟩ : ByteArray).size = q.text.length := str_size q.text
      refine xloads (q.id, ((q.at_ / 64 : Nat) : Int), ((q.at_ % 64 : Nat) : Int), (⟨q.text.toArray⟩ : ByteArray), ()) (fun j v hv => by rw [Addr.add_mk, Nat.zero_add]; exact h.cell hv) (xload h 3 rfl rfl ?_)
      have hl2 := last_spec (l := l.map (fatesX ((D.wait.zip xs).take k))) q q.text.length (by rw [hptr]; exact h.drop) hqo (Nat.le_refl _) (by rw [List.length_map, hll]; omega)
      rw [hptr] at hl2
      refine xcalls (by rw [hqsz]; exact hl2) ?_
      rintro v w' ⟨rfl, h⟩
      rw [hstep q _ hq] at h
      exact ⟨(), rfl, hJ' _ _ ⟨hkx', h⟩⟩
    by_cases h2 : x = 2
    · refine XIf.yes (by simpa using h2) ⟨by decide, xlet ((p.text.length / 2 : Nat) : Int) ?_ (xload h 3 rfl rfl ⟨⟨⟨by omega, by show ((p.text.length / 2 : Nat) : Int) ≤ ((⟨p.text.toArray⟩ : ByteArray).size : Int); omega⟩, by omega, by omega⟩, xlet (str (p.text.take (p.text.length / 2))) (by rw [Int.toNat_natCast]; exact str_take _ _) (xstore h 3 rfl (by simp [wcells]) fun w' h => hJ'' _ _ ⟨halved p, ?_, ?_, h⟩)⟩)⟩
      · show IntKind.wrap .i64 (Int.tdiv ((⟨p.text.toArray⟩ : ByteArray).size : Int) 2) = _
        rw [htsz, Int.tdiv_eq_ediv_of_nonneg (by omega), wi (by omega) (by omega)]
        omega
      · intro f; unfold fateF; rw [if_pos h2]
      · rw [halved_len]; show p.at_ + _ ≤ _; omega
    refine XIf.no (by simpa using h2) ?_
    by_cases h1 : x = 1
    · refine XIf.yes (by simpa using h1) (hJ'' _ _ ⟨p, ?_, hpo, h⟩)
      intro f; unfold fateF; rw [if_neg h2, if_pos h1]
    refine XIf.no (by simpa using h1) ?_
    have hid : l.map (fatesX ((D.wait.zip xs).take (k + 1))) = l.map (fatesX ((D.wait.zip xs).take k)) := by
      rw [hsnoc]
      congr 1; funext y
      simp only [fatesX, fatesF_snoc]
      unfold fateF; rw [if_neg h2, if_neg h1]
    have hend := hJ' () w' ⟨hkx', by rw [hid]; exact h.drop⟩
    exact XIf.of (fun _ => hend) fun _ => hend
  · -- the power comes again
    clear h
    rintro _ w h
    refine xnil (xstore h 1 rfl (by simp) fun w h => xnil (xstore h 3 rfl (by simp) fun w h => xnil (xstore h 4 rfl (by simp) fun w h => xnil (xload h 0 rfl rfl ?_))))
    have hfl : fs.len = l.length := by have := (h.bring 1).own_len; simpa using this.symm
    have h : Sat W w (pts d [.slice fs.a fs.len fs.cap, .slice none 0 0, .int .i64 D.most, .int .i64 (-1), .bool false, .int .i64 D.count, .int .i64 D.made] ::
        own 1 fs (l.map fun x => ptr x.1) :: FilesP (l.map (fatesX (D.wait.zip xs))) :: own 4 ws (D.wait.flatMap wcells) :: A :: L) := h
    obtain ⟨z, hz⟩ : ∃ z, fatesX (D.wait.zip xs) = z := ⟨_, rfl⟩
    refine xloop (fun (st : Int × Unit) w => ∃ l1 l2 : List (Nat × DF), l = l1 ++ l2 ∧ st = ((l1.length : Int), ()) ∧
        Sat W w (pts d [.slice fs.a fs.len fs.cap, .slice none 0 0, .int .i64 D.most, .int .i64 (-1), .bool false, .int .i64 D.count, .int .i64 D.made] ::
          own 1 fs (l.map fun x => ptr x.1) :: FilesP (l1.map (fun y => (y.1, reborn (fatesX (D.wait.zip xs) y).2)) ++ l2.map (fatesX (D.wait.zip xs))) :: A :: L))
      (fun st => ((fs.len : Int) - st.1).toNat) ⟨[], l, rfl, rfl, (h.bring 3).drop⟩ ?_
    clear h
    rintro next _ w ⟨l1, l2, e, rfl, h⟩ hnext
    cases l2 with
    | nil =>
      rw [List.append_nil] at e
      subst e
      refine XIf.no (decide_eq_false (show ¬ ((l.length : Int) < (fs.len : Int)) by omega)) (hK _ _ ⟨rfl, ?_⟩)
      rw [List.map_nil, List.append_nil] at h
      have h2 : Sat W w (pts d _ :: own 1 fs _ :: FilesP _ :: own 4 ⟨none, 0, 0⟩ [] :: A :: L) := (h.own_nil).arr [1, 2, 3, 0]
      refine DiskP.shut (D := D.crash xs) (l := l.map (fun y => (y.1, reborn (fatesX (D.wait.zip xs) y).2))) (fs := fs) (ws := ⟨none, 0, 0⟩) ?_ ?_
      · rw [List.map_map]
        show _ = D.files.map fun f => reborn (fatesF (D.wait.zip xs) f)
        rw [← hl, List.map_map]
        rfl
      · rw [List.map_map]
        exact h2
    | cons y l2 =>
      have hlt : l1.length < l.length := by rw [e]; simp
      have hyl := hlast y.2 (by rw [← hl, e]; simp)
      refine XIf.yes (decide_eq_true (show (l1.length : Int) < (fs.len : Int) by omega)) (xelem (h.bring 1) l1.length rfl (x := some ⟨y.1, 0, none⟩) (by simp [readL, e, ptr, Leaf.un]) (by show Int.toNat _ * 1 = _; simp) fun a => xnil ?_)
      rw [List.map_cons] at h
      obtain ⟨ls, ss, h2⟩ := FileP.open (FilesP.take (h.bring 2))
      refine xload h2 2 rfl rfl (xcall (Clone_spec (h2.bring 1) hyl) ?_)
      rintro v w' ⟨s', rfl, h3⟩
      refine ⟨s', rfl, xnil (xstore (h3.bring 2) 3 rfl (by simp) fun w' h4 => xlet ((l1.length + 1 : Nat) : Int) (by dsimp only; rw [wi (by omega) (by omega)]; omega) (hnext _ _ ⟨l1 ++ [y], l2, by simp [e], by simp, ?_⟩ (by dsimp only; omega)))⟩
      have h5 := (h4.arr [3, 0, 2, 1, 4, 5, 6]).drop
      have h6 := FilesP.put (FileP.shut (p := y.1) (f := reborn (fatesX (D.wait.zip xs) y).2) (ls := ls) (ss := s') h5)
      have h7 := h6.arr [1, 2, 0]
      simp only [List.map_append, List.map_cons, List.map_nil, List.append_assoc, List.singleton_append]
      exact h7

end
end Go.X
