/- The document's device: Crash. -/
import Derived.Test.YthljhmjigpfpnaaERef6
namespace Go.X
open Go.Proofs

theorem lastF_halved (p : DW) (f : DF) : lastF (halved p) (halved p).text.length f = lastF p (p.text.length / 2) f := by
  have e : (halved p).text.length = p.text.length / 2 := halved_len p
  unfold lastF
  rw [e]
  show (if f.id = p.id ∧ 0 < p.text.length / 2 then { f with last := over (f.last ++ List.replicate (p.at_ + p.text.length / 2 - f.last.length) 0) p.at_ ((p.text.take (p.text.length / 2)).take (p.text.length / 2)) } else f) = _
  rw [List.take_take, Nat.min_self]

/-- How much of a piece lasts, as a number of bytes. -/
theorem fateF_kept (x : Int) (p : DW) (f : DF) : fateF x p f = lastF p (keptLen (some x) p.text.length) f := by
  unfold fateF keptLen
  by_cases h2 : x = 2
  · have e : some x = some (2 : Int) := by rw [h2]
    rw [if_pos h2, if_pos e, lastF_halved]
  · have e : ¬ some x = some (2 : Int) := fun h => h2 (Option.some.inj h)
    rw [if_neg h2, if_neg e]
    by_cases h1 : x = 1
    · have e1 : some x = some (1 : Int) := by rw [h1]
      rw [if_pos h1, if_pos e1]
    · have e1 : ¬ some x = some (1 : Int) := fun h => h1 (Option.some.inj h)
      rw [if_neg h1, if_neg e1, lastF_none (by omega)]

theorem lastF_small {p : DW} {n : Nat} {f : DF} (hp : p.at_ + p.text.length ≤ 2097152) (hn : n ≤ p.text.length) (hf : f.last.length ≤ 2097152) : (lastF p n f).last.length ≤ 2097152 := by
  by_cases hdo : f.id = p.id ∧ 0 < n
  · rw [lastF_laid hdo.1 hdo.2 hn]
    show (laidL _ _ _).length ≤ _
    rw [laidL_length, List.length_take]
    omega
  · rw [lastF_none hdo]
    exact hf

section
variable {W w : World} {L : List SP} {q : Nat} {R : DD}

/-- A piece of the document's device lasts: its place is read twice, and watched. -/
theorem lastAt {fs ws : Sl} {l : List DF} {ps : List DW} {c2 c3 c4 c5 c6 : Value} {k : Nat} {p : DW} {i : Int} {J : World → Prop} (hk : ps[k]? = some p) (hi : i = k) (hpo : p.at_ + p.text.length ≤ 2097152) (hl : l.length ≤ 2 ^ 30) (hll : ∀ f ∈ l, f.last.length ≤ 2097152)
    (h : Sat W w (pts q [.slice fs.a fs.len fs.cap, .slice ws.a ws.len ws.cap, c2, c3, c4, c5, c6] :: own 4 fs (l.flatMap rcells) :: own 3 ws (ps.flatMap vcells) :: L)) (n : ByteArray → Nat) (hn : n (str p.text) ≤ p.text.length)
    {B : ByteArray → (Int → Prop) → Prop} (hB : ∀ F : Int → Prop, F (n (str p.text)) → B (str p.text) F)
    (hJ : ∀ w', Sat W w' (pts q [.slice fs.a fs.len fs.cap, .slice ws.a ws.len ws.cap, c2, c3, c4, c5, c6] :: own 4 fs ((l.map (lastF p (n (str p.text)))).flatMap rcells) :: own 3 ws (ps.flatMap vcells) :: L) → J w') :
    XNil (some (⟨q, 0, none⟩ : Addr)) fun a29 => XLoad .slice (Addr.add a29 1) (World.drew w) fun (x30 : Sl) => XNil x30.a fun a31 => ((0 : Int) ≤ i ∧ i < ((x30.len : Nat) : Int)) ∧ (XLoads [(.int .i64), (.int .i64), .str] (Addr.add a31 ((Int.toNat i) * 3)) (World.drew w) fun (x32 : (Int × Int × ByteArray × Unit)) =>
      XNil (some (⟨q, 0, none⟩ : Addr)) fun a33 => XLoad .slice (Addr.add a33 1) (World.drew w) fun (x34 : Sl) => XNil x34.a fun a35 => ((0 : Int) ≤ i ∧ i < ((x34.len : Nat) : Int)) ∧ (XLoad .str (Addr.add (Addr.add a35 ((Int.toNat i) * 3)) 2) (World.drew w) fun (x36 : ByteArray) => B x36 fun m =>
        XCalls Try.prog F.barqueref14_Disk_lasts [.pointer (some ⟨q, 0, none⟩), .agg ⟨[.int .i64 x32.1, .int .i64 x32.2.1, .string x32.2.2.1]⟩, .int .i64 m] [] (World.drew w) fun _ w38 =>
          (World.cell? w38 (Addr.add (Addr.add a35 ((Int.toNat i) * 3)) 2) = some (Leaf.mk .str x36)) ∧ ((World.cell? w38 (Addr.add a33 1) = some (Leaf.mk .slice x34)) ∧ ((World.cell? w38 (Addr.add a29 1) = some (Leaf.mk .slice x30)) ∧ J w38)))) := by
  subst hi
  have hd := h.drew
  have hlt := (List.getElem?_eq_some_iff.1 hk).1
  have hwlen : ps.length = ws.len := by have := (h.bring 2).own_len; rw [vcells_len] at this; omega
  refine xnil (xload hd 1 rfl rfl ?_)
  obtain ⟨a, ha, hcell⟩ := (hd.bring 2).own_some (by show 0 < ws.len; omega)
  refine (show XNil ws.a _ from ?_)
  rw [ha]
  refine xnil ⟨⟨by show (0 : Int) ≤ (k : Int); omega, by show (k : Int) < (ws.len : Int); omega⟩, xloads (p.id, (p.at_ : Int), str p.text, ()) (fun j v hv => ?_) ?_⟩
  · rw [Int.toNat_natCast, Addr.add_mk, Addr.add_mk, Nat.zero_add]
    exact hcell _ _ (vget ps k j p v hk hv)
  refine xnil (xload hd 1 rfl rfl ?_)
  refine xfield (l := .str) (sz := 3) (o := 2) (hd.bring 2) k rfl (by (try dsimp only); omega) (by rw [Int.toNat_natCast]) (x := str p.text) (vget ps k 2 p _ hk rfl) fun a2 ha2 => hB _ ?_
  have hl := lastsR_spec (q := q) (fs := fs) (l := l) p (n (str p.text)) hd hpo hn hl hll
  refine xcalls hl ?_
  rintro v w2 ⟨rfl, h2⟩
  have ha2' : a2 = ⟨a, 0, none⟩ := by have h3 : ws.a = some a2 := ha2; rw [ha] at h3; cases h3; rfl
  obtain ⟨b2, hb2, hcell2⟩ := (h2.bring 2).own_some (by show 0 < ws.len; omega)
  have hb2' : b2 = a := by have h3 : ws.a = some ⟨b2, 0, none⟩ := hb2; rw [ha] at h3; cases h3; rfl
  refine ⟨(), rfl, ?_, h2.cell (by show some (Value.slice ws.a ws.len ws.cap) = _; rw [ha]; rfl), h2.cell (by show some (Value.slice ws.a ws.len ws.cap) = _; rw [ha]; rfl), hJ w2 h2⟩
  rw [ha2', Int.toNat_natCast, Addr.add_mk, Addr.add_mk, Nat.zero_add, ← hb2']
  exact hcell2 _ _ (vget ps k 2 p _ hk rfl)

theorem fatesF_step (dn : List DW) (xs : List Int) (p : DW) (f : DF) (x : Int) (hx : xs[dn.length]? = some x) : fatesF ((dn ++ [p]).zip xs) f = lastF p (keptLen (some x) p.text.length) (fatesF (dn.zip xs) f) := by
  rw [zip_end, fatesF_append, hx]
  exact fateF_kept x p _

theorem zip_stop {α β : Type} : ∀ (l m : List α) (xs : List β), xs.length ≤ l.length → (l ++ m).zip xs = l.zip xs
  | _, _, [], _ => by simp
  | [], _, _ :: _, h => by simp at h
  | a :: l, m, x :: xs, h => by simp [zip_stop l m xs (by simpa using h)]

theorem CrashR_spec {s : Sl} {xs : List Int} (hA : ∀ A, ROInts W A s xs) (hs : Sat W w (RefP q R :: L)) (hn : R.files.length ≤ 2 ^ 30) (hw : PiecesOk R.wait) (hwl : R.wait.length ≤ 2 ^ 38) (hll : ∀ f ∈ R.files, f.last.length ≤ 2097152) :
    Ret Try.prog F.barqueref14_Disk_Crash [ptr q, .slice s.a s.len s.cap] w fun v w' => v = .tuple ⟨[]⟩ ∧ Sat W w' (RefP q (R.crash xs) :: L) := by
  suffices H : ∀ K : Value → World → Prop, (∀ w', Sat W w' (RefP q (R.crash xs) :: L) → K (.tuple ⟨[]⟩) w') → S.barqueref14_Disk_Crash (some ⟨q, 0, none⟩) s K w from S.barqueref14_Disk_Crash_ok _ s _ _ (H _ fun _ h => ⟨rfl, h⟩)
  intro K hK
  obtain ⟨fs, ws, h⟩ := RefP.open hs
  have hwlen : R.wait.length = ws.len := by have := (h.bring 2).own_len; rw [vcells_len] at this; omega
  have hsl : xs.length = s.len := (hA emp).1
  refine xloop (fun (st : Int × Unit) w => ∃ dn td : List DW, R.wait = dn ++ td ∧ dn.length ≤ xs.length ∧ st = ((dn.length : Int), ()) ∧ (∀ f ∈ R.files.map (fatesF (dn.zip xs)), f.last.length ≤ 2097152) ∧
      Sat W w (pts q [.slice fs.a fs.len fs.cap, .slice ws.a ws.len ws.cap, .int .i64 R.most, .int .i64 R.fuse, .bool R.off, .int .i64 R.count, .int .i64 R.made] :: own 4 fs ((R.files.map (fatesF (dn.zip xs))).flatMap rcells) :: own 3 ws (R.wait.flatMap vcells) :: L))
    (fun st => ((ws.len : Int) - st.1).toNat) ⟨[], R.wait, rfl, Nat.zero_le _, rfl, by rw [show R.files.map (fatesF (([] : List DW).zip xs)) = R.files from List.map_id _]; exact hll, by rw [show R.files.map (fatesF (([] : List DW).zip xs)) = R.files from List.map_id _]; exact h⟩ ?_
  clear h
  rintro next _ w ⟨dn, td, e, hdx, rfl, hsm, h⟩ hnext
  have hdl : dn.length + td.length = R.wait.length := by rw [e, List.length_append]
  refine xjoin (fun st w' => st = (decide (dn.length < R.wait.length ∧ dn.length < xs.length), ()) ∧ w' = w) (fun J hJ => ?_) ?_
  · refine xnil (xload h 1 rfl rfl ?_)
    by_cases h0 : dn.length < R.wait.length
    · refine XIf.yes (decide_eq_true (show (dn.length : Int) < (ws.len : Int) by omega)) (hJ _ _ ⟨?_, rfl⟩)
      have : ((dn.length : Int) < ((s.len : Nat) : Int)) ↔ (dn.length < R.wait.length ∧ dn.length < xs.length) := by omega
      simp only [this]
    · exact XIf.no (decide_eq_false (show ¬ (dn.length : Int) < (ws.len : Int) by omega)) (hJ _ _ ⟨by simp [h0], rfl⟩)
  rintro _ w' ⟨rfl, rfl⟩
  by_cases hmore : dn.length < R.wait.length ∧ dn.length < xs.length
  · cases td with
    | nil => simp at hdl; omega
    | cons p td =>
      have hget : R.wait[dn.length]? = some p := by rw [e]; simp
      have hpo := hw p (by rw [e]; simp)
      obtain ⟨x, hx⟩ : ∃ x, xs[dn.length]? = some x := ⟨_, List.getElem?_eq_getElem hmore.2⟩
      have etx : (str p.text).size = p.text.length := str_size _
      have hstep : ∀ m, keptLen (some x) p.text.length = m → (R.files.map (fatesF (dn.zip xs))).map (lastF p m) = R.files.map (fatesF ((dn ++ [p]).zip xs)) := by
        intro m hm
        rw [List.map_map]
        congr 1; funext f
        rw [fatesF_step dn xs p f x hx, hm]
        rfl
      refine XIf.yes (decide_eq_true hmore) (xjoin (fun (_ : Unit) w' => Sat W w' (pts q [.slice fs.a fs.len fs.cap, .slice ws.a ws.len ws.cap, .int .i64 R.most, .int .i64 R.fuse, .bool R.off, .int .i64 R.count, .int .i64 R.made] ::
          own 4 fs ((R.files.map (fatesF ((dn ++ [p]).zip xs))).flatMap rcells) :: own 3 ws (R.wait.flatMap vcells) :: L)) (fun J hJ => ?_) ?_)
      case refine_2 =>
        rintro _ w2 h2
        refine xlet ((dn.length + 1 : Nat) : Int) (by dsimp only; rw [wi (by omega) (by omega)]; omega) (hnext _ _ ⟨dn ++ [p], td, by simp [e], by rw [List.length_append]; exact hmore.2, by simp, fun f hf => ?_, h2⟩ (by dsimp only; omega))
        rw [← hstep _ rfl] at hf
        obtain ⟨g, hg, rfl⟩ := List.mem_map.1 hf
        exact lastF_small hpo (keptLen_le _ _) (hsm g hg)
      -- kept
      refine xjoin (fun (_ : Unit) w' => Sat W w' (pts q [.slice fs.a fs.len fs.cap, .slice ws.a ws.len ws.cap, .int .i64 R.most, .int .i64 R.fuse, .bool R.off, .int .i64 R.count, .int .i64 R.made] ::
          own 4 fs (((R.files.map (fatesF (dn.zip xs))).map (lastF p (if x = 1 then p.text.length else 0))).flatMap rcells) :: own 3 ws (R.wait.flatMap vcells) :: L)) (fun J1 hJ1 => ?_) ?_
      · obtain ⟨b', o, hsa, hcell⟩ := (hA _).2 w' _ h dn.length x hx
        refine (show XNil s.a _ from ?_)
        rw [hsa]
        refine xnil ⟨⟨by show (0 : Int) ≤ (dn.length : Int); omega, by show (dn.length : Int) < (s.len : Int); omega⟩, xload_at (l := .int .i64) (x := x) (by rw [Int.toNat_natCast, Nat.mul_one, Addr.add_mk]; exact hcell) ?_⟩
        by_cases h1 : x = 1
        · refine XIf.yes (by simpa using h1) ?_
          rw [if_pos h1] at hJ1
          exact lastAt (i := (dn.length : Int)) (J := fun w => J1 () w) (B := fun t F => F ((t.size : Nat) : Int)) hget rfl hpo (by rw [List.length_map]; exact hn) hsm h (fun t => t.size) (by rw [etx]; exact Nat.le_refl _) (fun F hF => hF) (fun w2 h2 => hJ1 () w2 (by rw [etx] at h2; exact h2))
        · refine XIf.no (by simpa using h1) (hJ1 _ _ ?_)
          rw [if_neg h1]
          have : (R.files.map (fatesF (dn.zip xs))).map (lastF p 0) = R.files.map (fatesF (dn.zip xs)) := by
            conv => rhs; rw [← List.map_id (R.files.map (fatesF (dn.zip xs)))]
            congr 1; funext f; exact lastF_none (by omega)
          rw [this]
          exact h
      rintro _ w2 h2
      -- torn
      obtain ⟨b', o, hsa, hcell⟩ := (hA _).2 w2 _ h2 dn.length x hx
      refine (show XNil s.a _ from ?_)
      rw [hsa]
      refine xnil ⟨⟨by show (0 : Int) ≤ (dn.length : Int); omega, by show (dn.length : Int) < (s.len : Int); omega⟩, xload_at (l := .int .i64) (x := x) (by rw [Int.toNat_natCast, Nat.mul_one, Addr.add_mk]; exact hcell) ?_⟩
      have hzero : (R.files.map (fatesF (dn.zip xs))).map (lastF p 0) = R.files.map (fatesF (dn.zip xs)) := by
        conv => rhs; rw [← List.map_id (R.files.map (fatesF (dn.zip xs)))]
        congr 1; funext f; exact lastF_none (by omega)
      by_cases h2' : x = 2
      · rw [if_neg (by omega), hzero] at h2
        refine XIf.yes (by simpa using h2') ?_
        have hk2 : keptLen (some x) p.text.length = p.text.length / 2 := by unfold keptLen; rw [if_pos (by rw [h2'])]
        have hst := hstep _ hk2
        exact lastAt (i := (dn.length : Int)) (J := fun w => J () w) (B := fun t F => (2 : Int) ≠ 0 ∧ XLet (IntKind.wrap .i64 (Int.tdiv ((t.size : Nat) : Int) 2)) F) hget rfl hpo (by rw [List.length_map]; exact hn) hsm h2 (fun t => t.size / 2) (by rw [etx]; omega)
          (fun F hF => ⟨by decide, xlet (((str p.text).size / 2 : Nat) : Int) (by rw [Int.tdiv_eq_ediv_of_nonneg (by omega), wi (by omega) (by omega)]; omega) hF⟩) (fun w3 h3 => hJ () w3 (by rw [etx, hst] at h3; exact h3))
      · refine XIf.no (by simpa using h2') (hJ _ _ ?_)
        have hk2 : keptLen (some x) p.text.length = if x = 1 then p.text.length else 0 := by
          have e : ¬ some x = some (2 : Int) := fun h => h2' (Option.some.inj h)
          unfold keptLen; rw [if_neg e]
          by_cases h1 : x = 1
          · rw [if_pos h1, if_pos (by rw [h1])]
          · have e1 : ¬ some x = some (1 : Int) := fun h => h1 (Option.some.inj h)
            rw [if_neg h1, if_neg e1]
        rw [hstep _ hk2] at h2
        exact h2
  -- the power comes again
  have hzip : dn.zip xs = R.wait.zip xs := by
    rw [e]
    by_cases hd : dn.length < R.wait.length
    · exact (zip_stop dn td xs (by omega)).symm
    · have : td = [] := List.eq_nil_of_length_eq_zero (by omega)
      rw [this, List.append_nil]
  rw [hzip] at h
  refine XIf.no (decide_eq_false hmore) (xnil (xstore h 1 rfl (by simp) fun w1 h => xnil (xstore h 3 rfl (by simp) fun w2 h => xnil (xstore h 4 rfl (by simp) fun w3 h => ?_))))
  have hfl : R.files.length = fs.len := by have := (h.bring 1).own_len; rw [rcells_len, List.length_map] at this; omega
  refine xloop (fun (st : Int × Unit) w => ∃ l1 l2 : List DF, R.files = l1 ++ l2 ∧ st = ((l1.length : Int), ()) ∧
      Sat W w (pts q [.slice fs.a fs.len fs.cap, .slice none 0 0, .int .i64 R.most, .int .i64 (-1), .bool false, .int .i64 R.count, .int .i64 R.made] :: own 4 fs (((l1.map fun f => reborn (fatesF (R.wait.zip xs) f)) ++ l2.map (fatesF (R.wait.zip xs))).flatMap rcells) :: own 3 ws (R.wait.flatMap vcells) :: L))
    (fun st => ((fs.len : Int) - st.1).toNat) ⟨[], R.files, rfl, rfl, h⟩ ?_
  clear h
  rintro next2 _ w4 ⟨l1, l2, e2, rfl, h⟩ hnext2
  refine xnil (xload h 0 rfl rfl ?_)
  cases l2 with
  | nil =>
    rw [List.append_nil] at e2
    rw [List.map_nil, List.append_nil] at h
    refine XIf.no (decide_eq_false (show ¬ (l1.length : Int) < (fs.len : Int) by rw [← hfl, e2]; omega)) (hK _ ?_)
    refine RefP.shut (R := R.crash xs) (fs := fs) (ws := ⟨none, 0, 0⟩) ?_
    have hfil : (R.crash xs).files = l1.map fun f => reborn (fatesF (R.wait.zip xs) f) := by show R.files.map _ = _; rw [e2]
    rw [hfil]
    exact ((h.bring 2).drop.own_nil (sz := 3)).arr [1, 2, 0]
  | cons f l2 =>
    have hlt : l1.length < R.files.length := by rw [e2]; simp
    have hd := h.drew
    have hml : (l1.map fun f => reborn (fatesF (R.wait.zip xs) f)).length = l1.length := List.length_map _
    rw [List.map_cons] at hd
    have hget : ((l1.map fun f => reborn (fatesF (R.wait.zip xs) f)) ++ fatesF (R.wait.zip xs) f :: l2.map (fatesF (R.wait.zip xs)))[l1.length]? = some (fatesF (R.wait.zip xs) f) := by rw [← hml]; simp
    refine XIf.yes (decide_eq_true (show (l1.length : Int) < (fs.len : Int) by omega)) (xnil (xload hd 0 rfl rfl (xnil (xload hd 0 rfl rfl (xfield (l := .str) (sz := 4) (hd.bring 1) l1.length rfl (by (try dsimp only); omega) (by rw [Int.toNat_natCast]) (x := str (fatesF (R.wait.zip xs) f).last) (rget _ l1.length 2 _ _ hget rfl) fun a _ => ?_)))))
    refine xsetf (sz := 4) (hd.bring 1) l1.length rfl (by (try dsimp only); omega) (by rw [Int.toNat_natCast]) (by omega) fun a w5 h5 => xlet ((l1.length + 1 : Nat) : Int) (by dsimp only; rw [wi (by omega) (by omega)]; omega) (hnext2 _ _ ⟨l1 ++ [f], l2, by simp [e2], by simp, ?_⟩ (by dsimp only; omega))
    have hfs := flat_split (l1.map fun f => reborn (fatesF (R.wait.zip xs) f)) (l2.map (fatesF (R.wait.zip xs))) (fatesF (R.wait.zip xs) f) (reborn (fatesF (R.wait.zip xs) f)) 3 (.string (str (fatesF (R.wait.zip xs) f).last)) (by omega) rfl
    rw [hml] at hfs
    rw [hfs] at h5
    have : (l1 ++ [f]).map (fun f => reborn (fatesF (R.wait.zip xs) f)) ++ l2.map (fatesF (R.wait.zip xs)) = (l1.map fun f => reborn (fatesF (R.wait.zip xs) f)) ++ reborn (fatesF (R.wait.zip xs) f) :: l2.map (fatesF (R.wait.zip xs)) := by simp
    rw [this]
    exact h5.swap

end
end Go.X
