/- The document's device: lasts, Free, Create, Sync. -/
import Derived.Test.YthljhmjigpfpnaaERef3
namespace Go.X
open Go.Proofs

theorem lastF_laid {p : DW} {n : Nat} {f : DF} (h : f.id = p.id) (h0 : 0 < n) (hn : n ≤ p.text.length) : lastF p n f = { f with last := laidL f.last p.at_ (p.text.take n) } := by
  unfold lastF laidL
  have e : (p.text.take n).length = n := by rw [List.length_take]; omega
  rw [if_pos ⟨h, h0⟩, e]

theorem lastF_none {p : DW} {n : Nat} {f : DF} (h : ¬ (f.id = p.id ∧ 0 < n)) : lastF p n f = f := by
  unfold lastF
  rw [if_neg h]

theorem flat_split (l1 l2 : List DF) (f g : DF) (o : Nat) (v : Value) (ho : o < 4) (hg : (rcells f).set o v = rcells g) :
    ((l1 ++ f :: l2).flatMap rcells).set (l1.length * 4 + o) v = (l1 ++ g :: l2).flatMap rcells := by
  rw [rset (l1 ++ f :: l2) l1.length o f g v (by simp) ho hg]
  congr 1
  simp

section
variable {W w : World} {L : List SP} {q : Nat} {R : DD}

theorem lastsR_spec {fs : Sl} {l : List DF} {rest : List Value} (p : DW) (n : Nat) (hs : Sat W w (pts q (.slice fs.a fs.len fs.cap :: rest) :: own 4 fs (l.flatMap rcells) :: L))
    (hp : p.at_ + p.text.length ≤ 2097152) (hn : n ≤ p.text.length) (hl : l.length ≤ 2 ^ 30) (hll : ∀ f ∈ l, f.last.length ≤ 2097152) :
    Ret Try.prog F.barqueref14_Disk_lasts [ptr q, .agg ⟨vcells p⟩, .int .i64 n] w fun v w' => v = .tuple ⟨[]⟩ ∧ Sat W w' (pts q (.slice fs.a fs.len fs.cap :: rest) :: own 4 fs ((l.map (lastF p n)).flatMap rcells) :: L) := by
  suffices H : ∀ K : Value → World → Prop, (∀ w', Sat W w' (pts q (.slice fs.a fs.len fs.cap :: rest) :: own 4 fs ((l.map (lastF p n)).flatMap rcells) :: L) → K (.tuple ⟨[]⟩) w') → S.barqueref14_Disk_lasts (some ⟨q, 0, none⟩) (p.id, (p.at_ : Int), str p.text, ()) n K w from
    S.barqueref14_Disk_lasts_ok _ (p.id, (p.at_ : Int), str p.text, ()) _ _ _ (H _ fun _ h => ⟨rfl, h⟩)
  intro K hK
  refine xnew hs fun b w1 h1 => ?_
  have hfl : l.length = fs.len := by have := (hs.bring 1).own_len; rw [rcells_len] at this; omega
  have etx : (str p.text).size = p.text.length := str_size _
  refine xloop (fun (st : Int × Unit) w => ∃ l1 l2 : List DF, l = l1 ++ l2 ∧ st = ((l1.length : Int), ()) ∧
      Sat W w (pts b [.int .i64 p.id, .int .i64 (p.at_ : Nat), .string (str p.text)] :: pts q (.slice fs.a fs.len fs.cap :: rest) :: own 4 fs ((l1.map (lastF p n) ++ l2).flatMap rcells) :: L))
    (fun st => ((fs.len : Int) - st.1).toNat) ⟨[], l, rfl, rfl, h1⟩ ?_
  clear h1
  rintro next _ w ⟨l1, l2, e, rfl, h⟩ hnext
  refine xnil (xload (h.bring 1) 0 rfl rfl ?_)
  cases l2 with
  | nil =>
    rw [List.append_nil] at e h
    subst e
    exact XIf.no (decide_eq_false (show ¬ (l.length : Int) < (fs.len : Int) by omega)) (hK w h.drop)
  | cons f l2 =>
    have hlt : l1.length < l.length := by rw [e]; simp
    have hfb := hll f (by rw [e]; simp)
    have hml : (l1.map (lastF p n)).length = l1.length := List.length_map _
    have hget : (l1.map (lastF p n) ++ f :: l2)[l1.length]? = some f := by rw [← hml]; simp
    refine XIf.yes (decide_eq_true (show (l1.length : Int) < (fs.len : Int) by omega)) (xjoin (fun (_ : Unit) w' => Sat W w' (pts b [.int .i64 p.id, .int .i64 (p.at_ : Nat), .string (str p.text)] :: pts q (.slice fs.a fs.len fs.cap :: rest) :: own 4 fs (((l1 ++ [f]).map (lastF p n) ++ l2).flatMap rcells) :: L)) (fun J hJ => ?_) ?_)
    case refine_2 =>
      rintro _ w' h'
      exact xlet ((l1.length + 1 : Nat) : Int) (by dsimp only; rw [wi (by omega) (by omega)]; omega) (hnext _ _ ⟨l1 ++ [f], l2, by simp [e], by simp, h'⟩ (by dsimp only; omega))
    have hsame : (l1 ++ [f]).map (lastF p n) ++ l2 = l1.map (lastF p n) ++ lastF p n f :: l2 := by simp
    rw [hsame] at hJ
    have hd := h.drew
    refine xjoin (fun st w' => st = (decide (f.id = p.id ∧ 0 < n), ()) ∧ w' = w.drew) (fun J2 hJ2 => ?_) ?_
    · refine xnil (xload (hd.bring 1) 0 rfl rfl (xfield0 (l := .int .i64) (sz := 4) (hd.bring 2) l1.length rfl (by (try dsimp only); omega) (by rw [Int.toNat_natCast]) (x := f.id) (rget _ l1.length 0 f _ hget rfl) fun a _ => xload hd 0 rfl rfl ?_))
      by_cases hid : f.id = p.id
      · refine XIf.yes (by simpa using hid) (hJ2 _ _ ⟨?_, rfl⟩)
        have : ((n : Int) > 0) ↔ (f.id = p.id ∧ 0 < n) := by constructor <;> intro <;> omega
        simp only [this]
      · exact XIf.no (by simpa using hid) (hJ2 _ _ ⟨by simp [hid], rfl⟩)
    rintro _ w' ⟨rfl, rfl⟩
    by_cases hdo : f.id = p.id ∧ 0 < n
    · have hdd := hd.drew
      refine XIf.yes (decide_eq_true hdo) (xnil (xload (hdd.bring 1) 0 rfl rfl (xnil (xload (hdd.bring 1) 0 rfl rfl (xfield (l := .str) (sz := 4) (hdd.bring 2) l1.length rfl (by (try dsimp only); omega) (by rw [Int.toNat_natCast]) (x := str f.last) (rget _ l1.length 2 f _ hget rfl) fun a _ => ?_)))))
      refine xload hdd 1 rfl rfl (xload hdd 2 rfl rfl ⟨⟨by show (0 : Int) ≤ (n : Int) ∧ (n : Int) ≤ ((str p.text).size : Int); rw [etx]; omega, by omega, by omega⟩, xlet (str (p.text.take n)) (by rw [Int.toNat_natCast]; exact str_take _ _) ?_⟩)
      have htl : (p.text.take n).length = n := by rw [List.length_take]; omega
      refine xcall (laid_spec f.last (p.text.take n) p.at_ (by omega) (by omega) (by omega) hdd) ?_
      rintro v w2 ⟨rfl, h2⟩
      refine ⟨_, rfl, h2.cell rfl, (h2.bring 1).cell rfl, (h2.bring 1).cell rfl, xsetf (sz := 4) (h2.bring 2) l1.length rfl (by (try dsimp only); omega) (by rw [Int.toNat_natCast]) (by omega) fun a w3 h3 => hJ _ _ ?_⟩
      have hfs := flat_split (l1.map (lastF p n)) l2 f (lastF p n f) 2 (.string (str (laidL f.last p.at_ (p.text.take n)))) (by omega) (by rw [lastF_laid hdo.1 hdo.2 hn]; rfl)
      rw [hml] at hfs
      rw [hfs] at h3
      exact h3.arr [1, 2, 0]
    · refine XIf.no (decide_eq_false hdo) (hJ _ _ ?_)
      rw [lastF_none hdo]
      exact hd

theorem FreeR_parts {fs ws : Sl} (h : Sat W w (pts q [.slice fs.a fs.len fs.cap, .slice ws.a ws.len ws.cap, .int .i64 R.most, .int .i64 R.fuse, .bool R.off, .int .i64 R.count, .int .i64 R.made] ::
      own 4 fs (R.files.flatMap rcells) :: own 3 ws (R.wait.flatMap vcells) :: L)) (hsm : Small R.files) (hn : R.files.length ≤ 2 ^ 30) (hm : 0 ≤ R.most ∧ R.most ≤ 32768) :
    Ret Try.prog F.barqueref14_Disk_Free [ptr q] w fun v w' => v = .int .i64 R.free ∧ Sat W w' (pts q [.slice fs.a fs.len fs.cap, .slice ws.a ws.len ws.cap, .int .i64 R.most, .int .i64 R.fuse, .bool R.off, .int .i64 R.count, .int .i64 R.made] ::
      own 4 fs (R.files.flatMap rcells) :: own 3 ws (R.wait.flatMap vcells) :: L) := by
  refine S.barqueref14_Disk_Free_ok _ _ _ (xnil ?_)
  have hfl : R.files.length = fs.len := by have := (h.bring 1).own_len; rw [rcells_len] at this; omega
  refine xload h 2 rfl rfl ?_
  refine xloop (fun (st : Int × Int × Unit) w' => ∃ l1 l2 : List DF, R.files = l1 ++ l2 ∧ st = (R.most - (takesAll l1 : Int), (l1.length : Int), ()) ∧ Sat W w' (pts q [.slice fs.a fs.len fs.cap, .slice ws.a ws.len ws.cap, .int .i64 R.most, .int .i64 R.fuse, .bool R.off, .int .i64 R.count, .int .i64 R.made] ::
      own 4 fs (R.files.flatMap rcells) :: own 3 ws (R.wait.flatMap vcells) :: L)) (fun st => ((fs.len : Int) - st.2.1).toNat) ⟨[], R.files, rfl, by simp [takesAll], h⟩ ?_
  clear h
  rintro next _ w ⟨l1, l2, e, rfl, h⟩ hnext
  refine xnil (xload h 0 rfl rfl ?_)
  cases l2 with
  | nil =>
    rw [List.append_nil] at e
    refine XIf.no (decide_eq_false (show ¬ (l1.length : Int) < (fs.len : Int) by rw [← hfl, e]; omega)) ⟨?_, h⟩
    unfold DD.free
    rw [e]
  | cons f l2 =>
    have hlt : l1.length < R.files.length := by rw [e]; simp
    have hget : R.files[l1.length]? = some f := by rw [e]; simp
    have hfs := hsm f (by rw [e]; simp)
    have ht1 : takesAll l1 ≤ 32768 * l1.length := takesAll_le fun g hg => hsm g (by rw [e]; simp [hg])
    have ht2 := takes_le hfs
    obtain ⟨a, ha, hcell⟩ := (h.bring 1).own_some (by show 0 < fs.len; omega)
    refine XIf.yes (decide_eq_true (show (l1.length : Int) < (fs.len : Int) by omega)) (xnil (xload h 0 rfl rfl ?_))
    have ha' : fs.a = some ⟨a, 0, none⟩ := ha
    refine (show XNil fs.a _ from ?_)
    rw [ha']
    refine xnil ⟨⟨by show (0 : Int) ≤ (l1.length : Int); omega, by show (l1.length : Int) < (fs.len : Int); omega⟩, xloads (f.id, f.name, str f.last, str f.seen, ()) (fun j v hv => ?_) ?_⟩
    · rw [Int.toNat_natCast, Addr.add_mk, Addr.add_mk, Nat.zero_add]
      exact hcell _ _ (rget R.files l1.length j f v hget hv)
    refine xcall (takes_spec f hfs.1 hfs.2 h) ?_
    rintro v w2 ⟨rfl, h2⟩
    refine ⟨(f.takes : Int), rfl, xlet (R.most - (takesAll (l1 ++ [f]) : Int)) ?_ (xlet ((l1.length + 1 : Nat) : Int) (by dsimp only; rw [wi (by omega) (by omega)]; omega) (hnext _ _ ⟨l1 ++ [f], l2, by simp [e], by simp, h2⟩ (by dsimp only; omega)))⟩
    have : takesAll (l1 ++ [f]) = takesAll l1 + f.takes := by rw [takesAll_append]; simp [takesAll]
    rw [this]
    dsimp only
    rw [wi (by omega) (by omega)]
    omega

theorem FreeR_spec (hs : Sat W w (RefP q R :: L)) (hsm : Small R.files) (hn : R.files.length ≤ 2 ^ 30) (hm : 0 ≤ R.most ∧ R.most ≤ 32768) :
    Ret Try.prog F.barqueref14_Disk_Free [ptr q] w fun v w' => v = .int .i64 R.free ∧ Sat W w' (RefP q R :: L) := by
  obtain ⟨fs, ws, h⟩ := RefP.open hs
  exact (FreeR_parts h hsm hn hm).mono fun _ _ ⟨e, h⟩ => ⟨e, RefP.shut h⟩

end
end Go.X
