/- The law DiskTorn: the walk. -/
import Derived.Test.YthljhmjigpfpnaaDFull
namespace Go.X
open Go.Proofs

/-- How much of a piece lasts by its fate. -/
def keptLen (x : Option Int) (n : Nat) : Nat := if x = some 2 then n / 2 else if x = some 1 then n else 0

/-- Bytes laid where they begin, if there are any. -/
def layk (l : List UInt8) (at_ : Nat) (u : List UInt8) : List UInt8 := if u.length = 0 then l else over (l ++ List.replicate (at_ + u.length - l.length) 0) at_ u

theorem lastF_last {p : DW} {f : DF} (h : f.id = p.id) : (lastF p p.text.length f).last = layk f.last p.at_ p.text := by
  unfold lastF layk
  by_cases h0 : p.text.length = 0
  · rw [if_neg (by omega), if_pos h0]
  · rw [if_pos ⟨h, by omega⟩, if_neg h0, List.take_of_length_le (Nat.le_refl _)]

theorem fateF_last {x : Int} {p : DW} {f : DF} (h : f.id = p.id) : (fateF x p f).last = layk f.last p.at_ (p.text.take (keptLen (some x) p.text.length)) := by
  unfold fateF keptLen
  by_cases h2 : x = 2
  · have e : some x = some (2 : Int) := by rw [h2]
    rw [if_pos h2, if_pos e, lastF_last (p := halved p) h]
    rfl
  · have e : ¬ some x = some (2 : Int) := fun h => h2 (Option.some.inj h)
    rw [if_neg h2, if_neg e]
    by_cases h1 : x = 1
    · have e1 : some x = some (1 : Int) := by rw [h1]
      rw [if_pos h1, if_pos e1, lastF_last h, List.take_of_length_le (Nat.le_refl _)]
    · have e1 : ¬ some x = some (1 : Int) := fun h => h1 (Option.some.inj h)
      rw [if_neg h1, if_neg e1, List.take_zero]
      rfl

theorem lastF_id (p : DW) (n : Nat) (f : DF) : (lastF p n f).id = f.id := by unfold lastF; split <;> rfl
theorem fateF_id (x : Int) (p : DW) (f : DF) : (fateF x p f).id = f.id := by
  unfold fateF
  split
  · exact lastF_id _ _ _
  · split
    · exact lastF_id _ _ _
    · rfl
theorem fatesF_id : ∀ (l : List (DW × Int)) (f : DF), (fatesF l f).id = f.id
  | [], _ => rfl
  | _ :: l, _ => (fatesF_id l _).trans (fateF_id _ _ _)
theorem lastF_name (p : DW) (n : Nat) (f : DF) : (lastF p n f).name = f.name := by unfold lastF; split <;> rfl
theorem fateF_name (x : Int) (p : DW) (f : DF) : (fateF x p f).name = f.name := by
  unfold fateF
  split
  · exact lastF_name _ _ _
  · split
    · exact lastF_name _ _ _
    · rfl
theorem fatesF_name : ∀ (l : List (DW × Int)) (f : DF), (fatesF l f).name = f.name
  | [], _ => rfl
  | _ :: l, _ => (fatesF_name l _).trans (fateF_name _ _ _)

theorem zip_end {α β : Type} : ∀ (l : List α) (m : List β) (a : α), (l ++ [a]).zip m = l.zip m ++ (match m[l.length]? with | some b => [(a, b)] | none => [])
  | [], [], a => rfl
  | [], b :: m, a => by simp
  | x :: l, [], a => by simp
  | x :: l, y :: m, a => by simp [zip_end l m a]

theorem fatesF_append (l1 l2 : List (DW × Int)) (f : DF) : fatesF (l1 ++ l2) f = fatesF l2 (fatesF l1 f) := by
  induction l1 generalizing f with
  | nil => rfl
  | cons q l1 ih => exact ih _

/-- A step of the fates. -/
theorem fates_step (dn : List DW) (xs : List Int) (p : DW) (f : DF) (h : f.id = p.id) :
    (fatesF ((dn ++ [p]).zip xs) f).last = layk (fatesF (dn.zip xs) f).last p.at_ (p.text.take (keptLen xs[dn.length]? p.text.length)) := by
  rw [zip_end, fatesF_append]
  cases hx : xs[dn.length]? with
  | none => simp [fatesF, keptLen, layk]
  | some x =>
    show (fateF x p (fatesF (dn.zip xs) f)).last = _
    exact fateF_last (by rw [fatesF_id]; exact h)

theorem layk_length (l u : List UInt8) (at_ : Nat) : (layk l at_ u).length = if u.length = 0 then l.length else max l.length (at_ + u.length) := by
  unfold layk
  split
  · rfl
  · rw [over_length (by rw [List.length_append, List.length_replicate]; omega), List.length_append, List.length_replicate]
    omega

theorem fatesF_small {B : Nat} : ∀ (l : List (DW × Int)) (f : DF), (∀ q ∈ l, q.1.at_ + q.1.text.length ≤ B) → f.last.length ≤ B → (fatesF l f).last.length ≤ B
  | [], f, _, h => h
  | q :: l, f, hq, h => by
    refine fatesF_small l _ (fun q' h' => hq q' (List.mem_cons_of_mem _ h')) ?_
    have h1 := hq q List.mem_cons_self
    have key : ∀ (p : DW) (f : DF), p.at_ + p.text.length ≤ B → f.last.length ≤ B → (lastF p p.text.length f).last.length ≤ B := by
      intro p f hp hf
      unfold lastF
      split
      · show (over _ _ _).length ≤ B
        rw [over_length (by rw [List.length_append, List.length_replicate, List.length_take]; omega), List.length_append, List.length_replicate]
        omega
      · exact hf
    unfold fateF
    split
    · exact key _ _ (by rw [halved_len]; show q.1.at_ + _ ≤ _; omega) h
    · split
      · exact key _ _ h1 h
      · exact h

/-- One byte more laid. -/
theorem over_snoc (G u : List UInt8) (k j : Nat) (c : UInt8) (hc : u[j]? = some c) (hk : k + u.length ≤ G.length) : over G k (u.take (j + 1)) = (over G k (u.take j)).set (k + j) c := by
  have hj := (List.getElem?_eq_some_iff.1 hc).1
  have e : u.take (j + 1) = u.take j ++ [c] := by rw [List.take_add_one, hc]; rfl
  have hl : (u.take j).length = j := by rw [List.length_take]; omega
  unfold over
  rw [e]
  simp only [List.length_append, hl, List.length_singleton]
  have hd : G.drop (k + j) = G[k + j] :: G.drop (k + j + 1) := List.drop_eq_getElem_cons (by omega)
  have hlen : (G.take k ++ u.take j).length = k + j := by rw [List.length_append, List.length_take, hl]; omega
  rw [hd, List.set_append_right _ _ (by omega), hlen, Nat.sub_self, List.set_cons_zero, ← List.append_assoc, List.append_assoc _ [c], show k + (j + 1) = k + j + 1 by omega]
  rfl

section
variable {W w : World} {L : List SP}

/-- Is a fate that one? -/
theorem xfate {A : SP} {s : Sl} {xs : List Int} (hA : ROInts W A s xs) (hs : Sat W w (A :: L)) (i : Nat) (c : Int) {J : Bool × Unit → World → Prop} (hJ : J (decide (xs[i]? = some c), ()) w) :
    XIf (decide ((i : Int) < ((s.len : Nat) : Int))) (XNil s.a fun a => ((0 : Int) ≤ (i : Int) ∧ (i : Int) < ((s.len : Nat) : Int)) ∧ XLoad (.int .i64) (Addr.add a ((Int.toNat (i : Int)) * 1)) w fun (x : Int) => J (((x : Int) == c), ()) w) (J (false, ()) w) := by
  obtain ⟨hl, hA⟩ := hA
  by_cases hi : i < xs.length
  · obtain ⟨x, hx⟩ : ∃ x, xs[i]? = some x := ⟨_, List.getElem?_eq_getElem hi⟩
    obtain ⟨b, o, ha, hcell⟩ := hA w L hs i x hx
    refine XIf.yes (decide_eq_true (by omega)) ?_
    rw [ha]
    refine xnil ⟨by omega, xload_at (l := .int .i64) (x := x) (by rw [Int.toNat_natCast, Nat.mul_one, Addr.add_mk]; exact hcell) ?_⟩
    rw [hx] at hJ
    have : (x == c) = decide (some x = some c) := by by_cases h : x = c <;> simp [h]
    rw [this]
    exact hJ
  · refine XIf.no (decide_eq_false (by omega)) ?_
    have : xs[i]? = none := List.getElem?_eq_none (by omega)
    rw [this] at hJ
    exact hJ

theorem read_first {D : DD} {f : DF} {r : List DF} (hf : D.files = f :: r) (ho : D.off = false) (k n : Nat) : D.read f.name k n = ((f.seen.drop k).take n, 0) := by
  unfold DD.read
  rw [ho, hf, behind_self]
  simp only [Bool.false_eq_true, if_false]
  rw [if_neg (by rw [cmpS_refl]; simp), if_neg (by omega), Int.toNat_natCast, Int.toNat_natCast]

theorem over_nil (l : List UInt8) (k : Nat) : over l k [] = l := by simp [over]

theorem keptLen_le (x : Option Int) (n : Nat) : keptLen x n ≤ n := by
  unfold keptLen
  split
  · omega
  · split <;> omega

theorem pl_neg {n : Nat} {place : Nat} (h : ¬ (64 : Int) - ((place % 64 : Nat) : Int) > (n : Int)) : (64 : Int) - ((place % 64 : Nat) : Int) = ((pieceLen place n : Nat) : Int) := by
  unfold pieceLen; omega
theorem pl_pos {n : Nat} {place : Nat} (h : (64 : Int) - ((place % 64 : Nat) : Int) > (n : Int)) : (n : Int) = ((pieceLen place n : Nat) : Int) := by
  unfold pieceLen; omega

theorem Torn_law (at_ : Int) (s : ByteArray) {fs : Sl} {xs : List Int} (hA : ∀ A, ROInts W A fs xs) (hs : Sat W w L) :
    Ret Try.prog F.barquelaw14_DiskTorn [.int .i64 at_, .string s, .slice fs.a fs.len fs.cap] w fun v w' => v = .bool true ∧ Sat W w' L := by
  suffices H : ∀ K : Value → World → Prop, (∀ w', Sat W w' L → K (.bool true) w') → S.barquelaw14_DiskTorn at_ s fs K w from S.barquelaw14_DiskTorn_ok _ _ _ _ _ (H _ fun _ h => ⟨rfl, h⟩)
  intro K hK
  refine xcall_eq (cut_spec s) (str (s.data.toList.take 700)) rfl ?_
  obtain ⟨t, ht⟩ : ∃ t, s.data.toList.take 700 = t := ⟨_, rfl⟩
  have htl : t.length ≤ 700 := by rw [← ht, List.length_take]; omega
  rw [ht]
  have hawake : ∀ w', Sat W w' L → ∀ K' : Bool → World → Prop, (∀ w', Sat W w' L → K' true w') → XCall Try.prog F.barquelaw14_awake [] (.leaf .bool) w' K' := fun w' h K' hk =>
    xcall (awake_spec h) fun v w'' ⟨e, h'⟩ => ⟨true, e, hk w'' h'⟩
  refine xjoin (fun st w' => st = (decide (at_ < 0 ∨ 5000 < at_), ()) ∧ w' = w) (fun J hJ => ?_) ?_
  · by_cases h3 : at_ < 0
    · exact XIf.yes (decide_eq_true h3) (hJ _ _ ⟨by simp [h3], rfl⟩)
    refine XIf.no (decide_eq_false h3) (hJ _ _ ⟨?_, rfl⟩)
    simp [h3]
  rintro _ w' ⟨rfl, rfl⟩
  by_cases hout : at_ < 0 ∨ 5000 < at_
  · exact XIf.yes (decide_eq_true hout) (hawake _ hs _ fun w' h => hK w' h)
  refine XIf.no (decide_eq_false hout) (xcalls (New_yes 200 (by omega) (by omega) hs) ?_)
  rintro v w1 ⟨d, rfl, h1⟩
  refine ⟨(some ⟨d, 0, none⟩, (0 : Int), ()), rfl, xjoin0 (XIf.no rfl (XIf.no rfl ?_))⟩
  refine xcall (Create_spec (name := nameA) h1 trivial (by simp [DD.empty]) (by simp [DD.empty])) ?_
  rintro v w2 ⟨rfl, h2⟩
  rw [one_eq] at h2 ⊢
  obtain ⟨k, rfl⟩ : ∃ k : Nat, at_ = k := ⟨at_.toNat, by omega⟩
  have hsz : (str t).size = t.length := str_size t
  refine ⟨(0 : Int), rfl, xcall (Write_spec (name := nameA) (at_ := (k : Int)) (t := str t) h2 (rising_one _) (small_one (by decide)) (by simp [DD.one]) (by simp only [DD.one]; omega) (by simp [DD.one]) (by simp [DD.one]) (by simp [DD.one]) (by rw [hsz]; simp only [DD.one]; omega) (by rw [hsz]; simp only [DD.one, List.length_nil]; omega)) ?_⟩
  rintro v w3 ⟨rfl, h3⟩
  rw [str_toList] at h3 ⊢
  -- the write, piece by piece
  obtain ⟨ps, hps⟩ : ∃ ps, pcs t.length 0 k t = ps := ⟨_, rfl⟩
  obtain ⟨seen, count, hw⟩ : ∃ seen count, (DD.one 200).write nameA k t = (0, ⟨[⟨0, nameA, [], seen⟩], ps, 200, -1, false, count, 1⟩) := by
    have hfree : (DD.one 200).free = 200 := by rw [DD.one, free_one]; simp [DF.takes, secs]
    have htk : DF.takes ⟨0, nameA, [], []⟩ = 0 := by simp [DF.takes, secs]
    have hw := write_first (D := DD.one 200) (f := ⟨0, nameA, [], []⟩) (r := []) rfl rfl k t (by omega) (by rw [hfree, htk]; unfold secs; omega)
    rw [wr_all _ _ _ _ _ (.inl (by simp [DD.one]))] at hw
    refine ⟨(pcs t.length 0 k t).foldl lay [], 0 + ((pcs t.length 0 k t).length : Int), hw.trans ?_⟩
    show (downE false, (⟨[⟨0, nameA, [], (pcs t.length 0 k t).foldl lay []⟩], [] ++ pcs t.length 0 k t, 200, burns (pcs t.length 0 k t).length (-1), false, (0 : Int) + ((pcs t.length 0 k t).length : Int), 1⟩ : DD)) = _
    rw [burns_neg (by decide), hps]
    rfl
  rw [hw] at h3 ⊢
  have hpok : ∀ p ∈ ps, p.id = 0 ∧ k ≤ p.at_ ∧ p.at_ + p.text.length ≤ k + t.length := fun p hp => pcs_ok t.length 0 k t p (by rw [hps]; exact hp)
  have hpl : ps.length ≤ t.length := by rw [← hps]; exact pcs_len _ _ _ _
  obtain ⟨f0, hf0⟩ : ∃ f0 : DF, f0 = ⟨0, nameA, [], seen⟩ := ⟨_, rfl⟩
  have hid : f0.id = 0 := by rw [hf0]
  have hzip : ∀ (l : List DW), (∀ p ∈ l, p ∈ ps) → (fatesF (l.zip xs) f0).last.length ≤ 5700 := fun l hl => by
    refine fatesF_small (B := 5700) _ _ (fun q hq => ?_) (by rw [hf0]; simp)
    have := hpok q.1 (hl _ (List.of_mem_zip hq).1)
    omega
  refine ⟨(0 : Int), rfl, XIf.no rfl (xcalls (Crash_spec (hA emp) h3.add_emp.swap (by simp) (fun p hp => ?_) ?_ (fun f hf => ?_)) ?_)⟩
  · have := hpok p hp; omega
  · show ps.length ≤ _; omega
  · simp only [List.mem_cons, List.not_mem_nil, or_false] at hf
    have := hzip ps fun _ h => h
    rw [hf0] at this
    rw [hf]
    show (fatesF (ps.zip xs) _).last.length ≤ _
    omega
  rintro v w4 ⟨rfl, h4⟩
  have hcr : DD.crash ⟨[⟨0, nameA, [], seen⟩], ps, 200, -1, false, count, 1⟩ xs = ⟨[reborn (fatesF (ps.zip xs) f0)], [], 200, -1, false, count, 1⟩ := by rw [hf0]; rfl
  rw [hcr] at h4
  have h4 : Sat W w4 (DiskP d ⟨[reborn (fatesF (ps.zip xs) f0)], [], 200, -1, false, count, 1⟩ :: L) := h4.swap.drop
  refine ⟨(), rfl, xnew h4 fun b w5 h5 => ?_⟩
  have h5 : Sat W w5 (own 1 ⟨some ⟨b, 0, none⟩, 0, 0⟩ (bcells []) :: DiskP d ⟨[reborn (fatesF (ps.zip xs) f0)], [], 200, -1, false, count, 1⟩ :: L) := Sat.shut_own (rest := []) rfl rfl rfl (Nat.le_refl _) h5
  refine xloop (fun (st : Sl × Int × ByteArray × Int × Unit) w => ∃ (dn : List DW) (fu place : Nat) (r : List UInt8) (g : Sl), ps = dn ++ pcs fu 0 place r ∧ r.length ≤ fu ∧ place + r.length ≤ 5700 ∧ st = (g, (place : Int), str r, (dn.length : Int), ()) ∧
      Sat W w (own 1 g (bcells (fatesF (dn.zip xs) f0).last) :: DiskP d ⟨[reborn (fatesF (ps.zip xs) f0)], [], 200, -1, false, count, 1⟩ :: L))
    (fun st => st.2.2.1.size) ⟨[], t.length, k, t, _, hps.symm, Nat.le_refl _, by omega, rfl, by rw [show (fatesF (([] : List DW).zip xs) f0).last = [] by rw [hf0]; rfl]; exact h5⟩ ?_
  clear h5 h4 h3
  rintro next _ w ⟨dn, fu, place, r, g, hdn, hrf, hpr, rfl, h⟩ hnext
  by_cases hr : r = []
  · subst hr
    have hnil : pcs fu 0 place [] = [] := by cases fu <;> simp [pcs]
    rw [hnil, List.append_nil] at hdn
    subst hdn
    refine XIf.no (by show (!sEq (str []) ByteArray.empty) = false; rw [str_empty]; rfl) ?_
    have hlast := hzip ps fun _ h => h
    refine xcalls (Read_spec (name := nameA) (at_ := 0) (n := 2097152) h.swap (rising_one _) (small_one ⟨by show (fatesF (ps.zip xs) f0).last.length ≤ _; omega, by show (fatesF (ps.zip xs) f0).last.length ≤ _; omega⟩) (by simp)) ?_
    rintro v w6 ⟨rfl, hq6⟩
    have h6 := h.quiet hq6
    have hnm : (reborn (fatesF (ps.zip xs) f0)).name = nameA := by show (fatesF (ps.zip xs) f0).name = _; rw [fatesF_name, hf0]
    have hrd := read_first (D := ⟨[reborn (fatesF (ps.zip xs) f0)], [], 200, -1, false, count, 1⟩) (f := reborn (fatesF (ps.zip xs) f0)) (r := []) rfl rfl 0 2097152
    rw [hnm] at hrd
    have hrd : DD.read ⟨[reborn (fatesF (ps.zip xs) f0)], [], 200, -1, false, count, 1⟩ nameA 0 2097152 = ((fatesF (ps.zip xs) f0).last, 0) := by
      refine hrd.trans ?_
      show (((fatesF (ps.zip xs) f0).last.drop 0).take 2097152, (0 : Int)) = _
      rw [List.drop_zero, List.take_of_length_le (by omega)]
    rw [hrd]
    refine ⟨(_, _, ()), rfl, xjoin0 (XIf.yes rfl ?_)⟩
    have hgl : (fatesF (ps.zip xs) f0).last.length = g.len := by have := h6.own_len; rw [bcells_length] at this; omega
    refine xbytes (k := 0) (l := (fatesF (ps.zip xs) f0).last) h6 (fun b hb _ => hb) (fun h => h) (by show 0 + g.len ≤ _; omega) (fun _ => rfl) ?_
    rw [List.drop_zero, List.take_of_length_le (by show _ ≤ g.len; omega)]
    exact XIf.yes (sEq_self _) (hawake w6 h6.drop.drop _ fun w' h => hK w' h)
  -- a round
  have hr0 : 0 < r.length := List.length_pos_iff.2 hr
  obtain ⟨fu, rfl⟩ : ∃ n, fu = n + 1 := ⟨fu - 1, by omega⟩
  rw [pcs, if_neg hr] at hdn
  obtain ⟨pl, hpl'⟩ : ∃ pl, pieceLen place r.length = pl := ⟨_, rfl⟩
  have hpl0 : 0 < pl := by rw [← hpl']; exact pieceLen_pos hr0
  have hplr : pl ≤ r.length := by rw [← hpl']; exact pieceLen_le _ _
  rw [hpl'] at hdn
  have hrsz : (str r).size = r.length := str_size r
  have hdl : dn.length ≤ 700 := by
    have := congrArg List.length hdn
    rw [List.length_append] at this
    omega
  refine XIf.yes (by show (!sEq (str r) ByteArray.empty) = true; rw [str_empty]; simpa using hr) ⟨by decide, xlet ((place % 64 : Nat) : Int) (tmod64 place) (xlet ((64 : Int) - ((place % 64 : Nat) : Int)) (wi (by omega) (by omega)) ?_)⟩
  refine xjoin (fun (st : Int × Unit) w' => st = ((pl : Int), ()) ∧ w' = w) (fun J hJ => ?_) ?_
  · by_cases hgt : (64 : Int) - ((place % 64 : Nat) : Int) > ((str r).size : Int)
    · refine XIf.yes (decide_eq_true hgt) (hJ _ _ ⟨?_, rfl⟩)
      rw [hrsz] at hgt ⊢
      rw [← hpl', pl_pos hgt]
    · refine XIf.no (decide_eq_false hgt) (hJ _ _ ⟨?_, rfl⟩)
      rw [hrsz] at hgt
      rw [← hpl', pl_neg hgt]
  rintro _ w' ⟨rfl, rfl⟩
  refine xjoin (fun (st : Int × Unit) w'' => st = (((if xs[dn.length]? = some 1 then pl else 0 : Nat) : Int), ()) ∧ w'' = w') (fun J hJ => ?_) ?_
  · refine xjoin0 (xfate (hA _) h dn.length 1 (J := fun s63 w64 => XIf s63.1 (J ((pl : Int), ()) w64) (J ((0 : Int), ()) w64)) ?_)
    by_cases h1 : xs[dn.length]? = some 1
    · exact XIf.yes (decide_eq_true h1) (hJ _ _ ⟨by rw [if_pos h1], rfl⟩)
    · exact XIf.no (decide_eq_false h1) (hJ _ _ ⟨by rw [if_neg h1]; rfl, rfl⟩)
  rintro _ w'' ⟨rfl, rfl⟩
  obtain ⟨kk, hkk⟩ : ∃ kk, keptLen xs[dn.length]? pl = kk := ⟨_, rfl⟩
  have hkl : kk ≤ pl := by rw [← hkk]; exact keptLen_le _ _
  refine xjoin (fun (st : Int × Unit) w3 => st = ((kk : Int), ()) ∧ w3 = w'') (fun J hJ => ?_) ?_
  · refine xjoin0 (xfate (hA _) h dn.length 2 (J := fun s57 w58 => XIf s57.1 ((2 : Int) ≠ 0 ∧ XLet (IntKind.wrap .i64 (Int.tdiv (pl : Int) 2)) fun n60 => J (n60, ()) w58) (J (((if xs[dn.length]? = some 1 then pl else 0 : Nat) : Int), ()) w58)) ?_)
    by_cases h2 : xs[dn.length]? = some 2
    · refine XIf.yes (decide_eq_true h2) ⟨by decide, xlet ((pl / 2 : Nat) : Int) (by rw [Int.tdiv_eq_ediv_of_nonneg (by omega), wi (by omega) (by omega)]; omega) (hJ _ _ ⟨?_, rfl⟩)⟩
      rw [← hkk, keptLen, if_pos h2]
    · refine XIf.no (decide_eq_false h2) (hJ _ _ ⟨?_, rfl⟩)
      rw [← hkk, keptLen, if_neg h2]
  rintro _ w3 ⟨rfl, rfl⟩
  obtain ⟨l, hl⟩ : ∃ l, (fatesF (dn.zip xs) f0).last = l := ⟨_, rfl⟩
  rw [hl] at h
  have hll : l.length ≤ 5700 := by rw [← hl]; exact hzip dn fun p hp => by rw [hdn]; exact List.mem_append_left _ hp
  -- growing
  refine xloop (fun (st : Sl × Unit) w => ∃ (g' : Sl) (l' : List UInt8), st = (g', ()) ∧ (0 < kk → l' ++ List.replicate (place + kk - l'.length) 0 = l ++ List.replicate (place + kk - l.length) 0) ∧ (kk = 0 → l' = l) ∧ l'.length ≤ 5700 ∧
      Sat W w (own 1 g' (bcells l') :: DiskP d ⟨[reborn (fatesF (ps.zip xs) f0)], [], 200, -1, false, count, 1⟩ :: L))
    (fun st => place + kk - st.1.len) ⟨g, l, rfl, fun _ => rfl, fun _ => rfl, hll, h⟩ ?_
  clear h
  rintro next2 _ w ⟨g', l', rfl, hgrow, hzero, hl5, h⟩ hnext2
  have hgl : l'.length = g'.len := by have := h.own_len; rw [bcells_length] at this; omega
  refine xjoin (fun (st : Bool × Unit) w'' => st = (decide (0 < kk ∧ l'.length < place + kk), ()) ∧ w'' = w) (fun J hJ => ?_) ?_
  · by_cases h0 : 0 < kk
    · refine XIf.yes (decide_eq_true (show (kk : Int) > 0 by omega)) (xlet ((place + kk : Nat) : Int) (by dsimp only; rw [wi (by omega) (by omega)]; omega) (hJ _ _ ⟨?_, rfl⟩))
      have : (((g'.len : Nat) : Int) < ((place + kk : Nat) : Int)) ↔ (0 < kk ∧ l'.length < place + kk) := by omega
      simp only [this]
    · refine XIf.no (decide_eq_false (show ¬ (kk : Int) > 0 by omega)) (hJ _ _ ⟨?_, rfl⟩)
      simp [h0]
  rintro _ w4 ⟨rfl, rfl⟩
  by_cases hmore : 0 < kk ∧ l'.length < place + kk
  · refine XIf.yes (decide_eq_true hmore) (xappend1 (by kernel_rfl) h rfl rfl (by show g'.len + 1 ≤ _; omega) fun a g'' w5 h5 hg5 => hnext2 _ _ ⟨g'', l' ++ [0], rfl, fun h0 => ?_, fun h0 => by omega, by rw [List.length_append, List.length_singleton]; omega, ?_⟩ ?_)
    · rw [← hgrow h0, List.append_assoc, List.length_append, List.length_singleton]
      congr 1
      rw [show place + kk - l'.length = (place + kk - (l'.length + 1)) + 1 by omega, List.replicate_succ]
      rfl
    · rw [bcells_append]; exact h5
    · dsimp only; rw [hg5]; show _ - (g'.len + 1) < _; omega
  refine XIf.no (decide_eq_false hmore) ?_
  -- laying
  have hlay : over l' place (r.take kk) = layk l place (r.take kk) := by
    have hul : (r.take kk).length = kk := by rw [List.length_take]; omega
    unfold layk
    rw [hul]
    by_cases h0 : kk = 0
    · rw [if_pos h0, hzero h0, h0, List.take_zero, over_nil]
    · have := hgrow (by omega)
      rw [show place + kk - l'.length = 0 by omega, List.replicate_zero, List.append_nil] at this
      rw [if_neg h0, ← this]
  have hul : (r.take kk).length = kk := by rw [List.length_take]; omega
  have hroom : 0 < kk → place + kk ≤ l'.length := fun h0 => by omega
  refine xloop (fun (st : Int × Unit) w => ∃ j : Nat, j ≤ kk ∧ st = ((j : Int), ()) ∧ Sat W w (own 1 g' (bcells (over l' place ((r.take kk).take j))) :: DiskP d ⟨[reborn (fatesF (ps.zip xs) f0)], [], 200, -1, false, count, 1⟩ :: L))
    (fun st => ((kk : Int) - st.1).toNat) ⟨0, Nat.zero_le _, rfl, by rw [List.take_zero, over_nil]; exact h⟩ ?_
  clear h
  rintro next3 _ w ⟨j, hj, rfl, h⟩ hnext3
  by_cases hjk : j < kk
  · refine XIf.yes (decide_eq_true (show (j : Int) < (kk : Int) by omega)) (xlet ((place + j : Nat) : Int) (by dsimp only; rw [wi (by omega) (by omega)]; omega) ⟨⟨by omega, by rw [hrsz]; show (j : Int) < _; omega⟩, ?_⟩)
    obtain ⟨c, hc⟩ : ∃ c, (r.take kk)[j]? = some c := ⟨_, List.getElem?_eq_getElem (by omega)⟩
    have hc' : r[j]? = some c := by rw [List.getElem?_take_of_lt hjk] at hc; exact hc
    refine xlet (c.toNat : Int) ?_ (xput h (place + j) rfl (by show place + j < g'.len; have := hroom (by omega); omega) (by omega) fun a w5 h5 => xlet ((j + 1 : Nat) : Int) (by dsimp only; rw [wi (by omega) (by omega)]; omega) (hnext3 _ _ ⟨j + 1, hjk, rfl, ?_⟩ (by dsimp only; omega)))
    · show ((UInt8.toNat ((str r).data.toList.getD (Int.toNat (j : Int)) 0) : Nat) : Int) = _
      rw [str_toList, Int.toNat_natCast, List.getD_eq_getElem?_getD, hc']
      rfl
    · rw [over_snoc l' (r.take kk) place j c hc (by rw [hul]; exact hroom (by omega))]
      have : bcells ((over l' place ((r.take kk).take j)).set (place + j) c) = (bcells (over l' place ((r.take kk).take j))).set (place + j) (.int .u8 c.toNat) := by simp [bcells, List.map_set]
      rw [this]
      exact h5
  -- the round's end
  have hjk' : j = kk := by omega
  subst hjk'
  refine XIf.no (decide_eq_false (show ¬ (j : Int) < (j : Int) by omega)) (xlet ((place + pl : Nat) : Int) (by dsimp only; rw [wi (by omega) (by omega)]; omega) ⟨⟨by omega, by omega, by rw [hrsz]; show (pl : Int) ≤ _; omega⟩, xlet (str (r.drop pl)) (by rw [Int.toNat_natCast, Int.toNat_natCast]; exact str_drop r pl _ (by show r.length ≤ (str r).size; omega)) (xlet ((dn.length + 1 : Nat) : Int) (by dsimp only; rw [wi (by omega) (by omega)]; omega) (hnext _ _ ⟨dn ++ [⟨0, place, r.take pl⟩], fu, place + pl, r.drop pl, g', ?_, ?_, ?_, ?_, ?_⟩ ?_))⟩)
  · rw [hdn]; simp
  · rw [List.length_drop]; omega
  · rw [List.length_drop]; omega
  · simp
  · rw [fates_step dn xs ⟨0, place, r.take pl⟩ f0 hid, hl]
    have e1 : (r.take pl).length = pl := by rw [List.length_take]; omega
    show Sat W w (own 1 g' (bcells (layk l place ((r.take pl).take (keptLen xs[dn.length]? (r.take pl).length)))) :: _)
    rw [e1, hkk, List.take_take, Nat.min_eq_left hkl, ← hlay]
    rw [List.take_of_length_le (by omega)] at h
    exact h
  · show (str (r.drop pl)).size < (str r).size
    rw [str_size, str_size, List.length_drop]; omega

end
end Go.X
