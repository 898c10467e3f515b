/- Books that number texts. -/
import Derived.Test.YtmbiffmfcloepaaGreatDoorXMaps
import Derived.Test.YtmbiffmfcloepaaGreatDoorDFit
namespace Go.X
open Go.Proofs

/-! ### Plain -/

/-- The texts of a book, in the order in which they were numbered. -/
abbrev Bk := List (List UInt8)

def numAt (s : List UInt8) : Nat → Bk → Option Nat
  | _, [] => none
  | i, t :: M => if t = s then some (i + 1) else numAt s (i + 1) M

/-- A text's number. -/
def numOf (s : List UInt8) (M : Bk) : Option Nat := numAt s 0 M

/-- A number as a mark. -/
def markN (n : Nat) : List UInt8 := (List.range 32).map fun i => UInt8.ofNat (n / 2 ^ (8 * (i % 8)))

def Bk.mark (M : Bk) (s : List UInt8) : List UInt8 := markN ((numOf s M).getD (M.length + 1))
def Bk.add (M : Bk) (s : List UInt8) : Bk := match numOf s M with
  | some _ => M
  | none => M ++ [s]
def Bk.is (M : Bk) (s m : List UInt8) : Bool := match numOf s M with
  | some n => decide (markN n = m)
  | none => false

theorem markN_length (n : Nat) : (markN n).length = 32 := by simp [markN]

theorem numAt_append (s : List UInt8) : ∀ (M X : Bk) (i : Nat), numAt s i (M ++ X) = match numAt s i M with
    | some n => some n
    | none => numAt s (i + M.length) X
  | [], X, i => by simp [numAt]
  | t :: M, X, i => by
    simp only [List.cons_append, numAt]
    by_cases h : t = s
    · rw [if_pos h, if_pos h]
    · rw [if_neg h, if_neg h, numAt_append s M X (i + 1)]
      rw [show i + 1 + M.length = i + (t :: M).length by simp; omega]

theorem numAt_some {s : List UInt8} : ∀ {M : Bk} {i n : Nat}, numAt s i M = some n → i < n ∧ n ≤ i + M.length ∧ M[n - i - 1]? = some s
  | [], i, n, h => by cases h
  | t :: M, i, n, h => by
    unfold numAt at h
    by_cases ht : t = s
    · rw [if_pos ht] at h
      cases h
      exact ⟨by omega, by simp, by rw [show i + 1 - i - 1 = 0 by omega]; simp [ht]⟩
    · rw [if_neg ht] at h
      obtain ⟨h1, h2, h3⟩ := numAt_some h
      refine ⟨by omega, by simp only [List.length_cons]; omega, ?_⟩
      rw [show n - i - 1 = (n - (i + 1) - 1) + 1 by omega]
      simpa using h3

theorem numOf_some {s : List UInt8} {M : Bk} {n : Nat} (h : numOf s M = some n) : 1 ≤ n ∧ n ≤ M.length ∧ M[n - 1]? = some s := by
  obtain ⟨h1, h2, h3⟩ := numAt_some h
  exact ⟨by omega, by omega, by simpa using h3⟩

/-- A number tells its text. -/
theorem numOf_inj {s t : List UInt8} {M : Bk} {n : Nat} (h : numOf s M = some n) (k : numOf t M = some n) : s = t := by
  have h1 := (numOf_some h).2.2
  rw [(numOf_some k).2.2] at h1
  exact (Option.some.inj h1).symm

theorem numOf_append {s : List UInt8} {M : Bk} {n : Nat} (h : numOf s M = some n) (X : Bk) : numOf s (M ++ X) = some n := by
  unfold numOf at *
  rw [numAt_append, h]

theorem numOf_new {s : List UInt8} {M : Bk} (h : numOf s M = none) : numOf s (M ++ [s]) = some (M.length + 1) := by
  unfold numOf at *
  rw [numAt_append, h]
  simp [numAt]

theorem Bk.add_num (M : Bk) (s : List UInt8) : ∃ n, numOf s (M.add s) = some n ∧ M.mark s = markN n := by
  unfold Bk.add Bk.mark
  cases h : numOf s M with
  | some n => exact ⟨n, h, rfl⟩
  | none => exact ⟨M.length + 1, numOf_new h, rfl⟩

theorem Bk.add_more (M : Bk) (s : List UInt8) : ∃ X, M.add s = M ++ X ∧ X.length ≤ 1 := by
  unfold Bk.add
  cases h : numOf s M with
  | some n => exact ⟨[], by simp, by simp⟩
  | none => exact ⟨[s], rfl, by simp⟩

def entsM : Nat → Bk → List (ByteArray × Int)
  | _, [] => []
  | i, t :: M => (str t, ((i + 1 : Nat) : Int)) :: entsM (i + 1) M

theorem str_inj {a b : List UInt8} (h : str a = str b) : a = b := by
  have := congrArg (fun x => x.data.toList) h
  simpa [str_toList] using this

theorem findE_num (s : List UInt8) : ∀ (M : Bk) (i : Nat), findE (str s) (entsM i M) = (numAt s i M).map fun n => (n : Int)
  | [], _ => rfl
  | t :: M, i => by
    unfold entsM findE numAt
    by_cases h : t = s
    · rw [if_pos (by rw [h]), if_pos h]; rfl
    · rw [if_neg (fun e => h (str_inj e)), if_neg h]
      exact findE_num s M (i + 1)

theorem entsM_append : ∀ (M X : Bk) (i : Nat), entsM i (M ++ X) = entsM i M ++ entsM (i + M.length) X
  | [], X, i => by simp [entsM]
  | t :: M, X, i => by
    simp only [List.cons_append, entsM, List.length_cons]
    rw [entsM_append M X (i + 1), show i + 1 + M.length = i + (M.length + 1) by omega]

theorem entsM_length : ∀ (M : Bk) (i : Nat), (entsM i M).length = M.length
  | [], _ => rfl
  | _ :: M, i => by simp [entsM, entsM_length M]

/-! ### Numbers -/

theorem ishr_nat (n k : Nat) (hk : k ≤ 64) : ishr .i64 (n : Int) (k : Int) = ((n / 2 ^ k : Nat) : Int) := by
  unfold ishr
  rw [Int.toNat_natCast, show IntKind.bits .i64 = 64 from rfl, Nat.min_eq_left hk]
  have : ((2 : Int) ^ k) = ((2 ^ k : Nat) : Int) := by simp
  rw [this, Int.fdiv_eq_ediv_of_nonneg _ (Int.natCast_nonneg _)]
  exact (Int.natCast_ediv _ _).symm

theorem wiN (m : Nat) (h : m ≤ 2 ^ 62) : IntKind.wrap .i64 (m : Int) = m := wi (by omega) (by omega)

theorem wrapu8 (n : Nat) : IntKind.wrap .u8 (n : Int) = ((n % 256 : Nat) : Int) := by
  unfold IntKind.wrap
  have hb : IntKind.bits .u8 = 8 := rfl
  have hs : IntKind.signed .u8 = false := rfl
  simp only [hb, hs, Bool.false_and, Bool.false_eq_true, if_false]
  omega

theorem u8_toNat (n : Nat) : ((UInt8.ofNat n).toNat : Int) = ((n % 256 : Nat) : Int) := by
  rw [UInt8.toNat_ofNat']

section
variable {W w : World} {L : List SP}

theorem numbered_spec (n : Nat) (hs : Sat W w L) : Ret Tryz.prog F.marks_numbered [.int .i64 n] w fun v w' => v = .string (str (markN n)) ∧ Sat W w' L := by
  refine S.marks_numbered_ok _ _ _ (xmakeB (m := 32) (by kernel_rfl) hs rfl (by decide) fun s w1 hsl h => ?_)
  refine xloop (fun (st : Int × Unit) w => ∃ i : Nat, st = ((i : Int), ()) ∧ i ≤ 32 ∧ Sat W w (own 1 s (bcells ((markN n).take i ++ List.replicate (32 - i) 0)) :: L)) (fun st => (32 - st.1).toNat)
    ⟨0, rfl, by omega, by simpa using h⟩ ?_
  clear h
  rintro next _ w ⟨i, rfl, hi, h⟩ hnext
  by_cases hlt : i < 32
  · have hm : (i : Int).tmod 8 = ((i % 8 : Nat) : Int) := by rw [Int.tmod_eq_emod_of_nonneg (by omega)]; omega
    have hget : (markN n)[i]? = some (UInt8.ofNat (n / 2 ^ (8 * (i % 8)))) := by simp [markN, hlt]
    refine XIf.yes (decide_eq_true (show (i : Int) < (s.len : Int) by omega)) ⟨by decide, xlet ((i % 8 : Nat) : Int) hm (xlet ((8 * (i % 8) : Nat) : Int) (by rw [wi (by omega) (by omega)]; omega) ⟨by omega, xlet ((n / 2 ^ (8 * (i % 8)) : Nat) : Int) (ishr_nat _ _ (by omega)) (xlet ((UInt8.ofNat (n / 2 ^ (8 * (i % 8)))).toNat : Int) (by rw [wrapu8, u8_toNat]) ?_)⟩)⟩
    refine xput h i rfl (by (try dsimp only); omega) (by show Int.toNat _ * 1 = _; simp) fun a w' h' => xlet ((i + 1 : Nat) : Int) (by dsimp only; rw [wi (by omega) (by omega)]; omega) (hnext _ _ ⟨i + 1, rfl, by omega, ?_⟩ (by dsimp only; omega))
    rw [bcells_set] at h'
    have e : ((markN n).take i ++ List.replicate (32 - i) 0).set i (UInt8.ofNat (n / 2 ^ (8 * (i % 8)))) = (markN n).take (i + 1) ++ List.replicate (32 - (i + 1)) 0 := by
      have hl : ((markN n).take i).length = i := by rw [List.length_take, markN_length]; omega
      rw [List.set_append_right _ _ (by omega), hl, Nat.sub_self, show 32 - i = (32 - (i + 1)) + 1 by omega, List.replicate_succ, List.set_cons_zero, List.take_add_one, hget]
      simp
    rw [e] at h'
    exact h'
  · have hi32 : i = 32 := by omega
    subst hi32
    have e : (markN n).take 32 ++ List.replicate (32 - 32) 0 = markN n := by simp [List.take_of_length_le, markN_length]
    rw [e] at h
    refine XIf.no (decide_eq_false (show ¬ ((32 : Nat) : Int) < (s.len : Int) by omega)) (xbytes (k := 0) (l := markN n) h (fun b hb _ => hb) (fun h => h) (by rw [markN_length]; omega) (fun _ => rfl) ?_)
    rw [List.drop_zero, List.take_of_length_le (by rw [markN_length]; omega)]
    exact ⟨rfl, h.drop⟩

/-- A book in memory. -/
def BookP (b : Nat) (M : Bk) : SP := ex fun (r : Nat) => all [pts b (List.replicate 72 (.int .u32 0) ++ [.bool false, .map (some r), .bool true]), MapP r (entsM 0 M)]

theorem BookP.open {b : Nat} {M : Bk} (hs : Sat W w (BookP b M :: L)) : ∃ r, Sat W w (pts b (List.replicate 72 (.int .u32 0) ++ [.bool false, .map (some r), .bool true]) :: MapP r (entsM 0 M) :: L) := by
  obtain ⟨r, h⟩ := hs.open_ex
  exact ⟨r, h.open_all⟩

theorem BookP.shut {b r : Nat} {M : Bk} (hs : Sat W w (pts b (List.replicate 72 (.int .u32 0) ++ [.bool false, .map (some r), .bool true]) :: MapP r (entsM 0 M) :: L)) : Sat W w (BookP b M :: L) :=
  Sat.shut_ex r (Sat.shut_all (As := [_, _]) hs)

theorem Ideal_spec (hs : Sat W w L) : Ret Tryz.prog F.marks_Ideal [] w fun v w' => ∃ b, v = ptr b ∧ Sat W w' (BookP b [] :: L) := by
  refine S.marks_Ideal_ok _ _ (xmakeMap hs fun r w1 h => xnew h fun b w2 h => ⟨b, rfl, BookP.shut h⟩)

theorem none_nil : Ret Tryz.prog F.marks_Book_none [.pointer none] w fun v w' => v = .bool true ∧ w' = w :=
  S.marks_Book_none_ok _ _ _ (xjoin0 (XIf.yes rfl ⟨rfl, rfl⟩))

theorem none_spec {b : Nat} {M : Bk} (hs : Sat W w (BookP b M :: L)) : Ret Tryz.prog F.marks_Book_none [ptr b] w fun v w' => v = .bool false ∧ w' = w := by
  obtain ⟨r, h⟩ := BookP.open hs
  exact S.marks_Book_none_ok _ _ _ (xjoin0 (XIf.no rfl (xnil (xload h 72 rfl rfl (XIf.yes rfl (xnil (xload h 74 rfl rfl ⟨rfl, rfl⟩)))))))

theorem Ready_spec {b : Nat} {M : Bk} (hs : Sat W w (BookP b M :: L)) : Ret Tryz.prog F.marks_Book_Ready [ptr b] w fun v w' => v = .bool true ∧ w' = w :=
  S.marks_Book_Ready_ok _ _ _ (xcall_eq (none_spec hs) false rfl ⟨rfl, rfl⟩)

theorem Ready_nil : Ret Tryz.prog F.marks_Book_Ready [.pointer none] w fun v w' => v = .bool false ∧ w' = w :=
  S.marks_Book_Ready_ok _ _ _ (xcall_eq none_nil true rfl ⟨rfl, rfl⟩)

theorem Mark_spec {b : Nat} {M : Bk} (s : List UInt8) (hs : Sat W w (BookP b M :: L)) (hM : M.length ≤ 2 ^ 40) :
    Ret Tryz.prog F.marks_Book_Mark [ptr b, .string (str s)] w fun v w' => v = .string (str (M.mark s)) ∧ Sat W w' (BookP b (M.add s) :: L) := by
  refine S.marks_Book_Mark_ok _ _ _ _ (xcall_eq (none_spec hs) false rfl (XIf.no rfl (xnil ?_)))
  obtain ⟨r, h⟩ := BookP.open hs
  refine xload h 72 rfl rfl (XIf.no rfl (xnil (xload h 73 rfl rfl (xlookup (by kernel_rfl) (h.bring 1) ?_))))
  rw [findE_num]
  refine xjoin (fun (st : Int × Unit) w' => ∃ n : Nat, st = ((n : Int), ()) ∧ M.mark s = markN n ∧ Sat W w' (BookP b (M.add s) :: L)) (fun J hJ => ?_) ?_
  · cases hn : numOf s M with
    | some n =>
      have hn' : numAt s 0 M = some n := hn
      rw [hn']
      refine XIf.no rfl (hJ _ _ ⟨n, rfl, by unfold Bk.mark; rw [hn]; rfl, ?_⟩)
      have : M.add s = M := by unfold Bk.add; rw [hn]
      rw [this]
      exact BookP.shut h
    | none =>
      have hn' : numAt s 0 M = none := hn
      rw [hn']
      have hno : findE (str s) (entsM 0 M) = none := by rw [findE_num, hn']; rfl
      refine XIf.yes rfl (xnil (xload h 73 rfl rfl (xmapLen (by kernel_rfl) (h.bring 1) (xlet ((M.length + 1 : Nat) : Int) (by rw [entsM_length, wi (by omega) (by omega)]; omega) (xnil (xload h 73 rfl rfl (xmapNew (by kernel_rfl) (h.bring 1) hno fun w' h' => hJ _ _ ⟨M.length + 1, rfl, by unfold Bk.mark; rw [hn]; rfl, ?_⟩)))))))
      have : M.add s = M ++ [s] := by unfold Bk.add; rw [hn]
      rw [this]
      refine BookP.shut (r := r) ?_
      rw [entsM_append]
      simp only [entsM, Nat.zero_add]
      exact h'.swap
  · rintro _ w' ⟨n, rfl, hm, h'⟩
    rw [hm]
    exact xcall (numbered_spec n h') fun v w'' ⟨e, h''⟩ => ⟨_, e, rfl, h''⟩

theorem Is_spec {b : Nat} {M : Bk} (s m : List UInt8) (hs : Sat W w (BookP b M :: L)) :
    Ret Tryz.prog F.marks_Book_Is [ptr b, .string (str s), .string (str m)] w fun v w' => v = .bool (M.is s m) ∧ Sat W w' (BookP b M :: L) := by
  refine S.marks_Book_Is_ok _ _ _ _ _ (xcall_eq (none_spec hs) false rfl (XIf.no rfl (xnil ?_)))
  obtain ⟨r, h⟩ := BookP.open hs
  refine xload h 72 rfl rfl (XIf.no rfl (xnil (xload h 73 rfl rfl (xlookup (by kernel_rfl) (h.bring 1) ?_))))
  rw [findE_num]
  unfold Bk.is
  cases hn : numOf s M with
  | some n =>
    have hn' : numAt s 0 M = some n := hn
    rw [hn']
    refine xjoin0 (XIf.yes rfl (xcall (numbered_spec n hs) fun v w'' ⟨e, h''⟩ => ⟨_, e, ?_, h''⟩))
    rw [sEq_str]
  | none =>
    have hn' : numAt s 0 M = none := hn
    rw [hn']
    exact xjoin0 (XIf.no rfl ⟨rfl, hs⟩)

end
end Go.X
