/- Package strings: HasPrefix, Trim of noughts, Builder.Grow, Repeat of a nought. -/
import Derived.Test.YtmbiffmfcloepaaGreatDoorXBuild
import Derived.Test.YtmbiffmfcloepaaGreatDoorWMarks
namespace Go.X
open Go.Proofs

section
variable {W w : World} {L : List SP} {T e : TypeId}

/-! ### Prefixes -/

theorem HasPrefix_spec (s p : List UInt8) (_hs : s.length ≤ 2 ^ 62) (hp : p.length ≤ 2 ^ 62) : Ret Tryz.prog F.strings_HasPrefix [.string (str s), .string (str p)] w fun v w' => v = .bool (decide (s.take p.length = p)) ∧ w' = w := by
  refine S.strings_HasPrefix_ok _ _ _ _ (xcall_eq (u := .bool (decide (s.take p.length = p))) (S.internal_stringslite_HasPrefix_ok _ _ _ _ ?_) _ rfl ⟨rfl, rfl⟩)
  have e1 : (str s).size = s.length := str_size s
  have e2 : (str p).size = p.length := str_size p
  by_cases h : p.length ≤ s.length
  · refine xjoin0 (XIf.yes (decide_eq_true (show (((str s).size : Nat) : Int) ≥ (((str p).size : Nat) : Int) by rw [e1, e2]; omega)) ⟨by rw [e1, e2]; omega, xlet (str (s.take p.length)) (by rw [Int.toNat_natCast, e2]; exact str_take _ _) ⟨?_, rfl⟩⟩)
    rw [sEq_str]
  · refine xjoin0 (XIf.no (decide_eq_false (show ¬ (((str s).size : Nat) : Int) ≥ (((str p).size : Nat) : Int) by rw [e1, e2]; omega)) ⟨?_, rfl⟩)
    have : ¬ s.take p.length = p := fun e => by
      have := congrArg List.length e
      rw [List.length_take] at this
      omega
    simp [this]

/-! ### Trimming noughts -/

def AllZ (l : List UInt8) : Prop := ∀ b ∈ l, b = 0

theorem allZ_snoc {l : List UInt8} {b : UInt8} : AllZ (l ++ [b]) ↔ AllZ l ∧ b = 0 := by
  constructor
  · intro h; exact ⟨fun x hx => h x (by simp [hx]), h b (by simp)⟩
  · rintro ⟨h1, h2⟩ x hx
    rcases List.mem_append.1 hx with hx | hx
    · exact h1 x hx
    · simp at hx; rw [hx]; exact h2

theorem allZ_cons {l : List UInt8} {b : UInt8} : AllZ (b :: l) ↔ b = 0 ∧ AllZ l := by
  simp [AllZ]

theorem getD_str (l : List UInt8) (k : Nat) : ((List.getD (ByteArray.data (str l)).toList k 0).toNat : Int) = ((l.getD k 0).toNat : Int) := by rw [str_toList]

theorem u8_zero (b : UInt8) : (((b.toNat : Nat) : Int) == 0) = decide (b = 0) := by
  by_cases h : b = 0
  · subst h; rfl
  · have : b.toNat ≠ 0 := fun e => h (UInt8.toNat.inj (by rw [e]; rfl))
    have h2 : ((b.toNat : Nat) : Int) ≠ 0 := by omega
    rw [decide_eq_false h]
    exact beq_false_of_ne h2

theorem trimLeft_spec (l : List UInt8) (hl : l.length ≤ 2 ^ 62) : Ret Tryz.prog F.strings_trimLeftByte [.string (str l), .int .u8 0] w fun v w' => (∃ m, v = .string (str m) ∧ (m = [] ↔ AllZ l)) ∧ w' = w := by
  refine S.strings_trimLeftByte_ok _ _ _ _ ?_
  refine xloop (fun (st : ByteArray × Unit) w' => ∃ m, st = (str m, ()) ∧ (AllZ m ↔ AllZ l) ∧ m.length ≤ 2 ^ 62 ∧ w' = w) (fun st => st.1.size) ⟨l, rfl, Iff.rfl, hl, rfl⟩ ?_
  rintro next _ w' ⟨m, rfl, hm, hml, rfl⟩ hnext
  have e1 : (str m).size = m.length := str_size m
  refine xjoin (fun (st : Bool × Unit) w'' => st = (decide (m.head? = some 0), ()) ∧ w'' = w') (fun J hJ => ?_) ?_
  · cases m with
    | nil => exact XIf.no (decide_eq_false (by show ¬ (((str []).size : Nat) : Int) > 0; rw [e1]; simp)) (hJ _ _ ⟨rfl, rfl⟩)
    | cons b m =>
      refine XIf.yes (decide_eq_true (by show (((str (b :: m)).size : Nat) : Int) > 0; rw [e1, List.length_cons]; omega)) ⟨⟨by omega, by show (0 : Int) < (((str (b :: m)).size : Nat) : Int); rw [e1, List.length_cons]; omega⟩, xlet (b.toNat : Int) (getD_str (b :: m) 0) (hJ _ _ ⟨?_, rfl⟩)⟩
      rw [u8_zero]; simp
  rintro _ w'' ⟨rfl, rfl⟩
  cases m with
  | nil => exact XIf.no rfl ⟨⟨[], rfl, ⟨fun _ => hm.1 (fun x hx => by cases hx), fun _ => rfl⟩⟩, rfl⟩
  | cons b m =>
    by_cases hb : b = 0
    · subst hb
      refine XIf.yes (by simp) ⟨⟨by omega, by omega, by show (1 : Int) ≤ (((str (0 :: m)).size : Nat) : Int); rw [e1, List.length_cons]; omega⟩, xlet (str m) ?_ (hnext _ _ ⟨m, rfl, ?_, by simp only [List.length_cons] at hml; omega, rfl⟩ ?_)⟩
      · rw [Int.toNat_natCast, str_drop (0 :: m) 1 (str (0 :: m)).size (by rw [e1]; exact Nat.le_refl _)]; rfl
      · rw [← hm, allZ_cons]; simp
      · show (str m).size < (str (0 :: m)).size
        rw [e1, str_size]; simp
    · refine XIf.no (by simp [hb]) ⟨⟨b :: m, rfl, ⟨fun h => (by cases h), fun h => ?_⟩⟩, rfl⟩
      exact absurd (allZ_cons.1 (hm.2 h)).1 hb

theorem getLast_getD (m : List UInt8) (b : UInt8) : (m ++ [b]).getD m.length 0 = b := by simp [List.getD_eq_getElem?_getD]

theorem trimRight_spec (l : List UInt8) (hl : l.length ≤ 2 ^ 62) : Ret Tryz.prog F.strings_trimRightByte [.string (str l), .int .u8 0] w fun v w' => (∃ m, v = .string (str m) ∧ (AllZ m ↔ AllZ l) ∧ m.length ≤ 2 ^ 62) ∧ w' = w := by
  refine S.strings_trimRightByte_ok _ _ _ _ ?_
  refine xloop (fun (st : ByteArray × Unit) w' => ∃ m, st = (str m, ()) ∧ (AllZ m ↔ AllZ l) ∧ m.length ≤ 2 ^ 62 ∧ w' = w) (fun st => st.1.size) ⟨l, rfl, Iff.rfl, hl, rfl⟩ ?_
  rintro next _ w' ⟨m, rfl, hm, hml, rfl⟩ hnext
  have e1 : (str m).size = m.length := str_size m
  rcases List.eq_nil_or_concat m with rfl | ⟨m, b, rfl⟩
  · refine xjoin0 (XIf.no (decide_eq_false (by show ¬ (((str []).size : Nat) : Int) > 0; rw [e1]; simp)) (XIf.no rfl ⟨⟨[], rfl, hm, hml⟩, rfl⟩))
  · rw [List.concat_eq_append] at *
    have hlen : (m ++ [b]).length = m.length + 1 := by simp
    have e2 : (str (m ++ [b])).size = m.length + 1 := by rw [e1, hlen]
    refine xjoin0 (XIf.yes (decide_eq_true (by show (((str (m ++ [b])).size : Nat) : Int) > 0; rw [e2]; omega)) (xlet ((m.length : Nat) : Int) (by show IntKind.wrap .i64 ((((str (m ++ [b])).size : Nat) : Int) - 1) = _; rw [e2, wi (by omega) (by omega)]; omega) ⟨⟨by omega, by show ((m.length : Nat) : Int) < (((str (m ++ [b])).size : Nat) : Int); rw [e2]; omega⟩, xlet (b.toNat : Int) ?_ ?_⟩))
    · rw [Int.toNat_natCast, getD_str, getLast_getD]
    · rw [u8_zero]
      by_cases hb : b = 0
      · refine XIf.yes (decide_eq_true hb) (xlet ((m.length : Nat) : Int) (by show IntKind.wrap .i64 ((((str (m ++ [b])).size : Nat) : Int) - 1) = _; rw [e2, wi (by omega) (by omega)]; omega) ⟨⟨⟨by omega, by show ((m.length : Nat) : Int) ≤ (((str (m ++ [b])).size : Nat) : Int); rw [e2]; omega⟩, by omega, by omega⟩, xlet (str m) ?_ (hnext _ _ ⟨m, rfl, ?_, by omega, rfl⟩ ?_)⟩)
        · rw [Int.toNat_natCast, str_take]; simp
        · rw [← hm, allZ_snoc]; simp [hb]
        · show (str m).size < (str (m ++ [b])).size
          rw [e2, str_size]; omega
      · exact XIf.no (decide_eq_false hb) ⟨⟨m ++ [b], rfl, hm, hml⟩, rfl⟩

theorem Trim_spec (l : List UInt8) (hl : l.length ≤ 2 ^ 62) : Ret Tryz.prog F.strings_Trim [.string (str l), .string ⟨#[0]⟩] w fun v w' => ∃ m, v = .string (str m) ∧ (m = [] ↔ AllZ l) ∧ Quiet w w' := by
  refine S.strings_Trim_ok _ _ _ _ ?_
  by_cases h0 : l = []
  · subst h0
    exact xjoin0 (XIf.yes (by rw [str_empty]; rfl) (XIf.yes rfl ⟨[], rfl, ⟨fun _ x hx => (by cases hx), fun _ => rfl⟩, Quiet.refl _⟩))
  · refine xjoin0 (XIf.no (by rw [str_empty]; simpa using h0) (XIf.no (by show sEq (str [0]) ByteArray.empty = false; rw [str_empty]; rfl) (xjoin0 (XIf.yes rfl ⟨⟨by decide, by decide⟩, xlet (0 : Int) rfl (XIf.yes rfl ⟨⟨by decide, by decide⟩, xlet (0 : Int) rfl ⟨⟨by decide, by decide⟩, xlet (0 : Int) rfl ?_⟩⟩)⟩))))
    refine xcall (trimRight_spec l hl) ?_
    rintro v w1 ⟨⟨m, rfl, hm, hml⟩, rfl⟩
    refine ⟨str m, rfl, xcall (trimLeft_spec m hml) ?_⟩
    rintro v w1 ⟨⟨k, rfl, hk⟩, rfl⟩
    exact ⟨str k, rfl, k, rfl, hk.trans hm, (Quiet.refl _).drew⟩

/-! ### Growing -/

theorem makeNoZero_run (n : Nat) (hn : n ≤ 281474976710656) (he : Tryz.prog.underlying (Fn.internal_bytealg_MakeNoZero.resultTypes.getD 0 0) = some (.slice e)) (w : World) : ∃ cs : Array Value,
    (extRun Tryz.prog F.internal_bytealg_MakeNoZero ⟨[.int .i64 n]⟩).run Tryz.prog w = .ok (.slice (some ⟨w.heap.size, 0, none⟩) n cs.size) (w.drew.drew.alloc (.cells cs e)) ∧ n ≤ cs.size := by
  obtain ⟨cs, h1, h2, _⟩ := Lib.run_makeNoZero (P := Tryz.prog) w Fn.internal_bytealg_MakeNoZero.params _ e he n hn
  refine ⟨cs, ?_, h2⟩
  rw [ext_run Fu.internal_bytealg_MakeNoZero (by kernel_rfl) (by kernel_rfl) (by kernel_rfl) (e := Extern.BytealgMakeNoZero.makeNoZero Fn.internal_bytealg_MakeNoZero.params #[Fn.internal_bytealg_MakeNoZero.resultTypes.getD 0 0]) (by kernel_rfl)]
  exact h1

/-- A copy of cells to a block's beginning. -/
theorem xcopyF {P : Program} {dT sT ty : TypeId} {b n c c' : Nat} {p : Option Addr} {cs vs : List Value} {K : Int → World → Prop} (hok : okCopy P dT 1 = true) (hs : Sat W w (ptsF T b cs 0 :: L)) (hn : n ≤ cs.length) (hvs : vs.length = n) (h1 : allOne vs = true)
    (hr : ∀ a, p = some a → ∀ j v, vs[j]? = some v → w.cell? (a.add j) = some v) (hp : p = none → n = 0)
    (hk : ∀ w', Sat W w' (ptsF T b (vs ++ cs.drop n) 0 :: L) → K n w') :
    XDo P (Builtin.copy_ #[dT, sT] ty ⟨[.slice (some ⟨b, 0, none⟩) n c, .slice p n c']⟩) (.leaf (.int .i64)) w K := by
  obtain ⟨e, i, ht, hi, hi1⟩ := okCopy_spec hok
  have hst := xstoresF (W := W) (L := L) (T := T) (b := b) (o := 0) (k := 0) (K := fun w' => Sat W w' (ptsF T b (splice cs 0 vs) 0 :: L)) vs 0 w _ hs (Nat.le_refl _) (by omega) (fun w' h => by simpa using h)
  obtain ⟨w', hrun, hw⟩ := run_stores (P := P) vs 0 w h1 hst
  have hsp : splice cs 0 vs = vs ++ cs.drop n := by simp [splice, hvs]
  rw [hsp] at hw
  have hf : (Builtin.firstCells 1 n (.slice p n c')).run P w = .ok ⟨vs⟩ w :=
    run_first (P := P) (sz := 1) (n := n) (s := ⟨p, n, c'⟩) (vs := vs) hr (by omega) (fun h => List.eq_nil_of_length_eq_zero (by rw [hvs]; exact hp h)) n c'
  refine ⟨(n : Int), w', ?_, hk w' hw⟩
  simp [Builtin.copy_, run_underlying ht, run_size' hi, hi1, Builtin.lenOf, hf, hrun, goInt, Ty.mk, Leaf.mk]

/-- A builder that was never written gets room. -/
theorem Grow_spec (hB : BTypes T e) {b n : Nat} (hs : Sat W w (ptsF T b [.pointer none, .slice none 0 0] 0 :: L)) (hn : 0 < n) (hsz : n ≤ 2 ^ 44) :
    Ret Tryz.prog F.strings_Builder_Grow [ptr b, .int .i64 n] w fun v w' => v = .tuple ⟨[]⟩ ∧ Sat W w' (BuildP T e b [] :: L) := by
  refine S.strings_Builder_Grow_ok _ _ _ _ (xcalls (copyCheckG (u := false) (g := ⟨none, 0, 0⟩) hB hs) ?_)
  rintro v w1 ⟨rfl, h⟩
  have hd := h.drew
  refine ⟨(), rfl, xjoin0 (XIf.no (decide_eq_false (show ¬ (n : Int) < 0 by omega)) (xnil (xloadF hd 1 rfl rfl (xnil (xloadF hd 1 rfl rfl (xlet (0 : Int) (wi (by decide) (by decide)) (XIf.yes (decide_eq_true (show (0 : Int) < (n : Int) by omega)) ?_)))))))⟩
  refine xcalls (Q := fun v w' => v = .tuple ⟨[]⟩ ∧ Sat W w' (BuildP T e b [] :: L)) ?_ (fun v w' ⟨h1, h2⟩ => ⟨(), h1, rfl, h2⟩)
  have hd2 := hd.drew
  refine S.strings_Builder_grow_ok _ _ _ _ (xnil (xloadF hd2 1 rfl rfl (xlet (0 : Int) (wi (by decide) (by decide)) (xlet (n : Int) (by rw [wi (by omega) (by omega)]; omega) (xnil (xloadF hd2 1 rfl rfl ?_))))))
  obtain ⟨cs, hr, hcs⟩ := makeNoZero_run (e := e) n (by omega) (by rw [hB.byte]; kernel_rfl) w1.drew.drew
  refine ⟨⟨some ⟨w1.drew.drew.heap.size, 0, none⟩, n, cs.size⟩, _, hr, ?_⟩
  have h3 : Sat W (w1.drew.drew.drew.drew.alloc (.cells cs e)) (ptsF e w1.drew.drew.heap.size cs.toList 0 :: _) := (hd2.drew.drew).new_blockF (cs := cs.toList) (T := e)
  refine ⟨(h3.bring 1).cellF rfl, (h3.bring 1).cellF rfl, ⟨⟨by omega, by show ((0 : Nat) : Int) ≤ ((cs.size : Nat) : Int); omega⟩, by omega, by omega⟩, xlet (⟨some ⟨w1.drew.drew.heap.size, 0, none⟩, 0, cs.size⟩ : Sl) ?_ (xnil (xloadF (h3.bring 1) 1 rfl rfl ?_))⟩
  · have hne : ¬ cs.size = 0 := by omega
    show (⟨if cs.size = 0 then _ else Option.map _ (some _), _, _⟩ : Sl) = _
    rw [if_neg hne]
    simp [Addr.add_mk]
  refine xcopyF (n := 0) (vs := []) (by kernel_rfl) h3 (Nat.zero_le _) rfl rfl (fun a ha => by cases ha) (fun _ => rfl) fun w4 h4 => xnil (xstoreF (h4.bring 1) 1 rfl (by simp) (Nat.zero_le _) fun w5 h5 => ⟨rfl, ?_⟩)
  refine BuildP.shut true (g := ⟨some ⟨w1.drew.drew.heap.size, 0, none⟩, 0, cs.size⟩) ?_
  refine (Sat.buf_shut (e := e) (g := ⟨some ⟨w1.drew.drew.heap.size, 0, none⟩, 0, cs.size⟩) (bs := []) (rest := cs.toList) rfl rfl ⟨by simp, by show 0 < cs.size; omega⟩ ?_).swap
  exact h5.swap

/-! ### Repeating -/

/-- A loop: what holds at each round's head, with a number that falls. -/
theorem xloopN {α : Type} {body : (α → World → Prop) → α → World → Prop} (I : Nat → α → World → Prop) {s : α} (m : Nat) (h0 : I m s w)
    (hr : ∀ next m s w, I m s w → (∀ m' s' w', m' < m → I m' s' w' → next s' w') → body next s w) : XLoop body s w := by
  have key : ∀ n m s w, m < n → I m s w → iterL body n s w := by
    intro n
    induction n with
    | zero => intro m s w h _; omega
    | succ n ih =>
      intro m s w h hi
      exact hr _ m s w hi fun m' s' w' hlt hi' => ih m' s' w' (by omega) hi'
  exact ⟨m + 1, key _ m s w (Nat.lt_succ_self _) h0⟩

theorem xnewRaw {T' : TypeId} {cs : List Value} {K : Addr → World → Prop} (hT : T' = T) (hs : Sat W w L) (hk : ∀ b w', Sat W w' (ptsF T b cs 0 :: L) → K ⟨b, 0, none⟩ w') : XNew T' cs w K := by
  subst hT
  exact xnewT hs hk

theorem and32 (n : Nat) (h : n < 2 ^ 64) : ibits .and .u64 (n : Int) 4294967295 = ((n % 2 ^ 32 : Nat) : Int) := by
  show IntKind.wrap .u64 ((BitVec.ofInt 64 (n : Int) &&& BitVec.ofInt 64 4294967295).toNat : Int) = _
  have h1 : (BitVec.ofInt 64 (n : Int)).toNat = n := by
    rw [BitVec.toNat_ofInt]; omega
  have h2 : (BitVec.ofInt 64 4294967295).toNat = 2 ^ 32 - 1 := by decide
  rw [BitVec.toNat_and, h1, h2, Nat.and_two_pow_sub_one_eq_mod, wu (by omega) (by omega)]

theorem shr32 (n : Nat) : ishr .u64 (n : Int) 32 = ((n / 2 ^ 32 : Nat) : Int) := by
  unfold ishr
  rw [show (32 : Int).toNat = 32 from rfl, show IntKind.bits .u64 = 64 from rfl, show min 32 64 = 32 from rfl]
  rw [Int.fdiv_eq_ediv_of_nonneg _ (by decide)]
  omega

/-- One times a number. -/
theorem Mul1_spec (n : Nat) (hn : n ≤ 2 ^ 44) : Ret Tryz.prog F.math_bits_Mul [.int .u64 1, .int .u64 n] w fun v w' => v = .tuple ⟨[.int .u64 0, .int .u64 n]⟩ ∧ w' = w := by
  refine S.math_bits_Mul_ok _ _ _ _ (xcalls_eq (u := .tuple ⟨[.int .u64 0, .int .u64 n]⟩) (S.math_bits_Mul64_ok _ _ _ _ ?_) (0, (n : Int), ()) rfl ⟨rfl, rfl⟩)
  have hq : n / 2 ^ 32 < 2 ^ 32 := by omega
  refine xlet (1 : Int) (and32 1 (by decide)) ⟨by decide, xlet (0 : Int) (shr32 1) (xlet ((n % 2 ^ 32 : Nat) : Int) (and32 n (by omega)) ⟨by decide, xlet ((n / 2 ^ 32 : Nat) : Int) (shr32 n) ?_⟩)⟩
  refine xlet ((n % 2 ^ 32 : Nat) : Int) (by rw [wu (by omega) (by omega)]; omega) (xlet (0 : Int) (by rw [Int.zero_mul, wu (by decide) (by decide)]) ⟨by decide, xlet (0 : Int) (by rw [shr32]; omega) (xlet (0 : Int) (wu (by decide) (by decide)) (xlet (0 : Int) (and32 0 (by decide)) ⟨by decide, xlet (0 : Int) (shr32 0) ?_⟩))⟩)
  refine xlet ((n / 2 ^ 32 : Nat) : Int) (by rw [wu (by omega) (by omega)]; omega) (xlet ((n / 2 ^ 32 : Nat) : Int) (by rw [wu (by omega) (by omega)]; omega) (xlet (0 : Int) (by rw [Int.zero_mul, wu (by decide) (by decide)]) (xlet (0 : Int) (wu (by decide) (by decide)) ⟨by decide, xlet (0 : Int) (by rw [shr32]; omega) (xlet (0 : Int) (wu (by decide) (by decide)) (xlet (n : Int) (by rw [wu (by omega) (by omega)]; omega) ⟨rfl, rfl⟩))⟩)))

theorem Repeat_spec (n : Nat) (hn : n ≤ 2 ^ 40) (hs : Sat W w L) : Ret Tryz.prog F.strings_Repeat [.string ⟨#[0]⟩, .int .i64 n] w fun v w' => v = .string (str (List.replicate n 0)) ∧ Sat W w' L := by
  suffices H : ∀ K : Value → World → Prop, (∀ w', Sat W w' L → K (.string (str (List.replicate n 0))) w') → S.strings_Repeat ⟨#[0]⟩ n K w from S.strings_Repeat_ok _ _ _ _ (H _ fun _ h => ⟨rfl, h⟩)
  intro K hK
  have sz1 : ByteArray.size (⟨#[0]⟩ : ByteArray) = 1 := rfl
  by_cases h0 : n = 0
  · subst h0; exact XIf.yes rfl (hK w hs)
  refine XIf.no (by simpa using h0) ?_
  by_cases h1 : n = 1
  · subst h1; exact XIf.yes rfl (hK w hs)
  refine XIf.no (by have : ¬ (n : Int) = 1 := by omega
                    simpa using this) (xjoin0 (XIf.no (decide_eq_false (show ¬ (n : Int) < 0 by omega)) ?_))
  refine xlet (1 : Int) (wu (by decide) (by decide)) (xlet (n : Int) (wu (by omega) (by omega)) (xcalls_eq (Mul1_spec n (by omega)) (0, (n : Int), ()) rfl (xjoin0 (xjoin0 (XIf.no rfl (XIf.no (decide_eq_false (show ¬ (n : Int) > 9223372036854775807 by omega)) ?_))))))
  refine xlet (n : Int) (by show IntKind.wrap .i64 (n : Int) = _; exact wi (by omega) (by omega)) (XIf.no rfl (xjoin0 ⟨⟨by decide, by decide⟩, xlet (0 : Int) rfl (xjoin0 (XIf.no rfl (XIf.no rfl (XIf.no rfl (XIf.no rfl (XIf.no rfl ?_))))))⟩))
  refine xjoin (fun (st : Int × Unit) w' => ∃ c : Nat, st = ((c : Int), ()) ∧ 1 ≤ c ∧ w' = w) (fun J hJ => ?_) ?_
  · by_cases hbig : (n : Int) > 8192
    · exact XIf.yes (decide_eq_true hbig) ⟨by decide, xlet (8192 : Int) rfl (xlet (8192 : Int) rfl (XIf.no rfl (hJ _ _ ⟨8192, rfl, by decide, rfl⟩)))⟩
    · exact XIf.no (decide_eq_false hbig) (hJ _ _ ⟨n, rfl, by omega, rfl⟩)
  rintro _ w' ⟨c, rfl, hc, rfl⟩
  obtain ⟨T, e, hB⟩ := btypes
  refine xnewRaw (T := T) (by rw [hB.builder]; kernel_rfl) hs fun b w1 hb => xcalls (Grow_spec hB hb (by omega) (by omega)) ?_
  rintro v w2 ⟨rfl, h2⟩
  refine ⟨(), rfl, xcalls (WriteString_spec hB h2 (by rw [sz1]; simp)) ?_⟩
  rintro v w3 ⟨rfl, h3⟩
  refine ⟨((1 : Nat), .nilIface, ()), rfl, ?_⟩
  refine xloopN (fun m (_ : Unit) w => ∃ q : Nat, m = n - q ∧ 1 ≤ q ∧ q ≤ n ∧ Sat W w (BuildP T e b (List.replicate q 0) :: L)) (n - 1) ⟨1, rfl, by omega, by omega, h3⟩ ?_
  clear h2 h3 hb
  rintro next m _ w ⟨q, rfl, hq1, hqn, h⟩ hnext
  have hlen : (List.replicate q (0 : UInt8)).length = q := List.length_replicate
  refine xcall_eq (Len_spec h) (q : Int) (by rw [hlen]; rfl) ?_
  by_cases hlt : q < n
  · refine XIf.yes (decide_eq_true (show (q : Int) < (n : Int) by omega)) (xcall_eq (Len_spec h) (q : Int) (by rw [hlen]; rfl) (xlet ((n - q : Nat) : Int) (by rw [wi (by omega) (by omega)]; omega) (xcall_eq (Len_spec h) (q : Int) (by rw [hlen]; rfl) ?_)))
    obtain ⟨k, hk⟩ : ∃ k, min (min (n - q) q) c = k := ⟨_, rfl⟩
    refine xlet (k : Int) ?_ (xcall (String_spec hB h (by rw [hlen]; omega)) ?_)
    · show (if (c : Int) < (if (q : Int) < ((n - q : Nat) : Int) then (q : Int) else ((n - q : Nat) : Int)) then (c : Int) else (if (q : Int) < ((n - q : Nat) : Int) then (q : Int) else ((n - q : Nat) : Int))) = _
      by_cases h1 : (q : Int) < ((n - q : Nat) : Int)
      · rw [if_pos h1]
        by_cases h2 : (c : Int) < (q : Int)
        · rw [if_pos h2]; omega
        · rw [if_neg h2]; omega
      · rw [if_neg h1]
        by_cases h2 : (c : Int) < ((n - q : Nat) : Int)
        · rw [if_pos h2]; omega
        · rw [if_neg h2]; omega
    rintro v w4 ⟨rfl, h4⟩
    have e1 : (str (List.replicate q (0 : UInt8))).size = q := by rw [str_size, hlen]
    refine ⟨_, rfl, ⟨⟨by omega, by show (k : Int) ≤ (((str (List.replicate q (0 : UInt8))).size : Nat) : Int); rw [e1]; omega⟩, by omega, by omega⟩, xlet (str (List.replicate k 0)) ?_ (xcalls (WriteString_spec hB h4 (by rw [hlen, str_size, List.length_replicate]; omega)) ?_)⟩
    · rw [Int.toNat_natCast, str_take, List.take_replicate, Nat.min_eq_left (by omega)]
    rintro v w5 ⟨rfl, h5⟩
    refine ⟨(((str (List.replicate k (0 : UInt8))).size : Int), .nilIface, ()), rfl, hnext (n - (q + k)) () w5 (by omega) ⟨q + k, rfl, by omega, by omega, ?_⟩⟩
    rw [str_toList, ← List.replicate_append_replicate] at *
    exact h5
  · have : q = n := by omega
    subst this
    refine XIf.no (decide_eq_false (show ¬ (q : Int) < (q : Int) by omega)) (xcall (String_spec hB h (by rw [hlen]; omega)) ?_)
    rintro v w4 ⟨rfl, h4⟩
    exact ⟨_, rfl, hK w4 h4.drop⟩

end
end Go.X
