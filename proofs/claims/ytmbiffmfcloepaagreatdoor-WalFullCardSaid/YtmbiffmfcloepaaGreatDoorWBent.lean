/- A byte of a segment is changed: what is read of it. -/
import Derived.Test.YtmbiffmfcloepaaGreatDoorWStart
namespace Go.X

theorem mark_inj {k n : Nat} (hk : k < 65536) (hn : n < 65536) (h : markN k = markN n) : k = n := by
  have h0 : (markN k).getD 0 0 = (markN n).getD 0 0 := by rw [h]
  have h1 : (markN k).getD 1 0 = (markN n).getD 1 0 := by rw [h]
  rw [get_mark _ _ (by decide), get_mark _ _ (by decide), show 0 % 8 = 0 from rfl] at h0
  rw [get_mark _ _ (by decide), get_mark _ _ (by decide), show 1 % 8 = 1 from rfl] at h1
  have b0 := u8_eq h0
  have b1 := u8_eq h1
  omega

theorem four_inj {a b : List UInt8} (ha : a.length = 4) (hb : b.length = 4) (h : val4 a = val4 b) : a = b := by
  refine ext_get (by omega) fun i => ?_
  rw [get_val4, get_val4] at h
  have l0 := (a.getD 0 0).toNat_lt
  have l1 := (a.getD 1 0).toNat_lt
  have l2 := (a.getD 2 0).toNat_lt
  have l3 := (a.getD 3 0).toNat_lt
  have m0 := (b.getD 0 0).toNat_lt
  have m1 := (b.getD 1 0).toNat_lt
  have m2 := (b.getD 2 0).toNat_lt
  have m3 := (b.getD 3 0).toNat_lt
  match i with
  | 0 => exact u8_ext (by omega)
  | 1 => exact u8_ext (by omega)
  | 2 => exact u8_ext (by omega)
  | 3 => exact u8_ext (by omega)
  | n + 4 => rw [get_past (by omega), get_past (by omega)]

/-- A record with a byte changed is that record, unchanged, or none. -/
theorem next_bent {M : Bk} {C m s s' m' : List UInt8} {r k j : Nat} (hC : ∀ i, i < 36 + s.length → r + i ≠ j → C.getD (r + i) 0 = (recK k s).getD i 0) (hl : r + (36 + s.length) ≤ C.length) (hk : numOf (m ++ s) M = some k)
    (hsl : s.length ≤ 1048833) (hM : M.length < 65536) (hn : nextB M C r m = some (s', m')) : s' = s ∧ m' = markN k ∧ (C.drop r).take (36 + s.length) = recK k s := by
  obtain ⟨h1, h2, h3, h4, h5, n, h6, h7⟩ := nextB_tells hn
  have hrl := recK_length k s
  have hml := markN_length k
  have hk16 : k < 65536 := by have := (numOf_some hk).2.1; omega
  have hn16 : n < 65536 := by have := (numOf_some h6).2.1; omega
  have g4 : ∀ i, i < 4 → (recK k s).getD i 0 = (four s.length).getD i 0 := fun i hi => by
    unfold recK
    rw [List.append_assoc, get_append, if_pos (by rw [four_length]; omega)]
  have g32 : ∀ i, i < 32 → (recK k s).getD (4 + i) 0 = (markN k).getD i 0 := fun i hi => by
    unfold recK
    rw [List.append_assoc, get_append, if_neg (by rw [four_length]; omega), four_length, get_append, hml, if_pos (by omega)]
    congr 1
    omega
  have gs : ∀ i, i < s.length → (recK k s).getD (36 + i) 0 = s.getD i 0 := fun i hi => by
    unfold recK
    rw [List.append_assoc, get_append, if_neg (by rw [four_length]; omega), four_length, get_append, hml, if_neg (by omega)]
    congr 1
    omega
  have c4 : ¬ (r ≤ j ∧ j < r + 4) → (C.drop r).take 4 = four s.length := fun hj => by
    refine ext_get (by rw [List.length_take, List.length_drop, four_length]; omega) fun i => ?_
    by_cases hi : i < 4
    · rw [get_take, if_pos hi, get_drop, hC i (by omega) (by omega), g4 i hi]
    · rw [get_past (by rw [List.length_take]; omega), get_past (by rw [four_length]; omega)]
  have c32 : ¬ (r + 4 ≤ j ∧ j < r + 36) → (C.drop (r + 4)).take 32 = markN k := fun hj => by
    refine ext_get (by rw [List.length_take, List.length_drop, hml]; omega) fun i => ?_
    by_cases hi : i < 32
    · rw [get_take, if_pos hi, get_drop, show r + 4 + i = r + (4 + i) by omega, hC (4 + i) (by omega) (by omega), g32 i hi]
    · rw [get_past (by rw [List.length_take]; omega), get_past (by omega)]
  have cs : ¬ (r + 36 ≤ j ∧ j < r + 36 + s.length) → (C.drop (r + 36)).take s.length = s := fun hj => by
    refine ext_get (by rw [List.length_take, List.length_drop]; omega) fun i => ?_
    by_cases hi : i < s.length
    · rw [get_take, if_pos hi, get_drop, show r + 36 + i = r + (36 + i) by omega, hC (36 + i) (by omega) (by omega), gs i hi]
    · rw [get_past (by rw [List.length_take]; omega), get_past (by omega)]
  -- the text and the mark are the true ones
  have key : s' = s ∧ m' = markN k := by
    by_cases hj : r + 4 ≤ j ∧ j < r + 36
    · have e4 := c4 (by omega)
      rw [e4, val4_four _ (by omega)] at h3
      rw [← h3, cs (by omega)] at h5
      subst h5
      have : n = k := by rw [hk] at h6; exact (Option.some.inj h6).symm
      exact ⟨rfl, by rw [← h7, this]⟩
    · have e32 := c32 hj
      rw [← h4] at e32
      rw [e32] at h7
      have : n = k := mark_inj hn16 hk16 h7
      rw [this] at h6
      exact ⟨List.append_cancel_left (numOf_inj h6 hk), e32⟩
  obtain ⟨hs', hm'⟩ := key
  subst hs'
  refine ⟨rfl, hm', ?_⟩
  have e4 : (C.drop r).take 4 = four s'.length := four_inj (by rw [List.length_take, List.length_drop]; omega) (four_length _) (by rw [h3, val4_four _ (by omega)])
  have d1 : C.drop r = four s'.length ++ C.drop (r + 4) := by rw [← e4]; exact drop_split C r 4
  have d2 : C.drop (r + 4) = markN k ++ C.drop (r + 36) := by
    rw [← hm', h4]; exact drop_split C (r + 4) 32
  have d3 : C.drop (r + 36) = s' ++ C.drop (r + 36 + s'.length) := by
    have := drop_split C (r + 36) s'.length
    rwa [← h5] at this
  rw [d1, d2, d3]
  have : four s'.length ++ (markN k ++ (s' ++ C.drop (r + 36 + s'.length))) = recK k s' ++ C.drop (r + 36 + s'.length) := by unfold recK; simp only [List.append_assoc]
  rw [this]
  exact List.take_left' hrl

/-- What is read of records of which a byte was changed: some of them, from the first on. -/
theorem bent_enc {M : Bk} {C : List UInt8} {j : Nat} (hM : M.length < 65536) : ∀ {rs : List (List UInt8)} {m bs m1 : List UInt8} (pre : List UInt8), Enc M m rs bs m1 → C.length = pre.length + bs.length → C.take pre.length = pre →
    (∀ i, pre.length ≤ i → i ≠ j → C.getD i 0 = bs.getD (i - pre.length) 0) →
    ∃ rs1 rs2 b1 m2, rs = rs1 ++ rs2 ∧ Enc M m rs1 b1 m2 ∧ (∃ rest, C = pre ++ (b1 ++ rest)) ∧ nextB M C (pre.length + b1.length) m2 = none
  | [], m, bs, m1, pre, h, hl, hp, _ => by
    cases h
    refine ⟨[], [], [], m, rfl, .nil m, ⟨C.drop pre.length, ?_⟩, nextB_short (by rw [hl]; simp)⟩
    rw [List.nil_append]; conv => rhs; arg 1; rw [← hp]
    exact (List.take_append_drop _ _).symm
  | s :: rs, m, bs, m1, pre, h, hl, hp, hC => by
    cases h with
    | cons hk h1 h2 h3 =>
      rename_i bs k
      have hrl := recK_length k s
      have hsplit : C = pre ++ C.drop pre.length := by
        conv => rhs; arg 1; rw [← hp]
        exact (List.take_append_drop _ _).symm
      rw [List.length_append, hrl] at hl
      cases hn : nextB M C pre.length m with
      | none => exact ⟨[], s :: rs, [], m, rfl, .nil m, ⟨C.drop pre.length, by rw [List.nil_append]; exact hsplit⟩, by rw [List.length_nil, Nat.add_zero]; exact hn⟩
      | some x =>
        obtain ⟨s', m'⟩ := x
        obtain ⟨_, _, hd⟩ := next_bent (j := j) (fun i hi hij => by
          rw [hC _ (by omega) hij, show pre.length + i - pre.length = i by omega, get_append, if_pos (by omega)]) (by omega) hk h2 hM hn
        have hCe : C.take (pre ++ recK k s).length = pre ++ recK k s := by
          rw [List.length_append, hrl, List.take_add, hp, hd]
        obtain ⟨rs1, rs2, b1, m2, e1, e2, ⟨rest, e3⟩, e4⟩ := bent_enc hM (C := C) (j := j) (pre ++ recK k s) h3 (by rw [List.length_append, hrl, hl]; omega) hCe (fun i hi hij => by
          rw [List.length_append, hrl] at hi ⊢
          rw [hC i (by omega) hij, get_append, if_neg (by omega), hrl]
          congr 1
          omega)
        refine ⟨s :: rs1, rs2, recK k s ++ b1, m2, by rw [e1]; rfl, .cons hk h1 h2 e2, ⟨rest, by rw [e3]; simp only [List.append_assoc]⟩, ?_⟩
        rw [List.length_append] at e4 ⊢
        rwa [← Nat.add_assoc]

end Go.X
