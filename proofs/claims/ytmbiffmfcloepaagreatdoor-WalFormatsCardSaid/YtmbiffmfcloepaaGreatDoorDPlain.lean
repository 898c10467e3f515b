/- What writing does, said of the pieces. -/
import Derived.Test.YtmbiffmfcloepaaGreatDoorXEnd
namespace Go.X

/-- The pieces of a write. -/
def pcs : Nat → Int → Nat → List UInt8 → List DW
  | 0, _, _, _ => []
  | k + 1, id, at_, t =>
    if t = [] then [] else ⟨id, at_, t.take (pieceLen at_ t.length)⟩ :: pcs k id (at_ + pieceLen at_ t.length) (t.drop (pieceLen at_ t.length))

/-- A piece laid into bytes. -/
def lay (l : List UInt8) (p : DW) : List UInt8 := over (l ++ List.replicate (p.at_ + p.text.length - l.length) 0) p.at_ p.text

def burns : Nat → Int → Int
  | 0, n => n
  | k + 1, n => burns k (burn n)

theorem burn_neg {n : Int} (h : n < 0) : burn n = n := by unfold burn; rw [if_neg (by omega)]
theorem burns_neg {n : Int} (h : n < 0) : ∀ k, burns k n = n
  | 0 => rfl
  | k + 1 => by rw [burns, burn_neg h, burns_neg h k]
theorem burns_pos : ∀ (k : Nat) {n : Int}, (k : Int) ≤ n → burns k n = n - k
  | 0, n, _ => by rw [burns]; simp
  | k + 1, n, h => by
    have : burn n = n - 1 := by unfold burn; rw [if_pos (by omega)]
    rw [burns, this, burns_pos k (by omega)]; omega

/-- A write whose pieces are all taken. -/
theorem wr_all : ∀ (k : Nat) (id : Int) (at_ : Nat) (t : List UInt8) (S : WS), (S.fuse < 0 ∨ ((pcs k id at_ t).length : Int) ≤ S.fuse) →
    wr k id at_ t S = ⟨(pcs k id at_ t).foldl lay S.seen, S.wait ++ pcs k id at_ t, burns (pcs k id at_ t).length S.fuse, S.count + (pcs k id at_ t).length, S.off⟩
  | 0, id, at_, t, S, _ => by simp [wr, pcs, burns]
  | k + 1, id, at_, t, S, h => by
    by_cases ht : t = []
    · simp [wr, pcs, ht, burns]
    · have hp : pcs (k + 1) id at_ t = ⟨id, at_, t.take (pieceLen at_ t.length)⟩ :: pcs k id (at_ + pieceLen at_ t.length) (t.drop (pieceLen at_ t.length)) := by rw [pcs, if_neg ht]
      rw [hp] at h ⊢
      have h0 : ¬ S.fuse = 0 := by
        rcases h with h | h
        · omega
        · simp only [List.length_cons] at h; omega
      rw [wr, if_neg ht, if_neg h0, wr_all k]
      · simp only [wstep, List.foldl_cons, lay, List.append_assoc, List.singleton_append, List.length_cons, burns]
        congr 1
        omega
      · show burn S.fuse < 0 ∨ _ ≤ burn S.fuse
        rcases h with h | h
        · rw [burn_neg h]; exact .inl h
        · simp only [List.length_cons] at h
          have : burn S.fuse = S.fuse - 1 := by unfold burn; rw [if_pos (by omega)]
          rw [this]; right; omega

theorem pieceLen_full {n : Nat} (k : Nat) (h : 64 ≤ n) : pieceLen (64 * k) n = 64 := by unfold pieceLen; omega

/-- Whole pieces. -/
theorem pcs_whole : ∀ (m k : Nat) (id : Int) (j : Nat) (t : List UInt8), t.length = 64 * m → m ≤ k → (pcs k id (64 * j) t).length = m
  | 0, 0, _, _, _, _, _ => rfl
  | 0, k + 1, _, _, t, h, _ => by
    have : t = [] := List.eq_nil_of_length_eq_zero (by omega)
    simp [pcs, this]
  | m + 1, 0, _, _, _, _, h => by omega
  | m + 1, k + 1, id, j, t, h, hk => by
    have ht : t ≠ [] := fun e => by rw [e] at h; simp at h
    rw [pcs, if_neg ht, List.length_cons, pieceLen_full j (by omega), show 64 * j + 64 = 64 * (j + 1) by omega]
    rw [pcs_whole m k id (j + 1) (t.drop 64) (by rw [List.length_drop]; omega) (by omega)]

theorem lay_length (l : List UInt8) (p : DW) : (lay l p).length = max l.length (p.at_ + p.text.length) := by
  unfold lay
  rw [over_length (by rw [List.length_append, List.length_replicate]; omega), List.length_append, List.length_replicate]
  omega

/-- How long a file is behind a write. -/
theorem lays_length : ∀ (k : Nat) (id : Int) (at_ : Nat) (t l : List UInt8), t.length ≤ k → ((pcs k id at_ t).foldl lay l).length = if t = [] then l.length else max l.length (at_ + t.length)
  | 0, id, at_, t, l, h => by
    have : t = [] := List.eq_nil_of_length_eq_zero (by omega)
    simp [pcs, this]
  | k + 1, id, at_, t, l, h => by
    by_cases ht : t = []
    · simp [pcs, ht]
    · have h0 : 0 < t.length := List.length_pos_iff.2 ht
      have hp := pieceLen_pos (at_ := at_) h0
      have hp' := pieceLen_le at_ t.length
      rw [pcs, if_neg ht, List.foldl_cons, lays_length k _ _ _ _ (by rw [List.length_drop]; omega), lay_length, if_neg ht]
      simp only [List.length_take, List.length_drop]
      split
      · rename_i he
        have := congrArg List.length he
        rw [List.length_drop, List.length_nil] at this
        omega
      · omega

/-- What holds of a write's pieces. -/
theorem pcs_ok : ∀ (k : Nat) (id : Int) (at_ : Nat) (t : List UInt8), ∀ p ∈ pcs k id at_ t, p.id = id ∧ at_ ≤ p.at_ ∧ p.at_ + p.text.length ≤ at_ + t.length
  | 0, _, _, _, p, h => by simp [pcs] at h
  | k + 1, id, at_, t, p, h => by
    unfold pcs at h
    split at h
    · simp at h
    · have hp' := pieceLen_le at_ t.length
      rcases List.mem_cons.1 h with rfl | h
      · refine ⟨rfl, Nat.le_refl _, ?_⟩
        show at_ + (t.take _).length ≤ _
        rw [List.length_take]; omega
      · obtain ⟨h1, h2, h3⟩ := pcs_ok k id _ _ p h
        rw [List.length_drop] at h3
        exact ⟨h1, by omega, by omega⟩

theorem pcs_len : ∀ (k : Nat) (id : Int) (at_ : Nat) (t : List UInt8), (pcs k id at_ t).length ≤ t.length
  | 0, _, _, _ => by simp [pcs]
  | k + 1, id, at_, t => by
    unfold pcs
    split
    · simp
    · rename_i ht
      have h0 : 0 < t.length := List.length_pos_iff.2 ht
      have hp := pieceLen_pos (at_ := at_) h0
      have := pcs_len k id (at_ + pieceLen at_ t.length) (t.drop (pieceLen at_ t.length))
      rw [List.length_drop] at this
      simp only [List.length_cons]
      omega

/-- A write, whatever the fuse: some of its pieces are taken. -/
theorem wr_some : ∀ (k : Nat) (id : Int) (at_ : Nat) (t : List UInt8) (S : WS), -1 ≤ S.fuse → ∃ n, n ≤ (pcs k id at_ t).length ∧ (wr k id at_ t S).seen = ((pcs k id at_ t).take n).foldl lay S.seen ∧
    (wr k id at_ t S).wait = S.wait ++ (pcs k id at_ t).take n ∧ (wr k id at_ t S).count = S.count + n ∧ -1 ≤ (wr k id at_ t S).fuse ∧ (wr k id at_ t S).fuse ≤ S.fuse
  | 0, id, at_, t, S, h => ⟨0, by simp, by simp [wr], by simp [wr], by simp [wr], by simpa [wr] using h, by simp [wr]⟩
  | k + 1, id, at_, t, S, h => by
    by_cases ht : t = []
    · exact ⟨0, by simp, by simp [wr, ht], by simp [wr, ht], by simp [wr, ht], by simpa [wr, ht] using h, by simp [wr, ht]⟩
    · have hp : pcs (k + 1) id at_ t = ⟨id, at_, t.take (pieceLen at_ t.length)⟩ :: pcs k id (at_ + pieceLen at_ t.length) (t.drop (pieceLen at_ t.length)) := by rw [pcs, if_neg ht]
      by_cases h0 : S.fuse = 0
      · refine ⟨0, by simp, ?_, ?_, ?_, ?_, ?_⟩ <;> rw [wr, if_neg ht, if_pos h0] <;> simp <;> omega
      · have hb : -1 ≤ burn S.fuse ∧ burn S.fuse ≤ S.fuse := by unfold burn; split <;> omega
        obtain ⟨n, h1, h2, h3, h4, h5, h6⟩ := wr_some k id (at_ + pieceLen at_ t.length) (t.drop (pieceLen at_ t.length)) (wstep id at_ (t.take (pieceLen at_ t.length)) S) hb.1
        refine ⟨n + 1, by rw [hp, List.length_cons]; omega, ?_, ?_, ?_, ?_, ?_⟩ <;> rw [wr, if_neg ht, if_neg h0]
        · rw [h2, hp, List.take_succ_cons, List.foldl_cons]; rfl
        · rw [h3, hp, List.take_succ_cons]; simp [wstep]
        · rw [h4]; simp [wstep]; omega
        · exact h5
        · exact Int.le_trans h6 hb.2

end Go.X
