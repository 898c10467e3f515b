/- Pieces that wait, and what lasts of them. -/
import Derived.Test.YtmbiffmfcloepaaGreatDoorDPlain
namespace Go.X
open Go.Proofs

/-- How much of a piece lasts by its fate. -/
def keptLen (x : Option Int) (n : Nat) : Nat := if x = some 2 then n / 2 else if x = some 1 then n else 0

/-- Bytes laid where they begin, if there are any. -/
def layk (l : List UInt8) (at_ : Nat) (u : List UInt8) : List UInt8 := if u.length = 0 then l else over (l ++ List.replicate (at_ + u.length - l.length) 0) at_ u

theorem lastF_last {p : DW} {f : DF} (h : f.id = p.id) : (lastF p p.text.length f).last = layk f.last p.at_ p.text := by
  unfold lastF layk
  by_cases h0 : p.text.length = 0
  · rw [if_neg (by omega), if_pos h0]
  · rw [if_pos ⟨h, by omega⟩, if_neg h0, List.take_of_length_le (Nat.le_refl _)]

theorem fateF_last {x : Int} {p : DW} {f : DF} (h : f.id = p.id) : (fateF x p f).last = layk f.last p.at_ (p.text.take (keptLen (some x) p.text.length)) := by
  unfold fateF keptLen
  by_cases h2 : x = 2
  · have e : some x = some (2 : Int) := by rw [h2]
    rw [if_pos h2, if_pos e, lastF_last (p := halved p) h]
    rfl
  · have e : ¬ some x = some (2 : Int) := fun h => h2 (Option.some.inj h)
    rw [if_neg h2, if_neg e]
    by_cases h1 : x = 1
    · have e1 : some x = some (1 : Int) := by rw [h1]
      rw [if_pos h1, if_pos e1, lastF_last h, List.take_of_length_le (Nat.le_refl _)]
    · have e1 : ¬ some x = some (1 : Int) := fun h => h1 (Option.some.inj h)
      rw [if_neg h1, if_neg e1, List.take_zero]
      rfl

theorem lastF_id (p : DW) (n : Nat) (f : DF) : (lastF p n f).id = f.id := by unfold lastF; split <;> rfl

theorem fateF_id (x : Int) (p : DW) (f : DF) : (fateF x p f).id = f.id := by
  unfold fateF
  split
  · exact lastF_id _ _ _
  · split
    · exact lastF_id _ _ _
    · rfl

theorem fatesF_id : ∀ (l : List (DW × Int)) (f : DF), (fatesF l f).id = f.id
  | [], _ => rfl
  | _ :: l, _ => (fatesF_id l _).trans (fateF_id _ _ _)

theorem lastF_name (p : DW) (n : Nat) (f : DF) : (lastF p n f).name = f.name := by unfold lastF; split <;> rfl

theorem fateF_name (x : Int) (p : DW) (f : DF) : (fateF x p f).name = f.name := by
  unfold fateF
  split
  · exact lastF_name _ _ _
  · split
    · exact lastF_name _ _ _
    · rfl

theorem fatesF_name : ∀ (l : List (DW × Int)) (f : DF), (fatesF l f).name = f.name
  | [], _ => rfl
  | _ :: l, _ => (fatesF_name l _).trans (fateF_name _ _ _)

theorem zip_end {α β : Type} : ∀ (l : List α) (m : List β) (a : α), (l ++ [a]).zip m = l.zip m ++ (match m[l.length]? with | some b => [(a, b)] | none => [])
  | [], [], a => rfl
  | [], b :: m, a => by simp
  | x :: l, [], a => by simp
  | x :: l, y :: m, a => by simp [zip_end l m a]

theorem fatesF_append (l1 l2 : List (DW × Int)) (f : DF) : fatesF (l1 ++ l2) f = fatesF l2 (fatesF l1 f) := by
  induction l1 generalizing f with
  | nil => rfl
  | cons q l1 ih => exact ih _

/-- A step of the fates. -/
theorem fates_step (dn : List DW) (xs : List Int) (p : DW) (f : DF) (h : f.id = p.id) :
    (fatesF ((dn ++ [p]).zip xs) f).last = layk (fatesF (dn.zip xs) f).last p.at_ (p.text.take (keptLen xs[dn.length]? p.text.length)) := by
  rw [zip_end, fatesF_append]
  cases hx : xs[dn.length]? with
  | none => simp [fatesF, keptLen, layk]
  | some x =>
    show (fateF x p (fatesF (dn.zip xs) f)).last = _
    exact fateF_last (by rw [fatesF_id]; exact h)

theorem layk_length (l u : List UInt8) (at_ : Nat) : (layk l at_ u).length = if u.length = 0 then l.length else max l.length (at_ + u.length) := by
  unfold layk
  split
  · rfl
  · rw [over_length (by rw [List.length_append, List.length_replicate]; omega), List.length_append, List.length_replicate]
    omega

theorem fatesF_small {B : Nat} : ∀ (l : List (DW × Int)) (f : DF), (∀ q ∈ l, q.1.at_ + q.1.text.length ≤ B) → f.last.length ≤ B → (fatesF l f).last.length ≤ B
  | [], f, _, h => h
  | q :: l, f, hq, h => by
    refine fatesF_small l _ (fun q' h' => hq q' (List.mem_cons_of_mem _ h')) ?_
    have h1 := hq q List.mem_cons_self
    have key : ∀ (p : DW) (f : DF), p.at_ + p.text.length ≤ B → f.last.length ≤ B → (lastF p p.text.length f).last.length ≤ B := by
      intro p f hp hf
      unfold lastF
      split
      · show (over _ _ _).length ≤ B
        rw [over_length (by rw [List.length_append, List.length_replicate, List.length_take]; omega), List.length_append, List.length_replicate]
        omega
      · exact hf
    unfold fateF
    split
    · exact key _ _ (by rw [halved_len]; show q.1.at_ + _ ≤ _; omega) h
    · split
      · exact key _ _ h1 h
      · exact h

theorem keptLen_le (x : Option Int) (n : Nat) : keptLen x n ≤ n := by
  unfold keptLen
  split
  · omega
  · split <;> omega

theorem lay_end (l u : List UInt8) (id : Int) : lay l ⟨id, l.length, u⟩ = l ++ u := by
  unfold lay over
  show (l ++ List.replicate (l.length + u.length - l.length) 0).take l.length ++ u ++ (l ++ List.replicate (l.length + u.length - l.length) 0).drop (l.length + u.length) = _
  rw [List.take_left, List.drop_eq_nil_of_le (by simp), List.append_nil]

theorem lays_end : ∀ (k : Nat) (id : Int) (t l : List UInt8), t.length ≤ k → (pcs k id l.length t).foldl lay l = l ++ t
  | 0, _, t, l, h => by
    have : t = [] := List.eq_nil_of_length_eq_zero (by omega)
    simp [pcs, this]
  | k + 1, id, t, l, h => by
    by_cases ht : t = []
    · simp [pcs, ht]
    · have hp := pieceLen_pos (at_ := l.length) (List.length_pos_iff.2 ht)
      have hp' := pieceLen_le l.length t.length
      have e : (l ++ t.take (pieceLen l.length t.length)).length = l.length + pieceLen l.length t.length := by rw [List.length_append, List.length_take]; omega
      rw [pcs, if_neg ht, List.foldl_cons, lay_end, ← e, lays_end k id _ _ (by rw [List.length_drop]; omega), List.append_assoc, List.take_append_drop]

theorem sync_pcs : ∀ (k : Nat) (at_ : Nat) (t : List UInt8) (f : DF), t.length ≤ k → syncF (pcs k f.id at_ t) f = { f with last := (pcs k f.id at_ t).foldl lay f.last }
  | 0, _, t, f, _ => by simp [pcs, syncF]
  | k + 1, at_, t, f, h => by
    by_cases ht : t = []
    · simp [pcs, ht, syncF]
    · have hp := pieceLen_pos (at_ := at_) (List.length_pos_iff.2 ht)
      have hp' := pieceLen_le at_ t.length
      have hl : (t.take (pieceLen at_ t.length)).length = pieceLen at_ t.length := by rw [List.length_take]; omega
      rw [pcs, if_neg ht]
      have e : lastF ⟨f.id, at_, t.take (pieceLen at_ t.length)⟩ (t.take (pieceLen at_ t.length)).length f = { f with last := lay f.last ⟨f.id, at_, t.take (pieceLen at_ t.length)⟩ } := by
        unfold lastF
        rw [if_pos ⟨rfl, by omega⟩, List.take_of_length_le (Nat.le_refl _)]
        rfl
      have ih := sync_pcs k (at_ + pieceLen at_ t.length) (t.drop (pieceLen at_ t.length)) { f with last := lay f.last ⟨f.id, at_, t.take (pieceLen at_ t.length)⟩ } (by rw [List.length_drop]; omega)
      unfold syncF at ih ⊢
      rw [List.foldl_cons, e, List.foldl_cons]
      exact ih

theorem take_over {l u : List UInt8} {k n : Nat} (h : n ≤ k) (hl : k ≤ l.length) : (over l k u).take n = l.take n := by
  unfold over
  rw [List.append_assoc, List.take_append_of_le_length (by rw [List.length_take]; omega), List.take_take, Nat.min_eq_left h]

theorem lastF_keeps {p : DW} {f : DF} {n m : Nat} (hp : n ≤ p.at_) (hf : n ≤ f.last.length) (hm : m ≤ p.text.length) : (lastF p m f).last.take n = f.last.take n ∧ n ≤ (lastF p m f).last.length := by
  unfold lastF
  split
  · have hr : (f.last ++ List.replicate (p.at_ + m - f.last.length) 0).length = max f.last.length (p.at_ + m) := by rw [List.length_append, List.length_replicate]; omega
    refine ⟨?_, ?_⟩
    · show (over _ _ _).take n = _
      rw [take_over hp (by omega), List.take_append_of_le_length hf]
    · show n ≤ (over _ _ _).length
      rw [over_length (by rw [hr, List.length_take]; omega), hr]
      omega
  · exact ⟨rfl, hf⟩

theorem fateF_keeps {x : Int} {p : DW} {f : DF} {n : Nat} (hp : n ≤ p.at_) (hf : n ≤ f.last.length) : (fateF x p f).last.take n = f.last.take n ∧ n ≤ (fateF x p f).last.length := by
  unfold fateF
  split
  · exact lastF_keeps (p := halved p) hp hf (Nat.le_refl _)
  · split
    · exact lastF_keeps hp hf (Nat.le_refl _)
    · exact ⟨rfl, hf⟩

theorem fatesF_keeps : ∀ (l : List (DW × Int)) {f : DF} {n : Nat}, (∀ q ∈ l, n ≤ q.1.at_) → n ≤ f.last.length → (fatesF l f).last.take n = f.last.take n ∧ n ≤ (fatesF l f).last.length
  | [], _, _, _, h => ⟨rfl, h⟩
  | q :: l, f, n, hq, h => by
    obtain ⟨h1, h2⟩ := fateF_keeps (x := q.2) (hq q List.mem_cons_self) h
    obtain ⟨h3, h4⟩ := fatesF_keeps l (f := fateF q.2 q.1 f) (fun q' h' => hq q' (List.mem_cons_of_mem _ h')) h2
    exact ⟨h3.trans h1, h4⟩

theorem lays_some : ∀ (ps : List DW) (l : List UInt8) (B : Nat), (∀ p ∈ ps, p.at_ + p.text.length ≤ B) → l.length ≤ B → l.length ≤ (ps.foldl lay l).length ∧ (ps.foldl lay l).length ≤ B
  | [], _, _, _, h => ⟨Nat.le_refl _, h⟩
  | p :: ps, l, B, hp, h => by
    have h1 := hp p List.mem_cons_self
    have hl := lay_length l p
    obtain ⟨h2, h3⟩ := lays_some ps (lay l p) B (fun q hq => hp q (List.mem_cons_of_mem _ hq)) (by omega)
    exact ⟨by rw [List.foldl_cons]; omega, h3⟩

theorem lastF_laid {p : DW} {n : Nat} {f : DF} (h : f.id = p.id) (h0 : 0 < n) (hn : n ≤ p.text.length) : lastF p n f = { f with last := laidL f.last p.at_ (p.text.take n) } := by
  unfold lastF laidL
  have e : (p.text.take n).length = n := by rw [List.length_take]; omega
  rw [if_pos ⟨h, h0⟩, e]

theorem lastF_none {p : DW} {n : Nat} {f : DF} (h : ¬ (f.id = p.id ∧ 0 < n)) : lastF p n f = f := by
  unfold lastF
  rw [if_neg h]

theorem lastF_halved (p : DW) (f : DF) : lastF (halved p) (halved p).text.length f = lastF p (p.text.length / 2) f := by
  have e : (halved p).text.length = p.text.length / 2 := halved_len p
  unfold lastF
  rw [e]
  show (if f.id = p.id ∧ 0 < p.text.length / 2 then { f with last := over (f.last ++ List.replicate (p.at_ + p.text.length / 2 - f.last.length) 0) p.at_ ((p.text.take (p.text.length / 2)).take (p.text.length / 2)) } else f) = _
  rw [List.take_take, Nat.min_self]

/-- How much of a piece lasts, as a number of bytes. -/
theorem fateF_kept (x : Int) (p : DW) (f : DF) : fateF x p f = lastF p (keptLen (some x) p.text.length) f := by
  unfold fateF keptLen
  by_cases h2 : x = 2
  · have e : some x = some (2 : Int) := by rw [h2]
    rw [if_pos h2, if_pos e, lastF_halved]
  · have e : ¬ some x = some (2 : Int) := fun h => h2 (Option.some.inj h)
    rw [if_neg h2, if_neg e]
    by_cases h1 : x = 1
    · have e1 : some x = some (1 : Int) := by rw [h1]
      rw [if_pos h1, if_pos e1]
    · have e1 : ¬ some x = some (1 : Int) := fun h => h1 (Option.some.inj h)
      rw [if_neg h1, if_neg e1, lastF_none (by omega)]

theorem lastF_small {p : DW} {n : Nat} {f : DF} (hp : p.at_ + p.text.length ≤ 2097152) (hn : n ≤ p.text.length) (hf : f.last.length ≤ 2097152) : (lastF p n f).last.length ≤ 2097152 := by
  by_cases hdo : f.id = p.id ∧ 0 < n
  · rw [lastF_laid hdo.1 hdo.2 hn]
    show (laidL _ _ _).length ≤ _
    rw [laidL_length, List.length_take]
    omega
  · rw [lastF_none hdo]
    exact hf

theorem fatesF_step (dn : List DW) (xs : List Int) (p : DW) (f : DF) (x : Int) (hx : xs[dn.length]? = some x) : fatesF ((dn ++ [p]).zip xs) f = lastF p (keptLen (some x) p.text.length) (fatesF (dn.zip xs) f) := by
  rw [zip_end, fatesF_append, hx]
  exact fateF_kept x p _

theorem zip_stop {α β : Type} : ∀ (l m : List α) (xs : List β), xs.length ≤ l.length → (l ++ m).zip xs = l.zip xs
  | _, _, [], _ => by simp
  | [], _, _ :: _, h => by simp at h
  | a :: l, m, x :: xs, h => by simp [zip_stop l m xs (by simpa using h)]

theorem syncF_small : ∀ (l : List DW) (f : DF), (∀ p ∈ l, p.at_ + p.text.length ≤ 2097152) → f.last.length ≤ 2097152 → (syncF l f).last.length ≤ 2097152
  | [], _, _, h => h
  | p :: l, f, hp, h => by
    show (syncF l (lastF p p.text.length f)).last.length ≤ _
    exact syncF_small l _ (fun q hq => hp q (List.mem_cons_of_mem _ hq)) (lastF_small (hp p List.mem_cons_self) (Nat.le_refl _) h)

theorem lastF_seen (p : DW) (n : Nat) (f : DF) : (lastF p n f).seen = f.seen := by unfold lastF; split <;> rfl

theorem syncF_seen : ∀ (l : List DW) (f : DF), (syncF l f).seen = f.seen
  | [], _ => rfl
  | p :: l, f => (syncF_seen l (lastF p p.text.length f)).trans (lastF_seen _ _ _)

theorem syncF_name : ∀ (l : List DW) (f : DF), (syncF l f).name = f.name
  | [], _ => rfl
  | p :: l, f => (syncF_name l (lastF p p.text.length f)).trans (lastF_name _ _ _)

end Go.X
