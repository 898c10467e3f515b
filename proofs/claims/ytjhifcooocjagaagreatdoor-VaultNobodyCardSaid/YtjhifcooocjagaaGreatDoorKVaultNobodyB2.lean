/- Texts joined: VTexts, VRows, VJoin, VStore, VRecs, WFind, VFit, VWrite, VHand, VDo, VGood. -/
import Derived.Test.YtjhifcooocjagaaGreatDoorKVaultNobodyB1
set_option linter.unusedVariables false
set_option linter.unusedSimpArgs false
set_option linter.unnecessarySimpa false

/-! Readers: the end, counts, texts. -/
namespace Go.X
open Go.Proofs

section
variable {W w : World} {L : List SP} {p : Nat} {r : RD}

theorem End_spec (hs : Sat W w (ReaderP p r :: L)) : Ret Tryz.prog F.code_Reader_End [ptr p] w fun v w' => v = .int .i64 r.end_.e ∧ Sat W w' (ReaderP p r.end_ :: L) := by
  suffices H : ∀ K : Value → World → Prop, (∀ w', Sat W w' (ReaderP p r.end_ :: L) → K (.int .i64 r.end_.e) w') → S.code_Reader_End (some ⟨p, 0, none⟩) K w from
    S.code_Reader_End_ok _ _ _ (H _ fun _ h => ⟨rfl, h⟩)
  intro K hK
  refine xjoin (fun (_ : Unit) w' => Sat W w' (ReaderP p r.end_ :: L)) (fun J hJ => ?_) ?_
  · refine xjoin (fun (st : Bool × Unit) w' => st = (decide (r.e = 0 ∧ 0 < r.left), ()) ∧ Sat W w' (ReaderP p r :: L)) (fun J2 hJ2 => ?_) ?_
    · refine xcall_eq (off_spec hs) (r.e != 0) rfl ?_
      by_cases h0 : r.e = 0
      · refine XIf.yes (by rw [h0]; rfl) (xcall (Left_spec hs) ?_)
        rintro v w1 ⟨rfl, h1⟩
        refine ⟨(r.left : Int), rfl, hJ2 _ _ ⟨Prod.ext (decide_eq_decide.2 ?_) rfl, h1⟩⟩
        exact ⟨fun h => ⟨h0, by omega⟩, fun h => by have := h.2; omega⟩
      · have hb : (r.e != 0) = true := by simpa using h0
        exact XIf.no (by rw [hb]; rfl) (hJ2 _ _ ⟨Prod.ext (decide_eq_false (fun h => h0 h.1)).symm rfl, hs⟩)
    · rintro _ w1 ⟨rfl, h1⟩
      unfold RD.end_ at hJ
      by_cases h : r.e = 0 ∧ 0 < r.left
      · rw [if_pos h] at hJ
        refine XIf.yes (decide_eq_true h) (xcalls (fail_spec 4 h1) ?_)
        rintro v w2 ⟨rfl, h2⟩
        refine ⟨(), rfl, hJ () _ ?_⟩
        unfold RD.fail at h2
        rw [if_pos h.1] at h2
        exact h2
      · rw [if_neg h] at hJ
        exact XIf.no (decide_eq_false h) (hJ () _ h1)
  · rintro _ w1 h1
    exact xcall_eq (Err_spec h1) r.end_.e rfl (hK _ h1)

theorem Count_spec (n : Nat) (hs : Sat W w (ReaderP p r :: L)) : Ret Tryz.prog F.code_Reader_Count [ptr p, .int .i64 n] w fun v w' => v = .int .i64 ((r.count n).1 : Nat) ∧ Sat W w' (ReaderP p (r.count n).2 :: L) := by
  refine S.code_Reader_Count_ok _ _ _ _ (xcall (Num_read_spec hs) ?_)
  rintro v w1 ⟨rfl, h1⟩
  refine ⟨(r.num.1 : Int), rfl, xjoin (fun (st : Bool × Unit) w' => st = (decide (r.num.2.e = 0 ∧ n < r.num.1), ()) ∧ w' = w1) (fun J hJ => ?_) ?_⟩
  · refine xcall_eq (off_spec h1) (r.num.2.e != 0) rfl ?_
    by_cases h0 : r.num.2.e = 0
    · exact XIf.yes (by rw [h0]; rfl) (hJ _ _ ⟨Prod.ext (decide_eq_decide.2 ⟨fun h => ⟨h0, by omega⟩, fun h => by have := h.2; omega⟩) rfl, rfl⟩)
    · have hb : (r.num.2.e != 0) = true := by simpa using h0
      exact XIf.no (by rw [hb]; rfl) (hJ _ _ ⟨Prod.ext (decide_eq_false (fun h => h0 h.1)).symm rfl, rfl⟩)
  · rintro _ _ ⟨rfl, rfl⟩
    unfold RD.count
    by_cases h : r.num.2.e = 0 ∧ n < r.num.1
    · rw [if_pos h]
      refine XIf.yes (decide_eq_true h) (xcalls (fail_spec 4 h1) ?_)
      rintro v w2 ⟨rfl, h2⟩
      exact ⟨(), rfl, rfl, h2⟩
    · rw [if_neg h]
      exact XIf.no (decide_eq_false h) ⟨rfl, h1⟩

theorem numL_lt : ∀ (k i n : Nat) (r : RD), k + i = 9 → n < 2 ^ (7 * i) → (RD.numL k i n r).1 < 2 ^ 62 ∨ (k = 0 ∧ (RD.numL k i n r).1 < 2 ^ 63)
  | 0, i, n, r, hi, hn => .inr ⟨rfl, by
      have : i = 9 := by omega
      subst this
      exact hn⟩
  | k + 1, i, n, r, hi, hn => by
    have hb := byte_lt r
    unfold RD.numL
    dsimp only
    split
    · exact .inl (by show 0 < _; decide)
    split
    · exact .inl (by show 0 < _; decide)
    rename_i hbad
    have hp : 2 ^ (7 * i) ≤ 2 ^ 56 := Nat.pow_le_pow_right (by decide) (by omega)
    have hX : n + r.byte.1 % 128 * 2 ^ (7 * i) < 2 ^ (7 * (i + 1)) := by
      rw [show 7 * (i + 1) = 7 * i + 7 by omega, Nat.pow_add, show (2 : Nat) ^ 7 = 128 from rfl]
      have : r.byte.1 % 128 * 2 ^ (7 * i) ≤ 127 * 2 ^ (7 * i) := Nat.mul_le_mul_right _ (by omega)
      omega
    have h62 : n + r.byte.1 % 128 * 2 ^ (7 * i) < 2 ^ 62 := by
      by_cases h8 : i = 8
      · subst h8
        have : r.byte.1 < 64 := by omega
        have h56 : (2 : Nat) ^ (7 * 8) = 2 ^ 56 := rfl
        rw [h56] at hn ⊢
        omega
      · have h56 : 2 ^ (7 * (i + 1)) ≤ 2 ^ 56 := Nat.pow_le_pow_right (by decide) (by omega)
        omega
    split
    · exact .inl h62
    · rename_i h7
      have hi8 : i ≠ 8 := fun e => by omega
      rcases numL_lt k (i + 1) _ r.byte.2 (by omega) hX with h | ⟨h, _⟩
      · exact .inl h
      · omega

theorem num_lt (r : RD) : r.num.1 < 2 ^ 62 := by
  rcases numL_lt 9 0 0 r rfl (by decide) with h | ⟨h, _⟩
  · exact h
  · cases h

theorem numL_err : ∀ {k i n : Nat} {r : RD}, r.e = 0 → (RD.numL k i n r).2.e ≠ 0 → (RD.numL k i n r).1 = 0
  | 0, _, _, _, h0, h => absurd h0 h
  | k + 1, i, n, r, h0, h => by
    unfold RD.numL at h ⊢
    dsimp only at h ⊢
    split
    · rfl
    rename_i h1
    rw [if_neg h1] at h
    split
    · rfl
    rename_i h2
    rw [if_neg h2] at h
    split
    · rename_i h3
      rw [if_pos h3] at h
      exact absurd h h1
    · rename_i h3
      rw [if_neg h3] at h
      exact numL_err (by simpa using h1) h

theorem num_err {r : RD} (h : r.num.2.e ≠ 0) : r.num.1 = 0 := by
  by_cases h0 : r.e = 0
  · exact numL_err h0 h
  · unfold RD.num RD.numL RD.byte
    dsimp only
    rw [if_pos h0, if_pos h0]

theorem count_lt (n : Nat) (hr : r.Ok) : (r.count n).1 < 2 ^ 62 := by
  unfold RD.count
  split
  · show 0 < _; decide
  · exact num_lt r

theorem Text_read_spec (n : Nat) (hs : Sat W w (ReaderP p r :: L)) : Ret Tryz.prog F.code_Reader_Text [ptr p, .int .i64 n] w fun v w' => v = .string (str (r.text n).1) ∧ Sat W w' (ReaderP p (r.text n).2 :: L) := by
  refine S.code_Reader_Text_ok _ _ _ _ (xcall (Count_spec n hs) ?_)
  rintro v w1 ⟨rfl, h1⟩
  refine ⟨_, rfl, xcall (Raw_spec (r.count n).1 h1 (count_lt n (ReaderP.open hs).1)) ?_⟩
  rintro v w2 ⟨rfl, h2⟩
  exact ⟨_, rfl, rfl, h2⟩

theorem textsL_out {m : Nat} : ∀ {k : Nat} {out : List (List UInt8)} {r : RD}, (RD.textsL m k out r).1.length ≤ out.length + k
  | 0, out, r => Nat.le_refl _
  | k + 1, out, r => by
    unfold RD.textsL
    split
    · exact Nat.zero_le _
    · have := textsL_out (m := m) (k := k) (out := out ++ [(r.text m).1]) (r := (r.text m).2)
      rw [List.length_append, List.length_singleton] at this
      omega

theorem count_le (r : RD) (n : Nat) : (r.count n).1 ≤ n := by
  unfold RD.count
  split
  · exact Nat.zero_le _
  · rename_i h
    by_cases h0 : r.num.2.e = 0
    · have : ¬ n < r.num.1 := fun h' => h ⟨h0, h'⟩
      omega
    · have : r.num.1 = 0 := num_err h0
      omega

theorem texts_le (r : RD) (n m : Nat) : (r.texts n m).1.length ≤ n := by
  unfold RD.texts
  have h1 := textsL_out (m := m) (k := (r.count n).1) (out := []) (r := (r.count n).2)
  have h2 := count_le r n
  simp only [List.length_nil] at h1
  omega

theorem Texts_read_spec (n m : Nat) (hn : n ≤ 2 ^ 30) (hs : Sat W w (ReaderP p r :: L)) :
    Ret Tryz.prog F.code_Reader_Texts [ptr p, .int .i64 n, .int .i64 m] w fun v w' => ∃ s : Sl, v = .slice s.a s.len s.cap ∧ Sat W w' (own 1 s ((r.texts n m).1.map fun x => Value.string (str x)) :: ReaderP p (r.texts n m).2 :: L) := by
  suffices H : ∀ K : Value → World → Prop, (∀ (s : Sl) w', Sat W w' (own 1 s ((r.texts n m).1.map fun x => Value.string (str x)) :: ReaderP p (r.texts n m).2 :: L) → K (.slice s.a s.len s.cap) w') → S.code_Reader_Texts (some ⟨p, 0, none⟩) n m K w from
    S.code_Reader_Texts_ok _ _ _ _ _ (H _ fun s _ h => ⟨s, rfl, h⟩)
  intro K hK
  refine xcall (Count_spec n hs) ?_
  rintro v w1 ⟨rfl, h1⟩
  have hc : (r.count n).1 ≤ n := by
    unfold RD.count
    split
    · exact Nat.zero_le _
    · rename_i h
      by_cases h0 : r.num.2.e = 0
      · have : ¬ n < r.num.1 := fun h' => h ⟨h0, h'⟩
        omega
      · have : r.num.1 = 0 := num_err h0
        omega
  unfold RD.texts at hK
  obtain ⟨c, hcc⟩ : ∃ c, r.count n = c := ⟨_, rfl⟩
  rw [hcc] at hK h1 hc ⊢
  refine ⟨(c.1 : Int), rfl, ?_⟩
  obtain ⟨R, hR⟩ : ∃ R, RD.textsL m c.1 [] c.2 = R := ⟨_, rfl⟩
  rw [hR] at hK
  refine xloop (fun (st : Sl × Sl × Int × Unit) w => ∃ (i : Nat) (o : Sl) (out : List (List UInt8)) (q : RD), st = (⟨none, 0, 0⟩, o, (i : Int), ()) ∧ i ≤ c.1 ∧ out.length = i ∧ RD.textsL m (c.1 - i) out q = R ∧ Sat W w (own 1 o (out.map fun x => Value.string (str x)) :: ReaderP p q :: L))
    (fun st => ((c.1 : Int) - st.2.2.1).toNat) ⟨0, ⟨none, 0, 0⟩, [], c.2, rfl, Nat.zero_le _, rfl, hR, h1.own_nil⟩ ?_
  clear hs h1
  rintro next _ w ⟨i, o, out, q, rfl, hi, hol, hq, h⟩ hnext
  have hlen : o.len = i := by have := h.own_len; rw [List.length_map] at this; omega
  by_cases hlt : i < c.1
  · rw [show c.1 - i = (c.1 - (i + 1)) + 1 by omega] at hq
    unfold RD.textsL at hq
    refine XIf.yes (decide_eq_true (show (i : Int) < (c.1 : Int) by omega)) (xcall (Text_read_spec m h.swap) ?_)
    rintro v w2 ⟨rfl, h2⟩
    refine ⟨_, rfl, xcall_eq (off_spec h2) ((q.text m).2.e != 0) rfl ?_⟩
    by_cases h0 : (q.text m).2.e = 0
    · rw [if_neg (fun e => e h0)] at hq
      refine XIf.no (by rw [h0]; rfl) (xappend1 (cs := [.string (str (q.text m).1)]) (by kernel_rfl) h2.swap rfl rfl (by (try dsimp only); omega) fun a s' w3 h3 hl => ?_)
      refine xlet ((i + 1 : Nat) : Int) (by (try dsimp only); rw [wi (by omega) (by omega)]; (try omega)) (hnext _ _ ⟨i + 1, s', out ++ [(q.text m).1], (q.text m).2, rfl, hlt, by rw [List.length_append, hol]; rfl, hq, ?_⟩ (by dsimp only; omega))
      rw [List.map_append]
      exact h3
    · rw [if_pos h0] at hq
      rw [← hq] at hK
      exact XIf.yes (by simpa using h0) (hK ⟨none, 0, 0⟩ _ ((h2.swap.drop).own_nil))
  · have : c.1 - i = 0 := by omega
    rw [this] at hq
    have hq : (out, q) = R := hq
    rw [← hq] at hK
    exact XIf.no (decide_eq_false (show ¬ (i : Int) < (c.1 : Int) by omega)) (hK o _ h)

end
end Go.X

/-! Rows of structs: which element is first, those that stay, one put in, all copied. -/
namespace Go.X
open Go.Proofs

theorem rows_set {α : Type} {f : α → List Value} {n : Nat} (hf : ∀ e, (f e).length = n) : ∀ (l : List α) (k : Nat) (p : α), k < l.length → splice (l.flatMap f) (k * n) (f p) = (l.set k p).flatMap f
  | q :: l, 0, p, _ => by
    rw [List.flatMap_cons, Nat.zero_mul, List.set_cons_zero, List.flatMap_cons]
    unfold splice
    rw [List.take_zero, List.nil_append, Nat.zero_add, hf, List.drop_left' (hf q)]
  | q :: l, k + 1, p, h => by
    have ih := rows_set hf l k p (by simpa using h)
    rw [List.flatMap_cons, List.set_cons_succ, List.flatMap_cons, ← ih]
    unfold splice
    rw [List.take_append, List.drop_append, hf, List.take_of_length_le (by rw [hf, Nat.succ_mul]; omega), List.drop_eq_nil_of_le (by rw [hf, Nat.succ_mul]; omega)]
    have e1 : (k + 1) * n - n = k * n := by rw [Nat.succ_mul]; omega
    have e2 : (k + 1) * n + (f p).length - n = k * n + (f p).length := by rw [Nat.succ_mul]; omega
    rw [e1, e2]
    simp

theorem rows_take {α : Type} {f : α → List Value} {n : Nat} (hf : ∀ e, (f e).length = n) : ∀ (l : List α) (k : Nat), (l.flatMap f).take (k * n) = (l.take k).flatMap f
  | [], k => by simp
  | p :: l, 0 => by simp
  | p :: l, k + 1 => by
    rw [List.flatMap_cons, List.take_succ_cons, List.flatMap_cons, ← rows_take hf l k, List.take_append, hf, List.take_of_length_le (by rw [hf, Nat.succ_mul]; omega), show (k + 1) * n - n = k * n by rw [Nat.succ_mul]; omega]

theorem rows_drop {α : Type} {f : α → List Value} {n : Nat} (hf : ∀ e, (f e).length = n) : ∀ (l : List α) (k : Nat), (l.flatMap f).drop (k * n) = (l.drop k).flatMap f
  | [], k => by simp
  | p :: l, 0 => by simp
  | p :: l, k + 1 => by
    rw [List.flatMap_cons, List.drop_succ_cons, ← rows_drop hf l k, List.drop_append, List.drop_eq_nil_of_le (by rw [hf, Nat.succ_mul]; omega), List.nil_append, hf, show (k + 1) * n - n = k * n by rw [Nat.succ_mul]; omega]

section
variable {W w : World} {L : List SP}

theorem IndexFunc_Entry {A : SP} {s : Sl} {ps : List EN} {cap : Value} {c : EN → Bool} {g : FuncId} (hb : hasBody Tryz.prog g = true) (hs : Sat W w (own 3 s (ps.flatMap encells) :: A :: L)) (hn : s.len ≤ 2 ^ 40)
    (hc : ∀ p w, Sat W w (own 3 s (ps.flatMap encells) :: A :: L) → Ret Tryz.prog g [.agg ⟨encells p⟩, cap] w fun v w' => v = .bool (c p) ∧ Sat W w' (own 3 s (ps.flatMap encells) :: A :: L)) :
    Ret Tryz.prog F.slices_IndexFunc_Entry [.slice s.a s.len s.cap, .func (.func g) ⟨[]⟩ ⟨[cap]⟩] w fun v w' => Sat W w' (own 3 s (ps.flatMap encells) :: A :: L) ∧
      ((v = .int .i64 (-1) ∧ ∀ p ∈ ps, c p = false) ∨ ∃ k : Nat, v = .int .i64 k ∧ k < ps.length ∧ (∀ i p, i < k → ps[i]? = some p → c p = false) ∧ ∀ p, ps[k]? = some p → c p = true) := by
  refine S.slices_IndexFunc_Entry_ok s _ _ _ ?_
  have hlen : ps.length = s.len := by have := hs.own_len; rw [flat_len encells_len] at this; omega
  have call : ∀ (p : EN) (w : World) (K : Bool → World → Prop), Sat W w (own 3 s (ps.flatMap encells) :: A :: L) → (∀ w', Sat W w' (own 3 s (ps.flatMap encells) :: A :: L) → K (c p) w') →
      XCallV Tryz.prog (.func (.func g) ⟨[]⟩ ⟨[cap]⟩) [.agg ⟨encells p⟩] (.leaf .bool) w K := by
    intro p w K h hk
    unfold XCallV
    simp only [hb, List.nil_append, List.singleton_append]
    exact xcall (t := .leaf .bool) (hc p w h) fun v w' ⟨e, h⟩ => ⟨c p, e, hk w' h⟩
  refine xloop (fun (st : Int × Int × Unit) w => ∃ i : Nat, st = (0, (i : Int), ()) ∧ i ≤ ps.length ∧ (∀ j p, j < i → ps[j]? = some p → c p = false) ∧ Sat W w (own 3 s (ps.flatMap encells) :: A :: L))
    (fun st => ((s.len : Int) - st.2.1).toNat) ⟨0, rfl, Nat.zero_le _, fun j p h => by omega, hs⟩ ?_
  rintro next _ w ⟨i, rfl, hi, hno, h⟩ hnext
  by_cases hlt : i < ps.length
  · obtain ⟨p, hp⟩ : ∃ p, ps[i]? = some p := ⟨_, List.getElem?_eq_getElem hlt⟩
    obtain ⟨a, ha, hcell⟩ := h.own_some (by omega)
    refine XIf.yes (decide_eq_true (show (i : Int) < (s.len : Int) by omega)) ?_
    rw [ha]
    refine xnil ⟨⟨by show (0 : Int) ≤ (i : Int); omega, by show (i : Int) < (s.len : Int); omega⟩, xloads (enH p) (fun j v hv => ?_) (call p w _ h fun w' h' => ?_)⟩
    · rw [Int.toNat_natCast, Addr.add_mk, Addr.add_mk, Nat.zero_add]
      exact hcell _ _ (rows_get encells_len hp hv)
    · cases hcp : c p with
      | true => exact XIf.yes rfl ⟨h', .inr ⟨i, rfl, hlt, hno, fun q hq => by rw [hp] at hq; cases hq; exact hcp⟩⟩
      | false =>
        refine XIf.no rfl (xlet ((i + 1 : Nat) : Int) (by dsimp only; rw [wi (by omega) (by omega)]; omega) (hnext _ _ ⟨i + 1, rfl, hlt, fun j q hj hq => ?_, h'⟩ (by dsimp only; omega)))
        by_cases hji : j < i
        · exact hno j q hji hq
        · have : j = i := by omega
          subst this
          rw [hp] at hq; cases hq; exact hcp
  · refine XIf.no (decide_eq_false (show ¬ (i : Int) < (s.len : Int) by omega)) ⟨h, .inl ⟨rfl, fun p hp => ?_⟩⟩
    obtain ⟨j, hj⟩ := List.getElem?_of_mem hp
    exact hno j p (by have := (List.getElem?_eq_some_iff.1 hj).1; omega) hj

theorem DeleteFunc_Entry {A : SP} {s : Sl} {ps : List EN} {cap : Value} {c : EN → Bool} {g : FuncId} (hb : hasBody Tryz.prog g = true) (hs : Sat W w (own 3 s (ps.flatMap encells) :: A :: L)) (hn : s.len ≤ 2 ^ 40)
    (hc : ∀ (qs : List EN) p w L, Sat W w (own 3 s (qs.flatMap encells) :: A :: L) → Ret Tryz.prog g [.agg ⟨encells p⟩, cap] w fun v w' => v = .bool (c p) ∧ Sat W w' (own 3 s (qs.flatMap encells) :: A :: L)) :
    Ret Tryz.prog F.slices_DeleteFunc_Entry [.slice s.a s.len s.cap, .func (.func g) ⟨[]⟩ ⟨[cap]⟩] w fun v w' => ∃ s' : Sl, v = .slice s'.a s'.len s'.cap ∧ Sat W w' (own 3 s' ((ps.filter fun p => !c p).flatMap encells) :: A :: L) := by
  suffices H : ∀ K : Value → World → Prop, (∀ (s' : Sl) w', Sat W w' (own 3 s' ((ps.filter fun p => !c p).flatMap encells) :: A :: L) → K (.slice s'.a s'.len s'.cap) w') → S.slices_DeleteFunc_Entry s (.func (.func g) ⟨[]⟩ ⟨[cap]⟩) K w from
    S.slices_DeleteFunc_Entry_ok s _ _ _ (H _ fun s' _ h => ⟨s', rfl, h⟩)
  intro K hK
  have hlen : ps.length = s.len := by have := hs.own_len; rw [flat_len encells_len] at this; omega
  have call : ∀ (qs : List EN) (p : EN) (w : World) (L : List SP) (K : Bool → World → Prop), Sat W w (own 3 s (qs.flatMap encells) :: A :: L) → (∀ w', Sat W w' (own 3 s (qs.flatMap encells) :: A :: L) → K (c p) w') →
      XCallV Tryz.prog (.func (.func g) ⟨[]⟩ ⟨[cap]⟩) [.agg ⟨encells p⟩] (.leaf .bool) w K := by
    intro qs p w L K h hk
    unfold XCallV
    simp only [hb, List.nil_append, List.singleton_append]
    exact xcall (t := .leaf .bool) (hc qs p w L h) fun v w' ⟨e, h⟩ => ⟨c p, e, hk w' h⟩
  refine xcall (IndexFunc_Entry (c := c) hb hs hn fun p w h => hc ps p w L h) ?_
  rintro v w1 ⟨h1, hcase⟩
  rcases hcase with ⟨rfl, hno⟩ | ⟨k, rfl, hk, hno, hyes⟩
  · refine ⟨(-1 : Int), rfl, XIf.yes rfl (hK s w1 ?_)⟩
    rw [filter_none hno]
    exact h1
  obtain ⟨p0, hp0⟩ : ∃ p, ps[k]? = some p := ⟨_, List.getElem?_eq_getElem hk⟩
  have hk0 : (ps.take k).filter (fun p => !c p) = ps.take k := filter_none fun p hp => by
    obtain ⟨j, hj⟩ := List.getElem?_of_mem hp
    have hjk := (List.getElem?_eq_some_iff.1 hj).1
    rw [List.length_take] at hjk
    rw [List.getElem?_take_of_lt (by omega)] at hj
    exact hno j p (by omega) hj
  refine ⟨(k : Int), rfl, XIf.no (by simp) (xlet ((k + 1 : Nat) : Int) (by rw [wi (by omega) (by omega)]; omega) ?_)⟩
  refine xloop (fun (st : Int × Int × Unit) w => ∃ (i j : Nat) (qs : List EN), st = ((i : Int), (j : Int), ()) ∧ i < j ∧ j ≤ ps.length ∧ qs.length = ps.length ∧ qs.take i = (ps.take j).filter (fun p => !c p) ∧ qs.drop j = ps.drop j ∧
      Sat W w (own 3 s (qs.flatMap encells) :: A :: L))
    (fun st => ((s.len : Int) - st.2.1).toNat) ⟨k, k + 1, ps, rfl, by omega, hk, rfl, ?_, rfl, h1⟩ ?_
  · rw [filter_snoc _ ps k p0 hp0, hk0, hyes p0 hp0]
    simp
  rintro next _ w ⟨i, j, qs, rfl, hij, hj, hql, htake, hdrop, h⟩ hnext
  by_cases hlt : j < ps.length
  · obtain ⟨p, hp⟩ : ∃ p, ps[j]? = some p := ⟨_, List.getElem?_eq_getElem hlt⟩
    have hqp : qs[j]? = some p := by
      have := congrArg (·[0]?) hdrop
      simp only [List.getElem?_drop, Nat.add_zero] at this
      rw [this, hp]
    have hdrop' : qs.drop (j + 1) = ps.drop (j + 1) := by
      have := congrArg (List.drop 1) hdrop
      simpa [List.drop_drop] using this
    refine XIf.yes (decide_eq_true (show (j : Int) < (s.len : Int) by omega)) (xjoin (fun (st : Int × Unit) w' => ∃ (i' : Nat) (qs' : List EN), st = ((i' : Int), ()) ∧ i' < j + 1 ∧ qs'.length = ps.length ∧ qs'.take i' = (ps.take (j + 1)).filter (fun p => !c p) ∧ qs'.drop (j + 1) = ps.drop (j + 1) ∧
      Sat W w' (own 3 s (qs'.flatMap encells) :: A :: L)) (fun J hJ => ?_) ?_)
    case refine_2 =>
      rintro _ w' ⟨i', qs', rfl, h2, h3, h4, h5, h6⟩
      exact xlet ((j + 1 : Nat) : Int) (by dsimp only; rw [wi (by omega) (by omega)]; omega) (hnext _ _ ⟨i', j + 1, qs', rfl, h2, hlt, h3, h4, h5, h6⟩ (by dsimp only; omega))
    obtain ⟨a, ha, hcell⟩ := h.own_some (by omega)
    refine (show XNil s.a _ from ?_)
    rw [ha]
    refine xnil ⟨⟨by show (0 : Int) ≤ (j : Int); omega, by show (j : Int) < (s.len : Int); omega⟩, xloads (enH p) (fun m v hv => ?_) (xnew h fun b w2 h2 => ?_)⟩
    · rw [Int.toNat_natCast, Addr.add_mk, Addr.add_mk, Nat.zero_add]
      exact hcell _ _ (rows_get encells_len hqp hv)
    refine xstores (encells p) 0 w2 _ h2 (Nat.le_refl 3) fun w3 h3 => ?_
    have h3 : Sat W w3 (pts b (encells p) :: own 3 s (qs.flatMap encells) :: A :: L) := h3
    refine xloads (enH p) (fun m v hv => by rw [Addr.add_mk, Nat.zero_add]; exact h3.cell hv) ?_
    have h4 : Sat W w3 (own 3 s (qs.flatMap encells) :: A :: pts b (encells p) :: L) := h3.arr [1, 2, 0]
    refine call qs p w3 _ _ h4 fun w4 h5 => ?_
    cases hcp : c p with
    | true =>
      refine XIf.no rfl (hJ _ _ ⟨i, qs, rfl, by omega, hql, ?_, hdrop', (h5.bring 2).drop⟩)
      rw [filter_snoc _ ps j p hp, htake, hcp]
      simp
    | false =>
      have hil : i < qs.length := by omega
      refine XIf.yes rfl (xloads (enH p) (fun m v hv => by rw [Addr.add_mk, Nat.zero_add]; exact (h5.bring 2).cell hv) ?_)
      rw [← ha]
      refine xputs h5 i rfl (by omega) (by rw [Int.toNat_natCast]) (vs := encells p) rfl fun a w5 h6 => xlet ((i + 1 : Nat) : Int) (by dsimp only; rw [wi (by omega) (by omega)]; omega) (hJ _ _ ⟨i + 1, qs.set i p, rfl, by omega, by rw [List.length_set, hql], ?_, ?_, ?_⟩)
      · rw [set_take qs i p hil, htake, filter_snoc _ ps j p hp, hcp]
        simp
      · rw [List.drop_set_of_lt (by omega)]
        exact hdrop'
      · rw [rows_set encells_len qs i p hil] at h6
        exact (h6.bring 2).drop
  · -- what is left is cleared
    have hjl : j = ps.length := by omega
    have hil : i ≤ s.len := by omega
    have hcap := h.own_cap
    have had := h.own_addr
    refine XIf.no (decide_eq_false (show ¬ (j : Int) < (s.len : Int) by omega)) ⟨⟨by omega, by show (0 : Int) ≤ (i : Int); omega, by show (i : Int) ≤ (s.len : Int); omega⟩, xlet0 ?_⟩
    have h2 := h.own_shrink i hil
    refine xclear (s := ⟨s.a, i, s.cap⟩) (by kernel_rfl) (by omega) h2 (fun b hb hlt => ?_) (by (try dsimp only); omega) fun w5 h3 => ⟨⟨by show (0 : Int) ≤ (i : Int) ∧ (i : Int) ≤ (s.cap : Int); omega, by omega, by show (0 : Int) ≤ (i : Int); omega⟩, xlet ⟨s.a, i, s.cap⟩ (by rw [view_zero had]; simp) (hK ⟨s.a, i, s.cap⟩ w5 ?_)⟩
    · dsimp only
      rw [Int.toNat_natCast]
      exact view_ptr hb hlt
    · have e : (qs.flatMap encells).take (i * 3) = (qs.take i).flatMap encells := rows_take encells_len qs i
      rw [e, htake, hjl, List.take_of_length_le (Nat.le_refl _)] at h3
      exact h3

theorem IndexFunc_gen {A : SP} {s : Sl} {ps : List GN} {cap : Value} {c : GN → Bool} {g : FuncId} (hb : hasBody Tryz.prog g = true) (hs : Sat W w (own 4 s (ps.flatMap gncells) :: A :: L)) (hn : s.len ≤ 2 ^ 40)
    (hc : ∀ p w, Sat W w (own 4 s (ps.flatMap gncells) :: A :: L) → Ret Tryz.prog g [.agg ⟨gncells p⟩, cap] w fun v w' => v = .bool (c p) ∧ Sat W w' (own 4 s (ps.flatMap gncells) :: A :: L)) :
    Ret Tryz.prog F.slices_IndexFunc_gen [.slice s.a s.len s.cap, .func (.func g) ⟨[]⟩ ⟨[cap]⟩] w fun v w' => Sat W w' (own 4 s (ps.flatMap gncells) :: A :: L) ∧
      ((v = .int .i64 (-1) ∧ ∀ p ∈ ps, c p = false) ∨ ∃ k : Nat, v = .int .i64 k ∧ k < ps.length ∧ (∀ i p, i < k → ps[i]? = some p → c p = false) ∧ ∀ p, ps[k]? = some p → c p = true) := by
  refine S.slices_IndexFunc_gen_ok s _ _ _ ?_
  have hlen : ps.length = s.len := by have := hs.own_len; rw [flat_len gncells_len] at this; omega
  have call : ∀ (p : GN) (w : World) (K : Bool → World → Prop), Sat W w (own 4 s (ps.flatMap gncells) :: A :: L) → (∀ w', Sat W w' (own 4 s (ps.flatMap gncells) :: A :: L) → K (c p) w') →
      XCallV Tryz.prog (.func (.func g) ⟨[]⟩ ⟨[cap]⟩) [.agg ⟨gncells p⟩] (.leaf .bool) w K := by
    intro p w K h hk
    unfold XCallV
    simp only [hb, List.nil_append, List.singleton_append]
    exact xcall (t := .leaf .bool) (hc p w h) fun v w' ⟨e, h⟩ => ⟨c p, e, hk w' h⟩
  refine xloop (fun (st : Int × Int × Unit) w => ∃ i : Nat, st = (0, (i : Int), ()) ∧ i ≤ ps.length ∧ (∀ j p, j < i → ps[j]? = some p → c p = false) ∧ Sat W w (own 4 s (ps.flatMap gncells) :: A :: L))
    (fun st => ((s.len : Int) - st.2.1).toNat) ⟨0, rfl, Nat.zero_le _, fun j p h => by omega, hs⟩ ?_
  rintro next _ w ⟨i, rfl, hi, hno, h⟩ hnext
  by_cases hlt : i < ps.length
  · obtain ⟨p, hp⟩ : ∃ p, ps[i]? = some p := ⟨_, List.getElem?_eq_getElem hlt⟩
    obtain ⟨a, ha, hcell⟩ := h.own_some (by omega)
    refine XIf.yes (decide_eq_true (show (i : Int) < (s.len : Int) by omega)) ?_
    rw [ha]
    refine xnil ⟨⟨by show (0 : Int) ≤ (i : Int); omega, by show (i : Int) < (s.len : Int); omega⟩, xloads (gnH p) (fun j v hv => ?_) (call p w _ h fun w' h' => ?_)⟩
    · rw [Int.toNat_natCast, Addr.add_mk, Addr.add_mk, Nat.zero_add]
      exact hcell _ _ (rows_get gncells_len hp hv)
    · cases hcp : c p with
      | true => exact XIf.yes rfl ⟨h', .inr ⟨i, rfl, hlt, hno, fun q hq => by rw [hp] at hq; cases hq; exact hcp⟩⟩
      | false =>
        refine XIf.no rfl (xlet ((i + 1 : Nat) : Int) (by dsimp only; rw [wi (by omega) (by omega)]; omega) (hnext _ _ ⟨i + 1, rfl, hlt, fun j q hj hq => ?_, h'⟩ (by dsimp only; omega)))
        by_cases hji : j < i
        · exact hno j q hji hq
        · have : j = i := by omega
          subst this
          rw [hp] at hq; cases hq; exact hcp
  · refine XIf.no (decide_eq_false (show ¬ (i : Int) < (s.len : Int) by omega)) ⟨h, .inl ⟨rfl, fun p hp => ?_⟩⟩
    obtain ⟨j, hj⟩ := List.getElem?_of_mem hp
    exact hno j p (by have := (List.getElem?_eq_some_iff.1 hj).1; omega) hj

theorem DeleteFunc_gen {A : SP} {s : Sl} {ps : List GN} {cap : Value} {c : GN → Bool} {g : FuncId} (hb : hasBody Tryz.prog g = true) (hs : Sat W w (own 4 s (ps.flatMap gncells) :: A :: L)) (hn : s.len ≤ 2 ^ 40)
    (hc : ∀ (qs : List GN) p w L, Sat W w (own 4 s (qs.flatMap gncells) :: A :: L) → Ret Tryz.prog g [.agg ⟨gncells p⟩, cap] w fun v w' => v = .bool (c p) ∧ Sat W w' (own 4 s (qs.flatMap gncells) :: A :: L)) :
    Ret Tryz.prog F.slices_DeleteFunc_gen [.slice s.a s.len s.cap, .func (.func g) ⟨[]⟩ ⟨[cap]⟩] w fun v w' => ∃ s' : Sl, v = .slice s'.a s'.len s'.cap ∧ Sat W w' (own 4 s' ((ps.filter fun p => !c p).flatMap gncells) :: A :: L) := by
  suffices H : ∀ K : Value → World → Prop, (∀ (s' : Sl) w', Sat W w' (own 4 s' ((ps.filter fun p => !c p).flatMap gncells) :: A :: L) → K (.slice s'.a s'.len s'.cap) w') → S.slices_DeleteFunc_gen s (.func (.func g) ⟨[]⟩ ⟨[cap]⟩) K w from
    S.slices_DeleteFunc_gen_ok s _ _ _ (H _ fun s' _ h => ⟨s', rfl, h⟩)
  intro K hK
  have hlen : ps.length = s.len := by have := hs.own_len; rw [flat_len gncells_len] at this; omega
  have call : ∀ (qs : List GN) (p : GN) (w : World) (L : List SP) (K : Bool → World → Prop), Sat W w (own 4 s (qs.flatMap gncells) :: A :: L) → (∀ w', Sat W w' (own 4 s (qs.flatMap gncells) :: A :: L) → K (c p) w') →
      XCallV Tryz.prog (.func (.func g) ⟨[]⟩ ⟨[cap]⟩) [.agg ⟨gncells p⟩] (.leaf .bool) w K := by
    intro qs p w L K h hk
    unfold XCallV
    simp only [hb, List.nil_append, List.singleton_append]
    exact xcall (t := .leaf .bool) (hc qs p w L h) fun v w' ⟨e, h⟩ => ⟨c p, e, hk w' h⟩
  refine xcall (IndexFunc_gen (c := c) hb hs hn fun p w h => hc ps p w L h) ?_
  rintro v w1 ⟨h1, hcase⟩
  rcases hcase with ⟨rfl, hno⟩ | ⟨k, rfl, hk, hno, hyes⟩
  · refine ⟨(-1 : Int), rfl, XIf.yes rfl (hK s w1 ?_)⟩
    rw [filter_none hno]
    exact h1
  obtain ⟨p0, hp0⟩ : ∃ p, ps[k]? = some p := ⟨_, List.getElem?_eq_getElem hk⟩
  have hk0 : (ps.take k).filter (fun p => !c p) = ps.take k := filter_none fun p hp => by
    obtain ⟨j, hj⟩ := List.getElem?_of_mem hp
    have hjk := (List.getElem?_eq_some_iff.1 hj).1
    rw [List.length_take] at hjk
    rw [List.getElem?_take_of_lt (by omega)] at hj
    exact hno j p (by omega) hj
  refine ⟨(k : Int), rfl, XIf.no (by simp) (xlet ((k + 1 : Nat) : Int) (by rw [wi (by omega) (by omega)]; omega) ?_)⟩
  refine xloop (fun (st : Int × Int × Unit) w => ∃ (i j : Nat) (qs : List GN), st = ((i : Int), (j : Int), ()) ∧ i < j ∧ j ≤ ps.length ∧ qs.length = ps.length ∧ qs.take i = (ps.take j).filter (fun p => !c p) ∧ qs.drop j = ps.drop j ∧
      Sat W w (own 4 s (qs.flatMap gncells) :: A :: L))
    (fun st => ((s.len : Int) - st.2.1).toNat) ⟨k, k + 1, ps, rfl, by omega, hk, rfl, ?_, rfl, h1⟩ ?_
  · rw [filter_snoc _ ps k p0 hp0, hk0, hyes p0 hp0]
    simp
  rintro next _ w ⟨i, j, qs, rfl, hij, hj, hql, htake, hdrop, h⟩ hnext
  by_cases hlt : j < ps.length
  · obtain ⟨p, hp⟩ : ∃ p, ps[j]? = some p := ⟨_, List.getElem?_eq_getElem hlt⟩
    have hqp : qs[j]? = some p := by
      have := congrArg (·[0]?) hdrop
      simp only [List.getElem?_drop, Nat.add_zero] at this
      rw [this, hp]
    have hdrop' : qs.drop (j + 1) = ps.drop (j + 1) := by
      have := congrArg (List.drop 1) hdrop
      simpa [List.drop_drop] using this
    refine XIf.yes (decide_eq_true (show (j : Int) < (s.len : Int) by omega)) (xjoin (fun (st : Int × Unit) w' => ∃ (i' : Nat) (qs' : List GN), st = ((i' : Int), ()) ∧ i' < j + 1 ∧ qs'.length = ps.length ∧ qs'.take i' = (ps.take (j + 1)).filter (fun p => !c p) ∧ qs'.drop (j + 1) = ps.drop (j + 1) ∧
      Sat W w' (own 4 s (qs'.flatMap gncells) :: A :: L)) (fun J hJ => ?_) ?_)
    case refine_2 =>
      rintro _ w' ⟨i', qs', rfl, h2, h3, h4, h5, h6⟩
      exact xlet ((j + 1 : Nat) : Int) (by dsimp only; rw [wi (by omega) (by omega)]; omega) (hnext _ _ ⟨i', j + 1, qs', rfl, h2, hlt, h3, h4, h5, h6⟩ (by dsimp only; omega))
    obtain ⟨a, ha, hcell⟩ := h.own_some (by omega)
    refine (show XNil s.a _ from ?_)
    rw [ha]
    refine xnil ⟨⟨by show (0 : Int) ≤ (j : Int); omega, by show (j : Int) < (s.len : Int); omega⟩, xloads (gnH p) (fun m v hv => ?_) (xnew h fun b w2 h2 => ?_)⟩
    · rw [Int.toNat_natCast, Addr.add_mk, Addr.add_mk, Nat.zero_add]
      exact hcell _ _ (rows_get gncells_len hqp hv)
    refine xstores (gncells p) 0 w2 _ h2 (Nat.le_refl 4) fun w3 h3 => ?_
    have h3 : Sat W w3 (pts b (gncells p) :: own 4 s (qs.flatMap gncells) :: A :: L) := h3
    refine xloads (gnH p) (fun m v hv => by rw [Addr.add_mk, Nat.zero_add]; exact h3.cell hv) ?_
    have h4 : Sat W w3 (own 4 s (qs.flatMap gncells) :: A :: pts b (gncells p) :: L) := h3.arr [1, 2, 0]
    refine call qs p w3 _ _ h4 fun w4 h5 => ?_
    cases hcp : c p with
    | true =>
      refine XIf.no rfl (hJ _ _ ⟨i, qs, rfl, by omega, hql, ?_, hdrop', (h5.bring 2).drop⟩)
      rw [filter_snoc _ ps j p hp, htake, hcp]
      simp
    | false =>
      have hil : i < qs.length := by omega
      refine XIf.yes rfl (xloads (gnH p) (fun m v hv => by rw [Addr.add_mk, Nat.zero_add]; exact (h5.bring 2).cell hv) ?_)
      rw [← ha]
      refine xputs h5 i rfl (by omega) (by rw [Int.toNat_natCast]) (vs := gncells p) rfl fun a w5 h6 => xlet ((i + 1 : Nat) : Int) (by dsimp only; rw [wi (by omega) (by omega)]; omega) (hJ _ _ ⟨i + 1, qs.set i p, rfl, by omega, by rw [List.length_set, hql], ?_, ?_, ?_⟩)
      · rw [set_take qs i p hil, htake, filter_snoc _ ps j p hp, hcp]
        simp
      · rw [List.drop_set_of_lt (by omega)]
        exact hdrop'
      · rw [rows_set gncells_len qs i p hil] at h6
        exact (h6.bring 2).drop
  · -- what is left is cleared
    have hjl : j = ps.length := by omega
    have hil : i ≤ s.len := by omega
    have hcap := h.own_cap
    have had := h.own_addr
    refine XIf.no (decide_eq_false (show ¬ (j : Int) < (s.len : Int) by omega)) ⟨⟨by omega, by show (0 : Int) ≤ (i : Int); omega, by show (i : Int) ≤ (s.len : Int); omega⟩, xlet0 ?_⟩
    have h2 := h.own_shrink i hil
    refine xclear (s := ⟨s.a, i, s.cap⟩) (by kernel_rfl) (by omega) h2 (fun b hb hlt => ?_) (by (try dsimp only); omega) fun w5 h3 => ⟨⟨by show (0 : Int) ≤ (i : Int) ∧ (i : Int) ≤ (s.cap : Int); omega, by omega, by show (0 : Int) ≤ (i : Int); omega⟩, xlet ⟨s.a, i, s.cap⟩ (by rw [view_zero had]; simp) (hK ⟨s.a, i, s.cap⟩ w5 ?_)⟩
    · dsimp only
      rw [Int.toNat_natCast]
      exact view_ptr hb hlt
    · have e : (qs.flatMap gncells).take (i * 4) = (qs.take i).flatMap gncells := rows_take gncells_len qs i
      rw [e, htake, hjl, List.take_of_length_le (Nat.le_refl _)] at h3
      exact h3


theorem Insert_Entry {s : Sl} {es : List EN} {e : EN} {b k : Nat} (hs : Sat W w (pts b (encells e) :: own 3 s (es.flatMap encells) :: L)) (hfz : ∀ o, w.frozen? ⟨b, o, none⟩ = false) (hk : k ≤ es.length) (hsz : es.length + 1 ≤ 2 ^ 40) :
    Ret Tryz.prog F.slices_Insert_Entry [.slice s.a s.len s.cap, .int .i64 k, .slice (some ⟨b, 0, none⟩) 1 1] w fun r w' => ∃ s' : Sl, r = .slice s'.a s'.len s'.cap ∧ Sat W w' (own 3 s' ((es.take k ++ e :: es.drop k).flatMap encells) :: L) := by
  obtain ⟨xs, hxs⟩ : ∃ xs, es.flatMap encells = xs := ⟨_, rfl⟩
  have hel := rows_len encells_len (by decide) hs.swap
  have hx1 : allOne xs = true := by rw [← hxs]; exact flat_one encells_one es
  rw [hxs] at hs
  have hvl : (encells e).length = 3 := rfl
  suffices H : ∀ K : Value → World → Prop, (∀ (s' : Sl) w', s'.len = s.len + 1 → Sat W w' (own 3 s' (xs.take (k * 3) ++ encells e ++ xs.drop (k * 3)) :: L) → K (.slice s'.a s'.len s'.cap) w') → S.slices_Insert_Entry s k ⟨some ⟨b, 0, none⟩, 1, 1⟩ K w from S.slices_Insert_Entry_ok s _ ⟨some ⟨b, 0, none⟩, 1, 1⟩ _ _ (H _ fun s' _ h1 h2 => ⟨s', rfl, by
      rw [List.flatMap_append, List.flatMap_cons, ← rows_take encells_len, ← rows_drop encells_len, hxs, ← List.append_assoc]
      exact h2⟩)
  intro K hK
  have hxl : xs.length = s.len * 3 := hs.swap.own_len
  have hcap := hs.swap.own_cap
  have had := hs.swap.own_addr
  have hv1 : allOne (encells e) = true := rfl
  have hd1 : allOne (xs.drop (k * 3)) = true := allOne_of fun v hv => oneCell_of_allOne hx1 v (List.mem_of_mem_drop hv)
  refine ⟨⟨by omega, by omega, by omega⟩, xlet0 (XIf.no rfl ?_)⟩
  by_cases hkl : k = s.len
  · refine XIf.yes (by simp [hkl]) (xappend (x := ⟨some ⟨b, 0, none⟩, 1, 1⟩) (by kernel_rfl) hs.swap (reads_pts hs) rfl (fun h => by cases h) hv1 (by show s.len + 1 ≤ _; omega) fun s' w' h hl => hK s' w' hl ?_)
    rw [List.take_of_length_le (by omega), List.drop_eq_nil_of_le (by omega), List.append_nil]
    exact h.swap.drop
  refine XIf.no (by simp; omega) (xlet ((s.len + 1 : Nat) : Int) (by show IntKind.wrap .i64 ((s.len : Int) + 1) = _; rw [wi (by omega) (by omega)]; rfl) ?_)
  have hklt : k < s.len := by omega
  obtain ⟨b0, hb0⟩ : ∃ b0, s.a = some ⟨b0, 0, none⟩ := ⟨_, (hs.swap.own_some (by omega)).choose_spec.1⟩
  by_cases hroom : s.cap < s.len + 1
  · refine XIf.yes (decide_eq_true (show ((s.len + 1 : Nat) : Int) > (s.cap : Int) by omega)) ⟨⟨by omega, by omega, by omega⟩,
      xlet ⟨s.a, k, s.cap⟩ (by rw [view_zero had]; simp) (xlet ((s.len + 1 : Nat) : Int) (by show IntKind.wrap .i64 ((s.len : Int) + 1) = _; rw [wi (by omega) (by omega)]; rfl) (xlet ((s.len + 1 - k : Nat) : Int) (by rw [wi (by omega) (by omega)]; omega) ?_))⟩
    have hrd : Reads w ⟨s.a, k, s.cap⟩ (xs.take (k * 3)) := by
      intro a ha j u hj
      refine reads_own hs.swap a ha j u ?_
      rw [List.getElem?_take] at hj
      split at hj
      · exact hj
      · cases hj
    refine xgrowN (sz := 3) (n := k) (m := s.len + 1 - k) (vs := xs.take (k * 3)) (by kernel_rfl) hs hrd (by rw [List.length_take]; omega) (fun h => ?_) rfl (by (try dsimp only); omega) (by omega) ?_
    · have h : s.a = none := h
      rw [h] at hb0; cases hb0
    intro zs s' w1 hz h hl'
    have hcap' := h.own_cap
    refine ⟨⟨by omega, by omega, by omega⟩, xlet0 ?_⟩
    refine xcopy (sz := 3) (s := s') (k := k) (m := 1) (n := 1) (vs := (encells e)) (by kernel_rfl) h (fun b ha hk => by rw [Int.toNat_natCast]; exact view_ptr ha hk) (by omega) (by (try dsimp only); omega) rfl ?_ ?_ rfl hv1 ?_
    · show 1 = min 1 _; dsimp only; omega
    · exact run_first (s := ⟨some ⟨b, 0, none⟩, 1, 1⟩) (reads_pts (h.bring 1)) rfl (fun h => by cases h) 1 1
    intro w2 h
    refine xlet ((k + 1 : Nat) : Int) (by show IntKind.wrap .i64 ((k : Int) + 1) = _; rw [wi (by omega) (by omega)]; rfl) ⟨⟨by omega, by omega, by omega⟩, xlet0 ⟨⟨by omega, by omega, by omega⟩, xlet0 ?_⟩⟩
    refine xcopy (sz := 3) (s := s') (k := k + 1) (m := s.len - k) (n := s.len - k) (vs := xs.drop (k * 3)) (by kernel_rfl) h.drew (fun b ha hk => by rw [Int.toNat_natCast]; exact view_ptr ha hk) (by omega) (by (try dsimp only); omega) ?_ ?_ ?_ (by rw [List.length_drop]; omega) hd1 ?_
    · simp [Builtin.lenOf]
    · show _ = min _ _; dsimp only; omega
    · have hr := reads_view ((h.drew).bring 2) (c := s.cap) (k := k) (n := s.len - k) (m := s.cap - k) (fun h => by omega)
      have := run_first (P := Tryz.prog) (sz := 3) (n := s.len - k) hr (by rw [List.length_drop]; omega) (fun h => by
        dsimp only at h; rw [if_neg (by omega), hb0] at h; cases h) (s.len - k) (s.cap - k)
      simpa using this
    intro w3 h
    refine hK s' w3 (by omega) ?_
    have e1 : splice (xs.take (k * 3) ++ zs) (k * 3) (encells e) = xs.take (k * 3) ++ (encells e) ++ zs.drop 3 := splice_at _ _ _ _ (by rw [List.length_take]; omega)
    have e2 : splice (xs.take (k * 3) ++ (encells e) ++ zs.drop 3) ((k + 1) * 3) (xs.drop (k * 3)) = xs.take (k * 3) ++ (encells e) ++ xs.drop (k * 3) := by
      have h3 : (zs.drop 3).drop (xs.drop (k * 3)).length = [] := List.drop_eq_nil_of_le (by rw [List.length_drop, List.length_drop]; omega)
      rw [splice_at _ _ _ _ (by rw [List.length_append, List.length_take, hvl]; omega), h3, List.append_nil]
    rw [e1, e2] at h
    exact (h.swap.drop).swap.drop
  · refine XIf.no (decide_eq_false (show ¬ ((s.len + 1 : Nat) : Int) > (s.cap : Int) by omega)) ?_
    obtain ⟨ys, hys, hst⟩ := hs.swap.own_stretch (s.len + 1) (by omega) (by omega)
    refine xlet ((s.len + 1 : Nat) : Int) (by show IntKind.wrap .i64 ((s.len : Int) + 1) = _; rw [wi (by omega) (by omega)]; rfl) ⟨⟨(by (try dsimp only); omega), (by (try dsimp only); omega), (by (try dsimp only); omega)⟩, xlet ⟨s.a, s.len + 1, s.cap⟩ (by rw [view_zero had]; simp) (xlet ((k + 1 : Nat) : Int) (by show IntKind.wrap .i64 ((k : Int) + 1) = _; rw [wi (by omega) (by omega)]; rfl) ⟨⟨(by (try dsimp only); omega), (by (try dsimp only); omega), (by (try dsimp only); omega)⟩, xlet0 ?_⟩)⟩
    refine xoverlaps (k := k + 1) (sz := 3) Fu.slices_overlaps_Entry (by kernel_rfl) (by kernel_rfl) (by kernel_rfl) (by kernel_rfl) (by kernel_rfl) (by omega) hst.swap hfz (fun b hb => by rw [Int.toNat_natCast]; exact view_ptr hb (by (try dsimp only); omega)) (fun h => ?_) (Nat.succ_pos _) ?_
    · have h : s.a = none := h
      rw [h] at hb0; cases hb0
    refine XIf.yes rfl (xlet ((k + 1 : Nat) : Int) (by show IntKind.wrap .i64 ((k : Int) + 1) = _; rw [wi (by omega) (by omega)]; rfl) ⟨⟨(by (try dsimp only); omega), (by (try dsimp only); omega), (by (try dsimp only); omega)⟩, xlet0 ⟨⟨(by (try dsimp only); omega), (by (try dsimp only); omega), (by (try dsimp only); omega)⟩, xlet0 ?_⟩⟩)
    have hrd : (Builtin.firstCells 3 (s.len - k) (.slice (if s.cap = k then s.a else Option.map (fun b => Addr.add b (k * 3)) s.a) (s.len + 1 - k) (s.cap - k))).run Tryz.prog w.drew = .ok ⟨xs.drop (k * 3)⟩ w.drew := by
      have hr := reads_view ((hs.drew).swap) (c := s.cap) (k := k) (n := s.len - k) (m := s.cap - k) (fun h => by omega)
      have := run_first (P := Tryz.prog) (sz := 3) (n := s.len - k) hr (by rw [List.length_drop]; omega) (fun h => by
        dsimp only at h; rw [if_neg (by omega), hb0] at h; cases h) (s.len + 1 - k) (s.cap - k)
      simpa using this
    refine xcopy (sz := 3) (s := ⟨s.a, s.len + 1, s.cap⟩) (k := k + 1) (m := s.len + 1 - k) (n := s.len - k) (vs := xs.drop (k * 3)) (by kernel_rfl) hst.drew (fun b ha hk => by rw [Int.toNat_natCast]; exact view_ptr ha hk) (by (try dsimp only); omega) (by (try dsimp only); omega) ?_ ?_ ?_ (by rw [List.length_drop]; omega) hd1 ?_
    · simp [Builtin.lenOf]
    · show _ = min _ _; dsimp only; omega
    · simpa using hrd
    intro w2 h
    refine ⟨⟨(by (try dsimp only); omega), (by (try dsimp only); omega), (by (try dsimp only); omega)⟩, xlet0 ?_⟩
    refine xcopy (sz := 3) (s := ⟨s.a, s.len + 1, s.cap⟩) (k := k) (m := 1) (n := 1) (vs := (encells e)) (by kernel_rfl) h (fun b ha hk => by rw [Int.toNat_natCast]; exact view_ptr ha hk) (by (try dsimp only); omega) (by (try dsimp only); omega) rfl ?_ ?_ rfl hv1 ?_
    · show 1 = min 1 _; dsimp only; omega
    · exact run_first (s := ⟨some ⟨b, 0, none⟩, 1, 1⟩) (reads_pts (h.bring 1)) rfl (fun h => by cases h) 1 1
    intro w3 h
    refine hK ⟨s.a, s.len + 1, s.cap⟩ w3 rfl ?_
    have hxt : xs ++ ys = xs.take ((k + 1) * 3) ++ (xs.drop ((k + 1) * 3) ++ ys) := by rw [← List.append_assoc, List.take_append_drop]
    have h1' : splice (xs ++ ys) ((k + 1) * 3) (xs.drop (k * 3)) = xs.take ((k + 1) * 3) ++ xs.drop (k * 3) := by
      have h3 : (xs.drop ((k + 1) * 3) ++ ys).drop (xs.drop (k * 3)).length = [] := List.drop_eq_nil_of_le (by rw [List.length_append, List.length_drop, List.length_drop]; omega)
      rw [hxt, splice_at _ _ _ _ (by rw [List.length_take]; omega), h3, List.append_nil]
    have h2' : splice (xs.take ((k + 1) * 3) ++ xs.drop (k * 3)) (k * 3) (encells e) = xs.take (k * 3) ++ encells e ++ xs.drop (k * 3) := by
      have hsplit : xs.take ((k + 1) * 3) = xs.take (k * 3) ++ (xs.drop (k * 3)).take 3 := by rw [Nat.succ_mul, List.take_add]
      have hd3 : ((xs.drop (k * 3)).take 3 ++ xs.drop (k * 3)).drop (encells e).length = xs.drop (k * 3) := by
        rw [hvl, List.drop_left' (by rw [List.length_take, List.length_drop]; omega)]
      rw [hsplit, List.append_assoc, splice_at _ _ _ _ (by rw [List.length_take]; omega), hd3]
    rw [h1', h2'] at h
    exact h.swap.drop


theorem Insert_gen {s : Sl} {es : List GN} {e : GN} {b k : Nat} (hs : Sat W w (pts b (gncells e) :: own 4 s (es.flatMap gncells) :: L)) (hfz : ∀ o, w.frozen? ⟨b, o, none⟩ = false) (hk : k ≤ es.length) (hsz : es.length + 1 ≤ 2 ^ 40) :
    Ret Tryz.prog F.slices_Insert_gen [.slice s.a s.len s.cap, .int .i64 k, .slice (some ⟨b, 0, none⟩) 1 1] w fun r w' => ∃ s' : Sl, r = .slice s'.a s'.len s'.cap ∧ Sat W w' (own 4 s' ((es.take k ++ e :: es.drop k).flatMap gncells) :: L) := by
  obtain ⟨xs, hxs⟩ : ∃ xs, es.flatMap gncells = xs := ⟨_, rfl⟩
  have hel := rows_len gncells_len (by decide) hs.swap
  have hx1 : allOne xs = true := by rw [← hxs]; exact flat_one gncells_one es
  rw [hxs] at hs
  have hvl : (gncells e).length = 4 := rfl
  suffices H : ∀ K : Value → World → Prop, (∀ (s' : Sl) w', s'.len = s.len + 1 → Sat W w' (own 4 s' (xs.take (k * 4) ++ gncells e ++ xs.drop (k * 4)) :: L) → K (.slice s'.a s'.len s'.cap) w') → S.slices_Insert_gen s k ⟨some ⟨b, 0, none⟩, 1, 1⟩ K w from S.slices_Insert_gen_ok s _ ⟨some ⟨b, 0, none⟩, 1, 1⟩ _ _ (H _ fun s' _ h1 h2 => ⟨s', rfl, by
      rw [List.flatMap_append, List.flatMap_cons, ← rows_take gncells_len, ← rows_drop gncells_len, hxs, ← List.append_assoc]
      exact h2⟩)
  intro K hK
  have hxl : xs.length = s.len * 4 := hs.swap.own_len
  have hcap := hs.swap.own_cap
  have had := hs.swap.own_addr
  have hv1 : allOne (gncells e) = true := rfl
  have hd1 : allOne (xs.drop (k * 4)) = true := allOne_of fun v hv => oneCell_of_allOne hx1 v (List.mem_of_mem_drop hv)
  refine ⟨⟨by omega, by omega, by omega⟩, xlet0 (XIf.no rfl ?_)⟩
  by_cases hkl : k = s.len
  · refine XIf.yes (by simp [hkl]) (xappend (x := ⟨some ⟨b, 0, none⟩, 1, 1⟩) (by kernel_rfl) hs.swap (reads_pts hs) rfl (fun h => by cases h) hv1 (by show s.len + 1 ≤ _; omega) fun s' w' h hl => hK s' w' hl ?_)
    rw [List.take_of_length_le (by omega), List.drop_eq_nil_of_le (by omega), List.append_nil]
    exact h.swap.drop
  refine XIf.no (by simp; omega) (xlet ((s.len + 1 : Nat) : Int) (by show IntKind.wrap .i64 ((s.len : Int) + 1) = _; rw [wi (by omega) (by omega)]; rfl) ?_)
  have hklt : k < s.len := by omega
  obtain ⟨b0, hb0⟩ : ∃ b0, s.a = some ⟨b0, 0, none⟩ := ⟨_, (hs.swap.own_some (by omega)).choose_spec.1⟩
  by_cases hroom : s.cap < s.len + 1
  · refine XIf.yes (decide_eq_true (show ((s.len + 1 : Nat) : Int) > (s.cap : Int) by omega)) ⟨⟨by omega, by omega, by omega⟩,
      xlet ⟨s.a, k, s.cap⟩ (by rw [view_zero had]; simp) (xlet ((s.len + 1 : Nat) : Int) (by show IntKind.wrap .i64 ((s.len : Int) + 1) = _; rw [wi (by omega) (by omega)]; rfl) (xlet ((s.len + 1 - k : Nat) : Int) (by rw [wi (by omega) (by omega)]; omega) ?_))⟩
    have hrd : Reads w ⟨s.a, k, s.cap⟩ (xs.take (k * 4)) := by
      intro a ha j u hj
      refine reads_own hs.swap a ha j u ?_
      rw [List.getElem?_take] at hj
      split at hj
      · exact hj
      · cases hj
    refine xgrowN (sz := 4) (n := k) (m := s.len + 1 - k) (vs := xs.take (k * 4)) (by kernel_rfl) hs hrd (by rw [List.length_take]; omega) (fun h => ?_) rfl (by (try dsimp only); omega) (by omega) ?_
    · have h : s.a = none := h
      rw [h] at hb0; cases hb0
    intro zs s' w1 hz h hl'
    have hcap' := h.own_cap
    refine ⟨⟨by omega, by omega, by omega⟩, xlet0 ?_⟩
    refine xcopy (sz := 4) (s := s') (k := k) (m := 1) (n := 1) (vs := (gncells e)) (by kernel_rfl) h (fun b ha hk => by rw [Int.toNat_natCast]; exact view_ptr ha hk) (by omega) (by (try dsimp only); omega) rfl ?_ ?_ rfl hv1 ?_
    · show 1 = min 1 _; dsimp only; omega
    · exact run_first (s := ⟨some ⟨b, 0, none⟩, 1, 1⟩) (reads_pts (h.bring 1)) rfl (fun h => by cases h) 1 1
    intro w2 h
    refine xlet ((k + 1 : Nat) : Int) (by show IntKind.wrap .i64 ((k : Int) + 1) = _; rw [wi (by omega) (by omega)]; rfl) ⟨⟨by omega, by omega, by omega⟩, xlet0 ⟨⟨by omega, by omega, by omega⟩, xlet0 ?_⟩⟩
    refine xcopy (sz := 4) (s := s') (k := k + 1) (m := s.len - k) (n := s.len - k) (vs := xs.drop (k * 4)) (by kernel_rfl) h.drew (fun b ha hk => by rw [Int.toNat_natCast]; exact view_ptr ha hk) (by omega) (by (try dsimp only); omega) ?_ ?_ ?_ (by rw [List.length_drop]; omega) hd1 ?_
    · simp [Builtin.lenOf]
    · show _ = min _ _; dsimp only; omega
    · have hr := reads_view ((h.drew).bring 2) (c := s.cap) (k := k) (n := s.len - k) (m := s.cap - k) (fun h => by omega)
      have := run_first (P := Tryz.prog) (sz := 4) (n := s.len - k) hr (by rw [List.length_drop]; omega) (fun h => by
        dsimp only at h; rw [if_neg (by omega), hb0] at h; cases h) (s.len - k) (s.cap - k)
      simpa using this
    intro w3 h
    refine hK s' w3 (by omega) ?_
    have e1 : splice (xs.take (k * 4) ++ zs) (k * 4) (gncells e) = xs.take (k * 4) ++ (gncells e) ++ zs.drop 4 := splice_at _ _ _ _ (by rw [List.length_take]; omega)
    have e2 : splice (xs.take (k * 4) ++ (gncells e) ++ zs.drop 4) ((k + 1) * 4) (xs.drop (k * 4)) = xs.take (k * 4) ++ (gncells e) ++ xs.drop (k * 4) := by
      have h3 : (zs.drop 4).drop (xs.drop (k * 4)).length = [] := List.drop_eq_nil_of_le (by rw [List.length_drop, List.length_drop]; omega)
      rw [splice_at _ _ _ _ (by rw [List.length_append, List.length_take, hvl]; omega), h3, List.append_nil]
    rw [e1, e2] at h
    exact (h.swap.drop).swap.drop
  · refine XIf.no (decide_eq_false (show ¬ ((s.len + 1 : Nat) : Int) > (s.cap : Int) by omega)) ?_
    obtain ⟨ys, hys, hst⟩ := hs.swap.own_stretch (s.len + 1) (by omega) (by omega)
    refine xlet ((s.len + 1 : Nat) : Int) (by show IntKind.wrap .i64 ((s.len : Int) + 1) = _; rw [wi (by omega) (by omega)]; rfl) ⟨⟨(by (try dsimp only); omega), (by (try dsimp only); omega), (by (try dsimp only); omega)⟩, xlet ⟨s.a, s.len + 1, s.cap⟩ (by rw [view_zero had]; simp) (xlet ((k + 1 : Nat) : Int) (by show IntKind.wrap .i64 ((k : Int) + 1) = _; rw [wi (by omega) (by omega)]; rfl) ⟨⟨(by (try dsimp only); omega), (by (try dsimp only); omega), (by (try dsimp only); omega)⟩, xlet0 ?_⟩)⟩
    refine xoverlaps (k := k + 1) (sz := 4) Fu.slices_overlaps_gen (by kernel_rfl) (by kernel_rfl) (by kernel_rfl) (by kernel_rfl) (by kernel_rfl) (by omega) hst.swap hfz (fun b hb => by rw [Int.toNat_natCast]; exact view_ptr hb (by (try dsimp only); omega)) (fun h => ?_) (Nat.succ_pos _) ?_
    · have h : s.a = none := h
      rw [h] at hb0; cases hb0
    refine XIf.yes rfl (xlet ((k + 1 : Nat) : Int) (by show IntKind.wrap .i64 ((k : Int) + 1) = _; rw [wi (by omega) (by omega)]; rfl) ⟨⟨(by (try dsimp only); omega), (by (try dsimp only); omega), (by (try dsimp only); omega)⟩, xlet0 ⟨⟨(by (try dsimp only); omega), (by (try dsimp only); omega), (by (try dsimp only); omega)⟩, xlet0 ?_⟩⟩)
    have hrd : (Builtin.firstCells 4 (s.len - k) (.slice (if s.cap = k then s.a else Option.map (fun b => Addr.add b (k * 4)) s.a) (s.len + 1 - k) (s.cap - k))).run Tryz.prog w.drew = .ok ⟨xs.drop (k * 4)⟩ w.drew := by
      have hr := reads_view ((hs.drew).swap) (c := s.cap) (k := k) (n := s.len - k) (m := s.cap - k) (fun h => by omega)
      have := run_first (P := Tryz.prog) (sz := 4) (n := s.len - k) hr (by rw [List.length_drop]; omega) (fun h => by
        dsimp only at h; rw [if_neg (by omega), hb0] at h; cases h) (s.len + 1 - k) (s.cap - k)
      simpa using this
    refine xcopy (sz := 4) (s := ⟨s.a, s.len + 1, s.cap⟩) (k := k + 1) (m := s.len + 1 - k) (n := s.len - k) (vs := xs.drop (k * 4)) (by kernel_rfl) hst.drew (fun b ha hk => by rw [Int.toNat_natCast]; exact view_ptr ha hk) (by (try dsimp only); omega) (by (try dsimp only); omega) ?_ ?_ ?_ (by rw [List.length_drop]; omega) hd1 ?_
    · simp [Builtin.lenOf]
    · show _ = min _ _; dsimp only; omega
    · simpa using hrd
    intro w2 h
    refine ⟨⟨(by (try dsimp only); omega), (by (try dsimp only); omega), (by (try dsimp only); omega)⟩, xlet0 ?_⟩
    refine xcopy (sz := 4) (s := ⟨s.a, s.len + 1, s.cap⟩) (k := k) (m := 1) (n := 1) (vs := (gncells e)) (by kernel_rfl) h (fun b ha hk => by rw [Int.toNat_natCast]; exact view_ptr ha hk) (by (try dsimp only); omega) (by (try dsimp only); omega) rfl ?_ ?_ rfl hv1 ?_
    · show 1 = min 1 _; dsimp only; omega
    · exact run_first (s := ⟨some ⟨b, 0, none⟩, 1, 1⟩) (reads_pts (h.bring 1)) rfl (fun h => by cases h) 1 1
    intro w3 h
    refine hK ⟨s.a, s.len + 1, s.cap⟩ w3 rfl ?_
    have hxt : xs ++ ys = xs.take ((k + 1) * 4) ++ (xs.drop ((k + 1) * 4) ++ ys) := by rw [← List.append_assoc, List.take_append_drop]
    have h1' : splice (xs ++ ys) ((k + 1) * 4) (xs.drop (k * 4)) = xs.take ((k + 1) * 4) ++ xs.drop (k * 4) := by
      have h3 : (xs.drop ((k + 1) * 4) ++ ys).drop (xs.drop (k * 4)).length = [] := List.drop_eq_nil_of_le (by rw [List.length_append, List.length_drop, List.length_drop]; omega)
      rw [hxt, splice_at _ _ _ _ (by rw [List.length_take]; omega), h3, List.append_nil]
    have h2' : splice (xs.take ((k + 1) * 4) ++ xs.drop (k * 4)) (k * 4) (gncells e) = xs.take (k * 4) ++ gncells e ++ xs.drop (k * 4) := by
      have hsplit : xs.take ((k + 1) * 4) = xs.take (k * 4) ++ (xs.drop (k * 4)).take 4 := by rw [Nat.succ_mul, List.take_add]
      have hd3 : ((xs.drop (k * 4)).take 4 ++ xs.drop (k * 4)).drop (gncells e).length = xs.drop (k * 4) := by
        rw [hvl, List.drop_left' (by rw [List.length_take, List.length_drop]; omega)]
      rw [hsplit, List.append_assoc, splice_at _ _ _ _ (by rw [List.length_take]; omega), hd3]
    rw [h1', h2'] at h
    exact h.swap.drop



theorem Clone_Entry {s : Sl} {ps : List EN} (hs : Sat W w (own 3 s (ps.flatMap encells) :: L)) (hl : ps.length ≤ 2 ^ 40) :
    Ret Tryz.prog F.slices_Clone_Entry [.slice s.a s.len s.cap] w fun v w' => ∃ s' : Sl, v = .slice s'.a s'.len s'.cap ∧ Sat W w' (own 3 s' (ps.flatMap encells) :: own 3 s (ps.flatMap encells) :: L) := by
  have hlen := rows_len encells_len (by decide) hs
  refine S.slices_Clone_Entry_ok s _ _ ?_
  cases ha : Option.isNone s.a with
  | true =>
    have ha' : s.a = none := by simpa using ha
    refine XIf.yes ha ⟨⟨none, 0, 0⟩, rfl, ?_⟩
    have : ps = [] := by
      rcases hs.open_own with ⟨_, h0, _⟩ | ⟨b, rest, h, _⟩
      · exact List.eq_nil_of_length_eq_zero (by omega)
      · rw [ha'] at h; cases h
    subst this
    exact hs.own_nil
  | false =>
    refine XIf.no ha (xnew hs fun b w1 h => ?_)
    have h1 : Sat W w1 (own 3 ⟨some ⟨b, 0, none⟩, 0, 0⟩ [] :: own 3 s (ps.flatMap encells) :: L) := Sat.shut_own (rest := []) rfl rfl rfl (Nat.le_refl _) h
    exact xappend (s := ⟨some ⟨b, 0, none⟩, 0, 0⟩) (x := s) (by kernel_rfl) h1 (reads_own (h1.bring 1)) (h1.bring 1).own_len (fun h => by rw [h] at ha; cases ha) (flat_one encells_one ps) (by show 0 + s.len ≤ _; omega) fun s' w' h' hl' => ⟨s', rfl, h'⟩

end
end Go.X

/-! strings.Join with nothing between. -/
namespace Go.X
open Go.Proofs

section
variable {W w : World} {L : List SP} {T e : TypeId}

theorem Grow0_spec (hB : BTypes T e) {b : Nat} (hs : Sat W w (ptsF T b [.pointer none, .slice none 0 0] 0 :: L)) :
    Ret Tryz.prog F.strings_Builder_Grow [ptr b, .int .i64 0] w fun v w' => v = .tuple ⟨[]⟩ ∧ Sat W w' (BuildP T e b [] :: L) := by
  refine S.strings_Builder_Grow_ok _ _ _ _ (xcalls (copyCheckG (u := false) (g := ⟨none, 0, 0⟩) hB hs) ?_)
  rintro v w1 ⟨rfl, h⟩
  have hd := h.drew
  refine ⟨(), rfl, xjoin0 (XIf.no rfl (xnil (xloadF hd 1 rfl rfl (xnil (xloadF hd 1 rfl rfl (xlet (0 : Int) (wi (by decide) (by decide)) (XIf.no rfl ⟨rfl, ?_⟩)))))))⟩
  exact BuildP.shut true (g := ⟨none, 0, 0⟩) (hd.arr [0] |> fun h => (Sat.buf_nil (e := e) h).swap)

theorem GrowN_spec (hB : BTypes T e) {b n : Nat} (hs : Sat W w (ptsF T b [.pointer none, .slice none 0 0] 0 :: L)) (hsz : n ≤ 2 ^ 44) :
    Ret Tryz.prog F.strings_Builder_Grow [ptr b, .int .i64 n] w fun v w' => v = .tuple ⟨[]⟩ ∧ Sat W w' (BuildP T e b [] :: L) := by
  by_cases h : n = 0
  · subst h; exact Grow0_spec hB hs
  · exact Grow_spec hB hs (by omega) hsz

theorem flatten_take_len (xs : List (List UInt8)) (k : Nat) : ((xs.take k).flatten).length ≤ xs.flatten.length := by
  conv => rhs; rw [← List.take_append_drop k xs, List.flatten_append, List.length_append]
  omega

theorem Join_spec {s : Sl} {xs : List (List UInt8)} (hs : Sat W w (own 1 s (xs.map fun x => Value.string (str x)) :: L)) (hx : xs.length ≤ 2 ^ 30) (hl : xs.flatten.length ≤ 2 ^ 40) :
    Ret Tryz.prog F.strings_Join [.slice s.a s.len s.cap, .string ByteArray.empty] w fun v w' => v = .string (str xs.flatten) ∧ Sat W w' (own 1 s (xs.map fun x => Value.string (str x)) :: L) := by
  suffices H : ∀ K : Value → World → Prop, (∀ w', Sat W w' (own 1 s (xs.map fun x => Value.string (str x)) :: L) → K (.string (str xs.flatten)) w') → S.strings_Join s ByteArray.empty K w from
    S.strings_Join_ok s _ _ _ (H _ fun _ h => ⟨rfl, h⟩)
  intro K hK
  have hxl : xs.length = s.len := by have := hs.own_len; rw [List.length_map] at this; omega
  by_cases h0 : xs.length = 0
  · have : xs = [] := List.eq_nil_of_length_eq_zero h0
    subst this
    exact XIf.yes (by rw [← hxl]; rfl) (hK w hs)
  refine XIf.no (by rw [← hxl]; have : ¬ ((xs.length : Int) = 0) := by omega
                    simpa using this) ?_
  by_cases h1 : xs.length = 1
  · obtain ⟨x, rfl⟩ : ∃ x, xs = [x] := List.length_eq_one_iff.1 h1
    refine XIf.yes (by rw [← hxl]; rfl) (xstrAt (ROStr.own [x] hxl) hs 0 rfl rfl rfl fun a => ?_)
    have e : str [x].flatten = str x := by simp
    rw [e] at hK
    exact hK w hs
  refine XIf.no (by rw [← hxl]; have : ¬ ((xs.length : Int) = 1) := by omega
                    simpa using this) ?_
  obtain ⟨T, e, hB⟩ := btypes
  refine xjoin0 (XIf.no rfl ?_)
  refine xloop (fun (st : Int × Int × Unit) w => ∃ (k : Nat), st = ((((xs.take k).flatten.length : Nat) : Int), (k : Int), ()) ∧ k ≤ xs.length ∧ Sat W w (own 1 s (xs.map fun x => Value.string (str x)) :: L)) (fun st => ((xs.length : Int) - st.2.1).toNat)
    ⟨0, rfl, Nat.zero_le _, hs⟩ ?_
  clear hs
  rintro next _ w ⟨k, rfl, hk, h⟩ hnext
  by_cases hlt : k < xs.length
  · obtain ⟨x, hxk⟩ : ∃ x, xs[k]? = some x := ⟨_, List.getElem?_eq_getElem hlt⟩
    have htk : (xs.take (k + 1)).flatten = (xs.take k).flatten ++ x := by rw [List.take_add_one, hxk]; simp
    have hb := flatten_take_len xs (k + 1)
    rw [htk, List.length_append] at hb
    have hxs : (str x).size = x.length := str_size x
    refine XIf.yes (decide_eq_true (show (k : Int) < (s.len : Int) by omega)) (xstrAt (ROStr.own xs hxl) h k rfl hxk (by show Int.toNat _ * 1 = _; simp) fun a => ?_)
    refine xjoin0 ?_
    refine xlet ((9223372036854775807 - (xs.take k).flatten.length : Nat) : Int) (by dsimp only; rw [wi (by omega) (by omega)]; omega) ?_
    refine XIf.no (decide_eq_false (by rw [hxs]; omega)) ?_
    refine xlet ((((xs.take (k + 1)).flatten.length : Nat)) : Int) (by dsimp only; rw [hxs, wi (by omega) (by omega), htk, List.length_append]; omega) ?_
    refine xlet (((k + 1 : Nat) : Int) : Int) (by (try dsimp only); rw [wi (by omega) (by omega)]; (try omega)) ?_
    exact hnext _ _ ⟨k + 1, rfl, hlt, h⟩ (by dsimp only; omega)
  · have hke : k = xs.length := by omega
    subst hke
    refine XIf.no (decide_eq_false (show ¬ (xs.length : Int) < (s.len : Int) by omega)) ?_
    refine xnewRaw (T := T) (by rw [hB.builder]; kernel_rfl) h fun bb w1 h1 => ?_
    have hfl : (xs.take xs.length).flatten = xs.flatten := by rw [List.take_length]
    refine xcalls (by rw [hfl]; exact GrowN_spec hB h1 (n := xs.flatten.length) (by omega)) ?_
    rintro v w2 ⟨rfl, h2⟩
    refine ⟨(), rfl, ?_⟩
    obtain ⟨x0, hx0⟩ : ∃ x, xs[0]? = some x := ⟨_, List.getElem?_eq_getElem (by omega)⟩
    refine xstrAt (ROStr.own xs hxl) (h2.bring 1) 0 rfl hx0 rfl fun a => ?_
    have hb0 := flatten_take_len xs 1
    have ht1 : (xs.take 1).flatten = x0 := by rw [List.take_add_one, hx0]; simp
    rw [ht1] at hb0
    refine xcalls (WriteString_spec (s := str x0) hB h2 (by rw [str_size]; simp only [List.length_nil]; omega)) ?_
    rintro v w3 ⟨rfl, h3⟩
    rw [str_toList, List.nil_append] at h3
    refine ⟨(_, .nilIface, ()), rfl, ⟨⟨by omega, by omega⟩, by omega, by omega⟩, ?_⟩
    obtain ⟨b, hsa, _⟩ := (h3.bring 1).own_some (by omega)
    have hcap : s.len ≤ s.cap := by
      rcases (h3.bring 1).open_own with ⟨h', _⟩ | ⟨b', rest, _, _, _, h', _⟩
      · rw [h'] at hsa; cases hsa
      · exact h'
    refine xlet (⟨some ⟨b, 1, none⟩, s.len - 1, s.cap - 1⟩ : Sl) ?_ ?_
    · have hc1 : ¬ s.cap = 1 := by omega
      rw [if_neg hc1, hsa]
      simp [Addr.add_mk]
    refine xloop (fun (st : Int × Unit) w => ∃ (k : Nat), st = ((k : Int), ()) ∧ k + 1 ≤ xs.length ∧ Sat W w (BuildP T e bb (xs.take (k + 1)).flatten :: own 1 s (xs.map fun x => Value.string (str x)) :: L)) (fun st => ((xs.length : Int) - st.1).toNat)
      ⟨0, rfl, by omega, by rw [ht1]; exact h3⟩ ?_
    clear h1 h2 h3 h hnext
    rintro next _ w ⟨k, rfl, hk, h⟩ hnext
    by_cases hlt : k + 1 < xs.length
    · obtain ⟨x, hxk⟩ : ∃ x, xs[k + 1]? = some x := ⟨_, List.getElem?_eq_getElem hlt⟩
      have htk : (xs.take (k + 1 + 1)).flatten = (xs.take (k + 1)).flatten ++ x := by rw [List.take_add_one, hxk]; simp
      have hb := flatten_take_len xs (k + 1 + 1)
      rw [htk, List.length_append] at hb
      obtain ⟨b', hb', hc⟩ := (h.bring 1).own_some (by omega)
      rw [hsa] at hb'
      cases hb'
      refine XIf.yes (decide_eq_true (show (k : Int) < ((s.len - 1 : Nat) : Int) by omega)) (xnil ⟨⟨by show (0 : Int) ≤ (k : Int); omega, by show (k : Int) < ((s.len - 1 : Nat) : Int); omega⟩, xload_at (l := .str) (x := str x) ?_ ?_⟩)
      · rw [Addr.add_mk]
        have := hc (k + 1) (.string (str x)) (by rw [List.getElem?_map, hxk]; rfl)
        rw [show 1 + Int.toNat (k : Int) * 1 = k + 1 by omega]
        exact this
      have he : (ByteArray.empty : ByteArray) = str [] := rfl
      refine xcalls (WriteString_spec (s := ByteArray.empty) hB h (by show _ + 0 ≤ _; omega)) ?_
      rintro v w4 ⟨rfl, h4⟩
      have h4 : Sat W w4 (BuildP T e bb (xs.take (k + 1)).flatten :: own 1 s (xs.map fun x => Value.string (str x)) :: L) := by
        have e0 : ByteArray.empty.data.toList = ([] : List UInt8) := rfl
        rw [e0, List.append_nil] at h4
        exact h4
      refine ⟨(_, .nilIface, ()), rfl, xcalls (WriteString_spec (s := str x) hB h4 (by rw [str_size]; omega)) ?_⟩
      rintro v w5 ⟨rfl, h5⟩
      rw [str_toList, ← htk] at h5
      refine ⟨(_, .nilIface, ()), rfl, xlet ((k + 1 : Nat) : Int) (by (try dsimp only); rw [wi (by omega) (by omega)]; (try omega)) (hnext _ _ ⟨k + 1, rfl, hlt, h5⟩ (by dsimp only; omega))⟩
    · have hke : k + 1 = xs.length := by omega
      rw [hke, List.take_length] at h
      refine XIf.no (decide_eq_false (show ¬ (k : Int) < ((s.len - 1 : Nat) : Int) by omega)) ?_
      refine xcall (String_spec hB h (by omega)) ?_
      rintro v w4 ⟨rfl, h4⟩
      refine ⟨_, rfl, ?_⟩
      exact hK _ h4.drop

end
end Go.X

/-! The store's small functions: places, what is told, its records. -/
namespace Go.X
open Go.Proofs

/-! ### Plain -/

theorem placeG_cons (n : Nat) (g : GN) (gs : List GN) : placeG n (g :: gs) = if g.gen < n then placeG n gs + 1 else 0 := by
  unfold placeG
  rw [List.takeWhile_cons]
  by_cases h : g.gen < n
  · rw [if_pos h, decide_eq_true h]; simp
  · rw [if_neg h, decide_eq_false h]; rfl

theorem placeG_le (n : Nat) (gs : List GN) : placeG n gs ≤ gs.length := by unfold placeG; exact List.Sublist.length_le (List.takeWhile_sublist _)

theorem placeG_drop {n k : Nat} {g : GN} {gs : List GN} (h : gs[k]? = some g) : placeG n (gs.drop k) = if g.gen < n then placeG n (gs.drop (k + 1)) + 1 else 0 := by
  have hlt := (List.getElem?_eq_some_iff.1 h).1
  rw [List.drop_eq_getElem_cons hlt, placeG_cons]
  rw [List.getElem?_eq_getElem hlt] at h
  rw [Option.some.inj h]

/-- Numbers and texts within bounds. -/
structure GNok (g : GN) : Prop where
  gen : g.gen < 2 ^ 62
  basis : g.basis < 2 ^ 62
  mark : g.mark.length = 32
  text : g.text.length ≤ 1048832

theorem rec_len {g : GN} (h : GNok g) : g.rec_.length ≤ 1048883 := by
  have h1 := numB_length g.gen
  have h2 := numB_length g.basis
  have h3 := h.mark
  have h4 := h.text
  unfold GN.rec_ recW recD
  split <;> simp only [List.length_cons, List.length_append] <;> omega

theorem recs_flat_le : ∀ {gs : List GN}, (∀ g ∈ gs, GNok g) → ((gs.map GN.rec_).flatten).length ≤ gs.length * 1048883
  | [], _ => by simp
  | g :: gs, h => by
    have h1 := rec_len (h g List.mem_cons_self)
    have h2 := recs_flat_le fun x hx => h x (List.mem_cons_of_mem _ hx)
    rw [List.map_cons, List.flatten_cons, List.length_append, List.length_cons, Nat.succ_mul]
    omega

section
variable {W w : World} {L : List SP} {sp b : Nat} {gs : List GN}

theorem New_store_spec (b : Nat) (hs : Sat W w L) : Ret Tryz.prog F.store_New [ptr b] w fun v w' => ∃ sp, v = ptr sp ∧ Sat W w' (StoreP sp b [] :: L) :=
  S.store_New_ok _ _ _ (xnew hs fun c w1 h => ⟨c, rfl, StoreP.shut (s := ⟨none, 0, 0⟩) ((Sat.own_nil h).swap)⟩)

theorem none_store_spec (hs : Sat W w (StoreP sp b gs :: L)) : Ret Tryz.prog F.store_Store_none [ptr sp] w fun v w' => v = .bool false ∧ w' = w := by
  obtain ⟨s, h⟩ := StoreP.open hs
  exact S.store_Store_none_ok _ _ _ (xjoin0 (XIf.no rfl (xnil (xload h 0 rfl rfl ⟨rfl, rfl⟩))))

theorem place_store_spec (n : Nat) (hs : Sat W w (StoreP sp b gs :: L)) (hn : gs.length ≤ 2 ^ 40) :
    Ret Tryz.prog F.store_Store_place [ptr sp, .int .i64 n] w fun v w' => v = .tuple ⟨[.int .i64 (placeG n gs : Nat), .bool (findG n gs).isSome]⟩ ∧ Sat W w' (StoreP sp b gs :: L) := by
  suffices H : ∀ K : Value → World → Prop, (∀ w', Sat W w' (StoreP sp b gs :: L) → K (.tuple ⟨[.int .i64 (placeG n gs : Nat), .bool (findG n gs).isSome]⟩) w') → S.store_Store_place (some ⟨sp, 0, none⟩) n K w from
    S.store_Store_place_ok _ _ _ _ (H _ fun _ h => ⟨rfl, h⟩)
  intro K hK
  refine xloop (fun (st : Int × Unit) w => ∃ (k : Nat), st = ((k : Int), ()) ∧ k ≤ gs.length ∧ placeG n gs = k + placeG n (gs.drop k) ∧ Sat W w (StoreP sp b gs :: L)) (fun st => ((gs.length : Int) - st.1).toNat)
    ⟨0, rfl, Nat.zero_le _, by simp, hs⟩ ?_
  clear hs
  rintro next _ w ⟨k, rfl, hk, hp, h⟩ hnext
  obtain ⟨s, h⟩ := StoreP.open h
  have hsl := rows_len gncells_len (by decide) (h.bring 1)
  have done : placeG n (gs.drop k) = 0 → Sat W w (StoreP sp b gs :: L) → XJoin (α := (Int × Bool × Unit)) (fun s8 w9 => K (.tuple ⟨[.int .i64 s8.1, .bool s8.2.1]⟩) w9) (fun J10 => XNil (some ⟨sp, 0, none⟩) fun a11 => XLoad .slice (Addr.add a11 1) (World.drew w) fun (x12 : Sl) => XIf (decide (((k : Int) : Int) < ((x12.len : Nat) : Int))) (XNil (some ⟨sp, 0, none⟩) fun a13 => XLoad .slice (Addr.add a13 1) (World.drew w) fun (x14 : Sl) => XNil x14.a fun a15 => ((0 : Int) ≤ (k : Int) ∧ (k : Int) < ((x14.len : Nat) : Int)) ∧ (XLoad (.int .i64) (Addr.add a15 ((Int.toNat (k : Int)) * 4)) (World.drew w) fun (x16 : Int) => J10 ((k : Int), (((x16 : Int) == (n : Int)), ())) (World.drew w))) (J10 ((k : Int), (false, ())) (World.drew w))) := by
    intro h0 hst
    have hk2 : placeG n gs = k := by omega
    obtain ⟨s, h⟩ := StoreP.open hst
    have hsl := rows_len gncells_len (by decide) (h.bring 1)
    have hd := h.drew
    refine xjoin (fun (st : Int × Bool × Unit) w' => st = ((placeG n gs : Int), (findG n gs).isSome, ()) ∧ Sat W w' (StoreP sp b gs :: L)) (fun J hJ => ?_) ?_
    · refine xnil (xload hd 1 rfl rfl ?_)
      by_cases hlt : k < gs.length
      · obtain ⟨g, hg⟩ : ∃ g, gs[k]? = some g := ⟨_, List.getElem?_eq_getElem hlt⟩
        refine XIf.yes (decide_eq_true (by dsimp only; omega)) ?_
        refine xnil (xload hd 1 rfl rfl ?_)
        refine xrow0 gncells_len (hd.bring 1) k rfl hg (by omega) (by decide) (x := (g.gen : Int)) rfl fun a => hJ _ _ ⟨?_, StoreP.shut hd⟩
        have hf : findG n gs = if g.gen = n then some g else none := by unfold findG; rw [hk2, hg]
        rw [hf, hk2]
        by_cases hgn : g.gen = n
        · rw [if_pos hgn, hgn]; simp
        · rw [if_neg hgn]
          have : ((g.gen : Int) == (n : Int)) = false := by
            have : ¬ (g.gen : Int) = n := by omega
            simpa using this
          rw [this]; rfl
      · refine XIf.no (decide_eq_false (by dsimp only; omega)) (hJ _ _ ⟨?_, StoreP.shut hd⟩)
        have hf : findG n gs = none := by unfold findG; rw [hk2, List.getElem?_eq_none (by omega)]
        rw [hf, hk2]; rfl
    · rintro _ w' ⟨rfl, h'⟩
      exact hK _ h'
  refine xjoin (fun (st : Bool × Unit) w' => (st = (true, ()) ∧ k < gs.length ∧ placeG n gs = k + 1 + placeG n (gs.drop (k + 1)) ∨ st = (false, ()) ∧ placeG n (gs.drop k) = 0) ∧ w' = w) (fun J hJ => ?_) ?_
  · refine xnil (xload h 1 rfl rfl ?_)
    by_cases hlt : k < gs.length
    · obtain ⟨g, hg⟩ : ∃ g, gs[k]? = some g := ⟨_, List.getElem?_eq_getElem hlt⟩
      refine XIf.yes (decide_eq_true (show (k : Int) < (s.len : Int) by omega)) ?_
      refine xnil (xload h 1 rfl rfl ?_)
      refine xrow0 gncells_len (h.bring 1) k rfl hg (by (try dsimp only); omega) (by decide) (x := (g.gen : Int)) rfl fun a => hJ _ _ ⟨?_, rfl⟩
      have hd := placeG_drop (n := n) hg
      by_cases hgn : g.gen < n
      · rw [if_pos hgn] at hd
        exact .inl ⟨Prod.ext (decide_eq_true (by omega)) rfl, hlt, by omega⟩
      · rw [if_neg hgn] at hd
        exact .inr ⟨Prod.ext (decide_eq_false (by omega)) rfl, hd⟩
    · refine XIf.no (decide_eq_false (show ¬ (k : Int) < (s.len : Int) by omega)) (hJ _ _ ⟨.inr ⟨rfl, ?_⟩, rfl⟩)
      rw [List.drop_eq_nil_of_le (by omega)]
      rfl
  rintro _ _ ⟨hc, rfl⟩
  rcases hc with ⟨rfl, hlt, hp2⟩ | ⟨rfl, h0⟩
  · refine XIf.yes rfl ?_
    refine xlet (((k + 1 : Nat) : Int) : Int) (by (try dsimp only); rw [wi (by omega) (by omega)]; (try omega)) ?_
    exact hnext _ _ ⟨k + 1, rfl, hlt, hp2, StoreP.shut h⟩ (by dsimp only; omega)
  · refine XIf.no rfl ?_
    exact done h0 (StoreP.shut h)

theorem findG_get {n : Nat} {g : GN} (h : findG n gs = some g) : gs[placeG n gs]? = some g ∧ g.gen = n := by
  unfold findG at h
  split at h
  · rename_i g' hg'
    split at h
    · rename_i hn
      cases h
      exact ⟨hg', hn⟩
    · cases h
  · cases h

theorem Mark_store_spec (n : Nat) (hs : Sat W w (StoreP sp b gs :: L)) (hn : gs.length ≤ 2 ^ 40) :
    Ret Tryz.prog F.store_Store_Mark [ptr sp, .int .i64 n] w fun v w' => v = .tuple ⟨[.string (str ((markG n gs).getD [])), .bool (markG n gs).isSome]⟩ ∧ Sat W w' (StoreP sp b gs :: L) := by
  refine S.store_Store_Mark_ok _ _ _ _ (xcall_eq (none_store_spec hs) false rfl (XIf.no rfl ?_))
  refine xcalls (place_store_spec n hs hn) ?_
  rintro v w1 ⟨rfl, h1⟩
  refine ⟨((placeG n gs : Nat), (findG n gs).isSome, ()), rfl, ?_⟩
  unfold markG
  cases hf : findG n gs with
  | none => exact XIf.yes rfl ⟨rfl, h1⟩
  | some g =>
    obtain ⟨hg, _⟩ := findG_get hf
    refine XIf.no rfl ?_
    obtain ⟨s, h⟩ := StoreP.open h1
    refine xnil (xload h 1 rfl rfl ?_)
    exact xrowf gncells_len (h.bring 1) (placeG n gs) rfl hg (by (try dsimp only); omega) (by decide) (o := 2) (x := str g.mark) rfl fun a => ⟨rfl, h1⟩

theorem Gens_spec (hs : Sat W w (StoreP sp b gs :: L)) (hn : gs.length ≤ 2 ^ 30) :
    Ret Tryz.prog F.store_Store_Gens [ptr sp] w fun v w' => ∃ s : Sl, v = .slice s.a s.len s.cap ∧ Sat W w' (own 4 s (gs.flatMap gcells) :: StoreP sp b gs :: L) := by
  suffices H : ∀ K : Value → World → Prop, (∀ (s : Sl) w', Sat W w' (own 4 s (gs.flatMap gcells) :: StoreP sp b gs :: L) → K (.slice s.a s.len s.cap) w') → S.store_Store_Gens (some ⟨sp, 0, none⟩) K w from
    S.store_Store_Gens_ok _ _ _ (H _ fun s _ h => ⟨s, rfl, h⟩)
  intro K hK
  refine xcall_eq (none_store_spec hs) false rfl (XIf.no rfl ?_)
  obtain ⟨s, h⟩ := StoreP.open hs
  refine xnil (xload h 1 rfl rfl ?_)
  refine xloop (fun (st : Sl × Int × Unit) w => ∃ (k : Nat) (o : Sl), st = (o, (k : Int), ()) ∧ k ≤ gs.length ∧ Sat W w (own 4 o ((gs.take k).flatMap gcells) :: pts sp [ptr b, .slice s.a s.len s.cap] :: own 4 s (gs.flatMap gncells) :: L)) (fun st => ((gs.length : Int) - st.2.1).toNat)
    ⟨0, ⟨none, 0, 0⟩, rfl, Nat.zero_le _, h.own_nil⟩ ?_
  clear h hs
  rintro next _ w ⟨k, o, rfl, hk, h⟩ hnext
  have hsl := rows_len gncells_len (by decide) (h.bring 2)
  by_cases hlt : k < gs.length
  · obtain ⟨g, hg⟩ : ∃ g, gs[k]? = some g := ⟨_, List.getElem?_eq_getElem hlt⟩
    refine XIf.yes (decide_eq_true (show (k : Int) < (s.len : Int) by omega)) (xrow gncells_len (h.bring 2) k rfl hg (by (try dsimp only); omega) (gnH g) rfl (by decide) fun a => ?_)
    refine xnew h fun c w1 h1 => xstoresP h1 rfl fun w2 h2 => ?_
    have h2 : Sat W w2 (pts c (gncells g) :: own 4 o ((gs.take k).flatMap gcells) :: pts sp [ptr b, .slice s.a s.len s.cap] :: own 4 s (gs.flatMap gncells) :: L) := h2
    refine xload h2 0 rfl rfl ?_
    refine xload h2 1 rfl rfl ?_
    refine xload h2 3 rfl rfl ?_
    refine xload h2 2 rfl rfl ?_
    have hz : (str g.text).size = g.text.length := str_size _
    have e1 : [Value.int .i64 (g.gen : Nat), .int .i64 (g.basis : Nat), .int .i64 ((str g.text).size : Nat), .string (str g.mark)] = gcells g := by rw [hz]; rfl
    refine xappendRow (f := gcells) (by kernel_rfl) gcells_len gcells_one (by decide) (h2.bring 1) g e1 (by rw [List.length_take]; omega) fun a2 o' w3 h3 => ?_
    refine xlet (((k + 1 : Nat) : Int) : Int) (by (try dsimp only); rw [wi (by omega) (by omega)]; (try omega)) ?_
    refine hnext _ _ ⟨k + 1, o', rfl, hlt, ?_⟩ (by dsimp only; omega)
    rw [List.take_add_one, hg]
    exact (h3.bring 1).drop
  · have hke : k = gs.length := by omega
    subst hke
    rw [List.take_length] at h
    exact XIf.no (decide_eq_false (show ¬ (gs.length : Int) < (s.len : Int) by omega)) (hK o w ((StoreP.shut (s := s) (h.arr [1, 2, 0])).swap))

theorem Records_spec (hs : Sat W w (StoreP sp b gs :: L)) (hn : gs.length ≤ 2 ^ 30) (hg : ∀ g ∈ gs, GNok g) :
    Ret Tryz.prog F.store_Store_Records [ptr sp] w fun v w' => ∃ s : Sl, v = .slice s.a s.len s.cap ∧ Sat W w' (own 1 s ((gs.map GN.rec_).map fun x => Value.string (str x)) :: StoreP sp b gs :: L) := by
  suffices H : ∀ K : Value → World → Prop, (∀ (s : Sl) w', Sat W w' (own 1 s ((gs.map GN.rec_).map fun x => Value.string (str x)) :: StoreP sp b gs :: L) → K (.slice s.a s.len s.cap) w') → S.store_Store_Records (some ⟨sp, 0, none⟩) K w from
    S.store_Store_Records_ok _ _ _ (H _ fun s _ h => ⟨s, rfl, h⟩)
  intro K hK
  refine xcall_eq (none_store_spec hs) false rfl (XIf.no rfl ?_)
  obtain ⟨s, h⟩ := StoreP.open hs
  refine xnil (xload h 1 rfl rfl ?_)
  refine xloop (fun (st : Sl × Int × Unit) w => ∃ (k : Nat) (o : Sl), st = (o, (k : Int), ()) ∧ k ≤ gs.length ∧ Sat W w (own 1 o (((gs.take k).map GN.rec_).map fun x => Value.string (str x)) :: pts sp [ptr b, .slice s.a s.len s.cap] :: own 4 s (gs.flatMap gncells) :: L)) (fun st => ((gs.length : Int) - st.2.1).toNat)
    ⟨0, ⟨none, 0, 0⟩, rfl, Nat.zero_le _, h.own_nil⟩ ?_
  clear h hs
  rintro next _ w ⟨k, o, rfl, hk, h⟩ hnext
  have hsl := rows_len gncells_len (by decide) (h.bring 2)
  by_cases hlt : k < gs.length
  · obtain ⟨g, hgk⟩ : ∃ g, gs[k]? = some g := ⟨_, List.getElem?_eq_getElem hlt⟩
    have hgo := hg g (List.mem_of_getElem? hgk)
    have hol := h.own_len
    rw [List.length_map, List.length_map, List.length_take] at hol
    refine XIf.yes (decide_eq_true (show (k : Int) < (s.len : Int) by omega)) ?_
    refine xjoin (fun (st : Sl × Unit) w' => ∃ o' : Sl, st = (o', ()) ∧ Sat W w' (own 1 o' (((gs.take (k + 1)).map GN.rec_).map fun x => Value.string (str x)) :: pts sp [ptr b, .slice s.a s.len s.cap] :: own 4 s (gs.flatMap gncells) :: L)) (fun J hJ => ?_) ?_
    · refine xrow gncells_len (h.bring 2) k rfl hgk (by (try dsimp only); omega) (gnH g) rfl (by decide) fun a => ?_
      refine xnew h fun c w1 h1 => xstoresP h1 rfl fun w2 h2 => ?_
      have h2 : Sat W w2 (pts c (gncells g) :: own 1 o (((gs.take k).map GN.rec_).map fun x => Value.string (str x)) :: pts sp [ptr b, .slice s.a s.len s.cap] :: own 4 s (gs.flatMap gncells) :: L) := h2
      have b1 := numB_length g.gen
      have b2 := numB_length g.basis
      have b3 := hgo.mark
      have b4 := hgo.text
      have fin : ∀ (R : List UInt8) w3 (K2 : Addr → Sl → World → Prop), R = g.rec_ → Sat W w3 (pts c (gncells g) :: own 1 o (((gs.take k).map GN.rec_).map fun x => Value.string (str x)) :: pts sp [ptr b, .slice s.a s.len s.cap] :: own 4 s (gs.flatMap gncells) :: L) →
          (∀ a (o' : Sl) w4, Sat W w4 (own 1 o' (((gs.take (k + 1)).map GN.rec_).map fun x => Value.string (str x)) :: pts sp [ptr b, .slice s.a s.len s.cap] :: own 4 s (gs.flatMap gncells) :: L) → K2 a o' w4) →
          ∀ {t u ty T : TypeId}, okApp Tryz.prog t u 1 = true → XNew T [.string (str R)] w3 fun a w1 => XDo Tryz.prog (Builtin.append_ #[t, u] ty ⟨[.slice o.a o.len o.cap, .slice (some a) 1 1]⟩) (.leaf .slice) w1 (K2 a) := by
        intro R w3 K2 hR h3 hK2 t u ty T hok
        refine xappend1 hok (h3.bring 1) rfl rfl (by omega) fun a o' w4 h4 _ => hK2 a o' w4 ?_
        have h5 := (h4.bring 1).drop
        rw [List.take_add_one, hgk]
        rw [hR] at h5
        simpa using h5
      refine xload h2 0 rfl rfl ?_
      refine xcalls (Num_spec g.gen hgo.gen h2) ?_
      rintro v w3 ⟨rfl, h3⟩
      refine ⟨(str (numB g.gen), 0, ()), rfl, ?_⟩
      refine xload h3 1 rfl rfl ?_
      refine xload h3 0 rfl rfl ?_
      by_cases hw : g.basis = g.gen
      · have hrec : g.rec_ = [87] ++ numB g.gen ++ g.mark ++ g.text := by unfold GN.rec_; rw [if_pos hw]; simp [recW]
        refine XIf.yes (by rw [hw]; simp) ⟨by dsimp only; rw [str_size]; show ((1 + _ : Nat) : Int) ≤ 9223372036854775807; omega, xlet (str ([87] ++ numB g.gen)) (str_append [87] _) ?_⟩
        refine xload h3 2 rfl rfl ?_
        refine ⟨(by rw [str_size, str_size, List.length_append]; show ((_ : Nat) : Int) ≤ 9223372036854775807; simp only [List.length_singleton]; omega), ?_⟩
        refine xlet (str ([87] ++ numB g.gen ++ g.mark)) (str_append _ _) ?_
        refine xload h3 3 rfl rfl ?_
        refine ⟨(by rw [str_size, str_size, List.length_append, List.length_append]; show ((_ : Nat) : Int) ≤ 9223372036854775807; simp only [List.length_singleton]; omega), ?_⟩
        refine xlet (str ([87] ++ numB g.gen ++ g.mark ++ g.text)) (str_append _ _) ?_
        exact fin _ w3 _ hrec.symm h3 (fun a o' w4 h4 => hJ _ _ ⟨o', rfl, h4⟩) (by kernel_rfl)
      · have hrec : g.rec_ = [68] ++ numB g.gen ++ numB g.basis ++ g.mark ++ g.text := by unfold GN.rec_; rw [if_neg hw]; simp [recD]
        refine XIf.no (by have : ¬ (g.basis : Int) = g.gen := by omega
                          simpa using this) ?_
        refine xload h3 1 rfl rfl ?_
        refine xcalls (Num_spec g.basis hgo.basis h3) ?_
        rintro v w4 ⟨rfl, h4⟩
        refine ⟨(str (numB g.basis), 0, ()), rfl, ?_⟩
        refine ⟨(by dsimp only; rw [str_size]; show ((1 + _ : Nat) : Int) ≤ 9223372036854775807; omega), ?_⟩
        refine xlet (str ([68] ++ numB g.gen)) (str_append [68] _) ?_
        refine ⟨(by dsimp only; rw [str_size, str_size, List.length_append]; show ((_ : Nat) : Int) ≤ 9223372036854775807; simp only [List.length_singleton]; omega), ?_⟩
        refine xlet (str ([68] ++ numB g.gen ++ numB g.basis)) (str_append _ _) ?_
        refine xload h4 2 rfl rfl ?_
        refine ⟨(by rw [str_size, str_size, List.length_append, List.length_append]; show ((_ : Nat) : Int) ≤ 9223372036854775807; simp only [List.length_singleton]; omega), ?_⟩
        refine xlet (str ([68] ++ numB g.gen ++ numB g.basis ++ g.mark)) (str_append _ _) ?_
        refine xload h4 3 rfl rfl ?_
        refine ⟨(by rw [str_size, str_size, List.length_append, List.length_append, List.length_append]; show ((_ : Nat) : Int) ≤ 9223372036854775807; simp only [List.length_singleton]; omega), ?_⟩
        refine xlet (str ([68] ++ numB g.gen ++ numB g.basis ++ g.mark ++ g.text)) (str_append _ _) ?_
        exact fin _ w4 _ hrec.symm h4 (fun a o' w5 h5 => hJ _ _ ⟨o', rfl, h5⟩) (by kernel_rfl)
    · rintro _ w' ⟨o', rfl, h'⟩
      refine xlet (((k + 1 : Nat) : Int) : Int) (by (try dsimp only); rw [wi (by omega) (by omega)]; (try omega)) ?_
      exact hnext _ _ ⟨k + 1, o', rfl, hlt, h'⟩ (by dsimp only; omega)
  · have hke : k = gs.length := by omega
    subst hke
    rw [List.take_length] at h
    exact XIf.no (decide_eq_false (show ¬ (gs.length : Int) < (s.len : Int) by omega)) (hK o w ((StoreP.shut (s := s) (h.arr [1, 2, 0])).swap))

theorem Bytes_store_spec (hs : Sat W w (StoreP sp b gs :: L)) (hn : gs.length ≤ 2 ^ 14) (hg : ∀ g ∈ gs, GNok g) :
    Ret Tryz.prog F.store_Store_Bytes [ptr sp] w fun v w' => v = .int .i64 (bytesG gs : Nat) ∧ Sat W w' (StoreP sp b gs :: L) := by
  refine S.store_Store_Bytes_ok _ _ _ (xcall_eq (none_store_spec hs) false rfl (XIf.no rfl (xcall (Records_spec hs (by omega) hg) ?_)))
  rintro v w1 ⟨s, rfl, h1⟩
  have hb := recs_flat_le hg
  have hb2 := Nat.mul_le_mul_right 1048883 hn
  refine ⟨s, rfl, xcall (Join_spec h1 (by rw [List.length_map]; omega) (by omega)) ?_⟩
  rintro v w2 ⟨rfl, h2⟩
  refine ⟨_, rfl, ?_, h2.drop⟩
  rw [str_size]
  rfl

end
end Go.X

/-! The records that make a vault's state anew. -/
namespace Go.X
open Go.Proofs

structure ENok (x : EN) : Prop where
  gen : x.gen < 2 ^ 62
  ballot : x.ballot < 2 ^ 62
  mark : x.mark.length = 32

/-- A state within bounds. -/
structure STok (S : ST) : Prop where
  promised : S.promised < 2 ^ 62
  floor : S.floor < 2 ^ 62
  top : S.top < 2 ^ 62
  gens : S.gens.length ≤ 2 ^ 11
  gn : ∀ g ∈ S.gens, GNok g
  list : S.list.length ≤ 2 ^ 11
  en : ∀ x ∈ S.list, ENok x

theorem recs_length {S : ST} (h : STok S) : S.recs.length ≤ 2 ^ 12 + 2 := by
  have h1 := h.gens
  have h2 := h.list
  unfold ST.recs
  simp only [List.length_cons, List.length_append, List.length_map]
  omega

section
variable {W w : World} {L : List SP}

theorem entry_spec {x : EN} (hx : ENok x) (hs : Sat W w L) : Ret Tryz.prog F.vault_entry [.agg ⟨encells x⟩] w fun v w' => v = .string (str (recA x)) ∧ Sat W w' L := by
  have b1 := numB_length x.gen
  have b2 := numB_length x.ballot
  have b3 := hx.mark
  refine S.vault_entry_ok (enH x) _ _ (xnew hs fun c w1 h1 => ?_)
  have h1 : Sat W w1.drew (pts c (encells x) :: L) := h1.drew
  refine xload h1 0 rfl rfl ?_
  refine xload h1 1 rfl rfl ?_
  refine xload h1 2 rfl rfl ?_
  refine xnew h1 fun d w2 h2 => ⟨(h2.bring 1).cell rfl, ?_⟩
  refine xcall (num_spec (c := 65) (b := d) (xs := [x.gen, x.ballot]) (fun y hy => ?_) (by show 2 ≤ 2 ^ 10; decide) h2) ?_
  · simp only [List.mem_cons, List.not_mem_nil, or_false] at hy
    rcases hy with rfl | rfl
    · exact hx.gen
    · exact hx.ballot
  rintro v w3 ⟨rfl, h3⟩
  refine ⟨_, rfl, (h3.bring 1).cell rfl, ?_⟩
  have e : (65 :: ([x.gen, x.ballot].map numB).flatten : List UInt8) = 65 :: (numB x.gen ++ numB x.ballot) := by simp
  rw [e]
  refine ⟨?_, xlet (str (recA x)) (str_append _ _) ⟨rfl, h3.drop.drop⟩⟩
  rw [str_size, str_size, b3, List.length_cons, List.length_append]
  show ((_ : Nat) : Int) ≤ 9223372036854775807
  omega

theorem recs_spec {v : Nat} {c : VB} {Z : ST} (hS : STok Z) (hs : Sat W w (StP v c Z :: L)) :
    Ret Tryz.prog F.vault_state_records [.pointer (some ⟨v, 4, none⟩)] w fun r w' => ∃ s : Sl, r = .slice s.a s.len s.cap ∧ Sat W w' (own 1 s (Z.recs.map fun x => Value.string (str x)) :: StP v c Z :: L) := by
  suffices H : ∀ K : Value → World → Prop, (∀ (s : Sl) w', Sat W w' (own 1 s (Z.recs.map fun x => Value.string (str x)) :: StP v c Z :: L) → K (.slice s.a s.len s.cap) w') → S.vault_state_records (some ⟨v, 4, none⟩) K w from
    S.vault_state_records_ok _ _ _ (H _ fun s _ h => ⟨s, rfl, h⟩)
  intro K hK
  have hgl := hS.gens
  have hll := hS.list
  obtain ⟨ls, h⟩ := StP.open hs
  refine xnil (xload h 4 rfl rfl ?_)
  refine xnew h fun a w1 h1 => xcall (num_spec (c := 80) (b := a) (xs := [Z.promised]) (fun y hy => by rw [List.mem_singleton.1 hy]; exact hS.promised) (by show 1 ≤ 2 ^ 10; decide) h1) ?_
  rintro _ w2 ⟨rfl, h2⟩
  have eP : (80 :: ([Z.promised].map numB).flatten : List UInt8) = recP Z.promised := by simp [recP]
  rw [eP]
  refine ⟨str (recP Z.promised), rfl, xnew h2.drop fun a2 w3 h3 => ?_⟩
  refine xnil (xload (h3.bring 1) 8 rfl rfl ?_)
  refine xcall (Records_spec (h3.bring 3) (by omega) hS.gn) ?_
  rintro _ w4 ⟨s1, rfl, h4⟩
  have h4 : Sat W w4 (pts a2 [.string (str (recP Z.promised))] :: own 1 s1 ((Z.gens.map GN.rec_).map fun x => Value.string (str x)) :: StoreP c.sp c.b Z.gens :: pts v (vcells c Z ls) :: own 3 ls (Z.list.flatMap encells) :: L) := h4.arr [2, 0, 1]
  have h5 : Sat W w4 (own 1 ⟨some ⟨a2, 0, none⟩, 1, 1⟩ ([recP Z.promised].map fun x => Value.string (str x)) :: own 1 s1 ((Z.gens.map GN.rec_).map fun x => Value.string (str x)) :: StoreP c.sp c.b Z.gens :: pts v (vcells c Z ls) :: own 3 ls (Z.list.flatMap encells) :: L) :=
    Sat.shut_own (rest := []) rfl rfl rfl (Nat.le_refl _) h4
  have hone : ∀ (l : List (List UInt8)), allOne (l.map fun x => Value.string (str x)) = true := fun l => allOne_of fun u hu => by
    obtain ⟨x, _, rfl⟩ := List.mem_map.1 hu
    rfl
  have h1l := (h5.bring 1).own_len
  rw [List.length_map, List.length_map] at h1l
  refine ⟨s1, rfl, xappend (s := ⟨some ⟨a2, 0, none⟩, 1, 1⟩) (x := s1) (by kernel_rfl) h5 (reads_own (h5.bring 1)) (h5.bring 1).own_len (fun h0 => ?_) (hone _) (by show 1 + s1.len ≤ _; omega) fun s2 w5 h6 hl6 => ?_⟩
  · rcases (h5.bring 1).open_own with ⟨_, _, _, h, _⟩ | ⟨b, _, h, _⟩
    · exact h
    · rw [h] at h0; cases h0
  rw [← List.map_append] at h6
  have hd := h6.drew
  refine xnil (xload (hd.bring 3) 5 rfl rfl ?_)
  refine xnil (xload (hd.bring 3) 6 rfl rfl ?_)
  refine xnew hd fun a3 w6 h7 => xcall (num_spec (c := 67) (b := a3) (xs := [Z.floor, Z.top]) (fun y hy => ?_) (by show 2 ≤ 2 ^ 10; decide) h7) ?_
  · simp only [List.mem_cons, List.not_mem_nil, or_false] at hy
    rcases hy with rfl | rfl
    · exact hS.floor
    · exact hS.top
  rintro _ w7 ⟨rfl, h8⟩
  have eC : (67 :: ([Z.floor, Z.top].map numB).flatten : List UInt8) = recC Z.floor Z.top := by simp [recC]
  rw [eC]
  have hl2 : s2.len = 1 + Z.gens.length := by rw [hl6]; show 1 + s1.len = _; omega
  refine ⟨str (recC Z.floor Z.top), rfl, xappend1 (sz := 1) (cs := [.string (str (recC Z.floor Z.top))]) (by kernel_rfl) h8.drop rfl rfl (by omega) fun a4 s3 w8 h9 hl9 => ?_⟩
  have e3 : (([recP Z.promised] ++ Z.gens.map GN.rec_).map fun x => Value.string (str x)) ++ [.string (str (recC Z.floor Z.top))] = (recP Z.promised :: (Z.gens.map GN.rec_ ++ [recC Z.floor Z.top])).map fun x => Value.string (str x) := by simp
  rw [e3] at h9
  refine xnil (xload (h9.bring 3) 7 rfl rfl ?_)
  refine xloop (fun (st : Sl × Int × Unit) w => ∃ (k : Nat) (o : Sl), st = (o, (k : Int), ()) ∧ k ≤ Z.list.length ∧ Sat W w (own 1 o ((recP Z.promised :: (Z.gens.map GN.rec_ ++ recC Z.floor Z.top :: (Z.list.take k).map recA)).map fun x => Value.string (str x)) ::
      own 1 s1 ((Z.gens.map GN.rec_).map fun x => Value.string (str x)) :: StoreP c.sp c.b Z.gens :: pts v (vcells c Z ls) :: own 3 ls (Z.list.flatMap encells) :: L)) (fun st => ((Z.list.length : Int) - st.2.1).toNat)
    ⟨0, s3, rfl, Nat.zero_le _, h9⟩ ?_
  clear h9 h8 h7 hd h6 h5 h4 h3 h2 h1 h hs
  rintro next _ w ⟨k, o, rfl, hk, h⟩ hnext
  have hsl := rows_len encells_len (by decide) (h.bring 4)
  by_cases hlt : k < Z.list.length
  · obtain ⟨x, hx⟩ : ∃ x, Z.list[k]? = some x := ⟨_, List.getElem?_eq_getElem hlt⟩
    have hxo := hS.en x (List.mem_of_getElem? hx)
    have hol := h.own_len
    simp only [List.length_map, List.length_cons, List.length_append, List.length_take] at hol
    refine XIf.yes (decide_eq_true (show (k : Int) < (ls.len : Int) by omega)) (xrow encells_len (h.bring 4) k rfl hx (by (try dsimp only); omega) (enH x) rfl (by decide) fun a => ?_)
    refine xnew h fun e w1 h1 => xstoresP h1 rfl fun w2 h2 => ?_
    refine xloadsP (ls := EnL) (enH x) h2 (xcall (entry_spec hxo h2) ?_)
    rintro _ w3 ⟨rfl, h3⟩
    refine ⟨str (recA x), rfl, xappend1 (sz := 1) (cs := [.string (str (recA x))]) (by kernel_rfl) (h3.bring 1) rfl rfl (by (try dsimp only); omega) fun a4 o' w4 h4 hl4 => ?_⟩
    refine xlet (((k + 1 : Nat) : Int) : Int) (by (try dsimp only); rw [wi (by omega) (by omega)]; (try omega)) ?_
    refine hnext _ _ ⟨k + 1, o', rfl, hlt, ?_⟩ (by dsimp only; omega)
    rw [List.take_add_one, hx]
    have h5 := (h4.bring 1).drop
    simpa using h5
  · have hke : k = Z.list.length := by omega
    subst hke
    rw [List.take_length] at h
    refine XIf.no (decide_eq_false (show ¬ (Z.list.length : Int) < (ls.len : Int) by omega)) (hK o w ?_)
    exact (StP.shut (ls := ls) ((h.swap.drop).arr [2, 3, 1, 0])).swap

end
end Go.X


/-! The log: what a segment holds; the segments; what stands behind the last record goes. -/
namespace Go.X
open Go.Proofs

section
variable {W w : World} {L : List SP} {p d b i : Nat} {D : DD} {M : Bk} {l : LG}

theorem read_len (D : DD) (hs : Small D.files) (name : ByteArray) (a n : Int) : (D.read name a n).1.length ≤ 2097152 := by
  unfold DD.read
  split
  · exact Nat.zero_le _
  cases hb : behind name D.files with
  | nil => exact Nat.zero_le _
  | cons f r =>
    dsimp only
    split
    · exact Nat.zero_le _
    split
    · exact Nat.zero_le _
    · have hf := (hs f (by rw [← ahead_behind name D.files, hb]; simp)).1
      simp only [List.length_take, List.length_drop]
      omega

theorem size_bound (D : DD) (hs : Small D.files) (name : ByteArray) : 0 ≤ (D.size name).1 ∧ (D.size name).1 ≤ 2097152 := by
  unfold DD.size
  split
  · exact ⟨by decide, by decide⟩
  cases hb : behind name D.files with
  | nil =>
    show (0 : Int) ≤ 0 ∧ (0 : Int) ≤ 2097152
    decide
  | cons f r =>
    dsimp only
    split
    · show (0 : Int) ≤ 0 ∧ (0 : Int) ≤ 2097152
      decide
    · have hf := (hs f (by rw [← ahead_behind name D.files, hb]; simp)).1
      show (0 : Int) ≤ (f.seen.length : Int) ∧ (f.seen.length : Int) ≤ 2097152
      omega

/-- A file's size. -/
theorem xsize {name : ByteArray} {K : HT [.leaf (.int .i64), .leaf (.int .i64)] → World → Prop} (hs : Sat W w (DiskP d D :: L)) (hf : Fit i D) (hi : i ≤ 2 ^ 28) (hk : ∀ w', Quiet w w' → Sat W w' (DiskP d D :: L) → K ((D.size name).1, (D.size name).2, ()) w') :
    XCalls Tryz.prog F.disk_Disk_Size [ptr d, .string name] [.leaf (.int .i64), .leaf (.int .i64)] w K := by
  have := hf.len
  refine xcalls (Size_spec (name := name) hs hf.rising (by omega)) ?_
  rintro v w2 ⟨hq, s1, s2, s3⟩
  obtain rfl := size_eq s1 s2 s3
  exact ⟨_, rfl, hk w2 hq (hs.quiet hq)⟩

theorem next_spec (all last : List UInt8) (a : Nat) (hs : Sat W w (BookP b M :: L)) (hl : all.length ≤ 2 ^ 40) (ha : a ≤ all.length) (hla : last.length ≤ 2 ^ 40) :
    Ret Tryz.prog F.wal_next [ptr b, .string (str all), .int .i64 a, .string (str last)] w fun v w' => Sat W w' (BookP b M :: L) ∧
      (nextB M all a last = none → v = .tuple ⟨[.string ByteArray.empty, .string ByteArray.empty, .bool false]⟩) ∧
      (∀ s m, nextB M all a last = some (s, m) → v = .tuple ⟨[.string (str s), .string (str m), .bool true]⟩) := by
  suffices H : ∀ K : Value → World → Prop, (nextB M all a last = none → ∀ w', Sat W w' (BookP b M :: L) → K (.tuple ⟨[.string ByteArray.empty, .string ByteArray.empty, .bool false]⟩) w') →
      (∀ s m, nextB M all a last = some (s, m) → ∀ w', Sat W w' (BookP b M :: L) → K (.tuple ⟨[.string (str s), .string (str m), .bool true]⟩) w') → S.wal_next (some ⟨b, 0, none⟩) (str all) a (str last) K w from
    S.wal_next_ok _ _ _ _ _ _ (H _ (fun h w' hs => ⟨hs, fun _ => rfl, fun s m h' => (by rw [h] at h'; cases h')⟩) fun s m h w' hs => ⟨hs, fun h' => (by rw [h] at h'; cases h'), fun s' m' h' => (by rw [h] at h'; cases h'; rfl)⟩)
  intro K hK1 hK2
  have e1 : (str all).size = all.length := str_size all
  refine xlet ((all.length - a : Nat) : Int) (by rw [e1, wi (by omega) (by omega)]; omega) ?_
  unfold nextB at hK1 hK2
  by_cases h36 : all.length < a + 36
  · rw [if_pos h36] at hK1
    exact XIf.yes (decide_eq_true (show ((all.length - a : Nat) : Int) < 36 by omega)) (hK1 rfl w hs)
  rw [if_neg h36] at hK1 hK2
  dsimp only at hK1 hK2
  have hl4 : ((all.drop a).take 4).length = 4 := by rw [List.length_take, List.length_drop]; omega
  refine XIf.no (decide_eq_false (show ¬ ((all.length - a : Nat) : Int) < 36 by omega)) (xlet ((a + 4 : Nat) : Int) (by rw [wi (by omega) (by omega)]; omega) ⟨by rw [e1]; omega, xlet (str ((all.drop a).take 4)) ?_ (xcall (value_spec _ hl4) ?_)⟩)
  · rw [Int.toNat_natCast, Int.toNat_natCast, ext_str, str_toList, List.drop_take]
    congr 2; omega
  rintro v w1 ⟨rfl, hq⟩
  obtain ⟨n, hn⟩ : ∃ n, val4 ((all.drop a).take 4) = n := ⟨_, rfl⟩
  have hn4 : n < 4294967296 := hn ▸ val4_lt _
  rw [hn] at hK1 hK2 ⊢
  have h1 := hs.quiet hq
  refine ⟨(n : Int), rfl, xjoin (fun (st : Bool × Unit) w' => st = (decide (n < 1 ∨ 1048833 < n ∨ all.length < a + 36 + n), ()) ∧ w' = w1) (fun J hJ => ?_) ?_⟩
  · by_cases hn1 : n < 1
    · exact XIf.yes (decide_eq_true (show (n : Int) < 1 by omega)) (hJ _ _ ⟨by simp [hn1], rfl⟩)
    refine XIf.no (decide_eq_false (show ¬ (n : Int) < 1 by omega)) ?_
    by_cases hn2 : 1048833 < n
    · exact XIf.yes (decide_eq_true (show (n : Int) > 1048833 by omega)) (hJ _ _ ⟨by simp [hn2], rfl⟩)
    refine XIf.no (decide_eq_false (show ¬ (n : Int) > 1048833 by omega)) (xlet ((all.length - a : Nat) : Int) (by rw [e1, wi (by omega) (by omega)]; omega) (xlet ((all.length - a - 36 : Nat) : Int) (by rw [wi (by omega) (by omega)]; omega) (hJ _ _ ⟨?_, rfl⟩)))
    have : ((n : Int) > ((all.length - a - 36 : Nat) : Int)) ↔ (n < 1 ∨ 1048833 < n ∨ all.length < a + 36 + n) := by omega
    exact Prod.ext (decide_eq_decide.2 this) rfl
  rintro _ w' ⟨rfl, rfl⟩
  by_cases hbad : n < 1 ∨ 1048833 < n ∨ all.length < a + 36 + n
  · rw [if_pos hbad] at hK1
    exact XIf.yes (decide_eq_true hbad) (hK1 rfl _ h1)
  rw [if_neg hbad] at hK1 hK2
  obtain ⟨m, hm⟩ : ∃ m, (all.drop (a + 4)).take 32 = m := ⟨_, rfl⟩
  obtain ⟨s, hsd⟩ : ∃ s, (all.drop (a + 36)).take n = s := ⟨_, rfl⟩
  rw [hm, hsd] at hK1 hK2
  have hsl : s.length ≤ 2 ^ 40 := by rw [← hsd, List.length_take]; omega
  refine XIf.no (decide_eq_false hbad) (xlet ((a + 4 : Nat) : Int) (by rw [wi (by omega) (by omega)]; omega) (xlet ((a + 36 : Nat) : Int) (by rw [wi (by omega) (by omega)]; omega) ⟨by rw [e1]; omega, xlet (str m) ?_ (xlet ((a + 36 : Nat) : Int) (by rw [wi (by omega) (by omega)]; omega) (xlet ((a + 36 : Nat) : Int) (by rw [wi (by omega) (by omega)]; omega) (xlet ((a + 36 + n : Nat) : Int) (by rw [wi (by omega) (by omega)]; omega) ⟨by rw [e1]; omega, xlet (str s) ?_ ⟨?_, xlet (str (last ++ s)) (str_append _ _) (xcall (Is_spec (last ++ s) m h1.drew) ?_)⟩⟩)))⟩))
  · rw [Int.toNat_natCast, Int.toNat_natCast, ext_str, str_toList, List.drop_take, ← hm]
    congr 2; omega
  · rw [Int.toNat_natCast, Int.toNat_natCast, ext_str, str_toList, List.drop_take, ← hsd]
    congr 2; omega
  · rw [str_size, str_size]
    show ((last.length + s.length : Nat) : Int) ≤ 9223372036854775807
    omega
  rintro v w2 ⟨rfl, h2⟩
  refine ⟨_, rfl, ?_⟩
  cases his : M.is (last ++ s) m with
  | false =>
    rw [if_neg (by rw [his]; simp)] at hK1
    exact XIf.yes rfl (hK1 rfl _ h2)
  | true =>
    rw [if_pos his] at hK2
    exact XIf.no rfl (hK2 s m rfl _ h2)

theorem nextB_some {M : Bk} {all last s m : List UInt8} {a : Nat} (h : nextB M all a last = some (s, m)) : 1 ≤ s.length ∧ s.length ≤ 1048833 ∧ a + 36 + s.length ≤ all.length ∧ m.length = 32 := by
  unfold nextB at h
  split at h
  · cases h
  · rename_i h1
    dsimp only at h
    split at h
    · cases h
    · rename_i h2
      split at h
      · cases h
        rw [List.length_take, List.length_drop, List.length_take, List.length_drop]
        omega
      · cases h

theorem allZ_iff (l : List UInt8) : allZ l = true ↔ AllZ l := by
  unfold allZ AllZ
  rw [List.all_eq_true]
  simp

theorem tail_extract (s : List UInt8) (_h : 1 ≤ s.length) : ByteArray.extract (str s) 1 (str s).size = str s.tail := by
  rw [str_drop s 1 _ (by rw [str_size]; exact Nat.le_refl _)]
  simp

theorem load_spec (n : Nat) (hn : n ≤ 2 ^ 40) (hs : Sat W w (DiskP d D :: BookP b M :: L)) (hf : Fit i D) (hi : i ≤ 2 ^ 28) :
    Ret Tryz.prog F.wal_load [ptr d, ptr b, .int .i64 n] w fun v w' =>
      (loadW D M n = none → v = .tuple ⟨[.pointer none, .slice none 0 0, .bool false]⟩ ∧ Sat W w' (DiskP d D :: BookP b M :: L)) ∧
      (∀ S, loadW D M n = some S → ∃ (p : Nat) (s : Sl), v = .tuple ⟨[ptr p, .slice s.a s.len s.cap, .bool S.sealed]⟩ ∧ Sat W w' (LogP p d b (S.log n) :: own 1 s (S.out.map fun x => Value.string (str x)) :: DiskP d D :: BookP b M :: L)) := by
  suffices H : ∀ K : Value → World → Prop, (loadW D M n = none → ∀ w', Sat W w' (DiskP d D :: BookP b M :: L) → K (.tuple ⟨[.pointer none, .slice none 0 0, .bool false]⟩) w') →
      (∀ S, loadW D M n = some S → ∀ (p : Nat) (s : Sl) w', Sat W w' (LogP p d b (S.log n) :: own 1 s (S.out.map fun x => Value.string (str x)) :: DiskP d D :: BookP b M :: L) → K (.tuple ⟨[ptr p, .slice s.a s.len s.cap, .bool S.sealed]⟩) w') →
      S.wal_load (some ⟨d, 0, none⟩) (some ⟨b, 0, none⟩) n K w from
    S.wal_load_ok _ _ _ _ _ (H _ (fun h w' hs => ⟨fun _ => ⟨rfl, hs⟩, fun S h' => (by rw [h] at h'; cases h')⟩) fun S h p s w' hs => ⟨fun h' => (by rw [h] at h'; cases h'), fun S' h' => (by rw [h] at h'; cases h'; exact ⟨p, s, rfl, hs⟩)⟩)
  intro K hK1 hK2
  unfold loadW at hK1 hK2
  refine xcall (name_spec n hn hs) ?_
  rintro v w1 ⟨rfl, h1⟩
  refine ⟨nm n, rfl, xsize h1 hf hi fun w2 _ h2 => ?_⟩
  by_cases he : (D.size (nm n)).2 ≠ 0
  · rw [if_pos he] at hK1
    exact XIf.yes (by simpa using he) (hK1 rfl _ h2)
  rw [if_neg he] at hK1 hK2
  refine XIf.no (by simpa using he) (xcall (name_spec n hn h2) ?_)
  rintro v w3 ⟨rfl, h3⟩
  have hlen := hf.len
  refine ⟨nm n, rfl, xcalls (Read_spec (name := nm n) (at_ := 0) (n := (D.size (nm n)).1) h3 hf.rising hf.small (by omega)) ?_⟩
  rintro v w4 ⟨rfl, hq⟩
  have h4 := h3.quiet hq
  refine ⟨(_, _, ()), rfl, ?_⟩
  by_cases he2 : (D.read (nm n) 0 (D.size (nm n)).1).2 ≠ 0
  · rw [if_pos he2] at hK1
    exact XIf.yes (by simpa using he2) (hK1 rfl _ h4)
  rw [if_neg he2] at hK1 hK2
  obtain ⟨all, hall⟩ : ∃ all, (D.read (nm n) 0 (D.size (nm n)).1).1 = all := ⟨_, rfl⟩
  have hal : all.length ≤ 2097152 := hall ▸ read_len D hf.small _ _ _
  rw [hall] at hK1 hK2
  have hK3 := hK2 _ rfl
  clear hK1 hK2
  refine XIf.no (by simpa using he2) (xcall (first_spec n hn h4) ?_)
  rintro v w5 ⟨rfl, h5⟩
  refine ⟨str (firstM n), rfl, xnew h5 fun p w6 h6 => ?_⟩
  have h6 : Sat W w6 (LogP p d b ⟨n, 0, firstM n⟩ :: DiskP d D :: BookP b M :: L) := h6
  obtain ⟨Z, hZ⟩ : ∃ Z, loadF M all n = Z := ⟨_, rfl⟩
  rw [hZ] at hK3
  have hfirst : (firstM n).length ≤ 2 ^ 20 := by unfold firstM; rw [List.length_append, segName_length]; decide
  rw [hall]
  refine xloopN (fun m (st : Option Addr × Sl × Bool × Sl × Bool × Unit) w => ∃ (k : Nat) (S : LD) (s : Sl), m = all.length - S.end_ ∧ st = (none, ⟨none, 0, 0⟩, false, s, S.sealed, ()) ∧ loadL M all k S = Z ∧ all.length < S.end_ + k ∧ S.end_ ≤ all.length ∧
      S.mark.length ≤ 2 ^ 20 ∧ S.out.length ≤ S.end_ ∧ Sat W w (LogP p d b (S.log n) :: own 1 s (S.out.map fun x => Value.string (str x)) :: DiskP d D :: BookP b M :: L)) all.length
    ⟨all.length + 1, ⟨0, firstM n, false, []⟩, ⟨none, 0, 0⟩, rfl, rfl, hZ, by show all.length < 0 + (all.length + 1); omega, Nat.zero_le _, hfirst, Nat.le_refl _, h6.own_nil.swap⟩ ?_
  clear h5 h6 h4 h3 h2 h1 hs
  rintro next m _ w ⟨k, S, s, rfl, rfl, hS, hk, hend, hml, hol, h⟩ hnext
  obtain ⟨k, rfl⟩ : ∃ k', k = k' + 1 := ⟨k - 1, by omega⟩
  have hd := h.drew
  refine xload hd 3 rfl rfl (xload hd 4 rfl rfl (xcalls (next_spec all S.mark S.end_ (hd.bring 3) (by omega) hend (by show S.mark.length ≤ _; omega)) ?_))
  rintro v w7 ⟨h7, hno, hyes⟩
  have h7 : Sat W w7 (LogP p d b (S.log n) :: own 1 s (S.out.map fun x => Value.string (str x)) :: DiskP d D :: BookP b M :: L) := h7.arr [1, 2, 3, 0]
  unfold loadL at hS
  cases hnx : nextB M all S.end_ S.mark with
  | none =>
    obtain rfl := hno hnx
    rw [hnx] at hS
    have hS : S = Z := hS
    subst hS
    exact ⟨(ByteArray.empty, ByteArray.empty, false, ()), rfl, XIf.yes rfl (hK3 p s w7 h7)⟩
  | some sm =>
    obtain ⟨t, mk⟩ := sm
    obtain rfl := hyes t mk hnx
    rw [hnx] at hS
    dsimp only at hS
    obtain ⟨ht1, ht2, ht3, ht4⟩ := nextB_some hnx
    have e1 : (str t).size = t.length := str_size t
    obtain ⟨c, t', htt⟩ : ∃ c t', t = c :: t' := by cases t with
      | nil => simp at ht1
      | cons c t' => exact ⟨c, t', rfl⟩
    have hg0 : ((List.getD (ByteArray.data (str t)).toList 0 0).toNat : Int) = (c.toNat : Int) := by rw [getD_str, htt]; rfl
    have hb0 : (0 : Int) ≤ 0 ∧ (0 : Int) < (((str t).size : Nat) : Int) := by rw [e1]; omega
    have hc : ∀ k : Nat, k < 256 → (((c.toNat : Nat) : Int) == (k : Int)) = decide (c = UInt8.ofNat k) := by
      intro k hk
      by_cases h : c = UInt8.ofNat k
      · have : (c.toNat : Int) = k := by rw [h, u8_toNat]; omega
        rw [this]; simp [h]
      · have : ¬ (c.toNat : Int) = (k : Int) := fun e => h (UInt8.toNat.inj (by
          have : (UInt8.ofNat k).toNat = k := by rw [UInt8.toNat_ofNat']; omega
          omega))
        rw [decide_eq_false h]
        exact beq_false_of_ne this
    refine ⟨(str t, str mk, true, ()), rfl, XIf.no rfl ?_⟩
    -- what the step makes
    have stop : loadStep S t mk = none → K (.tuple ⟨[ptr p, .slice s.a s.len s.cap, .bool S.sealed]⟩) w7 := fun hst => by
      rw [hst] at hS
      have hS : S = Z := hS
      subst hS
      exact hK3 p s w7 h7
    refine xjoin (fun (st : Option Addr × Sl × Bool × Sl × Bool × Unit) w' => ∃ (S' : LD) (s' : Sl), loadStep S t mk = some S' ∧ st = (none, ⟨none, 0, 0⟩, false, s', S'.sealed, ()) ∧
        Sat W w' (LogP p d b (S.log n) :: own 1 s' (S'.out.map fun x => Value.string (str x)) :: DiskP d D :: BookP b M :: L)) (fun J hJ => ?_) ?_
    · -- which kind
      refine xjoin (fun (st : Bool × Unit) w' => st = (decide (t = [69] ∧ S.sealed = false), ()) ∧ w' = w7) (fun J2 hJ2 => ?_) ?_
      · refine ⟨hb0, xlet (c.toNat : Int) hg0 ?_⟩
        by_cases h69 : c = 69
        · refine XIf.yes (by rw [show (69 : Int) = ((69 : Nat) : Int) from rfl, hc 69 (by decide)]; exact decide_eq_true h69) ?_
          cases hse : S.sealed with
          | false =>
            refine XIf.yes rfl (hJ2 _ _ ⟨?_, rfl⟩)
            have : ((((str t).size : Nat) : Int) == 1) = decide (t = [69] ∧ false = false) := by
              rw [e1, htt]
              by_cases ht' : t' = []
              · subst ht'; simp [h69]
              · have h0 : 0 < t'.length := List.length_pos_iff.2 ht'
                have h1 : ¬ (((c :: t').length : Nat) : Int) = 1 := by simp only [List.length_cons]; omega
                rw [beq_false_of_ne h1, decide_eq_false]
                rintro ⟨h, _⟩
                exact ht' (List.cons.inj h).2
            exact Prod.ext (by rw [this]; simp [hse]) rfl
          | true => exact XIf.no rfl (hJ2 _ _ ⟨by simp [hse], rfl⟩)
        · refine XIf.no (by rw [show (69 : Int) = ((69 : Nat) : Int) from rfl, hc 69 (by decide)]; exact decide_eq_false h69) (hJ2 _ _ ⟨?_, rfl⟩)
          rw [decide_eq_false]
          rintro ⟨h, _⟩
          rw [htt] at h
          exact h69 (List.cons.inj h).1
      rintro _ w' ⟨rfl, rfl⟩
      by_cases hE : t = [69] ∧ S.sealed = false
      · refine XIf.yes (decide_eq_true hE) (hJ _ _ ⟨⟨S.end_ + 36 + t.length, mk, true, S.out⟩, s, ?_, rfl, h7⟩)
        unfold loadStep; rw [if_pos hE]
      · refine XIf.no (decide_eq_false hE) (xjoin (fun (st : Bool × Unit) w'' => st = (decide (c = 83 ∧ S.sealed = false ∨ c = 82 ∧ S.sealed = true), ()) ∧ w'' = w') (fun J2 hJ2 => ?_) ?_)
        · refine xjoin (fun (st : Bool × Unit) w'' => st = (decide (c = 83 ∧ S.sealed = false), ()) ∧ w'' = w') (fun J3 hJ3 => ?_) ?_
          · refine ⟨hb0, xlet (c.toNat : Int) hg0 ?_⟩
            by_cases h83 : c = 83
            · refine XIf.yes (by rw [show (83 : Int) = ((83 : Nat) : Int) from rfl, hc 83 (by decide)]; exact decide_eq_true h83) (hJ3 _ _ ⟨?_, rfl⟩)
              cases hse : S.sealed <;> simp [h83]
            · exact XIf.no (by rw [show (83 : Int) = ((83 : Nat) : Int) from rfl, hc 83 (by decide)]; exact decide_eq_false h83) (hJ3 _ _ ⟨by simp [h83], rfl⟩)
          rintro _ w'' ⟨rfl, rfl⟩
          by_cases h83 : c = 83 ∧ S.sealed = false
          · exact XIf.yes (decide_eq_true h83) (hJ2 _ _ ⟨by simp [h83], rfl⟩)
          · refine XIf.no (decide_eq_false h83) (xjoin0 ⟨hb0, xlet (c.toNat : Int) hg0 ?_⟩)
            by_cases h82 : c = 82
            · refine XIf.yes (by rw [show (82 : Int) = ((82 : Nat) : Int) from rfl, hc 82 (by decide)]; exact decide_eq_true h82) (hJ2 _ _ ⟨?_, rfl⟩)
              cases hse : S.sealed <;> simp [h82]
            · exact XIf.no (by rw [show (82 : Int) = ((82 : Nat) : Int) from rfl, hc 82 (by decide)]; exact decide_eq_false h82) (hJ2 _ _ ⟨by simp [h82, h83], rfl⟩)
        rintro _ w'' ⟨rfl, rfl⟩
        have hhd : t.headD 0 = c := by rw [htt]; rfl
        by_cases hSR : c = 83 ∧ S.sealed = false ∨ c = 82 ∧ S.sealed = true
        · refine XIf.yes (decide_eq_true hSR) ⟨by rw [e1]; omega, xlet (str t.tail) (by rw [Int.toNat_natCast]; exact tail_extract t ht1) ?_⟩
          refine xappend1 (by kernel_rfl) (h7.bring 1) rfl rfl (by
            have := (h7.bring 1).own_len
            rw [List.length_map] at this
            show s.len + 1 ≤ _
            omega) fun a s' w8 h8 hl8 => hJ _ _ ⟨⟨S.end_ + 36 + t.length, mk, S.sealed, S.out ++ [t.tail]⟩, s', ?_, rfl, ?_⟩
          · unfold loadStep; rw [if_neg hE, hhd, if_pos hSR]
          · rw [List.map_append]
            exact h8.swap
        · refine XIf.no (decide_eq_false hSR) (stop ?_)
          unfold loadStep; rw [if_neg hE, hhd, if_neg hSR]
    · rintro _ w8 ⟨S', s', hst, rfl, h8⟩
      rw [hst] at hS
      have hS : loadL M all k S' = Z := hS
      have hend' : S'.end_ = S.end_ + 36 + t.length ∧ S'.mark = mk ∧ S'.out.length ≤ S.out.length + 1 := by
        unfold loadStep at hst
        split at hst
        · cases hst; exact ⟨rfl, rfl, Nat.le_succ _⟩
        split at hst
        · cases hst; exact ⟨rfl, rfl, by simp⟩
        · cases hst
      obtain ⟨hE1, hE2, hE3⟩ := hend'
      refine xload h8 3 rfl rfl (xlet ((36 + t.length : Nat) : Int) (by rw [e1, wi (by omega) (by omega)]; omega) (xlet ((S.end_ + 36 + t.length : Nat) : Int) (by show IntKind.wrap .i64 ((S.end_ : Int) + ((36 + t.length : Nat) : Int)) = _; rw [wi (by omega) (by omega)]; omega) (xstore h8 3 rfl (by simp) fun w9 h9 => xstore h9 4 rfl (by simp) fun w10 h10 => hnext (all.length - S'.end_) _ w10 (by omega) ⟨k, S', s', rfl, rfl, hS, by omega, by omega, by rw [hE2, ht4]; decide, by omega, ?_⟩)))
      have e : LogP p d b (S'.log n) = pts p [ptr d, ptr b, .int .i64 (n : Nat), .int .i64 ((S.end_ + 36 + t.length : Nat) : Int), .string (str mk)] := by
        unfold LogP LD.log
        rw [hE1, hE2]
      rw [e]
      exact h10

theorem segments_spec (hs : Sat W w (DiskP d D :: L)) (hf : Fit i D) (hi : i ≤ 2 ^ 28) :
    Ret Tryz.prog F.wal_segments [ptr d] w fun v w' => (D.off = true → v = .tuple ⟨[.slice none 0 0, .int .i64 14]⟩ ∧ Sat W w' (DiskP d D :: L)) ∧
      (D.off = false → ∃ s : Sl, v = .tuple ⟨[.slice s.a s.len s.cap, .int .i64 0]⟩ ∧ Sat W w' (own 1 s ((segsW D).map fun n => Value.int .i64 (n : Nat)) :: DiskP d D :: L)) := by
  suffices H : ∀ K : Value → World → Prop, (D.off = true → ∀ w', Sat W w' (DiskP d D :: L) → K (.tuple ⟨[.slice none 0 0, .int .i64 14]⟩) w') →
      (D.off = false → ∀ (s : Sl) w', Sat W w' (own 1 s ((segsW D).map fun n => Value.int .i64 (n : Nat)) :: DiskP d D :: L) → K (.tuple ⟨[.slice s.a s.len s.cap, .int .i64 0]⟩) w') → S.wal_segments (some ⟨d, 0, none⟩) K w from
    S.wal_segments_ok _ _ _ (H _ (fun ho w' h => ⟨fun _ => ⟨rfl, h⟩, fun h => (by rw [ho] at h; cases h)⟩) fun ho s w' h => ⟨fun h => (by rw [ho] at h; cases h), fun _ => ⟨s, rfl, h⟩⟩)
  intro K hK1 hK2
  have hlen := hf.len
  refine xcalls (List_spec hs (by omega)) ?_
  rintro v w1 ⟨h1, h2⟩
  by_cases ho : D.off = true
  · obtain ⟨rfl, h⟩ := h1 ho
    exact ⟨(⟨none, 0, 0⟩, (14 : Int), ()), rfl, XIf.yes rfl (hK1 ho _ h)⟩
  have ho' : D.off = false := by simpa using ho
  obtain ⟨s0, rfl, h⟩ := h2 ho'
  have hK3 := hK2 ho'
  clear hK1 hK2 h1 h2
  have hnl : D.names.length ≤ i := by unfold DD.names; rw [List.length_map]; exact hlen
  have hsl : s0.len = D.names.length := by have := h.own_len; simpa using this.symm
  refine ⟨(s0, (0 : Int), ()), rfl, XIf.no rfl (xlet ((D.names.length : Int) - 1) (by show IntKind.wrap .i64 ((s0.len : Int) - 1) = _; rw [hsl, wi (by omega) (by omega)]) ?_)⟩
  refine xloop (fun (st : Sl × Int × Unit) w => ∃ (j : Nat) (s : Sl), st = (s, (D.names.length : Int) - 1 - j, ()) ∧ j ≤ D.names.length ∧
      Sat W w (own 1 s (((D.names.reverse.take j).filterMap fun x => segNum x.data.toList).map fun n => Value.int .i64 (n : Nat)) :: own 1 s0 (D.names.map Value.string) :: DiskP d D :: L)) (fun st => (st.2.1 + 1).toNat)
    ⟨0, ⟨none, 0, 0⟩, by simp, Nat.zero_le _, h.own_nil⟩ ?_
  clear h
  rintro next _ w ⟨j, s, rfl, hj, h⟩ hnext
  by_cases hlt : j < D.names.length
  · have hk : D.names.length - 1 - j < D.names.length := by omega
    obtain ⟨x, hx⟩ : ∃ x, D.names[D.names.length - 1 - j]'hk = x := ⟨_, rfl⟩
    have hrev : D.names.reverse[j]? = some x := by
      rw [List.getElem?_reverse hlt, List.getElem?_eq_getElem hk, hx]
    have htake : (D.names.reverse.take (j + 1)).filterMap (fun x => segNum x.data.toList) = (D.names.reverse.take j).filterMap (fun x => segNum x.data.toList) ++ (match segNum x.data.toList with | some n => [n] | none => []) := by
      rw [List.take_add_one, hrev, List.filterMap_append]
      congr 1
      cases hn : segNum x.data.toList <;> simp [hn]
    refine XIf.yes (decide_eq_true (show (D.names.length : Int) - 1 - (j : Int) ≥ 0 by omega)) (xjoin (fun (st : Sl × Unit) w' => ∃ s', st = (s', ()) ∧ Sat W w' (own 1 s' (((D.names.reverse.take (j + 1)).filterMap fun x => segNum x.data.toList).map fun n => Value.int .i64 (n : Nat)) :: own 1 s0 (D.names.map Value.string) :: DiskP d D :: L)) (fun J hJ => ?_) ?_)
    · refine xelem (h.bring 1) (D.names.length - 1 - j) (by show (D.names.length : Int) - 1 - (j : Int) = ((D.names.length - 1 - j : Nat) : Int); omega) (x := x) (by rw [names_get _ _ hk, hx]) (by show Int.toNat ((D.names.length : Int) - 1 - (j : Int)) * 1 = D.names.length - 1 - j; omega) fun a => ?_
      have hns := number_spec x.data.toList h
      rw [str_data] at hns
      refine xcalls hns ?_
      rintro v w2 ⟨rfl, h2⟩
      cases hn : segNum x.data.toList with
      | none =>
        rw [hn] at htake
        rw [List.append_nil] at htake
        exact ⟨(0, false, ()), rfl, XIf.no rfl (hJ _ _ ⟨s, rfl, by rw [htake]; exact h2⟩)⟩
      | some n =>
        rw [hn] at htake
        refine ⟨((n : Int), true, ()), rfl, XIf.yes rfl (xappend1 (by kernel_rfl) h2 rfl rfl ?_ fun a s' w3 h3 hl3 => hJ _ _ ⟨s', rfl, ?_⟩)⟩
        · have := h2.own_len
          rw [List.length_map] at this
          have hfl : ((D.names.reverse.take j).filterMap fun x => segNum x.data.toList).length ≤ (D.names.reverse.take j).length := List.length_filterMap_le _ _
          rw [List.length_take] at hfl
          show s.len + 1 ≤ _
          omega
        · rw [htake, List.map_append]
          exact h3
    · rintro _ w3 ⟨s', rfl, h3⟩
      exact xlet ((D.names.length : Int) - 1 - ((j + 1 : Nat) : Int)) (by show IntKind.wrap .i64 ((D.names.length : Int) - 1 - (j : Int) - 1) = _; rw [wi (by omega) (by omega)]; omega) (hnext _ _ ⟨j + 1, s', rfl, by omega, h3⟩ (by show ((D.names.length : Int) - 1 - ((j + 1 : Nat) : Int) + 1).toNat < ((D.names.length : Int) - 1 - (j : Int) + 1).toNat; omega))
  · have hje : j = D.names.length := by omega
    subst hje
    rw [List.take_of_length_le (by rw [List.length_reverse]; exact Nat.le_refl _)] at h
    refine XIf.no (decide_eq_false (show ¬ (D.names.length : Int) - 1 - (D.names.length : Int) ≥ 0 by omega)) (hK3 s w ?_)
    exact (h.bring 1).drop

theorem wipe_spec (hs : Sat W w (LogP p d b l :: DiskP d D :: L)) (hl : LGok l) (hf : Fit i D) (hi : i ≤ 2 ^ 26) :
    Ret Tryz.prog F.wal_Log_wipe [ptr p] w fun v w' => v = .int .i64 (wipeW D l).1 ∧ Sat W w' (LogP p d b l :: DiskP d (wipeW D l).2 :: L) := by
  suffices H : ∀ K : Value → World → Prop, (∀ R w', wipeW D l = R → Sat W w' (LogP p d b l :: DiskP d R.2 :: L) → K (.int .i64 R.1) w') → S.wal_Log_wipe (some ⟨p, 0, none⟩) K w from
    S.wal_Log_wipe_ok _ _ _ (H _ fun R w' e h => by subst e; exact ⟨rfl, h⟩)
  intro K hK
  have hl1 := hl.n
  have hl2 := hl.end_
  have hlen := hf.len
  unfold wipeW at hK
  have hd := hs.drew
  refine xnil (xload hd 0 rfl rfl (xnil (xload hd 2 rfl rfl (xcall (name_spec l.n hl.n hd) ?_))))
  rintro v w1 ⟨rfl, h1⟩
  refine ⟨nm l.n, rfl, h1.cell rfl, xsize (h1.bring 1) hf (by omega) fun w2 _ h2 => ?_⟩
  have h2 := h2.swap
  dsimp only at hK
  by_cases hz : (D.size (nm l.n)).2 ≠ 0
  · rw [if_pos hz] at hK
    exact XIf.yes (by simpa using hz) (hK ((D.size (nm l.n)).2, D) w2 rfl h2)
  rw [if_neg hz] at hK
  have hd2 := h2.drew
  have hsb := size_bound D hf.small (nm l.n)
  refine XIf.no (by simpa using hz) (xnil (xload hd2 0 rfl rfl (xnil (xload hd2 2 rfl rfl (xnil (xload hd2 3 rfl rfl (xnil (xload hd2 3 rfl rfl (xlet ((D.size (nm l.n)).1 - (l.end_ : Int)) (wi (by omega) (by omega)) (xcall (name_spec l.n hl.n hd2) ?_))))))))))
  rintro v w3 ⟨rfl, h3⟩
  refine ⟨nm l.n, rfl, h3.cell rfl, h3.cell rfl, h3.cell rfl, xcalls (Read_spec (name := nm l.n) (at_ := (l.end_ : Nat)) (n := (D.size (nm l.n)).1 - (l.end_ : Int)) (h3.bring 1) hf.rising hf.small (by omega)) ?_⟩
  rintro v w4 ⟨rfl, hq4⟩
  have h4 := h3.quiet hq4
  obtain ⟨r, hr⟩ : ∃ r, D.read (nm l.n) (l.end_ : Nat) ((D.size (nm l.n)).1 - (l.end_ : Int)) = r := ⟨_, rfl⟩
  have hrl : r.1.length ≤ 2097152 := hr ▸ read_len D hf.small _ _ _
  rw [hr] at hK ⊢
  refine ⟨(str r.1, r.2, ()), rfl, h4.cell rfl, xjoin (fun (st : Bool × Unit) w' => st = (decide (r.2 ≠ 0 ∨ allZ r.1 = true), ()) ∧ Sat W w' (LogP p d b l :: DiskP d D :: L)) (fun J hJ => ?_) ?_⟩
  · by_cases hr2 : r.2 ≠ 0
    · exact XIf.yes (by simpa using hr2) (hJ _ _ ⟨by simp [hr2], h4⟩)
    · refine XIf.no (by simpa using hr2) (xcall (Trim_spec r.1 (by omega)) ?_)
      rintro v w5 ⟨m, rfl, hm, hq5⟩
      refine ⟨str m, rfl, hJ _ _ ⟨?_, h4.quiet hq5⟩⟩
      rw [str_empty]
      have : (m = []) ↔ (r.2 ≠ 0 ∨ allZ r.1 = true) := by
        rw [hm, ← allZ_iff]
        constructor
        · exact .inr
        · rintro (h | h)
          · exact absurd h hr2
          · exact h
      exact Prod.ext (decide_eq_decide.2 this) rfl
  clear h4
  rintro _ w5 ⟨rfl, h5⟩
  by_cases hstop : r.2 ≠ 0 ∨ allZ r.1 = true
  · rw [if_pos hstop] at hK
    exact XIf.yes (decide_eq_true hstop) (hK (r.2, D) w5 rfl h5)
  rw [if_neg hstop] at hK
  have hd5 := h5.drew
  have e1 : (str r.1).size = r.1.length := str_size _
  refine XIf.no (decide_eq_false hstop) (xnil (xload hd5 0 rfl rfl (xnil (xload hd5 2 rfl rfl (xnil (xload hd5 3 rfl rfl (xcall (name_spec l.n hl.n hd5) ?_)))))))
  rintro v w6 ⟨rfl, h6⟩
  refine ⟨nm l.n, rfl, h6.cell rfl, h6.cell rfl, xcall (Repeat_spec r.1.length (by omega) (by exact h6)) ?_⟩
  rintro v w7 ⟨rfl, h7⟩
  have hsz : (str (List.replicate r.1.length (0 : UInt8))).size = r.1.length := by rw [str_size, List.length_replicate]
  have hwaits := hf.waits
  have hcount := hf.count
  refine ⟨_, rfl, h7.cell rfl, h7.cell rfl, xcall (Write_spec (name := nm l.n) (at_ := (l.end_ : Nat)) (t := str (List.replicate r.1.length 0)) (h7.bring 1) hf.rising hf.small (by omega) hf.most hf.fuse.2 hf.fuse.1 hcount.1 (by rw [hsz]; omega) (by rw [hsz]; omega)) ?_⟩
  rintro v w8 ⟨rfl, h8⟩
  rw [str_toList] at h8 ⊢
  have hf2 := hf.writeN 3000 (nm l.n) (l.end_ : Nat) (List.replicate r.1.length 0) (by rw [List.length_replicate]; omega)
  obtain ⟨R, hR⟩ : ∃ R, D.write (nm l.n) (l.end_ : Nat) (List.replicate r.1.length 0) = R := ⟨_, rfl⟩
  rw [hR] at hK h8 hf2 ⊢
  refine ⟨R.1, rfl, ?_⟩
  by_cases hR0 : R.1 ≠ 0
  · rw [if_pos hR0] at hK
    exact XIf.yes (by simpa using hR0) (hK R w8 rfl h8.swap)
  rw [if_neg hR0] at hK
  have hlen2 : R.2.files.length ≤ 2 ^ 30 := Nat.le_trans hf2.len (by omega)
  have hwaits2 : R.2.wait.length ≤ 2 ^ 38 := Nat.le_trans hf2.waits (by omega)
  refine XIf.no (by simpa using hR0) (xnil (xload h8.swap 0 rfl rfl (xcall (Sync_spec h8 hlen2 hf2.pieces hwaits2) ?_)))
  rintro v w9 ⟨rfl, h9⟩
  exact ⟨_, rfl, hK R.2.sync w9 rfl h9.swap⟩

end
end Go.X

/-! The log's calls. -/
namespace Go.X
open Go.Proofs

theorem putB_bound (sign : UInt8) : ∀ (xs : List (List UInt8)) (S : PB), S.mark.length ≤ 2 ^ 20 → (putB sign xs S).bytes.length ≤ S.bytes.length + 1048869 * xs.length ∧ (putB sign xs S).mark.length ≤ 2 ^ 20 ∧ (putB sign xs S).book.length ≤ S.book.length + xs.length
  | [], S, h => ⟨by simp [putB], h, by simp [putB]⟩
  | s :: l, S, h => by
    unfold putB
    split
    · exact ⟨by dsimp only; omega, h, by dsimp only; omega⟩
    · rename_i hs
      obtain ⟨h1, h2, h3⟩ := putB_bound sign l { S with bytes := S.bytes ++ (four (sign :: s).length ++ S.book.mark (S.mark ++ sign :: s) ++ sign :: s), mark := S.book.mark (S.mark ++ sign :: s), book := S.book.add (S.mark ++ sign :: s) } (by rw [mark_length]; decide)
      have hr := recLen (S.book.mark (S.mark ++ sign :: s)) (sign :: s) (mark_length _ _)
      have ha := add_length S.book (S.mark ++ sign :: s)
      dsimp only at h1 h3
      rw [List.length_append, hr] at h1
      have hsl : (sign :: s).length = s.length + 1 := rfl
      have hcl : (s :: l).length = l.length + 1 := rfl
      exact ⟨by omega, h2, by omega⟩

theorem putW_fit {i : Nat} {D : DD} (hf : Fit i D) (M : Bk) (l : LG) (hl : LGok l) (he : l.end_ ≤ 2 ^ 39) (sign : UInt8) (xs : List (List UInt8)) (hx : xs.length ≤ 2 ^ 14) :
    Fit (i + 1500 * xs.length) (putW D M l sign xs).disk ∧ LGok (putW D M l sign xs).log ∧ (putW D M l sign xs).log.n = l.n ∧ (putW D M l sign xs).log.end_ ≤ l.end_ + 1048869 * xs.length ∧ (putW D M l sign xs).book.length ≤ M.length + xs.length := by
  obtain ⟨h1, h2, h3⟩ := putB_bound sign xs ⟨0, [], l.mark, M⟩ hl.mark
  obtain ⟨Z, hZ⟩ : ∃ Z, putB sign xs ⟨0, [], l.mark, M⟩ = Z := ⟨_, rfl⟩
  rw [hZ] at h1 h2 h3
  simp only [List.length_nil, Nat.zero_add] at h1
  unfold putW
  rw [hZ]
  dsimp only
  split
  · exact ⟨hf.monoN _, hl, rfl, by show l.end_ ≤ _; omega, h3⟩
  · have hw := hf.writeN (1500 * xs.length) (nm l.n) (l.end_ : Nat) Z.bytes (by omega)
    split
    · exact ⟨hw, hl, rfl, by show l.end_ ≤ _; omega, h3⟩
    · exact ⟨hw, ⟨hl.n, by show l.end_ + Z.bytes.length ≤ _; omega, h2⟩, rfl, by show l.end_ + Z.bytes.length ≤ _; omega, h3⟩

section
variable {W w : World} {L : List SP} {p d b i : Nat} {D : DD} {M : Bk} {l : LG} {A : SP}

/-- What a begun segment leaves in memory. -/
def BegunP (d b : Nat) (A : SP) (L : List SP) (R : PR4) (v : Value) (W w : World) : Prop :=
  (R.err ≠ 0 → v = .tuple ⟨[.pointer none, .int .i64 R.err]⟩ ∧ Sat W w (DiskP d R.disk :: BookP b R.book :: A :: L)) ∧
  (R.err = 0 → ∃ p, v = .tuple ⟨[ptr p, .int .i64 0]⟩ ∧ Sat W w (LogP p d b R.log :: DiskP d R.disk :: BookP b R.book :: A :: L))

theorem firstM_len (n : Nat) : (firstM n).length = 20 := by unfold firstM; rw [List.length_append, segName_length]; rfl

theorem begin_spec {s : Sl} {xs : List (List UInt8)} (n : Nat) (hn : n ≤ 2 ^ 40) (hR : ROStr W A s xs) (hs : Sat W w (DiskP d D :: BookP b M :: A :: L)) (hf : Fit i D) (hi : i ≤ 2 ^ 25) (hM : M.length ≤ 2 ^ 38) (hx : xs.length ≤ 2 ^ 13) :
    Ret Tryz.prog F.wal_begin [ptr d, ptr b, .int .i64 n, .slice s.a s.len s.cap] w fun v w' => BegunP d b A L (beginW D M n xs) v W w' := by
  suffices H : ∀ K : Value → World → Prop, (∀ R v w', beginW D M n xs = R → BegunP d b A L R v W w' → K v w') → S.wal_begin (some ⟨d, 0, none⟩) (some ⟨b, 0, none⟩) n s K w from
    S.wal_begin_ok _ _ _ s _ _ (H _ fun R v w' e h => by subst e; exact h)
  intro K hK
  have hlen := hf.len
  have hmade := hf.made
  unfold beginW at hK
  dsimp only at hK
  refine xcall (name_spec n hn hs) ?_
  rintro v w1 ⟨rfl, h1⟩
  refine ⟨nm n, rfl, xcall (Create_spec (name := nm n) h1 hf.rising (by omega) (by omega)) ?_⟩
  rintro v w2 ⟨rfl, h2⟩
  have hf1 := hf.create (nm n)
  obtain ⟨C, hC⟩ : ∃ C, D.create (nm n) = C := ⟨_, rfl⟩
  rw [hC] at h2 hf1 hK ⊢
  refine ⟨C.1, rfl, ?_⟩
  by_cases hc : C.1 ≠ 0
  · rw [if_pos hc] at hK
    exact XIf.yes (by simpa using hc) (hK _ _ _ rfl ⟨fun _ => ⟨rfl, h2⟩, fun h => absurd h hc⟩)
  rw [if_neg hc] at hK
  refine XIf.no (by simpa using hc) (xcall (first_spec n hn h2) ?_)
  rintro v w3 ⟨rfl, h3⟩
  refine ⟨str (firstM n), rfl, xnew h3 fun p w4 h4 => ?_⟩
  have h4 : Sat W w4 (LogP p d b ⟨n, 0, firstM n⟩ :: DiskP d C.2 :: BookP b M :: A :: L) := h4
  have hl0 : LGok ⟨n, 0, firstM n⟩ := ⟨hn, Nat.zero_le _, by show (firstM n).length ≤ _; rw [firstM_len]; decide⟩
  refine xcall (put_spec 83 hR h4 hl0 hf1 (by omega) (by omega) (by omega)) ?_
  rintro v w5 ⟨rfl, h5⟩
  obtain ⟨hfA, hlA, hnA, heA, hbA⟩ := putW_fit hf1 M ⟨n, 0, firstM n⟩ hl0 (Nat.zero_le _) 83 xs (by omega)
  obtain ⟨RA, hRA⟩ : ∃ RA, putW C.2 M ⟨n, 0, firstM n⟩ 83 xs = RA := ⟨_, rfl⟩
  rw [hRA] at h5 hfA hlA hnA heA hbA hK ⊢
  obtain ⟨RB, hRB⟩ : ∃ RB, (if RA.err = 0 then putW RA.disk RA.book RA.log 69 [[]] else RA) = RB := ⟨_, rfl⟩
  rw [hRB] at hK
  have hBfit : Fit (i + 1 + 1500 * xs.length + 1500) RB.disk ∧ LGok RB.log := by
    rw [← hRB]
    split
    · obtain ⟨g1, g2, _⟩ := putW_fit hfA RA.book RA.log hlA (by dsimp only at heA; omega) 69 [[]] (by decide)
      exact ⟨g1, g2⟩
    · exact ⟨hfA.monoN 1500, hlA⟩
  refine ⟨RA.err, rfl, xjoin (fun (st : Int × Unit) w' => st = (RB.err, ()) ∧ Sat W w' (LogP p d b RB.log :: DiskP d RB.disk :: BookP b RB.book :: A :: L)) (fun J hJ => ?_) ?_⟩
  · by_cases hA0 : RA.err = 0
    · rw [if_pos hA0] at hRB
      refine XIf.yes (by simpa using hA0) (xnew h5 fun c w6 h6 => ?_)
      have h6 : Sat W w6 (pts c [.string (str [])] :: LogP p d b RA.log :: DiskP d RA.disk :: BookP b RA.book :: A :: L) := h6
      have hbM : RA.book.length ≤ 2 ^ 39 := by omega
      have hiA : i + 1 + 1500 * xs.length ≤ 2 ^ 26 := by omega
      refine xcall (put_spec (xs := [[]]) (s := ⟨some ⟨c, 0, none⟩, 1, 1⟩) 69 (ROStr.one (b := c) []) (h6.arr [1, 2, 3, 0]) hlA hfA hiA hbM (by decide)) ?_
      rintro v w7 ⟨rfl, h7⟩
      rw [hRB] at h7 ⊢
      exact ⟨RB.err, rfl, hJ _ _ ⟨rfl, (h7.bring 3).drop⟩⟩
    · rw [if_neg hA0] at hRB
      subst hRB
      exact XIf.no (by simpa using hA0) (hJ _ _ ⟨rfl, h5⟩)
  clear h5 h4 h3 h2 h1
  rintro _ w6 ⟨rfl, h6⟩
  obtain ⟨SS, hSS⟩ : ∃ SS, (if RB.err = 0 then RB.disk.sync else (RB.err, RB.disk)) = SS := ⟨_, rfl⟩
  rw [hSS] at hK
  have hlenB : RB.disk.files.length ≤ 2 ^ 30 := Nat.le_trans hBfit.1.len (by omega)
  have hwaitB : RB.disk.wait.length ≤ 2 ^ 38 := Nat.le_trans hBfit.1.waits (by omega)
  have hSfit : Fit (i + 1 + 1500 * xs.length + 1500 + 1) SS.2 := by
    rw [← hSS]
    split
    · exact hBfit.1.sync
    · exact hBfit.1.mono
  refine xjoin (fun (st : Int × Unit) w' => st = (SS.1, ()) ∧ Sat W w' (LogP p d b RB.log :: DiskP d SS.2 :: BookP b RB.book :: A :: L)) (fun J hJ => ?_) ?_
  · by_cases hB0 : RB.err = 0
    · rw [if_pos hB0] at hSS
      refine XIf.yes (by simpa using hB0) (xcall (Sync_spec (h6.bring 1) hlenB hBfit.1.pieces hwaitB) ?_)
      rintro v w7 ⟨rfl, h7⟩
      rw [hSS] at h7 ⊢
      exact ⟨SS.1, rfl, hJ _ _ ⟨rfl, h7.swap⟩⟩
    · rw [if_neg hB0] at hSS
      subst hSS
      exact XIf.no (by simpa using hB0) (hJ _ _ ⟨rfl, h6⟩)
  clear h6
  rintro _ w7 ⟨rfl, h7⟩
  refine xjoin (fun (_ : Unit) w' => Sat W w' (LogP p d b RB.log :: DiskP d (if SS.1 = 7 ∨ SS.1 = 4 ∨ SS.1 = 2 then (SS.2.remove (nm n)).2 else SS.2) :: BookP b RB.book :: A :: L)) (fun J hJ => ?_) ?_
  · refine xjoin (fun (st : Bool × Unit) w' => st = (decide (SS.1 = 7 ∨ SS.1 = 4 ∨ SS.1 = 2), ()) ∧ w' = w7) (fun J2 hJ2 => ?_) ?_
    · by_cases g7 : SS.1 = 7
      · exact XIf.yes (by simpa using g7) (hJ2 _ _ ⟨by simp [g7], rfl⟩)
      refine XIf.no (by simpa using g7) ?_
      by_cases g4 : SS.1 = 4
      · exact XIf.yes (by simpa using g4) (hJ2 _ _ ⟨by simp [g4], rfl⟩)
      refine XIf.no (by simpa using g4) (hJ2 _ _ ⟨?_, rfl⟩)
      have : (SS.1 == 2) = decide (SS.1 = 7 ∨ SS.1 = 4 ∨ SS.1 = 2) := by
        by_cases g2 : SS.1 = 2
        · simp [g2]
        · rw [beq_false_of_ne g2, decide_eq_false]
          rintro (h | h | h)
          · exact g7 h
          · exact g4 h
          · exact g2 h
      exact Prod.ext this rfl
    rintro _ w' ⟨rfl, rfl⟩
    by_cases hrm : SS.1 = 7 ∨ SS.1 = 4 ∨ SS.1 = 2
    · rw [if_pos hrm] at hJ
      refine XIf.yes (decide_eq_true hrm) (xcall (name_spec n hn h7) ?_)
      rintro v w8 ⟨rfl, h8⟩
      have hlenS : SS.2.files.length ≤ 2 ^ 30 := Nat.le_trans hSfit.len (by omega)
      have hwaitS : SS.2.wait.length ≤ 2 ^ 38 := Nat.le_trans hSfit.waits (by omega)
      refine ⟨nm n, rfl, xcall (Remove_spec (name := nm n) (h8.bring 1) hSfit.rising hlenS hwaitS) ?_⟩
      rintro v w9 ⟨rfl, h9⟩
      exact ⟨_, rfl, hJ () w9 h9.swap⟩
    · rw [if_neg hrm] at hJ
      exact XIf.no (decide_eq_false hrm) (hJ () _ h7)
  rintro _ w8 h8
  by_cases hS0 : SS.1 ≠ 0
  · refine XIf.yes (by simpa using hS0) (hK _ _ _ rfl ⟨fun _ => ⟨rfl, h8.drop⟩, fun h => absurd h hS0⟩)
  · refine XIf.no (by simpa using hS0) (hK _ _ _ rfl ⟨fun h => absurd h hS0, fun _ => ⟨p, rfl, h8⟩⟩)

theorem beginW_fit {i : Nat} {D : DD} (hf : Fit i D) (M : Bk) (n : Nat) (hn : n ≤ 2 ^ 40) (xs : List (List UInt8)) (hx : xs.length ≤ 2 ^ 13) :
    Fit (i + 1500 * xs.length + 1510) (beginW D M n xs).disk ∧ LGok (beginW D M n xs).log ∧ (beginW D M n xs).book.length ≤ M.length + xs.length + 1 := by
  have hf1 := hf.create (nm n)
  have hl0 : LGok ⟨n, 0, firstM n⟩ := ⟨hn, Nat.zero_le _, by show (firstM n).length ≤ _; rw [firstM_len]; decide⟩
  unfold beginW
  dsimp only
  split
  · exact ⟨(hf1.monoN (1500 * xs.length + 1509)).cast (by omega), hl0, by show M.length ≤ _; omega⟩
  obtain ⟨hfA, hlA, hnA, heA, hbA⟩ := putW_fit hf1 M ⟨n, 0, firstM n⟩ hl0 (Nat.zero_le _) 83 xs (by omega)
  obtain ⟨RA, hRA⟩ : ∃ RA, putW (D.create (nm n)).2 M ⟨n, 0, firstM n⟩ 83 xs = RA := ⟨_, rfl⟩
  rw [hRA] at hfA hlA hnA heA hbA ⊢
  obtain ⟨RB, hRB⟩ : ∃ RB, (if RA.err = 0 then putW RA.disk RA.book RA.log 69 [[]] else RA) = RB := ⟨_, rfl⟩
  have hBfit : Fit (i + 1 + 1500 * xs.length + 1500) RB.disk ∧ LGok RB.log ∧ RB.book.length ≤ M.length + xs.length + 1 := by
    rw [← hRB]
    split
    · obtain ⟨g1, g2, _, _, g5⟩ := putW_fit hfA RA.book RA.log hlA (by dsimp only at heA; omega) 69 [[]] (by decide)
      exact ⟨g1, g2, by simp only [List.length_singleton] at g5; omega⟩
    · exact ⟨hfA.monoN 1500, hlA, by omega⟩
  rw [hRB]
  obtain ⟨SS, hSS⟩ : ∃ SS, (if RB.err = 0 then RB.disk.sync else (RB.err, RB.disk)) = SS := ⟨_, rfl⟩
  have hSfit : Fit (i + 1 + 1500 * xs.length + 1500 + 1) SS.2 := by
    rw [← hSS]
    split
    · exact hBfit.1.sync
    · exact hBfit.1.mono
  rw [hSS]
  refine ⟨?_, hBfit.2.1, hBfit.2.2⟩
  dsimp only
  split
  · exact ((hSfit.remove (nm n)).monoN 7).cast (by omega)
  · exact (hSfit.monoN 8).cast (by omega)

end
end Go.X

/-! The log: Format, Open, Append, Sync, Turn, Size, Segment. -/
namespace Go.X
open Go.Proofs

theorem dropAll_fit {i : Nat} : ∀ (ns : List Nat) {D : DD}, Fit i D → Fit i (dropAll D ns)
  | [], _, h => h
  | n :: ns, _, h => dropAll_fit ns (h.remove0 (nm n))

theorem dropBut_fit {i : Nat} (n : Nat) : ∀ (ns : List Nat) {D : DD}, Fit i D → Fit i (dropBut D ns n)
  | [], _, h => h
  | k :: ns, D, h => by
    unfold dropBut
    rw [List.foldl_cons]
    split
    · exact dropBut_fit n ns (h.remove0 (nm k))
    · exact dropBut_fit n ns h

theorem wipeW_fit {i : Nat} {D : DD} (h : Fit i D) (l : LG) : Fit (i + 3000) (wipeW D l).2 := by
  unfold wipeW
  dsimp only
  split
  · exact h.monoN 3000
  split
  · exact h.monoN 3000
  · have hrl := read_len D h.small (nm l.n) (l.end_ : Nat) ((D.size (nm l.n)).1 - (l.end_ : Int))
    have hw := h.writeN 3000 (nm l.n) (l.end_ : Nat) (List.replicate (D.read (nm l.n) (l.end_ : Nat) ((D.size (nm l.n)).1 - (l.end_ : Int))).1.length 0) (by rw [List.length_replicate]; omega)
    split
    · exact hw
    · exact hw.sync0

theorem openL_fit {i : Nat} {D : DD} (h : Fit i D) (M : Bk) (all : List Nat) : ∀ ns, Fit (i + 3000) (openL D M all ns).disk
  | [] => h.monoN 3000
  | n :: ns => by
    unfold openL
    split
    · split
      · exact wipeW_fit (dropBut_fit n all h) _
      · exact openL_fit h M all ns
    · exact openL_fit h M all ns

theorem segsW_lt {D : DD} {n : Nat} (h : n ∈ segsW D) : n < 100000000 := by
  unfold segsW at h
  obtain ⟨x, _, hx⟩ := List.mem_filterMap.1 h
  exact segNum_lt hx

theorem segsW_len (D : DD) : (segsW D).length ≤ D.files.length := by
  unfold segsW
  refine Nat.le_trans (List.length_filterMap_le _ _) ?_
  unfold DD.names
  rw [List.length_reverse, List.length_map]
  exact Nat.le_refl _

theorem loadL_ok {M : Bk} {all : List UInt8} : ∀ (k : Nat) (S : LD), S.end_ ≤ all.length → S.mark.length ≤ 2 ^ 20 → (loadL M all k S).end_ ≤ all.length ∧ (loadL M all k S).mark.length ≤ 2 ^ 20
  | 0, S, h1, h2 => ⟨h1, h2⟩
  | k + 1, S, h1, h2 => by
    unfold loadL
    split
    · exact ⟨h1, h2⟩
    · rename_i s m hn
      obtain ⟨g1, g2, g3, g4⟩ := nextB_some hn
      split
      · exact ⟨h1, h2⟩
      · rename_i S' hst
        have : S'.end_ = S.end_ + 36 + s.length ∧ S'.mark = m := by
          unfold loadStep at hst
          split at hst
          · cases hst; exact ⟨rfl, rfl⟩
          split at hst
          · cases hst; exact ⟨rfl, rfl⟩
          · cases hst
        exact loadL_ok k S' (by omega) (by rw [this.2, g4]; decide)

theorem loadW_ok {i : Nat} {D : DD} (hf : Fit i D) {M : Bk} {n : Nat} {S : LD} (h : loadW D M n = some S) (hn : n ≤ 2 ^ 40) : LGok (S.log n) := by
  unfold loadW at h
  split at h
  · cases h
  split at h
  · cases h
  · cases h
    have hal := read_len D hf.small (nm n) 0 (D.size (nm n)).1
    have := loadL_ok (M := M) (all := (D.read (nm n) 0 (D.size (nm n)).1).1) ((D.read (nm n) 0 (D.size (nm n)).1).1.length + 1) ⟨0, firstM n, false, []⟩ (Nat.zero_le _) (by show (firstM n).length ≤ _; rw [firstM_len]; decide)
    exact ⟨hn, Nat.le_trans this.1 (by omega), this.2⟩

section
variable {W w : World} {L : List SP} {p d b i : Nat} {D : DD} {M : Bk} {l : LG} {A : SP}

theorem ints_get (l : List Nat) (k : Nat) (h : k < l.length) : readL (.int .i64) (l.map fun n => Value.int .i64 (n : Nat)) k = some (l[k] : Int) := by
  simp [readL, List.getElem?_map, List.getElem?_eq_getElem h, Leaf.un]

theorem Format_spec (hs : Sat W w (DiskP d D :: BookP b M :: L)) (hf : Fit i D) (hi : i ≤ 2 ^ 25) (hM : M.length ≤ 2 ^ 38) :
    Ret Tryz.prog F.wal_Format [ptr d, ptr b] w fun v w' => BegunP d b emp L (formatW D M) v W w' := by
  suffices H : ∀ K : Value → World → Prop, (∀ R v w', formatW D M = R → BegunP d b emp L R v W w' → K v w') → S.wal_Format (some ⟨d, 0, none⟩) (some ⟨b, 0, none⟩) K w from
    S.wal_Format_ok _ _ _ _ (H _ fun R v w' e h => by subst e; exact h)
  intro K hK
  have hlen := hf.len
  refine xcall_eq (none_ok (hs.bring 1)) false rfl (XIf.no rfl (xcalls (segments_spec hs hf (by omega)) ?_))
  rintro v w1 ⟨h1, h2⟩
  unfold formatW at hK
  by_cases ho : D.off = true
  · rw [if_pos ho] at hK
    obtain ⟨rfl, h⟩ := h1 ho
    refine ⟨(⟨none, 0, 0⟩, (14 : Int), ()), rfl, XIf.yes rfl (hK _ _ _ rfl ⟨fun _ => ⟨rfl, h.add_emp.arr [1, 2, 0]⟩, fun h => (by cases h)⟩)⟩
  have ho' : D.off = false := by simpa using ho
  rw [if_neg ho] at hK
  obtain ⟨s, rfl, h⟩ := h2 ho'
  obtain ⟨ns, hns⟩ : ∃ ns, segsW D = ns := ⟨_, rfl⟩
  have hlt : ∀ n ∈ ns, n < 100000000 := fun n hn => segsW_lt (D := D) (by rw [hns]; exact hn)
  have hnl : ns.length ≤ i := by rw [← hns]; exact Nat.le_trans (segsW_len D) hlen
  rw [hns] at h hK
  have hsl : s.len = ns.length := by have := h.own_len; simpa using this.symm
  refine ⟨(s, (0 : Int), ()), rfl, XIf.no rfl ?_⟩
  refine xloop (fun (st : Int × Unit) w => ∃ k : Nat, st = ((k : Int), ()) ∧ k ≤ ns.length ∧ Sat W w (own 1 s (ns.map fun n => Value.int .i64 (n : Nat)) :: DiskP d (dropAll D (ns.take k)) :: BookP b M :: L)) (fun st => ((s.len : Int) - st.1).toNat)
    ⟨0, rfl, Nat.zero_le _, h⟩ ?_
  clear h
  rintro next _ w ⟨k, rfl, hk, h⟩ hnext
  by_cases hkl : k < ns.length
  · have hD := dropAll_fit (ns.take k) hf
    have htk : dropAll D (ns.take (k + 1)) = ((dropAll D (ns.take k)).remove (nm ns[k])).2 := by
      unfold dropAll
      rw [List.take_add_one, List.getElem?_eq_getElem hkl, List.foldl_append]
      rfl
    refine XIf.yes (decide_eq_true (show (k : Int) < (s.len : Int) by omega)) (xelem h k rfl (ints_get ns k hkl) (by show Int.toNat _ * 1 = _; simp) fun a => xcall (name_spec ns[k] (by have := hlt _ (List.getElem_mem hkl); omega) h) ?_)
    rintro v w2 ⟨rfl, h2⟩
    have hlen2 : (dropAll D (ns.take k)).files.length ≤ 2 ^ 30 := Nat.le_trans hD.len (by omega)
    have hwait2 : (dropAll D (ns.take k)).wait.length ≤ 2 ^ 38 := Nat.le_trans hD.waits (by omega)
    refine ⟨_, rfl, xcall (Remove_spec (name := nm ns[k]) (h2.bring 1) hD.rising hlen2 hwait2) ?_⟩
    rintro v w3 ⟨rfl, h3⟩
    refine ⟨_, rfl, xlet ((k + 1 : Nat) : Int) (by dsimp only; rw [wi (by omega) (by omega)]; omega) (hnext _ _ ⟨k + 1, rfl, hkl, ?_⟩ (by dsimp only; omega))⟩
    rw [htk]
    exact h3.swap
  · have hke : k = ns.length := by omega
    rw [hke, List.take_length] at h
    have hD := dropAll_fit ns hf
    refine XIf.no (decide_eq_false (show ¬ (k : Int) < (s.len : Int) by omega)) (xcalls (begin_spec (s := ⟨none, 0, 0⟩) (xs := []) 1 (by decide) (ROStr.nil emp) (h.drop.add_emp.arr [1, 2, 0]) hD hi hM (by decide)) ?_)
    rintro v w2 hb
    obtain ⟨R, hR⟩ : ∃ R, beginW (dropAll D ns) M 1 [] = R := ⟨_, rfl⟩
    rw [hR] at hb hK
    by_cases he : R.err = 0
    · obtain ⟨p, rfl, h3⟩ := hb.2 he
      exact ⟨(some ⟨p, 0, none⟩, (0 : Int), ()), rfl, hK _ _ _ rfl hb⟩
    · obtain ⟨rfl, h3⟩ := hb.1 he
      exact ⟨(none, R.err, ()), rfl, hK _ _ _ rfl hb⟩

/-- What Open leaves. -/
def OpenedP (d b : Nat) (M : Bk) (L : List SP) (R : OR) (v : Value) (W w : World) : Prop :=
  (R.err ≠ 0 → v = .tuple ⟨[.pointer none, .slice none 0 0, .int .i64 R.err]⟩ ∧ Sat W w (DiskP d R.disk :: BookP b M :: L)) ∧
  (R.err = 0 → ∃ (p : Nat) (s : Sl), v = .tuple ⟨[ptr p, .slice s.a s.len s.cap, .int .i64 0]⟩ ∧ Sat W w (LogP p d b R.log :: own 1 s (R.out.map fun x => Value.string (str x)) :: DiskP d R.disk :: BookP b M :: L))

theorem Open_spec (hs : Sat W w (DiskP d D :: BookP b M :: L)) (hf : Fit i D) (hi : i ≤ 2 ^ 25) :
    Ret Tryz.prog F.wal_Open [ptr d, ptr b] w fun v w' => OpenedP d b M L (openW D M) v W w' := by
  suffices H : ∀ K : Value → World → Prop, (∀ R v w', openW D M = R → OpenedP d b M L R v W w' → K v w') → S.wal_Open (some ⟨d, 0, none⟩) (some ⟨b, 0, none⟩) K w from
    S.wal_Open_ok _ _ _ _ (H _ fun R v w' e h => by subst e; exact h)
  intro K hK
  have hlen := hf.len
  refine xcall_eq (none_ok (hs.bring 1)) false rfl (XIf.no rfl (xcalls (segments_spec hs hf (by omega)) ?_))
  rintro v w1 ⟨h1, h2⟩
  unfold openW at hK
  by_cases ho : D.off = true
  · rw [if_pos ho] at hK
    obtain ⟨rfl, h⟩ := h1 ho
    refine ⟨(⟨none, 0, 0⟩, (14 : Int), ()), rfl, XIf.yes rfl (hK _ _ _ rfl ⟨fun _ => ⟨rfl, h⟩, fun h => (by cases h)⟩)⟩
  have ho' : D.off = false := by simpa using ho
  rw [if_neg ho] at hK
  obtain ⟨s, rfl, h⟩ := h2 ho'
  obtain ⟨ns, hns⟩ : ∃ ns, segsW D = ns := ⟨_, rfl⟩
  have hlt : ∀ n ∈ ns, n < 100000000 := fun n hn => segsW_lt (D := D) (by rw [hns]; exact hn)
  have hnl : ns.length ≤ i := by rw [← hns]; exact Nat.le_trans (segsW_len D) hlen
  rw [hns] at h hK
  have hsl : s.len = ns.length := by have := h.own_len; simpa using this.symm
  obtain ⟨Z, hZ⟩ : ∃ Z, openL D M ns ns = Z := ⟨_, rfl⟩
  rw [hZ] at hK
  refine ⟨(s, (0 : Int), ()), rfl, XIf.no rfl ?_⟩
  refine xloop (fun (st : Option Addr × Sl × Int × Int × Unit) w => ∃ k : Nat, st = (none, ⟨none, 0, 0⟩, 0, (k : Int), ()) ∧ k ≤ ns.length ∧ openL D M ns (ns.drop k) = Z ∧ Sat W w (own 1 s (ns.map fun n => Value.int .i64 (n : Nat)) :: DiskP d D :: BookP b M :: L)) (fun st => ((s.len : Int) - st.2.2.2.1).toNat)
    ⟨0, rfl, Nat.zero_le _, hZ, h⟩ ?_
  clear h
  rintro next _ w ⟨k, rfl, hk, hop, h⟩ hnext
  by_cases hkl : k < ns.length
  case neg =>
    rw [List.drop_eq_nil_of_le (by omega)] at hop
    have hop : (⟨8, D, ⟨0, 0, []⟩, []⟩ : OR) = Z := hop
    subst hop
    exact XIf.no (decide_eq_false (show ¬ (k : Int) < (s.len : Int) by omega)) (hK _ _ _ rfl ⟨fun _ => ⟨rfl, h.drop⟩, fun h => (by cases h)⟩)
  rw [List.drop_eq_getElem_cons hkl] at hop
  have hnk : ns[k] < 100000000 := hlt _ (List.getElem_mem hkl)
  obtain ⟨n, hn⟩ : ∃ n, ns[k] = n := ⟨_, rfl⟩
  rw [hn] at hop hnk
  refine XIf.yes (decide_eq_true (show (k : Int) < (s.len : Int) by omega)) (xelem h k rfl (x := (n : Int)) (by rw [ints_get ns k hkl, hn]) (by show Int.toNat _ * 1 = _; simp) fun a => xcalls (load_spec n (by omega) (h.arr [1, 2, 0]) hf (by omega)) ?_)
  rintro v w2 ⟨hno, hyes⟩
  unfold openL at hop
  have again : ∀ {w2}, openL D M ns (ns.drop (k + 1)) = Z → Sat W w2 (own 1 s (ns.map fun n => Value.int .i64 (n : Nat)) :: DiskP d D :: BookP b M :: L) → next (none, ⟨none, 0, 0⟩, 0, ((k + 1 : Nat) : Int), ()) w2 := fun hop h2 =>
    hnext _ _ ⟨k + 1, rfl, hkl, hop, h2⟩ (by dsimp only; omega)
  cases hld : loadW D M n with
  | none =>
    obtain ⟨rfl, h2⟩ := hno hld
    rw [hld] at hop
    exact ⟨(none, ⟨none, 0, 0⟩, false, ()), rfl, XIf.yes rfl (xlet ((k + 1 : Nat) : Int) (by dsimp only; rw [wi (by omega) (by omega)]; omega) (again hop (h2.arr [2, 0, 1])))⟩
  | some S =>
    obtain ⟨p, so, rfl, h2⟩ := hyes S hld
    rw [hld] at hop
    dsimp only at hop
    refine ⟨(some ⟨p, 0, none⟩, so, S.sealed, ()), rfl, ?_⟩
    cases hse : S.sealed with
    | false =>
      rw [hse, if_neg (by decide)] at hop
      exact XIf.yes rfl (xlet ((k + 1 : Nat) : Int) (by dsimp only; rw [wi (by omega) (by omega)]; omega) (again hop (h2.drop.drop.arr [2, 0, 1])))
    | true =>
      rw [hse, if_pos rfl] at hop
      clear hnext again
      refine XIf.no rfl ?_
      have hlog := loadW_ok hf hld (show n ≤ 2 ^ 40 by omega)
      refine xloop (fun (st : Int × Unit) w => ∃ j : Nat, st = ((j : Int), ()) ∧ j ≤ ns.length ∧ Sat W w (LogP p d b (S.log n) :: own 1 so (S.out.map fun x => Value.string (str x)) :: DiskP d (dropBut D (ns.take j) n) :: BookP b M :: own 1 s (ns.map fun n => Value.int .i64 (n : Nat)) :: L)) (fun st => ((s.len : Int) - st.1).toNat)
        ⟨0, rfl, Nat.zero_le _, h2⟩ ?_
      clear h2 h
      rintro next _ w ⟨j, rfl, hj, h⟩ hnext
      by_cases hjl : j < ns.length
      · have hD := dropBut_fit n (ns.take j) hf
        have htk : dropBut D (ns.take (j + 1)) n = if ns[j] ≠ n then ((dropBut D (ns.take j) n).remove (nm ns[j])).2 else dropBut D (ns.take j) n := by
          unfold dropBut
          rw [List.take_add_one, List.getElem?_eq_getElem hjl, List.foldl_append]
          rfl
        refine XIf.yes (decide_eq_true (show (j : Int) < (s.len : Int) by omega)) (xjoin (fun (_ : Unit) w' => Sat W w' (LogP p d b (S.log n) :: own 1 so (S.out.map fun x => Value.string (str x)) :: DiskP d (dropBut D (ns.take (j + 1)) n) :: BookP b M :: own 1 s (ns.map fun n => Value.int .i64 (n : Nat)) :: L)) (fun J hJ => ?_) ?_)
        · refine xelem (h.bring 4) j rfl (ints_get ns j hjl) (by show Int.toNat _ * 1 = _; simp) fun a => ?_
          by_cases hjn : ns[j] ≠ n
          · rw [htk, if_pos hjn] at hJ
            refine XIf.yes (by have : (ns[j] : Int) ≠ (n : Int) := by omega
                               simpa using this) (xcall (name_spec ns[j] (by have := hlt _ (List.getElem_mem hjl); omega) h) ?_)
            rintro v w3 ⟨rfl, h3⟩
            have hlen2 : (dropBut D (ns.take j) n).files.length ≤ 2 ^ 30 := Nat.le_trans hD.len (by omega)
            have hwait2 : (dropBut D (ns.take j) n).wait.length ≤ 2 ^ 38 := Nat.le_trans hD.waits (by omega)
            refine ⟨_, rfl, xcall (Remove_spec (name := nm ns[j]) (h3.bring 2) hD.rising hlen2 hwait2) ?_⟩
            rintro v w4 ⟨rfl, h4⟩
            exact ⟨_, rfl, hJ () w4 (h4.arr [1, 2, 0])⟩
          · rw [htk, if_neg hjn] at hJ
            refine XIf.no (by have : (ns[j] : Int) = (n : Int) := by omega
                              simp [this]) (hJ () w h)
        · rintro _ w3 h3
          exact xlet ((j + 1 : Nat) : Int) (by dsimp only; rw [wi (by omega) (by omega)]; omega) (hnext _ _ ⟨j + 1, rfl, hjl, h3⟩ (by dsimp only; omega))
      · have hje : j = ns.length := by omega
        rw [hje, List.take_length] at h
        have hD := dropBut_fit n ns hf
        refine XIf.no (decide_eq_false (show ¬ (j : Int) < (s.len : Int) by omega)) (xcall (wipe_spec (h.arr [0, 2]) hlog hD (by omega)) ?_)
        rintro v w3 ⟨rfl, h3⟩
        subst hop
        refine ⟨_, rfl, ?_⟩
        by_cases he : (wipeW (dropBut D ns n) (S.log n)).1 ≠ 0
        · refine XIf.yes (by simpa using he) (hK _ _ _ rfl ⟨fun _ => ⟨rfl, ?_⟩, fun h => absurd h he⟩)
          exact (h3.arr [0, 2, 4, 1, 3]).drop.drop.drop
        · refine XIf.no (by simpa using he) (hK _ _ _ rfl ⟨fun h => absurd h he, fun _ => ⟨p, so, rfl, ?_⟩⟩)
          have h4 : Sat W w3 (own 1 s (ns.map fun n => Value.int .i64 (n : Nat)) :: LogP p d b (S.log n) :: own 1 so (S.out.map fun x => Value.string (str x)) :: DiskP d (wipeW (dropBut D ns n) (S.log n)).2 :: BookP b M :: L) := h3.arr [4, 0, 2, 1, 3]
          exact h4.drop

theorem closed_spec (hs : Sat W w (LogP p d b l :: L)) : Ret Tryz.prog F.wal_Log_closed [ptr p] w fun v w' => v = .bool false ∧ w' = w :=
  S.wal_Log_closed_ok _ _ _ (xjoin0 (XIf.no rfl (xnil (xload hs 0 rfl rfl ⟨rfl, rfl⟩))))

theorem closed_nil : Ret Tryz.prog F.wal_Log_closed [.pointer none] w fun v w' => v = .bool true ∧ w' = w :=
  S.wal_Log_closed_ok _ _ _ (xjoin0 (XIf.yes rfl ⟨rfl, rfl⟩))

theorem LogAppend_spec (x : List UInt8) (hs : Sat W w (LogP p d b l :: DiskP d D :: BookP b M :: L)) (hl : LGok l) (hf : Fit i D) (hi : i ≤ 2 ^ 26) (hM : M.length ≤ 2 ^ 39) :
    Ret Tryz.prog F.wal_Log_Append [ptr p, .string (str x)] w fun v w' => v = .int .i64 (putW D M l 82 [x]).err ∧ Sat W w' (LogP p d b (putW D M l 82 [x]).log :: DiskP d (putW D M l 82 [x]).disk :: BookP b (putW D M l 82 [x]).book :: L) := by
  refine S.wal_Log_Append_ok _ _ _ _ (xcall_eq (closed_spec hs) false rfl (XIf.no rfl (xnew hs fun c w1 h1 => ?_)))
  refine xcall (put_spec (xs := [x]) (s := ⟨some ⟨c, 0, none⟩, 1, 1⟩) 82 (ROStr.one (b := c) x) (h1.arr [1, 2, 3, 0]) hl hf hi hM (show (1 : Nat) ≤ 2 ^ 14 by decide)) ?_
  rintro v w2 ⟨rfl, h2⟩
  exact ⟨_, rfl, rfl, (h2.bring 3).drop⟩

theorem LogSync_spec (hs : Sat W w (LogP p d b l :: DiskP d D :: L)) (hf : Fit i D) (hi : i ≤ 2 ^ 28) :
    Ret Tryz.prog F.wal_Log_Sync [ptr p] w fun v w' => v = .int .i64 D.sync.1 ∧ Sat W w' (LogP p d b l :: DiskP d D.sync.2 :: L) := by
  have hlen : D.files.length ≤ 2 ^ 30 := Nat.le_trans hf.len (by omega)
  have hwait : D.wait.length ≤ 2 ^ 38 := Nat.le_trans hf.waits (by omega)
  refine S.wal_Log_Sync_ok _ _ _ (xcall_eq (closed_spec hs) false rfl (XIf.no rfl (xnil (xload hs 0 rfl rfl (xcall (Sync_spec hs.swap hlen hf.pieces hwait) ?_)))))
  rintro v w2 ⟨rfl, h2⟩
  exact ⟨_, rfl, rfl, h2.swap⟩

theorem LogSize_spec (hs : Sat W w (LogP p d b l :: L)) : Ret Tryz.prog F.wal_Log_Size [ptr p] w fun v w' => v = .int .i64 (l.end_ : Nat) ∧ w' = w :=
  S.wal_Log_Size_ok _ _ _ (xcall_eq (closed_spec hs) false rfl (XIf.no rfl (xnil (xload hs 3 rfl rfl ⟨rfl, rfl⟩))))


theorem LogTurn_spec {s : Sl} {xs : List (List UInt8)} (hR : ROStr W A s xs) (hs : Sat W w (LogP p d b l :: DiskP d D :: BookP b M :: A :: L)) (hn : l.n < 100000000) (hf : Fit i D) (hi : i ≤ 2 ^ 25) (hM : M.length ≤ 2 ^ 38) (hx : xs.length ≤ 2 ^ 13) :
    Ret Tryz.prog F.wal_Log_Turn [ptr p, .slice s.a s.len s.cap] w fun v w' => v = .int .i64 (turnW D M l xs).err ∧ Sat W w' (LogP p d b (turnW D M l xs).log :: DiskP d (turnW D M l xs).disk :: BookP b (turnW D M l xs).book :: A :: L) := by
  suffices H : ∀ K : Value → World → Prop, (∀ R w', turnW D M l xs = R → Sat W w' (LogP p d b R.log :: DiskP d R.disk :: BookP b R.book :: A :: L) → K (.int .i64 R.err) w') → S.wal_Log_Turn (some ⟨p, 0, none⟩) s K w from
    S.wal_Log_Turn_ok _ s _ _ (H _ fun R w' e h => by subst e; exact ⟨rfl, h⟩)
  intro K hK
  unfold turnW at hK
  refine xcall_eq (closed_spec hs) false rfl (XIf.no rfl (xnil (xload hs 2 rfl rfl ?_)))
  by_cases h9 : l.n = 99999999
  · rw [if_pos h9] at hK
    refine XIf.yes (by rw [h9]; rfl) (hK _ w rfl hs)
  rw [if_neg h9] at hK
  have hd := hs.drew
  refine XIf.no (by have : (l.n : Int) ≠ 99999999 := by omega
                    simpa using this) (xnil (xload hd 0 rfl rfl (xnil (xload hd 1 rfl rfl (xnil (xload hd 2 rfl rfl (xlet ((l.n + 1 : Nat) : Int) (by rw [wi (by omega) (by omega)]; omega) ?_)))))))
  refine xcalls (begin_spec (A := A) (L := LogP p d b l :: L) (l.n + 1) (by omega) hR (hd.arr [1, 2, 3, 0]) hf hi hM hx) ?_
  rintro v w1 hb
  obtain ⟨hfb, hlb, hMb⟩ := beginW_fit hf M (l.n + 1) (by omega) xs hx
  obtain ⟨R, hRR⟩ : ∃ R, beginW D M (l.n + 1) xs = R := ⟨_, rfl⟩
  rw [hRR] at hb hK hfb hlb
  dsimp only at hK
  by_cases he : R.err ≠ 0
  · rw [if_pos he] at hK
    obtain ⟨rfl, h1⟩ := hb.1 he
    refine ⟨(none, R.err, ()), rfl, (h1.bring 3).cell rfl, XIf.yes (by simpa using he) (hK ⟨R.err, R.disk, R.book, l⟩ w1 rfl (h1.arr [3, 0, 1, 2]))⟩
  · rw [if_neg he] at hK
    obtain ⟨q, rfl, h1⟩ := hb.2 (by simpa using he)
    have hd1 := h1.drew
    refine ⟨(some ⟨q, 0, none⟩, (0 : Int), ()), rfl, (h1.bring 4).cell rfl, XIf.no rfl (xnil (xload (hd1.bring 4) 0 rfl rfl (xnil (xload (hd1.bring 4) 2 rfl rfl (xcall (name_spec l.n (by omega) hd1) ?_)))))⟩
    rintro v w2 ⟨rfl, h2⟩
    have hlen : R.disk.files.length ≤ 2 ^ 30 := Nat.le_trans hfb.len (by omega)
    have hwait : R.disk.wait.length ≤ 2 ^ 38 := Nat.le_trans hfb.waits (by omega)
    refine ⟨nm l.n, rfl, (h2.bring 4).cell rfl, xcall (Remove_spec (name := nm l.n) (h2.bring 1) hfb.rising hlen hwait) ?_⟩
    rintro v w3 ⟨rfl, h3⟩
    have h3 := h3.swap
    refine ⟨_, rfl, xnil (xloads (some ⟨d, 0, none⟩, some ⟨b, 0, none⟩, (R.log.n : Int), (R.log.end_ : Int), str R.log.mark, ()) (fun j v hv => ?_) (xnil ?_))⟩
    · rw [Addr.add_mk, Nat.zero_add]
      exact h3.cell hv
    · refine xstores [ptr d, ptr b, .int .i64 (R.log.n : Nat), .int .i64 (R.log.end_ : Nat), .string (str R.log.mark)] 0 w3 _ (h3.bring 4) (by simp) fun w4 h4 => hK _ w4 rfl ?_
      have h4 : Sat W w4 (LogP p d b R.log :: LogP q d b R.log :: DiskP d (R.disk.remove (nm l.n)).2 :: BookP b R.book :: A :: L) := h4
      exact (h4.bring 1).drop

end
end Go.X

/-! How much the log's calls add to a device, by the records' bytes. -/
namespace Go.X

/-- Records' bytes in a log. -/
def sumR (xs : List (List UInt8)) : Nat := (xs.map fun s => 37 + s.length).sum

theorem sumR_cons (s : List UInt8) (l : List (List UInt8)) : sumR (s :: l) = 37 + s.length + sumR l := by simp [sumR]
theorem sumR_nil : sumR [] = 0 := rfl
theorem sumR_append (a b : List (List UInt8)) : sumR (a ++ b) = sumR a + sumR b := by simp [sumR]

theorem putB_sum (sign : UInt8) : ∀ (xs : List (List UInt8)) (S : PB), S.mark.length ≤ 2 ^ 20 → (putB sign xs S).bytes.length ≤ S.bytes.length + sumR xs ∧ (putB sign xs S).mark.length ≤ 2 ^ 20 ∧ (putB sign xs S).book.length ≤ S.book.length + xs.length
  | [], S, h => ⟨by simp [putB, sumR], h, by simp [putB]⟩
  | s :: l, S, h => by
    unfold putB
    rw [sumR_cons]
    split
    · exact ⟨by dsimp only; omega, h, by dsimp only; omega⟩
    · obtain ⟨h1, h2, h3⟩ := putB_sum sign l { S with bytes := S.bytes ++ (four (sign :: s).length ++ S.book.mark (S.mark ++ sign :: s) ++ sign :: s), mark := S.book.mark (S.mark ++ sign :: s), book := S.book.add (S.mark ++ sign :: s) } (by rw [mark_length]; decide)
      have hr := recLen (S.book.mark (S.mark ++ sign :: s)) (sign :: s) (mark_length _ _)
      have ha := add_length S.book (S.mark ++ sign :: s)
      dsimp only at h1 h3
      rw [List.length_append, hr] at h1
      have hsl : (sign :: s).length = s.length + 1 := rfl
      have hcl : (s :: l).length = l.length + 1 := rfl
      exact ⟨by omega, h2, by omega⟩

theorem putW_fit2 {i k : Nat} {D : DD} (hf : Fit i D) (M : Bk) (l : LG) (hl : LGok l) (he : l.end_ ≤ 2 ^ 39) (sign : UInt8) (xs : List (List UInt8)) (hx : sumR xs ≤ 700 * k) (hk : k ≤ 2 ^ 24) :
    Fit (i + k) (putW D M l sign xs).disk ∧ LGok (putW D M l sign xs).log ∧ (putW D M l sign xs).log.n = l.n ∧ (putW D M l sign xs).log.end_ ≤ l.end_ + sumR xs ∧ (putW D M l sign xs).book.length ≤ M.length + xs.length := by
  obtain ⟨h1, h2, h3⟩ := putB_sum sign xs ⟨0, [], l.mark, M⟩ hl.mark
  obtain ⟨Z, hZ⟩ : ∃ Z, putB sign xs ⟨0, [], l.mark, M⟩ = Z := ⟨_, rfl⟩
  rw [hZ] at h1 h2 h3
  simp only [List.length_nil, Nat.zero_add] at h1
  unfold putW
  rw [hZ]
  dsimp only
  split
  · exact ⟨hf.monoN _, hl, rfl, by show l.end_ ≤ _; omega, h3⟩
  · have hw := hf.writeN k (nm l.n) (l.end_ : Nat) Z.bytes (by omega)
    split
    · exact ⟨hw, hl, rfl, by show l.end_ ≤ _; omega, h3⟩
    · exact ⟨hw, ⟨hl.n, by show l.end_ + Z.bytes.length ≤ _; omega, h2⟩, rfl, by show l.end_ + Z.bytes.length ≤ _; omega, h3⟩

theorem Fit.upto {i j : Nat} {D : DD} (h : Fit i D) (hij : i ≤ j) : Fit j D := (h.monoN (j - i)).cast (by omega)

theorem beginW_fit2 {i k : Nat} {D : DD} (hf : Fit i D) (M : Bk) (n : Nat) (hn : n ≤ 2 ^ 40) (xs : List (List UInt8)) (hx : sumR xs ≤ 700 * k) (hk : k ≤ 2 ^ 24) :
    Fit (i + k + 4) (beginW D M n xs).disk ∧ LGok (beginW D M n xs).log ∧ (beginW D M n xs).log.n = n ∧ (beginW D M n xs).log.end_ ≤ sumR xs + 37 ∧ (beginW D M n xs).book.length ≤ M.length + xs.length + 1 := by
  have hf1 := hf.create (nm n)
  have hl0 : LGok ⟨n, 0, firstM n⟩ := ⟨hn, Nat.zero_le _, by show (firstM n).length ≤ _; rw [firstM_len]; decide⟩
  unfold beginW
  dsimp only
  split
  · exact ⟨hf1.upto (by omega), hl0, rfl, Nat.zero_le _, by show M.length ≤ _; omega⟩
  obtain ⟨hfA, hlA, hnA, heA, hbA⟩ := putW_fit2 hf1 M ⟨n, 0, firstM n⟩ hl0 (Nat.zero_le _) 83 xs hx hk
  obtain ⟨RA, hRA⟩ : ∃ RA, putW (D.create (nm n)).2 M ⟨n, 0, firstM n⟩ 83 xs = RA := ⟨_, rfl⟩
  rw [hRA] at hfA hlA hnA heA hbA ⊢
  dsimp only at heA hnA
  obtain ⟨RB, hRB⟩ : ∃ RB, (if RA.err = 0 then putW RA.disk RA.book RA.log 69 [[]] else RA) = RB := ⟨_, rfl⟩
  have hBfit : Fit (i + 1 + k + 1) RB.disk ∧ LGok RB.log ∧ RB.log.n = n ∧ RB.log.end_ ≤ sumR xs + 37 ∧ RB.book.length ≤ M.length + xs.length + 1 := by
    rw [← hRB]
    split
    · obtain ⟨g1, g2, g3, g4, g5⟩ := putW_fit2 (k := 1) hfA RA.book RA.log hlA (by omega) 69 [[]] (by decide) (by decide)
      have e37 : sumR [[]] = 37 := rfl
      exact ⟨g1, g2, by omega, by omega, by simp only [List.length_singleton] at g5; omega⟩
    · exact ⟨hfA.mono, hlA, hnA, by omega, by omega⟩
  rw [hRB]
  obtain ⟨SS, hSS⟩ : ∃ SS, (if RB.err = 0 then RB.disk.sync else (RB.err, RB.disk)) = SS := ⟨_, rfl⟩
  have hSfit : Fit (i + 1 + k + 1) SS.2 := by
    rw [← hSS]
    split
    · exact hBfit.1.sync0
    · exact hBfit.1
  rw [hSS]
  refine ⟨?_, hBfit.2⟩
  split
  · exact (hSfit.remove0 (nm n)).upto (by omega)
  · exact hSfit.upto (by omega)

theorem turnW_fit2 {i k : Nat} {D : DD} (hf : Fit i D) (M : Bk) (l : LG) (hl : LGok l) (hn : l.n < 100000000) (xs : List (List UInt8)) (hx : sumR xs ≤ 700 * k) (hk : k ≤ 2 ^ 24) :
    Fit (i + k + 4) (turnW D M l xs).disk ∧ LGok (turnW D M l xs).log ∧ (turnW D M l xs).log.n ≤ l.n + 1 ∧ (turnW D M l xs).log.n < 100000000 ∧ (turnW D M l xs).book.length ≤ M.length + xs.length + 1 ∧ (turnW D M l xs).log.end_ ≤ max l.end_ (sumR xs + 37) := by
  unfold turnW
  split
  · exact ⟨hf.upto (by omega), hl, Nat.le_succ _, hn, by show M.length ≤ _; omega, Nat.le_max_left _ _⟩
  rename_i h9
  obtain ⟨h1, h2, h3, h4, h5⟩ := beginW_fit2 hf M (l.n + 1) (by omega) xs hx hk
  dsimp only
  split
  · exact ⟨h1, hl, Nat.le_succ _, hn, h5, Nat.le_max_left _ _⟩
  · exact ⟨h1.remove0 _, h2, by show (beginW _ _ _ _).log.n ≤ _; omega, by show (beginW _ _ _ _).log.n < _; omega, h5, by show (beginW _ _ _ _).log.end_ ≤ _; omega⟩

end Go.X

/-! Records that last, walked. -/
namespace Go.X
open Go.Proofs

section
variable {W w : World} {L : List SP} {v d b i : Nat} {A : SP} {c : VB} {Z : ST}

theorem StP.cellL (hs : Sat W w (StP v c Z :: L)) : w.cell? ⟨v, 3, none⟩ = some (.pointer (some ⟨c.l, 0, none⟩)) := by
  obtain ⟨ls, h⟩ := StP.open hs
  exact h.cell rfl
theorem StP.cellS (hs : Sat W w (StP v c Z :: L)) : w.cell? ⟨v, 8, none⟩ = some (.pointer (some ⟨c.sp, 0, none⟩)) := by
  obtain ⟨ls, h⟩ := StP.open hs
  exact h.cell rfl

theorem xdead {K : World → Prop} (x : Bool) (hs : Sat W w (StP v c Z :: L)) (hk : ∀ w', Sat W w' (StP v { c with dead := x } Z :: L) → K w') : XStore ⟨v, 10, none⟩ (.bool x) w K := by
  obtain ⟨ls, h⟩ := StP.open hs
  exact xstore h 10 rfl (by simp [vcells]) fun w' h' => hk w' (StP.shut (c := { c with dead := x }) (ls := ls) h')

/-- The parts of a vault in an order of their own: the log, the device, the book, the state, what comes, the rest. -/
abbrev VP (v d b : Nat) (c : VB) (Z : ST) (in_ : Option CM) (lg : LG) (D : DD) (M : Bk) (A : SP) (L : List SP) : List SP :=
  LogP c.l d b lg :: DiskP d D :: BookP b M :: StP v c Z :: InP c.inp in_ :: A :: L

theorem vp_open {V : VT} {D : DD} {M : Bk} (hs : Sat W w (VaultP v d b V :: DiskP d D :: BookP b M :: A :: L)) : ∃ l sp inp, Sat W w (VP v d b (V.base d b l sp inp) V.st V.in_ V.log D M A L) := by
  obtain ⟨l, sp, inp, h⟩ := VaultP.open hs
  exact ⟨l, sp, inp, h.arr [2, 3, 4, 0, 1]⟩

theorem vp_shut {V : VT} {D : DD} {M : Bk} {l sp : Nat} {inp : Option Nat} (hs : Sat W w (VP v d b (V.base d b l sp inp) V.st V.in_ V.log D M A L)) : Sat W w (VaultP v d b V :: DiskP d D :: BookP b M :: A :: L) :=
  VaultP.shut (hs.arr [3, 4, 0, 1, 2])

theorem write_spec {X : VW} {s : Sl} {recs : List (List UInt8)} {k : Nat} (hR : ROStr W A s recs) (hne : recs ≠ []) (hrl : recs.length ≤ 2 ^ 10) (hrt : ∀ x ∈ recs, x.length ≤ 1048576) (hs : Sat W w (VaultP v d b X.v :: DiskP d X.D :: BookP b X.M :: A :: L))
    (hf : Fit i X.D) (hi : i ≤ 2 ^ 24) (hl : LGok X.v.log) (he : X.v.log.end_ ≤ 2 ^ 37) (hn : X.v.log.n + 4 < 100000000) (hS : STok X.v.st) (hk : sumR X.v.st.recs ≤ 700 * k) (hk2 : k ≤ 2 ^ 20) (h1 : 37 + (oneOf recs).length ≤ 700 * k) (hM : X.M.length ≤ 2 ^ 30)
    (hdo : ∀ c w L', Sat W w (StP v c X.v.st :: BookP b (againV X (oneOf recs)).book :: L') → c.b = b → (againV X (oneOf recs)).book.length ≤ 2 ^ 31 → Ret Tryz.prog F.vault_state_do [.pointer (some ⟨v, 4, none⟩), .string (str (oneOf recs))] w fun u w' =>
      u = .int .i64 (doS X.v.st (againV X (oneOf recs)).book (oneOf recs)).err ∧ Sat W w' (StP v c (doS X.v.st (againV X (oneOf recs)).book (oneOf recs)).st :: BookP b (doS X.v.st (againV X (oneOf recs)).book (oneOf recs)).book :: L'))
    (hS2 : STok (doS X.v.st (againV X (oneOf recs)).book (oneOf recs)).st) (hk3 : sumR (doS X.v.st (againV X (oneOf recs)).book (oneOf recs)).st.recs ≤ 700 * k) (hM2 : (doS X.v.st (againV X (oneOf recs)).book (oneOf recs)).book.length ≤ 2 ^ 32) :
    Ret Tryz.prog F.vault_Vault_write [ptr v, .slice s.a s.len s.cap] w fun r w' => r = .int .i64 (writeV X recs).1 ∧ Sat W w' (VaultP v d b (writeV X recs).2.v :: DiskP d (writeV X recs).2.D :: BookP b (writeV X recs).2.M :: A :: L) := by
  suffices H : ∀ K : Value → World → Prop, (∀ w', Sat W w' (VaultP v d b (writeV X recs).2.v :: DiskP d (writeV X recs).2.D :: BookP b (writeV X recs).2.M :: A :: L) → K (.int .i64 (writeV X recs).1) w') → S.vault_Vault_write (some ⟨v, 0, none⟩) s K w from
    S.vault_Vault_write_ok _ s _ _ (H _ fun _ h => ⟨rfl, h⟩)
  intro K hK
  obtain ⟨r0, rs, rfl⟩ : ∃ r0 rs, recs = r0 :: rs := by
    cases recs with
    | nil => exact absurd rfl hne
    | cons r rs => exact ⟨r, rs, rfl⟩
  have hsl := hR.1
  simp only [List.length_cons] at hsl
  obtain ⟨one, hone⟩ : ∃ one, oneOf (r0 :: rs) = one := ⟨_, rfl⟩
  rw [hone] at h1 hdo hS2 hk3 hM2
  refine xstrAt hR (hs.bring 3) 0 rfl rfl rfl fun a => ?_
  refine xjoin (fun (st : Int × ByteArray × Unit) w' => st = (0, str one, ()) ∧ Sat W w' (VaultP v d b X.v :: DiskP d X.D :: BookP b X.M :: A :: L)) (fun J hJ => ?_) ?_
  · cases rs with
    | nil =>
      have : one = r0 := hone.symm
      subst this
      exact XIf.no (decide_eq_false (by have hh : s.len = 1 := by simpa using hsl.symm
                                        omega)) (hJ _ _ ⟨rfl, hs⟩)
    | cons r1 rs =>
      have h77 : one = 77 :: textsB (r0 :: r1 :: rs) := hone.symm
      refine XIf.yes (decide_eq_true (by simp only [List.length_cons] at hsl; omega)) ?_
      refine xcalls (Texts_spec hR (hs.bring 3) (by simp only [List.length_cons] at hrl ⊢; omega) hrt) ?_
      rintro u w1 ⟨rfl, h2⟩
      refine ⟨(str (textsB (r0 :: r1 :: rs)), 0, ()), rfl, XIf.no rfl ⟨?_, xlet (str one) ?_ (hJ _ _ ⟨rfl, h2.arr [1, 2, 3, 0]⟩)⟩⟩
      · dsimp only
        rw [str_size]
        have : one.length = (textsB (r0 :: r1 :: rs)).length + 1 := by rw [h77]; rfl
        show ((1 + _ : Nat) : Int) ≤ 9223372036854775807
        omega
      · rw [h77]
        exact str_append [77] _
  rintro _ w1 ⟨rfl, h⟩
  clear hs
  obtain ⟨l, sp, inp, h⟩ := vp_open h
  obtain ⟨c, hc⟩ : ∃ c, X.v.base d b l sp inp = c := ⟨_, rfl⟩
  rw [hc] at h
  -- what it comes to
  have fin : ∀ (Y : VW) (r : Int) w', writeV X (r0 :: rs) = (r, Y) → Y.v.base d b l sp inp = { c with dead := Y.v.dead } → Sat W w' (VP v d b { c with dead := Y.v.dead } Y.v.st Y.v.in_ Y.v.log Y.D Y.M A L) → K (.int .i64 r) w' := by
    intro Y r w' e1 e2 h'
    have := hK w' (by rw [e1]; refine vp_shut (l := l) (sp := sp) (inp := inp) ?_; rw [e2]; exact h')
    rwa [e1] at this
  have hbase : ∀ (lg : LG) (Z : ST) (x : Bool), VT.base { X.v with log := lg, st := Z, dead := x } d b l sp inp = { c with dead := x } := fun lg Z x => by rw [← hc]; rfl
  unfold writeV at fin
  dsimp only at fin
  rw [hone] at fin
  refine xnil (xload_at (l := .ptr) (x := some ⟨c.l, 0, none⟩) (StP.cellL (h.bring 3)) (xcall (LogAppend_spec one h hl hf (by omega) (by omega)) ?_))
  rintro u w2 ⟨rfl, h2⟩
  obtain ⟨Ap, hAp⟩ : ∃ Ap, putW X.D X.M X.v.log 82 [one] = Ap := ⟨_, rfl⟩
  have hsum1 : sumR [one] = 37 + one.length := by simp [sumR]
  obtain ⟨f1, f2, f3, f4, f5⟩ := putW_fit2 (k := k) hf X.M X.v.log hl (by omega) 82 [one] (by rw [hsum1]; exact h1) (by omega)
  rw [hsum1] at f4
  rw [hAp] at h2 f1 f2 f3 f4 f5 ⊢
  simp only [List.length_singleton] at f5
  refine ⟨Ap.err, rfl, ?_⟩
  have hrecl := recs_length hS
  obtain ⟨B, hB⟩ : ∃ B, againV X one = B := ⟨_, rfl⟩
  rw [hB] at fin hdo hS2 hk3 hM2
  refine xjoin (fun (st : Int × Unit) w' => st = (B.err, ()) ∧ Sat W w' (VP v d b c X.v.st X.v.in_ B.log B.disk B.book A L) ∧ Fit (i + 3 * k + 8) B.disk ∧ LGok B.log ∧ B.log.n ≤ X.v.log.n + 1 ∧ B.log.end_ ≤ 2 ^ 38 ∧ B.book.length ≤ X.M.length + 2 + 2 ^ 13 + 3) (fun J hJ => ?_) ?_
  · refine xcall_eq (noRoom_spec Ap.err) (noRoom Ap.err) rfl ?_
    unfold againV at hB
    dsimp only at hB
    rw [hAp] at hB
    cases hno : noRoom Ap.err with
    | false =>
      rw [hno] at hB
      simp only [Bool.false_eq_true, if_false] at hB
      subst hB
      exact XIf.no rfl (hJ _ _ ⟨rfl, h2, f1.upto (by omega), f2, by omega, by omega, by omega⟩)
    | true =>
      rw [hno] at hB
      simp only [if_true] at hB
      have hd := h2.drew
      refine XIf.yes rfl (xnil (xload_at (l := .ptr) (x := some ⟨c.l, 0, none⟩) (StP.cellL (hd.bring 3)) (xnil (xcall (recs_spec hS (hd.bring 3)) ?_))))
      rintro u w3 ⟨rsl, rfl, h3⟩
      have hrR : ROStr W (own 1 rsl (X.v.st.recs.map fun x => Value.string (str x))) rsl X.v.st.recs := ROStr.own _ (by have := h3.own_len; rw [List.length_map] at this; omega)
      refine ⟨rsl, rfl, StP.cellL (h3.bring 1), xcall (LogTurn_spec hrR (h3.arr [2, 3, 4, 0, 1]) (by omega) f1 (by omega) (by omega) (by omega)) ?_⟩
      rintro u w4 ⟨rfl, h4⟩
      obtain ⟨T, hT⟩ : ∃ T, turnW Ap.disk Ap.book Ap.log X.v.st.recs = T := ⟨_, rfl⟩
      obtain ⟨g1, g2, g3, g4, g5, g6⟩ := turnW_fit2 f1 Ap.book Ap.log f2 (by omega) X.v.st.recs hk (by omega)
      rw [hT] at hB h4 g1 g2 g3 g4 g5 g6 ⊢
      have h5 : Sat W w4 (VP v d b c X.v.st X.v.in_ T.log T.disk T.book A L) := (h4.bring 3).drop.arr [0, 1, 2, 3, 4]
      have hks : sumR X.v.st.recs ≤ 2 ^ 30 := by omega
      refine ⟨T.err, rfl, ?_⟩
      by_cases hT0 : T.err = 0
      · rw [if_pos hT0] at hB
        refine XIf.yes (by rw [hT0]; rfl) (xnil (xload_at (l := .ptr) (x := some ⟨c.l, 0, none⟩) (StP.cellL (h5.bring 3)) (xcall (LogAppend_spec one h5 g2 g1 (by omega) (by omega)) ?_)))
        rintro u w5 ⟨rfl, h6⟩
        obtain ⟨q1, q2, q3, q4, q5⟩ := putW_fit2 (k := k) g1 T.book T.log g2 (by omega) 82 [one] (by rw [hsum1]; exact h1) (by omega)
        rw [hsum1] at q4
        rw [hB] at h6 q1 q2 q3 q4 q5 ⊢
        simp only [List.length_singleton] at q5
        exact ⟨B.err, rfl, hJ _ _ ⟨rfl, h6, q1.upto (by omega), q2, by omega, by omega, by omega⟩⟩
      · rw [if_neg hT0] at hB
        subst hB
        exact XIf.no (by simpa using hT0) (hJ _ _ ⟨rfl, h5, g1.upto (by omega), g2, by omega, by omega, by omega⟩)
  rintro _ w3 ⟨rfl, h3, hBf, hBl, hBn, hBe, hBM⟩
  clear h2 h hAp
  refine xcall_eq (noRoom_spec B.err) (noRoom B.err) rfl ?_
  cases hno : noRoom B.err with
  | true =>
    rw [hno] at fin
    simp only [if_true] at fin
    refine XIf.yes rfl (fin ⟨B.disk, B.book, { X.v with log := B.log }⟩ 7 w3 rfl (hbase _ _ _) ?_)
    have : ({ c with dead := X.v.dead } : VB) = c := by rw [← hc]; rfl
    dsimp only
    rw [this]
    exact h3
  | false =>
    rw [hno] at fin
    simp only [Bool.false_eq_true, if_false] at fin
    refine XIf.no rfl ?_
    obtain ⟨G, hG⟩ : ∃ G, syncV B = G := ⟨_, rfl⟩
    rw [hG] at fin
    refine xjoin (fun (st : Int × Unit) w' => st = (G.1, ()) ∧ Sat W w' (VP v d b c X.v.st X.v.in_ B.log G.2 B.book A L) ∧ Fit (i + 3 * k + 8) G.2) (fun J hJ => ?_) ?_
    · unfold syncV at hG
      by_cases hB0 : B.err = 0
      · rw [if_pos hB0] at hG
        refine XIf.yes (by rw [hB0]; rfl) (xnil (xload_at (l := .ptr) (x := some ⟨c.l, 0, none⟩) (StP.cellL (h3.bring 3)) (xcall (LogSync_spec h3 hBf (by omega)) ?_)))
        rintro u w4 ⟨rfl, h4⟩
        have hfs := hBf.sync0
        rw [hG] at h4 hfs ⊢
        exact ⟨G.1, rfl, hJ _ _ ⟨rfl, h4, hfs⟩⟩
      · rw [if_neg hB0] at hG
        subst hG
        exact XIf.no (by simpa using hB0) (hJ _ _ ⟨rfl, h3, hBf⟩)
    rintro _ w4 ⟨rfl, h4, hGf⟩
    clear h3
    by_cases hG0 : G.1 = 0
    · rw [if_neg (by rw [hG0]; exact fun h => h rfl)] at fin
      refine XIf.no (by rw [hG0]; rfl) (xnil (xcall (hdo c w4 _ (h4.arr [3, 2, 0, 1]) (by rw [← hc]; rfl) (by omega)) ?_))
      rintro u w5 ⟨rfl, h5⟩
      obtain ⟨R, hRR⟩ : ∃ R, doS X.v.st B.book one = R := ⟨_, rfl⟩
      rw [hRR] at fin h5 hS2 hk3 hM2 ⊢
      have h5 : Sat W w5 (VP v d b c R.st X.v.in_ B.log G.2 R.book A L) := h5.arr [2, 3, 1, 0]
      refine ⟨R.err, rfl, ?_⟩
      by_cases hR0 : R.err = 0
      · rw [if_neg (by rw [hR0]; exact fun h => h rfl)] at fin
        refine XIf.no (by rw [hR0]; rfl) ?_
        have hrec2 := recs_length hS2
        have hg2 := hS2.gens
        have hbb : bytesG R.st.gens ≤ 2 ^ 33 := by
          have h6 := recs_flat_le hS2.gn
          have h7 := Nat.mul_le_mul_right 1048883 hg2
          unfold bytesG
          omega
        refine xjoin (fun (st : Unit) w' => ∃ Y : VW, tidyV ⟨G.2, R.book, { X.v with log := B.log, st := R.st }⟩ = Y ∧ Y.v.base d b l sp inp = { c with dead := Y.v.dead } ∧ Sat W w' (VP v d b { c with dead := Y.v.dead } Y.v.st Y.v.in_ Y.v.log Y.D Y.M A L)) (fun J hJ => ?_) ?_
        · have hd := h5.drew
          refine xnil (xload_at (l := .ptr) (x := some ⟨c.l, 0, none⟩) (StP.cellL (hd.bring 3)) (xnil (xload_at (l := .ptr) (x := some ⟨c.sp, 0, none⟩) (StP.cellS (hd.bring 3)) ?_)))
          refine xcall_eq (LogSize_spec hd) (B.log.end_ : Int) rfl ⟨StP.cellS (hd.bring 3), ?_⟩
          obtain ⟨ls, hst⟩ := StP.open (hd.bring 3)
          refine xcall (Bytes_store_spec (hst.bring 2) (by omega) hS2.gn) ?_
          rintro u w6 ⟨rfl, h6⟩
          have h6 : Sat W w6 (VP v d b c R.st X.v.in_ B.log G.2 R.book A L) := (StP.shut (ls := ls) (h6.arr [1, 2, 0])).arr [1, 2, 3, 0]
          refine ⟨(bytesG R.st.gens : Int), rfl, xlet ((2 * bytesG R.st.gens : Nat) : Int) (by (try dsimp only); rw [wi (by omega) (by omega)]; (try omega)) (xlet ((32768 + 2 * bytesG R.st.gens : Nat) : Int) (by (try dsimp only); rw [wi (by omega) (by omega)]; (try omega)) ?_)⟩
          by_cases hlong : 32768 + 2 * bytesG R.st.gens < B.log.end_
          · have hd6 := h6.drew
            refine XIf.yes (decide_eq_true (by omega)) (xnil (xload_at (l := .ptr) (x := some ⟨c.l, 0, none⟩) (StP.cellL (hd6.bring 3)) (xnil (xcall (recs_spec hS2 (hd6.bring 3)) ?_))))
            rintro u w7 ⟨rsl, rfl, h7⟩
            have hrR : ROStr W (own 1 rsl (R.st.recs.map fun x => Value.string (str x))) rsl R.st.recs := ROStr.own _ (by have := h7.own_len; rw [List.length_map] at this; omega)
            refine ⟨rsl, rfl, StP.cellL (h7.bring 1), xcall (LogTurn_spec hrR (h7.arr [2, 3, 4, 0, 1]) (by omega) hGf (by omega) (by omega) (by omega)) ?_⟩
            rintro u w8 ⟨rfl, h8⟩
            obtain ⟨T, hT⟩ : ∃ T, turnW G.2 R.book B.log R.st.recs = T := ⟨_, rfl⟩
            have htidy : tidyV ⟨G.2, R.book, { X.v with log := B.log, st := R.st }⟩ = ⟨T.disk, T.book, { X.v with log := T.log, st := R.st, dead := if T.err ≠ 0 ∧ T.err ≠ 4 ∧ noRoom T.err = false then true else X.v.dead }⟩ := by
              unfold tidyV
              dsimp only
              rw [if_pos hlong, hT]
            rw [hT] at h8 ⊢
            have h8 : Sat W w8 (VP v d b c R.st X.v.in_ T.log T.disk T.book A L) := (h8.bring 3).drop.arr [0, 1, 2, 3, 4]
            refine ⟨T.err, rfl, ?_⟩
            refine xjoin (fun (st : Bool × Unit) w' => st = (decide (T.err ≠ 0 ∧ T.err ≠ 4 ∧ noRoom T.err = false), ()) ∧ w' = w8) (fun J2 hJ2 => ?_) ?_
            · by_cases t0 : T.err = 0
              · exact XIf.no (by rw [t0]; rfl) (hJ2 _ _ ⟨Prod.ext (decide_eq_false (fun h => h.1 t0)).symm rfl, rfl⟩)
              · refine XIf.yes (by simpa using t0) ?_
                by_cases t4 : T.err = 4
                · exact XIf.no (by rw [t4]; rfl) (hJ2 _ _ ⟨Prod.ext (decide_eq_false (fun h => h.2.1 t4)).symm rfl, rfl⟩)
                · refine XIf.yes (by simpa using t4) (xcall_eq (noRoom_spec T.err) (noRoom T.err) rfl (hJ2 _ _ ⟨?_, rfl⟩))
                  cases hn3 : noRoom T.err with
                  | true => exact Prod.ext (decide_eq_false (fun h => by cases h.2.2)).symm rfl
                  | false => exact Prod.ext (decide_eq_true ⟨t0, t4, rfl⟩).symm rfl
            · rintro _ _ ⟨rfl, rfl⟩
              by_cases hbad : T.err ≠ 0 ∧ T.err ≠ 4 ∧ noRoom T.err = false
              · rw [if_pos hbad] at htidy
                refine XIf.yes (decide_eq_true hbad) (xnil (xdead true (h8.bring 3) fun w9 h9 => hJ _ _ ⟨_, htidy, hbase _ _ _, ?_⟩))
                exact h9.arr [1, 2, 3, 0]
              · rw [if_neg hbad] at htidy
                refine XIf.no (decide_eq_false hbad) (hJ _ _ ⟨_, htidy, hbase _ _ _, ?_⟩)
                have : ({ c with dead := X.v.dead } : VB) = c := by rw [← hc]; rfl
                dsimp only
                rw [this]
                exact h8
          · have htidy : tidyV ⟨G.2, R.book, { X.v with log := B.log, st := R.st }⟩ = ⟨G.2, R.book, { X.v with log := B.log, st := R.st }⟩ := by
              unfold tidyV
              dsimp only
              rw [if_neg hlong]
            refine XIf.no (decide_eq_false (by omega)) (hJ _ _ ⟨_, htidy, hbase _ _ _, ?_⟩)
            have : ({ c with dead := X.v.dead } : VB) = c := by rw [← hc]; rfl
            dsimp only
            rw [this]
            exact h6
        · rintro _ w9 ⟨Y, hY, hYb, h9⟩
          rw [hY] at fin
          exact fin Y 0 w9 rfl hYb h9
      · rw [if_pos hR0] at fin
        refine XIf.yes (by simpa using hR0) (xnil (xdead true (h5.bring 3) fun w6 h6 => fin _ _ w6 rfl (hbase _ _ _) ?_))
        exact h6.arr [1, 2, 3, 0]
    · rw [if_pos hG0] at fin
      refine XIf.yes (by simpa using hG0) (xjoin (fun (st : Unit) w' => Sat W w' (VP v d b { c with dead := decide (G.1 ≠ 7) && decide (G.1 ≠ 4) } X.v.st X.v.in_ B.log G.2 B.book A L)) (fun J hJ => ?_) ?_)
      · by_cases h7 : G.1 = 7
        · refine XIf.no (by rw [h7]; rfl) (xnil (xdead false (h4.bring 3) fun w6 h6 => hJ _ _ ?_))
          have : (decide (G.1 ≠ 7) && decide (G.1 ≠ 4)) = false := by rw [h7]; rfl
          rw [this]
          exact h6.arr [1, 2, 3, 0]
        · refine XIf.yes (by simpa using h7) (xnil ?_)
          have : (decide (G.1 ≠ 7) && decide (G.1 ≠ 4)) = (G.1 != 4) := by
            rw [decide_eq_true h7, Bool.true_and]
            by_cases h4 : G.1 = 4 <;> simp [h4]
          exact xdead (G.1 != 4) (h4.bring 3) fun w6 h6 => hJ _ _ (by rw [this]; exact h6.arr [1, 2, 3, 0])
      · rintro _ w6 h6
        exact fin _ _ w6 rfl (hbase _ _ _) h6

end
end Go.X

/-! What a vault answers: replies, what it has accepted, promises. -/
namespace Go.X
open Go.Proofs

/-! ### Plain -/

def replyM (id : Nat) (m : MS) (kind : Int) : MS := { MS.none_ with kind := kind, from_ := id, to := m.from_ }
def VW.up (X : VW) : Bool := !X.v.dead && !X.D.off

/-- What is told with a promise: what is chosen, the last ones, and what was accepted. -/
def markedV (Z : ST) : List EN :=
  let l := (Z.gens.filter fun g => decide (Z.floor ≤ g.gen) && decide (g.gen < Z.top)).map fun g => (⟨g.gen, 0, g.mark⟩ : EN)
  l.drop (l.length - 32) ++ Z.list

def nackV (X : VW) (m : MS) : MS := { replyM X.v.id m 3 with ballot := X.v.st.promised }
def promiseV (X : VW) (m : MS) : MS := { replyM X.v.id m 2 with ballot := m.ballot, floor := X.v.st.floor, top := X.v.st.top, list := markedV X.v.st }
def gotV (X : VW) (m : MS) (left : Nat) : MS := { replyM X.v.id m 5 with ballot := m.ballot, gen := m.gen, mark := m.mark, read := left, top := X.v.st.top }
def wantV (X : VW) (m : MS) : MS := { replyM X.v.id m 6 with ballot := m.ballot, gen := m.gen, mark := m.mark }
def fullV (X : VW) (m : MS) : MS := { replyM X.v.id m 17 with ballot := m.ballot, gen := m.gen }

section
variable {W w : World} {L : List SP} {v d b i : Nat} {A : SP} {c : VB} {Z : ST} {X : VW}

theorem none_nilV : Ret Tryz.prog F.vault_Vault_none [.pointer none] w fun u w' => u = .bool true ∧ w' = w :=
  S.vault_Vault_none_ok _ _ _ (xjoin0 (XIf.yes rfl ⟨rfl, rfl⟩))

theorem none_specV {in_ : Option CM} {lg : LG} {D : DD} {M : Bk} (hc : c.d = d) (hs : Sat W w (VP v d b c Z in_ lg D M A L)) : Ret Tryz.prog F.vault_Vault_none [ptr v] w fun u w' => u = .bool (c.dead || D.off) ∧ Sat W w' (VP v d b c Z in_ lg D M A L) := by
  subst hc
  obtain ⟨ls, h⟩ := StP.open (hs.bring 3)
  refine S.vault_Vault_none_ok _ _ _ (xjoin0 (XIf.no rfl ?_))
  refine xnil (xload h 3 rfl rfl ?_)
  refine XIf.no rfl ?_
  refine xnil (xload h 10 rfl rfl ?_)
  cases hd : c.dead with
  | true => exact XIf.yes rfl ⟨rfl, hs⟩
  | false =>
    refine XIf.no rfl ?_
    refine xnil (xload h 1 rfl rfl ?_)
    refine xcall (Up_spec (hs.bring 1)) ?_
    rintro u w1 ⟨rfl, hq⟩
    exact ⟨_, rfl, by simp, hs.quiet hq⟩

theorem Up_specV (hs : Sat W w (VaultP v d b X.v :: DiskP d X.D :: BookP b X.M :: A :: L)) : Ret Tryz.prog F.vault_Vault_Up [ptr v] w fun u w' => u = .bool X.up ∧ Sat W w' (VaultP v d b X.v :: DiskP d X.D :: BookP b X.M :: A :: L) := by
  obtain ⟨l, sp, inp, h⟩ := vp_open hs
  refine S.vault_Vault_Up_ok _ _ _ (xcall (none_specV rfl h) ?_)
  rintro u w1 ⟨rfl, h1⟩
  refine ⟨_, rfl, ?_, vp_shut h1⟩
  show Value.bool (!(X.v.dead || X.D.off)) = Value.bool (!X.v.dead && !X.D.off)
  rw [Bool.not_or]

theorem reply_spec (m : MS) (s : Sl) (kind : Int) (hs : Sat W w (StP v c Z :: L)) : Ret Tryz.prog F.vault_Vault_reply [ptr v, .agg ⟨mcells m s⟩, .int .i64 kind] w fun u w' => u = .agg ⟨mcells (replyM c.id m kind) ⟨none, 0, 0⟩⟩ ∧ Sat W w' (StP v c Z :: L) := by
  refine S.vault_Vault_reply_ok _ (msgH m s) _ _ _ (xnew hs fun a w1 h1 => xnew h1 fun a2 w2 h2 => ?_)
  have hd := h2.drew
  obtain ⟨ls, h3⟩ := StP.open (hd.bring 2)
  refine xnil (xload h3 0 rfl rfl ?_)
  refine xload (hd.bring 1) 1 rfl rfl ?_
  refine xstoresP hd rfl fun w3 h4 => xloadsP (ls := MsgL) (msgH (replyM c.id m kind) ⟨none, 0, 0⟩) h4 ⟨rfl, h4.drop.drop⟩

/-- A reply begun. -/
theorem xreply {T T2 : TypeId} {K : Addr → Addr → World → Prop} (m : MS) (s : Sl) (kind : Int) (hs : Sat W w (StP v c Z :: L))
    (hk : ∀ a1 a6 w', Sat W w' (pts a6 (mcells (replyM c.id m kind) ⟨none, 0, 0⟩) :: pts a1 (mcells m s) :: StP v c Z :: L) → K ⟨a1, 0, none⟩ ⟨a6, 0, none⟩ w') :
    XNew T (mcells m s) w fun a1 w2 => XLoads MsgL a1 w2 fun (x3 : HL MsgL) => XCall Tryz.prog F.vault_Vault_reply [ptr v, .agg ⟨[.int .i64 x3.1, .int .i64 x3.2.1, .int .i64 x3.2.2.1, .int .i64 x3.2.2.2.1, .int .i64 x3.2.2.2.2.1, .int .i64 x3.2.2.2.2.2.1, .int .i64 x3.2.2.2.2.2.2.1, .int .i64 x3.2.2.2.2.2.2.2.1, .int .i64 x3.2.2.2.2.2.2.2.2.1, .string x3.2.2.2.2.2.2.2.2.2.1, .int .i64 x3.2.2.2.2.2.2.2.2.2.2.1, .int .i64 x3.2.2.2.2.2.2.2.2.2.2.2.1, .string x3.2.2.2.2.2.2.2.2.2.2.2.2.1, .slice x3.2.2.2.2.2.2.2.2.2.2.2.2.2.1.a x3.2.2.2.2.2.2.2.2.2.2.2.2.2.1.len x3.2.2.2.2.2.2.2.2.2.2.2.2.2.1.cap]⟩, .int .i64 kind] (.agg MsgL) w2 fun (x4 : HL MsgL) w5 => XNew T2 [.int .i64 0, .int .i64 0, .int .i64 0, .int .i64 0, .int .i64 0, .int .i64 0, .int .i64 0, .int .i64 0, .int .i64 0, .string ByteArray.empty, .int .i64 0, .int .i64 0, .string ByteArray.empty, .slice none 0 0] w5 fun a6 w7 => XStores a6 0 [.int .i64 x4.1, .int .i64 x4.2.1, .int .i64 x4.2.2.1, .int .i64 x4.2.2.2.1, .int .i64 x4.2.2.2.2.1, .int .i64 x4.2.2.2.2.2.1, .int .i64 x4.2.2.2.2.2.2.1, .int .i64 x4.2.2.2.2.2.2.2.1, .int .i64 x4.2.2.2.2.2.2.2.2.1, .string x4.2.2.2.2.2.2.2.2.2.1, .int .i64 x4.2.2.2.2.2.2.2.2.2.2.1, .int .i64 x4.2.2.2.2.2.2.2.2.2.2.2.1, .string x4.2.2.2.2.2.2.2.2.2.2.2.2.1, .slice x4.2.2.2.2.2.2.2.2.2.2.2.2.2.1.a x4.2.2.2.2.2.2.2.2.2.2.2.2.2.1.len x4.2.2.2.2.2.2.2.2.2.2.2.2.2.1.cap] w7 fun w8 => K a1 a6 w8 := by
  refine xnew hs fun a1 w1 h1 => xloadsP (ls := MsgL) (msgH m s) h1 (xcall (reply_spec m s kind (h1.bring 1)) ?_)
  rintro u w2 ⟨rfl, h2⟩
  refine ⟨msgH (replyM c.id m kind) ⟨none, 0, 0⟩, rfl, xnew h2 fun a6 w3 h3 => xstoresP h3 rfl fun w4 h4 => hk a1 a6 w4 (h4.arr [0, 2, 1])⟩

/-- One message told. -/
theorem xtell {T : TypeId} {K : Value → World → Prop} {a6 : Nat} (m : MS) (s : Sl) (hs : Sat W w (pts a6 (mcells m s) :: ownV 3 s (m.list.flatMap encells) :: L)) (hk : ∀ (s' : Sl) w', Sat W w' (AnsP s' (some m) :: L) → K (.slice s'.a s'.len s'.cap) w') :
    XLoads MsgL ⟨a6, 0, none⟩ w fun (x : HL MsgL) => XNew T [.int .i64 x.1, .int .i64 x.2.1, .int .i64 x.2.2.1, .int .i64 x.2.2.2.1, .int .i64 x.2.2.2.2.1, .int .i64 x.2.2.2.2.2.1, .int .i64 x.2.2.2.2.2.2.1, .int .i64 x.2.2.2.2.2.2.2.1, .int .i64 x.2.2.2.2.2.2.2.2.1, .string x.2.2.2.2.2.2.2.2.2.1, .int .i64 x.2.2.2.2.2.2.2.2.2.2.1, .int .i64 x.2.2.2.2.2.2.2.2.2.2.2.1, .string x.2.2.2.2.2.2.2.2.2.2.2.2.1, .slice x.2.2.2.2.2.2.2.2.2.2.2.2.2.1.a x.2.2.2.2.2.2.2.2.2.2.2.2.2.1.len x.2.2.2.2.2.2.2.2.2.2.2.2.2.1.cap] w fun a w' => K (.slice (some a) 1 1) w' := by
  refine xloadsP (ls := MsgL) (msgH m s) hs (xnew hs.drop fun a w1 h1 => hk ⟨some ⟨a, 0, none⟩, 1, 1⟩ w1 ?_)
  exact Sat.shut_ex s (Sat.shut_all (As := [_, _]) (Sat.shut_own (rest := []) rfl rfl rfl (Nat.le_refl _) h1))

/-- Many messages are told at once: the answer of a message that has no list. -/
theorem own_nil_list (m : MS) (hm : m.list = []) {a6 : Nat} (hs : Sat W w (pts a6 (mcells m ⟨none, 0, 0⟩) :: L)) : Sat W w (pts a6 (mcells m ⟨none, 0, 0⟩) :: ownV 3 ⟨none, 0, 0⟩ (m.list.flatMap encells) :: L) := by
  rw [hm]
  exact ((Sat.own_nil hs).head fun _ h => .inl h).swap

theorem nack_spec (m : MS) (s : Sl) (hs : Sat W w (StP v c Z :: L)) : Ret Tryz.prog F.vault_Vault_nack [ptr v, .agg ⟨mcells m s⟩] w fun u w' => ∃ s' : Sl, u = .slice s'.a s'.len s'.cap ∧ Sat W w' (AnsP s' (some { replyM c.id m 3 with ballot := Z.promised }) :: StP v c Z :: L) := by
  suffices H : ∀ K : Value → World → Prop, (∀ (s' : Sl) w', Sat W w' (AnsP s' (some { replyM c.id m 3 with ballot := Z.promised }) :: StP v c Z :: L) → K (.slice s'.a s'.len s'.cap) w') → S.vault_Vault_nack (some ⟨v, 0, none⟩) (msgH m s) K w from
    S.vault_Vault_nack_ok _ (msgH m s) _ _ (H _ fun s' _ h => ⟨s', rfl, h⟩)
  intro K hK
  refine xreply m s 3 hs fun a1 a6 w1 h1 => ?_
  obtain ⟨ls, h2⟩ := StP.open (h1.bring 2)
  refine xnil (xload h2 4 rfl rfl ?_)
  refine xstore h1 3 rfl (by simp [HL.cells]) fun w2 h3 => ?_
  refine xtell { replyM c.id m 3 with ballot := Z.promised } ⟨none, 0, 0⟩ (own_nil_list _ rfl h3) fun s' w3 h4 => hK s' w3 (h4.bring 1).drop

theorem filter_step {α : Type} (p : α → Bool) {l : List α} {k : Nat} {x : α} (h : l[k]? = some x) : (l.take (k + 1)).filter p = (l.take k).filter p ++ (if p x then [x] else []) := by
  rw [List.take_add_one, h, List.filter_append]
  congr 1
  cases hp : p x <;> simp [hp]

theorem marked_spec (hg : Z.gens.length ≤ 2 ^ 20) (hll : Z.list.length ≤ 2 ^ 20) (hs : Sat W w (StP v c Z :: L)) : Ret Tryz.prog F.vault_Vault_marked [ptr v] w fun u w' => ∃ s' : Sl, u = .slice s'.a s'.len s'.cap ∧ Sat W w' (ownV 3 s' ((markedV Z).flatMap encells) :: StP v c Z :: L) := by
  suffices H : ∀ K : Value → World → Prop, (∀ (s' : Sl) w', Sat W w' (ownV 3 s' ((markedV Z).flatMap encells) :: StP v c Z :: L) → K (.slice s'.a s'.len s'.cap) w') → S.vault_Vault_marked (some ⟨v, 0, none⟩) K w from
    S.vault_Vault_marked_ok _ _ _ (H _ fun s' _ h => ⟨s', rfl, h⟩)
  intro K hK
  obtain ⟨ls, h⟩ := StP.open hs
  refine xnil (xload h 8 rfl rfl ?_)
  refine xcall (Gens_spec (h.bring 2) (by omega)) ?_
  rintro u w1 ⟨gs, rfl, h1⟩
  refine ⟨gs, rfl, ?_⟩
  obtain ⟨p, hp⟩ : ∃ p : GN → Bool, p = fun g => decide (Z.floor ≤ g.gen) && decide (g.gen < Z.top) := ⟨_, rfl⟩
  obtain ⟨F, hF⟩ : ∃ F : List GN → List EN, F = fun l => (l.filter p).map fun g => (⟨g.gen, 0, g.mark⟩ : EN) := ⟨_, rfl⟩
  refine xloop (fun (st : Sl × Int × Unit) w => ∃ (k : Nat) (o : Sl), st = (o, (k : Int), ()) ∧ k ≤ Z.gens.length ∧ Sat W w (own 3 o ((F (Z.gens.take k)).flatMap encells) :: own 4 gs (Z.gens.flatMap gcells) :: StoreP c.sp c.b Z.gens :: pts v (vcells c Z ls) :: own 3 ls (Z.list.flatMap encells) :: L)) (fun st => ((Z.gens.length : Int) - st.2.1).toNat)
    ⟨0, ⟨none, 0, 0⟩, rfl, Nat.zero_le _, by rw [hF]; exact h1.own_nil⟩ ?_
  clear h1 h hs
  rintro next _ w ⟨k, o, rfl, hk, h⟩ hnext
  have hgl := rows_len gcells_len (by decide) (h.bring 1)
  have hFl : (F (Z.gens.take k)).length ≤ Z.gens.length := by
    rw [hF, List.length_map]
    refine Nat.le_trans (List.length_filter_le _ _) ?_
    rw [List.length_take]; omega
  by_cases hlt : k < Z.gens.length
  · obtain ⟨g, hgk⟩ : ∃ g, Z.gens[k]? = some g := ⟨_, List.getElem?_eq_getElem hlt⟩
    have hstep : F (Z.gens.take (k + 1)) = F (Z.gens.take k) ++ (if p g then [⟨g.gen, 0, g.mark⟩] else []) := by
      rw [hF]
      dsimp only
      rw [filter_step p hgk, List.map_append]
      cases p g <;> rfl
    refine XIf.yes (decide_eq_true (show (k : Int) < (gs.len : Int) by omega)) ?_
    refine xjoin (fun (st : Sl × Unit) w' => ∃ o' : Sl, st = (o', ()) ∧ Sat W w' (own 3 o' ((F (Z.gens.take (k + 1))).flatMap encells) :: own 4 gs (Z.gens.flatMap gcells) :: StoreP c.sp c.b Z.gens :: pts v (vcells c Z ls) :: own 3 ls (Z.list.flatMap encells) :: L)) (fun J hJ => ?_) ?_
    · refine xrow gcells_len (h.bring 1) k rfl hgk (by (try dsimp only); omega) (gH g) rfl (by decide) fun a => ?_
      refine xnew h fun e w2 h2 => xstoresP h2 rfl fun w3 h3 => ?_
      have h3 : Sat W w3 (pts e (gcells g) :: own 3 o ((F (Z.gens.take k)).flatMap encells) :: own 4 gs (Z.gens.flatMap gcells) :: StoreP c.sp c.b Z.gens :: pts v (vcells c Z ls) :: own 3 ls (Z.list.flatMap encells) :: L) := h3
      refine xjoin (fun (st : Bool × Unit) w' => st = (p g, ()) ∧ w' = w3.drew) (fun J2 hJ2 => ?_) ?_
      · have hd := h3.drew
        refine xload hd 0 rfl rfl ?_
        refine xnil (xload (hd.bring 4) 5 rfl rfl ?_)
        rw [hp] at hJ2
        by_cases hfl : Z.floor ≤ g.gen
        · refine XIf.yes (decide_eq_true (by omega)) ?_
          refine xload hd 0 rfl rfl ?_
          refine xnil (xload (hd.bring 4) 6 rfl rfl ?_)
          refine hJ2 _ _ ⟨Prod.ext ?_ rfl, rfl⟩
          show decide ((g.gen : Int) < (Z.top : Int)) = (decide (Z.floor ≤ g.gen) && decide (g.gen < Z.top))
          rw [decide_eq_true hfl, Bool.true_and]
          exact decide_eq_decide.2 (by omega)
        · refine XIf.no (decide_eq_false (by omega)) (hJ2 _ _ ⟨Prod.ext ?_ rfl, rfl⟩)
          show false = (decide (Z.floor ≤ g.gen) && decide (g.gen < Z.top))
          rw [decide_eq_false hfl, Bool.false_and]
      · rintro _ _ ⟨rfl, rfl⟩
        have hd := h3.drew
        cases hpg : p g with
        | true =>
          rw [hpg] at hstep
          simp only [if_true] at hstep
          refine XIf.yes rfl ?_
          refine xload hd 0 rfl rfl ?_
          refine xload hd 3 rfl rfl ?_
          refine xappendRow (f := encells) (by kernel_rfl) encells_len encells_one (by decide) (hd.bring 1) (⟨g.gen, 0, g.mark⟩ : EN) rfl (by omega) fun a2 o' w4 h4 => hJ _ _ ⟨o', rfl, ?_⟩
          rw [hstep]
          exact (h4.bring 1).drop
        | false =>
          rw [hpg] at hstep
          simp only [Bool.false_eq_true, if_false, List.append_nil] at hstep
          refine XIf.no rfl (hJ _ _ ⟨o, rfl, ?_⟩)
          rw [hstep]
          exact hd.drop
    · rintro _ w' ⟨o', rfl, h'⟩
      refine xlet (((k + 1 : Nat) : Int) : Int) (by (try dsimp only); rw [wi (by omega) (by omega)]; (try omega)) ?_
      exact hnext _ _ ⟨k + 1, o', rfl, hlt, h'⟩ (by dsimp only; omega)
  · have hke : k = Z.gens.length := by omega
    subst hke
    rw [List.take_length] at h hFl
    clear hnext
    have hol := rows_len encells_len (by decide) h
    have hm : markedV Z = (F Z.gens).drop ((F Z.gens).length - 32) ++ Z.list := by rw [hF, hp]; rfl
    obtain ⟨E, hE⟩ : ∃ E, F Z.gens = E := ⟨_, rfl⟩
    rw [hE] at h hol hm hFl
    refine XIf.no (decide_eq_false (show ¬ (Z.gens.length : Int) < (gs.len : Int) by omega)) ?_
    have hcap := h.own_cap
    refine xjoin (fun (st : Sl × Unit) w' => ∃ o' : Sl, st = (o', ()) ∧ Sat W w' (ownV 3 o' ((E.drop (E.length - 32)).flatMap encells) :: own 4 gs (Z.gens.flatMap gcells) :: StoreP c.sp c.b Z.gens :: pts v (vcells c Z ls) :: own 3 ls (Z.list.flatMap encells) :: L)) (fun J hJ => ?_) ?_
    · refine xlet ((o.len : Int) - 32) (by dsimp only; rw [wi (by omega) (by omega)]) ?_
      by_cases hbig : 32 < E.length
      · refine XIf.yes (decide_eq_true (by omega)) ⟨⟨(by (try dsimp only); omega), (by (try dsimp only); omega), (by (try dsimp only); omega)⟩, xlet0 (hJ _ _ ⟨_, rfl, ?_⟩)⟩
        have hv := h.own_view (E.length - 32) (by rw [← hol]; omega)
        rw [rows_drop encells_len] at hv
        have e1 : Int.toNat ((o.len : Int) - 32) = E.length - 32 := by omega
        rw [e1]
        have e2 : Int.toNat (o.len : Int) = o.len := Int.toNat_natCast _
        dsimp only
        rw [e2]
        exact hv
      · refine XIf.no (decide_eq_false (by omega)) (hJ _ _ ⟨o, rfl, ?_⟩)
        have : E.drop (E.length - 32) = E := by rw [show E.length - 32 = 0 by omega]; rfl
        rw [this]
        exact h.head fun _ h => .inl h
    · rintro _ w' ⟨o', rfl, h'⟩
      refine xnil (xload (h'.bring 3) 7 rfl rfl ?_)
      have hl2 := rows_len encells_len (by decide) (h'.bring 4)
      refine xappendV (f := encells) (by kernel_rfl) encells_len encells_one (by decide) (h'.arr [0, 4]) (by rw [List.length_drop]; omega) fun s2 w2 h2 => hK s2 w2 ?_
      rw [hm]
      exact (StP.shut (c := c) (S := Z) (ls := ls) ((h2.bring 2).drop.arr [3, 1, 2, 0])).swap

theorem promise_spec (m : MS) (s : Sl) (hg : Z.gens.length ≤ 2 ^ 20) (hll : Z.list.length ≤ 2 ^ 20) (hs : Sat W w (StP v c Z :: L)) : Ret Tryz.prog F.vault_Vault_promise [ptr v, .agg ⟨mcells m s⟩] w fun u w' => ∃ s' : Sl, u = .slice s'.a s'.len s'.cap ∧
    Sat W w' (AnsP s' (some { replyM c.id m 2 with ballot := m.ballot, floor := Z.floor, top := Z.top, list := markedV Z }) :: StP v c Z :: L) := by
  obtain ⟨m', hm'⟩ : ∃ m' : MS, m' = { replyM c.id m 2 with ballot := m.ballot, floor := Z.floor, top := Z.top, list := markedV Z } := ⟨_, rfl⟩
  rw [← hm']
  suffices H : ∀ K : Value → World → Prop, (∀ (s' : Sl) w', Sat W w' (AnsP s' (some m') :: StP v c Z :: L) → K (.slice s'.a s'.len s'.cap) w') → S.vault_Vault_promise (some ⟨v, 0, none⟩) (msgH m s) K w from
    S.vault_Vault_promise_ok _ (msgH m s) _ _ (H _ fun s' _ h => ⟨s', rfl, h⟩)
  intro K hK
  refine xreply m s 2 hs fun a1 a6 w1 h1 => ?_
  have hd := h1.drew
  refine xload (hd.bring 1) 3 rfl rfl ?_
  obtain ⟨ls, h2⟩ := StP.open (hd.bring 2)
  refine xnil (xload h2 5 rfl rfl ?_)
  refine xnil (xload h2 6 rfl rfl ?_)
  refine xcall (marked_spec hg hll (hd.bring 2)) ?_
  rintro u w2 ⟨l, rfl, h3⟩
  have h3 : Sat W w2 (pts a6 (mcells (replyM c.id m 2) ⟨none, 0, 0⟩) :: pts a1 (mcells m s) :: ownV 3 l ((markedV Z).flatMap encells) :: StP v c Z :: L) := h3.arr [2, 3, 0, 1]
  have c5 : ∀ {w : World} {L : List SP}, Sat W w (StP v c Z :: L) → w.cell? ⟨v, 5, none⟩ = some (.int .i64 (Z.floor : Nat)) := fun h => by obtain ⟨_, h⟩ := StP.open h; exact h.cell rfl
  have c6 : ∀ {w : World} {L : List SP}, Sat W w (StP v c Z :: L) → w.cell? ⟨v, 6, none⟩ = some (.int .i64 (Z.top : Nat)) := fun h => by obtain ⟨_, h⟩ := StP.open h; exact h.cell rfl
  refine ⟨l, rfl, c6 (h3.bring 3), c5 (h3.bring 3), (h3.bring 1).cell rfl, xstore h3 3 rfl (by simp [HL.cells]) fun w3 h4 => ⟨c6 (h4.bring 3), c5 (h4.bring 3), xstore h4 6 rfl (by simp [HL.cells]) fun w4 h5 => ⟨c6 (h5.bring 3), xstore h5 7 rfl (by simp [HL.cells]) fun w5 h6 => xstore h6 13 rfl (by simp [HL.cells]) fun w6 h7 => ?_⟩⟩⟩
  have h7 : Sat W w6 (pts a6 (mcells m' l) :: pts a1 (mcells m s) :: ownV 3 l ((markedV Z).flatMap encells) :: StP v c Z :: L) := by rw [hm']; exact h7
  have el : m'.list = markedV Z := by rw [hm']
  rw [← el] at h7
  exact xtell m' l (h7.arr [0, 2]) fun s' w7 h8 => hK s' w7 (h8.bring 1).drop

end
end Go.X

/-! What a record does to a vault's state. -/
namespace Go.X
open Go.Proofs

theorem takeWhile_stop {α : Type} {p : α → Bool} : ∀ {l : List α} {y : α}, l[(l.takeWhile p).length]? = some y → p y = false
  | [], y, h => by simp at h
  | a :: l, y, h => by
    rw [List.takeWhile_cons] at h
    by_cases hp : p a = true
    · rw [if_pos hp, List.length_cons, List.getElem?_cons_succ] at h
      exact takeWhile_stop h
    · rw [if_neg hp] at h
      simp at h
      subst h
      simpa using hp

theorem takeWhile_in {α : Type} {p : α → Bool} : ∀ {l : List α} {k : Nat} {y : α}, k < (l.takeWhile p).length → l[k]? = some y → p y = true
  | [], _, _, _, h => by simp at h
  | a :: l, k, y, hk, h => by
    rw [List.takeWhile_cons] at hk
    by_cases hp : p a = true
    · rw [if_pos hp, List.length_cons] at hk
      cases k with
      | zero => simp at h; subst h; exact hp
      | succ k => exact takeWhile_in (l := l) (k := k) (by omega) (by simpa using h)
    · rw [if_neg hp] at hk
      simp at hk

theorem insertIdx_split {α : Type} (x : α) : ∀ {i : Nat} {l : List α}, i ≤ l.length → l.insertIdx i x = l.take i ++ x :: l.drop i
  | 0, l, _ => by simp
  | i + 1, [], h => by simp at h
  | i + 1, a :: l, h => by
    rw [List.insertIdx_succ_cons, insertIdx_split x (by simpa using h)]
    rfl

section
variable {W w : World} {L : List SP} {v b i : Nat} {A : SP} {c : VB} {Z : ST} {M : Bk}

theorem forget_fn {q n : Nat} {s : Sl} (qs : List EN) (p : EN) (hs : Sat W w (own 3 s (qs.flatMap encells) :: pts q [.int .i64 n] :: L)) :
    Ret Tryz.prog F.vault_state_forget_1 [.agg ⟨encells p⟩, ptr q] w fun u w' => u = .bool (decide (p.gen = n)) ∧ Sat W w' (own 3 s (qs.flatMap encells) :: pts q [.int .i64 n] :: L) := by
  refine S.vault_state_forget_1_ok (enH p) _ _ _ (xnew hs fun a w1 h1 => ?_)
  refine xload h1 0 rfl rfl ?_
  refine xload (h1.bring 2) 0 rfl rfl ?_
  refine ⟨?_, h1.drop⟩
  have : ((p.gen : Int) == (n : Int)) = decide (p.gen = n) := decide_eq_decide.2 Int.ofNat_inj
  exact congrArg Value.bool this

theorem cut_fn {q n : Nat} {s : Sl} (qs : List EN) (p : EN) (hs : Sat W w (own 3 s (qs.flatMap encells) :: pts q [.int .i64 n] :: L)) :
    Ret Tryz.prog F.vault_state_do_1 [.agg ⟨encells p⟩, ptr q] w fun u w' => u = .bool (decide (p.gen < n)) ∧ Sat W w' (own 3 s (qs.flatMap encells) :: pts q [.int .i64 n] :: L) := by
  refine S.vault_state_do_1_ok (enH p) _ _ _ (xnew hs fun a w1 h1 => ?_)
  refine xload h1 0 rfl rfl ?_
  refine xload (h1.bring 2) 0 rfl rfl ?_
  exact ⟨congrArg Value.bool (decide_eq_decide.2 Int.ofNat_lt), h1.drop⟩

theorem forget_spec (n : Nat) (hl : Z.list.length ≤ 2 ^ 30) (hs : Sat W w (StP v c Z :: L)) : Ret Tryz.prog F.vault_state_forget [.pointer (some ⟨v, 4, none⟩), .int .i64 n] w fun u w' => u = .tuple ⟨[]⟩ ∧ Sat W w' (StP v c { Z with list := forgetE n Z.list } :: L) := by
  refine S.vault_state_forget_ok _ _ _ _ (xnew hs fun q w1 h1 => ?_)
  obtain ⟨ls, h2⟩ := StP.open (h1.bring 1)
  have hll := rows_len encells_len (by decide) (h2.bring 1)
  refine xnil (xload h2 7 rfl rfl ?_)
  refine xcall (DeleteFunc_Entry (A := pts q [.int .i64 n]) (cap := ptr q) (c := fun e => decide (e.gen = n)) (by kernel_rfl) (h2.arr [1, 3]) (by show ls.len ≤ _; omega) fun qs p w L hs => forget_fn qs p hs) ?_
  rintro u w2 ⟨s', rfl, h3⟩
  refine ⟨s', rfl, xnil (xstore (h3.bring 2) 7 rfl (by simp [vcells]) fun w3 h4 => ⟨rfl, ?_⟩)⟩
  have h5 := (h4.bring 2).drop
  exact StP.shut (c := c) (S := { Z with list := forgetE n Z.list }) (ls := s') h5

theorem accept_spec (x : EN) (hl : Z.list.length ≤ 2 ^ 30) (hs : Sat W w (StP v c Z :: L)) : Ret Tryz.prog F.vault_state_accept [.pointer (some ⟨v, 4, none⟩), .agg ⟨encells x⟩] w fun u w' => u = .tuple ⟨[]⟩ ∧ Sat W w' (StP v c { Z with list := acceptE x Z.list } :: L) := by
  suffices H : ∀ K : Value → World → Prop, (∀ w', Sat W w' (StP v c { Z with list := acceptE x Z.list } :: L) → K (.tuple ⟨[]⟩) w') → S.vault_state_accept (some ⟨v, 4, none⟩) (enH x) K w from
    S.vault_state_accept_ok _ (enH x) _ _ (H _ fun _ h => ⟨rfl, h⟩)
  intro K hK
  refine xnew hs fun a w1 h1 => ?_
  refine xload h1 0 rfl rfl ?_
  refine xcalls (forget_spec x.gen hl (h1.bring 1)) ?_
  rintro u w2 ⟨rfl, h2⟩
  obtain ⟨l, hll⟩ : ∃ l, forgetE x.gen Z.list = l := ⟨_, rfl⟩
  have hlen : l.length ≤ 2 ^ 30 := by rw [← hll]; exact Nat.le_trans (List.length_filter_le _ _) hl
  unfold acceptE at hK
  rw [hll] at h2 hK
  obtain ⟨k0, hk0⟩ : ∃ k0, (l.takeWhile fun y => decide (y.gen < x.gen)).length = k0 := ⟨_, rfl⟩
  rw [hk0] at hK
  have hk0l : k0 ≤ l.length := by rw [← hk0]; exact (List.takeWhile_sublist _).length_le
  refine ⟨(), rfl, ?_⟩
  refine xloop (fun (st : Int × Unit) w => ∃ i : Nat, st = ((i : Int), ()) ∧ i ≤ k0 ∧ Sat W w (StP v c { Z with list := l } :: pts a (encells x) :: L)) (fun st => ((k0 : Int) - st.1).toNat) ⟨0, rfl, Nat.zero_le _, h2⟩ ?_
  clear hs h1 h2
  rintro next _ w ⟨i, rfl, hi, h⟩ hnext
  refine xjoin (fun (st : Bool × Unit) w' => st = (decide (i < k0), ()) ∧ Sat W w' (StP v c { Z with list := l } :: pts a (encells x) :: L)) (fun J hJ => ?_) ?_
  · have hd := h.drew
    obtain ⟨ls, h2⟩ := StP.open hd
    have hsl := rows_len encells_len (by decide) (h2.bring 1)
    have hsl : l.length = ls.len := hsl
    refine xnil (xload h2 7 rfl rfl ?_)
    by_cases hil : i < l.length
    · obtain ⟨y, hy⟩ : ∃ y, l[i]? = some y := ⟨_, List.getElem?_eq_getElem hil⟩
      refine XIf.yes (decide_eq_true (by dsimp only; omega)) ?_
      refine xnil (xload h2 7 rfl rfl ?_)
      refine xrow0 (f := encells) (n := i * 3) encells_len (h2.bring 1) i rfl hy rfl (by decide) (l := .int .i64) (x := (y.gen : Int)) rfl fun a' => ?_
      refine xload (h2.bring 3) 0 rfl rfl ?_
      refine hJ _ _ ⟨Prod.ext ?_ rfl, StP.shut h2⟩
      refine decide_eq_decide.2 ⟨fun h => ?_, fun h => ?_⟩
      · have hyx : y.gen < x.gen := by omega
        rcases Nat.lt_or_ge i k0 with h3 | h3
        · exact h3
        · exfalso
          have : i = k0 := by omega
          subst this
          have := takeWhile_stop (p := fun y : EN => decide (y.gen < x.gen)) (l := l) (by rw [hk0]; exact hy)
          simp at this
          omega
      · have := takeWhile_in (p := fun y : EN => decide (y.gen < x.gen)) (l := l) (k := i) (by rw [hk0]; exact h) hy
        simp at this
        omega
    · refine XIf.no (decide_eq_false (by dsimp only; omega)) (hJ _ _ ⟨Prod.ext (decide_eq_false (by omega)).symm rfl, StP.shut h2⟩)
  · rintro _ w1 ⟨rfl, h1⟩
    by_cases hik : i < k0
    · exact XIf.yes (decide_eq_true hik) (xlet ((i + 1 : Nat) : Int) (by dsimp only; rw [wi (by omega) (by omega)]; omega) (hnext _ _ ⟨i + 1, rfl, hik, h1⟩ (by dsimp only; omega)))
    · have : i = k0 := by omega
      subst this
      refine XIf.no (decide_eq_false hik) ?_
      have hd := h1.drew
      obtain ⟨ls, h2⟩ := StP.open hd
      refine xnil (xload h2 7 rfl rfl ?_)
      refine xloads (enH x) (fun j u hj => by rw [Addr.add_mk, Nat.zero_add]; exact (h2.bring 3).cell hj) (xnewF h2 fun e w2 h3 hfz => ⟨(h3.bring 1).cell rfl, xcall (Insert_Entry (e := x) (es := l) (k := i) (h3.arr [0, 2]) hfz hk0l (by omega)) ?_⟩)
      rintro u w3 ⟨s', rfl, h4⟩
      refine ⟨s', rfl, xnil (xstore (h4.bring 1) 7 rfl (by simp [vcells]) fun w4 h5 => hK _ ?_)⟩
      have e1 : l.insertIdx i x = l.take i ++ x :: l.drop i := insertIdx_split x hk0l
      rw [e1]
      exact StP.shut (c := c) (S := { Z with list := l.take i ++ x :: l.drop i }) (ls := s') ((h5.arr [0, 1, 2]).bring 3).drop

theorem StP.openF {o : Nat} {u : Value} (hs : Sat W w (StP v c Z :: L)) (h : ∀ ls, (vcells c Z ls)[o]? = some u) : w.cell? ⟨v, o, none⟩ = some u := by
  obtain ⟨ls, h1⟩ := StP.open hs
  exact h1.cell (h ls)

/-- What store.Do is to do. -/
def StoreDo (c : VB) (Z : ST) (M : Bk) (s : List UInt8) : Prop :=
  ∀ w L, Sat W w (StoreP c.sp c.b Z.gens :: BookP c.b M :: L) → Ret Tryz.prog F.store_Store_Do [ptr c.sp, .string (str s)] w fun u w' =>
    u = .int .i64 (doG Z.gens M s).err ∧ Sat W w' (StoreP c.sp c.b (doG Z.gens M s).gens :: BookP c.b (doG Z.gens M s).book :: L)

set_option maxRecDepth 4000 in
theorem doOne_spec (s : List UInt8) (hsl : s.length ≤ 2 ^ 40) (h77 : s.head? ≠ some 77) (hl : Z.list.length ≤ 2 ^ 30)
    (hdo : ∀ x r, s = x :: r → x ≠ 80 → x ≠ 65 → x ≠ 70 → x ≠ 67 → StoreDo (W := W) c Z M s) (hs : Sat W w (StP v c Z :: BookP c.b M :: L)) :
    Ret Tryz.prog F.vault_state_do [.pointer (some ⟨v, 4, none⟩), .string (str s)] w fun u w' => u = .int .i64 (doOne Z M s).err ∧ Sat W w' (StP v c (doOne Z M s).st :: BookP c.b (doOne Z M s).book :: L) := by
  suffices H : ∀ K : Value → World → Prop, (∀ w', Sat W w' (StP v c (doOne Z M s).st :: BookP c.b (doOne Z M s).book :: L) → K (.int .i64 (doOne Z M s).err) w') → S.vault_state_do (some ⟨v, 4, none⟩) (str s) K w from
    S.vault_state_do_ok _ _ _ _ (H _ fun _ h => ⟨rfl, h⟩)
  intro K hK
  cases s with
  | nil => exact XIf.yes ((sEq_str [] []).trans (decide_eq_true rfl)) (hK _ hs)
  | cons x r =>
    have hsz : (str (x :: r)).size = r.length + 1 := str_size _
    have hrl : r.length ≤ 2 ^ 40 := by simp only [List.length_cons] at hsl; omega
    refine XIf.no ((sEq_str (x :: r) []).trans (decide_eq_false (by simp))) ⟨⟨⟨by omega, by omega⟩, by omega, by omega⟩, ?_⟩
    refine xlet (str r) (tail_extract (x :: r) (by simp)) (xcall (Read_code_spec r hrl hs) ?_)
    rintro u w1 ⟨p, rfl, h1⟩
    refine ⟨_, rfl, ⟨by omega, by omega⟩, xlet (x.toNat : Int) (by rw [getD_str']; rfl) ?_⟩
    have hx77 : x ≠ 77 := fun e => h77 (by rw [e]; rfl)
    have tn : ∀ (y : UInt8), x ≠ y → ¬ ((x.toNat : Int) = (y.toNat : Int)) := fun y h e => h (UInt8.toNat_inj.1 (by omega))
    refine XIf.no (by simpa using tn 77 hx77) ?_
    have fin : ∀ (q : RD) (Z' : ST) w', Sat W w' (ReaderP p q :: StP v c Z' :: BookP c.b M :: L) → doOne Z M (x :: r) = ⟨q.e, Z', M⟩ → XCall Tryz.prog F.code_Reader_Err [ptr p] (.leaf (.int .i64)) w' fun (x12 : Int) w13 => K (.int .i64 x12) w13 := by
      intro q Z' w' h e
      refine xcall_eq (Err_spec h) q.e rfl ?_
      have := hK w' (by rw [e]; exact h.drop)
      rwa [e] at this
    unfold doOne at fin
    dsimp only at fin
    by_cases h80 : x = 80
    · subst h80
      refine XIf.yes rfl (xcall (Num_read_spec h1) ?_)
      rintro u w2 ⟨rfl, h2⟩
      obtain ⟨n, hn⟩ : ∃ n, (RD.of r).num = n := ⟨_, rfl⟩
      rw [hn] at h2 fin ⊢
      refine ⟨(n.1 : Int), rfl, xjoin (fun (_ : Unit) w' => Sat W w' (ReaderP p n.2.end_ :: StP v c (if n.2.end_.e = 0 then { Z with promised := n.1 } else Z) :: BookP c.b M :: L)) (fun J hJ => ?_) (fun _ w' h => fin _ _ w' h rfl)⟩
      refine xcall (End_spec h2) ?_
      rintro u w3 ⟨rfl, h3⟩
      refine ⟨n.2.end_.e, rfl, ?_⟩
      by_cases h0 : n.2.end_.e = 0
      · rw [if_pos h0] at hJ
        obtain ⟨ls, h4⟩ := StP.open (h3.bring 1)
        refine XIf.yes (by rw [h0]; rfl) (xnil (xstore h4 4 rfl (by simp [vcells]) fun w4 h5 => hJ () _ ?_))
        exact (StP.shut (c := c) (S := { Z with promised := n.1 }) (ls := ls) h5).swap
      · rw [if_neg h0] at hJ
        exact XIf.no (by simpa using h0) (hJ () _ h3)
    refine XIf.no (by simpa using tn 80 h80) ?_
    by_cases h65 : x = 65
    · subst h65
      refine XIf.yes rfl (xcall (Num_read_spec h1) ?_)
      rintro u w2 ⟨rfl, h2⟩
      obtain ⟨g, hg⟩ : ∃ g, (RD.of r).num = g := ⟨_, rfl⟩
      rw [hg] at h2 fin ⊢
      refine ⟨(g.1 : Int), rfl, xcall (Num_read_spec h2) ?_⟩
      rintro u w3 ⟨rfl, h3⟩
      obtain ⟨b, hb⟩ : ∃ b, g.2.num = b := ⟨_, rfl⟩
      rw [hb] at h3 fin ⊢
      refine ⟨(b.1 : Int), rfl, xcall (Raw_spec 32 h3 (by decide)) ?_⟩
      rintro u w4 ⟨rfl, h4⟩
      obtain ⟨m, hm⟩ : ∃ m, b.2.raw 32 = m := ⟨_, rfl⟩
      rw [hm] at h4 fin ⊢
      refine ⟨str m.1, rfl, xnew h4 fun a w5 h5 => xstoresP h5 rfl fun w6 h6 => ?_⟩
      have h6 : Sat W w6 (pts a (encells ⟨g.1, b.1, m.1⟩) :: ReaderP p m.2 :: StP v c Z :: BookP c.b M :: L) := h6
      refine xjoin (fun (_ : Unit) w' => Sat W w' (ReaderP p m.2.end_ :: StP v c (if m.2.end_.e = 0 then { Z with list := acceptE ⟨g.1, b.1, m.1⟩ Z.list } else Z) :: BookP c.b M :: L)) (fun J hJ => ?_) (fun _ w' h => fin _ _ w' h rfl)
      refine xcall (End_spec (h6.bring 1)) ?_
      rintro u w7 ⟨rfl, h7⟩
      refine ⟨m.2.end_.e, rfl, ?_⟩
      by_cases h0 : m.2.end_.e = 0
      · rw [if_pos h0] at hJ
        refine XIf.yes (by rw [h0]; rfl) (xloadsP (enH ⟨g.1, b.1, m.1⟩) (h7.bring 1) (xcalls (accept_spec ⟨g.1, b.1, m.1⟩ hl (h7.bring 2)) ?_))
        rintro u w8 ⟨rfl, h8⟩
        exact ⟨(), rfl, hJ () _ ((h8.bring 2).drop.swap)⟩
      · rw [if_neg h0] at hJ
        exact XIf.no (by simpa using h0) (hJ () _ ((h7.bring 1).drop))
    refine XIf.no (by simpa using tn 65 h65) ?_
    by_cases h70 : x = 70
    · subst h70
      refine XIf.yes rfl (xcall (Num_read_spec h1) ?_)
      rintro u w2 ⟨rfl, h2⟩
      obtain ⟨n, hn⟩ : ∃ n, (RD.of r).num = n := ⟨_, rfl⟩
      rw [hn] at h2 fin ⊢
      refine ⟨(n.1 : Int), rfl, xjoin (fun (_ : Unit) w' => Sat W w' (ReaderP p n.2.end_ :: StP v c (if n.2.end_.e = 0 then { Z with list := forgetE n.1 Z.list } else Z) :: BookP c.b M :: L)) (fun J hJ => ?_) (fun _ w' h => fin _ _ w' h rfl)⟩
      refine xcall (End_spec h2) ?_
      rintro u w3 ⟨rfl, h3⟩
      refine ⟨n.2.end_.e, rfl, ?_⟩
      by_cases h0 : n.2.end_.e = 0
      · rw [if_pos h0] at hJ
        refine XIf.yes (by rw [h0]; rfl) (xcalls (forget_spec n.1 hl (h3.bring 1)) ?_)
        rintro u w8 ⟨rfl, h8⟩
        exact ⟨(), rfl, hJ () _ h8.swap⟩
      · rw [if_neg h0] at hJ
        exact XIf.no (by simpa using h0) (hJ () _ h3)
    refine XIf.no (by simpa using tn 70 h70) ?_
    by_cases h67 : x = 67
    · subst h67
      refine XIf.yes rfl (xcall (Num_read_spec h1) ?_)
      rintro u w2 ⟨rfl, h2⟩
      obtain ⟨g, hg⟩ : ∃ g, (RD.of r).num = g := ⟨_, rfl⟩
      rw [hg] at h2 fin ⊢
      refine ⟨(g.1 : Int), rfl, xcall (Num_read_spec h2) ?_⟩
      rintro u w3 ⟨rfl, h3⟩
      obtain ⟨t, ht⟩ : ∃ t, g.2.num = t := ⟨_, rfl⟩
      rw [ht] at h3 fin ⊢
      refine ⟨(t.1 : Int), rfl, xnew h3 fun a w5 h5 => xstore h5 0 rfl (by simp) fun w6 h6 => ?_⟩
      have h6 : Sat W w6 (pts a [.int .i64 (t.1 : Nat)] :: ReaderP p t.2 :: StP v c Z :: BookP c.b M :: L) := h6
      refine xjoin (fun (_ : Unit) w' => Sat W w' (ReaderP p t.2.end_ :: StP v c (if t.2.end_.e = 0 then { Z with floor := g.1, top := t.1, list := Z.list.filter fun x => !decide (x.gen < t.1) } else Z) :: BookP c.b M :: L)) (fun J hJ => ?_) (fun _ w' h => fin _ _ w' h rfl)
      refine xcall (End_spec (h6.bring 1)) ?_
      rintro u w7 ⟨rfl, h7⟩
      refine ⟨t.2.end_.e, rfl, ?_⟩
      by_cases h0 : t.2.end_.e = 0
      · rw [if_pos h0] at hJ
        have hd := h7.drew
        obtain ⟨ls, h8⟩ := StP.open (hd.bring 2)
        have hll := rows_len encells_len (by decide) (h8.bring 1)
        refine XIf.yes (by rw [h0]; rfl) (xload (h8.bring 4) 0 rfl rfl (xnil (xstore h8 5 rfl (by simp [vcells]) fun w8 h9 => ⟨(h9.bring 4).cell rfl, xnil (xstore h9 6 rfl (by simp [vcells]) fun w9 h10 => xnil (xload h10 7 rfl rfl ?_))⟩)))
        refine xcall (DeleteFunc_Entry (A := pts a [.int .i64 (t.1 : Nat)]) (cap := ptr a) (c := fun e => decide (e.gen < t.1)) (by kernel_rfl) (h10.arr [1, 4]) (by show ls.len ≤ _; omega) fun qs p w L hs => cut_fn qs p hs) ?_
        rintro u w10 ⟨s', rfl, h11⟩
        refine ⟨s', rfl, xnil (xstore (h11.bring 2) 7 rfl (by simp [vcells]) fun w11 h12 => hJ () _ ?_)⟩
        have h13 := (h12.bring 2).drop
        exact (StP.shut (c := c) (S := { Z with floor := g.1, top := t.1, list := Z.list.filter fun x => !decide (x.gen < t.1) }) (ls := s') h13).swap
      · rw [if_neg h0] at hJ
        exact XIf.no (by simpa using h0) (hJ () _ ((h7.bring 1).drop))
    refine XIf.no (by simpa using tn 67 h67) ?_
    obtain ⟨ls, h8⟩ := StP.open (h1.bring 1)
    refine xnil (xload h8 8 rfl rfl (xcall (hdo x r rfl h80 h65 h70 h67 _ _ (h8.arr [2, 4])) ?_))
    rintro u w2 ⟨rfl, h9⟩
    refine ⟨_, rfl, ?_⟩
    unfold doOne at hK
    dsimp only at hK
    rw [if_neg h80, if_neg h65, if_neg h70, if_neg h67] at hK
    refine hK _ ?_
    have h10 := (h9.bring 4).drop
    exact StP.shut (c := c) (S := { Z with gens := (doG Z.gens M (x :: r)).gens }) (ls := ls) (h10.arr [2, 3, 0, 1])

theorem doAll_snoc (x : List UInt8) : ∀ {l : List (List UInt8)} {Z : ST} {M : Bk}, (doAll Z M l).err = 0 →
    doAll Z M (l ++ [x]) = if x.head? = some 77 then ⟨5, (doAll Z M l).st, (doAll Z M l).book⟩ else doOne (doAll Z M l).st (doAll Z M l).book x
  | [], Z, M, _ => by
    show doAll Z M [x] = _
    unfold doAll
    split
    · rfl
    · show (if (doOne Z M x).err ≠ 0 then doOne Z M x else ⟨0, (doOne Z M x).st, (doOne Z M x).book⟩) = doOne Z M x
      split
      · rfl
      · rename_i h0
        have h0 : (doOne Z M x).err = 0 := by simpa using h0
        rw [← h0]
  | y :: l, Z, M, h => by
    rw [List.cons_append]
    unfold doAll at h ⊢
    by_cases h1 : y.head? = some 77
    · rw [if_pos h1] at h
      cases h
    · rw [if_neg h1] at h ⊢
      rw [if_neg h1]
      dsimp only at h ⊢
      by_cases h2 : (doOne Z M y).err ≠ 0
      · rw [if_pos h2] at h
        exact absurd h h2
      · rw [if_neg h2] at h ⊢
        rw [if_neg h2]
        exact doAll_snoc x h

theorem doAll_stops {x : List UInt8} : ∀ {l rest : List (List UInt8)} {Z : ST} {M : Bk}, (doAll Z M l).err = 0 → (doAll Z M (l ++ [x])).err ≠ 0 → doAll Z M (l ++ x :: rest) = doAll Z M (l ++ [x])
  | [], rest, Z, M, _, h => by
    simp only [List.nil_append] at h ⊢
    unfold doAll at h ⊢
    by_cases h1 : x.head? = some 77
    · rw [if_pos h1, if_pos h1]
    · rw [if_neg h1] at h ⊢
      rw [if_neg h1]
      dsimp only at h ⊢
      by_cases h2 : (doOne Z M x).err ≠ 0
      · rw [if_pos h2, if_pos h2]
      · rw [if_neg h2] at h
        exact absurd rfl h
  | y :: l, rest, Z, M, h, h' => by
    rw [List.cons_append] at h' ⊢
    rw [List.cons_append]
    unfold doAll at h h' ⊢
    by_cases h1 : y.head? = some 77
    · rw [if_pos h1] at h
      cases h
    · rw [if_neg h1] at h h' ⊢
      rw [if_neg h1]
      dsimp only at h h' ⊢
      by_cases h2 : (doOne Z M y).err ≠ 0
      · rw [if_pos h2] at h
        exact absurd h h2
      · rw [if_neg h2] at h h' ⊢
        rw [if_neg h2]
        exact doAll_stops h h'

theorem end_e {r : RD} (h : r.e ≠ 0) : r.end_.e ≠ 0 := by
  unfold RD.end_
  rw [if_neg (fun h' => h h'.1)]
  exact h

theorem many_spec {p : Nat} {q : RD} (hdo : ∀ k x, (q.texts 64 1048576).1[k]? = some x → (doAll Z M ((q.texts 64 1048576).1.take k)).err = 0 →
      x.length ≤ 2 ^ 40 ∧ (doAll Z M ((q.texts 64 1048576).1.take k)).st.list.length ≤ 2 ^ 30 ∧ ∀ y r, x = y :: r → y ≠ 80 → y ≠ 65 → y ≠ 70 → y ≠ 67 → StoreDo (W := W) c (doAll Z M ((q.texts 64 1048576).1.take k)).st (doAll Z M ((q.texts 64 1048576).1.take k)).book x)
    (hs : Sat W w (ReaderP p q :: StP v c Z :: BookP c.b M :: L)) :
    Ret Tryz.prog F.vault_state_many [.pointer (some ⟨v, 4, none⟩), ptr p] w fun u w' =>
      ∃ R : SR, R = (if (q.texts 64 1048576).2.end_.e ≠ 0 then ⟨(q.texts 64 1048576).2.end_.e, Z, M⟩ else doAll Z M (q.texts 64 1048576).1) ∧ u = .int .i64 R.err ∧ Sat W w' (StP v c R.st :: BookP c.b R.book :: L) := by
  obtain ⟨R, hR⟩ : ∃ R : SR, R = (if (q.texts 64 1048576).2.end_.e ≠ 0 then ⟨(q.texts 64 1048576).2.end_.e, Z, M⟩ else doAll Z M (q.texts 64 1048576).1) := ⟨_, rfl⟩
  suffices H : ∀ K : Value → World → Prop, (∀ w', Sat W w' (StP v c R.st :: BookP c.b R.book :: L) → K (.int .i64 R.err) w') → S.vault_state_many (some ⟨v, 4, none⟩) (some ⟨p, 0, none⟩) K w from
    S.vault_state_many_ok _ _ _ _ (H _ fun _ h => ⟨R, hR, rfl, h⟩)
  intro K hK
  obtain ⟨T, hT⟩ : ∃ T, q.texts 64 1048576 = T := ⟨_, rfl⟩
  refine xcall (Texts_read_spec 64 1048576 (by decide) hs) ?_
  rintro u w1 ⟨s, rfl, h1⟩
  rw [hT] at h1 hR hdo
  refine ⟨s, rfl, xcall (End_spec (h1.bring 1)) ?_⟩
  rintro u w2 ⟨rfl, h2⟩
  refine ⟨T.2.end_.e, rfl, ?_⟩
  by_cases h0 : T.2.end_.e = 0
  · rw [if_neg (fun h => h h0)] at hR
    refine XIf.no (by rw [h0]; rfl) ?_
    have hxl := (h2.bring 1).own_len
    rw [List.length_map, Nat.mul_one] at hxl
    have hT64 : T.1.length ≤ 64 := by rw [← hT]; exact texts_le q 64 _
    refine xloop (fun (st : Int × Int × Unit) w => ∃ i : Nat, st = (0, (i : Int), ()) ∧ i ≤ T.1.length ∧ (doAll Z M (T.1.take i)).err = 0 ∧
      Sat W w (own 1 s (T.1.map fun x => Value.string (str x)) :: StP v c (doAll Z M (T.1.take i)).st :: BookP c.b (doAll Z M (T.1.take i)).book :: L)) (fun st => ((s.len : Int) - st.2.1).toNat)
      ⟨0, rfl, Nat.zero_le _, rfl, by exact h2.drop⟩ ?_
    clear hs h1 h2
    rintro next _ w ⟨i, rfl, hi, he, h⟩ hnext
    by_cases hlt : i < T.1.length
    · obtain ⟨x, hx⟩ : ∃ x, T.1[i]? = some x := ⟨_, List.getElem?_eq_getElem hlt⟩
      obtain ⟨g1, g2, g3⟩ := hdo i x hx he
      have htk : T.1.take (i + 1) = T.1.take i ++ [x] := by rw [List.take_add_one, hx]; rfl
      have hsn := doAll_snoc x he
      have hbig := doAll_stops (x := x) (rest := T.1.drop (i + 1)) he
      have hall : T.1.take i ++ x :: T.1.drop (i + 1) = T.1 := by
        conv => rhs; rw [← List.take_append_drop (i + 1) T.1, htk, List.append_assoc]
        rfl
      rw [hall, ← hR] at hbig
      refine XIf.yes (decide_eq_true (show (i : Int) < (s.len : Int) by omega)) (xstrAt (ROStr.own T.1 hxl) h i rfl hx (by show Int.toNat _ * 1 = _; simp) fun a => ?_)
      obtain ⟨Q, hQ⟩ : ∃ Q, doAll Z M (T.1.take i) = Q := ⟨_, rfl⟩
      rw [hQ] at h g2 g3 hsn
      refine xcall_eq (HasPrefix_spec x [77] (by omega) (by decide)) (decide (x.take 1 = [77])) rfl ?_
      have hhead : x.take 1 = [77] ↔ x.head? = some 77 := by cases x <;> simp
      by_cases h77 : x.head? = some 77
      · rw [if_pos h77] at hsn
        have hb := hbig (by rw [hsn]; exact (by decide : (5 : Int) ≠ 0))
        rw [hsn] at hb
        refine XIf.yes (decide_eq_true (hhead.2 h77)) ?_
        have := hK w (by rw [hb]; exact h.drop)
        rw [hb] at this
        exact this
      · rw [if_neg h77] at hsn
        refine XIf.no (decide_eq_false (fun e => h77 (hhead.1 e))) (xcall (doOne_spec x g1 h77 g2 g3 (h.arr [1, 2])) ?_)
        rintro u w3 ⟨rfl, h3⟩
        refine ⟨_, rfl, ?_⟩
        by_cases h4 : (doOne Q.st Q.book x).err = 0
        · refine XIf.no (by rw [h4]; rfl) (xlet ((i + 1 : Nat) : Int) (by (try dsimp only); rw [wi (by omega) (by omega)]; (try omega)) (hnext _ _ ⟨i + 1, rfl, hlt, ?_, ?_⟩ (by dsimp only; omega)))
          · rw [htk, hsn]; exact h4
          · rw [htk, hsn]; exact h3.arr [2, 0, 1]
        · have hb := hbig (by rw [hsn]; exact h4)
          rw [hsn] at hb
          refine XIf.yes (by simpa using h4) ?_
          have := hK w3 (by rw [hb]; exact (h3.bring 2).drop)
          rw [hb] at this
          exact this
    · have hke : i = T.1.length := by omega
      rw [hke, List.take_length, ← hR] at h he
      have := hK w h.drop
      rw [he] at this
      exact XIf.no (decide_eq_false (show ¬ (i : Int) < (s.len : Int) by omega)) this
  · rw [if_pos h0] at hR
    have := hK w2 (by rw [hR]; exact (h2.drop).drop)
    rw [hR] at this
    exact XIf.yes (by simpa using h0) this

/-- What a record does: several ones too. -/
theorem do_spec (s : List UInt8) (hsl : s.length ≤ 2 ^ 40) (hl : Z.list.length ≤ 2 ^ 30)
    (h1 : ∀ x r, s = x :: r → x ≠ 77 → x ≠ 80 → x ≠ 65 → x ≠ 70 → x ≠ 67 → StoreDo (W := W) c Z M s)
    (h2 : ∀ r, s = 77 :: r → ∀ k x, ((RD.of r).texts 64 1048576).1[k]? = some x → (doAll Z M (((RD.of r).texts 64 1048576).1.take k)).err = 0 →
      x.length ≤ 2 ^ 40 ∧ (doAll Z M (((RD.of r).texts 64 1048576).1.take k)).st.list.length ≤ 2 ^ 30 ∧ ∀ y r', x = y :: r' → y ≠ 80 → y ≠ 65 → y ≠ 70 → y ≠ 67 → StoreDo (W := W) c (doAll Z M (((RD.of r).texts 64 1048576).1.take k)).st (doAll Z M (((RD.of r).texts 64 1048576).1.take k)).book x)
    (hs : Sat W w (StP v c Z :: BookP c.b M :: L)) :
    Ret Tryz.prog F.vault_state_do [.pointer (some ⟨v, 4, none⟩), .string (str s)] w fun u w' => u = .int .i64 (doS Z M s).err ∧ Sat W w' (StP v c (doS Z M s).st :: BookP c.b (doS Z M s).book :: L) := by
  by_cases h77 : s.head? = some 77
  · cases s with
    | nil => simp at h77
    | cons x r =>
      simp at h77
      subst h77
      unfold doS
      rw [if_pos (show ((77 : UInt8) :: r).head? = some 77 from rfl)]
      dsimp only [List.tail_cons]
      have hsz : (str ((77 : UInt8) :: r)).size = r.length + 1 := str_size _
      have hrl : r.length ≤ 2 ^ 40 := by simp only [List.length_cons] at hsl; omega
      refine S.vault_state_do_ok _ _ _ _ (XIf.no ((sEq_str (77 :: r) []).trans (decide_eq_false (by simp))) ⟨⟨⟨by omega, by omega⟩, by omega, by omega⟩, ?_⟩)
      refine xlet (str r) (tail_extract (77 :: r) (by simp)) (xcall (Read_code_spec r hrl hs) ?_)
      rintro u w1 ⟨p, rfl, h3⟩
      refine ⟨_, rfl, ⟨by omega, by omega⟩, xlet (77 : Int) (by rw [getD_str']; rfl) (XIf.yes rfl (xcall (many_spec (h2 r rfl) h3) ?_))⟩
      rintro u w2 ⟨R, hR, rfl, h4⟩
      rw [← hR]
      exact ⟨_, rfl, rfl, h4⟩
  · unfold doS
    rw [if_neg h77]
    refine doOne_spec s hsl h77 hl (fun x r e h80 h65 h70 h67 => h1 x r e (fun e2 => h77 ?_) h80 h65 h70 h67) hs
    rw [e, e2]
    rfl

end
end Go.X

/-! A vault's world within bounds; what stays so. -/
namespace Go.X
open Go.Proofs

/-! ### Plain -/

/-- Where an end of a log may be. -/
theorem putW_end2 {D : DD} {M : Bk} {l : LG} {sign : UInt8} {xs : List (List UInt8)} (h : l.end_ ≤ 2 ^ 21) : (putW D M l sign xs).log.end_ ≤ 2 ^ 21 := by
  unfold putW
  dsimp only
  split
  · exact h
  split
  · exact h
  · rename_i h1
    obtain ⟨Z, hZ⟩ : ∃ Z, putB sign xs ⟨0, [], l.mark, M⟩ = Z := ⟨_, rfl⟩
    rw [hZ] at h1 ⊢
    show l.end_ + Z.bytes.length ≤ _
    unfold DD.write at h1
    split at h1
    · exact absurd (fun e => by cases e) h1
    split at h1
    · exact absurd (fun e => by cases e) h1
    · dsimp only at h1
      split at h1
      · exact absurd (fun e => by cases e) h1
      split at h1
      · exact absurd (fun e => by cases e) h1
      · rename_i h2
        omega

theorem beginW_end2 (D : DD) (M : Bk) (n : Nat) (xs : List (List UInt8)) : (beginW D M n xs).log.end_ ≤ 2 ^ 21 := by
  unfold beginW
  dsimp only
  split
  · exact Nat.zero_le _
  · have h1 : (putW (D.create (nm n)).2 M ⟨n, 0, firstM n⟩ 83 xs).log.end_ ≤ 2 ^ 21 := putW_end2 (Nat.zero_le _)
    show (if _ then _ else _ : PR4).log.end_ ≤ _
    split
    · exact putW_end2 h1
    · exact h1

theorem turnW_end2 {D : DD} {M : Bk} {l : LG} {xs : List (List UInt8)} (h : l.end_ ≤ 2 ^ 21) : (turnW D M l xs).log.end_ ≤ 2 ^ 21 := by
  unfold turnW
  split
  · exact h
  dsimp only
  split
  · exact h
  · exact beginW_end2 _ _ _ _

/-- A vault's world within bounds. -/
structure VGood (i k : Nat) (X : VW) : Prop where
  fit : Fit i X.D
  n : X.v.log.n ≤ i
  end_ : X.v.log.end_ ≤ 2 ^ 21
  mark : X.v.log.mark.length ≤ 2 ^ 20
  st : STok X.v.st
  recs : sumR X.v.st.recs ≤ 700 * k
  book : X.M.length ≤ i

theorem VGood.up {i j k : Nat} {X : VW} (h : VGood i k X) (hj : i ≤ j) : VGood j k X :=
  ⟨h.fit.upto hj, Nat.le_trans h.n hj, h.end_, h.mark, h.st, h.recs, Nat.le_trans h.book hj⟩

theorem VGood.log {i k : Nat} {X : VW} (h : VGood i k X) (hi : i ≤ 2 ^ 40) : LGok X.v.log := ⟨Nat.le_trans h.n hi, by have := h.end_; omega, h.mark⟩

theorem recs_sum_len (xs : List (List UInt8)) : 37 * xs.length ≤ sumR xs := by
  induction xs with
  | nil => exact Nat.le_refl _
  | cons x l ih => rw [sumR_cons, List.length_cons]; omega

/-- What appending leaves. -/
theorem againV_good {i k : Nat} {X : VW} {one : List UInt8} (h : VGood i k X) (hi : i ≤ 2 ^ 24) (hk : k ≤ 2 ^ 20) (h1 : 37 + one.length ≤ 700 * k) :
    Fit (i + 3 * k + 8) (againV X one).disk ∧ LGok (againV X one).log ∧ (againV X one).log.n ≤ X.v.log.n + 1 ∧ (againV X one).log.end_ ≤ 2 ^ 21 ∧ (againV X one).book.length ≤ X.M.length + 20 * k + 3 := by
  have hs1 : sumR [one] ≤ 700 * k := by rw [sumR_cons, sumR_nil]; omega
  have hl := h.log (by omega)
  have hend := h.end_
  have hn := h.n
  obtain ⟨a1, a2, a3, a4, a5⟩ := putW_fit2 h.fit X.M X.v.log hl (by omega) 82 [one] hs1 (by omega)
  have a6 : (putW X.D X.M X.v.log 82 [one]).log.end_ ≤ 2 ^ 21 := putW_end2 hend
  simp only [List.length_singleton] at a5
  unfold againV
  dsimp only
  obtain ⟨A, hA⟩ : ∃ A, putW X.D X.M X.v.log 82 [one] = A := ⟨_, rfl⟩
  rw [hA] at a1 a2 a3 a5 a6 ⊢
  split
  · obtain ⟨t1, t2, t3, t4, t5, t6⟩ := turnW_fit2 a1 A.book A.log a2 (by omega) X.v.st.recs h.recs (by omega)
    have t7 : (turnW A.disk A.book A.log X.v.st.recs).log.end_ ≤ 2 ^ 21 := turnW_end2 a6
    have hrl := recs_sum_len X.v.st.recs
    have hrs := h.recs
    obtain ⟨T, hT⟩ : ∃ T, turnW A.disk A.book A.log X.v.st.recs = T := ⟨_, rfl⟩
    rw [hT] at t1 t2 t3 t4 t5 t7 ⊢
    split
    · obtain ⟨b1, b2, b3, b4, b5⟩ := putW_fit2 t1 T.book T.log t2 (by omega) 82 [one] hs1 (by omega)
      simp only [List.length_singleton] at b5
      exact ⟨b1.upto (by omega), b2, by omega, putW_end2 t7, by omega⟩
    · exact ⟨t1.upto (by omega), t2, by omega, t7, by omega⟩
  · exact ⟨a1.upto (by omega), a2, by omega, a6, by omega⟩

theorem tidyV_good {i k : Nat} {X : VW} (h : VGood i k X) (hi : i ≤ 2 ^ 26) (hk : k ≤ 2 ^ 20) : VGood (i + 20 * k + 4) k (tidyV X) := by
  have hl := h.log (by omega)
  have hend := h.end_
  have hn := h.n
  have hb := h.book
  unfold tidyV
  split
  · obtain ⟨t1, t2, t3, t4, t5, t6⟩ := turnW_fit2 h.fit X.M X.v.log hl (by omega) X.v.st.recs h.recs (by omega)
    have hrl := recs_sum_len X.v.st.recs
    have hrs := h.recs
    exact ⟨t1.upto (by omega), by dsimp only; omega, turnW_end2 hend, t2.mark, h.st, h.recs, by dsimp only; omega⟩
  · exact h.up (by omega)

/-- What a record that lasts leaves. -/
theorem writeV_good {i k : Nat} {X : VW} {recs : List (List UInt8)} (h : VGood i k X) (hi : i ≤ 2 ^ 24) (hk : k ≤ 2 ^ 20) (h1 : 37 + (oneOf recs).length ≤ 700 * k)
    (hS : STok (doS X.v.st (againV X (oneOf recs)).book (oneOf recs)).st) (hr : sumR (doS X.v.st (againV X (oneOf recs)).book (oneOf recs)).st.recs ≤ 700 * k) {j : Nat} (hj : (doS X.v.st (againV X (oneOf recs)).book (oneOf recs)).book.length ≤ (againV X (oneOf recs)).book.length + j) (hj2 : j ≤ 2 ^ 20) :
    VGood (i + 50 * k + 16 + j) k (writeV X recs).2 := by
  obtain ⟨b1, b2, b3, b4, b5⟩ := againV_good h hi hk h1
  have hn := h.n
  have hb := h.book
  unfold writeV
  dsimp only
  obtain ⟨B, hB⟩ : ∃ B, againV X (oneOf recs) = B := ⟨_, rfl⟩
  rw [hB] at b1 b2 b3 b4 b5 hS hr hj ⊢
  have hbase : ∀ (D : DD) (M : Bk) (Z : ST) (d : Bool), Fit (i + 3 * k + 8) D → M.length ≤ B.book.length + j → STok Z → sumR Z.recs ≤ 700 * k → VGood (i + 30 * k + 12 + j) k ⟨D, M, { X.v with log := B.log, st := Z, dead := d }⟩ :=
    fun D M Z d hD hM hZ hZ2 => ⟨hD.upto (by omega), by dsimp only; omega, b4, b2.mark, hZ, hZ2, by dsimp only; omega⟩
  split
  · exact (hbase B.disk B.book X.v.st X.v.dead b1 (by omega) h.st h.recs).up (by omega)
  have hsy : Fit (i + 3 * k + 8) (syncV B).2 := by
    unfold syncV
    split
    · exact b1.sync0
    · exact b1
  split
  · exact (hbase _ B.book X.v.st _ hsy (by omega) h.st h.recs).up (by omega)
  split
  · exact (hbase _ _ _ true hsy hj hS hr).up (by omega)
  · exact (tidyV_good (hbase _ _ _ X.v.dead hsy hj hS hr) (by omega) hk).up (by omega)

/-! ### Records of numbers -/

theorem doS_P {Z : ST} {M : Bk} {n : Nat} (h : n < 2 ^ 62) : doS Z M (recP n) = ⟨0, { Z with promised := n }, M⟩ := by
  have h1 := RD.num_back [] [] h
  simp only [List.nil_append, List.append_nil, List.length_nil] at h1
  have h2 : (RD.of (numB n)).num = (n, ⟨numB n, (numB n).length, 0⟩) := h1
  have h3 := RD.end_back (numB n)
  unfold doS recP
  rw [if_neg (by simp)]
  unfold doOne
  dsimp only
  rw [if_pos rfl, h2, h3]
  rfl

theorem doS_F {Z : ST} {M : Bk} {n : Nat} (h : n < 2 ^ 62) : doS Z M (recF n) = ⟨0, { Z with list := forgetE n Z.list }, M⟩ := by
  have h1 := RD.num_back [] [] h
  simp only [List.nil_append, List.append_nil, List.length_nil] at h1
  have h2 : (RD.of (numB n)).num = (n, ⟨numB n, (numB n).length, 0⟩) := h1
  have h3 := RD.end_back (numB n)
  unfold doS recF
  rw [if_neg (by simp)]
  unfold doOne
  dsimp only
  rw [if_neg (by decide), if_neg (by decide), if_pos rfl, h2, h3]
  rfl

theorem doS_C {Z : ST} {M : Bk} {a b : Nat} (ha : a < 2 ^ 62) (hb : b < 2 ^ 62) : doS Z M (recC a b) = ⟨0, { Z with floor := a, top := b, list := Z.list.filter fun x => !decide (x.gen < b) }, M⟩ := by
  have h1 := RD.num_back [] (numB b) ha
  have h4 := RD.num_back (numB a) [] hb
  simp only [List.nil_append, List.append_nil, List.length_nil] at h1 h4
  have h2 : (RD.of (numB a ++ numB b)).num = (a, ⟨numB a ++ numB b, (numB a).length, 0⟩) := h1
  have h3 := RD.end_back (numB a ++ numB b)
  unfold doS recC
  rw [if_neg (by simp)]
  unfold doOne
  dsimp only
  rw [if_neg (by decide), if_neg (by decide), if_neg (by decide), if_pos rfl, h2]
  dsimp only
  rw [h4, h3]
  rfl

theorem doS_A {Z : ST} {M : Bk} {x : EN} (h : ENok x) : doS Z M (recA x) = ⟨0, { Z with list := acceptE x Z.list }, M⟩ := by
  have h1 := RD.num_back [] (numB x.ballot ++ x.mark) h.gen
  have h4 := RD.num_back (numB x.gen) x.mark h.ballot
  have h5 := RD.raw_back (numB x.gen ++ numB x.ballot) x.mark []
  simp only [List.nil_append, List.append_nil, List.length_nil] at h1 h4 h5
  rw [h.mark] at h5
  rw [← List.append_assoc] at h1
  have h2 : (RD.of (numB x.gen ++ numB x.ballot ++ x.mark)).num = (x.gen, ⟨numB x.gen ++ numB x.ballot ++ x.mark, (numB x.gen).length, 0⟩) := h1
  have h3 := RD.end_back (numB x.gen ++ numB x.ballot ++ x.mark)
  unfold doS recA
  rw [if_neg (by simp)]
  unfold doOne
  dsimp only
  rw [if_neg (by decide), if_pos rfl, h2]
  dsimp only
  rw [h4]
  dsimp only
  rw [h5]
  dsimp only
  rw [h3]
  rfl

section
variable {W w : World} {L : List SP} {v d b i k : Nat} {X : VW}

/-- One record lasts. -/
theorem write1_spec {one : List UInt8} {r j : Nat} (hg : VGood i k X) (hi : i ≤ 2 ^ 23) (hk : k ≤ 2 ^ 20) (h1 : 37 + one.length ≤ 700 * k) (hl1 : one.length ≤ 1048576)
    (hdo : ∀ c w L', Sat W w (StP v c X.v.st :: BookP c.b (againV X one).book :: L') → (againV X one).book.length ≤ 2 ^ 31 → Ret Tryz.prog F.vault_state_do [.pointer (some ⟨v, 4, none⟩), .string (str one)] w fun u w' =>
      u = .int .i64 (doS X.v.st (againV X one).book one).err ∧ Sat W w' (StP v c (doS X.v.st (againV X one).book one).st :: BookP c.b (doS X.v.st (againV X one).book one).book :: L'))
    (hS2 : STok (doS X.v.st (againV X one).book one).st) (hk3 : sumR (doS X.v.st (againV X one).book one).st.recs ≤ 700 * k) (hM2 : (doS X.v.st (againV X one).book one).book.length ≤ (againV X one).book.length + j) (hj : j ≤ 2 ^ 20)
    (hs : Sat W w (pts r [.string (str one)] :: VaultP v d b X.v :: DiskP d X.D :: BookP b X.M :: L)) :
    Ret Tryz.prog F.vault_Vault_write [ptr v, .slice (some ⟨r, 0, none⟩) 1 1] w fun u w' => u = .int .i64 (writeV X [one]).1 ∧ Sat W w' (VaultP v d b (writeV X [one]).2.v :: DiskP d (writeV X [one]).2.D :: BookP b (writeV X [one]).2.M :: L) := by
  have hgl := hg.log (Nat.le_trans hi (by decide))
  have hgn := hg.n
  have hge := hg.end_
  have hgb := hg.book
  have e24 : i ≤ 2 ^ 24 := Nat.le_trans hi (by decide)
  obtain ⟨g1, g2, g3, g4, g5⟩ := againV_good (one := one) hg e24 hk h1
  have hw := write_spec (W := W) (w := w) (L := L) (v := v) (d := d) (b := b) (i := i) (A := pts r [.string (str one)]) (X := X) (s := ⟨some ⟨r, 0, none⟩, 1, 1⟩) (recs := [one]) (k := k) (ROStr.one one) (by simp) (by simp) (fun x hx => by rw [List.mem_singleton.1 hx]; exact hl1) (hs.arr [1, 2, 3, 0]) hg.fit
    e24 hgl (by omega) (by omega) hg.st hg.recs hk h1 (by omega) (fun c w L' h5 hcb hM => by
      subst hcb
      exact hdo c w L' h5 hM) hS2 hk3 (by
      show (doS X.v.st (againV X one).book one).book.length ≤ _
      omega)
  refine hw.mono fun u w' h => ⟨h.1, (h.2.bring 3).drop⟩

end
end Go.X
