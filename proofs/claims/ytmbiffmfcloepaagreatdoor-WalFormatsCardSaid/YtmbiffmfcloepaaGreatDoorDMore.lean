/- The device's call Remove, and what it asks of the library. -/
import Derived.Test.YtmbiffmfcloepaaGreatDoorDPieces
namespace Go.X
open Go.Proofs

section
variable {W w : World} {L : List SP}

/-- Writing an element of several cells. -/
theorem xputs {sz : Nat} {s : Sl} {xs vs : List Value} {i : Int} {n : Nat} {K : Addr → World → Prop} (hs : Sat W w (own sz s xs :: L)) (k : Nat) (hi : i = k) (hlt : k < s.len) (hn : n = k * sz) (hl : vs.length = sz)
    (hk : ∀ a w', Sat W w' (own sz s (splice xs (k * sz) vs) :: L) → K a w') : XNil s.a fun a => ((0 : Int) ≤ i ∧ i < ((s.len : Nat) : Int)) ∧ XStores (Addr.add a n) 0 vs w (K a) := by
  rcases hs.open_own with ⟨_, h0, _⟩ | ⟨b, rest, ha, hlen, hc, hlc, hs'⟩
  · omega
  · rw [ha]
    have hfit : k * sz + vs.length ≤ xs.length := by rw [hl, hlen, ← Nat.succ_mul]; exact Nat.mul_le_mul_right _ hlt
    refine ⟨by omega, ?_⟩
    show XStores (Addr.add ⟨b, 0, none⟩ n) 0 vs w _
    rw [Addr.add_mk, Nat.zero_add, hn]
    refine xstores vs 0 w _ hs' (by rw [Nat.add_zero, List.length_append]; omega) fun w' h => hk _ w' ?_
    rw [Nat.add_zero] at h
    have hsp : splice (xs ++ rest) (k * sz) vs = splice xs (k * sz) vs ++ rest := by
      unfold splice
      rw [List.take_append_of_le_length (by omega), List.drop_append_of_le_length (by omega)]
      simp
    rw [hsp] at h
    refine Sat.shut_own ha ?_ ?_ hlc h
    · rw [splice_length hfit, hlen]
    · rw [List.length_append, splice_length hfit, ← List.length_append, hc]

theorem flat_set : ∀ (l : List DW) (k : Nat) (p : DW), k < l.length → splice (l.flatMap wcells) (k * 4) (wcells p) = (l.set k p).flatMap wcells
  | q :: l, 0, p, _ => by
    rw [List.flatMap_cons, Nat.zero_mul, List.set_cons_zero, List.flatMap_cons]
    unfold splice
    simp [wcells]
  | q :: l, k + 1, p, h => by
    have ih := flat_set l k p (by simpa using h)
    rw [List.flatMap_cons, List.set_cons_succ, List.flatMap_cons, ← ih]
    have hq : (wcells q).length = 4 := by simp [wcells]
    unfold splice
    rw [List.take_append, List.drop_append, hq, List.take_of_length_le (by rw [hq]; omega), List.drop_eq_nil_of_le (by rw [hq]; simp [wcells])]
    have e1 : (k + 1) * 4 - 4 = k * 4 := by omega
    have e2 : (k + 1) * 4 + (wcells p).length - 4 = k * 4 + (wcells p).length := by omega
    rw [e1, e2]
    simp

/-- A piece's own bytes in the words' form. -/
theorem wcells_eq (p : DW) : wcells p = [.int .i64 p.id, .int .i64 ((p.at_ / 64 : Nat) : Int), .int .i64 ((p.at_ % 64 : Nat) : Int), .string ⟨p.text.toArray⟩] := rfl

/-- Which pieces a call drops: the callee tells. -/
theorem IndexFunc_spec {A : SP} {s : Sl} {ps : List DW} {cap : Value} {c : DW → Bool} {g : FuncId} (hb : hasBody Tryz.prog g = true) (hs : Sat W w (own 4 s (ps.flatMap wcells) :: A :: L)) (hn : s.len ≤ 2 ^ 40)
    (hc : ∀ p w, Sat W w (own 4 s (ps.flatMap wcells) :: A :: L) → Ret Tryz.prog g [.agg ⟨wcells p⟩, cap] w fun v w' => v = .bool (c p) ∧ Sat W w' (own 4 s (ps.flatMap wcells) :: A :: L)) :
    Ret Tryz.prog F.slices_IndexFunc [.slice s.a s.len s.cap, .func (.func g) ⟨[]⟩ ⟨[cap]⟩] w fun v w' => Sat W w' (own 4 s (ps.flatMap wcells) :: A :: L) ∧
      ((v = .int .i64 (-1) ∧ ∀ p ∈ ps, c p = false) ∨ ∃ k : Nat, v = .int .i64 k ∧ k < ps.length ∧ (∀ i p, i < k → ps[i]? = some p → c p = false) ∧ ∀ p, ps[k]? = some p → c p = true) := by
  refine S.slices_IndexFunc_ok s _ _ _ ?_
  have hlen : ps.length = s.len := by have := hs.own_len; rw [wcells_len] at this; omega
  have call : ∀ (p : DW) (w : World) (K : Bool → World → Prop), Sat W w (own 4 s (ps.flatMap wcells) :: A :: L) → (∀ w', Sat W w' (own 4 s (ps.flatMap wcells) :: A :: L) → K (c p) w') →
      XCallV Tryz.prog (.func (.func g) ⟨[]⟩ ⟨[cap]⟩) [.agg ⟨wcells p⟩] (.leaf .bool) w K := by
    intro p w K h hk
    unfold XCallV
    simp only [hb, List.nil_append, List.singleton_append]
    exact xcall (t := .leaf .bool) (hc p w h) fun v w' ⟨e, h⟩ => ⟨c p, e, hk w' h⟩
  refine xloop (fun (st : Int × Int × Unit) w => ∃ i : Nat, st = (0, (i : Int), ()) ∧ i ≤ ps.length ∧ (∀ j p, j < i → ps[j]? = some p → c p = false) ∧ Sat W w (own 4 s (ps.flatMap wcells) :: A :: L))
    (fun st => ((s.len : Int) - st.2.1).toNat) ⟨0, rfl, Nat.zero_le _, fun j p h => by omega, hs⟩ ?_
  rintro next _ w ⟨i, rfl, hi, hno, h⟩ hnext
  by_cases hlt : i < ps.length
  · obtain ⟨p, hp⟩ : ∃ p, ps[i]? = some p := ⟨_, List.getElem?_eq_getElem hlt⟩
    obtain ⟨a, ha, hcell⟩ := h.own_some (by omega)
    refine XIf.yes (decide_eq_true (show (i : Int) < (s.len : Int) by omega)) ?_
    rw [ha]
    refine xnil ⟨⟨by show (0 : Int) ≤ (i : Int); omega, by show (i : Int) < (s.len : Int); omega⟩, xloads (p.id, ((p.at_ / 64 : Nat) : Int), ((p.at_ % 64 : Nat) : Int), (⟨p.text.toArray⟩ : ByteArray), ()) (fun j v hv => ?_) (call p w _ h fun w' h' => ?_)⟩
    · rw [Int.toNat_natCast, Addr.add_mk, Addr.add_mk, Nat.zero_add]
      exact hcell _ _ (flat_get ps i j p v hp hv)
    · cases hcp : c p with
      | true => exact XIf.yes rfl ⟨h', .inr ⟨i, rfl, hlt, hno, fun q hq => by rw [hp] at hq; cases hq; exact hcp⟩⟩
      | false =>
        refine XIf.no rfl (xlet ((i + 1 : Nat) : Int) (by dsimp only; rw [wi (by omega) (by omega)]; omega) (hnext _ _ ⟨i + 1, rfl, hlt, fun j q hj hq => ?_, h'⟩ (by dsimp only; omega)))
        by_cases hji : j < i
        · exact hno j q hji hq
        · have : j = i := by omega
          subst this
          rw [hp] at hq; cases hq; exact hcp
  · refine XIf.no (decide_eq_false (show ¬ (i : Int) < (s.len : Int) by omega)) ⟨h, .inl ⟨rfl, fun p hp => ?_⟩⟩
    obtain ⟨j, hj⟩ := List.getElem?_of_mem hp
    exact hno j p (by have := (List.getElem?_eq_some_iff.1 hj).1; omega) hj

theorem filter_none {α : Type} {c : α → Bool} : ∀ {l : List α}, (∀ p ∈ l, c p = false) → l.filter (fun p => !c p) = l
  | [], _ => rfl
  | p :: l, h => by
    rw [List.filter_cons, h p List.mem_cons_self]
    simp only [Bool.not_false, if_true]
    rw [filter_none fun q hq => h q (List.mem_cons_of_mem _ hq)]

theorem filter_snoc {α : Type} (c : α → Bool) (l : List α) (k : Nat) (p : α) (h : l[k]? = some p) : (l.take (k + 1)).filter c = (l.take k).filter c ++ (if c p then [p] else []) := by
  rw [List.take_add_one, h, List.filter_append]
  congr 1
  cases hc : c p <;> simp [hc]

theorem set_take {α : Type} (l : List α) (k : Nat) (p : α) (h : k < l.length) : (l.set k p).take (k + 1) = l.take k ++ [p] := by
  rw [List.take_succ_eq_append_getElem (by simpa using h), List.take_set_of_le (Nat.le_refl _), List.getElem_set_self]

theorem flat_take : ∀ (l : List DW) (k : Nat), (l.flatMap wcells).take (k * 4) = (l.take k).flatMap wcells
  | [], k => by simp
  | p :: l, 0 => by simp
  | p :: l, k + 1 => by
    rw [List.flatMap_cons, List.take_succ_cons, List.flatMap_cons, ← flat_take l k, List.take_append]
    have hq : (wcells p).length = 4 := by simp [wcells]
    rw [hq, List.take_of_length_le (by rw [hq]; omega), show (k + 1) * 4 - 4 = k * 4 by omega]

theorem DeleteFunc_spec {A : SP} {s : Sl} {ps : List DW} {cap : Value} {c : DW → Bool} {g : FuncId} (hb : hasBody Tryz.prog g = true) (hs : Sat W w (own 4 s (ps.flatMap wcells) :: A :: L)) (hn : s.len ≤ 2 ^ 40)
    (hc : ∀ (qs : List DW) p w L, Sat W w (own 4 s (qs.flatMap wcells) :: A :: L) → Ret Tryz.prog g [.agg ⟨wcells p⟩, cap] w fun v w' => v = .bool (c p) ∧ Sat W w' (own 4 s (qs.flatMap wcells) :: A :: L)) :
    Ret Tryz.prog F.slices_DeleteFunc [.slice s.a s.len s.cap, .func (.func g) ⟨[]⟩ ⟨[cap]⟩] w fun v w' => ∃ s' : Sl, v = .slice s'.a s'.len s'.cap ∧ Sat W w' (own 4 s' ((ps.filter fun p => !c p).flatMap wcells) :: A :: L) := by
  suffices H : ∀ K : Value → World → Prop, (∀ (s' : Sl) w', Sat W w' (own 4 s' ((ps.filter fun p => !c p).flatMap wcells) :: A :: L) → K (.slice s'.a s'.len s'.cap) w') → S.slices_DeleteFunc s (.func (.func g) ⟨[]⟩ ⟨[cap]⟩) K w from
    S.slices_DeleteFunc_ok s _ _ _ (H _ fun s' _ h => ⟨s', rfl, h⟩)
  intro K hK
  have hlen : ps.length = s.len := by have := hs.own_len; rw [wcells_len] at this; omega
  have call : ∀ (qs : List DW) (p : DW) (w : World) (L : List SP) (K : Bool → World → Prop), Sat W w (own 4 s (qs.flatMap wcells) :: A :: L) → (∀ w', Sat W w' (own 4 s (qs.flatMap wcells) :: A :: L) → K (c p) w') →
      XCallV Tryz.prog (.func (.func g) ⟨[]⟩ ⟨[cap]⟩) [.agg ⟨wcells p⟩] (.leaf .bool) w K := by
    intro qs p w L K h hk
    unfold XCallV
    simp only [hb, List.nil_append, List.singleton_append]
    exact xcall (t := .leaf .bool) (hc qs p w L h) fun v w' ⟨e, h⟩ => ⟨c p, e, hk w' h⟩
  refine xcall (IndexFunc_spec (c := c) hb hs hn fun p w h => hc ps p w L h) ?_
  rintro v w1 ⟨h1, hcase⟩
  rcases hcase with ⟨rfl, hno⟩ | ⟨k, rfl, hk, hno, hyes⟩
  · refine ⟨(-1 : Int), rfl, XIf.yes rfl (hK s w1 ?_)⟩
    rw [filter_none hno]
    exact h1
  obtain ⟨p0, hp0⟩ : ∃ p, ps[k]? = some p := ⟨_, List.getElem?_eq_getElem hk⟩
  have hk0 : (ps.take k).filter (fun p => !c p) = ps.take k := filter_none fun p hp => by
    obtain ⟨j, hj⟩ := List.getElem?_of_mem hp
    have hjk := (List.getElem?_eq_some_iff.1 hj).1
    rw [List.length_take] at hjk
    rw [List.getElem?_take_of_lt (by omega)] at hj
    exact hno j p (by omega) hj
  refine ⟨(k : Int), rfl, XIf.no (by simp) (xlet ((k + 1 : Nat) : Int) (by rw [wi (by omega) (by omega)]; omega) ?_)⟩
  refine xloop (fun (st : Int × Int × Unit) w => ∃ (i j : Nat) (qs : List DW), st = ((i : Int), (j : Int), ()) ∧ i < j ∧ j ≤ ps.length ∧ qs.length = ps.length ∧ qs.take i = (ps.take j).filter (fun p => !c p) ∧ qs.drop j = ps.drop j ∧
      Sat W w (own 4 s (qs.flatMap wcells) :: A :: L))
    (fun st => ((s.len : Int) - st.2.1).toNat) ⟨k, k + 1, ps, rfl, by omega, hk, rfl, ?_, rfl, h1⟩ ?_
  · rw [filter_snoc _ ps k p0 hp0, hk0, hyes p0 hp0]
    simp
  rintro next _ w ⟨i, j, qs, rfl, hij, hj, hql, htake, hdrop, h⟩ hnext
  by_cases hlt : j < ps.length
  · obtain ⟨p, hp⟩ : ∃ p, ps[j]? = some p := ⟨_, List.getElem?_eq_getElem hlt⟩
    have hqp : qs[j]? = some p := by
      have := congrArg (·[0]?) hdrop
      simp only [List.getElem?_drop, Nat.add_zero] at this
      rw [this, hp]
    have hdrop' : qs.drop (j + 1) = ps.drop (j + 1) := by
      have := congrArg (List.drop 1) hdrop
      simpa [List.drop_drop] using this
    refine XIf.yes (decide_eq_true (show (j : Int) < (s.len : Int) by omega)) (xjoin (fun (st : Int × Unit) w' => ∃ (i' : Nat) (qs' : List DW), st = ((i' : Int), ()) ∧ i' < j + 1 ∧ qs'.length = ps.length ∧ qs'.take i' = (ps.take (j + 1)).filter (fun p => !c p) ∧ qs'.drop (j + 1) = ps.drop (j + 1) ∧
      Sat W w' (own 4 s (qs'.flatMap wcells) :: A :: L)) (fun J hJ => ?_) ?_)
    case refine_2 =>
      rintro _ w' ⟨i', qs', rfl, h2, h3, h4, h5, h6⟩
      exact xlet ((j + 1 : Nat) : Int) (by dsimp only; rw [wi (by omega) (by omega)]; omega) (hnext _ _ ⟨i', j + 1, qs', rfl, h2, hlt, h3, h4, h5, h6⟩ (by dsimp only; omega))
    obtain ⟨a, ha, hcell⟩ := h.own_some (by omega)
    refine (show XNil s.a _ from ?_)
    rw [ha]
    refine xnil ⟨⟨by show (0 : Int) ≤ (j : Int); omega, by show (j : Int) < (s.len : Int); omega⟩, xloads (p.id, ((p.at_ / 64 : Nat) : Int), ((p.at_ % 64 : Nat) : Int), (⟨p.text.toArray⟩ : ByteArray), ()) (fun m v hv => ?_) (xnew h fun b w2 h2 => ?_)⟩
    · rw [Int.toNat_natCast, Addr.add_mk, Addr.add_mk, Nat.zero_add]
      exact hcell _ _ (flat_get qs j m p v hqp hv)
    refine xstores (wcells p) 0 w2 _ h2 (by simp [wcells]) fun w3 h3 => ?_
    have h3 : Sat W w3 (pts b (wcells p) :: own 4 s (qs.flatMap wcells) :: A :: L) := h3
    refine xloads (p.id, ((p.at_ / 64 : Nat) : Int), ((p.at_ % 64 : Nat) : Int), (⟨p.text.toArray⟩ : ByteArray), ()) (fun m v hv => by rw [Addr.add_mk, Nat.zero_add]; exact h3.cell hv) ?_
    have h4 : Sat W w3 (own 4 s (qs.flatMap wcells) :: A :: pts b (wcells p) :: L) := h3.arr [1, 2, 0]
    refine call qs p w3 _ _ h4 fun w4 h5 => ?_
    cases hcp : c p with
    | true =>
      refine XIf.no rfl (hJ _ _ ⟨i, qs, rfl, by omega, hql, ?_, hdrop', (h5.bring 2).drop⟩)
      rw [filter_snoc _ ps j p hp, htake, hcp]
      simp
    | false =>
      have hil : i < qs.length := by omega
      refine XIf.yes rfl (xloads (p.id, ((p.at_ / 64 : Nat) : Int), ((p.at_ % 64 : Nat) : Int), (⟨p.text.toArray⟩ : ByteArray), ()) (fun m v hv => by rw [Addr.add_mk, Nat.zero_add]; exact (h5.bring 2).cell hv) ?_)
      rw [← ha]
      refine xputs h5 i rfl (by omega) (by rw [Int.toNat_natCast]) (vs := wcells p) (by simp [wcells]) fun a w5 h6 => xlet ((i + 1 : Nat) : Int) (by dsimp only; rw [wi (by omega) (by omega)]; omega) (hJ _ _ ⟨i + 1, qs.set i p, rfl, by omega, by rw [List.length_set, hql], ?_, ?_, ?_⟩)
      · rw [set_take qs i p hil, htake, filter_snoc _ ps j p hp, hcp]
        simp
      · rw [List.drop_set_of_lt (by omega)]
        exact hdrop'
      · rw [flat_set qs i p hil] at h6
        exact (h6.bring 2).drop
  · -- what is left is cleared
    have hjl : j = ps.length := by omega
    have hil : i ≤ s.len := by omega
    have hcap := h.own_cap
    have had := h.own_addr
    refine XIf.no (decide_eq_false (show ¬ (j : Int) < (s.len : Int) by omega)) ⟨⟨by omega, by show (0 : Int) ≤ (i : Int); omega, by show (i : Int) ≤ (s.len : Int); omega⟩, xlet0 ?_⟩
    have h2 := h.own_shrink i hil
    refine xclear (s := ⟨s.a, i, s.cap⟩) (by kernel_rfl) (by omega) h2 (fun b hb hlt => ?_) (by (try dsimp only); omega) fun w5 h3 => ⟨⟨by show (0 : Int) ≤ (i : Int) ∧ (i : Int) ≤ (s.cap : Int); omega, by omega, by show (0 : Int) ≤ (i : Int); omega⟩, xlet ⟨s.a, i, s.cap⟩ (by rw [view_zero had]; simp) (hK ⟨s.a, i, s.cap⟩ w5 ?_)⟩
    · dsimp only
      rw [Int.toNat_natCast]
      exact view_ptr hb hlt
    · have e : (qs.flatMap wcells).take (i * 4) = (qs.take i).flatMap wcells := flat_take qs i
      rw [e, htake, hjl, List.take_of_length_le (Nat.le_refl _)] at h3
      exact h3

end
end Go.X
