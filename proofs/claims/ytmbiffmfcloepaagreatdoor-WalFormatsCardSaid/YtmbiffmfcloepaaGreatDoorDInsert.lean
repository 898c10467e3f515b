/- Putting an element into a slice, and taking one out. -/
import Derived.Test.YtmbiffmfcloepaaGreatDoorXMem3
namespace Go.X
open Go.Proofs

section
variable {P : Program} {W w : World} {L : List SP}

theorem Sat.own_cap {sz : Nat} {s : Sl} {xs : List Value} (hs : Sat W w (own sz s xs :: L)) : s.len ≤ s.cap := by
  rcases hs.open_own with ⟨_, h, h', _⟩ | ⟨_, _, _, _, _, h, _⟩ <;> omega

theorem Sat.own_addr {sz : Nat} {s : Sl} {xs : List Value} (hs : Sat W w (own sz s xs :: L)) : s.a = none ∨ ∃ b, s.a = some ⟨b, 0, none⟩ := by
  rcases hs.open_own with ⟨h, _⟩ | ⟨b, _, h, _⟩
  · exact .inl h
  · exact .inr ⟨b, h⟩

theorem view_zero {a : Option Addr} {c sz : Nat} (ha : a = none ∨ ∃ b, a = some ⟨b, 0, none⟩) : (if c = 0 then a else Option.map (fun b => Addr.add b (0 * sz)) a) = a := by
  rcases ha with h | ⟨b, h⟩
  · rw [h]; split <;> rfl
  · rw [h, Nat.zero_mul]; split <;> simp [Addr.add_mk]

theorem reads_view {sz : Nat} {s : Sl} {xs : List Value} (hs : Sat W w (own sz s xs :: L)) {c k n m : Nat} (hc : c = k → xs.length ≤ k * sz) :
    Reads w ⟨if c = k then s.a else Option.map (fun b => Addr.add b (k * sz)) s.a, n, m⟩ (xs.drop (k * sz)) := by
  intro a ha j v hj
  rw [List.getElem?_drop] at hj
  by_cases h : c = k
  · have := (List.getElem?_eq_some_iff.1 hj).1
    have := hc h
    omega
  · dsimp only at ha
    rw [if_neg h] at ha
    cases hsa : s.a with
    | none => rw [hsa] at ha; cases ha
    | some a' =>
      rw [hsa] at ha
      cases ha
      obtain ⟨b, rfl, hcell⟩ := hs.own_cells hsa
      show w.cell? (Addr.add (Addr.add ⟨b, 0, none⟩ (k * sz)) j) = _
      rw [Addr.add_mk, Addr.add_mk, Nat.zero_add]
      exact hcell _ _ hj

theorem splice_at (A C vs : List Value) (k : Nat) (hk : k = A.length) : splice (A ++ C) k vs = A ++ vs ++ C.drop vs.length := by
  unfold splice
  rw [hk, List.take_left, List.drop_append, List.drop_eq_nil_of_le (by omega), List.nil_append]
  congr 2
  omega

theorem Insert_spec {s : Sl} {xs : List Value} {v : Value} {b k : Nat} (hs : Sat W w (pts b [v] :: own 1 s xs :: L)) (hfz : ∀ o, w.frozen? ⟨b, o, none⟩ = false) (h1 : oneCell v = true) (hx1 : allOne xs = true) (hk : k ≤ s.len) (hsz : s.len + 1 ≤ 2 ^ 40) :
    Ret Tryz.prog F.slices_Insert [.slice s.a s.len s.cap, .int .i64 k, .slice (some ⟨b, 0, none⟩) 1 1] w fun r w' => ∃ s' : Sl, r = .slice s'.a s'.len s'.cap ∧ s'.len = s.len + 1 ∧ Sat W w' (own 1 s' (xs.take k ++ v :: xs.drop k) :: L) := by
  suffices H : ∀ K : Value → World → Prop, (∀ (s' : Sl) w', s'.len = s.len + 1 → Sat W w' (own 1 s' (xs.take k ++ v :: xs.drop k) :: L) → K (.slice s'.a s'.len s'.cap) w') → S.slices_Insert s k ⟨some ⟨b, 0, none⟩, 1, 1⟩ K w from S.slices_Insert_ok s _ ⟨some ⟨b, 0, none⟩, 1, 1⟩ _ _ (H _ fun s' _ h1 h2 => ⟨s', rfl, h1, h2⟩)
  intro K hK
  have hxl : xs.length = s.len := by have := hs.swap.own_len; omega
  have hcap := hs.swap.own_cap
  have had := hs.swap.own_addr
  have hv1 : allOne [v] = true := by simp [allOne, h1]
  have hd1 : allOne (xs.drop k) = true := allOne_of fun v hv => oneCell_of_allOne hx1 v (List.mem_of_mem_drop hv)
  refine ⟨⟨by omega, by omega, by omega⟩, xlet0 (XIf.no rfl ?_)⟩
  by_cases hkl : k = s.len
  · refine XIf.yes (by simp [hkl]) (xappend (x := ⟨some ⟨b, 0, none⟩, 1, 1⟩) (by kernel_rfl) hs.swap (reads_pts hs) rfl (fun h => by cases h) hv1 hsz fun s' w' h hl => hK s' w' hl ?_)
    rw [List.take_of_length_le (by omega), List.drop_eq_nil_of_le (by omega)]
    exact h.swap.drop
  refine XIf.no (by simp; omega) (xlet ((s.len + 1 : Nat) : Int) (by show IntKind.wrap .i64 ((s.len : Int) + 1) = _; rw [wi (by omega) (by omega)]; rfl) ?_)
  have hklt : k < s.len := by omega
  obtain ⟨b0, hb0⟩ : ∃ b0, s.a = some ⟨b0, 0, none⟩ := ⟨_, (hs.swap.own_some (by omega)).choose_spec.1⟩
  by_cases hroom : s.cap < s.len + 1
  · refine XIf.yes (decide_eq_true (show ((s.len + 1 : Nat) : Int) > (s.cap : Int) by omega)) ⟨⟨by omega, by omega, by omega⟩,
      xlet ⟨s.a, k, s.cap⟩ (by rw [view_zero had]; simp) (xlet ((s.len + 1 : Nat) : Int) (by show IntKind.wrap .i64 ((s.len : Int) + 1) = _; rw [wi (by omega) (by omega)]; rfl) (xlet ((s.len + 1 - k : Nat) : Int) (by rw [wi (by omega) (by omega)]; omega) ?_))⟩
    have hrd : Reads w ⟨s.a, k, s.cap⟩ (xs.take k) := by
      intro a ha j u hj
      refine reads_own hs.swap a ha j u ?_
      rw [List.getElem?_take] at hj
      split at hj
      · exact hj
      · cases hj
    refine xgrowN (sz := 1) (n := k) (m := s.len + 1 - k) (vs := xs.take k) (by kernel_rfl) hs hrd (by rw [List.length_take]; omega) (fun h => ?_) rfl (by (try dsimp only); omega) (by omega) ?_
    · have h : s.a = none := h
      rw [h] at hb0; cases hb0
    intro zs s' w1 hz h hl'
    have hcap' := h.own_cap
    refine ⟨⟨by omega, by omega, by omega⟩, xlet0 ?_⟩
    refine xcopy (sz := 1) (s := s') (k := k) (m := 1) (n := 1) (vs := [v]) (by kernel_rfl) h (fun b ha hk => by rw [Int.toNat_natCast]; exact view_ptr ha hk) (by omega) (by (try dsimp only); omega) rfl ?_ ?_ rfl hv1 ?_
    · show 1 = min 1 _; dsimp only; omega
    · exact run_first (s := ⟨some ⟨b, 0, none⟩, 1, 1⟩) (reads_pts (h.bring 1)) rfl (fun h => by cases h) 1 1
    intro w2 h
    refine xlet ((k + 1 : Nat) : Int) (by show IntKind.wrap .i64 ((k : Int) + 1) = _; rw [wi (by omega) (by omega)]; rfl) ⟨⟨by omega, by omega, by omega⟩, xlet0 ⟨⟨by omega, by omega, by omega⟩, xlet0 ?_⟩⟩
    refine xcopy (sz := 1) (s := s') (k := k + 1) (m := s.len - k) (n := s.len - k) (vs := xs.drop k) (by kernel_rfl) h.drew (fun b ha hk => by rw [Int.toNat_natCast]; exact view_ptr ha hk) (by omega) (by (try dsimp only); omega) ?_ ?_ ?_ (by rw [List.length_drop]; omega) hd1 ?_
    · simp [Builtin.lenOf]
    · show _ = min _ _; dsimp only; omega
    · have hr := reads_view ((h.drew).bring 2) (c := s.cap) (k := k) (n := s.len - k) (m := s.cap - k) (fun h => by omega)
      rw [Nat.mul_one] at hr
      have := run_first (P := Tryz.prog) (sz := 1) (n := s.len - k) hr (by rw [List.length_drop]; omega) (fun h => by
        dsimp only at h; rw [if_neg (by omega), hb0] at h; cases h) (s.len - k) (s.cap - k)
      simpa using this
    intro w3 h
    refine hK s' w3 (by omega) ?_
    have e1 : splice (xs.take k ++ zs) (k * 1) [v] = xs.take k ++ [v] ++ zs.drop 1 := splice_at _ _ _ _ (by rw [List.length_take]; omega)
    have e2 : splice (xs.take k ++ [v] ++ zs.drop 1) ((k + 1) * 1) (xs.drop k) = xs.take k ++ [v] ++ xs.drop k := by
      have h3 : (zs.drop 1).drop (xs.drop k).length = [] := List.drop_eq_nil_of_le (by rw [List.length_drop, List.length_drop]; omega)
      rw [splice_at _ _ _ _ (by rw [List.length_append, List.length_take, List.length_singleton]; omega), h3, List.append_nil]
    rw [e1, e2, List.append_assoc, List.singleton_append] at h
    exact (h.swap.drop).swap.drop
  · refine XIf.no (decide_eq_false (show ¬ ((s.len + 1 : Nat) : Int) > (s.cap : Int) by omega)) ?_
    obtain ⟨ys, hys, hst⟩ := hs.swap.own_stretch (s.len + 1) (by omega) (by omega)
    refine xlet ((s.len + 1 : Nat) : Int) (by show IntKind.wrap .i64 ((s.len : Int) + 1) = _; rw [wi (by omega) (by omega)]; rfl) ⟨⟨(by (try dsimp only); omega), (by (try dsimp only); omega), (by (try dsimp only); omega)⟩, xlet ⟨s.a, s.len + 1, s.cap⟩ (by rw [view_zero had]; simp) (xlet ((k + 1 : Nat) : Int) (by show IntKind.wrap .i64 ((k : Int) + 1) = _; rw [wi (by omega) (by omega)]; rfl) ⟨⟨(by (try dsimp only); omega), (by (try dsimp only); omega), (by (try dsimp only); omega)⟩, xlet0 ?_⟩)⟩
    refine xoverlaps (k := k + 1) (sz := 1) Fu.slices_overlaps (by kernel_rfl) (by kernel_rfl) (by kernel_rfl) (by kernel_rfl) (by kernel_rfl) (by omega) hst.swap hfz (fun b hb => by rw [Int.toNat_natCast]; exact view_ptr hb (by (try dsimp only); omega)) (fun h => ?_) (Nat.succ_pos _) ?_
    · have h : s.a = none := h
      rw [h] at hb0; cases hb0
    refine XIf.yes rfl (xlet ((k + 1 : Nat) : Int) (by show IntKind.wrap .i64 ((k : Int) + 1) = _; rw [wi (by omega) (by omega)]; rfl) ⟨⟨(by (try dsimp only); omega), (by (try dsimp only); omega), (by (try dsimp only); omega)⟩, xlet0 ⟨⟨(by (try dsimp only); omega), (by (try dsimp only); omega), (by (try dsimp only); omega)⟩, xlet0 ?_⟩⟩)
    have hrd : (Builtin.firstCells 1 (s.len - k) (.slice (if s.cap = k then s.a else Option.map (fun b => Addr.add b (k * 1)) s.a) (s.len + 1 - k) (s.cap - k))).run Tryz.prog w.drew = .ok ⟨xs.drop k⟩ w.drew := by
      have hr := reads_view ((hs.drew).swap) (c := s.cap) (k := k) (n := s.len - k) (m := s.cap - k) (fun h => by omega)
      rw [Nat.mul_one] at hr
      have := run_first (P := Tryz.prog) (sz := 1) (n := s.len - k) hr (by rw [List.length_drop]; omega) (fun h => by
        dsimp only at h; rw [if_neg (by omega), hb0] at h; cases h) (s.len + 1 - k) (s.cap - k)
      simpa using this
    refine xcopy (sz := 1) (s := ⟨s.a, s.len + 1, s.cap⟩) (k := k + 1) (m := s.len + 1 - k) (n := s.len - k) (vs := xs.drop k) (by kernel_rfl) hst.drew (fun b ha hk => by rw [Int.toNat_natCast]; exact view_ptr ha hk) (by (try dsimp only); omega) (by (try dsimp only); omega) ?_ ?_ ?_ (by rw [List.length_drop]; omega) hd1 ?_
    · simp [Builtin.lenOf]
    · show _ = min _ _; dsimp only; omega
    · simpa using hrd
    intro w2 h
    refine ⟨⟨(by (try dsimp only); omega), (by (try dsimp only); omega), (by (try dsimp only); omega)⟩, xlet0 ?_⟩
    refine xcopy (sz := 1) (s := ⟨s.a, s.len + 1, s.cap⟩) (k := k) (m := 1) (n := 1) (vs := [v]) (by kernel_rfl) h (fun b ha hk => by rw [Int.toNat_natCast]; exact view_ptr ha hk) (by (try dsimp only); omega) (by (try dsimp only); omega) rfl ?_ ?_ rfl hv1 ?_
    · show 1 = min 1 _; dsimp only; omega
    · exact run_first (s := ⟨some ⟨b, 0, none⟩, 1, 1⟩) (reads_pts (h.bring 1)) rfl (fun h => by cases h) 1 1
    intro w3 h
    refine hK ⟨s.a, s.len + 1, s.cap⟩ w3 rfl ?_
    have hxt : xs ++ ys = xs.take (k + 1) ++ (xs.drop (k + 1) ++ ys) := by rw [← List.append_assoc, List.take_append_drop]
    have h1' : splice (xs ++ ys) ((k + 1) * 1) (xs.drop k) = xs.take (k + 1) ++ xs.drop k := by
      have h3 : (xs.drop (k + 1) ++ ys).drop (xs.drop k).length = [] := List.drop_eq_nil_of_le (by rw [List.length_append, List.length_drop, List.length_drop]; omega)
      rw [hxt, splice_at _ _ _ _ (by rw [List.length_take]; omega), h3, List.append_nil]
    have h2' : splice (xs.take (k + 1) ++ xs.drop k) (k * 1) [v] = xs.take k ++ v :: xs.drop k := by
      rw [List.take_succ_eq_append_getElem (by omega), List.append_assoc, splice_at _ _ _ _ (by rw [List.length_take]; omega)]
      simp
    rw [h1', h2'] at h
    exact h.swap.drop

theorem Delete_spec {s : Sl} {xs : List Value} {k : Nat} (hs : Sat W w (own 1 s xs :: L)) (hx1 : allOne xs = true) (hk : k < s.len) (hsz : s.len ≤ 2 ^ 40) :
    Ret Tryz.prog F.slices_Delete [.slice s.a s.len s.cap, .int .i64 k, .int .i64 ((k + 1 : Nat) : Int)] w fun r w' => ∃ s' : Sl, r = .slice s'.a s'.len s'.cap ∧ s'.len = s.len - 1 ∧ Sat W w' (own 1 s' (xs.take k ++ xs.drop (k + 1)) :: L) := by
  suffices H : ∀ K : Value → World → Prop, (∀ (s' : Sl) w', s'.len = s.len - 1 → Sat W w' (own 1 s' (xs.take k ++ xs.drop (k + 1)) :: L) → K (.slice s'.a s'.len s'.cap) w') → S.slices_Delete s k ((k + 1 : Nat) : Int) K w from S.slices_Delete_ok s _ _ _ _ (H _ fun s' _ h1 h2 => ⟨s', rfl, h1, h2⟩)
  intro K hK
  have hxl : xs.length = s.len := by have := hs.own_len; omega
  have hcap := hs.own_cap
  have had := hs.own_addr
  obtain ⟨b0, hb0⟩ : ∃ b0, s.a = some ⟨b0, 0, none⟩ := ⟨_, (hs.own_some (by omega)).choose_spec.1⟩
  have hd1 : allOne (xs.drop (k + 1)) = true := allOne_of fun v hv => oneCell_of_allOne hx1 v (List.mem_of_mem_drop hv)
  refine ⟨⟨by omega, by omega, by omega⟩, xlet0 (XIf.no (by simp; omega) ⟨⟨by omega, by omega, by omega⟩, xlet ⟨s.a, k, s.cap⟩ (by rw [view_zero had]; simp) ⟨⟨by omega, by omega, by omega⟩, xlet ⟨if s.cap = k + 1 then s.a else Option.map (fun b => Addr.add b ((k + 1) * 1)) s.a, s.len - (k + 1), s.cap - (k + 1)⟩ (by simp) ?_⟩⟩)⟩
  have hr := reads_view (hs.drew) (c := s.cap) (k := k + 1) (n := s.len - (k + 1)) (m := s.cap - (k + 1)) (fun h => by omega)
  have h := (hs.drew).own_shrink k (by omega)
  rw [Nat.mul_one] at h
  refine xappendR (s := ⟨s.a, k, s.cap⟩) (by kernel_rfl) h hr (by rw [List.length_drop]; dsimp only; omega) (fun h => ?_) (by rw [Nat.mul_one]; exact hd1) (by (try dsimp only); omega) ?_
  · dsimp only at h
    rw [hb0] at h
    split at h
    · cases h
    · cases h
  intro w' h
  rw [Nat.mul_one] at h
  refine ⟨⟨(by (try dsimp only); omega), (by (try dsimp only); omega), (by (try dsimp only); omega)⟩, xlet0 (xclear (s := ⟨s.a, k + (s.len - (k + 1)), s.cap⟩) (by kernel_rfl) (by omega) h (fun b hb hlt => ?_) (by (try dsimp only); omega) fun w' h => hK ⟨s.a, k + (s.len - (k + 1)), s.cap⟩ w' (by (try dsimp only); omega) h)⟩
  rw [Int.toNat_natCast]
  exact view_ptr hb hlt

end
end Go.X
