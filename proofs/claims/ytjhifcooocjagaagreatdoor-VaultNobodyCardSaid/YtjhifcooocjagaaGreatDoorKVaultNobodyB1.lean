/- Texts joined: DMore, DRemove, DRename, DCopy, DFit, XBuild, XMaps, WMarks, XStrs, WBase, VCode, VRead, VPlain, VState, VNum, VIs, VMem. -/
import Derived.Test.YtjhifcooocjagaaGreatDoorKVaultNobodyB0
import Derived.Lib.UnsafeStr
import Derived.Lib.Builder
import Derived.Lib.MakeNoZero
import Derived.MapKept
import Derived.WalkKit
import Derived.LaidEql
import Derived.Stop.Asserts
import Derived.Stop.IfaceNil
import Derived.Lib.IfaceEq
import Derived.RowKitTokens
import Derived.Shelf.Abstract
set_option linter.unusedVariables false
set_option linter.unusedSimpArgs false
set_option linter.unnecessarySimpa false

/-! The device's call Remove, and what it asks of the library. -/
namespace Go.X
open Go.Proofs

section
variable {W w : World} {L : List SP}

/-- Writing an element of several cells. -/
theorem xputs {sz : Nat} {s : Sl} {xs vs : List Value} {i : Int} {n : Nat} {K : Addr → World → Prop} (hs : Sat W w (own sz s xs :: L)) (k : Nat) (hi : i = k) (hlt : k < s.len) (hn : n = k * sz) (hl : vs.length = sz)
    (hk : ∀ a w', Sat W w' (own sz s (splice xs (k * sz) vs) :: L) → K a w') : XNil s.a fun a => ((0 : Int) ≤ i ∧ i < ((s.len : Nat) : Int)) ∧ XStores (Addr.add a n) 0 vs w (K a) := by
  rcases hs.open_own with ⟨_, h0, _⟩ | ⟨b, rest, ha, hlen, hc, hlc, hs'⟩
  · omega
  · rw [ha]
    have hfit : k * sz + vs.length ≤ xs.length := by rw [hl, hlen, ← Nat.succ_mul]; exact Nat.mul_le_mul_right _ hlt
    refine ⟨by omega, ?_⟩
    show XStores (Addr.add ⟨b, 0, none⟩ n) 0 vs w _
    rw [Addr.add_mk, Nat.zero_add, hn]
    refine xstores vs 0 w _ hs' (by rw [Nat.add_zero, List.length_append]; omega) fun w' h => hk _ w' ?_
    rw [Nat.add_zero] at h
    have hsp : splice (xs ++ rest) (k * sz) vs = splice xs (k * sz) vs ++ rest := by
      unfold splice
      rw [List.take_append_of_le_length (by omega), List.drop_append_of_le_length (by omega)]
      simp
    rw [hsp] at h
    refine Sat.shut_own ha ?_ ?_ hlc h
    · rw [splice_length hfit, hlen]
    · rw [List.length_append, splice_length hfit, ← List.length_append, hc]

theorem flat_set : ∀ (l : List DW) (k : Nat) (p : DW), k < l.length → splice (l.flatMap wcells) (k * 4) (wcells p) = (l.set k p).flatMap wcells
  | q :: l, 0, p, _ => by
    rw [List.flatMap_cons, Nat.zero_mul, List.set_cons_zero, List.flatMap_cons]
    unfold splice
    simp [wcells]
  | q :: l, k + 1, p, h => by
    have ih := flat_set l k p (by simpa using h)
    rw [List.flatMap_cons, List.set_cons_succ, List.flatMap_cons, ← ih]
    have hq : (wcells q).length = 4 := by simp [wcells]
    unfold splice
    rw [List.take_append, List.drop_append, hq, List.take_of_length_le (by rw [hq]; omega), List.drop_eq_nil_of_le (by rw [hq]; simp [wcells])]
    have e1 : (k + 1) * 4 - 4 = k * 4 := by omega
    have e2 : (k + 1) * 4 + (wcells p).length - 4 = k * 4 + (wcells p).length := by omega
    rw [e1, e2]
    simp

/-- A piece's own bytes in the words' form. -/
theorem wcells_eq (p : DW) : wcells p = [.int .i64 p.id, .int .i64 ((p.at_ / 64 : Nat) : Int), .int .i64 ((p.at_ % 64 : Nat) : Int), .string ⟨p.text.toArray⟩] := rfl

/-- Which pieces a call drops: the callee tells. -/
theorem IndexFunc_spec {A : SP} {s : Sl} {ps : List DW} {cap : Value} {c : DW → Bool} {g : FuncId} (hb : hasBody Tryz.prog g = true) (hs : Sat W w (own 4 s (ps.flatMap wcells) :: A :: L)) (hn : s.len ≤ 2 ^ 40)
    (hc : ∀ p w, Sat W w (own 4 s (ps.flatMap wcells) :: A :: L) → Ret Tryz.prog g [.agg ⟨wcells p⟩, cap] w fun v w' => v = .bool (c p) ∧ Sat W w' (own 4 s (ps.flatMap wcells) :: A :: L)) :
    Ret Tryz.prog F.slices_IndexFunc [.slice s.a s.len s.cap, .func (.func g) ⟨[]⟩ ⟨[cap]⟩] w fun v w' => Sat W w' (own 4 s (ps.flatMap wcells) :: A :: L) ∧
      ((v = .int .i64 (-1) ∧ ∀ p ∈ ps, c p = false) ∨ ∃ k : Nat, v = .int .i64 k ∧ k < ps.length ∧ (∀ i p, i < k → ps[i]? = some p → c p = false) ∧ ∀ p, ps[k]? = some p → c p = true) := by
  refine S.slices_IndexFunc_ok s _ _ _ ?_
  have hlen : ps.length = s.len := by have := hs.own_len; rw [wcells_len] at this; omega
  have call : ∀ (p : DW) (w : World) (K : Bool → World → Prop), Sat W w (own 4 s (ps.flatMap wcells) :: A :: L) → (∀ w', Sat W w' (own 4 s (ps.flatMap wcells) :: A :: L) → K (c p) w') →
      XCallV Tryz.prog (.func (.func g) ⟨[]⟩ ⟨[cap]⟩) [.agg ⟨wcells p⟩] (.leaf .bool) w K := by
    intro p w K h hk
    unfold XCallV
    simp only [hb, List.nil_append, List.singleton_append]
    exact xcall (t := .leaf .bool) (hc p w h) fun v w' ⟨e, h⟩ => ⟨c p, e, hk w' h⟩
  refine xloop (fun (st : Int × Int × Unit) w => ∃ i : Nat, st = (0, (i : Int), ()) ∧ i ≤ ps.length ∧ (∀ j p, j < i → ps[j]? = some p → c p = false) ∧ Sat W w (own 4 s (ps.flatMap wcells) :: A :: L))
    (fun st => ((s.len : Int) - st.2.1).toNat) ⟨0, rfl, Nat.zero_le _, fun j p h => by omega, hs⟩ ?_
  rintro next _ w ⟨i, rfl, hi, hno, h⟩ hnext
  by_cases hlt : i < ps.length
  · obtain ⟨p, hp⟩ : ∃ p, ps[i]? = some p := ⟨_, List.getElem?_eq_getElem hlt⟩
    obtain ⟨a, ha, hcell⟩ := h.own_some (by omega)
    refine XIf.yes (decide_eq_true (show (i : Int) < (s.len : Int) by omega)) ?_
    rw [ha]
    refine xnil ⟨⟨by show (0 : Int) ≤ (i : Int); omega, by show (i : Int) < (s.len : Int); omega⟩, xloads (p.id, ((p.at_ / 64 : Nat) : Int), ((p.at_ % 64 : Nat) : Int), (⟨p.text.toArray⟩ : ByteArray), ()) (fun j v hv => ?_) (call p w _ h fun w' h' => ?_)⟩
    · rw [Int.toNat_natCast, Addr.add_mk, Addr.add_mk, Nat.zero_add]
      exact hcell _ _ (flat_get ps i j p v hp hv)
    · cases hcp : c p with
      | true => exact XIf.yes rfl ⟨h', .inr ⟨i, rfl, hlt, hno, fun q hq => by rw [hp] at hq; cases hq; exact hcp⟩⟩
      | false =>
        refine XIf.no rfl (xlet ((i + 1 : Nat) : Int) (by dsimp only; rw [wi (by omega) (by omega)]; omega) (hnext _ _ ⟨i + 1, rfl, hlt, fun j q hj hq => ?_, h'⟩ (by dsimp only; omega)))
        by_cases hji : j < i
        · exact hno j q hji hq
        · have : j = i := by omega
          subst this
          rw [hp] at hq; cases hq; exact hcp
  · refine XIf.no (decide_eq_false (show ¬ (i : Int) < (s.len : Int) by omega)) ⟨h, .inl ⟨rfl, fun p hp => ?_⟩⟩
    obtain ⟨j, hj⟩ := List.getElem?_of_mem hp
    exact hno j p (by have := (List.getElem?_eq_some_iff.1 hj).1; omega) hj

theorem filter_none {α : Type} {c : α → Bool} : ∀ {l : List α}, (∀ p ∈ l, c p = false) → l.filter (fun p => !c p) = l
  | [], _ => rfl
  | p :: l, h => by
    rw [List.filter_cons, h p List.mem_cons_self]
    simp only [Bool.not_false, if_true]
    rw [filter_none fun q hq => h q (List.mem_cons_of_mem _ hq)]

theorem filter_snoc {α : Type} (c : α → Bool) (l : List α) (k : Nat) (p : α) (h : l[k]? = some p) : (l.take (k + 1)).filter c = (l.take k).filter c ++ (if c p then [p] else []) := by
  rw [List.take_add_one, h, List.filter_append]
  congr 1
  cases hc : c p <;> simp [hc]

theorem set_take {α : Type} (l : List α) (k : Nat) (p : α) (h : k < l.length) : (l.set k p).take (k + 1) = l.take k ++ [p] := by
  rw [List.take_succ_eq_append_getElem (by simpa using h), List.take_set_of_le (Nat.le_refl _), List.getElem_set_self]

theorem flat_take : ∀ (l : List DW) (k : Nat), (l.flatMap wcells).take (k * 4) = (l.take k).flatMap wcells
  | [], k => by simp
  | p :: l, 0 => by simp
  | p :: l, k + 1 => by
    rw [List.flatMap_cons, List.take_succ_cons, List.flatMap_cons, ← flat_take l k, List.take_append]
    have hq : (wcells p).length = 4 := by simp [wcells]
    rw [hq, List.take_of_length_le (by rw [hq]; omega), show (k + 1) * 4 - 4 = k * 4 by omega]

theorem DeleteFunc_spec {A : SP} {s : Sl} {ps : List DW} {cap : Value} {c : DW → Bool} {g : FuncId} (hb : hasBody Tryz.prog g = true) (hs : Sat W w (own 4 s (ps.flatMap wcells) :: A :: L)) (hn : s.len ≤ 2 ^ 40)
    (hc : ∀ (qs : List DW) p w L, Sat W w (own 4 s (qs.flatMap wcells) :: A :: L) → Ret Tryz.prog g [.agg ⟨wcells p⟩, cap] w fun v w' => v = .bool (c p) ∧ Sat W w' (own 4 s (qs.flatMap wcells) :: A :: L)) :
    Ret Tryz.prog F.slices_DeleteFunc [.slice s.a s.len s.cap, .func (.func g) ⟨[]⟩ ⟨[cap]⟩] w fun v w' => ∃ s' : Sl, v = .slice s'.a s'.len s'.cap ∧ Sat W w' (own 4 s' ((ps.filter fun p => !c p).flatMap wcells) :: A :: L) := by
  suffices H : ∀ K : Value → World → Prop, (∀ (s' : Sl) w', Sat W w' (own 4 s' ((ps.filter fun p => !c p).flatMap wcells) :: A :: L) → K (.slice s'.a s'.len s'.cap) w') → S.slices_DeleteFunc s (.func (.func g) ⟨[]⟩ ⟨[cap]⟩) K w from
    S.slices_DeleteFunc_ok s _ _ _ (H _ fun s' _ h => ⟨s', rfl, h⟩)
  intro K hK
  have hlen : ps.length = s.len := by have := hs.own_len; rw [wcells_len] at this; omega
  have call : ∀ (qs : List DW) (p : DW) (w : World) (L : List SP) (K : Bool → World → Prop), Sat W w (own 4 s (qs.flatMap wcells) :: A :: L) → (∀ w', Sat W w' (own 4 s (qs.flatMap wcells) :: A :: L) → K (c p) w') →
      XCallV Tryz.prog (.func (.func g) ⟨[]⟩ ⟨[cap]⟩) [.agg ⟨wcells p⟩] (.leaf .bool) w K := by
    intro qs p w L K h hk
    unfold XCallV
    simp only [hb, List.nil_append, List.singleton_append]
    exact xcall (t := .leaf .bool) (hc qs p w L h) fun v w' ⟨e, h⟩ => ⟨c p, e, hk w' h⟩
  refine xcall (IndexFunc_spec (c := c) hb hs hn fun p w h => hc ps p w L h) ?_
  rintro v w1 ⟨h1, hcase⟩
  rcases hcase with ⟨rfl, hno⟩ | ⟨k, rfl, hk, hno, hyes⟩
  · refine ⟨(-1 : Int), rfl, XIf.yes rfl (hK s w1 ?_)⟩
    rw [filter_none hno]
    exact h1
  obtain ⟨p0, hp0⟩ : ∃ p, ps[k]? = some p := ⟨_, List.getElem?_eq_getElem hk⟩
  have hk0 : (ps.take k).filter (fun p => !c p) = ps.take k := filter_none fun p hp => by
    obtain ⟨j, hj⟩ := List.getElem?_of_mem hp
    have hjk := (List.getElem?_eq_some_iff.1 hj).1
    rw [List.length_take] at hjk
    rw [List.getElem?_take_of_lt (by omega)] at hj
    exact hno j p (by omega) hj
  refine ⟨(k : Int), rfl, XIf.no (by simp) (xlet ((k + 1 : Nat) : Int) (by rw [wi (by omega) (by omega)]; omega) ?_)⟩
  refine xloop (fun (st : Int × Int × Unit) w => ∃ (i j : Nat) (qs : List DW), st = ((i : Int), (j : Int), ()) ∧ i < j ∧ j ≤ ps.length ∧ qs.length = ps.length ∧ qs.take i = (ps.take j).filter (fun p => !c p) ∧ qs.drop j = ps.drop j ∧
      Sat W w (own 4 s (qs.flatMap wcells) :: A :: L))
    (fun st => ((s.len : Int) - st.2.1).toNat) ⟨k, k + 1, ps, rfl, by omega, hk, rfl, ?_, rfl, h1⟩ ?_
  · rw [filter_snoc _ ps k p0 hp0, hk0, hyes p0 hp0]
    simp
  rintro next _ w ⟨i, j, qs, rfl, hij, hj, hql, htake, hdrop, h⟩ hnext
  by_cases hlt : j < ps.length
  · obtain ⟨p, hp⟩ : ∃ p, ps[j]? = some p := ⟨_, List.getElem?_eq_getElem hlt⟩
    have hqp : qs[j]? = some p := by
      have := congrArg (·[0]?) hdrop
      simp only [List.getElem?_drop, Nat.add_zero] at this
      rw [this, hp]
    have hdrop' : qs.drop (j + 1) = ps.drop (j + 1) := by
      have := congrArg (List.drop 1) hdrop
      simpa [List.drop_drop] using this
    refine XIf.yes (decide_eq_true (show (j : Int) < (s.len : Int) by omega)) (xjoin (fun (st : Int × Unit) w' => ∃ (i' : Nat) (qs' : List DW), st = ((i' : Int), ()) ∧ i' < j + 1 ∧ qs'.length = ps.length ∧ qs'.take i' = (ps.take (j + 1)).filter (fun p => !c p) ∧ qs'.drop (j + 1) = ps.drop (j + 1) ∧
      Sat W w' (own 4 s (qs'.flatMap wcells) :: A :: L)) (fun J hJ => ?_) ?_)
    case refine_2 =>
      rintro _ w' ⟨i', qs', rfl, h2, h3, h4, h5, h6⟩
      exact xlet ((j + 1 : Nat) : Int) (by dsimp only; rw [wi (by omega) (by omega)]; omega) (hnext _ _ ⟨i', j + 1, qs', rfl, h2, hlt, h3, h4, h5, h6⟩ (by dsimp only; omega))
    obtain ⟨a, ha, hcell⟩ := h.own_some (by omega)
    refine (show XNil s.a _ from ?_)
    rw [ha]
    refine xnil ⟨⟨by show (0 : Int) ≤ (j : Int); omega, by show (j : Int) < (s.len : Int); omega⟩, xloads (p.id, ((p.at_ / 64 : Nat) : Int), ((p.at_ % 64 : Nat) : Int), (⟨p.text.toArray⟩ : ByteArray), ()) (fun m v hv => ?_) (xnew h fun b w2 h2 => ?_)⟩
    · rw [Int.toNat_natCast, Addr.add_mk, Addr.add_mk, Nat.zero_add]
      exact hcell _ _ (flat_get qs j m p v hqp hv)
    refine xstores (wcells p) 0 w2 _ h2 (by simp [wcells]) fun w3 h3 => ?_
    have h3 : Sat W w3 (pts b (wcells p) :: own 4 s (qs.flatMap wcells) :: A :: L) := h3
    refine xloads (p.id, ((p.at_ / 64 : Nat) : Int), ((p.at_ % 64 : Nat) : Int), (⟨p.text.toArray⟩ : ByteArray), ()) (fun m v hv => by rw [Addr.add_mk, Nat.zero_add]; exact h3.cell hv) ?_
    have h4 : Sat W w3 (own 4 s (qs.flatMap wcells) :: A :: pts b (wcells p) :: L) := h3.arr [1, 2, 0]
    refine call qs p w3 _ _ h4 fun w4 h5 => ?_
    cases hcp : c p with
    | true =>
      refine XIf.no rfl (hJ _ _ ⟨i, qs, rfl, by omega, hql, ?_, hdrop', (h5.bring 2).drop⟩)
      rw [filter_snoc _ ps j p hp, htake, hcp]
      simp
    | false =>
      have hil : i < qs.length := by omega
      refine XIf.yes rfl (xloads (p.id, ((p.at_ / 64 : Nat) : Int), ((p.at_ % 64 : Nat) : Int), (⟨p.text.toArray⟩ : ByteArray), ()) (fun m v hv => by rw [Addr.add_mk, Nat.zero_add]; exact (h5.bring 2).cell hv) ?_)
      rw [← ha]
      refine xputs h5 i rfl (by omega) (by rw [Int.toNat_natCast]) (vs := wcells p) (by simp [wcells]) fun a w5 h6 => xlet ((i + 1 : Nat) : Int) (by dsimp only; rw [wi (by omega) (by omega)]; omega) (hJ _ _ ⟨i + 1, qs.set i p, rfl, by omega, by rw [List.length_set, hql], ?_, ?_, ?_⟩)
      · rw [set_take qs i p hil, htake, filter_snoc _ ps j p hp, hcp]
        simp
      · rw [List.drop_set_of_lt (by omega)]
        exact hdrop'
      · rw [flat_set qs i p hil] at h6
        exact (h6.bring 2).drop
  · -- what is left is cleared
    have hjl : j = ps.length := by omega
    have hil : i ≤ s.len := by omega
    have hcap := h.own_cap
    have had := h.own_addr
    refine XIf.no (decide_eq_false (show ¬ (j : Int) < (s.len : Int) by omega)) ⟨⟨by omega, by show (0 : Int) ≤ (i : Int); omega, by show (i : Int) ≤ (s.len : Int); omega⟩, xlet0 ?_⟩
    have h2 := h.own_shrink i hil
    refine xclear (s := ⟨s.a, i, s.cap⟩) (by kernel_rfl) (by omega) h2 (fun b hb hlt => ?_) (by (try dsimp only); omega) fun w5 h3 => ⟨⟨by show (0 : Int) ≤ (i : Int) ∧ (i : Int) ≤ (s.cap : Int); omega, by omega, by show (0 : Int) ≤ (i : Int); omega⟩, xlet ⟨s.a, i, s.cap⟩ (by rw [view_zero had]; simp) (hK ⟨s.a, i, s.cap⟩ w5 ?_)⟩
    · dsimp only
      rw [Int.toNat_natCast]
      exact view_ptr hb hlt
    · have e : (qs.flatMap wcells).take (i * 4) = (qs.take i).flatMap wcells := flat_take qs i
      rw [e, htake, hjl, List.take_of_length_le (Nat.le_refl _)] at h3
      exact h3

end
end Go.X

/-! The device's calls Remove, Rename, List. -/
namespace Go.X
open Go.Proofs

section
variable {W w : World} {L : List SP} {d : Nat} {D : DD}

/-- The device without the first file behind a name. -/
def DD.without (D : DD) (name : ByteArray) : List DF := ahead name D.files ++ (behind name D.files).tail

def headId : List DF → Int
  | f :: _ => f.id
  | [] => 0

def DD.remove (D : DD) (name : ByteArray) : Int × DD :=
  if D.off then (14, D) else if isHead name (behind name D.files) = false then (8, D)
  else (0, { D with files := D.without name, wait := D.wait.filter fun p => !(p.id == headId (behind name D.files)) })

theorem Remove_1_spec {p : DW} {q g : Nat} {id : Int} {rest : List Value} (hs : Sat W w (pts q [ptr g] :: pts g (.int .i64 id :: rest) :: L)) :
    Ret Tryz.prog F.disk_Disk_Remove_1 [.agg ⟨wcells p⟩, .pointer (some ⟨q, 0, none⟩)] w fun v w' => v = .bool (p.id == id) ∧ Sat W w' (pts q [ptr g] :: pts g (.int .i64 id :: rest) :: L) := by
  refine S.disk_Disk_Remove_1_ok (p.id, ((p.at_ / 64 : Nat) : Int), ((p.at_ % 64 : Nat) : Int), (⟨p.text.toArray⟩ : ByteArray), ()) _ _ _ (xnew hs fun b w1 h1 => ?_)
  refine xload h1.drew 0 rfl rfl (xload (h1.drew.bring 1) 0 rfl (x := some ⟨g, 0, none⟩) rfl (xnil (xload (h1.drew.bring 2) 0 rfl rfl ⟨rfl, h1.drew.drop⟩)))

theorem Sat.under_all {A : SP} {As L : List SP} (hs : Sat W w (A :: (As ++ L))) : Sat W w (A :: all As :: L) := hs.of_star fun _ s => star_mono (fun h s => star_unall As L h s) s
theorem Sat.under_open {A : SP} {As L : List SP} (hs : Sat W w (A :: all As :: L)) : Sat W w (A :: (As ++ L)) := hs.of_star fun _ s => star_mono (fun h s => star_all As L h s) s

theorem ptrs_map (l : List (Nat × DF)) : l.map (fun x => ptr x.1) = (l.map (·.1)).map ptr := by rw [List.map_map]; rfl

/-- The files' pointers at a file's place. -/
theorem mid_get (l1 l2 : List (Nat × DF)) (x : Nat × DF) : ((l1 ++ x :: l2).map fun x => ptr x.1)[l1.length]? = some (ptr x.1) := by simp

theorem mid_del (l1 l2 : List (Nat × DF)) (x : Nat × DF) : ((l1 ++ x :: l2).map fun x => ptr x.1).take l1.length ++ ((l1 ++ x :: l2).map fun x => ptr x.1).drop (l1.length + 1) = (l1 ++ l2).map fun x => ptr x.1 := by
  have e1 : ((l1 ++ x :: l2).map fun x => ptr x.1) = (l1.map fun x => ptr x.1) ++ (ptr x.1 :: l2.map fun x => ptr x.1) := by simp
  have hl : l1.length = (l1.map fun x => ptr x.1).length := by simp
  rw [e1, hl, List.take_left, List.drop_append, List.drop_eq_nil_of_le (by omega), Nat.add_sub_cancel_left]
  simp

/-- A file that is there: its place. -/
theorem file_mid {name : ByteArray} {l : List (Nat × DF)} (hl : l.map (·.2) = D.files) (hh : isHead name (behind name D.files) = true) :
    ∃ l1 p f l2, l = l1 ++ (p, f) :: l2 ∧ l1.map (·.2) = ahead name D.files ∧ f :: l2.map (·.2) = behind name D.files ∧ l1.length = (ahead name D.files).length := by
  cases hb : behind name D.files with
  | nil => rw [hb] at hh; cases hh
  | cons f r =>
    have hD : l.map (·.2) = ahead name D.files ++ f :: r := by rw [hl, ← hb]; exact (ahead_behind name D.files).symm
    obtain ⟨l1, l3, rfl, h1, h3⟩ := List.map_eq_append_iff.1 hD
    obtain ⟨x, l2, rfl, h4, h5⟩ := List.map_eq_cons_iff.1 h3
    obtain ⟨p, f'⟩ := x
    subst h4
    exact ⟨l1, p, f', l2, rfl, h1, by rw [h5], by rw [← h1, List.length_map]⟩

theorem Remove_spec {name : ByteArray} (hs : Sat W w (DiskP d D :: L)) (hr : Rising D.files) (hn : D.files.length ≤ 2 ^ 30) (hw : D.wait.length ≤ 2 ^ 38) :
    Ret Tryz.prog F.disk_Disk_Remove [ptr d, .string name] w fun v w' => v = .int .i64 (D.remove name).1 ∧ Sat W w' (DiskP d (D.remove name).2 :: L) := by
  suffices H : ∀ K : Value → World → Prop, (∀ v w', v = .int .i64 (D.remove name).1 ∧ Sat W w' (DiskP d (D.remove name).2 :: L) → K v w') → S.disk_Disk_Remove (some ⟨d, 0, none⟩) name K w from S.disk_Disk_Remove_ok _ _ _ _ (H _ fun _ _ h => h)
  intro K hK
  refine xcall (ready_spec hs) ?_
  rintro v w1 ⟨rfl, hq1⟩
  refine ⟨_, rfl, ?_⟩
  have hs1 := hs.quiet hq1
  by_cases hoff : D.off = true
  · have : D.remove name = (14, D) := by unfold DD.remove; rw [if_pos hoff]
    rw [this] at hK
    exact XIf.yes (off_yes hoff) (hK _ _ ⟨by rw [off_14 hoff], hs1⟩)
  have hoff' : D.off = false := by simpa using hoff
  refine XIf.no (off_no hoff') (xcalls (place_spec (name := name) hs1 hr (by omega)) ?_)
  rintro v w3 ⟨rfl, hq3⟩
  refine ⟨(_, _, ()), rfl, ?_⟩
  have hs3 := hs1.quiet hq3
  cases hh : isHead name (behind name D.files) with
  | false =>
    have : D.remove name = (8, D) := by unfold DD.remove; rw [if_neg hoff, if_pos hh]
    rw [this] at hK
    exact XIf.yes (by show (!isHead name (behind name D.files)) = true; rw [hh]; rfl) (hK _ _ ⟨rfl, hs3⟩)
  | true =>
    have hrm : D.remove name = (0, { D with files := D.without name, wait := D.wait.filter fun p => !(p.id == headId (behind name D.files)) }) := by
      unfold DD.remove; rw [if_neg hoff, if_neg (by rw [hh]; simp)]
    rw [hrm] at hK
    refine XIf.no (by show (!isHead name (behind name D.files)) = false; rw [hh]; rfl) (xnil ?_)
    obtain ⟨l, fs, ws, hl, h⟩ := DiskP.open hs3
    obtain ⟨l1, p, f, l2, rfl, e1, e2, e3⟩ := file_mid hl hh
    have hlen : (l1 ++ (p, f) :: l2).length = D.files.length := by rw [← hl, List.length_map]
    have hfl : fs.len = (l1 ++ (p, f) :: l2).length := by have := (h.bring 1).own_len; simp at this; simp; omega
    have hk : l1.length < fs.len := by rw [hfl]; simp
    have hwl : ws.len = D.wait.length := by have := (h.bring 3).own_len; rw [wcells_len] at this; omega
    refine xload h 0 rfl rfl (xelem (h.bring 1) l1.length (by rw [e3]) (x := some ⟨p, 0, none⟩) (by simp [readL, ptr, Leaf.un]) (by rw [e3]; simp) fun a => ?_)
    refine xnew h fun q w4 h4 => xstore h4 0 rfl (by simp) fun w5 h5 => xnil (xload (h5.bring 1) 0 rfl rfl (xlet ((l1.length + 1 : Nat) : Int) (by show IntKind.wrap .i64 (((ahead name D.files).length : Int) + 1) = _; rw [← e3, wi (by omega) (by omega)]; omega) ?_))
    have h6 : Sat W w5 (own 1 fs ((l1 ++ (p, f) :: l2).map fun x => ptr x.1) :: pts q [ptr p] :: pts d [.slice fs.a fs.len fs.cap, .slice ws.a ws.len ws.cap, .int .i64 D.most, .int .i64 D.fuse, .bool D.off, .int .i64 D.count, .int .i64 D.made] ::
        FilesP (l1 ++ (p, f) :: l2) :: own 4 ws (D.wait.flatMap wcells) :: L) := h5.arr [2, 0, 1, 3, 4]
    have hdel := Delete_spec (k := l1.length) h6 (by rw [ptrs_map]; exact allOne_ptrs _) hk (by omega)
    rw [← e3]
    refine xcall hdel ?_
    rintro v w6 ⟨s', rfl, hsl, h7⟩
    rw [mid_del] at h7
    refine ⟨s', rfl, xnil (xstore (h7.bring 2) 0 rfl (by simp) fun w7 h8 => xnil (xload h8 1 rfl rfl ?_))⟩
    -- the pieces
    obtain ⟨ls, ss, h9⟩ := FileP.open (FilesP.take (h8.bring 3))
    have h10 : Sat W w7 (own 4 ws (D.wait.flatMap wcells) :: pts q [ptr p] :: pts p [.int .i64 f.id, .string f.name, .slice ls.a ls.len ls.cap, .slice ss.a ss.len ss.cap] ::
        FilesP (l1 ++ l2) :: pts d [.slice s'.a s'.len s'.cap, .slice ws.a ws.len ws.cap, .int .i64 D.most, .int .i64 D.fuse, .bool D.off, .int .i64 D.count, .int .i64 D.made] :: own 1 s' ((l1 ++ l2).map fun x => ptr x.1) :: own 1 ls (bcells f.last) :: own 1 ss (bcells f.seen) :: L) := h9.arr [7, 6, 0, 3, 4, 5]
    have h11 := Sat.under_all (As := [pts q [ptr p], pts p [.int .i64 f.id, .string f.name, .slice ls.a ls.len ls.cap, .slice ss.a ss.len ss.cap]]) h10
    refine xcall (DeleteFunc_spec (c := fun x => x.id == f.id) (by kernel_rfl) h11 (by (try dsimp only); omega) (fun qs x w L h => ?_)) ?_
    · have h := Sat.under_open h
      have h' := h.arr [1, 2, 0]
      refine (Remove_1_spec (p := x) h').mono ?_
      rintro v w' ⟨rfl, h⟩
      exact ⟨rfl, Sat.under_all (As := [_, _]) (h.arr [2, 0, 1])⟩
    rintro v w8 ⟨s2, rfl, h12⟩
    refine ⟨s2, rfl, xnil (xstore (h12.bring 3) 1 rfl (by simp) fun w9 h13 => hK _ _ ⟨rfl, ?_⟩)⟩
    have h14 : Sat W w9 (pts d [.slice s'.a s'.len s'.cap, .slice s2.a s2.len s2.cap, .int .i64 D.most, .int .i64 D.fuse, .bool D.off, .int .i64 D.count, .int .i64 D.made] :: own 4 s2 ((D.wait.filter fun x => !(x.id == f.id)).flatMap wcells) ::
        all [pts q [ptr p], pts p [.int .i64 f.id, .string f.name, .slice ls.a ls.len ls.cap, .slice ss.a ss.len ss.cap]] :: FilesP (l1 ++ l2) :: own 1 s' ((l1 ++ l2).map fun x => ptr x.1) :: own 1 ls (bcells f.last) :: own 1 ss (bcells f.seen) :: L) := h13
    have hid : headId (behind name D.files) = f.id := by rw [← e2]; rfl
    rw [hid]
    refine DiskP.shut (D := { D with files := D.without name, wait := D.wait.filter fun x => !(x.id == f.id) }) (l := l1 ++ l2) (fs := s') (ws := s2) ?_ ?_
    · rw [List.map_append, e1]
      show _ = ahead name D.files ++ (behind name D.files).tail
      rw [← e2]
      rfl
    · have h15 := h14.arr [0, 4, 3, 1, 5, 6, 2]
      exact (h15.arr [4, 5, 6, 0, 1, 2, 3]).drop.drop.drop

end
end Go.X

/-! The device's calls Rename and List. -/
namespace Go.X
open Go.Proofs

section
variable {W w : World} {L : List SP} {d : Nat} {D : DD}

def renamed (f : DF) (to : ByteArray) : DF := { f with name := to }

def DD.rename (D : DD) (fr to : ByteArray) : Int × DD :=
  if D.off then (14, D) else if nameB to = false then (1, D) else
  match behind fr D.files with
  | [] => (8, D)
  | f :: _ =>
    if cmpS f.name fr ≠ 0 then (8, D) else if isHead to (behind to D.files) then (9, D)
    else (0, { D with files := ahead to (D.without fr) ++ renamed f to :: behind to (D.without fr) })

theorem rising_drop {A B : List DF} {f : DF} (h : Rising (A ++ f :: B)) : Rising (A ++ B) := by
  induction A with
  | nil => exact h.2
  | cons a A ih =>
    refine ⟨fun x hx => h.1 x ?_, ih h.2⟩
    rcases List.mem_append.1 hx with hx | hx
    · exact List.mem_append_left _ hx
    · simp [hx]

theorem ins_map (l1 l2 : List (Nat × DF)) (x : Nat × DF) (k : Nat) (hk : l1.length = k) : (((l1 ++ l2).map fun x => ptr x.1).take k) ++ ptr x.1 :: (((l1 ++ l2).map fun x => ptr x.1).drop k) = (l1 ++ x :: l2).map fun x => ptr x.1 := by
  have hl : k = (l1.map fun x => ptr x.1).length := by simp [hk]
  rw [List.map_append, hl, List.take_left, List.drop_left]
  simp


/-! ### List -/

theorem List_spec (hs : Sat W w (DiskP d D :: L)) (hn : D.files.length ≤ 2 ^ 30) :
    Ret Tryz.prog F.disk_Disk_List [ptr d] w fun v w' => (D.off = true → v = .tuple ⟨[.slice none 0 0, .int .i64 14]⟩ ∧ Sat W w' (DiskP d D :: L)) ∧
      (D.off = false → ∃ s : Sl, v = .tuple ⟨[.slice s.a s.len s.cap, .int .i64 0]⟩ ∧ Sat W w' (own 1 s (D.names.map Value.string) :: DiskP d D :: L)) := by
  refine S.disk_Disk_List_ok _ _ _ (xcall (ready_spec hs) ?_)
  rintro v w1 ⟨rfl, hq1⟩
  refine ⟨_, rfl, ?_⟩
  have hs1 := hs.quiet hq1
  by_cases hoff : D.off = true
  · exact XIf.yes (off_yes hoff) ⟨fun _ => ⟨by rw [off_14 hoff], hs1⟩, fun h => absurd hoff (by rw [h]; decide)⟩
  have hoff' : D.off = false := by simpa using hoff
  refine XIf.no (off_no hoff') (xnil ?_)
  obtain ⟨l, fs, ws, hl, h⟩ := DiskP.open hs1
  refine xload h 0 rfl rfl ?_
  have hll : l.length = D.files.length := by rw [← hl, List.length_map]
  have hfl : fs.len = l.length := by have := (h.bring 1).own_len; simpa using this.symm
  refine xloop (fun (st : Sl × Int × Unit) w => ∃ (l1 l2 : List (Nat × DF)) (g : Sl), l = l1 ++ l2 ∧ st = (g, (l1.length : Int), ()) ∧ g.len = l1.length ∧
      Sat W w (own 1 g (l1.map fun x => .string x.2.name) :: pts d [.slice fs.a fs.len fs.cap, .slice ws.a ws.len ws.cap, .int .i64 D.most, .int .i64 D.fuse, .bool D.off, .int .i64 D.count, .int .i64 D.made] ::
        own 1 fs (l.map fun x => ptr x.1) :: FilesP l :: own 4 ws (D.wait.flatMap wcells) :: L))
    (fun st => ((fs.len : Int) - st.2.1).toNat) ⟨[], l, ⟨none, 0, 0⟩, rfl, rfl, rfl, h.own_nil⟩ ?_
  clear h
  rintro next _ w ⟨l1, l2, g, e, rfl, hg, h⟩ hnext
  cases l2 with
  | nil =>
    rw [List.append_nil] at e
    subst e
    refine XIf.no (decide_eq_false (show ¬ ((l.length : Int) < (fs.len : Int)) by omega)) ⟨fun h => absurd h hoff, fun _ => ⟨g, rfl, ?_⟩⟩
    have e2 : l.map (fun x => Value.string x.2.name) = D.names.map Value.string := by
      unfold DD.names
      rw [← hl, List.map_map, List.map_map]
      rfl
    rw [e2] at h
    have h2 := DiskP.shut (D := D) (l := l) (fs := fs) (ws := ws) hl (h.arr [1, 2, 3, 4, 0])
    exact h2.swap
  | cons x l2 =>
    have hlt : l1.length < l.length := by rw [e]; simp
    refine XIf.yes (decide_eq_true (show (l1.length : Int) < (fs.len : Int) by omega)) (xelem (h.bring 2) l1.length rfl (x := some ⟨x.1, 0, none⟩) (by simp [readL, e, ptr, Leaf.un]) (by show Int.toNat _ * 1 = _; simp) fun a => xnil ?_)
    have h2 := h.bring 3
    rw [e] at h2
    obtain ⟨ls, ss, h3⟩ := FileP.open (FilesP.take h2)
    refine xload h3 1 rfl rfl ?_
    refine xappend1 (by kernel_rfl) h rfl rfl (by (try dsimp only); omega) fun a s' w' h4 hl4 => xlet ((l1.length + 1 : Nat) : Int) (by dsimp only; rw [wi (by omega) (by omega)]; omega) (hnext _ _ ⟨l1 ++ [x], l2, s', by simp [e], by simp, by rw [List.length_append]; have e4 : s'.len = g.len + 1 := hl4; show s'.len = l1.length + 1; omega, ?_⟩ (by dsimp only; omega))
    rw [List.map_append]
    exact h4

end
end Go.X

/-! The device's calls Spoil and Copy. -/
namespace Go.X
open Go.Proofs

/-- A byte with some of its bits turned. -/
def xorB (c : UInt8) (by_ : Int) : UInt8 := UInt8.ofNat (ibits .xor .u8 (c.toNat : Int) (IntKind.wrap .u8 by_)).toNat

theorem wrap_u8 (n : Int) : 0 ≤ IntKind.wrap .u8 n ∧ IntKind.wrap .u8 n < 256 := by
  unfold IntKind.wrap
  have hb : IntKind.bits .u8 = 8 := rfl
  have hs : IntKind.signed .u8 = false := rfl
  simp only [hb, hs, Bool.false_and, Bool.false_eq_true, if_false]
  omega

theorem xorB_eq (c : UInt8) (by_ : Int) : ibits .xor .u8 (c.toNat : Int) (IntKind.wrap .u8 by_) = ((xorB c by_).toNat : Int) := by
  have h : 0 ≤ ibits .xor .u8 (c.toNat : Int) (IntKind.wrap .u8 by_) ∧ ibits .xor .u8 (c.toNat : Int) (IntKind.wrap .u8 by_) < 256 := wrap_u8 _
  unfold xorB
  rw [UInt8.toNat_ofNat']
  omega

def bent (l : List UInt8) (k : Nat) (by_ : Int) : List UInt8 := l.set k (xorB (l.getD k 0) by_)

theorem bent_length (l : List UInt8) (k : Nat) (by_ : Int) : (bent l k by_).length = l.length := by simp [bent]

def spoilt (f : DF) (k : Nat) (by_ : Int) : DF := { f with last := bent f.last k by_, seen := bent f.seen k by_ }

def DD.spoil (D : DD) (name : ByteArray) (at_ by_ : Int) : Int × DD :=
  match behind name D.files with
  | [] => (8, D)
  | f :: r =>
    if cmpS f.name name ≠ 0 then (8, D) else if at_ < 0 ∨ (f.last.length : Int) ≤ at_ then (2, D)
    else (0, { D with files := ahead name D.files ++ spoilt f at_.toNat by_ :: r })

section
variable {W w : World} {L : List SP} {d : Nat} {D : DD}

theorem bcells_get (l : List UInt8) (k : Nat) (h : k < l.length) : readL (.int .u8) (bcells l) k = some ((l.getD k 0).toNat : Int) := by
  simp [readL, bcells, List.getElem?_map, List.getElem?_eq_getElem h, Leaf.un, List.getD_eq_getElem?_getD]

theorem bcells_set (l : List UInt8) (k : Nat) (c : UInt8) : (bcells l).set k (.int .u8 c.toNat) = bcells (l.set k c) := by simp [bcells, List.map_set]

theorem Spoil_spec {name : ByteArray} {at_ by_ : Int} (hs : Sat W w (DiskP d D :: L)) (hr : Rising D.files) (hn : D.files.length ≤ 2 ^ 40) :
    Ret Tryz.prog F.disk_Disk_Spoil [ptr d, .string name, .int .i64 at_, .int .i64 by_] w fun v w' => v = .int .i64 (D.spoil name at_ by_).1 ∧ Sat W w' (DiskP d (D.spoil name at_ by_).2 :: L) := by
  suffices H : ∀ K : Value → World → Prop, (∀ v w', v = .int .i64 (D.spoil name at_ by_).1 ∧ Sat W w' (DiskP d (D.spoil name at_ by_).2 :: L) → K v w') → S.disk_Disk_Spoil (some ⟨d, 0, none⟩) name at_ by_ K w from S.disk_Disk_Spoil_ok _ _ _ _ _ _ (H _ fun _ _ h => h)
  intro K hK
  refine XIf.no rfl (xcall (find_spec (name := name) hs hr hn) ?_)
  rintro v w1 ⟨hno, hyes⟩
  cases hh : isHead name (behind name D.files) with
  | false =>
    obtain ⟨rfl, hq⟩ := hno hh
    have : D.spoil name at_ by_ = (8, D) := by
      unfold DD.spoil
      rcases behind_no hh with hb | ⟨f, r, hb, hc⟩
      · rw [hb]
      · rw [hb]; simp only [if_pos hc]
    rw [this] at hK
    exact ⟨none, rfl, XIf.yes rfl (hK _ _ ⟨rfl, hs.quiet hq⟩)⟩
  | true =>
    obtain ⟨l1, l2, p, f, fs, ws, rfl, e1, e2, hq, h⟩ := hyes hh
    have hs1 := hs.quiet hq
    have hc : ¬ cmpS f.name name ≠ 0 := by rw [← e2] at hh; exact isHead_cons hh
    have hsp : D.spoil name at_ by_ = if at_ < 0 ∨ (f.last.length : Int) ≤ at_ then (2, D) else (0, { D with files := ahead name D.files ++ spoilt f at_.toNat by_ :: l2.map (·.2) }) := by
      unfold DD.spoil
      rw [← e2]
      dsimp only
      rw [if_neg hc]
    obtain ⟨ls, ss, h2⟩ := FileP.open (FilesP.take (h.bring 2))
    have hl := FileP.lens (x := (p, f)) h2
    simp only at hl
    refine ⟨some ⟨p, 0, none⟩, rfl, XIf.no rfl (xjoin (fun st w' => st = (decide (at_ < 0 ∨ (f.last.length : Int) ≤ at_), ()) ∧ w' = w1) (fun J hJ => ?_) ?_)⟩
    · by_cases h0 : at_ < 0
      · exact XIf.yes (decide_eq_true h0) (hJ _ _ ⟨by simp [h0], rfl⟩)
      · refine XIf.no (decide_eq_false h0) (xnil (xload h2 2 rfl rfl (hJ _ _ ⟨?_, rfl⟩)))
        have : (at_ ≥ ((ls.len : Nat) : Int)) ↔ (at_ < 0 ∨ (f.last.length : Int) ≤ at_) := by rw [hl.1]; omega
        simp only [this]
    rintro _ w' ⟨rfl, rfl⟩
    by_cases hout : at_ < 0 ∨ (f.last.length : Int) ≤ at_
    · rw [hsp, if_pos hout] at hK
      exact XIf.yes (decide_eq_true hout) (hK _ _ ⟨rfl, hs1⟩)
    rw [hsp, if_neg hout] at hK
    obtain ⟨k, rfl⟩ : ∃ k : Nat, at_ = k := ⟨at_.toNat, by omega⟩
    have hk : k < f.last.length := by omega
    refine XIf.no (decide_eq_false hout) (xnil (xload h2 2 rfl rfl (xelem (h2.bring 1) k rfl (x := ((f.last.getD k 0).toNat : Int)) (bcells_get _ _ hk) (by show Int.toNat _ * 1 = _; simp) fun a => ?_)))
    refine xlet0 (xlet ((xorB (f.last.getD k 0) by_).toNat : Int) (xorB_eq _ _) (xput (h2.bring 1) k rfl (by (try dsimp only); omega) (by show Int.toNat _ * 1 = _; simp) fun a w2 h3 => ?_))
    rw [bcells_set] at h3
    have h3 : Sat W w2 (own 1 ls (bcells (bent f.last k by_)) :: pts p [.int .i64 f.id, .string f.name, .slice ls.a ls.len ls.cap, .slice ss.a ss.len ss.cap] :: own 1 ss (bcells f.seen) :: FilesP (l1 ++ l2) ::
        pts d [.slice fs.a fs.len fs.cap, .slice ws.a ws.len ws.cap, .int .i64 D.most, .int .i64 D.fuse, .bool D.off, .int .i64 D.count, .int .i64 D.made] :: own 1 fs ((l1 ++ (p, f) :: l2).map fun x => ptr x.1) :: own 4 ws (D.wait.flatMap wcells) :: L) := h3
    refine xjoin (fun (_ : Unit) w' => Sat W w' (own 1 ls (bcells (bent f.last k by_)) :: pts p [.int .i64 f.id, .string f.name, .slice ls.a ls.len ls.cap, .slice ss.a ss.len ss.cap] :: own 1 ss (bcells (bent f.seen k by_)) :: FilesP (l1 ++ l2) ::
        pts d [.slice fs.a fs.len fs.cap, .slice ws.a ws.len ws.cap, .int .i64 D.most, .int .i64 D.fuse, .bool D.off, .int .i64 D.count, .int .i64 D.made] :: own 1 fs ((l1 ++ (p, f) :: l2).map fun x => ptr x.1) :: own 4 ws (D.wait.flatMap wcells) :: L)) (fun J hJ => ?_) ?_
    · refine xnil (xload (h3.bring 1) 3 rfl rfl ?_)
      by_cases hks : k < f.seen.length
      · refine XIf.yes (decide_eq_true (show (k : Int) < (ss.len : Int) by omega)) (xnil (xload (h3.bring 1) 3 rfl rfl (xelem (h3.bring 2) k rfl (x := ((f.seen.getD k 0).toNat : Int)) (bcells_get _ _ hks) (by show Int.toNat _ * 1 = _; simp) fun a => ?_)))
        refine xlet0 (xlet ((xorB (f.seen.getD k 0) by_).toNat : Int) (xorB_eq _ _) (xput (h3.bring 2) k rfl (by (try dsimp only); omega) (by show Int.toNat _ * 1 = _; simp) fun a w3 h4 => hJ _ _ ?_))
        rw [bcells_set] at h4
        exact h4.arr [1, 2, 0]
      · refine XIf.no (decide_eq_false (show ¬ (k : Int) < (ss.len : Int) by omega)) (hJ _ _ ?_)
        have : bent f.seen k by_ = f.seen := by unfold bent; exact List.set_eq_of_length_le (by omega)
        rw [this]
        exact h3
    rintro _ w3 h4
    refine hK _ _ ⟨rfl, ?_⟩
    have h5 := FilesP.put (FileP.shut (p := p) (f := spoilt f k by_) (ls := ls) (ss := ss) h4.swap)
    have h6 : Sat W w3 (pts d [.slice fs.a fs.len fs.cap, .slice ws.a ws.len ws.cap, .int .i64 D.most, .int .i64 D.fuse, .bool D.off, .int .i64 D.count, .int .i64 D.made] :: own 1 fs ((l1 ++ (p, f) :: l2).map fun x => ptr x.1) :: FilesP (l1 ++ (p, spoilt f k by_) :: l2) :: own 4 ws (D.wait.flatMap wcells) :: L) := h5.arr [1, 2, 0]
    have e5 : ((l1 ++ (p, f) :: l2).map fun x => ptr x.1) = (l1 ++ (p, spoilt f k by_) :: l2).map fun x => ptr x.1 := by simp
    rw [e5] at h6
    refine DiskP.shut (D := { D with files := ahead name D.files ++ spoilt f (k : Int).toNat by_ :: l2.map (·.2) }) (l := l1 ++ (p, spoilt f k by_) :: l2) (fs := fs) (ws := ws) ?_ h6
    rw [List.map_append, List.map_cons, e1, Int.toNat_natCast]

/-! ### Copy -/

theorem wcells_one (ps : List DW) : allOne (ps.flatMap wcells) = true := by
  refine allOne_of fun v hv => ?_
  obtain ⟨p, _, hp⟩ := List.mem_flatMap.1 hv
  simp only [wcells, List.mem_cons, List.not_mem_nil, or_false] at hp
  rcases hp with rfl | rfl | rfl | rfl <;> rfl



end
end Go.X

/-! How much a device may have; a file's size. -/
namespace Go.X

section
variable {D : DD} {i : Nat}

/-- How much a device may have behind so many calls. -/
structure Fit (i : Nat) (D : DD) : Prop where
  rising : Rising D.files
  small : Small D.files
  len : D.files.length ≤ i
  made : 0 ≤ D.made ∧ D.made ≤ i
  pieces : PiecesOk D.wait
  waits : D.wait.length ≤ 700 * i
  count : 0 ≤ D.count ∧ D.count ≤ 700 * i
  fuse : -1 ≤ D.fuse ∧ D.fuse ≤ 9223372036854775807
  most : 0 ≤ D.most ∧ D.most ≤ 32768

theorem Fit.mono {i : Nat} {D : DD} (h : Fit i D) : Fit (i + 1) D where
  rising := h.rising
  small := h.small
  len := by have := h.len; omega
  made := by have := h.made; omega
  pieces := h.pieces
  waits := by have := h.waits; omega
  count := by have := h.count; omega
  fuse := h.fuse
  most := h.most

theorem takesAll_perm {a b : List DF} (h : a.Perm b) : takesAll a = takesAll b := by
  induction h with
  | nil => rfl
  | cons x _ ih => simp [takesAll, ih]
  | swap x y l => simp only [takesAll]; omega
  | trans _ _ ih1 ih2 => rw [ih1, ih2]

theorem nodup_names {fs : List DF} (h : Rising fs) : (fs.map (·.name)).Nodup := rise_nodup (rising_rise h)

theorem isHead_no {name : ByteArray} {fs : List DF} (hr : Rising fs) (h : isHead name (behind name fs) = false) : ∀ f ∈ fs, f.name ≠ name := by
  intro f hf e
  obtain ⟨A, B, rfl⟩ := List.append_of_mem hf
  have := (behind_mid hr).2
  rw [← e, this] at h
  simp [isHead, cmpS_refl] at h

def DD.size (D : DD) (name : ByteArray) : Int × Int :=
  if D.off then (0, 14) else
  match behind name D.files with
  | [] => (0, 8)
  | f :: _ => if cmpS f.name name ≠ 0 then (0, 8) else (f.seen.length, 0)

theorem Fit.create (h : Fit i D) (name : ByteArray) : Fit (i + 1) (D.create name).2 := by
  unfold DD.create
  split
  · exact h.mono
  split
  · exact h.mono
  split
  · exact h.mono
  · rename_i hh
    have hh : isHead name (behind name D.files) = false := by simpa using hh
    have hmem : ∀ f, f ∈ ahead name D.files ++ (⟨D.made, name, [], []⟩ : DF) :: behind name D.files → f ∈ D.files ∨ f = ⟨D.made, name, [], []⟩ := by
      intro f hf
      rcases List.mem_append.1 hf with hf | hf
      · left; rw [← ahead_behind name D.files]; exact List.mem_append_left _ hf
      · rcases List.mem_cons.1 hf with rfl | hf
        · exact .inr rfl
        · left; rw [← ahead_behind name D.files]; exact List.mem_append_right _ hf
    refine (show Fit (i + 1) { D with files := ahead name D.files ++ (⟨D.made, name, [], []⟩ : DF) :: behind name D.files, made := D.made + 1 } from ?_)
    refine ⟨rising_put (nw := ⟨D.made, name, [], []⟩) rfl h.rising hh, fun f hf => ?_, ?_, ?_, h.pieces, h.mono.waits, h.mono.count, h.fuse, h.most⟩
    · rcases hmem f hf with hf | rfl
      · exact h.small f hf
      · exact ⟨Nat.zero_le _, Nat.zero_le _⟩
    · show (ahead name D.files ++ _ :: behind name D.files).length ≤ _
      have e : (ahead name D.files).length + (behind name D.files).length = D.files.length := by rw [← List.length_append, ahead_behind]
      have := h.len
      simp only [List.length_append, List.length_cons]
      omega
    · have := h.made
      show 0 ≤ D.made + 1 ∧ D.made + 1 ≤ _
      omega

theorem Fit.remove0 (h : Fit i D) (name : ByteArray) : Fit i (D.remove name).2 := by
  unfold DD.remove
  split
  · exact h
  split
  · exact h
  · rename_i hh
    have hh : isHead name (behind name D.files) = true := by simpa using hh
    cases hb : behind name D.files with
    | nil => rw [hb] at hh; cases hh
    | cons f B =>
      have hD : D.files = ahead name D.files ++ f :: B := by rw [← hb, ahead_behind]
      have hw : D.without name = ahead name D.files ++ B := by unfold DD.without; rw [hb]; rfl
      have hr := h.rising
      rw [hD] at hr
      have hsub : ∀ g ∈ ahead name D.files ++ B, g ∈ D.files := fun g hg => by
        rw [hD]
        rcases List.mem_append.1 hg with hg | hg
        · exact List.mem_append_left _ hg
        · exact List.mem_append_right _ (List.mem_cons_of_mem _ hg)
      rw [hw]
      refine ⟨rising_drop hr, fun g hg => h.small g (hsub g hg), ?_, h.made, fun p hp => h.pieces p (List.mem_filter.1 hp).1, ?_, h.count, h.fuse, h.most⟩
      · have := h.len
        rw [hD] at this
        show (ahead name D.files ++ B).length ≤ _
        simp only [List.length_append, List.length_cons] at this ⊢
        omega
      · have := h.waits
        have e := List.length_filter_le (fun p => !(p.id == headId (f :: B))) D.wait
        show (D.wait.filter _).length ≤ _
        omega

theorem Fit.remove (h : Fit i D) (name : ByteArray) : Fit (i + 1) (D.remove name).2 := (h.remove0 name).mono

theorem Fit.rename (h : Fit i D) (fr to : ByteArray) : Fit (i + 1) (D.rename fr to).2 := by
  unfold DD.rename
  split
  · exact h.mono
  split
  · exact h.mono
  cases hb : behind fr D.files with
  | nil => exact h.mono
  | cons f B =>
    dsimp only
    split
    · exact h.mono
    split
    · exact h.mono
    · rename_i hh
      have hh : isHead to (behind to D.files) = false := by simpa using hh
      have hD : D.files = ahead fr D.files ++ f :: B := by rw [← hb, ahead_behind]
      have hw : D.without fr = ahead fr D.files ++ B := by unfold DD.without; rw [hb]; rfl
      have hr := h.rising
      rw [hD] at hr
      have hr2 := rising_drop hr
      have hsub : ∀ g ∈ ahead fr D.files ++ B, g ∈ D.files := fun g hg => by
        rw [hD]
        rcases List.mem_append.1 hg with hg | hg
        · exact List.mem_append_left _ hg
        · exact List.mem_append_right _ (List.mem_cons_of_mem _ hg)
      have hfree : isHead to (behind to (ahead fr D.files ++ B)) = false := by
        cases hx : isHead to (behind to (ahead fr D.files ++ B)) with
        | false => rfl
        | true =>
          exfalso
          cases hb2 : behind to (ahead fr D.files ++ B) with
          | nil => rw [hb2] at hx; cases hx
          | cons g r =>
            rw [hb2] at hx
            have hgn : g.name = to := cmpS_eq (by simpa [isHead] using hx)
            have hg : g ∈ ahead fr D.files ++ B := by rw [← ahead_behind to (ahead fr D.files ++ B), hb2]; simp
            exact isHead_no h.rising hh g (hsub g hg) hgn
      rw [hw]
      have hmem : ∀ g, g ∈ ahead to (ahead fr D.files ++ B) ++ renamed f to :: behind to (ahead fr D.files ++ B) → g ∈ D.files ∨ g = renamed f to := by
        intro g hg
        have hx : ∀ y, y ∈ ahead to (ahead fr D.files ++ B) ∨ y ∈ behind to (ahead fr D.files ++ B) → y ∈ D.files := fun y hy => hsub y (by rw [← ahead_behind to (ahead fr D.files ++ B)]; simpa using hy)
        rcases List.mem_append.1 hg with hg | hg
        · exact .inl (hx g (.inl hg))
        · rcases List.mem_cons.1 hg with rfl | hg
          · exact .inr rfl
          · exact .inl (hx g (.inr hg))
      refine (show Fit (i + 1) { D with files := ahead to (ahead fr D.files ++ B) ++ renamed f to :: behind to (ahead fr D.files ++ B) } from ?_)
      refine ⟨rising_put (nw := renamed f to) rfl hr2 hfree, fun g hg => ?_, ?_, h.mono.made, h.pieces, h.mono.waits, h.mono.count, h.fuse, h.most⟩
      · rcases hmem g hg with hg | rfl
        · exact h.small g hg
        · exact h.small f (by rw [hD]; simp)
      · have := h.len
        rw [hD] at this
        have e : (ahead to (ahead fr D.files ++ B)).length + (behind to (ahead fr D.files ++ B)).length = (ahead fr D.files ++ B).length := by rw [← List.length_append, ahead_behind]
        show (ahead to (ahead fr D.files ++ B) ++ renamed f to :: behind to (ahead fr D.files ++ B)).length ≤ _
        simp only [List.length_append, List.length_cons] at this e ⊢
        omega

theorem Fit.cast {j : Nat} (h : Fit i D) (e : i = j) : Fit j D := e ▸ h

theorem Fit.monoN (h : Fit i D) : ∀ k, Fit (i + k) D
  | 0 => h
  | k + 1 => (h.monoN k).mono

theorem Fit.writeN (h : Fit i D) (k : Nat) (name : ByteArray) (at_ : Int) (t : List UInt8) (ht : t.length ≤ 700 * k) : Fit (i + k) (D.write name at_ t).2 := by
  have hm := h.monoN k
  unfold DD.write
  split
  · exact hm
  cases hb : behind name D.files with
  | nil => exact hm
  | cons f B =>
    dsimp only
    split
    · exact hm
    split
    · exact hm
    split
    · exact hm
    · rename_i hout _
      have hD : D.files = ahead name D.files ++ f :: B := by rw [← hb, ahead_behind]
      have hf := h.small f (by rw [hD]; simp)
      obtain ⟨a, rfl⟩ : ∃ a : Nat, at_ = a := ⟨at_.toNat, by omega⟩
      rw [Int.toNat_natCast]
      obtain ⟨n, hn1, hn2, hn3, hn4, hn5, hn6⟩ := wr_some t.length f.id a t ⟨f.seen, D.wait, D.fuse, D.count, false⟩ h.fuse.1
      obtain ⟨Z, hZ⟩ : ∃ Z, wr t.length f.id a t ⟨f.seen, D.wait, D.fuse, D.count, false⟩ = Z := ⟨_, rfl⟩
      rw [hZ] at hn2 hn3 hn4 hn5 hn6 ⊢
      have hpl := pcs_len t.length f.id a t
      have hps : ∀ p ∈ (pcs t.length f.id a t).take n, p.at_ + p.text.length ≤ 2097152 := fun p hp => by
        have := pcs_ok _ _ _ _ p (List.mem_of_mem_take hp); omega
      have hseen : Z.seen.length ≤ 2097152 := by rw [hn2]; exact (lays_some _ f.seen 2097152 hps hf.1).2
      refine ⟨?_, fun g hg => ?_, ?_, hm.made, fun p hp => ?_, ?_, ?_, ?_, h.most⟩
      · have hr := h.rising
        rw [hD] at hr
        exact rising_mid (f := f) (g := { f with seen := Z.seen }) rfl hr
      · have hg : g ∈ ahead name D.files ++ { f with seen := Z.seen } :: B := hg
        rcases List.mem_append.1 hg with hg | hg
        · exact h.small g (by rw [hD]; exact List.mem_append_left _ hg)
        · rcases List.mem_cons.1 hg with rfl | hg
          · exact ⟨hseen, hf.2⟩
          · exact h.small g (by rw [hD]; exact List.mem_append_right _ (List.mem_cons_of_mem _ hg))
      · have := h.len
        rw [hD] at this
        show (ahead name D.files ++ { f with seen := Z.seen } :: B).length ≤ _
        simp only [List.length_append, List.length_cons] at this ⊢
        omega
      · have hp : p ∈ Z.wait := hp
        rw [hn3] at hp
        rcases List.mem_append.1 hp with hp | hp
        · exact h.pieces p hp
        · exact hps p hp
      · have := h.waits
        show Z.wait.length ≤ _
        rw [hn3, List.length_append, List.length_take]
        dsimp only
        omega
      · have := h.count
        show 0 ≤ Z.count ∧ Z.count ≤ _
        rw [hn4]
        dsimp only
        omega
      · have := h.fuse
        dsimp only at hn6
        exact ⟨hn5, by show Z.fuse ≤ _; omega⟩

theorem Fit.write (h : Fit i D) (name : ByteArray) (at_ : Int) (t : List UInt8) (ht : t.length ≤ 700) : Fit (i + 1) (D.write name at_ t).2 := h.writeN 1 name at_ t (by omega)

theorem write_most (D : DD) (name : ByteArray) (at_ : Int) (t : List UInt8) : (D.write name at_ t).2.most = D.most := by
  unfold DD.write
  split
  · rfl
  split
  · rfl
  split
  · rfl
  split
  · rfl
  split
  · rfl
  · rfl

theorem append_most (D : DD) (name : ByteArray) (t : List UInt8) : (D.append name t).2.most = D.most := by
  unfold DD.append
  split
  · rfl
  split
  · rfl
  split
  · rfl
  · exact write_most D name _ t

theorem Fit.append (h : Fit i D) (name : ByteArray) (t : List UInt8) (ht : t.length ≤ 700) : Fit (i + 1) (D.append name t).2 := by
  unfold DD.append
  split
  · exact h.mono
  cases hb : behind name D.files with
  | nil => exact h.mono
  | cons f B =>
    dsimp only
    split
    · exact h.mono
    · exact h.write name _ t ht

theorem Fit.sync0 (h : Fit i D) : Fit i D.sync.2 := by
  unfold DD.sync
  split
  · exact h
  · refine ⟨rising_map (syncF_name _) h.rising, fun f hf => ?_, by have := h.len; show (D.files.map _).length ≤ _; rw [List.length_map]; omega, h.made, fun p hp => (by cases hp), Nat.zero_le _, h.count, h.fuse, h.most⟩
    obtain ⟨g, hg, rfl⟩ := List.mem_map.1 hf
    have := h.small g hg
    exact ⟨by rw [syncF_seen]; exact this.1, syncF_small _ _ h.pieces this.2⟩

theorem Fit.sync (h : Fit i D) : Fit (i + 1) D.sync.2 := h.sync0.mono

theorem Fit.last (h : Fit i D) (xs : List Int) : ∀ f ∈ D.files, (fatesF (D.wait.zip xs) f).last.length ≤ 2097152 := fun f hf =>
  fatesF_small (B := 2097152) _ _ (fun q hq => h.pieces q.1 (List.of_mem_zip hq).1) (h.small f hf).2

theorem Fit.crash0 (h : Fit i D) (xs : List Int) : Fit i (D.crash xs) := by
  refine ⟨rising_map (g := fun f => reborn (fatesF (D.wait.zip xs) f)) (fun f => fatesF_name _ _) h.rising, fun f hf => ?_, by have := h.len; show (D.files.map _).length ≤ _; rw [List.length_map]; omega, h.made, fun p hp => (by cases hp), Nat.zero_le _, h.count, (by show (-1 : Int) ≤ -1 ∧ (-1 : Int) ≤ _; omega), h.most⟩
  obtain ⟨g, hg, rfl⟩ := List.mem_map.1 hf
  have := h.last xs g hg
  exact ⟨this, this⟩

theorem Fit.crash (h : Fit i D) (xs : List Int) : Fit (i + 1) (D.crash xs) := (h.crash0 xs).mono

theorem Fit.arm0 (h : Fit i D) {n : Int} (h0 : 0 ≤ n) (h1 : n ≤ 9223372036854775807) : Fit i { D with fuse := n } :=
  ⟨h.rising, h.small, h.len, h.made, h.pieces, h.waits, h.count, ⟨by show -1 ≤ n; omega, h1⟩, h.most⟩

theorem Fit.arm (h : Fit i D) {n : Int} (h0 : 0 ≤ n) (h1 : n ≤ 9223372036854775807) : Fit (i + 1) { D with fuse := n } := (h.arm0 h0 h1).mono

theorem Fit.spoil (h : Fit i D) (name : ByteArray) (at_ by_ : Int) : Fit (i + 1) (D.spoil name at_ by_).2 := by
  unfold DD.spoil
  cases hb : behind name D.files with
  | nil => exact h.mono
  | cons f B =>
    dsimp only
    split
    · exact h.mono
    split
    · exact h.mono
    · have hD : D.files = ahead name D.files ++ f :: B := by rw [← hb, ahead_behind]
      have hf := h.small f (by rw [hD]; simp)
      have hm := h.mono
      have hr := h.rising
      rw [hD] at hr
      refine ⟨rising_mid (f := f) (g := spoilt f at_.toNat by_) rfl hr, fun g hg => ?_, ?_, hm.made, h.pieces, hm.waits, hm.count, h.fuse, h.most⟩
      · have hg : g ∈ ahead name D.files ++ spoilt f at_.toNat by_ :: B := hg
        rcases List.mem_append.1 hg with hg | hg
        · exact h.small g (by rw [hD]; exact List.mem_append_left _ hg)
        · rcases List.mem_cons.1 hg with rfl | hg
          · exact ⟨by show (bent f.seen _ _).length ≤ _; rw [bent_length]; exact hf.1, by show (bent f.last _ _).length ≤ _; rw [bent_length]; exact hf.2⟩
          · exact h.small g (by rw [hD]; exact List.mem_append_right _ (List.mem_cons_of_mem _ hg))
      · have := h.len
        rw [hD] at this
        show (ahead name D.files ++ spoilt f at_.toNat by_ :: B).length ≤ _
        simp only [List.length_append, List.length_cons] at this ⊢
        omega

theorem Fit.empty (n : Int) (h0 : 0 ≤ n) (h1 : n ≤ 32768) : Fit 0 (DD.empty n) :=
  ⟨trivial, fun f hf => (by cases hf), Nat.le_refl _, by simp [DD.empty], fun p hp => (by cases hp), Nat.le_refl _, by simp [DD.empty], by simp [DD.empty], ⟨h0, h1⟩⟩

theorem size_eq {v : Value} (h1 : D.off = true → v = .tuple ⟨[.int .i64 0, .int .i64 14]⟩) {name : ByteArray}
    (h2 : D.off = false → isHead name (behind name D.files) = false → v = .tuple ⟨[.int .i64 0, .int .i64 8]⟩)
    (h3 : D.off = false → isHead name (behind name D.files) = true → ∀ f r, behind name D.files = f :: r → v = .tuple ⟨[.int .i64 f.seen.length, .int .i64 0]⟩) :
    v = .tuple ⟨[.int .i64 (D.size name).1, .int .i64 (D.size name).2]⟩ := by
  unfold DD.size
  by_cases ho : D.off = true
  · rw [if_pos ho]; exact h1 ho
  have ho' : D.off = false := by simpa using ho
  rw [if_neg ho]
  cases hb : behind name D.files with
  | nil => exact h2 ho' (by rw [hb]; rfl)
  | cons f r =>
    dsimp only
    by_cases hn : cmpS f.name name ≠ 0
    · rw [if_pos hn]; exact h2 ho' (by rw [hb]; simpa [isHead] using hn)
    · rw [if_neg hn]; exact h3 ho' (by rw [hb]; simpa [isHead] using hn) f r hb

end
end Go.X

/-! Blocks of a known type whose first cells may be frozen: strings.Builder. -/
namespace Go.X
open Go.Proofs

section
variable {P : Program} {W w : World} {L : List SP}

/-- The block 'b', of type 'T', holds just these cells; from the cell 'k' on they may be written. -/
def ptsF (T : TypeId) (b : Nat) (cs : List Value) (k : Nat) : SP := fun h => ∃ lo hi, h b = some (.cells ⟨cs⟩ T (lo, hi)) ∧ hi ≤ k

theorem Sat.ptsF_heap {T : TypeId} {b k : Nat} {cs : List Value} (hs : Sat W w (ptsF T b cs k :: L)) : ∃ lo hi, w.heap[b]? = some (.cells ⟨cs⟩ T (lo, hi)) ∧ hi ≤ k ∧ W.heap.size ≤ b := by
  obtain ⟨f, g, d, e, ⟨lo, hi, h1, h2⟩, hb⟩ := hs.new
  have : World.fresh W w b = some (.cells ⟨cs⟩ T (lo, hi)) := by rw [e]; unfold join; rw [h1]
  unfold World.fresh at this
  split at this
  · cases this
  · exact ⟨lo, hi, this, h2, by omega⟩

theorem Sat.cellF {T : TypeId} {b k o : Nat} {cs : List Value} {v : Value} (hs : Sat W w (ptsF T b cs k :: L)) (h : cs[o]? = some v) : w.cell? ⟨b, o, none⟩ = some v := by
  obtain ⟨lo, hi, h1, _, _⟩ := hs.ptsF_heap
  simp [World.cell?, h1, h]

theorem Sat.freeF {T : TypeId} {b k o : Nat} {cs : List Value} (hs : Sat W w (ptsF T b cs k :: L)) (h : k ≤ o) : w.frozen? ⟨b, o, none⟩ = false := by
  obtain ⟨lo, hi, h1, h2, _⟩ := hs.ptsF_heap
  have : ¬ o < hi := by omega
  simp [World.frozen?, h1, this]

theorem Sat.shapeF {T : TypeId} {b k : Nat} {cs : List Value} (hs : Sat W w (ptsF T b cs k :: L)) : w.shape? b = some (T, cs.length) := by
  obtain ⟨lo, hi, h1, _, _⟩ := hs.ptsF_heap
  simp [World.shape?, h1]

theorem Sat.setF {T : TypeId} {b k o : Nat} {cs : List Value} (hs : Sat W w (ptsF T b cs k :: L)) (v : Value) : Sat W (w.setCell ⟨b, o, none⟩ v) (ptsF T b (cs.set o v) k :: L) := by
  obtain ⟨lo, hi, h1, h2, h3⟩ := hs.ptsF_heap
  obtain ⟨f, g, d, e, ⟨lo', hi', h1', _⟩, hb⟩ := hs.new
  obtain ⟨f', d', e', hf'⟩ := fresh_set (w := w) h3 (w.setCell ⟨b, o, none⟩ v) (setCell_heap w b o v h1) (fun k hk => setCell_other w b o v hk) f g d e _ h1'
  refine ⟨hs.os, hs.tape, hs.output, by simpa using hs.size, fun k hk => ?_, f', g, d', e', ⟨lo, hi, hf', h2⟩, hb⟩
  rw [setCell_other w b o v (by omega)]
  exact hs.old k hk

theorem Sat.new_blockF {T : TypeId} {cs : List Value} (hs : Sat W w L) : Sat W (w.alloc (.cells ⟨cs⟩ T)) (ptsF T w.heap.size cs 0 :: L) := by
  have hold : ∀ k, k < w.heap.size → (w.alloc (.cells ⟨cs⟩ T)).heap[k]? = w.heap[k]? := fun k hk => by
    show (w.heap.push _)[k]? = _
    rw [Array.getElem?_push, if_neg (by omega)]
  have hnew : (w.alloc (.cells ⟨cs⟩ T)).heap[w.heap.size]? = some (.cells ⟨cs⟩ T (0, 0)) := by
    show (w.heap.push _)[w.heap.size]? = _
    simp
  refine ⟨hs.os, hs.tape, hs.output, ?_, fun k hk => ?_, fun k => if k = w.heap.size then some (.cells ⟨cs⟩ T (0, 0)) else none, World.fresh W w, ?_, ?_, ⟨0, 0, if_pos rfl, Nat.le_refl _⟩, hs.new⟩
  · rw [World.size_alloc]; exact Nat.le_succ_of_le hs.size
  · rw [hold k (Nat.lt_of_lt_of_le hk hs.size)]; exact hs.old k hk
  · intro k
    by_cases hk : k = w.heap.size
    · right
      subst hk
      unfold World.fresh
      split
      · rfl
      · simp
    · exact .inl (if_neg hk)
  · funext k
    unfold World.fresh join
    by_cases hk : k = w.heap.size
    · subst hk
      simp only [if_true, hnew, if_neg (Nat.not_lt.2 hs.size)]
    · simp only [if_neg hk]
      split
      · rfl
      · by_cases hlt : k < w.heap.size
        · exact hold k hlt
        · have h1 : (w.alloc (.cells ⟨cs⟩ T)).heap[k]? = none := by rw [Array.getElem?_eq_none]; rw [World.size_alloc]; omega
          have h2 : w.heap[k]? = none := by rw [Array.getElem?_eq_none]; omega
          rw [h1, h2]

theorem Sat.freezeF {T : TypeId} {b k : Nat} {cs : List Value} (hs : Sat W w (ptsF T b cs k :: L)) (n : Nat) (hn : n ≤ k) : Sat W (w.freeze ⟨b, 0, none⟩ n) (ptsF T b cs k :: L) := by
  unfold World.freeze
  by_cases h0 : n = 0
  · rw [if_pos h0]; exact hs
  rw [if_neg h0]
  obtain ⟨lo, hi, h1, h2, h3⟩ := hs.ptsF_heap
  obtain ⟨f, g, d, e, ⟨lo', hi', h1', _⟩, hb⟩ := hs.new
  obtain ⟨w', hw'⟩ : ∃ w' : World, w' = { w with heap := w.heap.modify b fun
      | .cells c elem (lo, hi) => .cells c elem (if lo == hi then (0, 0 + n) else (min lo 0, max hi (0 + n)))
      | o => o } := ⟨_, rfl⟩
  have hnew : w'.heap[b]? = some (.cells ⟨cs⟩ T (if lo == hi then (0, 0 + n) else (min lo 0, max hi (0 + n)))) := by
    rw [hw']; simp [Array.getElem?_modify, h1]
  have hoth : ∀ k, k ≠ b → w'.heap[k]? = w.heap[k]? := fun k hk => by
    rw [hw']; simp [Array.getElem?_modify, Ne.symm hk]
  obtain ⟨f', d', e', hf'⟩ := fresh_set (w := w) h3 w' hnew hoth f g d e _ h1'
  have key : Sat W w' (ptsF T b cs k :: L) := by
    refine ⟨by rw [hw']; exact hs.os, by rw [hw']; exact hs.tape, by rw [hw']; exact hs.output, by rw [hw']; simpa using hs.size, fun k hk => ?_, f', g, d', e', ?_, hb⟩
    · rw [hoth k (by omega)]; exact hs.old k hk
    · by_cases hlh : lo = hi
      · refine ⟨0, 0 + n, ?_, by omega⟩
        rw [hf']; simp [hlh]
      · refine ⟨min lo 0, max hi (0 + n), ?_, by omega⟩
        rw [hf']; simp [hlh]
  rw [hw'] at key
  exact key

theorem xloadF {l : Leaf} {a : Addr} {K : l.T → Prop} {T : TypeId} {b k : Nat} {cs : List Value} (hs : Sat W w (ptsF T b cs k :: L)) (o : Nat) (ha : a = ⟨b, o, none⟩) {x : l.T} (hx : readL l cs o = some x) (hk : K x) : XLoad l a w K :=
  ⟨x, by rw [ha]; exact hs.cellF (readL_mk hx), hk⟩

theorem xstoreF {a : Addr} {v : Value} {K : World → Prop} {T : TypeId} {b k : Nat} {cs : List Value} (hs : Sat W w (ptsF T b cs k :: L)) (o : Nat) (ha : a = ⟨b, o, none⟩) (ho : o < cs.length) (hko : k ≤ o)
    (hk : ∀ w', Sat W w' (ptsF T b (cs.set o v) k :: L) → K w') : XStore a v w K := by
  subst ha
  refine ⟨?_, hs.freeF hko, hk _ (hs.setF v)⟩
  rw [hs.cellF (List.getElem?_eq_getElem ho)]
  rfl

theorem xstoresF {T : TypeId} {b o k : Nat} {K : World → Prop} : ∀ (vs : List Value) (i : Nat) (w : World) (cs : List Value), Sat W w (ptsF T b cs k :: L) → k ≤ o → o + i + vs.length ≤ cs.length →
    (∀ w', Sat W w' (ptsF T b (splice cs (o + i) vs) k :: L) → K w') → XStores ⟨b, o, none⟩ i vs w K
  | [], i, w, cs, hs, _, _, hk => hk w (by rw [splice_nil]; exact hs)
  | v :: vs, i, w, cs, hs, hko, hl, hk => by
    simp only [List.length_cons] at hl
    refine xstoreF hs (o + i) (by rw [Addr.add_mk]) (by omega) (by omega) fun w' h => ?_
    refine xstoresF vs (i + 1) w' _ h hko (by rw [List.length_set]; omega) fun w'' h' => hk w'' ?_
    rw [splice_cons cs vs (o + i) v (by omega)]
    rw [show o + i + 1 = o + (i + 1) by omega]
    exact h'

theorem xnewT {T : TypeId} {cs : List Value} {K : Addr → World → Prop} (hs : Sat W w L) (hk : ∀ b w', Sat W w' (ptsF T b cs 0 :: L) → K ⟨b, 0, none⟩ w') : XNew T cs w K := hk _ _ hs.new_blockF

end

/-! ### The builder's types -/

def elemPtr (P : Program) (t : TypeId) : TypeId := match under P t with
  | some (.pointer e) => e
  | _ => 0

noncomputable def builderT : TypeId := elemPtr Tryz.prog (Fn.strings_Builder_Len.params.getD 0 0)
noncomputable def byteT : TypeId := match under Tryz.prog builderT with
  | some (.struct ⟨[_, f]⟩) => (match under Tryz.prog f.type with
    | some (.slice e) => e
    | _ => 0)
  | _ => 0

/-- The types of a builder, and of its bytes, by names of their own. -/
structure BTypes (T e : TypeId) : Prop where
  builder : T = builderT
  byte : e = byteT

theorem btypes : ∃ T e, BTypes T e := ⟨_, _, rfl, rfl⟩

section
variable {W w : World} {L : List SP} {T e : TypeId}

/-- A buffer: the bytes that it has may be frozen. -/
def BufP (e : TypeId) (g : Sl) (bs : List UInt8) : SP := fun h =>
  (g.a = none ∧ g.len = 0 ∧ g.cap = 0 ∧ bs = []) ∨
  ∃ b rest, g.a = some ⟨b, 0, none⟩ ∧ bs.length = g.len ∧ (bs.length + rest.length = g.cap ∧ 0 < g.cap) ∧ ptsF e b (bcells bs ++ rest) bs.length h

theorem Sat.buf_open {g : Sl} {bs : List UInt8} (hs : Sat W w (BufP e g bs :: L)) :
    (g.a = none ∧ g.len = 0 ∧ g.cap = 0 ∧ bs = [] ∧ Sat W w L) ∨
    ∃ b rest, g.a = some ⟨b, 0, none⟩ ∧ bs.length = g.len ∧ (bs.length + rest.length = g.cap ∧ 0 < g.cap) ∧ Sat W w (ptsF e b (bcells bs ++ rest) bs.length :: L) := by
  obtain ⟨f, g', d, he, h, hb⟩ := hs.new
  rcases h with ⟨h1, h2, h3, h4⟩ | ⟨b, rest, h1, h2, h3, h5⟩
  · exact .inl ⟨h1, h2, h3, h4, hs.drop⟩
  · exact .inr ⟨b, rest, h1, h2, h3, hs.os, hs.tape, hs.output, hs.size, hs.old, f, g', d, he, h5, hb⟩

theorem Sat.buf_shut {g : Sl} {bs : List UInt8} {b : Nat} {rest : List Value} (ha : g.a = some ⟨b, 0, none⟩) (hl : bs.length = g.len) (hc : bs.length + rest.length = g.cap ∧ 0 < g.cap)
    (hs : Sat W w (ptsF e b (bcells bs ++ rest) bs.length :: L)) : Sat W w (BufP e g bs :: L) := hs.head fun _ h => .inr ⟨b, rest, ha, hl, hc, h⟩

theorem Sat.buf_nil (hs : Sat W w L) : Sat W w (BufP e ⟨none, 0, 0⟩ [] :: L) := hs.add_emp.head fun _ _ => .inl ⟨rfl, rfl, rfl, rfl⟩

theorem Sat.buf_len {g : Sl} {bs : List UInt8} (hs : Sat W w (BufP e g bs :: L)) : bs.length = g.len ∧ g.len ≤ g.cap := by
  rcases hs.buf_open with ⟨_, h, h2, rfl, _⟩ | ⟨_, _, _, h, h2, _⟩
  · exact ⟨by rw [h]; rfl, by omega⟩
  · exact ⟨h, by omega⟩

/-- 'hi ≤ k' may be said of more. -/
theorem Sat.weakF {b k k' : Nat} {cs : List Value} (hs : Sat W w (ptsF T b cs k :: L)) (h : k ≤ k') : Sat W w (ptsF T b cs k' :: L) :=
  hs.head fun _ ⟨lo, hi, h1, h2⟩ => ⟨lo, hi, h1, by omega⟩

def okAppS (P : Program) (t u b : TypeId) : Bool :=
  match under P t, under P u with
  | some (.slice e), some .string => Nat.beq e b && (match ti P e with
    | some i => Nat.beq i.size 1 && Nat.beq i.bytes 1 && (match i.zero with
      | some (.int .u8 0) => true
      | _ => false)
    | none => false)
  | _, _ => false

theorem okAppS_spec {P : Program} {t u b : TypeId} (h : okAppS P t u b = true) : ∃ i, P.underlying t = some (.slice b) ∧ P.underlying u = some .string ∧ P.info? b = some i ∧ i.size = 1 ∧ i.bytes = 1 ∧ i.zero = some (.int .u8 0) := by
  unfold okAppS at h
  split at h
  · rename_i e h1 h2
    obtain ⟨he, h'⟩ := Bool.and_eq_true_iff.1 h
    have he' := Nat.eq_of_beq_eq_true he
    clear h he
    subst he'
    split at h'
    · rename_i i hi
      obtain ⟨h3, h5⟩ := Bool.and_eq_true_iff.1 h'
      obtain ⟨h3, h4⟩ := Bool.and_eq_true_iff.1 h3
      split at h5
      · rename_i hz
        exact ⟨i, under_eq h1, under_eq h2, ti_info hi, Nat.eq_of_beq_eq_true h3, Nat.eq_of_beq_eq_true h4, hz⟩
      · cases h5
    · cases h'
  · cases h

theorem strCells_b (s : ByteArray) : Lib.strCells s = bcells s.data.toList := rfl

theorem bcells_push (a b : List UInt8) : bcells (a ++ b) = bcells a ++ bcells b := by simp [bcells]

/-- A text's bytes behind those of a buffer. -/
theorem xappendBuf {P : Program} {t u ty : TypeId} {g : Sl} {bs : List UInt8} {s : ByteArray} {K : Sl → World → Prop} (hok : okAppS P t u e = true) (hs : Sat W w (BufP e g bs :: L)) (hsz : bs.length + s.size ≤ 2 ^ 46)
    (hk : ∀ g' w', Sat W w' (BufP e g' (bs ++ s.data.toList) :: L) → K g' w') : XDo P (Builtin.append_ #[t, u] ty ⟨[.slice g.a g.len g.cap, .string s]⟩) (.leaf .slice) w K := by
  obtain ⟨i, h1, h2, h3, h4, h5, h6⟩ := okAppS_spec hok
  have hss : s.data.toList.length = s.size := by simp
  have hge : ∀ n old, n ≤ grownCap w n old e := fun n old => grownCap_ge w n old e
  have hz1 : (Value.int IntKind.u8 0).cells.size = 1 := rfl
  rcases hs.buf_open with ⟨ha, hl, hc, hb, hs'⟩ | ⟨b, rest, ha, hl, hc, hs'⟩
  · subst hb
    by_cases h0 : s.size = 0
    · have hn : s.data.toList = [] := List.eq_nil_of_length_eq_zero (by omega)
      have hf := Lib.run_firstCells_string (P := P) w 1 s
      rw [h0] at hf
      have hcl : Lib.strCells s = [] := by rw [strCells_b, hn]; rfl
      refine ⟨⟨none, 0, 0⟩, w, ?_, hk _ _ (by rw [hn]; exact hs'.buf_nil)⟩
      rw [ha, hl, hc]
      simp [Builtin.append_, run_underlying h1, run_underlying h2, run_size' h3, h4, Builtin.lenOf, h0, hf, hcl, Ty.mk, Leaf.mk]
    · have hr := run_append_nil_string (P := P) w t u ty e i (.int .u8 0) h1 h2 h3 h6 s (by omega) (by simp only [List.length_nil] at hsz; omega) (by rw [h5]; simp only [List.length_nil] at hsz; omega)
      rw [ha, hl, hc]
      refine ⟨⟨some ⟨w.heap.size, 0, none⟩, s.size, grownCap w s.size 0 e⟩, _, hr, hk _ _ ?_⟩
      have hnew := (hs'.drew).new_blockF (cs := bcells s.data.toList ++ (Builtin.zeroCells (Value.int .u8 0).cells (grownCap w s.size 0 e - s.size)).toList) (T := e)
      have e1 : (s.data.map fun b => Value.int .u8 b.toNat) ++ Builtin.zeroCells (Value.int .u8 0).cells (grownCap w s.size 0 e - s.size) = ⟨bcells s.data.toList ++ (Builtin.zeroCells (Value.int .u8 0).cells (grownCap w s.size 0 e - s.size)).toList⟩ := by
        apply Array.ext'; simp [bcells]
      rw [e1]
      refine Sat.buf_shut rfl (by simp) ?_ (hnew.weakF (Nat.zero_le _))
      rw [zeroCells_length, hz1]
      have := hge s.size 0
      simp only [List.nil_append, hss]
      omega
  · have hsl : (bcells bs).length = bs.length := bcells_length bs
    by_cases hroom : g.len + s.size ≤ g.cap
    · have hst := xstoresF (W := W) (L := L) (T := e) (b := b) (o := bs.length) (k := bs.length) (K := fun w' => Sat W w' (ptsF e b (splice (bcells bs ++ rest) bs.length (bcells s.data.toList)) bs.length :: L)) (bcells s.data.toList) 0 w _ hs' (Nat.le_refl _)
        (by rw [List.length_append, hsl, bcells_length, hss]; omega) (fun w' h => by simpa using h)
      obtain ⟨w', hr, hw⟩ := run_stores (P := P) (bcells s.data.toList) 0 w (bcells_one _) hst
      have hf := Lib.run_firstCells_string (P := P) w 1 s
      have hr' : (Builtin.append_ #[t, u] ty ⟨[.slice g.a g.len g.cap, .string s]⟩).run P w = .ok (.slice (some ⟨b, 0, none⟩) (g.len + s.size) g.cap) w' := by
        rw [ha]
        have hr2 : (storeCells ⟨b, g.len, none⟩ (Lib.strCells s) 0).run P w = .ok () w' := by rw [← hl]; exact hr
        simp [Builtin.append_, run_underlying h1, run_underlying h2, run_size' h3, h4, Builtin.lenOf, hroom, hf, Addr.add_mk, hr2]
      refine ⟨⟨some ⟨b, 0, none⟩, g.len + s.size, g.cap⟩, w', hr', hk _ _ ?_⟩
      have hsp : splice (bcells bs ++ rest) bs.length (bcells s.data.toList) = bcells (bs ++ s.data.toList) ++ rest.drop s.size := by
        unfold splice
        rw [← hsl, List.take_left, List.drop_append, List.drop_eq_nil_of_le (by omega), List.nil_append, bcells_push, bcells_length (s.data.toList), hss]
        congr 2
        omega
      rw [hsp] at hw
      refine Sat.buf_shut rfl (by rw [List.length_append, hl, hss]) ?_ (hw.weakF (by rw [List.length_append]; omega))
      rw [List.length_append, hss, List.length_drop]
      show _ = g.cap ∧ 0 < g.cap
      omega
    · have hr := Lib.run_append_grow_string (P := P) w t u ty e i (.int .u8 0) h1 h2 h3 h6 ⟨b, 0, none⟩ g.len g.cap (bcells bs) (by rw [hsl, hl, h4, Nat.mul_one]) (fun j v hj => by
          rw [Addr.add_mk, Nat.zero_add]
          exact hs'.cellF (by rw [List.getElem?_append_left (List.getElem?_eq_some_iff.1 hj).1]; exact hj)) s (by omega) (by omega) (by
            rw [h5]
            exact growslice_fits (need := g.len + s.size) (old := g.cap) (by omega) (show (g.len + s.size) * 1 ≤ 140737488355328 by omega))
      rw [ha]
      refine ⟨⟨some ⟨w.heap.size, 0, none⟩, g.len + s.size, grownCap w (g.len + s.size) g.cap e⟩, _, hr, hk _ _ ?_⟩
      have hnew := (hs'.drop.drew).new_blockF (cs := bcells (bs ++ s.data.toList) ++ (Builtin.zeroCells (Value.int .u8 0).cells (grownCap w (g.len + s.size) g.cap e - (g.len + s.size))).toList) (T := e)
      have e1 : ((bcells bs).toArray ++ (Lib.strCells s).toArray ++ Builtin.zeroCells (Value.int .u8 0).cells (grownCap w (g.len + s.size) g.cap e - (g.len + s.size))) = ⟨bcells (bs ++ s.data.toList) ++ (Builtin.zeroCells (Value.int .u8 0).cells (grownCap w (g.len + s.size) g.cap e - (g.len + s.size))).toList⟩ := by
        apply Array.ext'; simp [bcells_push, strCells_b]
      rw [e1]
      refine Sat.buf_shut rfl (by rw [List.length_append, hl, hss]) ?_ (hnew.weakF (Nat.zero_le _))
      rw [zeroCells_length, hz1, List.length_append, hss]
      have := hge (g.len + s.size) g.cap
      show _ = grownCap w (g.len + s.size) g.cap e ∧ 0 < grownCap w (g.len + s.size) g.cap e
      omega

/-! ### The builder -/

/-- A builder in memory: whether it was used, its bytes. -/
def BuildP (T e : TypeId) (b : Nat) (bs : List UInt8) : SP := ex fun (x : Bool × Sl) => all [ptsF T b [.pointer (if x.1 then some ⟨b, 0, none⟩ else none), .slice x.2.a x.2.len x.2.cap] 0, BufP e x.2 bs]

theorem BuildP.open {b : Nat} {bs : List UInt8} (hs : Sat W w (BuildP T e b bs :: L)) : ∃ (u : Bool) (g : Sl), Sat W w (ptsF T b [.pointer (if u then some ⟨b, 0, none⟩ else none), .slice g.a g.len g.cap] 0 :: BufP e g bs :: L) := by
  obtain ⟨⟨u, g⟩, h⟩ := hs.open_ex
  exact ⟨u, g, h.open_all⟩

theorem BuildP.shut {b : Nat} {bs : List UInt8} (u : Bool) {g : Sl} (hs : Sat W w (ptsF T b [.pointer (if u then some ⟨b, 0, none⟩ else none), .slice g.a g.len g.cap] 0 :: BufP e g bs :: L)) : Sat W w (BuildP T e b bs :: L) :=
  Sat.shut_ex (u, g) (Sat.shut_all (As := [_, _]) hs)

/-- A new builder. -/
theorem xnewBuild {T' : TypeId} {K : Addr → World → Prop} (hT : T' = T) (hs : Sat W w L) (hk : ∀ b w', Sat W w' (BuildP T e b [] :: L) → K ⟨b, 0, none⟩ w') : XNew T' [.pointer none, .slice none 0 0] w K := by
  subst hT
  exact xnewT (L := BufP e ⟨none, 0, 0⟩ [] :: L) hs.buf_nil fun b w' h => hk b w' (BuildP.shut false (g := ⟨none, 0, 0⟩) h)

def okUnsafe (P : Program) (src dst b : TypeId) : Bool :=
  match under P src, under P dst with
  | some (.pointer e), some .unsafePointer => Nat.beq e b && (match ti P e with
    | some i => Nat.beq i.size 2
    | none => false)
  | _, _ => false

theorem okUnsafe_spec {P : Program} {src dst b : TypeId} (h : okUnsafe P src dst b = true) : ∃ i, P.underlying src = some (.pointer b) ∧ P.underlying dst = some .unsafePointer ∧ P.info? b = some i ∧ i.size = 2 := by
  unfold okUnsafe at h
  split at h
  · rename_i e h1 h2
    obtain ⟨he, h'⟩ := Bool.and_eq_true_iff.1 h
    have he' := Nat.eq_of_beq_eq_true he
    clear h he
    subst he'
    split at h'
    · rename_i i hi
      exact ⟨i, under_eq h1, under_eq h2, ti_info hi, Nat.eq_of_beq_eq_true h'⟩
    · cases h'
  · cases h

theorem noescape_run (x : Value) (w : World) : (extRun Tryz.prog F.internal_abi_NoEscape ⟨[x]⟩).run Tryz.prog w = .ok x w := by
  rw [ext_run Fu.internal_abi_NoEscape (by kernel_rfl) (by kernel_rfl) (by kernel_rfl) (e := Extern.AbiNoEscape.same) (by kernel_rfl)]
  rfl

def okEqPtr (P : Program) (t : TypeId) : Bool :=
  match under P t with
  | some (.pointer e) => (match ti P e with
    | some _ => true
    | none => false)
  | _ => false

theorem okEqPtr_spec {P : Program} {t : TypeId} (h : okEqPtr P t = true) : ∃ e i, P.underlying t = some (.pointer e) ∧ P.info? e = some i := by
  unfold okEqPtr at h
  split at h
  · rename_i e h1
    split at h
    · rename_i i hi
      exact ⟨e, i, under_eq h1, ti_info hi⟩
    · cases h
  · cases h

theorem run_toUnsafe {P : Program} {src dst : TypeId} {b k : Nat} {cs : List Value} (hok : okUnsafe P src dst T = true) (hs : Sat W w (ptsF T b cs k :: L)) (h0 : 0 < cs.length) :
    (convert src dst (ptr b)).run P w = .ok (ptr b) w := by
  obtain ⟨i, h1, h2, h3, h4⟩ := okUnsafe_spec hok
  exact Lib.run_to_unsafe w ⟨b, 0, none⟩ h1 h2 h3 (by omega) hs.shapeF h0

theorem run_fromUnsafe {P : Program} {src dst : TypeId} {b k : Nat} {cs : List Value} (hok : okUnsafe P dst src T = true) (hl : liesAt P P.depth T 1 0 T 1 = true) (hc : P.cellsOf T = 2) (hs : Sat W w (ptsF T b cs k :: L)) (h0 : cs.length = 2) :
    (convert src dst (ptr b)).run P w = .ok (ptr b) w := by
  obtain ⟨i, h1, h2, h3, h4⟩ := okUnsafe_spec hok
  refine Lib.run_from_unsafe w ⟨b, 0, none⟩ h2 h1 h3 hs.shapeF ?_
  rw [h0, hc]
  exact hl

theorem copyCheckG (hB : BTypes T e) {b : Nat} {u : Bool} {g : Sl} (h : Sat W w (ptsF T b [.pointer (if u then some ⟨b, 0, none⟩ else none), .slice g.a g.len g.cap] 0 :: L)) :
    Ret Tryz.prog F.strings_Builder_copyCheck [ptr b] w fun v w' => v = .tuple ⟨[]⟩ ∧ Sat W w' (ptsF T b [.pointer (some ⟨b, 0, none⟩), .slice g.a g.len g.cap] 0 :: L) := by
  refine S.strings_Builder_copyCheck_ok _ _ _ (xnil ?_)
  cases u with
  | false =>
    refine xloadF h 0 rfl rfl (XIf.yes rfl ?_)
    refine ⟨some ⟨b, 0, none⟩, w, run_toUnsafe (by rw [hB.builder]; kernel_rfl) h (by simp), some ⟨b, 0, none⟩, w, noescape_run _ _, some ⟨b, 0, none⟩, w, run_fromUnsafe (by rw [hB.builder]; kernel_rfl) (by rw [hB.builder]; kernel_rfl) (by rw [hB.builder]; kernel_rfl) h rfl, xnil (xstoreF h 0 rfl (by simp) (Nat.zero_le _) fun w' h' => ⟨rfl, h'⟩)⟩
  | true =>
    refine xloadF h 0 rfl rfl (XIf.no rfl (xnil (xloadF h 0 rfl rfl ?_)))
    obtain ⟨e', i, h1, h2⟩ := okEqPtr_spec (P := Tryz.prog) (t := Fn.strings_Builder_copyCheck.params.getD 0 0) (by kernel_rfl)
    refine ⟨false, w, ?_, XIf.no rfl ⟨rfl, h⟩⟩
    have hr := Lib.run_neq_ptr_same (P := Tryz.prog) w ⟨b, 0, none⟩ h1 h2
    exact hr

theorem copyCheck_spec (hB : BTypes T e) {b : Nat} {bs : List UInt8} (hs : Sat W w (BuildP T e b bs :: L)) : Ret Tryz.prog F.strings_Builder_copyCheck [ptr b] w fun v w' => v = .tuple ⟨[]⟩ ∧ Sat W w' (BuildP T e b bs :: L) := by
  obtain ⟨u, g, h⟩ := BuildP.open hs
  exact (copyCheckG hB h).mono fun v w' ⟨h1, h2⟩ => ⟨h1, BuildP.shut true h2⟩

theorem WriteString_spec (hB : BTypes T e) {b : Nat} {bs : List UInt8} {s : ByteArray} (hs : Sat W w (BuildP T e b bs :: L)) (hsz : bs.length + s.size ≤ 2 ^ 46) :
    Ret Tryz.prog F.strings_Builder_WriteString [ptr b, .string s] w fun v w' => v = .tuple ⟨[.int .i64 s.size, .nilIface]⟩ ∧ Sat W w' (BuildP T e b (bs ++ s.data.toList) :: L) := by
  refine S.strings_Builder_WriteString_ok _ _ _ _ (xcalls (copyCheck_spec hB hs) ?_)
  rintro v w1 ⟨rfl, h⟩
  obtain ⟨u, g, h⟩ := BuildP.open h
  refine ⟨(), rfl, xnil (xloadF h 1 rfl rfl (xappendBuf (by rw [hB.byte]; kernel_rfl) (h.bring 1) hsz fun g' w2 h2 => xnil (xstoreF (h2.bring 1) 1 rfl (by simp) (Nat.zero_le _) fun w3 h3 => ⟨rfl, BuildP.shut u h3⟩)))⟩

theorem Len_spec {b : Nat} {bs : List UInt8} (hs : Sat W w (BuildP T e b bs :: L)) : Ret Tryz.prog F.strings_Builder_Len [ptr b] w fun v w' => v = .int .i64 bs.length ∧ w' = w := by
  obtain ⟨u, g, h⟩ := BuildP.open hs
  refine S.strings_Builder_Len_ok _ _ _ (xnil (xloadF h 1 rfl rfl ⟨?_, rfl⟩))
  have := (h.bring 1).buf_len.1
  rw [this]

def okUStr (P : Program) (pt b : TypeId) : Bool :=
  match under P pt with
  | some (.pointer e) => Nat.beq e b && Nat.beq (P.cellsOf e) 1
  | _ => false

theorem okUStr_spec {P : Program} {pt b : TypeId} (h : okUStr P pt b = true) : P.underlying pt = some (.pointer b) ∧ P.cellsOf b = 1 := by
  unfold okUStr at h
  split at h
  · rename_i e h1
    obtain ⟨he, h'⟩ := Bool.and_eq_true_iff.1 h
    have he' := Nat.eq_of_beq_eq_true he
    subst he'
    exact ⟨under_eq h1, Nat.eq_of_beq_eq_true h'⟩
  · cases h

/-- A buffer's bytes as a text: they are frozen. -/
theorem xbufString {P : Program} {ts : Array TypeId} {ty pt it ty2 : TypeId} {g : Sl} {bs : List UInt8} {K : ByteArray → World → Prop} {N : Option Addr → World → Prop} (hok : okUStr P pt e = true) (hs : Sat W w (BufP e g bs :: L)) (hsz : bs.length ≤ 2 ^ 46)
    (hN : ∀ p w', Sat W w' (BufP e g bs :: L) → N p w') (hk : ∀ w', Sat W w' (BufP e g bs :: L) → K (str bs) w') :
    XDo P (Builtin.unsafeSliceData_ ts ty ⟨[.slice g.a g.len g.cap]⟩) (.leaf .ptr) w fun (p : Option Addr) w' => N p w' ∧ XDo P (Builtin.unsafeString_ #[pt, it] ty2 ⟨[.pointer p, .int .i64 ((g.len : Nat) : Int)]⟩) (.leaf .str) w' K := by
  obtain ⟨h1, h2⟩ := okUStr_spec hok
  rcases hs.buf_open with ⟨ha, hl, hc, hb, hs'⟩ | ⟨b, rest, ha, hl, hc, hs'⟩
  · subst hb
    rw [ha, hl, hc]
    refine ⟨none, w, Lib.run_unsafeSliceData_nil w ts ty 0 0, hN _ _ hs, _, w, Lib.run_unsafeString_none w pt it ty2 none, hk w hs⟩
  · by_cases h0 : bs = []
    · subst h0
      have hl0 : g.len = 0 := hl.symm
      rw [ha, hl0]
      · refine ⟨some ⟨b, 0, none⟩, w, Lib.run_unsafeSliceData_row w ts ty ⟨b, 0, none⟩ 0 g.cap (by omega), hN _ _ hs, _, w, Lib.run_unsafeString_none w pt it ty2 _, hk w hs⟩
    · have hpos : 0 < bs.length := List.length_pos_iff.2 h0
      rw [ha, ← hl]
      refine ⟨some ⟨b, 0, none⟩, w, Lib.run_unsafeSliceData_row w ts ty ⟨b, 0, none⟩ _ g.cap (by omega), hN _ _ hs, _, _, Lib.run_unsafeString_row w pt it ty2 e h1 h2 b _ hs'.shapeF bs h0 (by rw [List.length_append, bcells_length]; omega) (by omega) (fun j x hx => ?_), hk _ (Sat.buf_shut ha hl hc (hs'.freezeF _ (Nat.le_refl _)))⟩
      rw [Addr.add_mk, Nat.zero_add]
      refine hs'.cellF ?_
      rw [List.getElem?_append_left (by rw [bcells_length]; exact (List.getElem?_eq_some_iff.1 hx).1)]
      simp [bcells, hx]

theorem String_spec (hB : BTypes T e) {b : Nat} {bs : List UInt8} (hs : Sat W w (BuildP T e b bs :: L)) (hsz : bs.length ≤ 2 ^ 46) :
    Ret Tryz.prog F.strings_Builder_String [ptr b] w fun v w' => v = .string (str bs) ∧ Sat W w' (BuildP T e b bs :: L) := by
  obtain ⟨u, g, h⟩ := BuildP.open hs
  have hd := h.drew
  refine S.strings_Builder_String_ok _ _ _ (xnil (xloadF hd 1 rfl rfl (xnil (xloadF hd 1 rfl rfl ?_))))
  refine xbufString (by rw [hB.byte]; kernel_rfl) (hd.bring 1) hsz (fun p w' h' => (h'.bring 1).cellF rfl) fun w' h' => ⟨(h'.bring 1).cellF rfl, rfl, BuildP.shut u h'.swap⟩

end
end Go.X

/-! Maps from texts to numbers; objects in blocks of their own. -/
namespace Go.X
open Go.Proofs

section
variable {P : Program} {W w : World} {L : List SP}

/-- The block 'b' holds just this. -/
def objP (b : Nat) (o : Obj) : SP := fun h => h b = some o

theorem Sat.obj_heap {b : Nat} {o : Obj} (hs : Sat W w (objP b o :: L)) : w.heap[b]? = some o ∧ W.heap.size ≤ b := by
  obtain ⟨f, g, d, e, h1, hb⟩ := hs.new
  have : World.fresh W w b = some o := by rw [e]; unfold join; rw [show f b = some o from h1]
  unfold World.fresh at this
  split at this
  · cases this
  · exact ⟨this, by omega⟩

theorem Sat.set_obj {b : Nat} {o o' : Obj} (hs : Sat W w (objP b o :: L)) : Sat W { w with heap := w.heap.setIfInBounds b o' } (objP b o' :: L) := by
  obtain ⟨h1, h3⟩ := hs.obj_heap
  obtain ⟨f, g, d, e, h1', hb⟩ := hs.new
  have hset := MapKept.heap_set (w := w) (o' := o') h1
  obtain ⟨f', d', e', hf'⟩ := fresh_set (w := w) h3 { w with heap := w.heap.setIfInBounds b o' } hset.1 hset.2 f g d e _ h1'
  refine ⟨hs.os, hs.tape, hs.output, by simpa using hs.size, fun k hk => ?_, f', g, d', e', hf', hb⟩
  have : k ≠ b := by omega
  rw [hset.2 k this]
  exact hs.old k hk

theorem Sat.new_obj {o : Obj} (hs : Sat W w L) : Sat W (w.alloc o) (objP w.heap.size o :: L) := by
  have hold : ∀ k, k < w.heap.size → (w.alloc o).heap[k]? = w.heap[k]? := fun k hk => by
    show (w.heap.push _)[k]? = _
    rw [Array.getElem?_push, if_neg (by omega)]
  have hnew : (w.alloc o).heap[w.heap.size]? = some o := by
    show (w.heap.push _)[w.heap.size]? = _
    simp
  refine ⟨hs.os, hs.tape, hs.output, ?_, fun k hk => ?_, fun k => if k = w.heap.size then some o else none, World.fresh W w, ?_, ?_, if_pos rfl, hs.new⟩
  · rw [World.size_alloc]; exact Nat.le_succ_of_le hs.size
  · rw [hold k (Nat.lt_of_lt_of_le hk hs.size)]; exact hs.old k hk
  · intro k
    by_cases hk : k = w.heap.size
    · right
      subst hk
      unfold World.fresh
      split
      · rfl
      · simp
    · exact .inl (if_neg hk)
  · funext k
    unfold World.fresh join
    by_cases hk : k = w.heap.size
    · subst hk
      simp only [if_true, hnew, if_neg (Nat.not_lt.2 hs.size)]
    · simp only [if_neg hk]
      split
      · rfl
      · by_cases hlt : k < w.heap.size
        · exact hold k hlt
        · have h1 : (w.alloc o).heap[k]? = none := by rw [Array.getElem?_eq_none]; rw [World.size_alloc]; omega
          have h2 : w.heap[k]? = none := by rw [Array.getElem?_eq_none]; omega
          rw [h1, h2]

/-- A map from texts to numbers: its entries, as they came. -/
def MapP (r : Nat) (es : List (ByteArray × Int)) : SP := fun h => ∃ a clock, h r = some (.map a clock) ∧ a.toList.map (fun e => (e.key, e.val)) = es.map fun x => (Value.string x.1, Value.int .i64 x.2)

theorem Sat.map_open {r : Nat} {es : List (ByteArray × Int)} (hs : Sat W w (MapP r es :: L)) : ∃ a clock, a.toList.map (fun e => (e.key, e.val)) = es.map (fun x => (Value.string x.1, Value.int .i64 x.2)) ∧ Sat W w (objP r (.map a clock) :: L) := by
  obtain ⟨f, g, d, e, ⟨a, clock, h1, h2⟩, hb⟩ := hs.new
  exact ⟨a, clock, h2, hs.os, hs.tape, hs.output, hs.size, hs.old, f, g, d, e, h1, hb⟩

theorem Sat.map_shut {r : Nat} {es : List (ByteArray × Int)} {a : Array MapEntry} {clock : Nat} (he : a.toList.map (fun e => (e.key, e.val)) = es.map (fun x => (Value.string x.1, Value.int .i64 x.2))) (hs : Sat W w (objP r (.map a clock) :: L)) :
    Sat W w (MapP r es :: L) := hs.head fun _ h => ⟨a, clock, h, he⟩

/-- What a text's first entry holds. -/
def findE (s : ByteArray) : List (ByteArray × Int) → Option Int
  | [] => none
  | x :: es => if x.1 = s then some x.2 else findE s es

theorem findNow_E (s : ByteArray) : ∀ (l : List MapEntry) (es : List (ByteArray × Int)) (i : Nat), l.map (fun e => (e.key, e.val)) = es.map (fun x => (Value.string x.1, Value.int .i64 x.2)) →
    ∃ j, Instr.findNow .string (.string s) l i = some ((findE s es).map fun n => (i + j, Value.int .i64 n)) ∧ (findE s es = none → ∀ x ∈ l, x.key ≠ .string s)
  | [], [], i, _ => ⟨0, rfl, fun _ x hx => by cases hx⟩
  | [], _ :: _, _, h => by simp at h
  | _ :: _, [], _, h => by simp at h
  | e :: l, x :: es, i, h => by
    simp only [List.map_cons, List.cons.injEq, Prod.mk.injEq] at h
    obtain ⟨⟨hk, hv⟩, ht⟩ := h
    unfold Instr.findNow findE
    rw [hk, hv]
    simp only [Instr.sameNow]
    by_cases hx : x.1 = s
    · have : (s == x.1) = true := (MapKept.bytes_beq _ _).2 hx.symm
      rw [this, if_pos hx]
      exact ⟨0, rfl, fun h => by cases h⟩
    · have : (s == x.1) = false := by
        cases hb : s == x.1 with
        | false => rfl
        | true => exact absurd ((MapKept.bytes_beq _ _).1 hb).symm hx
      rw [this, if_neg hx]
      obtain ⟨j, h1, h2⟩ := findNow_E s l es (i + 1) ht
      refine ⟨j + 1, ?_, fun h y hy => ?_⟩
      · rw [show i + (j + 1) = i + 1 + j by omega]; exact h1
      · rcases List.mem_cons.1 hy with rfl | hy
        · rw [hk]
          intro hc
          exact hx (Value.string.inj hc)
        · exact h2 h y hy

/-- The closed facts that a look-up asks of the types. -/
def okMapSI (P : Program) (t : TypeId) : Bool :=
  match under P t with
  | some (.map k e) => (match under P k with
    | some .string => true
    | _ => false) && (match ti P e with
    | some i => match i.zero with
      | some (.int .i64 0) => true
      | _ => false
    | none => false)
  | _ => false

theorem okMapSI_spec {t : TypeId} (h : okMapSI P t = true) : ∃ k e i, P.underlying t = some (.map k e) ∧ P.underlying k = some .string ∧ P.info? e = some i ∧ i.zero = some (.int .i64 0) := by
  unfold okMapSI at h
  split at h
  · rename_i k e h1
    obtain ⟨h2, h3⟩ := Bool.and_eq_true_iff.1 h
    split at h2
    · rename_i hk
      split at h3
      · rename_i i hi
        split at h3
        · rename_i hz
          exact ⟨k, e, i, under_eq h1, under_eq hk, ti_info hi, hz⟩
        · cases h3
      · cases h3
    · cases h2
  · cases h

theorem xmakeMap {t : TypeId} {K : Option Nat → World → Prop} (hs : Sat W w L) (hk : ∀ r w', Sat W w' (MapP r [] :: L) → K (some r) w') : XDo P (Instr.makeMap t none) (.leaf .map) w K :=
  ⟨some w.heap.size, _, rfl, hk _ _ (Sat.map_shut (a := #[]) (clock := 0) rfl hs.new_obj)⟩

theorem xlookup {t : TypeId} {r : Nat} {es : List (ByteArray × Int)} {s : ByteArray} {K : HT [.leaf (.int .i64), .leaf .bool] → World → Prop} (hok : okMapSI P t = true) (hs : Sat W w (MapP r es :: L))
    (hk : K ((findE s es).getD 0, (findE s es).isSome, ()) w) : XDos P (Instr.lookup t (.map (some r)) (.string s) true) [.leaf (.int .i64), .leaf .bool] w K := by
  obtain ⟨k, e, i, h1, h2, h3, h4⟩ := okMapSI_spec hok
  obtain ⟨a, clock, he, ho⟩ := hs.map_open
  have hb := ho.obj_heap.1
  obtain ⟨j, hf, _⟩ := findNow_E s a.toList es 0 he
  refine ⟨((findE s es).getD 0, (findE s es).isSome, ()), w, ?_, hk⟩
  have hkey : MapKept.IsKey .string (.string s) := trivial
  cases hE : findE s es with
  | some n =>
    rw [hE] at hf
    simp [Instr.lookup, run_underlying h1, MapKept.run_getObj_map hb, MapKept.run_checkKey h2 hkey, MapKept.run_findKey h2 hf, Result.andThen, HT.vals, Ty.mk, Leaf.mk]
  | none =>
    rw [hE] at hf
    have hz : (zeroValue e).run P w = .ok (.int .i64 0) w := by simp [zeroValue, typeInfo, h3, h4]
    simp [Instr.lookup, run_underlying h1, MapKept.run_getObj_map hb, MapKept.run_checkKey h2 hkey, MapKept.run_findKey h2 hf, hz, Result.andThen, HT.vals, Ty.mk, Leaf.mk]

/-- A text that has no entry yet gets one. -/
theorem xmapNew {t : TypeId} {r : Nat} {es : List (ByteArray × Int)} {s : ByteArray} {n : Int} {K : World → Prop} (hok : okMapSI P t = true) (hs : Sat W w (MapP r es :: L)) (hno : findE s es = none)
    (hk : ∀ w', Sat W w' (MapP r (es ++ [(s, n)]) :: L) → K w') : XDoU P (Instr.mapUpdate t (.map (some r)) (.string s) (.int .i64 n)) w K := by
  obtain ⟨k, e, i, h1, h2, h3, h4⟩ := okMapSI_spec hok
  obtain ⟨a, clock, he, ho⟩ := hs.map_open
  have hb := ho.obj_heap.1
  obtain ⟨j, hf, _⟩ := findNow_E s a.toList es 0 he
  rw [hno] at hf
  have hkey : MapKept.IsKey .string (.string s) := trivial
  refine ⟨_, ?_, hk { w with heap := w.heap.setIfInBounds r (.map (a.push { key := .string s, val := .int .i64 n, born := clock }) (clock + 1)) } (Sat.map_shut ?_ (ho.set_obj (o' := .map (a.push { key := .string s, val := .int .i64 n, born := clock }) (clock + 1))))⟩
  · simp [Instr.mapUpdate, run_underlying h1, MapKept.run_getObj_map hb, MapKept.run_checkKey h2 hkey, MapKept.run_findKey h2 hf, MapKept.run_setObj_map _ hb, Result.andThen]
  · simp [he]

theorem xmapLen {t ty : TypeId} {r : Nat} {es : List (ByteArray × Int)} {K : Int → World → Prop} (hok : okMapSI P t = true) (hs : Sat W w (MapP r es :: L)) (hk : K es.length w) :
    XDo P (Builtin.len_ #[t] ty ⟨[.map (some r)]⟩) (.leaf (.int .i64)) w K := by
  obtain ⟨k, e, i, h1, h2, h3, h4⟩ := okMapSI_spec hok
  obtain ⟨a, clock, he, ho⟩ := hs.map_open
  have hb := ho.obj_heap.1
  refine ⟨(es.length : Int), w, ?_, hk⟩
  have hl : a.size = es.length := by
    have := congrArg List.length he
    simpa using this
  simp [Builtin.len_, run_underlying h1, MapKept.run_getObj_map hb, Result.andThen, Ty.mk, Leaf.mk, hl, goInt]

end
end Go.X

/-! Books that number texts. -/
namespace Go.X
open Go.Proofs

/-! ### Plain -/

/-- The texts of a book, in the order in which they were numbered. -/
abbrev Bk := List (List UInt8)

def numAt (s : List UInt8) : Nat → Bk → Option Nat
  | _, [] => none
  | i, t :: M => if t = s then some (i + 1) else numAt s (i + 1) M

/-- A text's number. -/
def numOf (s : List UInt8) (M : Bk) : Option Nat := numAt s 0 M

/-- A number as a mark. -/
def markN (n : Nat) : List UInt8 := (List.range 32).map fun i => UInt8.ofNat (n / 2 ^ (8 * (i % 8)))

def Bk.mark (M : Bk) (s : List UInt8) : List UInt8 := markN ((numOf s M).getD (M.length + 1))
def Bk.add (M : Bk) (s : List UInt8) : Bk := match numOf s M with
  | some _ => M
  | none => M ++ [s]
def Bk.is (M : Bk) (s m : List UInt8) : Bool := match numOf s M with
  | some n => decide (markN n = m)
  | none => false

theorem markN_length (n : Nat) : (markN n).length = 32 := by simp [markN]

theorem numAt_append (s : List UInt8) : ∀ (M X : Bk) (i : Nat), numAt s i (M ++ X) = match numAt s i M with
    | some n => some n
    | none => numAt s (i + M.length) X
  | [], X, i => by simp [numAt]
  | t :: M, X, i => by
    simp only [List.cons_append, numAt]
    by_cases h : t = s
    · rw [if_pos h, if_pos h]
    · rw [if_neg h, if_neg h, numAt_append s M X (i + 1)]
      rw [show i + 1 + M.length = i + (t :: M).length by simp; omega]

theorem numAt_some {s : List UInt8} : ∀ {M : Bk} {i n : Nat}, numAt s i M = some n → i < n ∧ n ≤ i + M.length ∧ M[n - i - 1]? = some s
  | [], i, n, h => by cases h
  | t :: M, i, n, h => by
    unfold numAt at h
    by_cases ht : t = s
    · rw [if_pos ht] at h
      cases h
      exact ⟨by omega, by simp, by rw [show i + 1 - i - 1 = 0 by omega]; simp [ht]⟩
    · rw [if_neg ht] at h
      obtain ⟨h1, h2, h3⟩ := numAt_some h
      refine ⟨by omega, by simp only [List.length_cons]; omega, ?_⟩
      rw [show n - i - 1 = (n - (i + 1) - 1) + 1 by omega]
      simpa using h3

theorem numOf_some {s : List UInt8} {M : Bk} {n : Nat} (h : numOf s M = some n) : 1 ≤ n ∧ n ≤ M.length ∧ M[n - 1]? = some s := by
  obtain ⟨h1, h2, h3⟩ := numAt_some h
  exact ⟨by omega, by omega, by simpa using h3⟩

/-- A number tells its text. -/
theorem numOf_inj {s t : List UInt8} {M : Bk} {n : Nat} (h : numOf s M = some n) (k : numOf t M = some n) : s = t := by
  have h1 := (numOf_some h).2.2
  rw [(numOf_some k).2.2] at h1
  exact (Option.some.inj h1).symm

theorem numOf_append {s : List UInt8} {M : Bk} {n : Nat} (h : numOf s M = some n) (X : Bk) : numOf s (M ++ X) = some n := by
  unfold numOf at *
  rw [numAt_append, h]

theorem numOf_new {s : List UInt8} {M : Bk} (h : numOf s M = none) : numOf s (M ++ [s]) = some (M.length + 1) := by
  unfold numOf at *
  rw [numAt_append, h]
  simp [numAt]

theorem Bk.add_num (M : Bk) (s : List UInt8) : ∃ n, numOf s (M.add s) = some n ∧ M.mark s = markN n := by
  unfold Bk.add Bk.mark
  cases h : numOf s M with
  | some n => exact ⟨n, h, rfl⟩
  | none => exact ⟨M.length + 1, numOf_new h, rfl⟩

theorem Bk.add_more (M : Bk) (s : List UInt8) : ∃ X, M.add s = M ++ X ∧ X.length ≤ 1 := by
  unfold Bk.add
  cases h : numOf s M with
  | some n => exact ⟨[], by simp, by simp⟩
  | none => exact ⟨[s], rfl, by simp⟩

def entsM : Nat → Bk → List (ByteArray × Int)
  | _, [] => []
  | i, t :: M => (str t, ((i + 1 : Nat) : Int)) :: entsM (i + 1) M

theorem str_inj {a b : List UInt8} (h : str a = str b) : a = b := by
  have := congrArg (fun x => x.data.toList) h
  simpa [str_toList] using this

theorem findE_num (s : List UInt8) : ∀ (M : Bk) (i : Nat), findE (str s) (entsM i M) = (numAt s i M).map fun n => (n : Int)
  | [], _ => rfl
  | t :: M, i => by
    unfold entsM findE numAt
    by_cases h : t = s
    · rw [if_pos (by rw [h]), if_pos h]; rfl
    · rw [if_neg (fun e => h (str_inj e)), if_neg h]
      exact findE_num s M (i + 1)

theorem entsM_append : ∀ (M X : Bk) (i : Nat), entsM i (M ++ X) = entsM i M ++ entsM (i + M.length) X
  | [], X, i => by simp [entsM]
  | t :: M, X, i => by
    simp only [List.cons_append, entsM, List.length_cons]
    rw [entsM_append M X (i + 1), show i + 1 + M.length = i + (M.length + 1) by omega]

theorem entsM_length : ∀ (M : Bk) (i : Nat), (entsM i M).length = M.length
  | [], _ => rfl
  | _ :: M, i => by simp [entsM, entsM_length M]

/-! ### Numbers -/

theorem ishr_nat (n k : Nat) (hk : k ≤ 64) : ishr .i64 (n : Int) (k : Int) = ((n / 2 ^ k : Nat) : Int) := by
  unfold ishr
  rw [Int.toNat_natCast, show IntKind.bits .i64 = 64 from rfl, Nat.min_eq_left hk]
  have : ((2 : Int) ^ k) = ((2 ^ k : Nat) : Int) := by simp
  rw [this, Int.fdiv_eq_ediv_of_nonneg _ (Int.natCast_nonneg _)]
  exact (Int.natCast_ediv _ _).symm

theorem wiN (m : Nat) (h : m ≤ 2 ^ 62) : IntKind.wrap .i64 (m : Int) = m := wi (by omega) (by omega)

theorem wrapu8 (n : Nat) : IntKind.wrap .u8 (n : Int) = ((n % 256 : Nat) : Int) := by
  unfold IntKind.wrap
  have hb : IntKind.bits .u8 = 8 := rfl
  have hs : IntKind.signed .u8 = false := rfl
  simp only [hb, hs, Bool.false_and, Bool.false_eq_true, if_false]
  omega

theorem u8_toNat (n : Nat) : ((UInt8.ofNat n).toNat : Int) = ((n % 256 : Nat) : Int) := by
  rw [UInt8.toNat_ofNat']

section
variable {W w : World} {L : List SP}

theorem numbered_spec (n : Nat) (hs : Sat W w L) : Ret Tryz.prog F.marks_numbered [.int .i64 n] w fun v w' => v = .string (str (markN n)) ∧ Sat W w' L := by
  refine S.marks_numbered_ok _ _ _ (xmakeB (m := 32) (by kernel_rfl) hs rfl (by decide) fun s w1 hsl h => ?_)
  refine xloop (fun (st : Int × Unit) w => ∃ i : Nat, st = ((i : Int), ()) ∧ i ≤ 32 ∧ Sat W w (own 1 s (bcells ((markN n).take i ++ List.replicate (32 - i) 0)) :: L)) (fun st => (32 - st.1).toNat)
    ⟨0, rfl, by omega, by simpa using h⟩ ?_
  clear h
  rintro next _ w ⟨i, rfl, hi, h⟩ hnext
  by_cases hlt : i < 32
  · have hm : (i : Int).tmod 8 = ((i % 8 : Nat) : Int) := by rw [Int.tmod_eq_emod_of_nonneg (by omega)]; omega
    have hget : (markN n)[i]? = some (UInt8.ofNat (n / 2 ^ (8 * (i % 8)))) := by simp [markN, hlt]
    refine XIf.yes (decide_eq_true (show (i : Int) < (s.len : Int) by omega)) ⟨by decide, xlet ((i % 8 : Nat) : Int) hm (xlet ((8 * (i % 8) : Nat) : Int) (by rw [wi (by omega) (by omega)]; omega) ⟨by omega, xlet ((n / 2 ^ (8 * (i % 8)) : Nat) : Int) (ishr_nat _ _ (by omega)) (xlet ((UInt8.ofNat (n / 2 ^ (8 * (i % 8)))).toNat : Int) (by rw [wrapu8, u8_toNat]) ?_)⟩)⟩
    refine xput h i rfl (by (try dsimp only); omega) (by show Int.toNat _ * 1 = _; simp) fun a w' h' => xlet ((i + 1 : Nat) : Int) (by dsimp only; rw [wi (by omega) (by omega)]; omega) (hnext _ _ ⟨i + 1, rfl, by omega, ?_⟩ (by dsimp only; omega))
    rw [bcells_set] at h'
    have e : ((markN n).take i ++ List.replicate (32 - i) 0).set i (UInt8.ofNat (n / 2 ^ (8 * (i % 8)))) = (markN n).take (i + 1) ++ List.replicate (32 - (i + 1)) 0 := by
      have hl : ((markN n).take i).length = i := by rw [List.length_take, markN_length]; omega
      rw [List.set_append_right _ _ (by omega), hl, Nat.sub_self, show 32 - i = (32 - (i + 1)) + 1 by omega, List.replicate_succ, List.set_cons_zero, List.take_add_one, hget]
      simp
    rw [e] at h'
    exact h'
  · have hi32 : i = 32 := by omega
    subst hi32
    have e : (markN n).take 32 ++ List.replicate (32 - 32) 0 = markN n := by simp [List.take_of_length_le, markN_length]
    rw [e] at h
    refine XIf.no (decide_eq_false (show ¬ ((32 : Nat) : Int) < (s.len : Int) by omega)) (xbytes (k := 0) (l := markN n) h (fun b hb _ => hb) (fun h => h) (by rw [markN_length]; omega) (fun _ => rfl) ?_)
    rw [List.drop_zero, List.take_of_length_le (by rw [markN_length]; omega)]
    exact ⟨rfl, h.drop⟩

/-- A book in memory. -/
def BookP (b : Nat) (M : Bk) : SP := ex fun (r : Nat) => all [pts b (List.replicate 72 (.int .u32 0) ++ [.bool false, .map (some r), .bool true]), MapP r (entsM 0 M)]

theorem BookP.open {b : Nat} {M : Bk} (hs : Sat W w (BookP b M :: L)) : ∃ r, Sat W w (pts b (List.replicate 72 (.int .u32 0) ++ [.bool false, .map (some r), .bool true]) :: MapP r (entsM 0 M) :: L) := by
  obtain ⟨r, h⟩ := hs.open_ex
  exact ⟨r, h.open_all⟩

theorem BookP.shut {b r : Nat} {M : Bk} (hs : Sat W w (pts b (List.replicate 72 (.int .u32 0) ++ [.bool false, .map (some r), .bool true]) :: MapP r (entsM 0 M) :: L)) : Sat W w (BookP b M :: L) :=
  Sat.shut_ex r (Sat.shut_all (As := [_, _]) hs)

theorem Ideal_spec (hs : Sat W w L) : Ret Tryz.prog F.marks_Ideal [] w fun v w' => ∃ b, v = ptr b ∧ Sat W w' (BookP b [] :: L) := by
  refine S.marks_Ideal_ok _ _ (xmakeMap hs fun r w1 h => xnew h fun b w2 h => ⟨b, rfl, BookP.shut h⟩)

theorem none_nil : Ret Tryz.prog F.marks_Book_none [.pointer none] w fun v w' => v = .bool true ∧ w' = w :=
  S.marks_Book_none_ok _ _ _ (xjoin0 (XIf.yes rfl ⟨rfl, rfl⟩))

theorem none_spec {b : Nat} {M : Bk} (hs : Sat W w (BookP b M :: L)) : Ret Tryz.prog F.marks_Book_none [ptr b] w fun v w' => v = .bool false ∧ w' = w := by
  obtain ⟨r, h⟩ := BookP.open hs
  exact S.marks_Book_none_ok _ _ _ (xjoin0 (XIf.no rfl (xnil (xload h 72 rfl rfl (XIf.yes rfl (xnil (xload h 74 rfl rfl ⟨rfl, rfl⟩)))))))

theorem Ready_spec {b : Nat} {M : Bk} (hs : Sat W w (BookP b M :: L)) : Ret Tryz.prog F.marks_Book_Ready [ptr b] w fun v w' => v = .bool true ∧ w' = w :=
  S.marks_Book_Ready_ok _ _ _ (xcall_eq (none_spec hs) false rfl ⟨rfl, rfl⟩)

theorem Ready_nil : Ret Tryz.prog F.marks_Book_Ready [.pointer none] w fun v w' => v = .bool false ∧ w' = w :=
  S.marks_Book_Ready_ok _ _ _ (xcall_eq none_nil true rfl ⟨rfl, rfl⟩)

theorem Mark_spec {b : Nat} {M : Bk} (s : List UInt8) (hs : Sat W w (BookP b M :: L)) (hM : M.length ≤ 2 ^ 40) :
    Ret Tryz.prog F.marks_Book_Mark [ptr b, .string (str s)] w fun v w' => v = .string (str (M.mark s)) ∧ Sat W w' (BookP b (M.add s) :: L) := by
  refine S.marks_Book_Mark_ok _ _ _ _ (xcall_eq (none_spec hs) false rfl (XIf.no rfl (xnil ?_)))
  obtain ⟨r, h⟩ := BookP.open hs
  refine xload h 72 rfl rfl (XIf.no rfl (xnil (xload h 73 rfl rfl (xlookup (by kernel_rfl) (h.bring 1) ?_))))
  rw [findE_num]
  refine xjoin (fun (st : Int × Unit) w' => ∃ n : Nat, st = ((n : Int), ()) ∧ M.mark s = markN n ∧ Sat W w' (BookP b (M.add s) :: L)) (fun J hJ => ?_) ?_
  · cases hn : numOf s M with
    | some n =>
      have hn' : numAt s 0 M = some n := hn
      rw [hn']
      refine XIf.no rfl (hJ _ _ ⟨n, rfl, by unfold Bk.mark; rw [hn]; rfl, ?_⟩)
      have : M.add s = M := by unfold Bk.add; rw [hn]
      rw [this]
      exact BookP.shut h
    | none =>
      have hn' : numAt s 0 M = none := hn
      rw [hn']
      have hno : findE (str s) (entsM 0 M) = none := by rw [findE_num, hn']; rfl
      refine XIf.yes rfl (xnil (xload h 73 rfl rfl (xmapLen (by kernel_rfl) (h.bring 1) (xlet ((M.length + 1 : Nat) : Int) (by rw [entsM_length, wi (by omega) (by omega)]; omega) (xnil (xload h 73 rfl rfl (xmapNew (by kernel_rfl) (h.bring 1) hno fun w' h' => hJ _ _ ⟨M.length + 1, rfl, by unfold Bk.mark; rw [hn]; rfl, ?_⟩)))))))
      have : M.add s = M ++ [s] := by unfold Bk.add; rw [hn]
      rw [this]
      refine BookP.shut (r := r) ?_
      rw [entsM_append]
      simp only [entsM, Nat.zero_add]
      exact h'.swap
  · rintro _ w' ⟨n, rfl, hm, h'⟩
    rw [hm]
    exact xcall (numbered_spec n h') fun v w'' ⟨e, h''⟩ => ⟨_, e, rfl, h''⟩

theorem Is_spec {b : Nat} {M : Bk} (s m : List UInt8) (hs : Sat W w (BookP b M :: L)) :
    Ret Tryz.prog F.marks_Book_Is [ptr b, .string (str s), .string (str m)] w fun v w' => v = .bool (M.is s m) ∧ Sat W w' (BookP b M :: L) := by
  refine S.marks_Book_Is_ok _ _ _ _ _ (xcall_eq (none_spec hs) false rfl (XIf.no rfl (xnil ?_)))
  obtain ⟨r, h⟩ := BookP.open hs
  refine xload h 72 rfl rfl (XIf.no rfl (xnil (xload h 73 rfl rfl (xlookup (by kernel_rfl) (h.bring 1) ?_))))
  rw [findE_num]
  unfold Bk.is
  cases hn : numOf s M with
  | some n =>
    have hn' : numAt s 0 M = some n := hn
    rw [hn']
    refine xjoin0 (XIf.yes rfl (xcall (numbered_spec n hs) fun v w'' ⟨e, h''⟩ => ⟨_, e, ?_, h''⟩))
    rw [sEq_str]
  | none =>
    have hn' : numAt s 0 M = none := hn
    rw [hn']
    exact xjoin0 (XIf.no rfl ⟨rfl, hs⟩)

end
end Go.X

/-! Package strings: HasPrefix, Trim of noughts, Builder.Grow, Repeat of a nought. -/
namespace Go.X
open Go.Proofs

section
variable {W w : World} {L : List SP} {T e : TypeId}

/-! ### Prefixes -/

theorem HasPrefix_spec (s p : List UInt8) (_hs : s.length ≤ 2 ^ 62) (hp : p.length ≤ 2 ^ 62) : Ret Tryz.prog F.strings_HasPrefix [.string (str s), .string (str p)] w fun v w' => v = .bool (decide (s.take p.length = p)) ∧ w' = w := by
  refine S.strings_HasPrefix_ok _ _ _ _ (xcall_eq (u := .bool (decide (s.take p.length = p))) (S.internal_stringslite_HasPrefix_ok _ _ _ _ ?_) _ rfl ⟨rfl, rfl⟩)
  have e1 : (str s).size = s.length := str_size s
  have e2 : (str p).size = p.length := str_size p
  by_cases h : p.length ≤ s.length
  · refine xjoin0 (XIf.yes (decide_eq_true (show (((str s).size : Nat) : Int) ≥ (((str p).size : Nat) : Int) by rw [e1, e2]; omega)) ⟨by rw [e1, e2]; omega, xlet (str (s.take p.length)) (by rw [Int.toNat_natCast, e2]; exact str_take _ _) ⟨?_, rfl⟩⟩)
    rw [sEq_str]
  · refine xjoin0 (XIf.no (decide_eq_false (show ¬ (((str s).size : Nat) : Int) ≥ (((str p).size : Nat) : Int) by rw [e1, e2]; omega)) ⟨?_, rfl⟩)
    have : ¬ s.take p.length = p := fun e => by
      have := congrArg List.length e
      rw [List.length_take] at this
      omega
    simp [this]

/-! ### Trimming noughts -/

def AllZ (l : List UInt8) : Prop := ∀ b ∈ l, b = 0

theorem allZ_snoc {l : List UInt8} {b : UInt8} : AllZ (l ++ [b]) ↔ AllZ l ∧ b = 0 := by
  constructor
  · intro h; exact ⟨fun x hx => h x (by simp [hx]), h b (by simp)⟩
  · rintro ⟨h1, h2⟩ x hx
    rcases List.mem_append.1 hx with hx | hx
    · exact h1 x hx
    · simp at hx; rw [hx]; exact h2

theorem allZ_cons {l : List UInt8} {b : UInt8} : AllZ (b :: l) ↔ b = 0 ∧ AllZ l := by
  simp [AllZ]

theorem getD_str (l : List UInt8) (k : Nat) : ((List.getD (ByteArray.data (str l)).toList k 0).toNat : Int) = ((l.getD k 0).toNat : Int) := by rw [str_toList]

theorem u8_zero (b : UInt8) : (((b.toNat : Nat) : Int) == 0) = decide (b = 0) := by
  by_cases h : b = 0
  · subst h; rfl
  · have : b.toNat ≠ 0 := fun e => h (UInt8.toNat.inj (by rw [e]; rfl))
    have h2 : ((b.toNat : Nat) : Int) ≠ 0 := by omega
    rw [decide_eq_false h]
    exact beq_false_of_ne h2

theorem trimLeft_spec (l : List UInt8) (hl : l.length ≤ 2 ^ 62) : Ret Tryz.prog F.strings_trimLeftByte [.string (str l), .int .u8 0] w fun v w' => (∃ m, v = .string (str m) ∧ (m = [] ↔ AllZ l)) ∧ w' = w := by
  refine S.strings_trimLeftByte_ok _ _ _ _ ?_
  refine xloop (fun (st : ByteArray × Unit) w' => ∃ m, st = (str m, ()) ∧ (AllZ m ↔ AllZ l) ∧ m.length ≤ 2 ^ 62 ∧ w' = w) (fun st => st.1.size) ⟨l, rfl, Iff.rfl, hl, rfl⟩ ?_
  rintro next _ w' ⟨m, rfl, hm, hml, rfl⟩ hnext
  have e1 : (str m).size = m.length := str_size m
  refine xjoin (fun (st : Bool × Unit) w'' => st = (decide (m.head? = some 0), ()) ∧ w'' = w') (fun J hJ => ?_) ?_
  · cases m with
    | nil => exact XIf.no (decide_eq_false (by show ¬ (((str []).size : Nat) : Int) > 0; rw [e1]; simp)) (hJ _ _ ⟨rfl, rfl⟩)
    | cons b m =>
      refine XIf.yes (decide_eq_true (by show (((str (b :: m)).size : Nat) : Int) > 0; rw [e1, List.length_cons]; omega)) ⟨⟨by omega, by show (0 : Int) < (((str (b :: m)).size : Nat) : Int); rw [e1, List.length_cons]; omega⟩, xlet (b.toNat : Int) (getD_str (b :: m) 0) (hJ _ _ ⟨?_, rfl⟩)⟩
      rw [u8_zero]; simp
  rintro _ w'' ⟨rfl, rfl⟩
  cases m with
  | nil => exact XIf.no rfl ⟨⟨[], rfl, ⟨fun _ => hm.1 (fun x hx => by cases hx), fun _ => rfl⟩⟩, rfl⟩
  | cons b m =>
    by_cases hb : b = 0
    · subst hb
      refine XIf.yes (by simp) ⟨⟨by omega, by omega, by show (1 : Int) ≤ (((str (0 :: m)).size : Nat) : Int); rw [e1, List.length_cons]; omega⟩, xlet (str m) ?_ (hnext _ _ ⟨m, rfl, ?_, by simp only [List.length_cons] at hml; omega, rfl⟩ ?_)⟩
      · rw [Int.toNat_natCast, str_drop (0 :: m) 1 (str (0 :: m)).size (by rw [e1]; exact Nat.le_refl _)]; rfl
      · rw [← hm, allZ_cons]; simp
      · show (str m).size < (str (0 :: m)).size
        rw [e1, str_size]; simp
    · refine XIf.no (by simp [hb]) ⟨⟨b :: m, rfl, ⟨fun h => (by cases h), fun h => ?_⟩⟩, rfl⟩
      exact absurd (allZ_cons.1 (hm.2 h)).1 hb

theorem getLast_getD (m : List UInt8) (b : UInt8) : (m ++ [b]).getD m.length 0 = b := by simp [List.getD_eq_getElem?_getD]

theorem trimRight_spec (l : List UInt8) (hl : l.length ≤ 2 ^ 62) : Ret Tryz.prog F.strings_trimRightByte [.string (str l), .int .u8 0] w fun v w' => (∃ m, v = .string (str m) ∧ (AllZ m ↔ AllZ l) ∧ m.length ≤ 2 ^ 62) ∧ w' = w := by
  refine S.strings_trimRightByte_ok _ _ _ _ ?_
  refine xloop (fun (st : ByteArray × Unit) w' => ∃ m, st = (str m, ()) ∧ (AllZ m ↔ AllZ l) ∧ m.length ≤ 2 ^ 62 ∧ w' = w) (fun st => st.1.size) ⟨l, rfl, Iff.rfl, hl, rfl⟩ ?_
  rintro next _ w' ⟨m, rfl, hm, hml, rfl⟩ hnext
  have e1 : (str m).size = m.length := str_size m
  rcases List.eq_nil_or_concat m with rfl | ⟨m, b, rfl⟩
  · refine xjoin0 (XIf.no (decide_eq_false (by show ¬ (((str []).size : Nat) : Int) > 0; rw [e1]; simp)) (XIf.no rfl ⟨⟨[], rfl, hm, hml⟩, rfl⟩))
  · rw [List.concat_eq_append] at *
    have hlen : (m ++ [b]).length = m.length + 1 := by simp
    have e2 : (str (m ++ [b])).size = m.length + 1 := by rw [e1, hlen]
    refine xjoin0 (XIf.yes (decide_eq_true (by show (((str (m ++ [b])).size : Nat) : Int) > 0; rw [e2]; omega)) (xlet ((m.length : Nat) : Int) (by show IntKind.wrap .i64 ((((str (m ++ [b])).size : Nat) : Int) - 1) = _; rw [e2, wi (by omega) (by omega)]; omega) ⟨⟨by omega, by show ((m.length : Nat) : Int) < (((str (m ++ [b])).size : Nat) : Int); rw [e2]; omega⟩, xlet (b.toNat : Int) ?_ ?_⟩))
    · rw [Int.toNat_natCast, getD_str, getLast_getD]
    · rw [u8_zero]
      by_cases hb : b = 0
      · refine XIf.yes (decide_eq_true hb) (xlet ((m.length : Nat) : Int) (by show IntKind.wrap .i64 ((((str (m ++ [b])).size : Nat) : Int) - 1) = _; rw [e2, wi (by omega) (by omega)]; omega) ⟨⟨⟨by omega, by show ((m.length : Nat) : Int) ≤ (((str (m ++ [b])).size : Nat) : Int); rw [e2]; omega⟩, by omega, by omega⟩, xlet (str m) ?_ (hnext _ _ ⟨m, rfl, ?_, by omega, rfl⟩ ?_)⟩)
        · rw [Int.toNat_natCast, str_take]; simp
        · rw [← hm, allZ_snoc]; simp [hb]
        · show (str m).size < (str (m ++ [b])).size
          rw [e2, str_size]; omega
      · exact XIf.no (decide_eq_false hb) ⟨⟨m ++ [b], rfl, hm, hml⟩, rfl⟩

theorem Trim_spec (l : List UInt8) (hl : l.length ≤ 2 ^ 62) : Ret Tryz.prog F.strings_Trim [.string (str l), .string ⟨#[0]⟩] w fun v w' => ∃ m, v = .string (str m) ∧ (m = [] ↔ AllZ l) ∧ Quiet w w' := by
  refine S.strings_Trim_ok _ _ _ _ ?_
  by_cases h0 : l = []
  · subst h0
    exact xjoin0 (XIf.yes (by rw [str_empty]; rfl) (XIf.yes rfl ⟨[], rfl, ⟨fun _ x hx => (by cases hx), fun _ => rfl⟩, Quiet.refl _⟩))
  · refine xjoin0 (XIf.no (by rw [str_empty]; simpa using h0) (XIf.no (by show sEq (str [0]) ByteArray.empty = false; rw [str_empty]; rfl) (xjoin0 (XIf.yes rfl ⟨⟨by decide, by decide⟩, xlet (0 : Int) rfl (XIf.yes rfl ⟨⟨by decide, by decide⟩, xlet (0 : Int) rfl ⟨⟨by decide, by decide⟩, xlet (0 : Int) rfl ?_⟩⟩)⟩))))
    refine xcall (trimRight_spec l hl) ?_
    rintro v w1 ⟨⟨m, rfl, hm, hml⟩, rfl⟩
    refine ⟨str m, rfl, xcall (trimLeft_spec m hml) ?_⟩
    rintro v w1 ⟨⟨k, rfl, hk⟩, rfl⟩
    exact ⟨str k, rfl, k, rfl, hk.trans hm, (Quiet.refl _).drew⟩

/-! ### Growing -/

theorem makeNoZero_run (n : Nat) (hn : n ≤ 281474976710656) (he : Tryz.prog.underlying (Fn.internal_bytealg_MakeNoZero.resultTypes.getD 0 0) = some (.slice e)) (w : World) : ∃ cs : Array Value,
    (extRun Tryz.prog F.internal_bytealg_MakeNoZero ⟨[.int .i64 n]⟩).run Tryz.prog w = .ok (.slice (some ⟨w.heap.size, 0, none⟩) n cs.size) (w.drew.drew.alloc (.cells cs e)) ∧ n ≤ cs.size := by
  obtain ⟨cs, h1, h2, _⟩ := Lib.run_makeNoZero (P := Tryz.prog) w Fn.internal_bytealg_MakeNoZero.params _ e he n hn
  refine ⟨cs, ?_, h2⟩
  rw [ext_run Fu.internal_bytealg_MakeNoZero (by kernel_rfl) (by kernel_rfl) (by kernel_rfl) (e := Extern.BytealgMakeNoZero.makeNoZero Fn.internal_bytealg_MakeNoZero.params #[Fn.internal_bytealg_MakeNoZero.resultTypes.getD 0 0]) (by kernel_rfl)]
  exact h1

/-- A copy of cells to a block's beginning. -/
theorem xcopyF {P : Program} {dT sT ty : TypeId} {b n c c' : Nat} {p : Option Addr} {cs vs : List Value} {K : Int → World → Prop} (hok : okCopy P dT 1 = true) (hs : Sat W w (ptsF T b cs 0 :: L)) (hn : n ≤ cs.length) (hvs : vs.length = n) (h1 : allOne vs = true)
    (hr : ∀ a, p = some a → ∀ j v, vs[j]? = some v → w.cell? (a.add j) = some v) (hp : p = none → n = 0)
    (hk : ∀ w', Sat W w' (ptsF T b (vs ++ cs.drop n) 0 :: L) → K n w') :
    XDo P (Builtin.copy_ #[dT, sT] ty ⟨[.slice (some ⟨b, 0, none⟩) n c, .slice p n c']⟩) (.leaf (.int .i64)) w K := by
  obtain ⟨e, i, ht, hi, hi1⟩ := okCopy_spec hok
  have hst := xstoresF (W := W) (L := L) (T := T) (b := b) (o := 0) (k := 0) (K := fun w' => Sat W w' (ptsF T b (splice cs 0 vs) 0 :: L)) vs 0 w _ hs (Nat.le_refl _) (by omega) (fun w' h => by simpa using h)
  obtain ⟨w', hrun, hw⟩ := run_stores (P := P) vs 0 w h1 hst
  have hsp : splice cs 0 vs = vs ++ cs.drop n := by simp [splice, hvs]
  rw [hsp] at hw
  have hf : (Builtin.firstCells 1 n (.slice p n c')).run P w = .ok ⟨vs⟩ w :=
    run_first (P := P) (sz := 1) (n := n) (s := ⟨p, n, c'⟩) (vs := vs) hr (by omega) (fun h => List.eq_nil_of_length_eq_zero (by rw [hvs]; exact hp h)) n c'
  refine ⟨(n : Int), w', ?_, hk w' hw⟩
  simp [Builtin.copy_, run_underlying ht, run_size' hi, hi1, Builtin.lenOf, hf, hrun, goInt, Ty.mk, Leaf.mk]

/-- A builder that was never written gets room. -/
theorem Grow_spec (hB : BTypes T e) {b n : Nat} (hs : Sat W w (ptsF T b [.pointer none, .slice none 0 0] 0 :: L)) (hn : 0 < n) (hsz : n ≤ 2 ^ 44) :
    Ret Tryz.prog F.strings_Builder_Grow [ptr b, .int .i64 n] w fun v w' => v = .tuple ⟨[]⟩ ∧ Sat W w' (BuildP T e b [] :: L) := by
  refine S.strings_Builder_Grow_ok _ _ _ _ (xcalls (copyCheckG (u := false) (g := ⟨none, 0, 0⟩) hB hs) ?_)
  rintro v w1 ⟨rfl, h⟩
  have hd := h.drew
  refine ⟨(), rfl, xjoin0 (XIf.no (decide_eq_false (show ¬ (n : Int) < 0 by omega)) (xnil (xloadF hd 1 rfl rfl (xnil (xloadF hd 1 rfl rfl (xlet (0 : Int) (wi (by decide) (by decide)) (XIf.yes (decide_eq_true (show (0 : Int) < (n : Int) by omega)) ?_)))))))⟩
  refine xcalls (Q := fun v w' => v = .tuple ⟨[]⟩ ∧ Sat W w' (BuildP T e b [] :: L)) ?_ (fun v w' ⟨h1, h2⟩ => ⟨(), h1, rfl, h2⟩)
  have hd2 := hd.drew
  refine S.strings_Builder_grow_ok _ _ _ _ (xnil (xloadF hd2 1 rfl rfl (xlet (0 : Int) (wi (by decide) (by decide)) (xlet (n : Int) (by rw [wi (by omega) (by omega)]; omega) (xnil (xloadF hd2 1 rfl rfl ?_))))))
  obtain ⟨cs, hr, hcs⟩ := makeNoZero_run (e := e) n (by omega) (by rw [hB.byte]; kernel_rfl) w1.drew.drew
  refine ⟨⟨some ⟨w1.drew.drew.heap.size, 0, none⟩, n, cs.size⟩, _, hr, ?_⟩
  have h3 : Sat W (w1.drew.drew.drew.drew.alloc (.cells cs e)) (ptsF e w1.drew.drew.heap.size cs.toList 0 :: _) := (hd2.drew.drew).new_blockF (cs := cs.toList) (T := e)
  refine ⟨(h3.bring 1).cellF rfl, (h3.bring 1).cellF rfl, ⟨⟨by omega, by show ((0 : Nat) : Int) ≤ ((cs.size : Nat) : Int); omega⟩, by omega, by omega⟩, xlet (⟨some ⟨w1.drew.drew.heap.size, 0, none⟩, 0, cs.size⟩ : Sl) ?_ (xnil (xloadF (h3.bring 1) 1 rfl rfl ?_))⟩
  · have hne : ¬ cs.size = 0 := by omega
    show (⟨if cs.size = 0 then _ else Option.map _ (some _), _, _⟩ : Sl) = _
    rw [if_neg hne]
    simp [Addr.add_mk]
  refine xcopyF (n := 0) (vs := []) (by kernel_rfl) h3 (Nat.zero_le _) rfl rfl (fun a ha => by cases ha) (fun _ => rfl) fun w4 h4 => xnil (xstoreF (h4.bring 1) 1 rfl (by simp) (Nat.zero_le _) fun w5 h5 => ⟨rfl, ?_⟩)
  refine BuildP.shut true (g := ⟨some ⟨w1.drew.drew.heap.size, 0, none⟩, 0, cs.size⟩) ?_
  refine (Sat.buf_shut (e := e) (g := ⟨some ⟨w1.drew.drew.heap.size, 0, none⟩, 0, cs.size⟩) (bs := []) (rest := cs.toList) rfl rfl ⟨by simp, by show 0 < cs.size; omega⟩ ?_).swap
  exact h5.swap

/-! ### Repeating -/

/-- A loop: what holds at each round's head, with a number that falls. -/
theorem xloopN {α : Type} {body : (α → World → Prop) → α → World → Prop} (I : Nat → α → World → Prop) {s : α} (m : Nat) (h0 : I m s w)
    (hr : ∀ next m s w, I m s w → (∀ m' s' w', m' < m → I m' s' w' → next s' w') → body next s w) : XLoop body s w := by
  have key : ∀ n m s w, m < n → I m s w → iterL body n s w := by
    intro n
    induction n with
    | zero => intro m s w h _; omega
    | succ n ih =>
      intro m s w h hi
      exact hr _ m s w hi fun m' s' w' hlt hi' => ih m' s' w' (by omega) hi'
  exact ⟨m + 1, key _ m s w (Nat.lt_succ_self _) h0⟩

theorem xnewRaw {T' : TypeId} {cs : List Value} {K : Addr → World → Prop} (hT : T' = T) (hs : Sat W w L) (hk : ∀ b w', Sat W w' (ptsF T b cs 0 :: L) → K ⟨b, 0, none⟩ w') : XNew T' cs w K := by
  subst hT
  exact xnewT hs hk

theorem and32 (n : Nat) (h : n < 2 ^ 64) : ibits .and .u64 (n : Int) 4294967295 = ((n % 2 ^ 32 : Nat) : Int) := by
  show IntKind.wrap .u64 ((BitVec.ofInt 64 (n : Int) &&& BitVec.ofInt 64 4294967295).toNat : Int) = _
  have h1 : (BitVec.ofInt 64 (n : Int)).toNat = n := by
    rw [BitVec.toNat_ofInt]; omega
  have h2 : (BitVec.ofInt 64 4294967295).toNat = 2 ^ 32 - 1 := by decide
  rw [BitVec.toNat_and, h1, h2, Nat.and_two_pow_sub_one_eq_mod, wu (by omega) (by omega)]

theorem shr32 (n : Nat) : ishr .u64 (n : Int) 32 = ((n / 2 ^ 32 : Nat) : Int) := by
  unfold ishr
  rw [show (32 : Int).toNat = 32 from rfl, show IntKind.bits .u64 = 64 from rfl, show min 32 64 = 32 from rfl]
  rw [Int.fdiv_eq_ediv_of_nonneg _ (by decide)]
  omega

/-- One times a number. -/
theorem Mul1_spec (n : Nat) (hn : n ≤ 2 ^ 44) : Ret Tryz.prog F.math_bits_Mul [.int .u64 1, .int .u64 n] w fun v w' => v = .tuple ⟨[.int .u64 0, .int .u64 n]⟩ ∧ w' = w := by
  refine S.math_bits_Mul_ok _ _ _ _ (xcalls_eq (u := .tuple ⟨[.int .u64 0, .int .u64 n]⟩) (S.math_bits_Mul64_ok _ _ _ _ ?_) (0, (n : Int), ()) rfl ⟨rfl, rfl⟩)
  have hq : n / 2 ^ 32 < 2 ^ 32 := by omega
  refine xlet (1 : Int) (and32 1 (by decide)) ⟨by decide, xlet (0 : Int) (shr32 1) (xlet ((n % 2 ^ 32 : Nat) : Int) (and32 n (by omega)) ⟨by decide, xlet ((n / 2 ^ 32 : Nat) : Int) (shr32 n) ?_⟩)⟩
  refine xlet ((n % 2 ^ 32 : Nat) : Int) (by rw [wu (by omega) (by omega)]; omega) (xlet (0 : Int) (by rw [Int.zero_mul, wu (by decide) (by decide)]) ⟨by decide, xlet (0 : Int) (by rw [shr32]; omega) (xlet (0 : Int) (wu (by decide) (by decide)) (xlet (0 : Int) (and32 0 (by decide)) ⟨by decide, xlet (0 : Int) (shr32 0) ?_⟩))⟩)
  refine xlet ((n / 2 ^ 32 : Nat) : Int) (by rw [wu (by omega) (by omega)]; omega) (xlet ((n / 2 ^ 32 : Nat) : Int) (by rw [wu (by omega) (by omega)]; omega) (xlet (0 : Int) (by rw [Int.zero_mul, wu (by decide) (by decide)]) (xlet (0 : Int) (wu (by decide) (by decide)) ⟨by decide, xlet (0 : Int) (by rw [shr32]; omega) (xlet (0 : Int) (wu (by decide) (by decide)) (xlet (n : Int) (by rw [wu (by omega) (by omega)]; omega) ⟨rfl, rfl⟩))⟩)))

theorem Repeat_spec (n : Nat) (hn : n ≤ 2 ^ 40) (hs : Sat W w L) : Ret Tryz.prog F.strings_Repeat [.string ⟨#[0]⟩, .int .i64 n] w fun v w' => v = .string (str (List.replicate n 0)) ∧ Sat W w' L := by
  suffices H : ∀ K : Value → World → Prop, (∀ w', Sat W w' L → K (.string (str (List.replicate n 0))) w') → S.strings_Repeat ⟨#[0]⟩ n K w from S.strings_Repeat_ok _ _ _ _ (H _ fun _ h => ⟨rfl, h⟩)
  intro K hK
  have sz1 : ByteArray.size (⟨#[0]⟩ : ByteArray) = 1 := rfl
  by_cases h0 : n = 0
  · subst h0; exact XIf.yes rfl (hK w hs)
  refine XIf.no (by simpa using h0) ?_
  by_cases h1 : n = 1
  · subst h1; exact XIf.yes rfl (hK w hs)
  refine XIf.no (by have : ¬ (n : Int) = 1 := by omega
                    simpa using this) (xjoin0 (XIf.no (decide_eq_false (show ¬ (n : Int) < 0 by omega)) ?_))
  refine xlet (1 : Int) (wu (by decide) (by decide)) (xlet (n : Int) (wu (by omega) (by omega)) (xcalls_eq (Mul1_spec n (by omega)) (0, (n : Int), ()) rfl (xjoin0 (xjoin0 (XIf.no rfl (XIf.no (decide_eq_false (show ¬ (n : Int) > 9223372036854775807 by omega)) ?_))))))
  refine xlet (n : Int) (by show IntKind.wrap .i64 (n : Int) = _; exact wi (by omega) (by omega)) (XIf.no rfl (xjoin0 ⟨⟨by decide, by decide⟩, xlet (0 : Int) rfl (xjoin0 (XIf.no rfl (XIf.no rfl (XIf.no rfl (XIf.no rfl (XIf.no rfl ?_))))))⟩))
  refine xjoin (fun (st : Int × Unit) w' => ∃ c : Nat, st = ((c : Int), ()) ∧ 1 ≤ c ∧ w' = w) (fun J hJ => ?_) ?_
  · by_cases hbig : (n : Int) > 8192
    · exact XIf.yes (decide_eq_true hbig) ⟨by decide, xlet (8192 : Int) rfl (xlet (8192 : Int) rfl (XIf.no rfl (hJ _ _ ⟨8192, rfl, by decide, rfl⟩)))⟩
    · exact XIf.no (decide_eq_false hbig) (hJ _ _ ⟨n, rfl, by omega, rfl⟩)
  rintro _ w' ⟨c, rfl, hc, rfl⟩
  obtain ⟨T, e, hB⟩ := btypes
  refine xnewRaw (T := T) (by rw [hB.builder]; kernel_rfl) hs fun b w1 hb => xcalls (Grow_spec hB hb (by omega) (by omega)) ?_
  rintro v w2 ⟨rfl, h2⟩
  refine ⟨(), rfl, xcalls (WriteString_spec hB h2 (by rw [sz1]; simp)) ?_⟩
  rintro v w3 ⟨rfl, h3⟩
  refine ⟨((1 : Nat), .nilIface, ()), rfl, ?_⟩
  refine xloopN (fun m (_ : Unit) w => ∃ q : Nat, m = n - q ∧ 1 ≤ q ∧ q ≤ n ∧ Sat W w (BuildP T e b (List.replicate q 0) :: L)) (n - 1) ⟨1, rfl, by omega, by omega, h3⟩ ?_
  clear h2 h3 hb
  rintro next m _ w ⟨q, rfl, hq1, hqn, h⟩ hnext
  have hlen : (List.replicate q (0 : UInt8)).length = q := List.length_replicate
  refine xcall_eq (Len_spec h) (q : Int) (by rw [hlen]; rfl) ?_
  by_cases hlt : q < n
  · refine XIf.yes (decide_eq_true (show (q : Int) < (n : Int) by omega)) (xcall_eq (Len_spec h) (q : Int) (by rw [hlen]; rfl) (xlet ((n - q : Nat) : Int) (by rw [wi (by omega) (by omega)]; omega) (xcall_eq (Len_spec h) (q : Int) (by rw [hlen]; rfl) ?_)))
    obtain ⟨k, hk⟩ : ∃ k, min (min (n - q) q) c = k := ⟨_, rfl⟩
    refine xlet (k : Int) ?_ (xcall (String_spec hB h (by rw [hlen]; omega)) ?_)
    · show (if (c : Int) < (if (q : Int) < ((n - q : Nat) : Int) then (q : Int) else ((n - q : Nat) : Int)) then (c : Int) else (if (q : Int) < ((n - q : Nat) : Int) then (q : Int) else ((n - q : Nat) : Int))) = _
      by_cases h1 : (q : Int) < ((n - q : Nat) : Int)
      · rw [if_pos h1]
        by_cases h2 : (c : Int) < (q : Int)
        · rw [if_pos h2]; omega
        · rw [if_neg h2]; omega
      · rw [if_neg h1]
        by_cases h2 : (c : Int) < ((n - q : Nat) : Int)
        · rw [if_pos h2]; omega
        · rw [if_neg h2]; omega
    rintro v w4 ⟨rfl, h4⟩
    have e1 : (str (List.replicate q (0 : UInt8))).size = q := by rw [str_size, hlen]
    refine ⟨_, rfl, ⟨⟨by omega, by show (k : Int) ≤ (((str (List.replicate q (0 : UInt8))).size : Nat) : Int); rw [e1]; omega⟩, by omega, by omega⟩, xlet (str (List.replicate k 0)) ?_ (xcalls (WriteString_spec hB h4 (by rw [hlen, str_size, List.length_replicate]; omega)) ?_)⟩
    · rw [Int.toNat_natCast, str_take, List.take_replicate, Nat.min_eq_left (by omega)]
    rintro v w5 ⟨rfl, h5⟩
    refine ⟨(((str (List.replicate k (0 : UInt8))).size : Int), .nilIface, ()), rfl, hnext (n - (q + k)) () w5 (by omega) ⟨q + k, rfl, by omega, by omega, ?_⟩⟩
    rw [str_toList, ← List.replicate_append_replicate] at *
    exact h5
  · have : q = n := by omega
    subst this
    refine XIf.no (decide_eq_false (show ¬ (q : Int) < (q : Int) by omega)) (xcall (String_spec hB h (by rw [hlen]; omega)) ?_)
    rintro v w4 ⟨rfl, h4⟩
    exact ⟨_, rfl, hK w4 h4.drop⟩

end
end Go.X


/-! The log, plain: names, records, and what its calls make of a device and a book. -/
namespace Go.X

/-! ### Bytes -/

def pre4 : List UInt8 := [115, 101, 103, 45]
def digits8 (n : Nat) : List UInt8 := (List.range 8).map fun i => UInt8.ofNat (48 + n / 10 ^ (7 - i) % 10)
/-- A segment's name. -/
def segName (n : Nat) : List UInt8 := pre4 ++ digits8 n
abbrev nm (n : Nat) : ByteArray := str (segName n)

def decV : Nat → List UInt8 → Option Nat
  | acc, [] => some acc
  | acc, c :: l => if c.toNat < 48 ∨ 57 < c.toNat then none else decV (10 * acc + (c.toNat - 48)) l

/-- The segment of a name. -/
def segNum (s : List UInt8) : Option Nat := if s.length ≠ 12 ∨ s.take 4 ≠ pre4 then none else decV 0 (s.drop 4)

def four (n : Nat) : List UInt8 := [UInt8.ofNat n, UInt8.ofNat (n / 256), UInt8.ofNat (n / 65536), UInt8.ofNat (n / 16777216)]
def val4 (l : List UInt8) : Nat := (l.getD 0 0).toNat + 256 * (l.getD 1 0).toNat + 65536 * (l.getD 2 0).toNat + 16777216 * (l.getD 3 0).toNat

def pre8 : List UInt8 := [115, 101, 103, 109, 101, 110, 116, 32]
/-- The mark ahead of a segment's first record. -/
def firstM (n : Nat) : List UInt8 := pre8 ++ segName n

/-! ### Calls -/

/-- A log: its segment, where the next record stands, the last one's mark. -/
structure LG where
  n : Nat
  end_ : Nat
  mark : List UInt8

/-- Records' bytes. -/
structure PB where
  err : Int
  bytes : List UInt8
  mark : List UInt8
  book : Bk

def putB (sign : UInt8) : List (List UInt8) → PB → PB
  | [], S => S
  | s :: l, S => if 1048832 < s.length then { S with err := 4 } else
    putB sign l { S with bytes := S.bytes ++ (four (sign :: s).length ++ S.book.mark (S.mark ++ sign :: s) ++ sign :: s), mark := S.book.mark (S.mark ++ sign :: s), book := S.book.add (S.mark ++ sign :: s) }

/-- What a call leaves: its answer, the device, the book, the log. -/
structure PR4 where
  err : Int
  disk : DD
  book : Bk
  log : LG

def putW (D : DD) (M : Bk) (l : LG) (sign : UInt8) (list : List (List UInt8)) : PR4 :=
  let S := putB sign list ⟨0, [], l.mark, M⟩
  if S.err ≠ 0 then ⟨S.err, D, S.book, l⟩ else
  let R := D.write (nm l.n) l.end_ S.bytes
  if R.1 ≠ 0 then ⟨R.1, R.2, S.book, l⟩ else ⟨0, R.2, S.book, ⟨l.n, l.end_ + S.bytes.length, S.mark⟩⟩

def beginW (D : DD) (M : Bk) (n : Nat) (snap : List (List UInt8)) : PR4 :=
  let C := D.create (nm n)
  if C.1 ≠ 0 then ⟨C.1, C.2, M, ⟨n, 0, firstM n⟩⟩ else
  let A := putW C.2 M ⟨n, 0, firstM n⟩ 83 snap
  let B := if A.err = 0 then putW A.disk A.book A.log 69 [[]] else A
  let S := if B.err = 0 then B.disk.sync else (B.err, B.disk)
  let D' := if S.1 = 7 ∨ S.1 = 4 ∨ S.1 = 2 then (S.2.remove (nm n)).2 else S.2
  ⟨S.1, D', B.book, B.log⟩

/-- The segments that are there, the greatest first. -/
def segsW (D : DD) : List Nat := D.names.reverse.filterMap fun x => segNum x.data.toList

def dropAll (D : DD) (ns : List Nat) : DD := ns.foldl (fun D n => (D.remove (nm n)).2) D
def dropBut (D : DD) (ns : List Nat) (n : Nat) : DD := ns.foldl (fun D k => if k ≠ n then (D.remove (nm k)).2 else D) D

def formatW (D : DD) (M : Bk) : PR4 :=
  if D.off then ⟨14, D, M, ⟨1, 0, firstM 1⟩⟩ else beginW (dropAll D (segsW D)) M 1 []

/-- The record that stands at a place: what it has, its mark. -/
def nextB (M : Bk) (all : List UInt8) (at_ : Nat) (last : List UInt8) : Option (List UInt8 × List UInt8) :=
  if all.length < at_ + 36 then none else
  let n := val4 ((all.drop at_).take 4)
  if n < 1 ∨ 1048833 < n ∨ all.length < at_ + 36 + n then none else
  let m := (all.drop (at_ + 4)).take 32
  let s := (all.drop (at_ + 36)).take n
  if M.is (last ++ s) m then some (s, m) else none

/-- What was read of a segment so far. -/
structure LD where
  end_ : Nat
  mark : List UInt8
  sealed : Bool
  out : List (List UInt8)

def loadStep (S : LD) (s m : List UInt8) : Option LD :=
  if s = [69] ∧ S.sealed = false then some ⟨S.end_ + 36 + s.length, m, true, S.out⟩
  else if s.headD 0 = 83 ∧ S.sealed = false ∨ s.headD 0 = 82 ∧ S.sealed = true then some ⟨S.end_ + 36 + s.length, m, S.sealed, S.out ++ [s.tail]⟩
  else none

def loadL (M : Bk) (all : List UInt8) : Nat → LD → LD
  | 0, S => S
  | k + 1, S => match nextB M all S.end_ S.mark with
    | none => S
    | some (s, m) => match loadStep S s m with
      | none => S
      | some S' => loadL M all k S'

def loadF (M : Bk) (all : List UInt8) (n : Nat) : LD := loadL M all (all.length + 1) ⟨0, firstM n, false, []⟩

/-- What a segment holds, if its file can be read. -/
def loadW (D : DD) (M : Bk) (n : Nat) : Option LD :=
  if (D.size (nm n)).2 ≠ 0 then none else
  if (D.read (nm n) 0 (D.size (nm n)).1).2 ≠ 0 then none else some (loadF M (D.read (nm n) 0 (D.size (nm n)).1).1 n)

def allZ (l : List UInt8) : Bool := l.all fun b => b == 0

def wipeW (D : DD) (l : LG) : Int × DD :=
  let z := D.size (nm l.n)
  if z.2 ≠ 0 then (z.2, D) else
  let r := D.read (nm l.n) l.end_ (z.1 - l.end_)
  if r.2 ≠ 0 ∨ allZ r.1 = true then (r.2, D) else
  let R := D.write (nm l.n) l.end_ (List.replicate r.1.length 0)
  if R.1 ≠ 0 then R else R.2.sync

def LD.log (S : LD) (n : Nat) : LG := ⟨n, S.end_, S.mark⟩

/-- What Open finds. -/
structure OR where
  err : Int
  disk : DD
  log : LG
  out : List (List UInt8)

def openL (D : DD) (M : Bk) (all : List Nat) : List Nat → OR
  | [] => ⟨8, D, ⟨0, 0, []⟩, []⟩
  | n :: ns => match loadW D M n with
    | some S => if S.sealed then
        let w := wipeW (dropBut D all n) (S.log n)
        ⟨w.1, w.2, S.log n, S.out⟩
      else openL D M all ns
    | none => openL D M all ns

def openW (D : DD) (M : Bk) : OR := if D.off then ⟨14, D, ⟨0, 0, []⟩, []⟩ else openL D M (segsW D) (segsW D)

def turnW (D : DD) (M : Bk) (l : LG) (snap : List (List UInt8)) : PR4 :=
  if l.n = 99999999 then ⟨2, D, M, l⟩ else
  let B := beginW D M (l.n + 1) snap
  if B.err ≠ 0 then ⟨B.err, B.disk, B.book, l⟩ else ⟨0, (B.disk.remove (nm l.n)).2, B.book, B.log⟩

end Go.X

/-! The log's small functions. -/
namespace Go.X
open Go.Proofs

/-! ### Plain -/

theorem digits8_length (n : Nat) : (digits8 n).length = 8 := by simp [digits8]
theorem segName_length (n : Nat) : (segName n).length = 12 := by simp [segName, pre4, digits8_length]
theorem nm_size (n : Nat) : (nm n).size = 12 := by rw [nm, str_size, segName_length]

theorem digits8_get (n j : Nat) (h : j < 8) : (digits8 n)[j]'(by rw [digits8_length]; exact h) = UInt8.ofNat (48 + n / 10 ^ (7 - j) % 10) := by simp [digits8]

theorem digits8_drop (n j : Nat) (h : j < 8) : (digits8 n).drop j = UInt8.ofNat (48 + n / 10 ^ (7 - j) % 10) :: (digits8 n).drop (j + 1) := by
  rw [List.drop_eq_getElem_cons (by rw [digits8_length]; exact h), digits8_get n j h]

/-- Where a number has no more digits: noughts. -/
theorem digits8_take (n j : Nat) (hj : j ≤ 8) (h : n / 10 ^ j = 0) : (digits8 n).take (8 - j) = List.replicate (8 - j) 48 := by
  apply List.ext_getElem
  · rw [List.length_take, digits8_length, List.length_replicate]; omega
  · intro k h1 h2
    rw [List.length_replicate] at h2
    rw [List.getElem_take, List.getElem_replicate, digits8_get n k (by omega)]
    have : n / 10 ^ (7 - k) = 0 := by
      apply Nat.div_eq_of_lt
      have h3 : n < 10 ^ j := by
        rcases Nat.lt_or_ge n (10 ^ j) with h | h'
        · exact h
        · have := Nat.div_pos h' (Nat.pow_pos (by decide)); omega
      exact Nat.lt_of_lt_of_le h3 (Nat.pow_le_pow_right (by decide) (by omega))
    rw [this]; rfl

theorem decV_snoc : ∀ (l : List UInt8) (acc n : Nat) (c : UInt8), decV acc l = some n → 48 ≤ c.toNat → c.toNat ≤ 57 → decV acc (l ++ [c]) = some (10 * n + (c.toNat - 48))
  | [], acc, n, c, h, h1, h2 => by
    simp [decV] at h
    subst h
    simp only [List.nil_append, decV]
    rw [if_neg (by omega)]
  | d :: l, acc, n, c, h, h1, h2 => by
    simp only [decV, List.cons_append] at h ⊢
    split at h
    · cases h
    · rename_i hd
      rw [if_neg hd]
      exact decV_snoc l _ n c h h1 h2

theorem digit_toNat (m : Nat) : (UInt8.ofNat (48 + m % 10)).toNat = 48 + m % 10 := by
  rw [UInt8.toNat_ofNat']; omega

theorem decV_digits (n : Nat) : ∀ k, k ≤ 8 → decV 0 ((digits8 n).take k) = some (n / 10 ^ (8 - k) % 10 ^ k)
  | 0, _ => by simp [decV, Nat.mod_one]
  | k + 1, hk => by
    have ih := decV_digits n k (by omega)
    have hg : (digits8 n)[k]? = some (UInt8.ofNat (48 + n / 10 ^ (7 - k) % 10)) := by
      rw [List.getElem?_eq_getElem (by rw [digits8_length]; omega), digits8_get n k (by omega)]
    rw [List.take_add_one, hg]
    simp only [Option.toList_some]
    rw [decV_snoc _ _ _ _ ih (by rw [digit_toNat]; omega) (by rw [digit_toNat]; omega), digit_toNat]
    congr 1
    have e1 : 8 - k = (7 - k) + 1 := by omega
    have e2 : 8 - (k + 1) = 7 - k := by omega
    rw [e1, e2, Nat.pow_succ, ← Nat.div_div_eq_div_mul]
    obtain ⟨m, hm⟩ : ∃ m, n / 10 ^ (7 - k) = m := ⟨_, rfl⟩
    rw [hm, Nat.pow_succ, Nat.mul_comm (10 ^ k) 10, Nat.mod_mul]
    omega

theorem segNum_segName (n : Nat) (h : n < 100000000) : segNum (segName n) = some n := by
  unfold segNum
  rw [if_neg (by
    intro hc
    rcases hc with hc | hc
    · exact hc (segName_length n)
    · exact hc (by simp [segName, pre4]))]
  have : (segName n).drop 4 = digits8 n := by simp [segName, pre4]
  rw [this]
  have := decV_digits n 8 (Nat.le_refl _)
  rw [List.take_of_length_le (by rw [digits8_length]; exact Nat.le_refl _)] at this
  rw [this]
  simp
  omega

theorem decV_bound : ∀ (l : List UInt8) (acc n : Nat), decV acc l = some n → n < (acc + 1) * 10 ^ l.length
  | [], acc, n, h => by simp [decV] at h; subst h; simp
  | c :: l, acc, n, h => by
    simp only [decV] at h
    split at h
    · cases h
    · rename_i hc
      have := decV_bound l _ n h
      rw [List.length_cons, Nat.pow_succ, Nat.mul_comm (10 ^ l.length) 10, ← Nat.mul_assoc]
      refine Nat.lt_of_lt_of_le this (Nat.mul_le_mul_right _ ?_)
      omega

theorem segNum_lt {s : List UInt8} {n : Nat} (h : segNum s = some n) : n < 100000000 := by
  unfold segNum at h
  split at h
  · cases h
  · rename_i hc
    have hl : s.length = 12 := by
      by_cases h : s.length = 12
      · exact h
      · exact absurd (.inl h) hc
    have := decV_bound _ _ _ h
    rw [List.length_drop, hl] at this
    simpa using this

/-- A name of a segment is that segment's. -/
theorem digits_of_decV : ∀ (l : List UInt8) (acc n : Nat), decV acc l = some n → ∀ j, j < l.length → l[j]? = some (UInt8.ofNat (48 + n / 10 ^ (l.length - 1 - j) % 10)) ∧ n / 10 ^ l.length = acc
  | [], _, _, _, j, hj => by simp at hj
  | c :: l, acc, n, h, j, hj => by
    simp only [decV] at h
    split at h
    · cases h
    · rename_i hc
      have hacc : n / 10 ^ l.length = 10 * acc + (c.toNat - 48) := by
        cases l with
        | nil => simp [decV] at h; simp [h]
        | cons d l => exact (digits_of_decV (d :: l) _ n h 0 (by simp)).2
      have hdiv : n / 10 ^ (c :: l).length = acc := by
        rw [List.length_cons, Nat.pow_succ, ← Nat.div_div_eq_div_mul, hacc]; omega
      refine ⟨?_, hdiv⟩
      cases j with
      | zero =>
        simp only [List.getElem?_cons_zero, List.length_cons, Nat.add_sub_cancel, Nat.sub_zero, hacc]
        congr 1
        apply UInt8.toNat.inj
        rw [show 48 + (10 * acc + (c.toNat - 48)) % 10 = 48 + (c.toNat - 48) % 10 by omega, digit_toNat]
        omega
      | succ j =>
        simp only [List.length_cons] at hj
        have := (digits_of_decV l _ n h j (by omega)).1
        rw [List.getElem?_cons_succ, this, List.length_cons, show l.length + 1 - 1 - (j + 1) = l.length - 1 - j by omega]

theorem segName_segNum {s : List UInt8} {n : Nat} (h : segNum s = some n) : s = segName n := by
  unfold segNum at h
  split at h
  · cases h
  · rename_i hc
    have hl : s.length = 12 := by
      by_cases h : s.length = 12
      · exact h
      · exact absurd (.inl h) hc
    have hp : s.take 4 = pre4 := by
      by_cases h : s.take 4 = pre4
      · exact h
      · exact absurd (.inr h) hc
    rw [← List.take_append_drop 4 s, hp]
    unfold segName
    congr 1
    have hdl : (s.drop 4).length = 8 := by rw [List.length_drop, hl]
    apply List.ext_getElem?
    intro j
    by_cases hj : j < 8
    · rw [(digits_of_decV _ _ _ h j (by omega)).1, List.getElem?_eq_getElem (by rw [digits8_length]; exact hj), digits8_get n j hj, hdl]
    · rw [List.getElem?_eq_none (by omega), List.getElem?_eq_none (by rw [digits8_length]; omega)]

theorem segName_inj {m n : Nat} (hm : m < 100000000) (hn : n < 100000000) (h : segName m = segName n) : m = n := by
  have h1 := segNum_segName m hm
  rw [h, segNum_segName n hn] at h1
  exact (Option.some.inj h1).symm

theorem nm_inj {m n : Nat} (hm : m < 100000000) (hn : n < 100000000) (h : nm m = nm n) : m = n := segName_inj hm hn (str_inj h)

theorem nameB_nm (n : Nat) : nameB (nm n) = true := by
  unfold nameB
  have h1 : (nm n).data.toList = segName n := str_toList _
  rw [h1, nm_size]
  have hall : ((segName n).all fun c => decide (33 ≤ c.toNat) && decide (c.toNat ≤ 126)) = true := by
    rw [List.all_eq_true]
    intro c hc
    have hb : 33 ≤ c.toNat ∧ c.toNat ≤ 126 := by
      rcases List.mem_append.1 hc with hc | hc
      · simp only [pre4, List.mem_cons, List.not_mem_nil, or_false] at hc
        rcases hc with rfl | rfl | rfl | rfl <;> decide
      · simp only [digits8, List.mem_map, List.mem_range] at hc
        obtain ⟨i, hi, rfl⟩ := hc
        rw [digit_toNat]; omega
    simp [hb.1, hb.2]
  rw [hall]
  have : (segName n).isEmpty = false := by simp [segName, pre4]
  rw [this]
  rfl

theorem four_length (n : Nat) : (four n).length = 4 := rfl

theorem u8n (n : Nat) : (UInt8.ofNat n).toNat = n % 256 := UInt8.toNat_ofNat'

theorem val4_four (n : Nat) (h : n < 4294967296) : val4 (four n) = n := by
  simp only [val4, four, List.getD_cons_zero, List.getD_cons_succ, u8n]
  omega

theorem val4_lt (l : List UInt8) : val4 l < 4294967296 := by
  have h : ∀ b : UInt8, b.toNat < 256 := fun b => UInt8.toNat_lt b
  have h0 := h (l.getD 0 0)
  have h1 := h (l.getD 1 0)
  have h2 := h (l.getD 2 0)
  have h3 := h (l.getD 3 0)
  unfold val4
  omega

/-! ### Walks -/

theorem or_add (a b k : Nat) (ha : a < 2 ^ k) (hb : a + b * 2 ^ k < 2 ^ 62) : ibits .or .i64 (a : Int) ((b * 2 ^ k : Nat) : Int) = ((a + b * 2 ^ k : Nat) : Int) := by
  show IntKind.wrap .i64 ((BitVec.ofInt 64 (a : Int) ||| BitVec.ofInt 64 ((b * 2 ^ k : Nat) : Int)).toNat : Int) = _
  have h1 : ∀ m : Nat, m < 2 ^ 62 → (BitVec.ofInt 64 (m : Int)).toNat = m := fun m hm => by rw [BitVec.toNat_ofInt]; omega
  rw [BitVec.toNat_or, h1 a (by omega), h1 (b * 2 ^ k) (by omega)]
  have h2 := Nat.shiftLeft_add_eq_or_of_lt ha b
  rw [Nat.shiftLeft_eq] at h2
  rw [Nat.or_comm, ← h2, wi (by omega) (by omega)]
  omega

theorem ishl_nat (b k : Nat) (hk : k ≤ 64) (hb : b * 2 ^ k < 2 ^ 62) : ishl .i64 (b : Int) (k : Int) = ((b * 2 ^ k : Nat) : Int) := by
  unfold ishl
  rw [Int.toNat_natCast, show IntKind.bits .i64 = 64 from rfl, Nat.min_eq_left hk]
  have : ((b : Int) * 2 ^ k) = ((b * 2 ^ k : Nat) : Int) := by simp
  rw [this, wi (by omega) (by omega)]

section
variable {W w : World} {L : List SP}

/-- A slice of bytes that is written out. -/
theorem xbyteLit {P : Program} {T t : TypeId} {n : Nat} {cs : List Value} {K : Addr → Sl → World → Prop} (hok : (match under P t with
    | some (.slice e) => (match under P e with
      | some (.int .u8) => true
      | _ => false)
    | _ => false) = true) (hs : Sat W w L) (hn : cs.length = n) (hk : ∀ b w', Sat W w' (pts b cs :: L) → K ⟨b, 0, none⟩ ⟨some ⟨b, 0, none⟩, n, n⟩ w') :
    XNew T cs w fun a w1 => XDo P (convert t t (.slice (some a) n n)) (.leaf .slice) w1 (K a) := by
  subst hn
  split at hok
  · rename_i e h1
    split at hok
    · rename_i h2
      let w1 := w.alloc (.cells ⟨cs⟩ T)
      have hw1 : w1.heap[w.heap.size]? = some (.cells ⟨cs⟩ T (0, 0)) := by
        show (w.heap.push _)[w.heap.size]? = _
        simp
      let w2 := w1.freeze { block := w.heap.size, off := cs.length } 1
      have hshape : w1.shape? w.heap.size = some (T, cs.length) := by simp [World.shape?, hw1]
      have hr : (convert t t (.slice (some ⟨w.heap.size, 0, none⟩) cs.length cs.length)).run P w1 = .ok (.slice (some ⟨w.heap.size, 0, none⟩) cs.length cs.length) w2 := by
        have hconv : convert t t (.slice (some ⟨w.heap.size, 0, none⟩) cs.length cs.length) = (do
            let d ← underlying t
            let d' ← underlying t
            match d, d', Value.slice (some ⟨w.heap.size, 0, none⟩) cs.length cs.length with
            | _, .int k, .int _ n => Conv.intToInt k n
            | _, .float k, .int _ n => Conv.intToFloat k n
            | _, .int k, .float s b => Conv.floatToInt s b k
            | _, .float k, .float s b => Conv.floatToFloat s b k
            | _, .complex k, .complex s a b => Conv.complexToComplex s a b k
            | _, .string, .int _ n => Conv.intToString n
            | _, .string, .string _ => pure (Value.slice (some ⟨w.heap.size, 0, none⟩) cs.length cs.length)
            | _, .slice e, .string s =>
              match ← underlying e with
              | .int .u8 => Conv.stringToBytes e s
              | .int .i32 => Conv.stringToRunes e s
              | _ => stuck "Convert: string to a slice of what?"
            | .slice _, .slice e, .slice (some a) _ _ =>
              match t == t, ← underlying e with
              | true, .int .u8 => do markStringish a; pure (Value.slice (some ⟨w.heap.size, 0, none⟩) cs.length cs.length)
              | _, _ => unsupported (.noEntry "convert/other")
            | .slice e, .string, x =>
              match ← underlying e with
              | .int .u8 => Conv.bytesToString x
              | .int .i32 => Conv.runesToString x
              | _ => stuck "Convert: a slice of what to string?"
            | .unsafePointer, _, x | _, .unsafePointer, x => Conv.unsafePointer t t x
            | .int _, _, .pointer (some _) => unsupported .addressObserved
            | _, _, _ => unsupported (.noEntry "convert/other")) := rfl
        rw [hconv]
        simp only [Sem.run_bind, run_underlying (under_eq h1), run_underlying (under_eq h2), Result.andThen, beq_self_eq_true]
        simp only [markStringish, Sem.run_bind, run_shape, hshape, Result.andThen, run_freeze, Sem.run_pure]
        rfl
      have hs1 : Sat W w1 (pts w.heap.size cs :: L) := hs.new_block
      have hs2 : Sat W w2 (pts w.heap.size cs :: L) := by
        refine hs1.refreeze (t := T) (lo := cs.length) (hi := cs.length + 1) ?_ (fun k hk => ?_) (fun o ho => ?_) rfl rfl rfl ?_
        · simp [w2, World.freeze, Array.getElem?_modify, hw1]
        · simp [w2, World.freeze, Array.getElem?_modify, Ne.symm hk]
        · simp; omega
        · simp [w2, World.freeze]
      exact ⟨⟨some ⟨w.heap.size, 0, none⟩, cs.length, cs.length⟩, w2, hr, hk _ _ hs2⟩
    · cases hok
  · cases hok

theorem name_spec (n : Nat) (hn : n ≤ 2 ^ 40) (hs : Sat W w L) : Ret Tryz.prog F.wal_name [.int .i64 n] w fun v w' => v = .string (nm n) ∧ Sat W w' L := by
  refine S.wal_name_ok _ _ _ (xbyteLit (by kernel_rfl) hs rfl fun b w1 h => ?_)
  have h : Sat W w1 (own 1 ⟨some ⟨b, 0, none⟩, 4, 4⟩ (bcells pre4) :: L) := Sat.shut_own (rest := []) rfl rfl rfl (Nat.le_refl _) h
  refine xloop (fun (st : Sl × Int × Unit) w => ∃ (i : Nat) (s : Sl), st = (s, (i : Int), ()) ∧ i ≤ 8 ∧ Sat W w (own 1 s (bcells (pre4 ++ List.replicate i 48)) :: L)) (fun st => (8 - st.2.1).toNat)
    ⟨0, _, rfl, by omega, h⟩ ?_
  clear h
  rintro next _ w ⟨i, s, rfl, hi, h⟩ hnext
  have hsl : s.len = 4 + i := by have := h.own_len; rw [bcells_length] at this; simp [pre4] at this; omega
  by_cases hlt : i < 8
  · refine XIf.yes (decide_eq_true (show (i : Int) < 8 by omega)) (xappend1 (by kernel_rfl) h rfl rfl (by show s.len + 1 ≤ _; omega) fun a s' w' h' hl' => xlet ((i + 1 : Nat) : Int) (by dsimp only; rw [wi (by omega) (by omega)]; omega) (hnext _ _ ⟨i + 1, s', rfl, by omega, ?_⟩ (by dsimp only; omega)))
    rw [List.replicate_succ', ← List.append_assoc, bcells_append _ [48]]
    exact h'
  have h8 : i = 8 := by omega
  subst h8
  refine XIf.no (decide_eq_false (show ¬ ((8 : Nat) : Int) < 8 by decide)) (xlet (11 : Int) (by dsimp only; rw [hsl]; rfl) ?_)
  refine xloop (fun (st : Int × Int × Unit) w => ∃ j : Nat, st = (((n / 10 ^ j : Nat) : Int), ((11 : Int) - j), ()) ∧ j ≤ 8 ∧ Sat W w (own 1 s (bcells (pre4 ++ (List.replicate (8 - j) 48 ++ (digits8 n).drop (8 - j)))) :: L)) (fun st => st.2.1.toNat)
    ⟨0, by simp, by omega, ?_⟩ ?_
  · have : (digits8 n).drop (8 - 0) = [] := List.drop_eq_nil_of_le (by rw [digits8_length]; omega)
    rw [this, List.append_nil]
    exact h
  clear h hnext
  rintro next _ w ⟨j, rfl, hj, h⟩ hnext
  refine xjoin (fun (st : Bool × Unit) w' => st = (decide (0 < n / 10 ^ j ∧ j < 8), ()) ∧ w' = w) (fun J hJ => ?_) ?_
  · by_cases hpos : 0 < n / 10 ^ j
    · refine XIf.yes (decide_eq_true (show ((n / 10 ^ j : Nat) : Int) > 0 by omega)) (hJ _ _ ⟨?_, rfl⟩)
      have : ((11 : Int) - (j : Int) ≥ 4) ↔ (0 < n / 10 ^ j ∧ j < 8) := by omega
      exact Prod.ext (decide_eq_decide.2 this) rfl
    · refine XIf.no (decide_eq_false (show ¬ ((n / 10 ^ j : Nat) : Int) > 0 by omega)) (hJ _ _ ⟨?_, rfl⟩)
      have : ¬ (0 < n / 10 ^ j ∧ j < 8) := fun h => hpos h.1
      exact Prod.ext (decide_eq_false this).symm rfl
  rintro _ w' ⟨rfl, rfl⟩
  by_cases hmore : 0 < n / 10 ^ j ∧ j < 8
  · have htm : ((n / 10 ^ j : Nat) : Int).tmod 10 = ((n / 10 ^ j % 10 : Nat) : Int) := by rw [Int.tmod_eq_emod_of_nonneg (by omega)]; omega
    have htd : ((n / 10 ^ j : Nat) : Int).tdiv 10 = ((n / 10 ^ (j + 1) : Nat) : Int) := by
      rw [Int.tdiv_eq_ediv_of_nonneg (by omega), Nat.pow_succ, ← Nat.div_div_eq_div_mul]; omega
    have hle : n / 10 ^ j ≤ n := Nat.div_le_self _ _
    have h48 : IntKind.wrap .i64 ((48 : Int) + ((n / 10 ^ j % 10 : Nat) : Int)) = ((48 + n / 10 ^ j % 10 : Nat) : Int) := by
      have e : (48 : Int) + ((n / 10 ^ j % 10 : Nat) : Int) = ((48 + n / 10 ^ j % 10 : Nat) : Int) := by omega
      rw [e]; exact wiN _ (by omega)
    have hle2 : n / 10 ^ (j + 1) ≤ n := Nat.div_le_self _ _
    refine XIf.yes (decide_eq_true hmore) ⟨by decide, xlet ((n / 10 ^ j % 10 : Nat) : Int) htm (xlet ((48 + n / 10 ^ j % 10 : Nat) : Int) h48 (xlet ((UInt8.ofNat (48 + n / 10 ^ j % 10)).toNat : Int) (by rw [wrapu8, u8_toNat]) ?_))⟩
    refine xput h (11 - j) (by show (11 : Int) - (j : Int) = ((11 - j : Nat) : Int); omega) (by show 11 - j < s.len; omega) (by show Int.toNat ((11 : Int) - (j : Int)) * 1 = 11 - j; omega) fun a w2 h2 => ⟨by decide, xlet ((n / 10 ^ (j + 1) : Nat) : Int) (by show IntKind.wrap .i64 (Int.tdiv ((n / 10 ^ j : Nat) : Int) 10) = _; rw [htd]; exact wiN _ (by omega)) (xlet ((11 : Int) - ((j + 1 : Nat) : Int)) (by show IntKind.wrap .i64 ((11 : Int) - (j : Int) - 1) = _; rw [wi (by omega) (by omega)]; omega) (hnext _ _ ⟨j + 1, rfl, by omega, ?_⟩ (by show ((11 : Int) - ((j + 1 : Nat) : Int)).toNat < ((11 : Int) - (j : Int)).toNat; omega)))⟩
    rw [bcells_set] at h2
    have e : (pre4 ++ (List.replicate (8 - j) 48 ++ (digits8 n).drop (8 - j))).set (11 - j) (UInt8.ofNat (48 + n / 10 ^ j % 10)) = pre4 ++ (List.replicate (8 - (j + 1)) 48 ++ (digits8 n).drop (8 - (j + 1))) := by
      rw [List.set_append_right _ _ (by simp [pre4]; omega), show 11 - j - pre4.length = 7 - j by simp [pre4]; omega, show 8 - j = (7 - j) + 1 by omega, List.replicate_succ', List.append_assoc,
        List.set_append_right _ _ (by simp), List.length_replicate, Nat.sub_self, show 8 - (j + 1) = 7 - j by omega, digits8_drop n (7 - j) (by omega), show 7 - (7 - j) = j by omega]
      rfl
    rw [e] at h2
    exact h2
  · have e : pre4 ++ (List.replicate (8 - j) 48 ++ (digits8 n).drop (8 - j)) = segName n := by
      unfold segName
      by_cases hj8 : j = 8
      · subst hj8; simp
      · rw [← digits8_take n j hj (Nat.eq_zero_of_not_pos fun hp => hmore ⟨hp, by omega⟩), List.take_append_drop]
    rw [e] at h
    refine XIf.no (decide_eq_false hmore) (xbytes (k := 0) (l := segName n) h (fun b hb _ => hb) (fun h => h) (by rw [segName_length]; show 0 + s.len ≤ 12; omega) (fun _ => rfl) ?_)
    rw [List.drop_zero, List.take_of_length_le (by rw [segName_length]; show 12 ≤ s.len; omega)]
    exact ⟨rfl, h.drop⟩

theorem number_spec (s : List UInt8) (hs : Sat W w L) : Ret Tryz.prog F.wal_number [.string (str s)] w fun v w' => v = .tuple ⟨[.int .i64 ((segNum s).getD 0 : Nat), .bool (segNum s).isSome]⟩ ∧ Sat W w' L := by
  suffices H : ∀ K : Value → World → Prop, (∀ w', Sat W w' L → K (.tuple ⟨[.int .i64 ((segNum s).getD 0 : Nat), .bool (segNum s).isSome]⟩) w') → S.wal_number (str s) K w from S.wal_number_ok _ _ _ (H _ fun _ h => ⟨rfl, h⟩)
  intro K hK
  have e1 : (str s).size = s.length := str_size s
  refine xjoin (fun (st : Bool × Unit) w' => st = (decide (s.length ≠ 12 ∨ s.take 4 ≠ pre4), ()) ∧ w' = w) (fun J hJ => ?_) ?_
  · by_cases h12 : s.length = 12
    · refine XIf.no (by rw [e1, h12]; rfl) (xcall_eq (HasPrefix_spec s pre4 (by omega) (by decide)) (decide (s.take 4 = pre4)) rfl (hJ _ _ ⟨?_, rfl⟩))
      by_cases hp : s.take 4 = pre4 <;> simp [h12, hp]
    · refine XIf.yes ?_ (hJ _ _ ⟨by simp [h12], rfl⟩)
      rw [e1]
      have : ((s.length : Nat) : Int) ≠ 12 := by omega
      simpa using this
  rintro _ w' ⟨rfl, rfl⟩
  unfold segNum at hK
  by_cases hbad : s.length ≠ 12 ∨ s.take 4 ≠ pre4
  · rw [if_pos hbad] at hK
    exact XIf.yes (decide_eq_true hbad) (hK _ hs)
  rw [if_neg hbad] at hK
  have h12 : s.length = 12 := by
    by_cases h : s.length = 12
    · exact h
    · exact absurd (.inl h) hbad
  refine XIf.no (decide_eq_false hbad) ⟨by rw [e1, h12]; decide, xlet (str (s.drop 4)) (by rw [Int.toNat_natCast]; exact str_drop s 4 _ (by rw [e1]; exact Nat.le_refl _)) (xtobytes (by kernel_rfl) hs fun sl w1 h1 hsl => ?_)⟩
  rw [str_toList] at h1
  obtain ⟨t, ht⟩ : ∃ t, s.drop 4 = t := ⟨_, rfl⟩
  have htl : t.length = 8 := by rw [← ht, List.length_drop, h12]
  rw [ht] at hK h1 hsl
  have hsl : sl.len = 8 := by rw [hsl, str_size, htl]
  refine xloop (fun (st : Int × Bool × Int × Int × Unit) w => ∃ (i acc : Nat), st = (0, false, (acc : Int), (i : Int), ()) ∧ i ≤ 8 ∧ acc < 10 ^ i ∧ decV 0 t = decV acc (t.drop i) ∧ Sat W w (own 1 sl (bcells t) :: L)) (fun st => (8 - st.2.2.2.1).toNat)
    ⟨0, 0, rfl, by omega, by decide, by simp, h1⟩ ?_
  clear h1
  rintro next _ w ⟨i, acc, rfl, hi, hacc, hd, h⟩ hnext
  by_cases hlt : i < 8
  · have hp8 : 10 ^ i ≤ 10 ^ 7 := Nat.pow_le_pow_right (by decide) (by omega)
    have hdrop : t.drop i = t[i]'(by omega) :: t.drop (i + 1) := List.drop_eq_getElem_cons (by omega)
    obtain ⟨c, hc⟩ : ∃ c, t[i]'(by omega) = c := ⟨_, rfl⟩
    rw [hc] at hdrop
    have hcl : c.toNat < 256 := UInt8.toNat_lt c
    have hgd : t.getD i 0 = c := by rw [List.getD_eq_getElem?_getD, List.getElem?_eq_getElem (by omega), hc]; rfl
    refine XIf.yes (decide_eq_true (show (i : Int) < (sl.len : Int) by omega)) (xelem h i rfl (x := (c.toNat : Int)) (by rw [bcells_get t i (by omega), hgd]) (by show Int.toNat _ * 1 = _; simp) fun a => ?_)
    rw [hdrop] at hd
    simp only [decV] at hd
    refine xjoin (fun (st : Bool × Unit) w' => st = (decide (c.toNat < 48 ∨ 57 < c.toNat), ()) ∧ w' = w) (fun J hJ => ?_) ?_
    · by_cases h48 : c.toNat < 48
      · exact XIf.yes (decide_eq_true (show (c.toNat : Int) < 48 by omega)) (hJ _ _ ⟨by simp [h48], rfl⟩)
      · refine XIf.no (decide_eq_false (show ¬ (c.toNat : Int) < 48 by omega)) (hJ _ _ ⟨?_, rfl⟩)
        have : ((c.toNat : Int) > 57) ↔ (c.toNat < 48 ∨ 57 < c.toNat) := by omega
        exact Prod.ext (decide_eq_decide.2 this) rfl
    rintro _ w' ⟨rfl, rfl⟩
    by_cases hc2 : c.toNat < 48 ∨ 57 < c.toNat
    · rw [if_pos hc2] at hd
      rw [hd] at hK
      exact XIf.yes (decide_eq_true hc2) (hK _ h.drop)
    · rw [if_neg hc2] at hd
      have hw : IntKind.wrap .u8 ((c.toNat : Int) - 48) = ((c.toNat - 48 : Nat) : Int) := by
        have : (c.toNat : Int) - 48 = ((c.toNat - 48 : Nat) : Int) := by omega
        rw [this, wrapu8]; omega
      refine XIf.no (decide_eq_false hc2) (xlet ((10 * acc : Nat) : Int) (by dsimp only; rw [wi (by omega) (by omega)]; omega) (xlet ((c.toNat - 48 : Nat) : Int) hw (xlet ((c.toNat - 48 : Nat) : Int) (wi (by omega) (by omega)) (xlet ((10 * acc + (c.toNat - 48) : Nat) : Int) (by rw [wi (by omega) (by omega)]; omega) (xlet ((i + 1 : Nat) : Int) (by dsimp only; rw [wi (by omega) (by omega)]; omega) (hnext _ _ ⟨i + 1, 10 * acc + (c.toNat - 48), rfl, by omega, ?_, hd, h⟩ (by dsimp only; omega)))))))
      rw [Nat.pow_succ]; omega
  · have h8 : i = 8 := by omega
    subst h8
    rw [List.drop_eq_nil_of_le (by omega)] at hd
    simp only [decV] at hd
    rw [hd] at hK
    exact XIf.no (decide_eq_false (show ¬ ((8 : Nat) : Int) < (sl.len : Int) by omega)) (hK _ h.drop)

theorem four_spec (n : Nat) (hs : Sat W w L) : Ret Tryz.prog F.wal_four [.int .i64 n] w fun v w' => v = .string (str (four n)) ∧ Sat W w' L := by
  have e : ∀ m : Nat, IntKind.wrap .u8 (m : Int) = ((UInt8.ofNat m).toNat : Int) := fun m => by rw [wrapu8, u8_toNat]
  refine S.wal_four_ok _ _ _ (xlet ((UInt8.ofNat n).toNat : Int) (e n) ⟨by decide, xlet ((n / 256 : Nat) : Int) (ishr_nat n 8 (by decide)) (xlet ((UInt8.ofNat (n / 256)).toNat : Int) (e _) ⟨by decide, xlet ((n / 65536 : Nat) : Int) (ishr_nat n 16 (by decide)) (xlet ((UInt8.ofNat (n / 65536)).toNat : Int) (e _) ⟨by decide, xlet ((n / 16777216 : Nat) : Int) (ishr_nat n 24 (by decide)) (xlet ((UInt8.ofNat (n / 16777216)).toNat : Int) (e _) (xnew hs fun b w1 h => ?_))⟩)⟩)⟩)
  have h : Sat W w1 (own 1 ⟨some ⟨b, 0, none⟩, 4, 4⟩ (bcells (four n)) :: L) := Sat.shut_own (rest := []) rfl rfl rfl (Nat.le_refl _) h
  refine xbytes (k := 0) (l := four n) h (fun b hb _ => hb) (fun h => h) (by rw [four_length]; decide) (fun _ => rfl) ?_
  exact ⟨rfl, h.drop⟩

theorem value_spec (l : List UInt8) (hl : l.length = 4) : Ret Tryz.prog F.wal_value [.string (str l)] w fun v w' => v = .int .i64 (val4 l) ∧ Quiet w w' := by
  have h : ∀ b : UInt8, b.toNat < 256 := fun b => UInt8.toNat_lt b
  have e1 : (str l).size = 4 := by rw [str_size, hl]
  have hb : ∀ k : Nat, k < 4 → ((0 : Int) ≤ (k : Int) ∧ (k : Int) < (((str l).size : Nat) : Int)) := fun k hk => by rw [e1]; omega
  obtain ⟨c0, h0⟩ : ∃ c, l.getD 0 0 = c := ⟨_, rfl⟩
  obtain ⟨c1, h1⟩ : ∃ c, l.getD 1 0 = c := ⟨_, rfl⟩
  obtain ⟨c2, h2⟩ : ∃ c, l.getD 2 0 = c := ⟨_, rfl⟩
  obtain ⟨c3, h3⟩ : ∃ c, l.getD 3 0 = c := ⟨_, rfl⟩
  have b0 := h c0
  have b1 := h c1
  have b2 := h c2
  have b3 := h c3
  refine S.wal_value_ok _ _ _ ⟨hb 0 (by decide), xlet (c0.toNat : Int) (by rw [getD_str, h0]) (xlet (c0.toNat : Int) (wi (by omega) (by omega)) ⟨hb 1 (by decide), xlet (c1.toNat : Int) (by rw [getD_str, h1]) (xlet (c1.toNat : Int) (wi (by omega) (by omega)) ⟨by decide, xlet ((c1.toNat * 2 ^ 8 : Nat) : Int) (ishl_nat _ 8 (by decide) (by omega)) (xlet ((c0.toNat + c1.toNat * 2 ^ 8 : Nat) : Int) (or_add _ _ 8 (by omega) (by omega)) ?_)⟩)⟩)⟩
  refine ⟨hb 2 (by decide), xlet (c2.toNat : Int) (by rw [getD_str, h2]) (xlet (c2.toNat : Int) (wi (by omega) (by omega)) ⟨by decide, xlet ((c2.toNat * 2 ^ 16 : Nat) : Int) (ishl_nat _ 16 (by decide) (by omega)) (xlet ((c0.toNat + c1.toNat * 2 ^ 8 + c2.toNat * 2 ^ 16 : Nat) : Int) (or_add _ _ 16 (by omega) (by omega)) ?_)⟩)⟩
  refine ⟨hb 3 (by decide), xlet (c3.toNat : Int) (by rw [getD_str, h3]) (xlet (c3.toNat : Int) (wi (by omega) (by omega)) ⟨by decide, xlet ((c3.toNat * 2 ^ 24 : Nat) : Int) (ishl_nat _ 24 (by decide) (by omega)) (xlet ((c0.toNat + c1.toNat * 2 ^ 8 + c2.toNat * 2 ^ 16 + c3.toNat * 2 ^ 24 : Nat) : Int) (or_add _ _ 24 (by omega) (by omega)) ⟨?_, (Quiet.refl _).drew⟩)⟩)⟩
  unfold val4
  rw [h0, h1, h2, h3]
  congr 1
  omega

theorem first_spec (n : Nat) (hn : n ≤ 2 ^ 40) (hs : Sat W w L) : Ret Tryz.prog F.wal_first [.int .i64 n] w fun v w' => v = .string (str (firstM n)) ∧ Sat W w' L := by
  refine S.wal_first_ok _ _ _ (xcall (name_spec n hn hs) ?_)
  rintro v w1 ⟨rfl, h⟩
  refine ⟨nm n, rfl, by rw [nm_size]; decide, xlet (str (firstM n)) (str_append pre8 (segName n)) ⟨rfl, h⟩⟩

theorem record_spec {b : Nat} {M : Bk} (last s : List UInt8) (hs : Sat W w (BookP b M :: L)) (hM : M.length ≤ 2 ^ 40) (hl : last.length ≤ 2 ^ 40) (hsl : s.length ≤ 2 ^ 40) :
    Ret Tryz.prog F.wal_record [ptr b, .string (str last), .string (str s)] w fun v w' => v = .tuple ⟨[.string (str (four s.length ++ M.mark (last ++ s) ++ s)), .string (str (M.mark (last ++ s)))]⟩ ∧ Sat W w' (BookP b (M.add (last ++ s)) :: L) := by
  have e1 : (str last).size = last.length := str_size _
  have e2 : (str s).size = s.length := str_size _
  have hmk : (M.mark (last ++ s)).length = 32 := markN_length _
  refine S.wal_record_ok _ _ _ _ _ ⟨by rw [e1, e2]; show ((last.length + s.length : Nat) : Int) ≤ 9223372036854775807; omega, xlet (str (last ++ s)) (str_append _ _) (xcall (Mark_spec (last ++ s) hs hM) ?_)⟩
  rintro v w1 ⟨rfl, h⟩
  refine ⟨_, rfl, xcall (four_spec s.length (by exact h)) ?_⟩
  rintro v w2 ⟨rfl, h⟩
  refine ⟨str (four s.length), rfl, by rw [str_size, str_size, four_length, hmk]; decide, xlet (str (four s.length ++ M.mark (last ++ s))) (str_append _ _) ⟨?_, xlet (str (four s.length ++ M.mark (last ++ s) ++ s)) (str_append _ _) ⟨rfl, h⟩⟩⟩
  rw [str_size, e2, List.length_append, four_length, hmk]
  show ((4 + 32 + s.length : Nat) : Int) ≤ 9223372036854775807
  omega

theorem none_ok {d b : Nat} {M : Bk} (hs : Sat W w (BookP b M :: L)) : Ret Tryz.prog F.wal_none [ptr d, ptr b] w fun v w' => v = .bool false ∧ w' = w :=
  S.wal_none_ok _ _ _ _ (xjoin0 (XIf.no rfl (xcall_eq (Ready_spec hs) true rfl ⟨rfl, rfl⟩)))

end
end Go.X

/-! The log: records behind what there is. -/
namespace Go.X
open Go.Proofs

/-- A log in memory. -/
def LogP (p d b : Nat) (l : LG) : SP := pts p [ptr d, ptr b, .int .i64 (l.n : Nat), .int .i64 (l.end_ : Nat), .string (str l.mark)]

/-- Texts that can be read wherever a part of memory stands. -/
def ROStr (W : World) (A : SP) (s : Sl) (xs : List (List UInt8)) : Prop :=
  xs.length = s.len ∧ ∀ (w : World) (L : List SP), Sat W w (A :: L) → ∀ k x, xs[k]? = some x → ∃ b o, s.a = some ⟨b, o, none⟩ ∧ w.cell? ⟨b, o + k, none⟩ = some (.string (str x))

section
variable {W w : World} {L : List SP}

theorem ROStr.nil (A : SP) : ROStr W A ⟨none, 0, 0⟩ [] := ⟨rfl, fun _ _ _ k x hx => by simp at hx⟩

theorem ROStr.one {b : Nat} (x : List UInt8) : ROStr W (pts b [.string (str x)]) ⟨some ⟨b, 0, none⟩, 1, 1⟩ [x] := by
  refine ⟨rfl, fun w L h k y hy => ⟨b, 0, rfl, ?_⟩⟩
  cases k with
  | zero => cases hy; exact h.cell rfl
  | succ k => simp at hy

theorem ROStr.own {s : Sl} (xs : List (List UInt8)) (hl : xs.length = s.len) : ROStr W (own 1 s (xs.map fun x => Value.string (str x))) s xs := by
  refine ⟨hl, fun w L h k x hx => ?_⟩
  have hlt := (List.getElem?_eq_some_iff.1 hx).1
  obtain ⟨b, hb, hc⟩ := h.own_some (by omega)
  exact ⟨b, 0, hb, by rw [Nat.zero_add]; exact hc k _ (by rw [List.getElem?_map, hx]; rfl)⟩

/-- Reading one of them. -/
theorem xstrAt {A : SP} {s : Sl} {xs : List (List UInt8)} {i : Int} {n : Nat} {K : Addr → ByteArray → Prop} (hR : ROStr W A s xs) (hs : Sat W w (A :: L)) (k : Nat) (hi : i = k) {x : List UInt8} (hx : xs[k]? = some x) (hn : n = k) (hk : ∀ a, K a (str x)) :
    XNil s.a fun a => ((0 : Int) ≤ i ∧ i < ((s.len : Nat) : Int)) ∧ XLoad .str (Addr.add a n) w (K a) := by
  obtain ⟨b, o, ha, hc⟩ := hR.2 w L hs k x hx
  have hlt := (List.getElem?_eq_some_iff.1 hx).1
  have hl := hR.1
  rw [ha]
  refine ⟨by omega, str x, ?_, hk _⟩
  rw [Addr.add_mk, hn]
  exact hc

theorem bytesAt_own {b : Nat} {bs : List UInt8} {cs : List Value} (hs : Sat W w (pts b cs :: L)) (h : cs = bcells bs) : sliceBytes w (some ⟨b, 0, none⟩) bs.length (str bs) := by
  subst h
  refine ⟨str_size bs, bytesAt_of _ 0 fun j c hc => ?_⟩
  rw [str_toList] at hc
  rw [Nat.zero_add, Addr.add_mk, Nat.zero_add]
  exact hs.cell (by simp [bcells, hc])

/-- Bytes of a block as a text. -/
theorem xbytesOf {b n : Nat} {bs : List UInt8} {K : ByteArray → Prop} (hs : Sat W w (pts b (bcells bs) :: L)) (hn : n = bs.length) (hk : K (str bs)) : XBytes (some ⟨b, 0, none⟩) n w K := by
  subst hn
  exact ⟨str bs, bytesAt_own hs rfl, hk⟩

theorem putB_err (sign : UInt8) : ∀ (l : List (List UInt8)) (S : PB), S.err = 0 → (putB sign l S).err = 0 ∨ (putB sign l S).err = 4
  | [], S, h => .inl h
  | s :: l, S, h => by
    unfold putB
    split
    · exact .inr rfl
    · exact putB_err sign l _ h

theorem recLen (m s : List UInt8) (hm : m.length = 32) : (four s.length ++ m ++ s).length = 36 + s.length := by
  rw [List.length_append, List.length_append, four_length, hm]

theorem mark_length (M : Bk) (s : List UInt8) : (M.mark s).length = 32 := markN_length _

theorem add_length (M : Bk) (s : List UInt8) : (M.add s).length ≤ M.length + 1 := by
  obtain ⟨X, h1, h2⟩ := M.add_more s
  rw [h1, List.length_append]; omega

variable {p d b i : Nat} {D : DD} {M : Bk} {l : LG} {A : SP}

structure LGok (l : LG) : Prop where
  n : l.n ≤ 2 ^ 40
  end_ : l.end_ ≤ 2 ^ 40
  mark : l.mark.length ≤ 2 ^ 20

theorem put_spec {s : Sl} {xs : List (List UInt8)} (sign : UInt8) (hR : ROStr W A s xs) (hs : Sat W w (LogP p d b l :: DiskP d D :: BookP b M :: A :: L)) (hl : LGok l) (hf : Fit i D) (hi : i ≤ 2 ^ 26)
    (hM : M.length ≤ 2 ^ 39) (hx : xs.length ≤ 2 ^ 14) :
    Ret Tryz.prog F.wal_Log_put [ptr p, .int .u8 sign.toNat, .slice s.a s.len s.cap] w fun v w' =>
      v = .int .i64 (putW D M l sign xs).err ∧ Sat W w' (LogP p d b (putW D M l sign xs).log :: DiskP d (putW D M l sign xs).disk :: BookP b (putW D M l sign xs).book :: A :: L) := by
  suffices H : ∀ K : Value → World → Prop, (∀ R w', R = putW D M l sign xs → Sat W w' (LogP p d b R.log :: DiskP d R.disk :: BookP b R.book :: A :: L) → K (.int .i64 R.err) w') → S.wal_Log_put (some ⟨p, 0, none⟩) sign.toNat s K w from
    S.wal_Log_put_ok _ _ s _ _ (H _ fun R w' e h => by subst e; exact ⟨rfl, h⟩)
  intro K hK
  obtain ⟨T, e, hB⟩ := btypes
  refine xnewBuild (T := T) (e := e) (by rw [hB.builder]; kernel_rfl) hs fun bb w1 h1 => xnil ?_
  have h1 : Sat W w1 (BuildP T e bb [] :: LogP p d b l :: DiskP d D :: BookP b M :: A :: L) := h1
  refine xload (h1.bring 1) 4 rfl rfl ?_
  obtain ⟨Z, hZ⟩ : ∃ Z, putB sign xs ⟨0, [], l.mark, M⟩ = Z := ⟨_, rfl⟩
  refine xloop (fun (st : Int × ByteArray × Int × Unit) w => ∃ (k : Nat) (S : PB), st = (0, str S.mark, (k : Int), ()) ∧ k ≤ xs.length ∧ putB sign (xs.drop k) S = Z ∧ S.err = 0 ∧ S.bytes.length ≤ k * 2 ^ 21 ∧ S.mark.length ≤ 2 ^ 20 ∧
      S.book.length ≤ M.length + k ∧ Sat W w (BuildP T e bb S.bytes :: LogP p d b l :: DiskP d D :: BookP b S.book :: A :: L)) (fun st => ((s.len : Int) - st.2.2.1).toNat)
    ⟨0, ⟨0, [], l.mark, M⟩, rfl, Nat.zero_le _, hZ, rfl, by simp, hl.mark, by simp, h1⟩ ?_
  clear h1
  rintro next _ w ⟨k, S, rfl, hk, hS, he, hbl, hml, hbk, h⟩ hnext
  have hxl := hR.1
  by_cases hlt : k < xs.length
  · obtain ⟨x, hxk⟩ : ∃ x, xs[k]? = some x := ⟨_, List.getElem?_eq_getElem hlt⟩
    have hdrop : xs.drop k = x :: xs.drop (k + 1) := by
      rw [List.drop_eq_getElem_cons hlt]
      rw [List.getElem?_eq_getElem hlt] at hxk
      rw [Option.some.inj hxk]
    refine XIf.yes (decide_eq_true (show (k : Int) < (s.len : Int) by omega)) (xstrAt hR (h.bring 4) k rfl hxk (by show Int.toNat _ * 1 = _; simp) fun a => ?_)
    have e1 : (str x).size = x.length := str_size x
    rw [hdrop] at hS
    by_cases hlong : 1048832 < x.length
    · have hZe : Z = { S with err := 4 } := by rw [← hS]; unfold putB; rw [if_pos hlong]
      refine XIf.yes (decide_eq_true (show (((str x).size : Nat) : Int) > 1048832 by rw [e1]; omega)) (hK ⟨4, D, S.book, l⟩ w ?_ h.drop)
      unfold putW
      rw [hZ, hZe]
      rfl
    · unfold putB at hS
      rw [if_neg hlong] at hS
      have hd := h.drew
      refine XIf.no (decide_eq_false (show ¬ (((str x).size : Nat) : Int) > 1048832 by rw [e1]; omega)) (xnil (xload (hd.bring 1) 1 rfl rfl (xnew hd fun c w2 h2 => ⟨(h2.bring 2).cell rfl, ?_⟩)))
      have h2 : Sat W w2 (pts c (bcells [sign]) :: BuildP T e bb S.bytes :: LogP p d b l :: DiskP d D :: BookP b S.book :: A :: L) := h2
      refine xbytesOf h2 rfl ⟨by rw [e1, str_size]; show ((1 + x.length : Nat) : Int) ≤ 9223372036854775807; omega, xlet (str (sign :: x)) (str_append [sign] x) (xcalls (record_spec S.mark (sign :: x) (h2.bring 4) (by omega) (by omega) (by simp only [List.length_cons]; omega)) ?_)⟩
      rintro v w3 ⟨rfl, h3⟩
      refine ⟨(_, _, ()), rfl, bytesAt_own (h3.bring 1) rfl, xcalls (WriteString_spec (s := str (four (sign :: x).length ++ S.book.mark (S.mark ++ sign :: x) ++ sign :: x)) hB (h3.bring 2) ?_) ?_⟩
      · rw [str_size, recLen _ _ (mark_length _ _), List.length_cons]; omega
      rintro v w4 ⟨rfl, h4⟩
      rw [str_toList] at h4
      refine ⟨(_, .nilIface, ()), rfl, xlet ((k + 1 : Nat) : Int) (by dsimp only; rw [wi (by omega) (by omega)]; omega) (hnext _ _ ⟨k + 1, { S with bytes := S.bytes ++ (four (sign :: x).length ++ S.book.mark (S.mark ++ sign :: x) ++ sign :: x), mark := S.book.mark (S.mark ++ sign :: x), book := S.book.add (S.mark ++ sign :: x) }, rfl, hlt, hS, he, ?_, ?_, ?_, ?_⟩ (by dsimp only; omega))⟩
      · show (S.bytes ++ _).length ≤ _
        rw [List.length_append, recLen _ _ (mark_length _ _), List.length_cons]; omega
      · show (S.book.mark _).length ≤ _
        rw [mark_length]; decide
      · have := add_length S.book (S.mark ++ sign :: x)
        show (S.book.add _).length ≤ _
        omega
      · exact (h4.bring 2).drop.arr [0, 2, 3, 1, 4]
  · have hke : k = xs.length := by omega
    rw [hke, List.drop_length] at hS
    have hZe : S = Z := hS
    subst hZe
    clear hnext
    have hd := h.drew
    refine XIf.no (decide_eq_false (show ¬ (k : Int) < (s.len : Int) by omega)) (xnil (xload (hd.bring 1) 0 rfl rfl (xnil (xload (hd.bring 1) 2 rfl rfl (xnil (xload (hd.bring 1) 3 rfl rfl (xcall (name_spec l.n hl.n hd) ?_)))))))
    rintro v w2 ⟨rfl, h2⟩
    refine ⟨nm l.n, rfl, (h2.bring 1).cell rfl, (h2.bring 1).cell rfl, xcall (String_spec hB h2 (by omega)) ?_⟩
    rintro v w3 ⟨rfl, h3⟩
    have hsz : (str S.bytes).size = S.bytes.length := str_size _
    have hwaits := hf.waits
    have hcount := hf.count
    have hlen := hf.len
    refine ⟨str S.bytes, rfl, (h3.bring 1).cell rfl, (h3.bring 1).cell rfl, xcall (Write_spec (name := nm l.n) (at_ := (l.end_ : Nat)) (t := str S.bytes) (h3.bring 2) hf.rising hf.small (by omega) hf.most hf.fuse.2 hf.fuse.1 hcount.1 (by rw [hsz]; omega) (by rw [hsz]; omega)) ?_⟩
    rintro v w4 ⟨rfl, h4⟩
    rw [str_toList] at h4 ⊢
    obtain ⟨R, hRR⟩ : ∃ R, D.write (nm l.n) (l.end_ : Nat) S.bytes = R := ⟨_, rfl⟩
    have hput : putW D M l sign xs = if R.1 ≠ 0 then ⟨R.1, R.2, S.book, l⟩ else ⟨0, R.2, S.book, ⟨l.n, l.end_ + S.bytes.length, S.mark⟩⟩ := by
      unfold putW
      rw [hZ]
      dsimp only
      rw [if_neg (fun hh => hh he), hRR]
    rw [hRR] at h4 ⊢
    refine ⟨R.1, rfl, ?_⟩
    by_cases hR0 : R.1 ≠ 0
    · rw [if_pos hR0] at hput
      refine XIf.yes (by simpa using hR0) (hK ⟨R.1, R.2, S.book, l⟩ w4 hput.symm ?_)
      exact (h4.bring 1).drop.arr [1, 0]
    · rw [if_neg hR0] at hput
      have hd4 := h4.drew
      refine XIf.no (by simpa using hR0) (xnil (xload (hd4.bring 2) 3 rfl rfl (xcall_eq (Len_spec (hd4.bring 1)) (S.bytes.length : Int) rfl ⟨(hd4.bring 2).cell rfl, xlet ((l.end_ + S.bytes.length : Nat) : Int) (by rw [wi (by have := hl.end_; omega) (by have := hl.end_; omega)]; omega) (xnil (xstore (hd4.bring 2) 3 rfl (by simp) fun w5 h5 => xnil (xstore h5 4 rfl (by simp) fun w6 h6 => hK ⟨0, R.2, S.book, ⟨l.n, l.end_ + S.bytes.length, S.mark⟩⟩ w6 hput.symm ?_)))⟩)))
      have h6 : Sat W w6 (LogP p d b ⟨l.n, l.end_ + S.bytes.length, S.mark⟩ :: DiskP d R.2 :: BuildP T e bb S.bytes :: BookP b S.book :: A :: L) := h6
      exact (h6.bring 2).drop

end
end Go.X

/-! Numbers, texts and lists as bytes, and a reader, plain. -/
namespace Go.X

/-- A number's bytes: seven bits each, the lowest first. -/
def numL : Nat → Nat → List UInt8
  | 0, n => [UInt8.ofNat n]
  | k + 1, n => if 127 < n then UInt8.ofNat (n % 128 + 128) :: numL k (n / 128) else [UInt8.ofNat n]
def numB (n : Nat) : List UInt8 := numL 8 n

def textB (s : List UInt8) : List UInt8 := numB s.length ++ s
/-- Texts behind their count. -/
def textsB (l : List (List UInt8)) : List UInt8 := numB l.length ++ (l.map textB).flatten

/-- A reader: bytes, the place, the first error. -/
structure RD where
  s : List UInt8
  at_ : Nat
  e : Int

def RD.of (s : List UInt8) : RD := ⟨s, 0, 0⟩
def RD.fail (r : RD) (e : Int) : RD := if r.e = 0 then { r with e := e } else r
def RD.left (r : RD) : Nat := r.s.length - r.at_

def RD.byte (r : RD) : Nat × RD :=
  if r.e ≠ 0 then (0, r) else if r.at_ = r.s.length then (0, { r with e := 3 }) else ((r.s.getD r.at_ 0).toNat, { r with at_ := r.at_ + 1 })

def RD.numL : Nat → Nat → Nat → RD → Nat × RD
  | 0, _, n, r => (n, r)
  | k + 1, i, n, r =>
    let b := r.byte
    if b.2.e ≠ 0 then (0, b.2)
    else if i = 8 ∧ 63 < b.1 ∨ 0 < i ∧ b.1 = 0 then (0, b.2.fail 5)
    else if b.1 < 128 then (n + b.1 % 128 * 2 ^ (7 * i), b.2)
    else RD.numL k (i + 1) (n + b.1 % 128 * 2 ^ (7 * i)) b.2
def RD.num (r : RD) : Nat × RD := RD.numL 9 0 0 r

def RD.raw (r : RD) (n : Nat) : List UInt8 × RD :=
  if r.e ≠ 0 then ([], r) else if r.left < n then ([], r.fail 3) else ((r.s.drop r.at_).take n, { r with at_ := r.at_ + n })
def RD.count (r : RD) (most : Nat) : Nat × RD := if r.num.2.e = 0 ∧ most < r.num.1 then (0, r.num.2.fail 4) else r.num
def RD.text (r : RD) (most : Nat) : List UInt8 × RD := (r.count most).2.raw (r.count most).1
def RD.textsL (each : Nat) : Nat → List (List UInt8) → RD → List (List UInt8) × RD
  | 0, out, r => (out, r)
  | k + 1, out, r => if (r.text each).2.e ≠ 0 then ([], (r.text each).2) else RD.textsL each k (out ++ [(r.text each).1]) (r.text each).2
def RD.texts (r : RD) (most each : Nat) : List (List UInt8) × RD := RD.textsL each (r.count most).1 [] (r.count most).2
def RD.end_ (r : RD) : RD := if r.e = 0 ∧ 0 < r.left then { r with e := 4 } else r

/-- Its place is in its bytes. -/
def RD.Ok (r : RD) : Prop := r.at_ ≤ r.s.length ∧ r.s.length ≤ 2 ^ 40

theorem RD.Ok.fail {r : RD} (h : r.Ok) (e : Int) : (r.fail e).Ok := by unfold RD.fail; split <;> exact h
theorem RD.Ok.byte {r : RD} (h : r.Ok) : r.byte.2.Ok := by
  unfold RD.byte
  split
  · exact h
  split
  · exact h
  · have := h.1
    have h3 := h.2
    refine ⟨?_, h3⟩
    show r.at_ + 1 ≤ r.s.length
    omega
theorem RD.Ok.numL : ∀ {k i n : Nat} {r : RD}, r.Ok → (RD.numL k i n r).2.Ok
  | 0, _, _, _, h => h
  | k + 1, i, n, r, h => by
    unfold RD.numL
    have hb := h.byte
    dsimp only
    split
    · exact hb
    split
    · exact hb.fail 5
    split
    · exact hb
    · exact RD.Ok.numL hb
theorem RD.Ok.num {r : RD} (h : r.Ok) : r.num.2.Ok := RD.Ok.numL h
theorem RD.Ok.raw {r : RD} (h : r.Ok) (n : Nat) : (r.raw n).2.Ok := by
  unfold RD.raw
  split
  · exact h
  split
  · exact h.fail 3
  · rename_i h2
    have h1 := h.1
    unfold RD.left at h2
    refine ⟨?_, h.2⟩
    show r.at_ + n ≤ r.s.length
    omega
theorem RD.Ok.count {r : RD} (h : r.Ok) (m : Nat) : (r.count m).2.Ok := by
  unfold RD.count
  split
  · exact h.num.fail 4
  · exact h.num
theorem RD.Ok.text {r : RD} (h : r.Ok) (m : Nat) : (r.text m).2.Ok := (h.count m).raw _
theorem RD.Ok.textsL {m : Nat} : ∀ {k : Nat} {out : List (List UInt8)} {r : RD}, r.Ok → (RD.textsL m k out r).2.Ok
  | 0, _, _, h => h
  | k + 1, out, r, h => by
    unfold RD.textsL
    split
    · exact h.text m
    · exact RD.Ok.textsL (h.text m)
theorem RD.Ok.texts {r : RD} (h : r.Ok) (m e : Nat) : (r.texts m e).2.Ok := RD.Ok.textsL (h.count m)
theorem RD.Ok.end_ {r : RD} (h : r.Ok) : r.end_.Ok := by unfold RD.end_; split <;> exact h

theorem numL_length : ∀ (k n : Nat), 1 ≤ (X.numL k n).length ∧ (X.numL k n).length ≤ k + 1
  | 0, n => by simp [X.numL]
  | k + 1, n => by
    unfold X.numL
    split
    · rw [List.length_cons]
      have := numL_length k (n / 128)
      omega
    · simp
theorem numB_length (n : Nat) : 1 ≤ (numB n).length ∧ (numB n).length ≤ 9 := numL_length 8 n

/-! ### A number read again -/

theorem RD.byte_at {s : List UInt8} {a : Nat} {c : UInt8} (h : s[a]? = some c) : RD.byte ⟨s, a, 0⟩ = (c.toNat, ⟨s, a + 1, 0⟩) := by
  have hlt := (List.getElem?_eq_some_iff.1 h).1
  unfold RD.byte
  dsimp only
  rw [if_neg (fun h => h rfl), if_neg (by omega), List.getD_eq_getElem?_getD, h]
  rfl

theorem RD.numL_back (s : List UInt8) : ∀ (k i m n a : Nat), i + k = 8 → n < 2 ^ (62 - 7 * i) → (0 < i → 0 < n) → (∀ j c, (X.numL k n)[j]? = some c → s[a + j]? = some c) →
    RD.numL (k + 1) i m ⟨s, a, 0⟩ = (m + n * 2 ^ (7 * i), ⟨s, a + (X.numL k n).length, 0⟩)
  | 0, i, m, n, a, hi, hn, h0, hs => by
    have hi8 : i = 8 := by omega
    subst hi8
    have hn64 : n < 64 := by simpa using hn
    have h1 := h0 (by omega)
    have hc := hs 0 (UInt8.ofNat n) rfl
    unfold RD.numL
    dsimp only
    rw [RD.byte_at (show s[a]? = some _ from hc)]
    dsimp only
    have hcn : (UInt8.ofNat n).toNat = n := by rw [UInt8.toNat_ofNat']; omega
    rw [if_neg (fun h => h rfl), hcn, if_neg (by omega), if_pos (by omega), Nat.mod_eq_of_lt (by omega)]
    rfl
  | k + 1, i, m, n, a, hi, hn, h0, hs => by
    unfold X.numL at hs ⊢
    by_cases hb : 127 < n
    · rw [if_pos hb] at hs ⊢
      have hc := hs 0 _ rfl
      have hcn : (UInt8.ofNat (n % 128 + 128)).toNat = n % 128 + 128 := by rw [UInt8.toNat_ofNat']; omega
      have hdiv : n / 128 < 2 ^ (62 - 7 * (i + 1)) := by
        have e : 62 - 7 * i = (62 - 7 * (i + 1)) + 7 := by omega
        rw [e, Nat.pow_add] at hn
        exact Nat.div_lt_of_lt_mul (by rw [Nat.mul_comm]; exact hn)
      have ih := RD.numL_back s k (i + 1) (m + n % 128 * 2 ^ (7 * i)) (n / 128) (a + 1) (by omega) hdiv (fun _ => by omega) (fun j c hj => by
        have := hs (j + 1) c (by simpa using hj)
        rwa [show a + 1 + j = a + (j + 1) by omega])
      rw [RD.numL, RD.byte_at (show s[a]? = some _ from hc)]
      dsimp only
      rw [if_neg (fun h => h rfl), hcn, if_neg (by omega), if_neg (by omega), show (n % 128 + 128) % 128 = n % 128 by omega, ih]
      rw [List.length_cons, show a + 1 + (X.numL k (n / 128)).length = a + ((X.numL k (n / 128)).length + 1) by omega]
      congr 1
      rw [show 7 * (i + 1) = 7 * i + 7 by omega, Nat.pow_add]
      have hd : n = 128 * (n / 128) + n % 128 := (Nat.div_add_mod n 128).symm
      have h7 : (2 : Nat) ^ 7 = 128 := rfl
      rw [h7]
      conv => rhs; rw [hd]
      rw [Nat.add_mul, Nat.mul_comm 128, Nat.mul_assoc, Nat.mul_comm 128, Nat.mul_comm (2 ^ (7 * i)) 128]
      rw [Nat.mul_comm 128 (2 ^ (7 * i))]
      omega
    · rw [if_neg hb] at hs ⊢
      have hc := hs 0 _ rfl
      have hcn : (UInt8.ofNat n).toNat = n := by rw [UInt8.toNat_ofNat']; omega
      rw [RD.numL, RD.byte_at (show s[a]? = some _ from hc)]
      dsimp only
      rw [if_neg (fun h => h rfl), hcn, if_neg (by omega), if_pos (by omega), Nat.mod_eq_of_lt (by omega)]
      rfl

/-- What stands ahead is read; the rest stays. -/
theorem RD.num_back (pre rest : List UInt8) {n : Nat} (h : n < 2 ^ 62) : RD.num ⟨pre ++ numB n ++ rest, pre.length, 0⟩ = (n, ⟨pre ++ numB n ++ rest, (pre ++ numB n).length, 0⟩) := by
  have := RD.numL_back (pre ++ numB n ++ rest) 8 0 0 n pre.length rfl (by simpa using h) (fun h => absurd h (Nat.lt_irrefl _)) (fun j c hj => by
    have hlt := (List.getElem?_eq_some_iff.1 hj).1
    have hl : (X.numL 8 n).length = (numB n).length := rfl
    rw [List.append_assoc, List.getElem?_append_right (by omega), show pre.length + j - pre.length = j by omega, List.getElem?_append_left (by omega)]
    exact hj)
  unfold RD.num
  rw [this, List.length_append]
  simp [numB]

theorem RD.raw_back (pre t rest : List UInt8) : RD.raw ⟨pre ++ t ++ rest, pre.length, 0⟩ t.length = (t, ⟨pre ++ t ++ rest, (pre ++ t).length, 0⟩) := by
  unfold RD.raw RD.left
  dsimp only
  rw [if_neg (fun h => h rfl), if_neg (by simp only [List.length_append]; omega), List.append_assoc, List.drop_left, List.take_left, List.length_append]

theorem RD.end_back (s : List UInt8) : RD.end_ ⟨s, s.length, 0⟩ = ⟨s, s.length, 0⟩ := by
  unfold RD.end_ RD.left
  dsimp only
  rw [if_neg (by omega)]

theorem RD.count_back (pre rest : List UInt8) {n m : Nat} (h : n < 2 ^ 62) (hm : n ≤ m) : RD.count ⟨pre ++ numB n ++ rest, pre.length, 0⟩ m = (n, ⟨pre ++ numB n ++ rest, (pre ++ numB n).length, 0⟩) := by
  unfold RD.count
  rw [RD.num_back pre rest h]
  dsimp only
  rw [if_neg (by omega)]

theorem RD.text_back (pre t rest : List UInt8) {m : Nat} (h : t.length < 2 ^ 62) (hm : t.length ≤ m) : RD.text ⟨pre ++ textB t ++ rest, pre.length, 0⟩ m = (t, ⟨pre ++ textB t ++ rest, (pre ++ textB t).length, 0⟩) := by
  unfold RD.text textB
  have e : pre ++ (numB t.length ++ t) ++ rest = pre ++ numB t.length ++ (t ++ rest) := by simp
  rw [e, RD.count_back pre (t ++ rest) h hm]
  dsimp only
  have := RD.raw_back (pre ++ numB t.length) t rest
  rw [List.append_assoc (pre ++ numB t.length)] at this
  rw [this]
  simp

theorem RD.textsL_back {m : Nat} : ∀ (l : List (List UInt8)) (pre rest : List UInt8) (out : List (List UInt8)), (∀ t ∈ l, t.length < 2 ^ 62 ∧ t.length ≤ m) →
    RD.textsL m l.length out ⟨pre ++ (l.map textB).flatten ++ rest, pre.length, 0⟩ = (out ++ l, ⟨pre ++ (l.map textB).flatten ++ rest, (pre ++ (l.map textB).flatten).length, 0⟩)
  | [], pre, rest, out, _ => by simp [RD.textsL]
  | t :: l, pre, rest, out, h => by
    have ht := h t List.mem_cons_self
    have e : pre ++ ((t :: l).map textB).flatten ++ rest = pre ++ textB t ++ ((l.map textB).flatten ++ rest) := by simp
    have ih := RD.textsL_back l (pre ++ textB t) rest (out ++ [t]) fun u hu => h u (List.mem_cons_of_mem _ hu)
    rw [List.length_cons, RD.textsL, e, RD.text_back pre t _ ht.1 ht.2]
    dsimp only
    rw [if_neg (fun h => h rfl)]
    rw [List.append_assoc (pre ++ textB t)] at ih
    rw [ih]
    simp

theorem RD.texts_back (l : List (List UInt8)) {most each : Nat} (hl : l.length < 2 ^ 62) (hm : l.length ≤ most) (h : ∀ t ∈ l, t.length < 2 ^ 62 ∧ t.length ≤ each) :
    RD.texts (RD.of (textsB l)) most each = (l, ⟨textsB l, (textsB l).length, 0⟩) := by
  have h1 := RD.count_back [] ((l.map textB).flatten) hl hm
  simp only [List.nil_append, List.length_nil] at h1
  unfold RD.texts RD.of
  unfold textsB
  rw [h1]
  dsimp only
  have h2 := RD.textsL_back l (numB l.length) [] [] h
  simp only [List.append_nil, List.nil_append] at h2
  rw [h2]

end Go.X

/-! Numbers, texts and readers, walked. -/
namespace Go.X
open Go.Proofs

/-- A reader in memory. -/
def ReaderP (p : Nat) (r : RD) : SP := all [fact r.Ok, pts p [.string (str r.s), .int .i64 (r.at_ : Nat), .int .i64 r.e]]

section
variable {W w : World} {L : List SP} {p : Nat} {r : RD}

theorem ReaderP.open (hs : Sat W w (ReaderP p r :: L)) : r.Ok ∧ Sat W w (pts p [.string (str r.s), .int .i64 (r.at_ : Nat), .int .i64 r.e] :: L) := hs.open_all.open_fact
theorem ReaderP.shut (hr : r.Ok) (hs : Sat W w (pts p [.string (str r.s), .int .i64 (r.at_ : Nat), .int .i64 r.e] :: L)) : Sat W w (ReaderP p r :: L) := Sat.shut_all (As := [_, _]) (Sat.shut_fact hr hs)

theorem Read_code_spec (s : List UInt8) (hl : s.length ≤ 2 ^ 40) (hs : Sat W w L) : Ret Tryz.prog F.code_Read [.string (str s)] w fun v w' => ∃ p, v = ptr p ∧ Sat W w' (ReaderP p (RD.of s) :: L) :=
  S.code_Read_ok _ _ _ (xnew hs fun b w1 h => ⟨b, rfl, ReaderP.shut (r := RD.of s) ⟨Nat.zero_le _, hl⟩ h⟩)

theorem off_spec (hs : Sat W w (ReaderP p r :: L)) : Ret Tryz.prog F.code_Reader_off [ptr p] w fun v w' => v = .bool (r.e != 0) ∧ w' = w := by
  obtain ⟨_, h⟩ := ReaderP.open hs
  exact S.code_Reader_off_ok _ _ _ (xjoin0 (XIf.no rfl (xnil (xload h 2 rfl rfl ⟨rfl, rfl⟩))))

theorem fail_spec (e : Int) (hs : Sat W w (ReaderP p r :: L)) : Ret Tryz.prog F.code_Reader_fail [ptr p, .int .i64 e] w fun v w' => v = .tuple ⟨[]⟩ ∧ Sat W w' (ReaderP p (r.fail e) :: L) := by
  refine S.code_Reader_fail_ok _ _ _ _ (xcall_eq (off_spec hs) (r.e != 0) rfl ?_)
  unfold RD.fail
  by_cases h0 : r.e = 0
  · rw [if_pos h0]
    obtain ⟨hr, h⟩ := ReaderP.open hs
    exact XIf.yes (by rw [h0]; rfl) (xnil (xstore h 2 rfl (by simp) fun w1 h1 => ⟨rfl, ReaderP.shut (r := { r with e := e }) hr h1⟩))
  · rw [if_neg h0]
    exact XIf.no (by simpa using h0) ⟨rfl, hs⟩

theorem Err_spec (hs : Sat W w (ReaderP p r :: L)) : Ret Tryz.prog F.code_Reader_Err [ptr p] w fun v w' => v = .int .i64 r.e ∧ w' = w := by
  obtain ⟨_, h⟩ := ReaderP.open hs
  exact S.code_Reader_Err_ok _ _ _ (XIf.no rfl (xnil (xload h 2 rfl rfl ⟨rfl, rfl⟩)))

theorem Left_spec (hs : Sat W w (ReaderP p r :: L)) : Ret Tryz.prog F.code_Reader_Left [ptr p] w fun v w' => v = .int .i64 (r.left : Nat) ∧ Sat W w' (ReaderP p r :: L) := by
  obtain ⟨hr, h⟩ := ReaderP.open hs
  have hd := h.drew
  have h1 := hr.1
  have h2 := hr.2
  exact S.code_Reader_Left_ok _ _ _ (XIf.no rfl (xnil (xload hd 0 rfl rfl (xnil (xload hd 1 rfl rfl (xlet (r.left : Int) (by unfold RD.left; rw [str_size, wi (by omega) (by omega)]; omega) ⟨rfl, ReaderP.shut hr hd⟩))))))

theorem getD_str' (l : List UInt8) (i : Nat) : List.getD (ByteArray.data (str l)).toList i 0 = l.getD i 0 := by rw [str_toList]

theorem Byte_spec (hs : Sat W w (ReaderP p r :: L)) : Ret Tryz.prog F.code_Reader_Byte [ptr p] w fun v w' => v = .int .i64 (r.byte.1 : Nat) ∧ Sat W w' (ReaderP p r.byte.2 :: L) := by
  refine S.code_Reader_Byte_ok _ _ _ (xcall_eq (off_spec hs) (r.e != 0) rfl ?_)
  have hb := (ReaderP.open hs).1.byte
  unfold RD.byte at hb ⊢
  by_cases h0 : r.e = 0
  · rw [if_neg (by rw [h0]; exact fun h => h rfl)] at hb ⊢
    obtain ⟨hr, h⟩ := ReaderP.open hs
    have hd := h.drew
    have h1 := hr.1
    have h2 := hr.2
    have hsz : (str r.s).size = r.s.length := str_size _
    refine XIf.no (by rw [h0]; rfl) ?_
    refine xnil (xload hd 1 rfl rfl ?_)
    refine xnil (xload hd 0 rfl rfl ?_)
    by_cases he : r.at_ = r.s.length
    · rw [if_pos he] at hb ⊢
      refine XIf.yes (by rw [hsz, he]; simp) ?_
      refine xcalls (fail_spec 3 (ReaderP.shut hr hd)) ?_
      rintro v w1 ⟨rfl, h3⟩
      refine ⟨(), rfl, ?_⟩
      have e : r.fail 3 = { r with e := 3 } := by unfold RD.fail; rw [if_pos h0]
      rw [e] at h3
      exact ⟨rfl, h3⟩
    · rw [if_neg he] at hb ⊢
      have hne : ¬ ((r.at_ : Int) = (r.s.length : Int)) := by omega
      have := UInt8.toNat_lt (r.s.getD r.at_ 0)
      refine XIf.no (by rw [hsz]; simpa using hne) ?_
      refine xnil (xload hd 1 rfl rfl ?_)
      refine xlet (((r.at_ + 1 : Nat) : Int) : Int) (by (try dsimp only); rw [wi (by omega) (by omega)]; (try omega)) ?_
      refine xnil (xstore hd 1 rfl (by simp) fun w1 h3 => ?_)
      refine xnil (xload h3.drew 0 rfl rfl ?_)
      refine xnil (xload h3.drew 1 rfl rfl ?_)
      refine xlet ((r.at_ : Int) : Int) (by (try dsimp only); rw [wi (by omega) (by omega)]; (try omega)) ?_
      refine ⟨(by rw [hsz]; omega), ?_⟩
      refine xlet ((r.s.getD r.at_ 0).toNat : Int) (by rw [Int.toNat_natCast, getD_str']) ?_
      refine xlet ((r.s.getD r.at_ 0).toNat : Int) (wiN _ (by omega)) ?_
      exact ⟨rfl, ReaderP.shut (r := { r with at_ := r.at_ + 1 }) hb h3.drew⟩
  · rw [if_pos h0]
    exact XIf.yes (by simpa using h0) ⟨rfl, hs⟩

theorem and127 (n : Nat) (h : n < 2 ^ 62) : ibits .and .i64 (n : Int) 127 = ((n % 128 : Nat) : Int) := by
  show IntKind.wrap .i64 ((BitVec.ofInt 64 (n : Int) &&& BitVec.ofInt 64 127).toNat : Int) = _
  have h1 : (BitVec.ofInt 64 (n : Int)).toNat = n := by rw [BitVec.toNat_ofInt]; omega
  have h2 : (BitVec.ofInt 64 (127 : Int)).toNat = 2 ^ 7 - 1 := rfl
  rw [BitVec.toNat_and, h1, h2, Nat.and_two_pow_sub_one_eq_mod]
  exact wi (by omega) (by omega)

theorem or128 (n : Nat) (h : n < 128) : ibits .or .i64 (n : Int) 128 = ((n + 128 : Nat) : Int) := or_add n 1 7 (by omega) (by omega)

theorem byte_lt (r : RD) : r.byte.1 < 256 := by
  unfold RD.byte
  split
  · show 0 < 256; decide
  split
  · show 0 < 256; decide
  · exact UInt8.toNat_lt _

set_option maxRecDepth 10000 in
theorem Num_read_spec (hs : Sat W w (ReaderP p r :: L)) : Ret Tryz.prog F.code_Reader_Num [ptr p] w fun v w' => v = .int .i64 (r.num.1 : Nat) ∧ Sat W w' (ReaderP p r.num.2 :: L) := by
  suffices H : ∀ K : Value → World → Prop, (∀ w', Sat W w' (ReaderP p r.num.2 :: L) → K (.int .i64 (r.num.1 : Nat)) w') → S.code_Reader_Num (some ⟨p, 0, none⟩) K w from
    S.code_Reader_Num_ok _ _ _ (H _ fun _ h => ⟨rfl, h⟩)
  intro K hK
  unfold RD.num at hK
  obtain ⟨R, hR⟩ : ∃ R, RD.numL 9 0 0 r = R := ⟨_, rfl⟩
  rw [hR] at hK
  refine xloop (fun (st : Int × Int × Int × Unit) w => ∃ (i n : Nat) (q : RD), st = (0, (n : Int), (i : Int), ()) ∧ i ≤ 8 ∧ n < 2 ^ (7 * i) ∧ RD.numL (9 - i) i n q = R ∧ Sat W w (ReaderP p q :: L)) (fun st => (9 - st.2.2.1).toNat)
    ⟨0, 0, r, rfl, by omega, by decide, hR, hs⟩ ?_
  clear hs hR
  rintro next _ w ⟨i, n, q, rfl, hi, hn, hq, h⟩ hnext
  have hk : 9 - i = (8 - i) + 1 := by omega
  rw [hk] at hq
  unfold RD.numL at hq
  dsimp only at hq
  refine xcall (Byte_spec h) ?_
  rintro v w1 ⟨rfl, h1⟩
  have hb := byte_lt q
  obtain ⟨b, hbb⟩ : ∃ b, q.byte = b := ⟨_, rfl⟩
  rw [hbb] at hq h1 hb ⊢
  refine ⟨(b.1 : Int), rfl, xcall_eq (off_spec h1) (b.2.e != 0) rfl ?_⟩
  by_cases h0 : b.2.e = 0
  · rw [if_neg (fun e => e h0)] at hq
    refine XIf.no (by rw [h0]; rfl) (xjoin (fun (st : Bool × Unit) w' => st = (decide (i = 8 ∧ 63 < b.1 ∨ 0 < i ∧ b.1 = 0), ()) ∧ w' = w1) (fun J hJ => ?_) ?_)
    · refine xjoin (fun (st : Bool × Unit) w' => st = (decide (i = 8 ∧ 63 < b.1), ()) ∧ w' = w1) (fun J2 hJ2 => ?_) ?_
      · by_cases h8 : i = 8
        · refine XIf.yes (by rw [h8]; rfl) (hJ2 _ _ ⟨?_, rfl⟩)
          have : (decide ((b.1 : Int) > 63)) = decide (i = 8 ∧ 63 < b.1) := decide_eq_decide.2 ⟨fun h => ⟨h8, by omega⟩, fun h => by omega⟩
          exact Prod.ext this rfl
        · refine XIf.no ?_ (hJ2 _ _ ⟨?_, rfl⟩)
          · have : ¬ ((i : Int) = 8) := by omega
            simpa using this
          · exact Prod.ext (decide_eq_false (fun h => h8 h.1)).symm rfl
      · rintro _ _ ⟨rfl, rfl⟩
        by_cases hc : i = 8 ∧ 63 < b.1
        · refine XIf.yes (decide_eq_true hc) (hJ _ _ ⟨?_, rfl⟩)
          exact Prod.ext ((decide_eq_true hc).trans (decide_eq_true (Or.inl hc)).symm) rfl
        · refine XIf.no (decide_eq_false hc) (xjoin0 ?_)
          by_cases hi0 : 0 < i
          · refine XIf.yes (decide_eq_true (by dsimp only; omega)) (hJ _ _ ⟨?_, rfl⟩)
            have : ((b.1 : Int) == 0) = decide (i = 8 ∧ 63 < b.1 ∨ 0 < i ∧ b.1 = 0) := by
              rw [show ((b.1 : Int) == 0) = decide ((b.1 : Int) = 0) from rfl]
              exact decide_eq_decide.2 ⟨fun h => .inr ⟨hi0, by omega⟩, fun h => by rcases h with h | h; exact absurd h hc; omega⟩
            exact Prod.ext this rfl
          · refine XIf.no (decide_eq_false (by dsimp only; omega)) (hJ _ _ ⟨?_, rfl⟩)
            exact Prod.ext (decide_eq_false (by omega)).symm rfl
    · rintro _ _ ⟨rfl, rfl⟩
      by_cases hbad : i = 8 ∧ 63 < b.1 ∨ 0 < i ∧ b.1 = 0
      · rw [if_pos hbad] at hq
        refine XIf.yes (decide_eq_true hbad) (xcalls (fail_spec 5 h1) ?_)
        rintro v w2 ⟨rfl, h2⟩
        rw [← hq] at hK
        exact ⟨(), rfl, hK _ h2⟩
      · rw [if_neg hbad] at hq
        have hp : 2 ^ (7 * i) ≤ 2 ^ 56 := Nat.pow_le_pow_right (by decide) (by omega)
        have h128 : b.1 % 128 * 2 ^ (7 * i) < 2 ^ 62 := by
          by_cases h8 : i = 8
          · subst h8
            have : b.1 < 64 := by omega
            have h56 : (2 : Nat) ^ (7 * 8) = 2 ^ 56 := rfl
            rw [h56]
            omega
          · have h49 : 2 ^ (7 * i) ≤ 2 ^ 49 := Nat.pow_le_pow_right (by decide) (by omega)
            have := Nat.mul_le_mul (show b.1 % 128 ≤ 127 by omega) h49
            omega
        have hsum : n + b.1 % 128 * 2 ^ (7 * i) < 2 ^ 62 := by
          by_cases h8 : i = 8
          · subst h8
            have : b.1 < 64 := by omega
            have h56 : (2 : Nat) ^ (7 * 8) = 2 ^ 56 := rfl
            rw [h56] at hn ⊢
            omega
          · have h49 : 2 ^ (7 * i) ≤ 2 ^ 49 := Nat.pow_le_pow_right (by decide) (by omega)
            have := Nat.mul_le_mul (show b.1 % 128 ≤ 127 by omega) h49
            omega
        refine XIf.no (decide_eq_false hbad) ?_
        refine xlet ((b.1 % 128 : Nat) : Int) (and127 _ (by omega)) ?_
        refine xlet ((7 * i : Nat) : Int) (by dsimp only; rw [wi (by omega) (by omega)]; omega) ?_
        refine ⟨by (try dsimp only); omega, ?_⟩
        have hs1 := ishl_nat (b.1 % 128) (7 * i) (by omega) h128
        have hs2 := or_add n (b.1 % 128) (7 * i) hn hsum
        obtain ⟨X, hX⟩ : ∃ X, b.1 % 128 * 2 ^ (7 * i) = X := ⟨_, rfl⟩
        rw [hX] at hs1 hs2 hsum hq h128
        refine xlet (X : Int) hs1 ?_
        refine xlet ((n + X : Nat) : Int) hs2 ?_
        by_cases h7 : b.1 < 128
        · rw [if_pos h7] at hq
          rw [← hq] at hK
          exact XIf.yes (decide_eq_true (by omega)) (hK _ h1)
        · rw [if_neg h7] at hq
          have hi8 : i ≠ 8 := fun e => by omega
          refine XIf.no (decide_eq_false (by omega)) (xlet ((i + 1 : Nat) : Int) (by dsimp only; rw [wi (by omega) (by omega)]; omega) (hnext _ _ ⟨i + 1, _, b.2, rfl, by omega, ?_, ?_, h1⟩ (by dsimp only; omega)))
          · rw [show 7 * (i + 1) = 7 * i + 7 by omega, Nat.pow_add]
            have h7' : (2 : Nat) ^ 7 = 128 := rfl
            rw [h7', ← hX]
            have : b.1 % 128 * 2 ^ (7 * i) ≤ 127 * 2 ^ (7 * i) := Nat.mul_le_mul_right _ (by omega)
            omega
          · rw [show 9 - (i + 1) = 8 - i by omega]
            exact hq
  · rw [if_pos h0] at hq
    rw [← hq] at hK
    exact XIf.yes (by simpa using h0) (hK _ h1)

theorem Raw_spec (n : Nat) (hs : Sat W w (ReaderP p r :: L)) (hn : n < 2 ^ 62) : Ret Tryz.prog F.code_Reader_Raw [ptr p, .int .i64 n] w fun v w' => v = .string (str (r.raw n).1) ∧ Sat W w' (ReaderP p (r.raw n).2 :: L) := by
  refine S.code_Reader_Raw_ok _ _ _ _ (xcall_eq (off_spec hs) (r.e != 0) rfl ?_)
  have hro := (ReaderP.open hs).1.raw n
  unfold RD.raw at hro ⊢
  by_cases h0 : r.e = 0
  · rw [if_neg (fun e => e h0)] at hro ⊢
    refine XIf.no (by rw [h0]; rfl) (XIf.no (decide_eq_false (by omega)) (xcall (Left_spec hs) ?_))
    rintro v w1 ⟨rfl, h1⟩
    refine ⟨(r.left : Int), rfl, ?_⟩
    by_cases hl : r.left < n
    · rw [if_pos hl] at hro ⊢
      refine XIf.yes (decide_eq_true (by omega)) (xcalls (fail_spec 3 h1) ?_)
      rintro v w2 ⟨rfl, h2⟩
      exact ⟨(), rfl, rfl, h2⟩
    · rw [if_neg hl] at hro ⊢
      obtain ⟨hr, h⟩ := ReaderP.open h1
      have h3 := hr.1
      have h4 := hr.2
      have hsz : (str r.s).size = r.s.length := str_size _
      unfold RD.left at hl
      refine XIf.no (decide_eq_false (by unfold RD.left; omega)) ?_
      refine xnil (xload h 1 rfl rfl ?_)
      refine xlet (((r.at_ + n : Nat) : Int) : Int) (by (try dsimp only); rw [wi (by omega) (by omega)]; (try omega)) ?_
      refine xnil (xstore h 1 rfl (by simp) fun w2 h2 => ?_)
      refine xnil (xload h2.drew 0 rfl rfl ?_)
      refine xnil (xload h2.drew 1 rfl rfl ?_)
      refine xlet ((r.at_ : Int) : Int) (by (try dsimp only); rw [wi (by omega) (by omega)]; (try omega)) ?_
      refine xnil (xload h2.drew 1 rfl rfl ?_)
      refine ⟨⟨⟨by omega, by rw [hsz]; omega⟩, by omega, by omega⟩, ?_⟩
      refine xlet (str ((r.s.drop r.at_).take n)) ?_ ⟨rfl, ReaderP.shut (r := { r with at_ := r.at_ + n }) hro h2.drew⟩
      rw [Int.toNat_natCast, Int.toNat_natCast, ext_str, str_toList, List.drop_take, show r.at_ + n - r.at_ = n by omega]
  · rw [if_pos h0]
    exact XIf.yes (by simpa using h0) ⟨rfl, hs⟩

end
end Go.X

/-! Deltas, parts, the store and the vault, plain. -/
namespace Go.X

/-! ### Deltas -/

/-- A step: bytes of the basis, or a text. -/
structure SP1 where
  at_ : Nat
  len : Nat
  text : List UInt8

structure DL where
  basis : List UInt8
  mark : List UInt8
  size : Nat
  steps : List SP1

def SP1.right (x : SP1) : Bool := if x.text ≠ [] then decide (x.at_ = 0) && decide (x.len = 0) && decide (x.text.length ≤ 4096) else decide (0 < x.len) && decide (x.at_ + x.len ≤ 524288)
def SP1.fits (x : SP1) (n : Nat) : Bool := x.right && (decide (x.text ≠ []) || decide (x.at_ + x.len ≤ n))
def sumSP (l : List SP1) : Nat := (l.map fun x => x.len + x.text.length).sum
def DL.right (d : DL) : Bool := decide (d.basis.length = 32) && decide (d.mark.length = 32) && decide (d.size ≤ 524288) && decide (d.steps.length ≤ 524288) && d.steps.all SP1.right && decide (sumSP d.steps = d.size)

def runD (basis : List UInt8) : List SP1 → List UInt8 → List UInt8 × Int
  | [], out => (out, 0)
  | x :: l, out => if x.fits basis.length = false then ([], 2) else if 524288 < out.length + (x.len + x.text.length) then ([], 4) else runD basis l (out ++ (basis.drop x.at_).take x.len ++ x.text)

/-- What a delta makes of a basis; the error; the book. -/
def applyD (M : Bk) (basis : List UInt8) (d : DL) : List UInt8 × Int × Bk :=
  if d.right = false then ([], 1, M) else
  if M.mark basis ≠ d.basis then ([], 13, M.add basis) else
  let R := runD basis d.steps []
  if R.2 ≠ 0 then ([], R.2, M.add basis) else
  if (M.add basis).mark R.1 ≠ d.mark then ([], 6, (M.add basis).add R.1) else (R.1, 0, (M.add basis).add R.1)

def stepB (x : SP1) : List UInt8 := if x.text ≠ [] then numB (2 * x.text.length) ++ x.text else numB (2 * x.len + 1) ++ numB x.at_
def bytesD (d : DL) : List UInt8 := d.basis ++ d.mark ++ numB d.size ++ numB d.steps.length ++ (d.steps.map stepB).flatten

/-- The next step; none: a text that is too long. -/
def stepR (r : RD) : Option SP1 × RD :=
  let n := r.num
  if n.1 % 2 = 1 then (some ⟨n.2.num.1, n.1 / 2, []⟩, n.2.num.2)
  else if 4096 < n.1 / 2 then (none, n.2) else (some ⟨0, 0, (n.2.raw (n.1 / 2)).1⟩, (n.2.raw (n.1 / 2)).2)

/-- So many steps; the error. -/
def stepsR : Nat → List SP1 → RD → (List SP1 × Int) × RD
  | 0, out, r => ((out, 0), r)
  | k + 1, out, r =>
    let x := stepR r
    if x.2.e ≠ 0 then (([], x.2.e), x.2) else match x.1 with
      | none => (([], 5), x.2)
      | some y => if y.right = false then (([], 5), x.2) else stepsR k (out ++ [y]) x.2

def DL.none_ : DL := ⟨[], [], 0, []⟩

def readD (s : List UInt8) : DL × Int :=
  let b := (RD.of s).raw 32
  let m := b.2.raw 32
  let z := m.2.num
  let n := z.2.num
  let S := stepsR n.1 [] n.2
  if S.1.2 ≠ 0 then (DL.none_, S.1.2) else
  if S.2.end_.e ≠ 0 then (DL.none_, S.2.end_.e) else
  let d : DL := ⟨b.1, m.1, z.1, S.1.1⟩
  if d.right = false then (DL.none_, 5) else (d, 0)

/-! ### Parts -/

structure PT where
  at_ : Nat
  of_ : Nat
  text : List UInt8

def PT.none_ : PT := ⟨0, 0, []⟩

def partsN (n : Nat) (s : List UInt8) : Nat := max 1 ((s.length + n - 1) / n)
/-- A text in parts of a size. -/
def cutP (s : List UInt8) (n : Nat) : List PT := (List.range (partsN n s)).map fun i => ⟨i, partsN n s, (s.drop (i * n)).take n⟩

/-- A box: of each part, whether it is there, its text. -/
structure BX where
  parts : List (List UInt8)
  has : List Bool
  left : Nat
  bytes : Nat

def BX.new (n : Nat) : BX := ⟨List.replicate n [], List.replicate n false, n, 0⟩
def BX.put (b : BX) (p : PT) : BX × Int :=
  if p.of_ ≠ b.parts.length then (b, 1) else if p.of_ ≤ p.at_ then (b, 2) else
  if b.has.getD p.at_ false = true then (b, if b.parts.getD p.at_ [] ≠ p.text then 6 else 0) else
  if 524288 < b.bytes + p.text.length then (b, 4) else
  (⟨b.parts.set p.at_ p.text, b.has.set p.at_ true, b.left - 1, b.bytes + p.text.length⟩, 0)
def BX.text (b : BX) : List UInt8 := b.parts.flatten

/-! ### The store -/

/-- A generation that is kept. -/
structure GN where
  gen : Nat
  basis : Nat
  mark : List UInt8
  text : List UInt8

def placeG (n : Nat) (gs : List GN) : Nat := (gs.takeWhile fun g => decide (g.gen < n)).length
def findG (n : Nat) (gs : List GN) : Option GN := match gs[placeG n gs]? with
  | some g => if g.gen = n then some g else none
  | none => none
def markG (n : Nat) (gs : List GN) : Option (List UInt8) := (findG n gs).map (·.mark)

/-- The generations that one is made of, the whole one first; none: one lacks. -/
def roadL (gs : List GN) : Nat → Nat → List Nat → Option (List Nat)
  | 0, _, _ => none
  | k + 1, n, out => match findG n gs with
    | none => none
    | some g => if g.basis = n then some (n :: out) else roadL gs k g.basis (n :: out)
def roadG (gs : List GN) (n : Nat) : Option (List Nat) := roadL gs (gs.length + 1) n []

/-- What is made on a road, behind its first generation. -/
def alongG (gs : List GN) : List Nat → List UInt8 → Bk → List UInt8 × Int × Bk
  | [], t, M => (t, 0, M)
  | k :: ks, t, M => match findG k gs with
    | none => ([], 19, M)
    | some g =>
      let d := readD g.text
      if d.2 ≠ 0 then ([], 19, M) else
      let A := applyD M t d.1
      if A.2.1 ≠ 0 then ([], 19, A.2.2) else alongG gs ks A.1 A.2.2

/-- A generation's image; the error; the book. -/
def madeG (gs : List GN) (n : Nat) (M : Bk) : List UInt8 × Int × Bk :=
  match roadG gs n with
  | none => ([], 8, M)
  | some [] => ([], 8, M)
  | some (k :: ks) =>
    let A := alongG gs ks ((findG k gs).getD ⟨0, 0, [], []⟩).text M
    if A.2.1 ≠ 0 then A else
    if A.2.2.is A.1 ((findG n gs).getD ⟨0, 0, [], []⟩).mark = true then A else ([], 19, A.2.2)

def hangsG (on : Nat) (gs : List GN) : Bool := gs.any fun g => decide (g.basis = on) && decide (g.gen ≠ on)
def setG (g : GN) (gs : List GN) : List GN := if (findG g.gen gs).isSome then gs.set (placeG g.gen gs) g else gs.insertIdx (placeG g.gen gs) g

def recW (n : Nat) (m t : List UInt8) : List UInt8 := 87 :: (numB n ++ m ++ t)
def recD (n b : Nat) (m t : List UInt8) : List UInt8 := 68 :: (numB n ++ numB b ++ m ++ t)
def recG (a b : Nat) : List UInt8 := 71 :: (numB a ++ numB b)
def GN.rec_ (g : GN) : List UInt8 := if g.basis = g.gen then recW g.gen g.mark g.text else recD g.gen g.basis g.mark g.text
def bytesG (gs : List GN) : Nat := ((gs.map GN.rec_).flatten).length

end Go.X

/-! What lasts of a vault, and the vault, plain. -/
namespace Go.X

/-- What was accepted as a generation. -/
structure EN where
  gen : Nat
  ballot : Nat
  mark : List UInt8

structure ST where
  promised : Nat
  floor : Nat
  top : Nat
  list : List EN
  gens : List GN

def ST.none_ : ST := ⟨0, 0, 0, [], []⟩

def forgetE (n : Nat) (l : List EN) : List EN := l.filter fun x => !decide (x.gen = n)
def acceptE (x : EN) (l : List EN) : List EN := (forgetE x.gen l).insertIdx ((forgetE x.gen l).takeWhile fun y => decide (y.gen < x.gen)).length x
def findE1 (n : Nat) (l : List EN) : Option EN := l.find? fun x => decide (x.gen = n)

/-! ### What a record does -/

/-- What a call leaves of the generations: its answer, the generations, the book. -/
structure GR where
  err : Int
  gens : List GN
  book : Bk

def wholeG (gs : List GN) (M : Bk) (r : RD) : GR :=
  let n := r.num
  let m := n.2.raw 32
  let t := m.2.raw m.2.left
  if t.2.e ≠ 0 then ⟨t.2.e, gs, M⟩ else
  if 524288 < t.1.length then ⟨4, gs, M⟩ else
  if M.is t.1 m.1 = false then ⟨6, gs, M⟩ else
  if (markG n.1 gs).isSome ∧ (markG n.1 gs).getD [] ≠ m.1 ∧ hangsG n.1 gs = true then ⟨15, gs, M⟩ else
  ⟨0, setG ⟨n.1, n.1, m.1, t.1⟩ gs, M⟩

def partlyG (gs : List GN) (M : Bk) (r : RD) : GR :=
  let n := r.num
  let b := n.2.num
  let m := b.2.raw 32
  let t := m.2.raw m.2.left
  if t.2.e ≠ 0 then ⟨t.2.e, gs, M⟩ else
  if n.1 ≤ b.1 then ⟨2, gs, M⟩ else
  let d := readD t.1
  if d.2 ≠ 0 then ⟨d.2, gs, M⟩ else
  let o := madeG gs b.1 M
  if o.2.1 ≠ 0 then ⟨o.2.1, gs, o.2.2⟩ else
  let A := applyD o.2.2 o.1 d.1
  if A.2.1 ≠ 0 then ⟨A.2.1, gs, A.2.2⟩ else
  if d.1.mark ≠ m.1 then ⟨6, gs, A.2.2⟩ else
  if (markG n.1 gs).isSome ∧ (markG n.1 gs).getD [] ≠ m.1 ∧ hangsG n.1 gs = true then ⟨15, gs, A.2.2⟩ else
  ⟨0, setG ⟨n.1, b.1, m.1, t.1⟩ gs, A.2.2⟩

def staysG (a b n : Nat) : Bool := decide (a ≤ n) && decide (n < b)
def goneG (gs : List GN) (M : Bk) (r : RD) : GR :=
  let a := r.num
  let b := a.2.num
  if b.2.end_.e ≠ 0 then ⟨b.2.end_.e, gs, M⟩ else
  if gs.any (fun g => staysG a.1 b.1 g.gen && !staysG a.1 b.1 g.basis) = true then ⟨13, gs, M⟩ else
  ⟨0, gs.filter fun g => staysG a.1 b.1 g.gen, M⟩

def doG (gs : List GN) (M : Bk) : List UInt8 → GR
  | [] => ⟨3, gs, M⟩
  | c :: s => if c = 87 then wholeG gs M (RD.of s) else if c = 68 then partlyG gs M (RD.of s) else if c = 71 then goneG gs M (RD.of s) else ⟨5, gs, M⟩

structure SR where
  err : Int
  st : ST
  book : Bk

/-- A record that is not several. -/
def doOne (S : ST) (M : Bk) : List UInt8 → SR
  | [] => ⟨3, S, M⟩
  | c :: s =>
    let r := RD.of s
    if c = 80 then
      let n := r.num
      ⟨n.2.end_.e, if n.2.end_.e = 0 then { S with promised := n.1 } else S, M⟩
    else if c = 65 then
      let g := r.num
      let b := g.2.num
      let m := b.2.raw 32
      ⟨m.2.end_.e, if m.2.end_.e = 0 then { S with list := acceptE ⟨g.1, b.1, m.1⟩ S.list } else S, M⟩
    else if c = 70 then
      let n := r.num
      ⟨n.2.end_.e, if n.2.end_.e = 0 then { S with list := forgetE n.1 S.list } else S, M⟩
    else if c = 67 then
      let a := r.num
      let b := a.2.num
      ⟨b.2.end_.e, if b.2.end_.e = 0 then { S with floor := a.1, top := b.1, list := S.list.filter fun x => !decide (x.gen < b.1) } else S, M⟩
    else
      let R := doG S.gens M (c :: s)
      ⟨R.err, { S with gens := R.gens }, R.book⟩

def doAll (S : ST) (M : Bk) : List (List UInt8) → SR
  | [] => ⟨0, S, M⟩
  | x :: l => if x.head? = some 77 then ⟨5, S, M⟩ else
    let R := doOne S M x
    if R.err ≠ 0 then R else doAll R.st R.book l

def doS (S : ST) (M : Bk) (s : List UInt8) : SR :=
  if s.head? = some 77 then
    let l := (RD.of s.tail).texts 64 1048576
    if l.2.end_.e ≠ 0 then ⟨l.2.end_.e, S, M⟩ else doAll S M l.1
  else doOne S M s

/-! ### The vault -/

structure CM where
  ballot : Nat
  gen : Nat
  basis : Nat
  mark : List UInt8
  box : BX

structure VT where
  id : Nat
  log : LG
  st : ST
  in_ : Option CM
  dead : Bool

structure MS where
  kind : Int
  from_ : Nat
  to : Nat
  ballot : Nat
  gen : Nat
  basis : Nat
  floor : Nat
  top : Nat
  read : Nat
  mark : List UInt8
  part : PT
  list : List EN

def MS.none_ : MS := ⟨0, 0, 0, 0, 0, 0, 0, 0, 0, [], PT.none_, []⟩

def recP (n : Nat) : List UInt8 := 80 :: numB n
def recA (x : EN) : List UInt8 := 65 :: (numB x.gen ++ numB x.ballot ++ x.mark)
def recF (n : Nat) : List UInt8 := 70 :: numB n
def recC (a b : Nat) : List UInt8 := 67 :: (numB a ++ numB b)
def ST.recs (S : ST) : List (List UInt8) := recP S.promised :: (S.gens.map GN.rec_ ++ recC S.floor S.top :: S.list.map recA)

/-- Where a vault stands: its device, its book, itself. -/
structure VW where
  D : DD
  M : Bk
  v : VT

def noRoom (e : Int) : Bool := decide (e = 7) || decide (e = 2)

/-- The record that stands for several. -/
def oneOf : List (List UInt8) → List UInt8
  | [r] => r
  | l => 77 :: textsB l

/-- A record behind the others; where there is no room, behind the log made anew. -/
def againV (X : VW) (one : List UInt8) : PR4 :=
  let A := putW X.D X.M X.v.log 82 [one]
  if noRoom A.err then
    let T := turnW A.disk A.book A.log X.v.st.recs
    if T.err = 0 then putW T.disk T.book T.log 82 [one] else T
  else A

/-- All lasts. -/
def syncV (B : PR4) : Int × DD := if B.err = 0 then B.disk.sync else (B.err, B.disk)

/-- A log that is long is made anew. -/
def tidyV (X : VW) : VW :=
  if 32768 + 2 * bytesG X.v.st.gens < X.v.log.end_ then
    let T := turnW X.D X.M X.v.log X.v.st.recs
    ⟨T.disk, T.book, { X.v with log := T.log, dead := if T.err ≠ 0 ∧ T.err ≠ 4 ∧ noRoom T.err = false then true else X.v.dead }⟩
  else X

/-- A record lasts, and is done. -/
def writeV (X : VW) (recs : List (List UInt8)) : Int × VW :=
  let one := oneOf recs
  let B := againV X one
  if noRoom B.err then (7, ⟨B.disk, B.book, { X.v with log := B.log }⟩) else
  let F := syncV B
  if F.1 ≠ 0 then (F.1, ⟨F.2, B.book, { X.v with log := B.log, dead := decide (F.1 ≠ 7) && decide (F.1 ≠ 4) }⟩) else
  let R := doS X.v.st B.book one
  if R.err ≠ 0 then (R.err, ⟨F.2, R.book, { X.v with log := B.log, st := R.st, dead := true }⟩) else
  (0, tidyV ⟨F.2, R.book, { X.v with log := B.log, st := R.st }⟩)

end Go.X

/-! Numbers, texts and lists as bytes, walked; records of the vault. -/
namespace Go.X
open Go.Proofs

section
variable {W w : World} {L : List SP}

theorem ibits_or128 (n : Nat) (h : n < 128) : ibits .or .i64 (n : Int) 128 = ((n + 128 : Nat) : Int) := by
  have := or_add n 1 7 (by omega) (by omega)
  simpa using this

theorem Num_spec (n : Nat) (hn : n < 2 ^ 62) (hs : Sat W w L) : Ret Tryz.prog F.code_Num [.int .i64 n] w fun v w' => v = .tuple ⟨[.string (str (numB n)), .int .i64 0]⟩ ∧ Sat W w' L := by
  suffices H : ∀ K : Value → World → Prop, (∀ w', Sat W w' L → K (.tuple ⟨[.string (str (numB n)), .int .i64 0]⟩) w') → S.code_Num n K w from
    S.code_Num_ok _ _ _ (H _ fun _ h => ⟨rfl, h⟩)
  intro K hK
  have hbig : ¬ (n : Int) > 4611686018427387903 := by omega
  refine xjoin0 (XIf.no (decide_eq_false (by omega)) (XIf.no (decide_eq_false hbig) ?_))
  refine xloop (fun (st : Int × Sl × Unit) w => ∃ (k m : Nat) (pre : List UInt8) (s : Sl), st = ((m : Int), s, ()) ∧ k ≤ 8 ∧ m < 2 ^ (62 - 7 * (8 - k)) ∧ pre ++ X.numL k m = numB n ∧ pre.length = 8 - k ∧ Sat W w (own 1 s (bcells pre) :: L)) (fun st => st.1.toNat)
    ⟨8, n, [], ⟨none, 0, 0⟩, rfl, by omega, by simpa using hn, rfl, rfl, hs.own_nil⟩ ?_
  clear hs
  rintro next _ w ⟨k, m, pre, s, rfl, hk, hm, hpre, hl, h⟩ hnext
  have hm62 : m < 2 ^ 62 := Nat.lt_of_lt_of_le hm (Nat.pow_le_pow_right (by decide) (by omega))
  have hsl : s.len = pre.length := by have := h.own_len; rw [bcells_length] at this; omega
  by_cases hb : 127 < m
  · have hk0 : k ≠ 0 := by
      rintro rfl
      have : (2 : Nat) ^ (62 - 7 * (8 - 0)) = 64 := rfl
      omega
    obtain ⟨j, rfl⟩ : ∃ j, k = j + 1 := ⟨k - 1, by omega⟩
    have e8 : IntKind.wrap .u8 ((m % 128 + 128 : Nat) : Int) = ((UInt8.ofNat (m % 128 + 128)).toNat : Int) := by rw [wrapu8, u8_toNat]
    have hnext1 : X.numL (j + 1) m = UInt8.ofNat (m % 128 + 128) :: X.numL j (m / 128) := by rw [X.numL, if_pos hb]
    rw [hnext1] at hpre
    refine XIf.yes (decide_eq_true (show (m : Int) > 127 by omega)) ?_
    refine xlet ((m % 128 : Nat) : Int) (and127 m hm62) ?_
    refine xlet ((m % 128 + 128 : Nat) : Int) (ibits_or128 _ (by omega)) ?_
    refine xlet ((UInt8.ofNat (m % 128 + 128)).toNat : Int) e8 ?_
    refine xappend1 (by kernel_rfl) h rfl rfl (by show s.len + 1 ≤ _; omega) fun a s' w' h' hl' => ⟨by decide, xlet ((m / 128 : Nat) : Int) (ishr_nat m 7 (by decide)) (hnext _ _ ⟨j, m / 128, pre ++ [UInt8.ofNat (m % 128 + 128)], s', rfl, by omega, ?_, by simpa using hpre, by rw [List.length_append, hl]; simp; omega, ?_⟩ (by dsimp only; omega))⟩
    · have e : 62 - 7 * (8 - (j + 1)) = (62 - 7 * (8 - j)) + 7 := by omega
      rw [e, Nat.pow_add] at hm
      exact Nat.div_lt_of_lt_mul (by rw [Nat.mul_comm]; exact hm)
    · rw [bcells_append]; exact h'
  · have e8 : IntKind.wrap .u8 (m : Int) = ((UInt8.ofNat m).toNat : Int) := by rw [wrapu8, u8_toNat]
    have hnext1 : X.numL k m = [UInt8.ofNat m] := by
      cases k with
      | zero => rfl
      | succ k => rw [X.numL, if_neg hb]
    rw [hnext1] at hpre
    refine XIf.no (decide_eq_false (show ¬ (m : Int) > 127 by omega)) ?_
    refine xlet ((UInt8.ofNat m).toNat : Int) e8 ?_
    refine xappend1 (by kernel_rfl) h rfl rfl (by show s.len + 1 ≤ _; omega) fun a s' w' h' hl' => ?_
    have h2 : Sat W w' (own 1 s' (bcells (numB n)) :: L) := by rw [← hpre, bcells_append]; exact h'
    have hsl2 : s'.len = (numB n).length := by have := h2.own_len; rw [bcells_length] at this; omega
    refine xbytes (k := 0) (l := numB n) h2 (fun b hb _ => hb) (fun h => h) (by omega) (fun _ => rfl) ?_
    rw [List.drop_zero, List.take_of_length_le (by omega)]
    exact hK _ h2.drop

theorem Text_spec (s : List UInt8) (hn : s.length ≤ 1048576) (hs : Sat W w L) : Ret Tryz.prog F.code_Text [.string (str s)] w fun v w' => v = .tuple ⟨[.string (str (textB s)), .int .i64 0]⟩ ∧ Sat W w' L := by
  have hz : (str s).size = s.length := str_size s
  have hb := numB_length s.length
  refine S.code_Text_ok _ _ _ (XIf.no (decide_eq_false (by rw [hz]; omega)) ?_)
  rw [hz]
  refine xcalls (Num_spec s.length (by omega) hs) ?_
  rintro v w1 ⟨rfl, h1⟩
  refine ⟨(str (numB s.length), 0, ()), rfl, ?_⟩
  exact ⟨by dsimp only; rw [str_size]; show ((_ : Nat) : Int) ≤ 9223372036854775807; omega, xlet (str (textB s)) (str_append _ _) ⟨rfl, h1⟩⟩

theorem texts_flat_le : ∀ (l : List (List UInt8)), (∀ x ∈ l, x.length ≤ 1048576) → ((l.map textB).flatten).length ≤ l.length * 1048585
  | [], _ => by simp
  | x :: l, h => by
    have h1 := h x List.mem_cons_self
    have h2 := texts_flat_le l fun y hy => h y (List.mem_cons_of_mem _ hy)
    have h3 := numB_length x.length
    simp only [List.map_cons, List.flatten_cons, List.length_append, List.length_cons, textB]
    omega

theorem Texts_spec {A : SP} {s : Sl} {xs : List (List UInt8)} (hR : ROStr W A s xs) (hs : Sat W w (A :: L)) (hx : xs.length ≤ 2 ^ 20) (hl : ∀ x ∈ xs, x.length ≤ 1048576) :
    Ret Tryz.prog F.code_Texts [.slice s.a s.len s.cap] w fun v w' => v = .tuple ⟨[.string (str (textsB xs)), .int .i64 0]⟩ ∧ Sat W w' (A :: L) := by
  suffices H : ∀ K : Value → World → Prop, (∀ w', Sat W w' (A :: L) → K (.tuple ⟨[.string (str (textsB xs)), .int .i64 0]⟩) w') → S.code_Texts s K w from
    S.code_Texts_ok s _ _ (H _ fun _ h => ⟨rfl, h⟩)
  intro K hK
  have hxl := hR.1
  obtain ⟨T, e, hB⟩ := btypes
  refine XIf.no (decide_eq_false (show ¬ ((s.len : Nat) : Int) > 1048576 by omega)) (xnewBuild (T := T) (e := e) (by rw [hB.builder]; kernel_rfl) hs fun bb w1 h1 => ?_)
  rw [← hxl]
  refine xcalls (Num_spec xs.length (by omega) h1) ?_
  rintro v w2 ⟨rfl, h2⟩
  refine ⟨(str (numB xs.length), 0, ()), rfl, ?_⟩
  have hnl := numB_length xs.length
  refine xcalls (WriteString_spec (s := str (numB xs.length)) hB h2 (by rw [str_size]; simp only [List.length_nil]; omega)) ?_
  rintro v w3 ⟨rfl, h3⟩
  refine ⟨(_, .nilIface, ()), rfl, ?_⟩
  rw [str_toList, List.nil_append] at h3
  refine xloop (fun (st : ByteArray × Int × Int × Unit) w => ∃ (k : Nat), st = (ByteArray.empty, 0, (k : Int), ()) ∧ k ≤ xs.length ∧ Sat W w (BuildP T e bb (numB xs.length ++ ((xs.take k).map textB).flatten) :: A :: L)) (fun st => ((xs.length : Int) - st.2.2.1).toNat)
    ⟨0, rfl, Nat.zero_le _, by simpa using h3⟩ ?_
  clear h3 h2 h1 hs
  rintro next _ w ⟨k, rfl, hk, h⟩ hnext
  have hlen : (numB xs.length ++ ((xs.take k).map textB).flatten).length ≤ 2 ^ 42 := by
    have h1 := texts_flat_le (xs.take k) fun x hx => hl x (List.mem_of_mem_take hx)
    have h2 : (xs.take k).length ≤ 2 ^ 20 := by rw [List.length_take]; omega
    have h3 := Nat.mul_le_mul_right 1048585 h2
    rw [List.length_append]
    omega
  by_cases hlt : k < xs.length
  · obtain ⟨x, hxk⟩ : ∃ x, xs[k]? = some x := ⟨_, List.getElem?_eq_getElem hlt⟩
    have hxl2 := hl x (List.mem_of_getElem? hxk)
    have hbl := numB_length x.length
    refine XIf.yes (decide_eq_true (show (k : Int) < (xs.length : Int) by omega)) ?_
    rw [hxl]
    refine xstrAt hR (h.bring 1) k rfl hxk (by show Int.toNat _ * 1 = _; simp) fun a => ?_
    refine xcalls (Text_spec x hxl2 h) ?_
    rintro v w1 ⟨rfl, h1⟩
    refine ⟨(str (textB x), 0, ()), rfl, ?_⟩
    refine XIf.no rfl ?_
    refine xcalls (WriteString_spec (s := str (textB x)) hB h1 (by rw [str_size]; have : (textB x).length = (numB x.length).length + x.length := List.length_append; omega)) ?_
    rintro v w2 ⟨rfl, h2⟩
    refine ⟨(_, .nilIface, ()), rfl, ?_⟩
    rw [str_toList] at h2
    refine xlet (((k + 1 : Nat) : Int) : Int) (by (try dsimp only); rw [wi (by omega) (by omega)]; (try omega)) ?_
    refine hnext _ _ ⟨k + 1, rfl, hlt, ?_⟩ (by dsimp only; omega)
    have e : numB xs.length ++ ((xs.take (k + 1)).map textB).flatten = numB xs.length ++ ((xs.take k).map textB).flatten ++ textB x := by
      rw [List.take_add_one, hxk]
      simp
    rw [e]
    exact h2
  · have hke : k = xs.length := by omega
    subst hke
    rw [List.take_length] at h hlen
    refine XIf.no (decide_eq_false (show ¬ (xs.length : Int) < (xs.length : Int) by omega)) ?_
    refine xcall (String_spec hB h (by omega)) ?_
    rintro v w1 ⟨rfl, h1⟩
    refine ⟨_, rfl, ?_⟩
    exact hK _ h1.drop

/-- Numbers that can be read now. -/
def RdN (w : World) (s : Sl) (xs : List Nat) : Prop := xs.length = s.len ∧ ∀ k x, xs[k]? = some x → ∃ b o, s.a = some ⟨b, o, none⟩ ∧ w.cell? ⟨b, o + k, none⟩ = some (.int .i64 (x : Nat))

/-- A record of a sign and numbers. -/
theorem num_spec {c : UInt8} {b : Nat} {xs : List Nat} (hx : ∀ x ∈ xs, x < 2 ^ 62) (hn : xs.length ≤ 2 ^ 10) (hs : Sat W w (pts b (xs.map fun x => Value.int .i64 (x : Nat)) :: L)) :
    Ret Tryz.prog F.vault_num [.string ⟨#[c]⟩, .slice (some ⟨b, 0, none⟩) xs.length xs.length] w fun v w' => v = .string (str (c :: (xs.map numB).flatten)) ∧ Sat W w' (pts b (xs.map fun x => Value.int .i64 (x : Nat)) :: L) := by
  suffices H : ∀ K : Value → World → Prop, (∀ w', Sat W w' (pts b (xs.map fun x => Value.int .i64 (x : Nat)) :: L) → K (.string (str (c :: (xs.map numB).flatten))) w') → S.vault_num ⟨#[c]⟩ ⟨some ⟨b, 0, none⟩, xs.length, xs.length⟩ K w from
    S.vault_num_ok _ ⟨some ⟨b, 0, none⟩, xs.length, xs.length⟩ _ _ (H _ fun _ h => ⟨rfl, h⟩)
  intro K hK
  refine xloop (fun (st : ByteArray × Int × Unit) w => ∃ (k : Nat), st = (str (c :: ((xs.take k).map numB).flatten), (k : Int), ()) ∧ k ≤ xs.length ∧ ((xs.take k).map numB).flatten.length ≤ 9 * k ∧ Sat W w (pts b (xs.map fun x => Value.int .i64 (x : Nat)) :: L)) (fun st => ((xs.length : Int) - st.2.1).toNat)
    ⟨0, rfl, Nat.zero_le _, by simp, hs⟩ ?_
  clear hs
  rintro next _ w ⟨k, rfl, hk, hl, h⟩ hnext
  by_cases hlt : k < xs.length
  · obtain ⟨x, hxk⟩ : ∃ x, xs[k]? = some x := ⟨_, List.getElem?_eq_getElem hlt⟩
    have hc : w.cell? ⟨b, k, none⟩ = some (.int .i64 (x : Nat)) := h.cell (by rw [List.getElem?_map, hxk]; rfl)
    have hbl := numB_length x
    refine XIf.yes (decide_eq_true (show (k : Int) < (xs.length : Int) by omega)) ?_
    refine xnil ?_
    refine ⟨⟨by show (0 : Int) ≤ (k : Int); omega, by show (k : Int) < (xs.length : Int); omega⟩, ?_⟩
    refine xload_at (l := .int .i64) (x := (x : Int)) (by rw [Addr.add_mk]; show w.cell? ⟨b, 0 + Int.toNat (k : Int) * 1, none⟩ = _; rw [Int.toNat_natCast, Nat.mul_one, Nat.zero_add]; exact hc) ?_
    refine xcalls (Num_spec x (hx x (List.mem_of_getElem? hxk)) h) ?_
    rintro v w1 ⟨rfl, h1⟩
    refine ⟨(str (numB x), 0, ()), rfl, ?_⟩
    refine ⟨by dsimp only; rw [str_size, str_size]; simp only [List.length_cons]; show ((_ : Nat) : Int) ≤ 9223372036854775807; omega, xlet (str (c :: ((xs.take (k + 1)).map numB).flatten)) ?_ (xlet ((k + 1 : Nat) : Int) (by (try dsimp only); rw [wi (by omega) (by omega)]; (try omega)) (hnext _ _ ⟨k + 1, rfl, hlt, ?_, h1⟩ (by dsimp only; omega)))⟩
    · rw [str_append, List.take_add_one, hxk]
      simp
    · rw [List.take_add_one, hxk]
      simp only [List.map_append, List.flatten_append, List.length_append, Option.toList_some, List.map_cons, List.map_nil, List.flatten_cons, List.flatten_nil, List.append_nil]
      omega
  · have hke : k = xs.length := by omega
    subst hke
    refine XIf.no (decide_eq_false (show ¬ (xs.length : Int) < (xs.length : Int) by omega)) ?_
    show K (.string (str (c :: ((xs.take xs.length).map numB).flatten))) w
    rw [List.take_length]
    exact hK _ h

end
end Go.X

/-! errors.Is at two numbers of one type of errors: whether they are one. -/
namespace Go.X
open Go.Proofs Go.RowKit Go.Extern.Stop Go.Stop Go.Extern

theorem Is.under : Tryz.prog.underlying 186 = some (.interface #[("Error", 191)]) := by kernel_rfl
theorem Is.iface : Tryz.prog.isIface 186 = true := by kernel_rfl
theorem Is.typeOf (v : Value) (w : World) : (Extern.ReflectliteType.typeOf #[.iface 29 v]).run Tryz.prog w = .ok (.iface 343 (.agg #[.pointer (some ⟨3, 29, none⟩)])) w := by kernel_rfl
theorem Is.comparable (w : World) : ((Extern.ReflectliteType.method fun t => do Extern.Rtype.noPackHeld "Comparable" t; (fun a => Value.bool a.comparable) <$> typeInfo t) #[.agg #[.pointer (some ⟨3, 29, none⟩)]]).run Tryz.prog w = .ok (.bool true) w := by kernel_rfl
theorem Is.method (v : Value) (w : World) : (Go.method 493 343 v "Comparable").run Tryz.prog w = .ok (335, v) w := by kernel_rfl
theorem Is.noIs (v : Value) (xT : TypeId) (w : World) : (Instr.typeAssert (.iface 29 v) xT 345 true).run Tryz.prog w = .ok (.tuple #[.nilIface, .bool false]) w := run_typeAssert_lacksB (want := #[("Is", 347)]) (by kernel_rfl) (by kernel_rfl) (by kernel_rfl) v xT w
theorem Is.noUnwrap (v : Value) (xT : TypeId) (w : World) : (Instr.typeAssert (.iface 29 v) xT 348 true).run Tryz.prog w = .ok (.tuple #[.nilIface, .bool false]) w := run_typeAssert_lacksB (want := #[("Unwrap", 349)]) (by kernel_rfl) (by kernel_rfl) (by kernel_rfl) v xT w
theorem Is.noUnwraps (v : Value) (xT : TypeId) (w : World) : (Instr.typeAssert (.iface 29 v) xT 350 true).run Tryz.prog w = .ok (.tuple #[.nilIface, .bool false]) w := run_typeAssert_lacksB (want := #[("Unwrap", 352)]) (by kernel_rfl) (by kernel_rfl) (by kernel_rfl) v xT w
theorem Is.eql (a b : Int) (w : World) : (binOp .eql 186 (.iface 29 (.int .i64 a)) (.iface 29 (.int .i64 b))).run Tryz.prog w = .ok (.bool (a == b)) w :=
  Go.Lib.run_eql_iface_int w a b Is.under (by kernel_rfl) (under_eq (by kernel_rfl) : Tryz.prog.underlying 29 = some (.int .i64))

set_option maxHeartbeats 2000000 in
set_option maxRecDepth 100000 in
theorem is_in (a b : Int) (w : World) : Calls Tryz.prog 282 #[.iface 29 (.int .i64 a), .iface 29 (.int .i64 b), .bool true] w fun e w' => e = .returned (.bool (a == b)) ∧ w' = w := by
  have nE := Is.noIs
  have uE := Is.noUnwrap
  have vE := Is.noUnwraps
  have heq := Is.eql a b
  obtain ⟨c, hc⟩ : ∃ c, (a == b) = c := ⟨_, rfl⟩
  rw [hc] at heq ⊢
  clear hc
  cases c
  · go_enter Tryz.func282, Tryz.ntmps282
    go_wp2
    refine wp_loop_rounds 1 ?_
    rw [rounds_succ]
    go_wp2
    go_ret
    exact ⟨rfl, rfl⟩
  · go_enter Tryz.func282, Tryz.ntmps282
    go_wp2
    refine wp_loop_rounds 1 ?_
    rw [rounds_succ]
    go_wp2
    go_ret
    exact ⟨rfl, rfl⟩

set_option maxHeartbeats 2000000 in
set_option maxRecDepth 100000 in
theorem is_ints (a b : Int) (w : World) : Calls Tryz.prog 241 #[.iface 29 (.int .i64 a), .iface 29 (.int .i64 b)] w fun e w' => e = .returned (.bool (a == b)) ∧ w' = w := by
  have h8 := @run_callFunc_extern Tryz.prog 281 _ Extern.ReflectliteType.typeOf Tryz.func281 (by kernel_rfl) (by kernel_rfl) (by kernel_rfl) (by kernel_rfl)
  have h32 := @run_callFunc_extern Tryz.prog 335 _ (Extern.ReflectliteType.method fun t => do Extern.Rtype.noPackHeld "Comparable" t; pure (.bool (← typeInfo t).comparable)) Tryz.func335 (by kernel_rfl) (by kernel_rfl) (by kernel_rfl) (by kernel_rfl)
  have tT := Is.typeOf
  have cT := Is.comparable
  have mR := Is.method
  have nE := Is.noIs
  have uE := Is.noUnwrap
  have vE := Is.noUnwraps
  have hi := Is.iface
  have heq := fun w => Is.eql a b w
  go_enter Tryz.func241, Tryz.ntmps241
  go_wp2_with fail
  refine (is_in a b w).mono ?_
  rintro e w' ⟨rfl, rfl⟩
  go_wp2
  go_ret
  exact ⟨rfl, rfl⟩

end Go.X

/-! Rows of structs in memory; messages; the vault in memory. -/
namespace Go.X
open Go.Proofs

section
variable {P : Program} {W w : World} {L : List SP}

/-! ### Several cells at once -/

/-- Reading a whole block. -/
theorem xloadsP {ls : List Leaf} {b : Nat} {K : HL ls → Prop} (x : HL ls) (hs : Sat W w (pts b (HL.cells ls x) :: L)) (hk : K x) : XLoads ls ⟨b, 0, none⟩ w K :=
  xloads x (fun j v hv => by rw [Addr.add_mk, Nat.zero_add]; exact hs.cell hv) hk

theorem splice_all {cs vs : List Value} (h : vs.length = cs.length) : splice cs 0 vs = vs := by
  unfold splice
  rw [List.take_zero, List.nil_append, Nat.zero_add, h, List.drop_length, List.append_nil]

/-- Writing a whole block. -/
theorem xstoresP {b : Nat} {cs vs : List Value} {K : World → Prop} (hs : Sat W w (pts b cs :: L)) (hl : vs.length = cs.length) (hk : ∀ w', Sat W w' (pts b vs :: L) → K w') : XStores ⟨b, 0, none⟩ 0 vs w K := by
  refine xstores vs 0 w cs hs (by omega) fun w' h => hk w' ?_
  have : splice cs (0 + 0) vs = vs := splice_all hl
  rwa [this] at h

theorem flat_len {α : Type} {f : α → List Value} {n : Nat} (hf : ∀ e, (f e).length = n) : ∀ (l : List α), (l.flatMap f).length = l.length * n
  | [] => by simp
  | e :: l => by
    rw [List.flatMap_cons, List.length_append, hf, flat_len hf l, List.length_cons, Nat.succ_mul, Nat.add_comm]

theorem flat_row {α : Type} {f : α → List Value} {n : Nat} (hf : ∀ e, (f e).length = n) : ∀ {l : List α} {k : Nat} {e : α}, l[k]? = some e → ((l.flatMap f).drop (k * n)).take n = f e
  | [], k, e, h => by simp at h
  | a :: l, 0, e, h => by
    simp at h
    subst h
    rw [Nat.zero_mul, List.drop_zero, List.flatMap_cons, List.take_left' (hf a)]
  | a :: l, k + 1, e, h => by
    simp only [List.getElem?_cons_succ] at h
    rw [List.flatMap_cons, Nat.succ_mul, Nat.add_comm, ← List.drop_drop, List.drop_left' (hf a)]
    exact flat_row hf h

theorem rows_get {α : Type} {f : α → List Value} {n : Nat} (hf : ∀ e, (f e).length = n) {l : List α} {k : Nat} {e : α} (h : l[k]? = some e) {j : Nat} {v : Value} (hj : (f e)[j]? = some v) : (l.flatMap f)[k * n + j]? = some v := by
  have hlt := (List.getElem?_eq_some_iff.1 hj).1
  have hr := flat_row hf h
  rw [← hr, List.getElem?_take_of_lt (by rw [hf] at hlt; exact hlt), List.getElem?_drop] at hj
  exact hj

theorem flat_one {α : Type} {f : α → List Value} (hf : ∀ e, allOne (f e) = true) (l : List α) : allOne (l.flatMap f) = true :=
  allOne_of fun v hv => by
    obtain ⟨e, _, he⟩ := List.mem_flatMap.1 hv
    exact oneCell_of_allOne (hf e) v he

/-- Reading an element of several cells. -/
theorem xrow {α : Type} {f : α → List Value} {sz : Nat} {ls : List Leaf} {s : Sl} {es : List α} {i : Int} {n : Nat} {K : Addr → HL ls → Prop} (hf : ∀ e, (f e).length = sz) (hs : Sat W w (own sz s (es.flatMap f) :: L)) (k : Nat) (hi : i = k) {e : α} (he : es[k]? = some e) (hn : n = k * sz)
    (x : HL ls) (hx : HL.cells ls x = f e) (hpos : 0 < sz) (hk : ∀ a, K a x) : XNil s.a fun a => ((0 : Int) ≤ i ∧ i < ((s.len : Nat) : Int)) ∧ XLoads ls (Addr.add a n) w (K a) := by
  have hlt := (List.getElem?_eq_some_iff.1 he).1
  have hlen := hs.own_len
  rw [flat_len hf] at hlen
  have hsl : es.length = s.len := Nat.eq_of_mul_eq_mul_right hpos hlen
  obtain ⟨b, hb, hc⟩ := hs.own_some (by omega)
  rw [hb]
  refine ⟨by omega, xloads x (fun j v hj => ?_) (hk _)⟩
  rw [hx] at hj
  rw [Addr.add_mk, Addr.add_mk, Nat.zero_add, hn]
  exact hc _ _ (rows_get hf he hj)

/-- Reading a field of an element. -/
theorem xrowf {α : Type} {f : α → List Value} {sz o : Nat} {l : Leaf} {s : Sl} {es : List α} {i : Int} {n : Nat} {K : Addr → l.T → Prop} (hf : ∀ e, (f e).length = sz) (hs : Sat W w (own sz s (es.flatMap f) :: L)) (k : Nat) (hi : i = k) {e : α} (he : es[k]? = some e) (hn : n = k * sz) (hpos : 0 < sz)
    {x : l.T} (hx : (f e)[o]? = some (l.mk x)) (hk : ∀ a, K a x) : XNil s.a fun a => ((0 : Int) ≤ i ∧ i < ((s.len : Nat) : Int)) ∧ XLoad l (Addr.add (Addr.add a n) o) w (K a) := by
  have hlt := (List.getElem?_eq_some_iff.1 he).1
  have hlen := hs.own_len
  rw [flat_len hf] at hlen
  have hsl : es.length = s.len := Nat.eq_of_mul_eq_mul_right hpos hlen
  exact xfield hs k hi (by omega) hn (rows_get hf he hx) fun a _ => hk a

/-- Reading an element's first field. -/
theorem xrow0 {α : Type} {f : α → List Value} {sz : Nat} {l : Leaf} {s : Sl} {es : List α} {i : Int} {n : Nat} {K : Addr → l.T → Prop} (hf : ∀ e, (f e).length = sz) (hs : Sat W w (own sz s (es.flatMap f) :: L)) (k : Nat) (hi : i = k) {e : α} (he : es[k]? = some e) (hn : n = k * sz) (hpos : 0 < sz)
    {x : l.T} (hx : (f e)[0]? = some (l.mk x)) (hk : ∀ a, K a x) : XNil s.a fun a => ((0 : Int) ≤ i ∧ i < ((s.len : Nat) : Int)) ∧ XLoad l (Addr.add a n) w (K a) := by
  have hlt := (List.getElem?_eq_some_iff.1 he).1
  have hlen := hs.own_len
  rw [flat_len hf] at hlen
  have hsl : es.length = s.len := Nat.eq_of_mul_eq_mul_right hpos hlen
  exact xfield0 hs k hi (by omega) hn (by have := rows_get hf he hx; simpa using this) fun a _ => hk a

theorem rows_len {α : Type} {f : α → List Value} {sz : Nat} {s : Sl} {es : List α} (hf : ∀ e, (f e).length = sz) (hpos : 0 < sz) (hs : Sat W w (own sz s (es.flatMap f) :: L)) : es.length = s.len := by
  have hlen := hs.own_len
  rw [flat_len hf] at hlen
  exact Nat.eq_of_mul_eq_mul_right hpos hlen

/-- **append** of one element of several cells. -/
theorem xappendRow {α : Type} {f : α → List Value} {t u ty T : TypeId} {sz : Nat} {s : Sl} {es : List α} {cs : List Value} {K : Addr → Sl → World → Prop} (hok : okApp P t u sz = true) (hf : ∀ e, (f e).length = sz) (h1 : ∀ e, allOne (f e) = true) (hpos : 0 < sz)
    (hs : Sat W w (own sz s (es.flatMap f) :: L)) (e : α) (he : cs = f e) (hsz : es.length + 1 ≤ 2 ^ 40) (hk : ∀ a s' w', Sat W w' (own sz s' ((es ++ [e]).flatMap f) :: L) → K a s' w') :
    XNew T cs w fun a w1 => XDo P (Builtin.append_ #[t, u] ty ⟨[.slice s.a s.len s.cap, .slice (some a) 1 1]⟩) (.leaf .slice) w1 (K a) := by
  subst he
  have hl := rows_len hf hpos hs
  refine xappend1 hok hs (hf e) (h1 e) (by omega) fun a s' w' h _ => hk a s' w' ?_
  rw [List.flatMap_append]
  simpa using h

/-- **append** of several elements. -/
theorem xappendRows {α : Type} {f : α → List Value} {t u ty : TypeId} {sz : Nat} {s x : Sl} {es ns : List α} {K : Sl → World → Prop} (hok : okApp P t u sz = true) (hf : ∀ e, (f e).length = sz) (h1 : ∀ e, allOne (f e) = true) (hpos : 0 < sz)
    (hs : Sat W w (own sz s (es.flatMap f) :: own sz x (ns.flatMap f) :: L)) (hsz : es.length + ns.length ≤ 2 ^ 40) (hk : ∀ s' w', Sat W w' (own sz s' ((es ++ ns).flatMap f) :: own sz x (ns.flatMap f) :: L) → K s' w') :
    XDo P (Builtin.append_ #[t, u] ty ⟨[.slice s.a s.len s.cap, .slice x.a x.len x.cap]⟩) (.leaf .slice) w K := by
  have hl := rows_len hf hpos hs
  have hx := rows_len hf hpos hs.swap
  refine xappend hok hs (reads_own hs.swap) (by rw [flat_len hf, hx]) (fun h0 => ?_) (flat_one h1 ns) (by omega) fun s' w' h _ => hk s' w' ?_
  · rcases hs.swap.open_own with ⟨_, _, _, h, _⟩ | ⟨b, _, h, _⟩
    · exact h
    · rw [h] at h0; cases h0
  · rw [List.flatMap_append]
    exact h

/-- A row of texts as a row of structs. -/
theorem strs_flat (xs : List (List UInt8)) : xs.flatMap (fun x => [Value.string (str x)]) = xs.map fun x => Value.string (str x) := by
  induction xs with
  | nil => rfl
  | cons x xs ih => rw [List.flatMap_cons, ih]; rfl

/-- The front of a row, by its length. -/
theorem own_rows_take {α : Type} {f : α → List Value} {sz : Nat} {s : Sl} {es : List α} (hf : ∀ e, (f e).length = sz) (hs : Sat W w (own sz s (es.flatMap f) :: L)) (n : Nat) (hn : n ≤ s.len) : Sat W w (own sz ⟨s.a, n, s.cap⟩ ((es.take n).flatMap f) :: L) := by
  have h := hs.own_shrink n hn
  have e : (es.flatMap f).take (n * sz) = (es.take n).flatMap f := by
    have : ∀ (l : List α) (m : Nat), (l.flatMap f).take (m * sz) = (l.take m).flatMap f := by
      intro l
      induction l with
      | nil => intro m; simp
      | cons a l ih =>
        intro m
        cases m with
        | zero => simp
        | succ m =>
          rw [List.flatMap_cons, List.take_succ_cons, List.flatMap_cons, Nat.succ_mul, Nat.add_comm, List.take_append, List.take_of_length_le (by rw [hf]; omega), hf, Nat.add_sub_cancel_left, ih]
    exact this es n
  rwa [e] at h

/-- A slice that has its block for itself, from somewhere in it on. -/
def ownV (sz : Nat) (s : Sl) (xs : List Value) : SP := fun h => own sz s xs h ∨
  ∃ b pre rest, s.a = some ⟨b, pre.length, none⟩ ∧ xs.length = s.len * sz ∧ (xs ++ rest).length = s.cap * sz ∧ s.len ≤ s.cap ∧ pts b (pre ++ (xs ++ rest)) h

theorem Sat.open_ownV {sz : Nat} {s : Sl} {xs : List Value} (hs : Sat W w (ownV sz s xs :: L)) :
    (s.a = none ∧ s.len = 0 ∧ s.cap = 0 ∧ xs = [] ∧ Sat W w L) ∨
    ∃ b pre rest, s.a = some ⟨b, List.length (α := Value) pre, none⟩ ∧ xs.length = s.len * sz ∧ (xs ++ rest).length = s.cap * sz ∧ s.len ≤ s.cap ∧ Sat W w (pts b (pre ++ (xs ++ rest)) :: L) := by
  obtain ⟨f, g, d, e, h, hb⟩ := hs.new
  rcases h with h | ⟨b, pre, rest, h1, h2, h3, h4, h5⟩
  · rcases h with ⟨h1, h2, h3, h4⟩ | ⟨b, rest, h1, h2, h3, h4, h5⟩
    · exact .inl ⟨h1, h2, h3, h4, hs.drop⟩
    · exact .inr ⟨b, [], rest, h1, h2, h3, h4, hs.os, hs.tape, hs.output, hs.size, hs.old, f, g, d, e, h5, hb⟩
  · exact .inr ⟨b, pre, rest, h1, h2, h3, h4, hs.os, hs.tape, hs.output, hs.size, hs.old, f, g, d, e, h5, hb⟩

theorem Sat.ownV_some {sz : Nat} {s : Sl} {xs : List Value} (hs : Sat W w (ownV sz s xs :: L)) (h : 0 < s.len) : ∃ b o, s.a = some ⟨b, o, none⟩ ∧ ∀ j v, xs[j]? = some v → w.cell? ⟨b, o + j, none⟩ = some v := by
  rcases hs.open_ownV with ⟨_, h0, _⟩ | ⟨b, pre, rest, ha, _, _, _, hp⟩
  · omega
  · refine ⟨b, pre.length, ha, fun j v hj => hp.cell ?_⟩
    rw [List.getElem?_append_right (by omega), Nat.add_sub_cancel_left, List.getElem?_append_left (List.getElem?_eq_some_iff.1 hj).1]
    exact hj

theorem Sat.ownV_len {sz : Nat} {s : Sl} {xs : List Value} (hs : Sat W w (ownV sz s xs :: L)) : xs.length = s.len * sz := by
  rcases hs.open_ownV with ⟨_, h, _, rfl, _⟩ | ⟨_, _, _, _, h, _⟩
  · rw [h, Nat.zero_mul]; rfl
  · exact h

/-- A slice without its first elements. -/
theorem Sat.own_view {sz : Nat} {s : Sl} {xs : List Value} (hs : Sat W w (own sz s xs :: L)) (k : Nat) (hk : k < s.len) :
    Sat W w (ownV sz ⟨if s.cap = k then s.a else Option.map (fun b => Addr.add b (k * sz)) s.a, s.len - k, s.cap - k⟩ (xs.drop (k * sz)) :: L) := by
  rcases hs.open_own with ⟨_, h0, _⟩ | ⟨b, rest, ha, hl, hc, hlc, hp⟩
  · omega
  · have hkl : k * sz ≤ s.len * sz := Nat.mul_le_mul_right _ (by omega)
    have hkc : k * sz ≤ s.cap * sz := Nat.mul_le_mul_right _ (by omega)
    refine hp.head fun h hh => .inr ⟨b, xs.take (k * sz), rest, ?_, ?_, ?_, by show s.len - k ≤ s.cap - k; omega, ?_⟩
    · dsimp only
      rw [if_neg (by omega), ha, List.length_take, Nat.min_eq_left (by omega)]
      simp [Addr.add_mk]
    · rw [List.length_drop, hl, Nat.sub_mul]
    · rw [List.length_append, hl] at hc
      rw [List.length_append, List.length_drop, hl, Nat.sub_mul]
      omega
    · rw [← List.append_assoc, List.take_append_drop]
      exact hh

/-- **append** to a slice that has its block for itself from somewhere on. -/
theorem xappendV {α : Type} {f : α → List Value} {t u ty : TypeId} {sz : Nat} {s x : Sl} {es ns : List α} {K : Sl → World → Prop} (hok : okApp P t u sz = true) (hf : ∀ e, (f e).length = sz) (h1 : ∀ e, allOne (f e) = true) (hpos : 0 < sz)
    (hs : Sat W w (ownV sz s (es.flatMap f) :: own sz x (ns.flatMap f) :: L)) (hsz : es.length + ns.length ≤ 2 ^ 40) (hk : ∀ s' w', Sat W w' (ownV sz s' ((es ++ ns).flatMap f) :: own sz x (ns.flatMap f) :: L) → K s' w') :
    XDo P (Builtin.append_ #[t, u] ty ⟨[.slice s.a s.len s.cap, .slice x.a x.len x.cap]⟩) (.leaf .slice) w K := by
  obtain ⟨e, e', i, z, ht, hu, hi, rfl, hb, hz, hzs⟩ := okApp_spec hok
  have hx := rows_len hf hpos (hs.bring 1)
  have hl0 := hs.ownV_len
  rw [flat_len hf] at hl0
  have hl : es.length = s.len := Nat.eq_of_mul_eq_mul_right hpos hl0
  have hn0 : x.a = none → ns.flatMap f = [] := fun h0 => by
    rcases (hs.bring 1).open_own with ⟨_, _, _, h, _⟩ | ⟨b, _, h, _⟩
    · exact h
    · rw [h] at h0; cases h0
  have hrn := reads_own (hs.bring 1)
  have hln : (ns.flatMap f).length = x.len * i.size := by rw [flat_len hf, hx]
  have e1 : (es ++ ns).flatMap f = es.flatMap f ++ ns.flatMap f := List.flatMap_append
  rcases hs.open_ownV with ⟨ha, h2, h3, h4, h5⟩ | ⟨b, pre, rest, ha, hxl, hc, hlc, hp⟩
  · have hown : Sat W w (own i.size s (es.flatMap f) :: own i.size x (ns.flatMap f) :: L) := h5.add_emp.head fun _ _ => .inl ⟨ha, h2, h3, h4⟩
    refine xappend hok hown (reads_own (hown.bring 1)) hln hn0 (flat_one h1 ns) (by omega) fun s' w' h _ => hk s' w' ?_
    rw [e1]
    exact h.head fun _ h => .inl h
  · by_cases hroom : s.len + x.len ≤ s.cap
    · have hfi := run_first (P := P) (w := w) (sz := i.size) (n := x.len) (s := x) (vs := ns.flatMap f) hrn hln hn0 x.len x.cap
      have hcap2 := Nat.mul_le_mul_right i.size hroom
      rw [Nat.add_mul] at hcap2
      have hfit : pre.length + s.len * i.size + (ns.flatMap f).length ≤ (pre ++ (es.flatMap f ++ rest)).length := by
        rw [List.length_append, hc, hln]
        omega
      have hst := xstores (W := W) (L := own i.size x (ns.flatMap f) :: L) (b := b) (o := pre.length + s.len * i.size) (K := fun w' => Sat W w' (pts b (splice (pre ++ (es.flatMap f ++ rest)) (pre.length + s.len * i.size) (ns.flatMap f)) :: own i.size x (ns.flatMap f) :: L)) (ns.flatMap f) 0 w _ hp (by simpa using hfit) (fun w' h => by simpa using h)
      obtain ⟨w', hr, hw⟩ := run_stores (P := P) (ns.flatMap f) 0 w (flat_one h1 ns) hst
      have hr' : (Builtin.append_ #[t, u] ty ⟨[.slice s.a s.len s.cap, .slice x.a x.len x.cap]⟩).run P w = .ok (.slice (some ⟨b, pre.length, none⟩) (s.len + x.len) s.cap) w' := by
        rw [ha]
        simp [Builtin.append_, run_underlying ht, run_underlying hu, run_size' hi, Builtin.lenOf, hroom, hfi, Addr.add_mk, hr]
      refine ⟨⟨some ⟨b, pre.length, none⟩, s.len + x.len, s.cap⟩, w', hr', hk _ _ ?_⟩
      have hsp : splice (pre ++ (es.flatMap f ++ rest)) (pre.length + s.len * i.size) (ns.flatMap f) = pre ++ ((es.flatMap f ++ ns.flatMap f) ++ rest.drop (ns.flatMap f).length) := by
        have hpl : (pre ++ es.flatMap f).length = pre.length + s.len * i.size := by rw [List.length_append, hxl]
        unfold splice
        rw [← List.append_assoc, ← hpl, List.take_left, List.drop_append, List.drop_eq_nil_of_le (by omega), List.nil_append, Nat.add_sub_cancel_left]
        simp only [List.append_assoc]
      rw [hsp] at hw
      rw [e1]
      refine hw.head fun _ hh => .inr ⟨b, pre, _, rfl, ?_, ?_, hroom, hh⟩
      · rw [List.length_append, hxl, hln, Nat.add_mul]
      · rw [List.length_append, hxl] at hc
        rw [List.length_append, List.length_append, hxl, List.length_drop, hln]
        show _ = s.cap * i.size
        omega
    · have hro : Reads w s (es.flatMap f) := by
        intro a ha' j v hj
        rw [ha] at ha'
        cases ha'
        rw [Addr.add_mk]
        refine hp.cell ?_
        rw [List.getElem?_append_right (by omega), Nat.add_sub_cancel_left, List.getElem?_append_left (List.getElem?_eq_some_iff.1 hj).1]
        exact hj
      have hr := run_append_new (P := P) (ty := ty) ht hu hi hz hb hro hrn hxl hln (fun h => by rw [ha] at h; cases h) hn0 (by omega) (by omega)
      refine ⟨⟨some ⟨w.heap.size, 0, none⟩, s.len + x.len, grownCap w (s.len + x.len) s.cap e⟩, _, hr, hk _ _ ?_⟩
      have hnew := (hs.drop.drew).new_block (cs := es.flatMap f ++ ns.flatMap f ++ (Builtin.zeroCells z.cells (grownCap w (s.len + x.len) s.cap e - (s.len + x.len))).toList) (t := e)
      have hcap := grownCap_ge w (s.len + x.len) s.cap e
      rw [e1]
      refine (Sat.shut_own (sz := i.size) rfl ?_ ?_ hcap hnew).head fun _ h => .inl h
      · rw [List.length_append, hxl, hln, Nat.add_mul]
      · simp only [List.length_append, zeroCells_length, hzs, hxl, hln, ← Nat.add_mul]
        congr 1
        omega

/-! ### Messages and entries -/

def encells (x : EN) : List Value := [.int .i64 (x.gen : Nat), .int .i64 (x.ballot : Nat), .string (str x.mark)]
theorem encells_len (x : EN) : (encells x).length = 3 := rfl
theorem encells_one (x : EN) : allOne (encells x) = true := rfl
abbrev EnL : List Leaf := [.int .i64, .int .i64, .str]
abbrev enH (x : EN) : HL EnL := ((x.gen : Int), (x.ballot : Int), str x.mark, ())

/-- A generation as the store keeps it. -/
def gncells (g : GN) : List Value := [.int .i64 (g.gen : Nat), .int .i64 (g.basis : Nat), .string (str g.mark), .string (str g.text)]
theorem gncells_len (g : GN) : (gncells g).length = 4 := rfl
theorem gncells_one (g : GN) : allOne (gncells g) = true := rfl
abbrev GnL : List Leaf := [.int .i64, .int .i64, .str, .str]
abbrev gnH (g : GN) : HL GnL := ((g.gen : Int), (g.basis : Int), str g.mark, str g.text, ())

/-- A generation as it is told. -/
def gcells (g : GN) : List Value := [.int .i64 (g.gen : Nat), .int .i64 (g.basis : Nat), .int .i64 (g.text.length : Nat), .string (str g.mark)]
theorem gcells_len (g : GN) : (gcells g).length = 4 := rfl
theorem gcells_one (g : GN) : allOne (gcells g) = true := rfl
abbrev GL : List Leaf := [.int .i64, .int .i64, .int .i64, .str]
abbrev gH (g : GN) : HL GL := ((g.gen : Int), (g.basis : Int), (g.text.length : Int), str g.mark, ())

abbrev MsgL : List Leaf := [(.int .i64), (.int .i64), (.int .i64), (.int .i64), (.int .i64), (.int .i64), (.int .i64), (.int .i64), (.int .i64), .str, (.int .i64), (.int .i64), .str, .slice]
/-- A message's cells. -/
abbrev msgH (m : MS) (s : Sl) : HL MsgL := (m.kind, (m.from_ : Int), (m.to : Int), (m.ballot : Int), (m.gen : Int), (m.basis : Int), (m.floor : Int), (m.top : Int), (m.read : Int), str m.mark, (m.part.at_ : Int), (m.part.of_ : Int), str m.part.text, s, ())
abbrev mcells (m : MS) (s : Sl) : List Value := HL.cells MsgL (msgH m s)

/-- What a call answers: one message, or none. -/
def AnsP (s : Sl) : Option MS → SP
  | none => fact (s = ⟨none, 0, 0⟩)
  | some m => ex fun (l : Sl) => all [own 14 s (mcells m l), ownV 3 l (m.list.flatMap encells)]

/-! ### The vault in memory -/

structure VB where
  id : Nat
  d : Nat
  b : Nat
  l : Nat
  sp : Nat
  inp : Option Nat
  dead : Bool

def optP : Option Nat → Value
  | some p => ptr p
  | none => .pointer none

def vcells (c : VB) (S : ST) (ls : Sl) : List Value :=
  [.int .i64 (c.id : Nat), ptr c.d, ptr c.b, ptr c.l, .int .i64 (S.promised : Nat), .int .i64 (S.floor : Nat), .int .i64 (S.top : Nat), .slice ls.a ls.len ls.cap, ptr c.sp, .pointer (c.inp.map fun p => ⟨p, 0, none⟩), .bool c.dead]

def StoreP (sp b : Nat) (gs : List GN) : SP := ex fun (s : Sl) => all [pts sp [ptr b, .slice s.a s.len s.cap], own 4 s (gs.flatMap gncells)]
def StP (v : Nat) (c : VB) (S : ST) : SP := ex fun (ls : Sl) => all [pts v (vcells c S ls), own 3 ls (S.list.flatMap encells), StoreP c.sp c.b S.gens]

theorem StoreP.open {sp b : Nat} {gs : List GN} (hs : Sat W w (StoreP sp b gs :: L)) : ∃ s : Sl, Sat W w (pts sp [ptr b, .slice s.a s.len s.cap] :: own 4 s (gs.flatMap gncells) :: L) := by
  obtain ⟨s, h⟩ := hs.open_ex
  exact ⟨s, h.open_all⟩
theorem StoreP.shut {sp b : Nat} {gs : List GN} {s : Sl} (hs : Sat W w (pts sp [ptr b, .slice s.a s.len s.cap] :: own 4 s (gs.flatMap gncells) :: L)) : Sat W w (StoreP sp b gs :: L) := Sat.shut_ex s (Sat.shut_all (As := [_, _]) hs)

theorem StP.open {v : Nat} {c : VB} {S : ST} (hs : Sat W w (StP v c S :: L)) : ∃ ls : Sl, Sat W w (pts v (vcells c S ls) :: own 3 ls (S.list.flatMap encells) :: StoreP c.sp c.b S.gens :: L) := by
  obtain ⟨s, h⟩ := hs.open_ex
  exact ⟨s, h.open_all⟩
theorem StP.shut {v : Nat} {c : VB} {S : ST} {ls : Sl} (hs : Sat W w (pts v (vcells c S ls) :: own 3 ls (S.list.flatMap encells) :: StoreP c.sp c.b S.gens :: L)) : Sat W w (StP v c S :: L) := Sat.shut_ex ls (Sat.shut_all (As := [_, _, _]) hs)

/-- A box in memory. -/
def BoxP (p : Nat) (B : BX) : SP := ex fun (g : Sl × Sl) => all [pts p [.slice g.1.a g.1.len g.1.cap, .slice g.2.a g.2.len g.2.cap, .int .i64 (B.left : Nat), .int .i64 (B.bytes : Nat)], own 1 g.1 (B.parts.map fun x => Value.string (str x)), own 1 g.2 (B.has.map Value.bool)]

/-- What comes in parts, in memory. -/
def InP (p : Option Nat) : Option CM → SP
  | none => fact (p = none)
  | some c => ex fun (g : Nat × Nat) => all [fact (p = some g.1), pts g.1 [.int .i64 (c.ballot : Nat), .int .i64 (c.gen : Nat), .int .i64 (c.basis : Nat), .string (str c.mark), ptr g.2], BoxP g.2 c.box]

def VT.base (V : VT) (d b l sp : Nat) (inp : Option Nat) : VB := ⟨V.id, d, b, l, sp, inp, V.dead⟩

/-- A vault in memory. -/
def VaultP (v d b : Nat) (V : VT) : SP := ex fun (g : Nat × Nat × Option Nat) => all [StP v (V.base d b g.1 g.2.1 g.2.2) V.st, InP g.2.2 V.in_, LogP g.1 d b V.log]

theorem VaultP.open {v d b : Nat} {V : VT} (hs : Sat W w (VaultP v d b V :: L)) : ∃ (l sp : Nat) (inp : Option Nat), Sat W w (StP v (V.base d b l sp inp) V.st :: InP inp V.in_ :: LogP l d b V.log :: L) := by
  obtain ⟨⟨l, sp, inp⟩, h⟩ := hs.open_ex
  exact ⟨l, sp, inp, h.open_all⟩
theorem VaultP.shut {v d b l sp : Nat} {inp : Option Nat} {V : VT} (hs : Sat W w (StP v (V.base d b l sp inp) V.st :: InP inp V.in_ :: LogP l d b V.log :: L)) : Sat W w (VaultP v d b V :: L) := Sat.shut_ex (l, sp, inp) (Sat.shut_all (As := [_, _, _]) hs)

/-! ### Errors -/

theorem errorsIs_spec (a b : Int) : Ret Tryz.prog F.errors_Is [.iface 29 (.int .i64 a), .iface 29 (.int .i64 b)] w fun v w' => v = .bool (a == b) ∧ w' = w :=
  (is_ints a b w).mono fun _ _ ⟨h1, h2⟩ => ⟨_, h1, rfl, h2⟩

theorem noRoom_spec (e : Int) : Ret Tryz.prog F.vault_noRoom [.int .i64 e] w fun v w' => v = .bool (noRoom e) ∧ w' = w := by
  refine S.vault_noRoom_ok _ _ _ (xjoin0 (xcall_eq (errorsIs_spec e 7) (e == 7) rfl ?_))
  by_cases h : e = 7
  · exact XIf.yes (by rw [h]; rfl) ⟨by rw [h]; rfl, rfl⟩
  · refine XIf.no (by simpa using h) (xcall_eq (errorsIs_spec e 2) (e == 2) rfl ⟨?_, rfl⟩)
    show Value.bool (decide (e = 2)) = Value.bool (decide (e = 7) || decide (e = 2))
    rw [decide_eq_false h, Bool.false_or]

end
end Go.X
