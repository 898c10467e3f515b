/- The document's device: Remove. -/
import Derived.Test.YthljhmjigpfpnaaERef7
namespace Go.X
open Go.Proofs

def DD.removeR (R : DD) (name : ByteArray) : Int × DD :=
  if R.off then (14, R) else match findR name R.files with
  | none => (8, R)
  | some k => match R.files[k]? with
    | some f => (0, { R with files := R.files.take k ++ R.files.drop (k + 1), wait := R.wait.filter fun p => !(p.id == f.id) })
    | none => (8, R)

theorem rcells_take : ∀ (l : List DF) (k : Nat), (l.flatMap rcells).take (k * 4) = (l.take k).flatMap rcells
  | [], k => by simp
  | p :: l, 0 => by simp
  | p :: l, k + 1 => by
    rw [List.flatMap_cons, List.take_succ_cons, List.flatMap_cons, ← rcells_take l k, List.take_append]
    have hq : (rcells p).length = 4 := by simp [rcells]
    rw [hq, List.take_of_length_le (by rw [hq]; omega), show (k + 1) * 4 - 4 = k * 4 by omega]

theorem rcells_drop : ∀ (l : List DF) (k : Nat), (l.flatMap rcells).drop (k * 4) = (l.drop k).flatMap rcells
  | [], k => by simp
  | p :: l, 0 => by simp
  | p :: l, k + 1 => by
    rw [List.flatMap_cons, List.drop_succ_cons, ← rcells_drop l k, List.drop_append]
    have hq : (rcells p).length = 4 := by simp [rcells]
    rw [hq, List.drop_eq_nil_of_le (by rw [hq]; omega), show (k + 1) * 4 - 4 = k * 4 by omega, List.nil_append]

theorem rcells_one (l : List DF) : allOne (l.flatMap rcells) = true := by
  refine allOne_of fun v hv => ?_
  obtain ⟨p, _, hp⟩ := List.mem_flatMap.1 hv
  simp only [rcells, List.mem_cons, List.not_mem_nil, or_false] at hp
  rcases hp with rfl | rfl | rfl | rfl <;> rfl

theorem vcells_one (l : List DW) : allOne (l.flatMap vcells) = true := by
  refine allOne_of fun v hv => ?_
  obtain ⟨p, _, hp⟩ := List.mem_flatMap.1 hv
  simp only [vcells, List.mem_cons, List.not_mem_nil, or_false] at hp
  rcases hp with rfl | rfl | rfl <;> rfl

section
variable {W w : World} {L : List SP} {q : Nat} {R : DD}

theorem reads_front {sz : Nat} {s : Sl} {xs : List Value} (hs : Sat W w (own sz s xs :: L)) (k c : Nat) : Reads w ⟨s.a, k, c⟩ (xs.take (k * sz)) := by
  intro a ha j u hj
  refine reads_own hs a ha j u ?_
  rw [List.getElem?_take] at hj
  split at hj
  · exact hj
  · cases hj

theorem RemoveR_spec {name : ByteArray} (hs : Sat W w (RefP q R :: L)) (hn : R.files.length ≤ 2 ^ 30) (hwl : R.wait.length ≤ 2 ^ 38) :
    Ret Try.prog F.barqueref14_Disk_Remove [ptr q, .string name] w fun v w' => v = .int .i64 (R.removeR name).1 ∧ Sat W w' (RefP q (R.removeR name).2 :: L) := by
  suffices H : ∀ K : Value → World → Prop, (∀ v w', v = .int .i64 (R.removeR name).1 ∧ Sat W w' (RefP q (R.removeR name).2 :: L) → K v w') → S.barqueref14_Disk_Remove (some ⟨q, 0, none⟩) name K w from S.barqueref14_Disk_Remove_ok _ _ _ _ (H _ fun _ _ h => h)
  intro K hK
  refine xnil ?_
  obtain ⟨fs, ws, h⟩ := RefP.open hs
  have hfl : R.files.length = fs.len := by have := (h.bring 1).own_len; rw [rcells_len] at this; omega
  have hwlen : R.wait.length = ws.len := by have := (h.bring 2).own_len; rw [vcells_len] at this; omega
  refine xload h 4 rfl rfl ?_
  unfold DD.removeR at hK
  by_cases hoff : R.off = true
  · rw [if_pos hoff] at hK
    exact XIf.yes hoff (hK _ _ ⟨rfl, hs⟩)
  rw [if_neg hoff] at hK
  refine XIf.no (by simpa using hoff) (xcall_eq (findZ_spec (name := name) hs hn) (findZ name R.files) rfl ?_)
  have hz : findZ name R.files = match findR name R.files with | some k => (k : Int) | none => -1 := rfl
  cases hf : findR name R.files with
  | none =>
    rw [hf] at hK
    rw [hz, hf]
    exact XIf.yes rfl (hK _ _ ⟨rfl, hs⟩)
  | some k =>
    obtain ⟨f, hk, _⟩ := findR_lt hf
    have hlt := (List.getElem?_eq_some_iff.1 hk).1
    rw [hf] at hK
    dsimp only at hK
    rw [hk] at hK
    dsimp only at hK
    rw [hz, hf]
    have hcap := (h.bring 1).own_cap
    have hcap : fs.len ≤ fs.cap := hcap
    have had := (h.bring 1).own_addr
    have had : fs.a = none ∨ ∃ b, fs.a = some ⟨b, 0, none⟩ := had
    obtain ⟨b0, hb0, _⟩ := (h.bring 1).own_some (by show 0 < fs.len; omega)
    have hb0 : fs.a = some ⟨b0, 0, none⟩ := hb0
    have hd := h.drew
    refine XIf.no (decide_eq_false (show ¬ (k : Int) < 0 by omega)) (xnil (xload h 0 rfl rfl (xfield0 (l := .int .i64) (sz := 4) (h.bring 1) k rfl (by (try dsimp only); omega) (by rw [Int.toNat_natCast]) (x := f.id) (rget R.files k 0 f _ hk rfl) fun a _ => ?_)))
    refine xnil (xload hd 0 rfl rfl ⟨⟨by show (0 : Int) ≤ (k : Int) ∧ (k : Int) ≤ (fs.cap : Int); omega, by omega, by show (0 : Int) ≤ (k : Int); omega⟩, xlet ⟨fs.a, k, fs.cap⟩ (by rw [view_zero had]; simp) (xnil (xload hd 0 rfl rfl (xlet ((k + 1 : Nat) : Int) (by show IntKind.wrap .i64 ((k : Int) + 1) = _; rw [wi (by omega) (by omega)]; omega) ⟨⟨by omega, by omega, by show ((k + 1 : Nat) : Int) ≤ (fs.len : Int); omega⟩, xlet ⟨if fs.cap = k + 1 then fs.a else Option.map (fun b => Addr.add b ((k + 1) * 4)) fs.a, fs.len - (k + 1), fs.cap - (k + 1)⟩ (by simp) ?_⟩)))⟩)
    refine xnew hd fun b w1 h1 => ⟨(h1.bring 1).cell rfl, (h1.bring 1).cell rfl, ?_⟩
    have h2 : Sat W w1 (own 4 ⟨some ⟨b, 0, none⟩, 0, 0⟩ [] :: _) := Sat.shut_own (rest := []) rfl rfl rfl (Nat.le_refl _) h1
    have hr1 := reads_front (h2.bring 2) k fs.cap
    refine xappend (s := ⟨some ⟨b, 0, none⟩, 0, 0⟩) (x := ⟨fs.a, k, fs.cap⟩) (by kernel_rfl) h2 hr1 (by rw [List.length_take, rcells_len]; dsimp only; omega) (fun h => by dsimp only at h; rw [hb0] at h; cases h) (by rw [rcells_take]; exact rcells_one _) (by show 0 + k ≤ _; omega) fun g1 w2 h3 hg1 => ?_
    have hg1 : g1.len = 0 + k := hg1
    refine ⟨(h3.bring 1).cell rfl, (h3.bring 1).cell rfl, ?_⟩
    have hr2 := reads_view (h3.bring 2) (c := fs.cap) (k := k + 1) (n := fs.len - (k + 1)) (m := fs.cap - (k + 1)) (fun h => by rw [rcells_len]; omega)
    have hxl : ((R.files.flatMap rcells).drop ((k + 1) * 4)).length = (fs.len - (k + 1)) * 4 := by rw [List.length_drop, rcells_len]; omega
    refine xappend (x := ⟨if fs.cap = k + 1 then fs.a else Option.map (fun b => Addr.add b ((k + 1) * 4)) fs.a, fs.len - (k + 1), fs.cap - (k + 1)⟩) (by kernel_rfl) h3 hr2 hxl (fun h => ?_) (by rw [rcells_drop]; exact rcells_one _) (by dsimp only; omega) fun g2 w3 h4 hg2 => ?_
    · dsimp only at h
      rw [hb0] at h
      split at h <;> cases h
    refine ⟨(h4.bring 1).cell rfl, (h4.bring 1).cell rfl, xnil (xstore (h4.bring 1) 0 rfl (by simp) fun w4 h5 => ?_)⟩
    have e4 : [] ++ (R.files.flatMap rcells).take (k * 4) ++ (R.files.flatMap rcells).drop ((k + 1) * 4) = (R.files.take k ++ R.files.drop (k + 1)).flatMap rcells := by
      rw [List.nil_append, rcells_take, rcells_drop, List.flatMap_append]
    rw [e4] at h5
    have h6 : Sat W w4 (own 3 ⟨none, 0, 0⟩ [] :: pts q [.slice g2.a g2.len g2.cap, .slice ws.a ws.len ws.cap, .int .i64 R.most, .int .i64 R.fuse, .bool R.off, .int .i64 R.count, .int .i64 R.made] ::
        own 4 g2 ((R.files.take k ++ R.files.drop (k + 1)).flatMap rcells) :: own 3 ws (R.wait.flatMap vcells) :: L) := ((h5.bring 2).drop).own_nil
    refine xloop (fun (st : Sl × Int × Unit) w => ∃ (l1 l2 : List DW) (g : Sl), R.wait = l1 ++ l2 ∧ st = (g, (l1.length : Int), ()) ∧ g.len ≤ l1.length ∧ Sat W w (own 3 g ((l1.filter fun p => !(p.id == f.id)).flatMap vcells) :: pts q [.slice g2.a g2.len g2.cap, .slice ws.a ws.len ws.cap, .int .i64 R.most, .int .i64 R.fuse, .bool R.off, .int .i64 R.count, .int .i64 R.made] ::
        own 4 g2 ((R.files.take k ++ R.files.drop (k + 1)).flatMap rcells) :: own 3 ws (R.wait.flatMap vcells) :: L)) (fun st => ((ws.len : Int) - st.2.1).toNat) ⟨[], R.wait, ⟨none, 0, 0⟩, rfl, rfl, Nat.le_refl _, h6⟩ ?_
    clear h6 h5 h4 h3 h2 h1 hd hr1 hr2
    rintro next _ w5 ⟨l1, l2, g, e, rfl, hgl, h6⟩ hnext
    refine xnil (xload (h6.bring 1) 1 rfl rfl ?_)
    cases l2 with
    | nil =>
      rw [List.append_nil] at e
      refine XIf.no (decide_eq_false (show ¬ (l1.length : Int) < (ws.len : Int) by rw [← hwlen, e]; omega)) (xnil (xstore (h6.bring 1) 1 rfl (by simp) fun w6 h7 => hK _ _ ⟨rfl, ?_⟩))
      refine RefP.shut (R := { R with files := R.files.take k ++ R.files.drop (k + 1), wait := R.wait.filter fun p => !(p.id == f.id) }) (fs := g2) (ws := g) ?_
      rw [e]
      have h8 := (h7.bring 3).drop
      exact h8.arr [0, 2, 1]
    | cons p l2 =>
      have hlt1 : l1.length < R.wait.length := by rw [e]; simp
      have hget : R.wait[l1.length]? = some p := by rw [e]; simp
      refine XIf.yes (decide_eq_true (show (l1.length : Int) < (ws.len : Int) by omega)) (xjoin (fun (st : Sl × Unit) w' => ∃ g' : Sl, st = (g', ()) ∧ g'.len ≤ l1.length + 1 ∧ Sat W w' (own 3 g' (((l1 ++ [p]).filter fun p => !(p.id == f.id)).flatMap vcells) :: pts q [.slice g2.a g2.len g2.cap, .slice ws.a ws.len ws.cap, .int .i64 R.most, .int .i64 R.fuse, .bool R.off, .int .i64 R.count, .int .i64 R.made] ::
        own 4 g2 ((R.files.take k ++ R.files.drop (k + 1)).flatMap rcells) :: own 3 ws (R.wait.flatMap vcells) :: L)) (fun J hJ => ?_) ?_)
      case refine_2 =>
        rintro _ w6 ⟨g', rfl, hg', h7⟩
        exact xlet ((l1.length + 1 : Nat) : Int) (by dsimp only; rw [wi (by omega) (by omega)]; omega) (hnext _ _ ⟨l1 ++ [p], l2, g', by simp [e], by simp, by rw [List.length_append]; exact hg', h7⟩ (by dsimp only; omega))
      refine xnil (xload (h6.bring 1) 1 rfl rfl (xfield0 (l := .int .i64) (sz := 3) (h6.bring 3) l1.length rfl (by (try dsimp only); omega) (by rw [Int.toNat_natCast]) (x := p.id) (vget R.wait l1.length 0 p _ hget rfl) fun a _ => ?_))
      by_cases hid : p.id = f.id
      · refine XIf.no (by simpa using hid) (hJ _ _ ⟨g, rfl, by omega, ?_⟩)
        have : (l1 ++ [p]).filter (fun p => !(p.id == f.id)) = l1.filter fun p => !(p.id == f.id) := by rw [List.filter_append]; simp [hid]
        rw [this]
        exact h6
      · refine XIf.yes (by simpa using hid) (xnil (xload (h6.bring 1) 1 rfl rfl ?_))
        obtain ⟨a2, ha2, hcell⟩ := (h6.bring 3).own_some (by show 0 < ws.len; omega)
        refine (show XNil ws.a _ from ?_)
        rw [ha2]
        refine xnil ⟨⟨by show (0 : Int) ≤ (l1.length : Int); omega, by show (l1.length : Int) < (ws.len : Int); omega⟩, xloads (p.id, (p.at_ : Int), str p.text, ()) (fun j v hv => ?_) ?_⟩
        · rw [Int.toNat_natCast, Addr.add_mk, Addr.add_mk, Nat.zero_add]
          exact hcell _ _ (vget R.wait l1.length j p v hget hv)
        refine xappend1 (cs := vcells p) (by kernel_rfl) h6 rfl rfl (by show g.len + 1 ≤ _; omega) fun a s' w6 h7 hl7 => hJ _ _ ⟨s', rfl, by have h8 : s'.len = g.len + 1 := hl7; omega, ?_⟩
        have : ((l1 ++ [p]).filter fun p => !(p.id == f.id)).flatMap vcells = ((l1.filter fun p => !(p.id == f.id)).flatMap vcells) ++ vcells p := by
          rw [List.filter_append, List.flatMap_append]; simp [hid]
        rw [this]
        exact h7

end
end Go.X
