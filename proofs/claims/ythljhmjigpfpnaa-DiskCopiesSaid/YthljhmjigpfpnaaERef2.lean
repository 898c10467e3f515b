/- The document's device: Name, Size, Read, Free, Arm, Create. -/
import Derived.Test.YthljhmjigpfpnaaERef
namespace Go.X
open Go.Proofs

/-- A call of the document's, as a function of its device. -/
def DD.sizeR (R : DD) (name : ByteArray) : Int × Int :=
  if R.off then (0, 14) else match findR name R.files with
  | none => (0, 8)
  | some k => match R.files[k]? with
    | some f => (f.seen.length, 0)
    | none => (0, 8)

def DD.readR (R : DD) (name : ByteArray) (at_ n : Int) : List UInt8 × Int :=
  if R.off then ([], 14) else match findR name R.files with
  | none => ([], 8)
  | some k => match R.files[k]? with
    | some f => if at_ < 0 ∨ n < 0 then ([], 2) else ((f.seen.drop at_.toNat).take n.toNat, 0)
    | none => ([], 8)

def DD.createR (R : DD) (name : ByteArray) : Int × DD :=
  if R.off then (14, R) else if nameB name = false then (1, R) else match findR name R.files with
  | some _ => (9, R)
  | none => (0, { R with files := R.files ++ [⟨R.made, name, [], []⟩], made := R.made + 1 })

theorem findR_lt : ∀ {fs : List DF} {name : ByteArray} {k : Nat}, findR name fs = some k → ∃ f, fs[k]? = some f ∧ f.name = name
  | f :: fs, name, k, h => by
    unfold findR at h
    split at h
    · rename_i he
      cases h
      exact ⟨f, rfl, he⟩
    · cases hr : findR name fs with
      | none => rw [hr] at h; cases h
      | some j =>
        rw [hr] at h
        cases h
        obtain ⟨g, hg, hn⟩ := findR_lt hr
        exact ⟨g, by simpa using hg, hn⟩

section
variable {W w : World} {L : List SP} {q : Nat} {R : DD}

theorem Name_spec (s : ByteArray) (hs1 : s.size ≤ 2 ^ 63 - 1) : Ret Try.prog F.barqueref14_Name [.string s] w fun v w' => v = .bool (nameB s) ∧ w' = w := by
  refine S.barqueref14_Name_ok _ _ _ ?_
  have hsz : s.size = s.data.toList.length := size_list s
  refine xloop (fun (st : Bool × Int × Unit) w' => ∃ i : Nat, st = (false, (i : Int), ()) ∧ i ≤ s.data.toList.length ∧ (∀ j c, j < i → s.data.toList[j]? = some c → 33 ≤ c.toNat ∧ c.toNat ≤ 126) ∧ w' = w)
    (fun st => ((s.size : Int) - st.2.1).toNat) ⟨0, rfl, Nat.zero_le _, fun j c h => by omega, rfl⟩ ?_
  rintro next _ w' ⟨i, rfl, hi, hok, rfl⟩ hnext
  by_cases hlt : i < s.data.toList.length
  · obtain ⟨c, hc⟩ : ∃ c, s.data.toList[i]? = some c := ⟨_, List.getElem?_eq_getElem hlt⟩
    have hget : ((UInt8.toNat (s.data.toList.getD (Int.toNat (i : Int)) 0) : Nat) : Int) = c.toNat := by
      rw [Int.toNat_natCast, List.getD_eq_getElem?_getD, hc]; rfl
    refine XIf.yes (decide_eq_true (show (i : Int) < (s.size : Int) by omega)) (xjoin (fun st w'' => st = (decide (c.toNat < 33 ∨ 126 < c.toNat), ()) ∧ w'' = w') (fun J hJ => ⟨⟨by show (0 : Int) ≤ (i : Int); omega, by show (i : Int) < (s.size : Int); omega⟩, xlet (c.toNat : Int) hget ?_⟩) ?_)
    · by_cases h1 : c.toNat < 33
      · exact XIf.yes (decide_eq_true (by omega)) (hJ _ _ ⟨by simp [h1], rfl⟩)
      · refine XIf.no (decide_eq_false (by omega)) ⟨⟨by show (0 : Int) ≤ (i : Int); omega, by show (i : Int) < (s.size : Int); omega⟩, xlet (c.toNat : Int) hget (hJ _ _ ⟨?_, rfl⟩)⟩
        have : ((c.toNat : Int) > 126) ↔ (c.toNat < 33 ∨ 126 < c.toNat) := by omega
        simp only [this]
    rintro _ w'' ⟨rfl, rfl⟩
    by_cases hbad : c.toNat < 33 ∨ 126 < c.toNat
    · refine XIf.yes (decide_eq_true hbad) ⟨?_, rfl⟩
      have : nameB s = false := by
        unfold nameB
        have hall : (s.data.toList.all fun c => decide (33 ≤ c.toNat) && decide (c.toNat ≤ 126)) = false := by
          rw [List.all_eq_false]
          exact ⟨c, List.mem_of_getElem? hc, by simp; omega⟩
        rw [hall, Bool.and_false]
      rw [this]
    · refine XIf.no (decide_eq_false hbad) (xlet ((i + 1 : Nat) : Int) (by dsimp only; rw [wi (by omega) (by omega)]; omega) (hnext _ _ ⟨i + 1, rfl, hlt, fun j c' hj hc' => ?_, rfl⟩ (by dsimp only; omega)))
      by_cases hji : j < i
      · exact hok j c' hji hc'
      · have : j = i := by omega
        subst this
        rw [hc] at hc'; cases hc'; omega
  · have hall : (s.data.toList.all fun c => decide (33 ≤ c.toNat) && decide (c.toNat ≤ 126)) = true := by
      rw [List.all_eq_true]
      intro c hc
      obtain ⟨j, hj⟩ := List.getElem?_of_mem hc
      have := hok j c (by have := (List.getElem?_eq_some_iff.1 hj).1; omega) hj
      simp; omega
    refine XIf.no (decide_eq_false (show ¬ (i : Int) < (s.size : Int) by omega)) (xjoin0 ?_)
    have he : sEq s ByteArray.empty = s.data.toList.isEmpty := sEq_empty s
    cases h0 : s.data.toList.isEmpty with
    | true =>
      refine XIf.no (by rw [he, h0]; rfl) ⟨?_, rfl⟩
      have : nameB s = false := by unfold nameB; rw [h0]; rfl
      rw [this]
    | false =>
      refine XIf.yes (by rw [he, h0]; rfl) ⟨?_, rfl⟩
      have : nameB s = decide (s.size ≤ 24) := by unfold nameB; rw [h0, hall]; simp
      rw [this]
      have e : (((s.size : Nat) : Int) ≤ 24) ↔ s.size ≤ 24 := by omega
      simp only [e]

theorem SizeR_spec {name : ByteArray} (hs : Sat W w (RefP q R :: L)) (hn : R.files.length ≤ 2 ^ 30) :
    Ret Try.prog F.barqueref14_Disk_Size [ptr q, .string name] w fun v w' => v = .tuple ⟨[.int .i64 (R.sizeR name).1, .int .i64 (R.sizeR name).2]⟩ ∧ w' = w := by
  refine S.barqueref14_Disk_Size_ok _ _ _ _ (xnil ?_)
  obtain ⟨fs, ws, h⟩ := RefP.open hs
  have hfl : R.files.length = fs.len := by have := (h.bring 1).own_len; rw [rcells_len] at this; omega
  refine xload h 4 rfl rfl ?_
  by_cases hoff : R.off = true
  · exact XIf.yes hoff ⟨by unfold DD.sizeR; rw [if_pos hoff], rfl⟩
  refine XIf.no (by simpa using hoff) (xcall_eq (findZ_spec (name := name) hs hn) (findZ name R.files) rfl ?_)
  unfold DD.sizeR findZ
  rw [if_neg hoff]
  cases hf : findR name R.files with
  | none => exact XIf.yes rfl ⟨rfl, rfl⟩
  | some k =>
    obtain ⟨f, hk, _⟩ := findR_lt hf
    have hlt := (List.getElem?_eq_some_iff.1 hk).1
    refine XIf.no (decide_eq_false (show ¬ (k : Int) < 0 by omega)) (xnil (xload h 0 rfl rfl (xfield (l := .str) (sz := 4) (h.bring 1) k rfl (by (try dsimp only); omega) (by rw [Int.toNat_natCast]) (x := str f.seen) (rget R.files k 3 f _ hk rfl) fun a _ => ⟨?_, rfl⟩)))
    dsimp only
    rw [hk, str_size]

theorem ArmR_spec (n : Int) (hs : Sat W w (RefP q R :: L)) : Ret Try.prog F.barqueref14_Disk_Arm [ptr q, .int .i64 n] w fun v w' =>
    (R.off = true → v = .int .i64 14 ∧ Sat W w' (RefP q R :: L)) ∧ (R.off = false → n < 0 → v = .int .i64 1 ∧ Sat W w' (RefP q R :: L)) ∧
    (R.off = false → 0 ≤ n → v = .int .i64 0 ∧ Sat W w' (RefP q { R with fuse := n } :: L)) := by
  refine S.barqueref14_Disk_Arm_ok _ _ _ _ (xnil ?_)
  obtain ⟨fs, ws, h⟩ := RefP.open hs
  refine xload h 4 rfl rfl ?_
  by_cases hoff : R.off = true
  · exact XIf.yes hoff ⟨fun _ => ⟨rfl, hs⟩, fun h => absurd hoff (by rw [h]; decide), fun h => absurd hoff (by rw [h]; decide)⟩
  refine XIf.no (by simpa using hoff) ?_
  by_cases hneg : n < 0
  · exact XIf.yes (decide_eq_true hneg) ⟨fun h => absurd h hoff, fun _ _ => ⟨rfl, hs⟩, fun _ h => by omega⟩
  · exact XIf.no (decide_eq_false hneg) (xnil (xstore h 3 rfl (by simp) fun w' h => ⟨fun h => absurd h hoff, fun _ h => absurd h hneg, fun _ _ => ⟨rfl, RefP.shut (R := { R with fuse := n }) h⟩⟩))

end
end Go.X
