/- The document's device: laid, lasts, Read, Free, Create. -/
import Derived.Test.YthljhmjigpfpnaaERef2
namespace Go.X
open Go.Proofs

/-- Bytes with others in their place, noughts in a gap. -/
def laidL (l : List UInt8) (k : Nat) (t : List UInt8) : List UInt8 := over (l ++ List.replicate (k + t.length - l.length) 0) k t

theorem str_append (a b : List UInt8) : (str a ++ str b : ByteArray) = str (a ++ b) := by
  apply bytes_ext
  rw [str_toList]
  simp [str]

theorem laid_grow {l t : List UInt8} {k : Nat} (h : l.length ≤ k) : laidL l k t = (l ++ List.replicate (k - l.length) 0) ++ t := by
  unfold laidL over
  have e1 : (l ++ List.replicate (k + t.length - l.length) (0 : UInt8)).take k = l ++ List.replicate (k - l.length) 0 := by
    rw [List.take_append, List.take_of_length_le h, List.take_replicate, Nat.min_eq_left (by omega)]
  rw [e1, List.drop_eq_nil_of_le (by simp; omega), List.append_nil]

theorem laid_end {l t : List UInt8} {k : Nat} (h : k ≤ l.length) (h2 : l.length ≤ k + t.length) : laidL l k t = l.take k ++ t := by
  unfold laidL over
  rw [List.take_append_of_le_length h, List.drop_eq_nil_of_le (by simp; omega), List.append_nil]

theorem laid_mid {l t : List UInt8} {k : Nat} (h : k + t.length ≤ l.length) : laidL l k t = l.take k ++ t ++ l.drop (k + t.length) := by
  unfold laidL over
  rw [show k + t.length - l.length = 0 by omega, List.replicate_zero, List.append_nil]

theorem laidL_length (l t : List UInt8) (k : Nat) : (laidL l k t).length = max l.length (k + t.length) := by
  unfold laidL
  rw [over_length (by rw [List.length_append, List.length_replicate]; omega), List.length_append, List.length_replicate]
  omega

section
variable {W w : World} {L : List SP} {q : Nat} {R : DD}

theorem laid_spec (l t : List UInt8) (k : Nat) (hl : l.length ≤ 2 ^ 30) (ht : t.length ≤ 2 ^ 30) (hk : k ≤ 2 ^ 30) (hs : Sat W w L) :
    Ret Try.prog F.barqueref14_laid [.string (str l), .int .i64 k, .string (str t)] w fun v w' => v = .string (str (laidL l k t)) ∧ Sat W w' L := by
  suffices H : ∀ K : Value → World → Prop, (∀ w', Sat W w' L → K (.string (str (laidL l k t))) w') → S.barqueref14_laid (str l) k (str t) K w from S.barqueref14_laid_ok _ _ _ _ _ (H _ fun _ h => ⟨rfl, h⟩)
  intro K hK
  have e1 : (str l).size = l.length := str_size _
  have e2 : (str t).size = t.length := str_size _
  have hmax : IntKind.max .i64 = 9223372036854775807 := rfl
  refine xjoin (fun st w' => ∃ l' : List UInt8, st = (str l', ()) ∧ k ≤ l'.length ∧ l'.length ≤ 2 ^ 30 ∧ laidL l k t = laidL l' k t ∧ Sat W w' L) (fun J hJ => ?_) ?_
  · by_cases hgt : l.length < k
    · refine XIf.yes (decide_eq_true (by rw [e1]; omega)) (xlet ((k - l.length : Nat) : Int) (by rw [e1, wi (by omega) (by omega)]; omega) (xmakeB (by kernel_rfl) hs rfl (by omega) fun s w1 hsl h1 => ?_))
      refine xbytes (k := 0) (l := List.replicate (k - l.length) 0) h1 (fun b hb _ => hb) (fun h => h) (by show 0 + s.len ≤ _; rw [hsl]; simp) (fun _ => rfl) ?_
      rw [List.drop_zero, List.take_of_length_le (by show (List.replicate _ _).length ≤ s.len; rw [hsl]; simp)]
      refine ⟨by rw [e1, str_size, List.length_replicate, hmax]; omega, xlet (str (l ++ List.replicate (k - l.length) 0)) (str_append _ _) (hJ _ _ ⟨l ++ List.replicate (k - l.length) 0, rfl, by simp; omega, by simp; omega, ?_, h1.drop⟩)⟩
      rw [laid_grow (by omega), laid_end (l := l ++ List.replicate (k - l.length) 0) (by simp; omega) (by simp; omega), List.take_of_length_le (by simp; omega)]
    · exact XIf.no (decide_eq_false (by rw [e1]; omega)) (hJ _ _ ⟨l, rfl, by omega, hl, rfl, hs⟩)
  rintro _ w1 ⟨l', rfl, h1, h2, he, hsat⟩
  rw [he] at hK
  have e3 : (str l').size = l'.length := str_size _
  have e4 : (str (l'.take k)).size = k := by rw [str_size, List.length_take]; omega
  refine xlet ((k + t.length : Nat) : Int) (by rw [e2, wi (by omega) (by omega)]; omega) ?_
  by_cases hge : l'.length ≤ k + t.length
  · refine XIf.yes (decide_eq_true (show ((k + t.length : Nat) : Int) ≥ ((str l').size : Int) by rw [e3]; omega)) ⟨⟨⟨by omega, by show (k : Int) ≤ ((str l').size : Int); rw [e3]; omega⟩, by omega, by omega⟩, xlet (str (l'.take k)) (by rw [Int.toNat_natCast]; exact str_take _ _) ⟨by rw [e4, e2, hmax]; omega, xlet (str (l'.take k ++ t)) (str_append _ _) ?_⟩⟩
    rw [← laid_end h1 hge]
    exact hK w1 hsat
  · refine XIf.no (decide_eq_false (show ¬ ((k + t.length : Nat) : Int) ≥ ((str l').size : Int) by rw [e3]; omega)) ⟨⟨⟨by omega, by show (k : Int) ≤ ((str l').size : Int); rw [e3]; omega⟩, by omega, by omega⟩, xlet (str (l'.take k)) (by rw [Int.toNat_natCast]; exact str_take _ _) ⟨by rw [e4, e2, hmax]; omega, xlet (str (l'.take k ++ t)) (str_append _ _) ?_⟩⟩
    refine xlet ((k + t.length : Nat) : Int) (by rw [e2, wi (by omega) (by omega)]; omega) ⟨⟨by omega, by omega, by show ((k + t.length : Nat) : Int) ≤ ((str l').size : Int); rw [e3]; omega⟩, xlet (str (l'.drop (k + t.length))) (by rw [Int.toNat_natCast, Int.toNat_natCast]; exact str_drop _ _ _ (by show l'.length ≤ (str l').size; rw [e3]; exact Nat.le_refl _)) ⟨?_, xlet (str (l'.take k ++ t ++ l'.drop (k + t.length))) (str_append _ _) ?_⟩⟩
    · rw [str_size, str_size, List.length_append, List.length_take, List.length_drop, hmax]; omega
    · rw [← laid_mid (by omega)]
      exact hK _ hsat.drew

theorem ReadR_spec {name : ByteArray} {at_ n : Int} (hs : Sat W w (RefP q R :: L)) (hn : R.files.length ≤ 2 ^ 30) :
    Ret Try.prog F.barqueref14_Disk_Read [ptr q, .string name, .int .i64 at_, .int .i64 n] w fun v w' => v = .tuple ⟨[.string (str (R.readR name at_ n).1), .int .i64 (R.readR name at_ n).2]⟩ ∧ w' = w := by
  suffices H : ∀ K : Value → World → Prop, K (.tuple ⟨[.string (str (R.readR name at_ n).1), .int .i64 (R.readR name at_ n).2]⟩) w → S.barqueref14_Disk_Read (some ⟨q, 0, none⟩) name at_ n K w from S.barqueref14_Disk_Read_ok _ _ _ _ _ _ (H _ ⟨rfl, rfl⟩)
  intro K hK
  refine xnil ?_
  obtain ⟨fs, ws, h⟩ := RefP.open hs
  have hfl : R.files.length = fs.len := by have := (h.bring 1).own_len; rw [rcells_len] at this; omega
  refine xload h 4 rfl rfl ?_
  unfold DD.readR at hK
  by_cases hoff : R.off = true
  · rw [if_pos hoff] at hK
    exact XIf.yes hoff hK
  rw [if_neg hoff] at hK
  refine XIf.no (by simpa using hoff) (xcall_eq (findZ_spec (name := name) hs hn) (findZ name R.files) rfl ?_)
  unfold findZ
  cases hf : findR name R.files with
  | none =>
    rw [hf] at hK
    exact XIf.yes rfl hK
  | some k =>
    obtain ⟨f, hk, _⟩ := findR_lt hf
    have hlt := (List.getElem?_eq_some_iff.1 hk).1
    rw [hf] at hK
    dsimp only at hK
    rw [hk] at hK
    dsimp only at hK
    refine XIf.no (decide_eq_false (show ¬ (k : Int) < 0 by omega)) (xjoin (fun st w' => st = (decide (at_ < 0 ∨ n < 0), ()) ∧ w' = w) (fun J hJ => ?_) ?_)
    · by_cases h0 : at_ < 0
      · exact XIf.yes (decide_eq_true h0) (hJ _ _ ⟨by simp [h0], rfl⟩)
      · exact XIf.no (decide_eq_false h0) (hJ _ _ ⟨by simp [h0], rfl⟩)
    rintro _ w' ⟨rfl, rfl⟩
    by_cases hneg : at_ < 0 ∨ n < 0
    · rw [if_pos hneg] at hK
      exact XIf.yes (decide_eq_true hneg) hK
    rw [if_neg hneg] at hK
    obtain ⟨a, rfl⟩ : ∃ a : Nat, at_ = a := ⟨at_.toNat, by omega⟩
    obtain ⟨m, rfl⟩ : ∃ m : Nat, n = m := ⟨n.toNat, by omega⟩
    rw [Int.toNat_natCast, Int.toNat_natCast] at hK
    have e1 : (str f.seen).size = f.seen.length := str_size _
    refine XIf.no (decide_eq_false hneg) (xnil (xload h 0 rfl rfl (xfield (l := .str) (sz := 4) (h.bring 1) k rfl (by (try dsimp only); omega) (by rw [Int.toNat_natCast]) (x := str f.seen) (rget R.files k 3 f _ hk rfl) fun b _ => ?_)))
    by_cases hpast : f.seen.length ≤ a
    · rw [List.drop_eq_nil_of_le hpast, List.take_nil] at hK
      exact XIf.yes (decide_eq_true (by rw [e1]; omega)) hK
    · have e2 : (str (f.seen.drop a)).size = f.seen.length - a := by rw [str_size, List.length_drop]
      refine XIf.no (decide_eq_false (by rw [e1]; omega)) ⟨⟨by omega, by omega, by rw [e1]; omega⟩, xlet (str (f.seen.drop a)) (by rw [Int.toNat_natCast, Int.toNat_natCast]; exact str_drop _ _ _ (by rw [e1]; exact Nat.le_refl _)) (xjoin0 ?_)⟩
      by_cases hm : m < f.seen.length - a
      · refine XIf.yes (decide_eq_true (by rw [e2]; omega)) ⟨⟨by rw [e2]; omega, by omega, by omega⟩, xlet (str ((f.seen.drop a).take m)) (by rw [Int.toNat_natCast]; exact str_take _ _) hK⟩
      · rw [List.take_of_length_le (by rw [List.length_drop]; omega)] at hK
        exact XIf.no (decide_eq_false (by rw [e2]; omega)) hK

end
end Go.X
