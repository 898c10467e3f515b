/- The document's device: Crash, Spoil. -/
import Derived.Test.YthljhmjigpfpnaaERef5
namespace Go.X
open Go.Proofs

def DD.spoilR (R : DD) (name : ByteArray) (at_ by_ : Int) : Int × DD :=
  match findR name R.files with
  | none => (8, R)
  | some k => match R.files[k]? with
    | some f => if at_ < 0 ∨ (f.last.length : Int) ≤ at_ then (2, R) else (0, { R with files := R.files.set k (spoilt f at_.toNat by_) })
    | none => (8, R)

section
variable {W w : World} {L : List SP} {q : Nat} {R : DD}

theorem bent_spec (l : List UInt8) (k : Nat) (by_ : Int) (hk : k < l.length) (hs : Sat W w L) :
    Ret Try.prog F.barqueref14_bent [.string (str l), .int .i64 k, .int .i64 by_] w fun v w' => v = .string (str (bent l k by_)) ∧ Sat W w' L := by
  refine S.barqueref14_bent_ok _ _ _ _ _ (xtobytes (by kernel_rfl) hs fun s w1 h1 hsl => ?_)
  rw [str_toList] at h1
  rw [str_size] at hsl
  refine xelem h1 k rfl (x := ((l.getD k 0).toNat : Int)) (bcells_get _ _ hk) (by show Int.toNat _ * 1 = _; simp) fun a => ?_
  refine xlet0 (xlet ((xorB (l.getD k 0) by_).toNat : Int) (xorB_eq _ _) (xput h1 k rfl (by (try dsimp only); omega) (by show Int.toNat _ * 1 = _; simp) fun a w2 h2 => ?_))
  rw [bcells_set] at h2
  refine xbytes (k := 0) (l := bent l k by_) h2 (fun b hb _ => hb) (fun h => h) (by rw [bent_length]; show 0 + s.len ≤ _; omega) (fun _ => rfl) ?_
  rw [List.drop_zero, List.take_of_length_le (by rw [bent_length]; show _ ≤ s.len; omega)]
  exact ⟨rfl, h2.drop⟩

theorem SpoilR_spec {name : ByteArray} {at_ by_ : Int} (hs : Sat W w (RefP q R :: L)) (hn : R.files.length ≤ 2 ^ 30) :
    Ret Try.prog F.barqueref14_Disk_Spoil [ptr q, .string name, .int .i64 at_, .int .i64 by_] w fun v w' => v = .int .i64 (R.spoilR name at_ by_).1 ∧ Sat W w' (RefP q (R.spoilR name at_ by_).2 :: L) := by
  suffices H : ∀ K : Value → World → Prop, (∀ v w', v = .int .i64 (R.spoilR name at_ by_).1 ∧ Sat W w' (RefP q (R.spoilR name at_ by_).2 :: L) → K v w') → S.barqueref14_Disk_Spoil (some ⟨q, 0, none⟩) name at_ by_ K w from S.barqueref14_Disk_Spoil_ok _ _ _ _ _ _ (H _ fun _ _ h => h)
  intro K hK
  obtain ⟨fs, ws, h⟩ := RefP.open hs
  have hfl : R.files.length = fs.len := by have := (h.bring 1).own_len; rw [rcells_len] at this; omega
  refine xcall_eq (findZ_spec (name := name) hs hn) (findZ name R.files) rfl ?_
  have hz : findZ name R.files = match findR name R.files with | some k => (k : Int) | none => -1 := rfl
  unfold DD.spoilR at hK
  cases hf : findR name R.files with
  | none =>
    rw [hf] at hK
    rw [hz, hf]
    exact XIf.yes rfl (hK _ _ ⟨rfl, hs⟩)
  | some k =>
    obtain ⟨f, hk, _⟩ := findR_lt hf
    have hlt := (List.getElem?_eq_some_iff.1 hk).1
    rw [hf] at hK
    dsimp only at hK
    rw [hk] at hK
    dsimp only at hK
    rw [hz, hf]
    have e1 : (str f.last).size = f.last.length := str_size _
    have e2 : (str f.seen).size = f.seen.length := str_size _
    refine XIf.no (decide_eq_false (show ¬ (k : Int) < 0 by omega)) (xjoin (fun st w' => st = (decide (at_ < 0 ∨ (f.last.length : Int) ≤ at_), ()) ∧ w' = w) (fun J hJ => ?_) ?_)
    · by_cases h0 : at_ < 0
      · exact XIf.yes (decide_eq_true h0) (hJ _ _ ⟨by simp [h0], rfl⟩)
      · refine XIf.no (decide_eq_false h0) (xnil (xload h 0 rfl rfl (xfield (l := .str) (sz := 4) (h.bring 1) k rfl (by (try dsimp only); omega) (by rw [Int.toNat_natCast]) (x := str f.last) (rget R.files k 2 f _ hk rfl) fun a _ => hJ _ _ ⟨?_, rfl⟩)))
        have : (at_ ≥ (((str f.last).size : Nat) : Int)) ↔ (at_ < 0 ∨ (f.last.length : Int) ≤ at_) := by rw [e1]; omega
        simp only [this]
    rintro _ w' ⟨rfl, rfl⟩
    by_cases hout : at_ < 0 ∨ (f.last.length : Int) ≤ at_
    · rw [if_pos hout] at hK
      exact XIf.yes (decide_eq_true hout) (hK _ _ ⟨rfl, hs⟩)
    rw [if_neg hout] at hK
    obtain ⟨m, rfl⟩ : ∃ m : Nat, at_ = m := ⟨at_.toNat, by omega⟩
    rw [Int.toNat_natCast] at hK
    have hm : m < f.last.length := by omega
    have hd := h.drew
    refine XIf.no (decide_eq_false hout) (xnil (xload hd 0 rfl rfl (xnil (xload hd 0 rfl rfl (xfield (l := .str) (sz := 4) (hd.bring 1) k rfl (by (try dsimp only); omega) (by rw [Int.toNat_natCast]) (x := str f.last) (rget R.files k 2 f _ hk rfl) fun a _ => ?_)))))
    refine xcall (bent_spec f.last m by_ hm hd) ?_
    rintro v w1 ⟨rfl, h1⟩
    refine ⟨_, rfl, h1.cell rfl, h1.cell rfl, xsetf (sz := 4) (h1.bring 1) k rfl (by (try dsimp only); omega) (by rw [Int.toNat_natCast]) (by omega) fun a w2 h2 => ?_⟩
    rw [rset R.files k 2 f { f with last := bent f.last m by_ } (.string (str (bent f.last m by_))) hk (by omega) rfl] at h2
    have h2 := h2.swap
    have hk2 : (R.files.set k { f with last := bent f.last m by_ })[k]? = some { f with last := bent f.last m by_ } := by rw [List.getElem?_set_self hlt]
    refine xjoin (fun (_ : Unit) w' => Sat W w' (RefP q { R with files := R.files.set k (spoilt f m by_) } :: L)) (fun J hJ => ?_) ?_
    · refine xnil (xload h2 0 rfl rfl (xfield (l := .str) (sz := 4) (h2.bring 1) k rfl (by (try dsimp only); omega) (by rw [Int.toNat_natCast]) (x := str f.seen) (rget _ k 3 _ _ hk2 rfl) fun a _ => ?_))
      by_cases hms : m < f.seen.length
      · have hd2 := h2.drew
        refine XIf.yes (decide_eq_true (show (m : Int) < ((str f.seen).size : Int) by rw [e2]; omega)) (xnil (xload hd2 0 rfl rfl (xnil (xload hd2 0 rfl rfl (xfield (l := .str) (sz := 4) (hd2.bring 1) k rfl (by (try dsimp only); omega) (by rw [Int.toNat_natCast]) (x := str f.seen) (rget _ k 3 _ _ hk2 rfl) fun a _ => ?_)))))
        refine xcall (bent_spec f.seen m by_ hms hd2) ?_
        rintro v w3 ⟨rfl, h3⟩
        refine ⟨_, rfl, h3.cell rfl, h3.cell rfl, xsetf (sz := 4) (h3.bring 1) k rfl (by (try dsimp only); omega) (by rw [Int.toNat_natCast]) (by omega) fun a w4 h4 => hJ _ _ ?_⟩
        rw [rset _ k 3 _ (spoilt f m by_) (.string (str (bent f.seen m by_))) hk2 (by omega) rfl, List.set_set] at h4
        exact RefP.shut (R := { R with files := R.files.set k (spoilt f m by_) }) (fs := fs) (ws := ws) h4.swap
      · refine XIf.no (decide_eq_false (show ¬ (m : Int) < ((str f.seen).size : Int) by rw [e2]; omega)) (hJ _ _ ?_)
        have e3 : spoilt f m by_ = { f with last := bent f.last m by_ } := by
          unfold spoilt
          have : bent f.seen m by_ = f.seen := by unfold bent; exact List.set_eq_of_length_le (by omega)
          rw [this]
        rw [e3]
        exact RefP.shut (R := { R with files := R.files.set k { f with last := bent f.last m by_ } }) (fs := fs) (ws := ws) h2
    rintro _ w3 h3
    exact hK _ _ ⟨rfl, h3⟩

end
end Go.X
