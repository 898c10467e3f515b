/- The laws' own helpers: the document's example; a text cut short. -/
import Derived.Test.YthljhmjigpfpnaaDCreate
namespace Go.X
open Go.Proofs

section
variable {W w : World} {L : List SP}

def nameA : ByteArray := ⟨#[97]⟩

/-- The example's device, step by step. -/
def ex1 : DD := { files := [⟨0, nameA, [], []⟩], wait := [], most := 2, fuse := -1, off := false, count := 0, made := 1 }
def ex2 : DD := { files := [⟨0, nameA, [], List.replicate 60 0 ++ [49, 50, 51, 52, 53, 54, 55, 56]⟩], wait := [⟨0, 60, [49, 50, 51, 52]⟩, ⟨0, 64, [53, 54, 55, 56]⟩], most := 2, fuse := -1, off := false, count := 2, made := 1 }
def ex3 : DD := { files := [⟨0, nameA, List.replicate 60 0 ++ [49, 50, 51, 52], List.replicate 60 0 ++ [49, 50, 51, 52]⟩], wait := [], most := 2, fuse := -1, off := false, count := 2, made := 1 }

theorem ex1_eq : (DD.empty 2).create nameA = (0, ex1) := by kernel_rfl
theorem ex2_eq : ex1.write nameA 60 (⟨#[49, 50, 51, 52, 53, 54, 55, 56]⟩ : ByteArray).data.toList = (0, ex2) := by kernel_rfl
theorem ex3_eq : ex2.crash [1] = ex3 := by kernel_rfl
theorem ex4_eq : ex3.read nameA 60 9 = ([49, 50, 51, 52], 0) := by kernel_rfl

theorem rising_one (f : DF) : Rising [f] := ⟨fun _ h => (by cases h), trivial⟩

theorem small_one {f : DF} (h : f.seen.length ≤ 2097152 ∧ f.last.length ≤ 2097152) : Small [f] := fun g hg => by
  simp only [List.mem_cons, List.not_mem_nil, or_false] at hg
  subst hg; exact h

theorem sEq_str (a b : List UInt8) : sEq (str a) (str b) = decide (a = b) := by
  unfold sEq
  rw [ByteArray.toList_eq, ByteArray.toList_eq, str_toList, str_toList]
  by_cases h : a = b
  · simp [h]
  · simp [h]

theorem sEq_self (a : ByteArray) : sEq a a = true := by
  have := sEq_str a.data.toList a.data.toList
  rw [str_data] at this
  rw [this]; simp

theorem awake_spec (hs : Sat W w L) : Ret Try.prog F.barquelaw14_awake [] w fun v w' => v = .bool true ∧ Sat W w' L := by
  suffices H : ∀ K : Value → World → Prop, (∀ w', Sat W w' L → K (.bool true) w') → S.barquelaw14_awake K w from S.barquelaw14_awake_ok _ _ (H _ fun _ h => ⟨rfl, h⟩)
  intro K hK
  refine xcalls (New_yes 2 (by decide) (by decide) hs) ?_
  rintro v w1 ⟨d, rfl, h1⟩
  refine ⟨(some ⟨d, 0, none⟩, (0 : Int), ()), rfl, xjoin0 (XIf.no rfl (XIf.no rfl ?_))⟩
  refine xcall (Create_spec (name := nameA) h1 trivial (by decide) (by decide)) ?_
  rintro v w2 ⟨rfl, h2⟩
  rw [ex1_eq] at h2 ⊢
  refine ⟨(0 : Int), rfl, ?_⟩
  refine xcall (Write_spec (name := nameA) (at_ := 60) (t := ⟨#[49, 50, 51, 52, 53, 54, 55, 56]⟩) h2 (rising_one _) (small_one (by decide)) (by decide) (by decide) (by decide) (by decide) (by decide) (by decide) (by decide)) ?_
  rintro v w3 ⟨rfl, h3⟩
  rw [ex2_eq] at h3 ⊢
  refine ⟨(0 : Int), rfl, xcall (Waiting_spec h3) ?_⟩
  rintro v w4 ⟨rfl, hq4⟩
  have h4 := h3.quiet hq4
  refine ⟨(2 : Int), rfl, xnew h4 fun b w5 h5 => ?_⟩
  have hro : ROInts W (pts b [.int .i64 1]) ⟨some ⟨b, 0, none⟩, 1, 1⟩ [1] := by
    refine ⟨rfl, fun w L h k x hx => ⟨b, 0, rfl, ?_⟩⟩
    cases k with
    | zero => cases hx; exact h.cell rfl
    | succ k => cases hx
  refine xcalls (Crash_spec (s := ⟨some ⟨b, 0, none⟩, 1, 1⟩) hro h5.swap (by decide) ?_ (by decide) ?_) ?_
  · intro p hp
    simp only [ex2, List.mem_cons, List.not_mem_nil, or_false] at hp
    rcases hp with rfl | rfl <;> decide
  · intro f hf
    simp only [ex2, List.mem_cons, List.not_mem_nil, or_false] at hf
    subst hf
    decide
  rintro v w6 ⟨rfl, h6⟩
  rw [ex3_eq] at h6
  refine ⟨(), rfl, xcalls (Read_spec (name := nameA) (at_ := 60) (n := 9) h6 (rising_one _) (small_one (by decide)) (by decide)) ?_⟩
  rintro v w7 ⟨rfl, hq7⟩
  rw [ex4_eq]
  refine ⟨(_, _, ()), rfl, xjoin0 (XIf.yes rfl (XIf.yes rfl (XIf.yes rfl (XIf.yes (sEq_self _) ?_))))⟩
  exact hK w7 (h6.quiet hq7).drop.drop

theorem cut_spec (s : ByteArray) : Ret Try.prog F.barquelaw14_cut [.string s] w fun v w' => v = .string (str (s.data.toList.take 700)) ∧ w' = w := by
  refine S.barquelaw14_cut_ok _ _ _ ?_
  by_cases h : 700 < s.size
  · refine XIf.yes (decide_eq_true (show ((s.size : Nat) : Int) > 700 by omega)) ⟨⟨⟨by decide, by omega⟩, by decide, by decide⟩, xlet0 ⟨?_, rfl⟩⟩
    rw [ext_str, List.drop_zero]
  · refine XIf.no (decide_eq_false (show ¬ ((s.size : Nat) : Int) > 700 by omega)) ⟨?_, rfl⟩
    rw [List.take_of_length_le (by rw [← size_list]; omega), str_data]

end
end Go.X
