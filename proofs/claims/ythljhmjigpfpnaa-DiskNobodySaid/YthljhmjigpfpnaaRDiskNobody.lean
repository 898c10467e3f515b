/- DiskNobody: the row. -/
import Derived.Test.YthljhmjigpfpnaaRows
import Derived.Test.YthljhmjigpfpnaaXEnd
namespace Go.Proofs.Ythljhmjigpfpnaa
open Go.ChangeShapes Go.WideShapes Go.ChangeAt Go.RowKit
open Go.ChangeMaps (open_string shut_string)

theorem Try.own : ownKnob Try.prog.godebug = none := by kernel_rfl
theorem Try.laidOut : laidOutB Try.prog = true := by kernel_rfl

set_option maxRecDepth 100000 in
theorem diskNobody_lifted (os : Os) (started : os.Started) (H : Type) (enc : TypeId × Value → H) :
    ReturnsInHanded {} Try.checked os Go.X.F.barquelaw14_DiskNobody .any (Rows.diskNobodySpec.pre6 enc Try.prog Go.X.Fn.barquelaw14_DiskNobody Rows.diskNobodyRow.domain false) (Rows.diskNobodySpec.post enc Try.prog Go.X.Fn.barquelaw14_DiskNobody false true false false) := by
  refine returnsInHanded_of_change (C := Try.checked) Try.own started (by kernel_rfl) Go.X.Fu.barquelaw14_DiskNobody
    (ChangeSpec.witness6 (enc := enc) (C := Try.checked) false ⟨#[], #[.string ByteArray.empty, .int .i64 0], []⟩ 8 (by kernel_rfl) (by kernel_rfl) (by kernel_rfl) (by kernel_rfl)) ?_
  intro W base args ds gs before hval0 hW hcnd _
  have hW' := hW
  obtain ⟨p, q, hA0, hV, rfl, hfz, hnd⟩ := hW
  obtain ⟨tS, tI, hpar, hS, hI, rS, rI, lS, lI⟩ : ∃ tS tI, Go.X.Fn.barquelaw14_DiskNobody.params = #[tS, tI] ∧ Try.prog.underlying tS = some .string ∧ Try.prog.underlying tI = some (.int .i64) ∧
      Try.prog.readableRec tS = true ∧ Try.prog.readableRec tI = true ∧ tS < Try.prog.types.size ∧ tI < Try.prog.types.size :=
    ⟨Go.X.Fn.barquelaw14_DiskNobody.params.getD 0 0, Go.X.Fn.barquelaw14_DiskNobody.params.getD 1 0, by kernel_rfl, by kernel_rfl, by kernel_rfl, by kernel_rfl, by kernel_rfl, of_decide_eq_true (by kernel_rfl), of_decide_eq_true (by kernel_rfl)⟩
  have hval : ∀ (j : Nat) t v, Go.X.Fn.barquelaw14_DiskNobody.params[j]? = some t → args[j]? = some v → Value.okWide Try.prog W .any base t v := hval0
  have hA : DataW.TrodAll enc Try.prog W 0 (fun _ => true) true Go.X.Fn.barquelaw14_DiskNobody.params.toList args.toList ds p := hA0
  rw [hpar] at hA hval
  obtain ⟨v0, v1, d0, d1, p0, p1, rfl, rfl, rfl, h0, h1⟩ := trodAll_two hA
  obtain ⟨rfl, rfl⟩ := trodVars_none hV
  obtain ⟨s, rfl, hd0, hp0, hs⟩ := open_string hS (hval 0 tS v0 rfl rfl) h0
  obtain ⟨n, rfl, hd1, hp1, wn⟩ := open_int hI (hval 1 tI v1 rfl rfl) h1
  have hlt : ∀ x ∈ (p0 ++ p1) ++ [], x.block < W.heap.size := fun x hx => hW'.lt x hx
  refine Calls.mono (Go.X.Nobody_law s n (Go.X.Sat.start W)) ?_
  rintro e W' ⟨v, rfl, rfl, hsat⟩
  have hb := hsat.below
  have hlt0 : ∀ x ∈ p0, x.block < W.heap.size := fun x hx => hlt x (by simp [hx])
  have hlt1 : ∀ x ∈ p1, x.block < W.heap.size := fun x hx => hlt x (by simp [hx])
  have hargs : ∀ sp : Nat → Bool, (∀ x ∈ p0 ++ p1, sp x.block = true) → DataW.TrodAll enc Try.prog W' 0 sp true [tS, tI] [.string s, .int .i64 n] [d0, d1] (p0 ++ p1) := fun sp h =>
    trodAll_mk2 (Go.X.stays Try.laidOut rS lS sp h0 hb hlt0 fun x hx => h x (by simp [hx])) (Go.X.stays Try.laidOut rI lI sp h1 hb hlt1 fun x hx => h x (by simp [hx]))
  obtain ⟨tB, hres, hB⟩ : ∃ tB, Go.X.Fn.barquelaw14_DiskNobody.resultTypes = #[tB] ∧ Try.prog.underlying tB = some .bool := ⟨Go.X.Fn.barquelaw14_DiskNobody.resultTypes.getD 0 0, by kernel_rfl, by kernel_rfl⟩
  refine ⟨_, rfl, Go.X.post_of_below (pa := p0 ++ p1) (pv := []) hW' ?_ ?_ ?_ (fun _ => rfl) rfl hb ?_⟩
  · intro b sp hd
    rw [hres]
    exact trodAll_mk1 (shut_bool hB true)
  · rw [hpar]
    exact hargs _ fun x hx => by
      have := hlt x (by simpa using hx)
      simpa using this
  · rw [hpar]
    exact hargs _ fun _ _ => rfl
  · exact ok_one hres rfl (okWide_bool_mk hB true)

theorem diskNobody_holds : Rows.DiskNobodySaid :=
  OpenClaim.holds_of_wide Go.X.F.barquelaw14_DiskNobody Go.X.Fn.barquelaw14_DiskNobody rfl rfl rfl rfl rfl rfl rfl ⟨rfl, rfl, rfl, rfl, rfl⟩ rfl rfl rfl rfl rfl (by kernel_rfl) Go.X.Fu.barquelaw14_DiskNobody (by kernel_rfl)
    (of_decide_eq_true (by kernel_rfl)) (by unfold Func.isWrapper; first | (rw [if_pos (by decide +kernel)]; kernel_rfl) | (rw [if_neg (by decide +kernel)]; exact ⟨rfl, rfl⟩))
    (fun os started H enc _ => diskNobody_lifted os started H enc)

#print axioms diskNobody_holds

end Go.Proofs.Ythljhmjigpfpnaa
