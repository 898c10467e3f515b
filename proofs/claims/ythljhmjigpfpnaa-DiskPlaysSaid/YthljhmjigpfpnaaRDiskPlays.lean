/- DiskPlays: the row. -/
import Derived.Test.YthljhmjigpfpnaaRows
import Derived.Test.YthljhmjigpfpnaaEPlays
namespace Go.Proofs.Ythljhmjigpfpnaa
open Go.ChangeShapes Go.WideShapes Go.ChangeAt Go.RowKit
open Go.ChangeMaps (open_string shut_string)

theorem Try.own : ownKnob Try.prog.godebug = none := by kernel_rfl
theorem Try.laidOut : laidOutB Try.prog = true := by kernel_rfl

set_option maxRecDepth 100000 in
theorem diskPlays_lifted (os : Os) (started : os.Started) (H : Type) (enc : TypeId × Value → H) :
    ReturnsInHanded {} Try.checked os Go.X.F.barquelaw14_DiskPlays .any (Rows.diskPlaysSpec.pre6 enc Try.prog Go.X.Fn.barquelaw14_DiskPlays Rows.diskPlaysRow.domain false) (Rows.diskPlaysSpec.post enc Try.prog Go.X.Fn.barquelaw14_DiskPlays false true false false) := by
  refine returnsInHanded_of_change (C := Try.checked) Try.own started (by kernel_rfl) Go.X.Fu.barquelaw14_DiskPlays
    (ChangeSpec.witness6 (enc := enc) (C := Try.checked) false ⟨#[], #[.int .i64 0, .slice none 0 0], []⟩ 8 (by kernel_rfl) (by kernel_rfl) (by kernel_rfl) (by kernel_rfl)) ?_
  intro W base args ds gs before hval0 hW hcnd _
  have hW' := hW
  obtain ⟨p, q, hA0, hV, rfl, hfz, hnd⟩ := hW
  obtain ⟨t0, t1, hpar, f0_0, r0, l0, f1_0, r1, l1⟩ : ∃ t0 t1 : TypeId, Go.X.Fn.barquelaw14_DiskPlays.params = #[t0, t1] ∧ Try.prog.underlying t0 = some (.int .i64) ∧ Try.prog.readableRec t0 = true ∧ t0 < Try.prog.types.size ∧ Go.X.OpTypes Try.prog t1 ∧ Try.prog.readableRec t1 = true ∧ t1 < Try.prog.types.size :=
    ⟨Go.X.Fn.barquelaw14_DiskPlays.params.getD 0 0, Go.X.Fn.barquelaw14_DiskPlays.params.getD 1 0, by kernel_rfl, by kernel_rfl, by kernel_rfl, of_decide_eq_true (by kernel_rfl), Go.X.opTypes_of (by kernel_rfl), by kernel_rfl, of_decide_eq_true (by kernel_rfl)⟩
  have hval : ∀ (j : Nat) t v, Go.X.Fn.barquelaw14_DiskPlays.params[j]? = some t → args[j]? = some v → Value.okWide Try.prog W .any base t v := hval0
  have hA : DataW.TrodAll enc Try.prog W 0 (fun _ => true) true Go.X.Fn.barquelaw14_DiskPlays.params.toList args.toList ds p := hA0
  rw [hpar] at hA hval
  obtain ⟨v0, v1, d0, d1, p0, p1, rfl, rfl, rfl, h0, h1⟩ := trodAll_two hA
  obtain ⟨rfl, rfl⟩ := trodVars_none hV
  obtain ⟨n0, rfl, _, _, w0⟩ := open_int f0_0 (hval 0 t0 v0 rfl rfl) h0
  obtain ⟨s1, x1, rfl, w1, a1⟩ := Go.X.open_opsA f1_0 (hval 1 t1 v1 rfl rfl) h1
  have hlt : ∀ x ∈ (p0 ++ p1) ++ [], x.block < W.heap.size := fun x hx => hW'.lt x hx
  refine Calls.mono (Go.X.Plays_law n0 a1 (Go.X.Sat.start W)) ?_
  rintro e W' ⟨v, rfl, rfl, hsat⟩
  have hb := hsat.below
  have hargs : ∀ sp : Nat → Bool, (∀ x ∈ p0 ++ p1, sp x.block = true) → DataW.TrodAll enc Try.prog W' 0 sp true [t0, t1] [.int .i64 n0, .slice s1.a s1.len s1.cap] [d0, d1] (p0 ++ p1) := fun sp h =>
    trodAll_mk2 (Go.X.stays Try.laidOut r0 l0 sp h0 hb (fun x hx => hlt x (by simp [hx])) fun x hx => h x (by simp [hx])) (Go.X.stays Try.laidOut r1 l1 sp h1 hb (fun x hx => hlt x (by simp [hx])) fun x hx => h x (by simp [hx]))
  obtain ⟨tB, hres, hB⟩ : ∃ tB, Go.X.Fn.barquelaw14_DiskPlays.resultTypes = #[tB] ∧ Try.prog.underlying tB = some .bool := ⟨Go.X.Fn.barquelaw14_DiskPlays.resultTypes.getD 0 0, by kernel_rfl, by kernel_rfl⟩
  refine ⟨_, rfl, Go.X.post_of_below (pa := p0 ++ p1) (pv := []) hW' ?_ ?_ ?_ (fun _ => rfl) rfl hb ?_⟩
  · intro b sp hd
    rw [hres]
    exact trodAll_mk1 (shut_bool hB true)
  · rw [hpar]
    exact hargs _ fun x hx => by
      have := hlt x (by simpa using hx)
      simpa using this
  · rw [hpar]
    exact hargs _ fun _ _ => rfl
  · exact ok_one hres rfl (okWide_bool_mk hB true)

theorem diskPlays_holds : Rows.DiskPlaysSaid :=
  OpenClaim.holds_of_wide Go.X.F.barquelaw14_DiskPlays Go.X.Fn.barquelaw14_DiskPlays rfl rfl rfl rfl rfl rfl rfl ⟨rfl, rfl, rfl, rfl, rfl⟩ rfl rfl rfl rfl rfl (by kernel_rfl) Go.X.Fu.barquelaw14_DiskPlays (by kernel_rfl)
    (of_decide_eq_true (by kernel_rfl)) (by unfold Func.isWrapper; first | (rw [if_pos (by decide +kernel)]; kernel_rfl) | (rw [if_neg (by decide +kernel)]; exact ⟨rfl, rfl⟩))
    (fun os started H enc _ => diskPlays_lifted os started H enc)

#print axioms diskPlays_holds

end Go.Proofs.Ythljhmjigpfpnaa
