/- DiskFuse: the row. -/
import Derived.Test.YthljhmjigpfpnaaRows
import Derived.Test.YthljhmjigpfpnaaDFull
namespace Go.Proofs.Ythljhmjigpfpnaa
open Go.ChangeShapes Go.WideShapes Go.ChangeAt Go.RowKit
open Go.ChangeMaps (open_string shut_string)

theorem Try.own : ownKnob Try.prog.godebug = none := by kernel_rfl
theorem Try.laidOut : laidOutB Try.prog = true := by kernel_rfl

set_option maxRecDepth 100000 in
theorem diskFuse_lifted (os : Os) (started : os.Started) (H : Type) (enc : TypeId × Value → H) :
    ReturnsInHanded {} Try.checked os Go.X.F.barquelaw14_DiskFuse .any (Rows.diskFuseSpec.pre6 enc Try.prog Go.X.Fn.barquelaw14_DiskFuse Rows.diskFuseRow.domain false) (Rows.diskFuseSpec.post enc Try.prog Go.X.Fn.barquelaw14_DiskFuse false true false false) := by
  refine returnsInHanded_of_change (C := Try.checked) Try.own started (by kernel_rfl) Go.X.Fu.barquelaw14_DiskFuse
    (ChangeSpec.witness6 (enc := enc) (C := Try.checked) false ⟨#[], #[.int .i64 0], []⟩ 8 (by kernel_rfl) (by kernel_rfl) (by kernel_rfl) (by kernel_rfl)) ?_
  intro W base args ds gs before hval0 hW hcnd _
  have hW' := hW
  obtain ⟨p, q, hA0, hV, rfl, hfz, hnd⟩ := hW
  obtain ⟨t0, hpar, f0_0, r0, l0⟩ : ∃ t0 : TypeId, Go.X.Fn.barquelaw14_DiskFuse.params = #[t0] ∧ Try.prog.underlying t0 = some (.int .i64) ∧ Try.prog.readableRec t0 = true ∧ t0 < Try.prog.types.size :=
    ⟨Go.X.Fn.barquelaw14_DiskFuse.params.getD 0 0, by kernel_rfl, by kernel_rfl, by kernel_rfl, of_decide_eq_true (by kernel_rfl)⟩
  have hval : ∀ (j : Nat) t v, Go.X.Fn.barquelaw14_DiskFuse.params[j]? = some t → args[j]? = some v → Value.okWide Try.prog W .any base t v := hval0
  have hA : DataW.TrodAll enc Try.prog W 0 (fun _ => true) true Go.X.Fn.barquelaw14_DiskFuse.params.toList args.toList ds p := hA0
  rw [hpar] at hA hval
  obtain ⟨v0, d0, rfl, rfl, h0⟩ := trodAll_one hA
  obtain ⟨rfl, rfl⟩ := trodVars_none hV
  obtain ⟨n0, rfl, _, _, w0⟩ := open_int f0_0 (hval 0 t0 v0 rfl rfl) h0
  have hlt : ∀ x ∈ (p) ++ [], x.block < W.heap.size := fun x hx => hW'.lt x hx
  refine Calls.mono (Go.X.Fuse_law n0 (Go.X.Sat.start W)) ?_
  rintro e W' ⟨v, rfl, rfl, hsat⟩
  have hb := hsat.below
  have hargs : ∀ sp : Nat → Bool, (∀ x ∈ p, sp x.block = true) → DataW.TrodAll enc Try.prog W' 0 sp true [t0] [.int .i64 n0] [d0] p := fun sp h =>
    trodAll_mk1 (Go.X.stays Try.laidOut r0 l0 sp h0 hb (fun x hx => hlt x (by simp [hx])) fun x hx => h x hx)
  obtain ⟨tB, hres, hB⟩ : ∃ tB, Go.X.Fn.barquelaw14_DiskFuse.resultTypes = #[tB] ∧ Try.prog.underlying tB = some .bool := ⟨Go.X.Fn.barquelaw14_DiskFuse.resultTypes.getD 0 0, by kernel_rfl, by kernel_rfl⟩
  refine ⟨_, rfl, Go.X.post_of_below (pa := p) (pv := []) hW' ?_ ?_ ?_ (fun _ => rfl) rfl hb ?_⟩
  · intro b sp hd
    rw [hres]
    exact trodAll_mk1 (shut_bool hB true)
  · rw [hpar]
    exact hargs _ fun x hx => by
      have := hlt x (by simpa using hx)
      simpa using this
  · rw [hpar]
    exact hargs _ fun _ _ => rfl
  · exact ok_one hres rfl (okWide_bool_mk hB true)

theorem diskFuse_holds : Rows.DiskFuseSaid :=
  OpenClaim.holds_of_wide Go.X.F.barquelaw14_DiskFuse Go.X.Fn.barquelaw14_DiskFuse rfl rfl rfl rfl rfl rfl rfl ⟨rfl, rfl, rfl, rfl, rfl⟩ rfl rfl rfl rfl rfl (by kernel_rfl) Go.X.Fu.barquelaw14_DiskFuse (by kernel_rfl)
    (of_decide_eq_true (by kernel_rfl)) (by unfold Func.isWrapper; first | (rw [if_pos (by decide +kernel)]; kernel_rfl) | (rw [if_neg (by decide +kernel)]; exact ⟨rfl, rfl⟩))
    (fun os started H enc _ => diskFuse_lifted os started H enc)

#print axioms diskFuse_holds

end Go.Proofs.Ythljhmjigpfpnaa
