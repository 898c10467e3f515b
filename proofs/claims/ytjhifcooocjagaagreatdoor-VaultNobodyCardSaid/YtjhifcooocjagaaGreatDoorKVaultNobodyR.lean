/- VaultNobody: the row. -/
import Derived.Test.YtjhifcooocjagaaGreatDoorRows
import Derived.Test.YtjhifcooocjagaaGreatDoorKVaultNobodyFR
import Derived.Test.YtjhifcooocjagaaGreatDoorCards
import Derived.Test.YtjhifcooocjagaaGreatDoorTie
import Derived.OpenShut
import Derived.SizedLaws
import Derived.LaidMore
import Derived.Lay
import Derived.SevenTiedAt
import Derived.Stop.Joined
import Derived.Test.YtjhifcooocjagaaGreatDoorKVaultNobodyB3
namespace Go.Proofs.YtjhifcooocjagaaGreatDoor
open Go.ChangeShapes Go.WideShapes Go.ChangeAt Go.RowKit
open Go.ChangeMaps (open_string shut_string)

theorem Tryz.own : ownKnob Tryz.prog.godebug = none := by kernel_rfl
theorem Tryz.laidOut : laidOutB Tryz.prog = true := by kernel_rfl

set_option maxRecDepth 100000 in
theorem vaultNobody_lifted (os : Os) (started : os.Started) (H : Type) (enc : TypeId × Value → H) :
    ReturnsInHanded {} Tryz.checked os Go.X.F.barquelaw18_VaultNobody .any (fun w args => (Rows.vaultNobodySpec.pre enc Tryz.prog Go.X.Fn.barquelaw18_VaultNobody Rows.vaultNobodyRow.domain false w args ∧ laidMetH Tryz.prog Rows.vaultNobodyRow.laid w) ∧ sizedMet enc Tryz.prog Go.X.Fn.barquelaw18_VaultNobody (OpenSpec.ofChange Rows.vaultNobodySpec) false w args) (Rows.vaultNobodySpec.post enc Tryz.prog Go.X.Fn.barquelaw18_VaultNobody false true false false) := by
  refine returnsInHanded_of_change_and (C := Tryz.checked) (X := fun w _ => laidMetH Tryz.prog Rows.vaultNobodyRow.laid w) (fun _ _ _ hh h => h.of_heap hh) Tryz.own started (by kernel_rfl) Go.X.Fu.barquelaw18_VaultNobody
    (ChangeSpec.witness_shaped (enc := enc) (C := Tryz.checked) (os := os) (X := fun w _ => laidMetH Tryz.prog Rows.vaultNobodyRow.laid w) false (World.laidAll Tryz.prog os Rows.vaultNobodyRow.laid) #[.int .i64 0, .agg #[.int .i64 0, .int .i64 0, .int .i64 0, .int .i64 0, .int .i64 0, .int .i64 0, .int .i64 0, .int .i64 0, .int .i64 0, .string ByteArray.empty, .int .i64 0, .int .i64 0, .string ByteArray.empty, .slice none 0 0]] 8 (World.laidAll_os _ _ _)
      (World.shaped_of_ZipB (by kernel_rfl) (by kernel_rfl)) (by kernel_rfl) (by kernel_rfl) (by kernel_rfl)
      (by rw [MakeChecks.laidMetH_plain _ _ _ (by kernel_rfl)]; exact laidMet_laidAll _ (by kernel_rfl) (by kernel_rfl))) ?_
  intro W base args ds gs before hval0 hW hcnd _ _ _
  have hW' := hW
  obtain ⟨p, q, hA0, hV, rfl, hfz, hnd⟩ := hW
  obtain ⟨t0, t1, hpar, f0_0, r0, l0, f1_0, r1, l1⟩ : ∃ t0 t1 : TypeId, Go.X.Fn.barquelaw18_VaultNobody.params = #[t0, t1] ∧ Tryz.prog.underlying t0 = some (.int .i64) ∧ Tryz.prog.readableRec t0 = true ∧ t0 < Tryz.prog.types.size ∧ Go.X.aggB Tryz.prog Go.X.MsgL t1 = true ∧ Tryz.prog.readableRec t1 = true ∧ t1 < Tryz.prog.types.size :=
    ⟨Go.X.Fn.barquelaw18_VaultNobody.params.getD 0 0, Go.X.Fn.barquelaw18_VaultNobody.params.getD 1 0, by kernel_rfl, by kernel_rfl, by kernel_rfl, of_decide_eq_true (by kernel_rfl), by kernel_rfl, by kernel_rfl, of_decide_eq_true (by kernel_rfl)⟩
  have hval : ∀ (j : Nat) t v, Go.X.Fn.barquelaw18_VaultNobody.params[j]? = some t → args[j]? = some v → Value.okWide Tryz.prog W .any base t v := hval0
  have hA : DataW.TrodAll enc Tryz.prog W 0 (fun _ => true) true Go.X.Fn.barquelaw18_VaultNobody.params.toList args.toList ds p := hA0
  rw [hpar] at hA hval
  obtain ⟨v0, v1, d0, d1, p0, p1, rfl, rfl, rfl, h0, h1⟩ := trodAll_two hA
  obtain ⟨rfl, rfl⟩ := trodVars_none hV
  obtain ⟨n0, rfl, _, _, w0⟩ := open_int f0_0 (hval 0 t0 v0 rfl rfl) h0
  obtain ⟨x1, rfl⟩ := Go.X.open_agg f1_0 (hval 1 t1 v1 rfl rfl)
  have hlt : ∀ x ∈ (p0 ++ p1) ++ [], x.block < W.heap.size := fun x hx => hW'.lt x hx
  refine Calls.mono (Go.X.VNobody_law n0 x1 (Go.X.Sat.start W)) ?_
  rintro e W' ⟨v, rfl, rfl, hsat⟩
  have hb := hsat.below
  have hargs : ∀ sp : Nat → Bool, (∀ x ∈ p0 ++ p1, sp x.block = true) → DataW.TrodAll enc Tryz.prog W' 0 sp true [t0, t1] [.int .i64 n0, .agg ⟨Go.X.HL.cells Go.X.MsgL x1⟩] [d0, d1] (p0 ++ p1) := fun sp h =>
    trodAll_mk2 (Go.X.stays Tryz.laidOut r0 l0 sp h0 hb (fun x hx => hlt x (by simp [hx])) fun x hx => h x (by simp [hx])) (Go.X.stays Tryz.laidOut r1 l1 sp h1 hb (fun x hx => hlt x (by simp [hx])) fun x hx => h x (by simp [hx]))
  obtain ⟨tB, hres, hB⟩ : ∃ tB, Go.X.Fn.barquelaw18_VaultNobody.resultTypes = #[tB] ∧ Tryz.prog.underlying tB = some .bool := ⟨Go.X.Fn.barquelaw18_VaultNobody.resultTypes.getD 0 0, by kernel_rfl, by kernel_rfl⟩
  refine ⟨_, rfl, Go.X.post_of_below (pa := p0 ++ p1) (pv := []) hW' ?_ ?_ ?_ (fun _ => rfl) rfl hb ?_⟩
  · intro b sp hd
    rw [hres]
    exact trodAll_mk1 (shut_bool hB true)
  · rw [hpar]
    exact hargs _ fun x hx => by
      have := hlt x (by simpa using hx)
      simpa using this
  · rw [hpar]
    exact hargs _ fun _ _ => rfl
  · exact ok_one hres rfl (okWide_bool_mk hB true)

theorem vaultNobody_holds : Rows.VaultNobodySaid :=
  OpenClaim.holds_of_wide Go.X.F.barquelaw18_VaultNobody Go.X.Fn.barquelaw18_VaultNobody rfl rfl rfl rfl rfl rfl rfl ⟨rfl, rfl, rfl, rfl, rfl⟩ rfl rfl rfl rfl rfl (by kernel_rfl) Go.X.Fu.barquelaw18_VaultNobody vaultNobody_facts
    (of_decide_eq_true (by kernel_rfl)) (by unfold Func.isWrapper; first | (rw [if_pos (by decide +kernel)]; kernel_rfl) | (rw [if_neg (by decide +kernel)]; exact ⟨rfl, rfl⟩))
    (fun os started H enc _ => vaultNobody_lifted os started H enc)


end Go.Proofs.YtjhifcooocjagaaGreatDoor
