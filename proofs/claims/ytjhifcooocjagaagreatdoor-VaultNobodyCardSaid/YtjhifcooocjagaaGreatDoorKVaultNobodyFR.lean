/- VaultNobody: what the row tells of the program. -/
import Derived.Test.YtjhifcooocjagaaGreatDoorRows
import Derived.Test.YtjhifcooocjagaaGreatDoorKVaultNobodyI
import Derived.JoinedOf
import Derived.KernelRfl
namespace Go.Proofs.YtjhifcooocjagaaGreatDoor
open Go

theorem k0 : (Rows.vaultNobodyRow.wf (OpenSpec.ofChange Rows.vaultNobodySpec) : Bool) = true := by kernel_rfl
theorem k1 : (laidOutB Tryz.prog : Bool) = true := by kernel_rfl
theorem k2 : (mapsRowed Tryz.prog : Bool) = true := by kernel_rfl
theorem k3 : (Go.X.Fn.barquelaw18_VaultNobody.params.all (Tryz.prog.readableRec ·) : Bool) = true := by kernel_rfl
theorem k4 : (namedTie Tryz.prog Rows.vaultNobodyRow.named Rows.vaultNobodySpec.vars : Bool) = true := by kernel_rfl
theorem k5 : ((Rows.vaultNobodyRow.stops == []) : Bool) = true := by kernel_rfl
theorem k6 : ((Tryz.prog.stops == []) : Bool) = true := by kernel_rfl
theorem k7 : ((Rows.vaultNobodyRow.knobs == []) : Bool) = true := by kernel_rfl
theorem k8 : ((Tryz.prog.stopKnobs == []) : Bool) = true := by kernel_rfl
theorem k9 : ((Rows.vaultNobodyRow.inPlace == Tryz.prog.inPlace Go.X.F.barquelaw18_VaultNobody) : Bool) = true := by kernel_rfl
theorem k10 : ((Rows.vaultNobodyRow.unfollowed == Tryz.prog.unfollowed Go.X.F.barquelaw18_VaultNobody) : Bool) = true := by kernel_rfl
theorem k11 : ((Rows.vaultNobodyRow.recurses == Tryz.prog.recurses Go.X.F.barquelaw18_VaultNobody) : Bool) = true := by kernel_rfl
theorem k12 : ((Rows.vaultNobodyRow.named == Tryz.prog.varsNamed Go.X.F.barquelaw18_VaultNobody) : Bool) = true := by kernel_rfl
theorem k13 : ((Rows.vaultNobodyRow.maps == (Go.X.Fn.barquelaw18_VaultNobody.params.toList ++ Rows.vaultNobodySpec.plain.varTypes Tryz.prog).any (Tryz.prog.mapsRec ·)) : Bool) = true := by kernel_rfl
theorem k14 : ((Rows.vaultNobodyRow.ifaces == (Go.X.Fn.barquelaw18_VaultNobody.params.toList ++ Rows.vaultNobodySpec.plain.varTypes Tryz.prog).any (Tryz.prog.ifacesRec ·)) : Bool) = true := by kernel_rfl
theorem k15 : ((Rows.vaultNobodyRow.mapsOut == Tryz.prog.mapsAmong Go.X.Fn.barquelaw18_VaultNobody.resultTypes.toList) : Bool) = true := by kernel_rfl
theorem k16 : ((Rows.vaultNobodyRow.loops == (Go.X.Fn.barquelaw18_VaultNobody.params.toList ++ Rows.vaultNobodySpec.plain.varTypes Tryz.prog).any (Tryz.prog.loopsFrom ·)) : Bool) = true := by kernel_rfl
theorem k17 : ((Rows.vaultNobodyRow.wideKeys == (Go.X.Fn.barquelaw18_VaultNobody.params.toList ++ Rows.vaultNobodySpec.plain.varTypes Tryz.prog ++ Go.X.Fn.barquelaw18_VaultNobody.resultTypes.toList).any (Tryz.prog.wideKeysFrom ·)) : Bool) = true := by kernel_rfl
theorem k18 : (Rows.vaultNobodySpec.vars.all (Tryz.prog.varReadable ·) : Bool) = true := by kernel_rfl
theorem k19 : (Go.X.Fn.barquelaw18_VaultNobody.resultTypes.all (fun t => Tryz.prog.readableRec t && decide (t < Tryz.prog.types.size)) : Bool) = true := by kernel_rfl
theorem k20 : ((Rows.vaultNobodyRow.ifacesOut == Go.X.Fn.barquelaw18_VaultNobody.resultTypes.toList.any (Tryz.prog.ifacesRec ·)) : Bool) = true := by kernel_rfl
theorem k21 : ((Rows.vaultNobodyRow.loopsOut == Go.X.Fn.barquelaw18_VaultNobody.resultTypes.toList.any (Tryz.prog.loopsFrom ·)) : Bool) = true := by kernel_rfl
theorem k22 : ((Rows.vaultNobodyRow.plainKeys == Tryz.prog.plainKeys) : Bool) = true := by kernel_rfl
theorem k23 : (Rows.vaultNobodyRow.shortTexts.isNone : Bool) = true := by kernel_rfl
theorem k24 : (Tryz.prog.stopsHeard : Bool) = true := by kernel_rfl
theorem k25 : (Tryz.prog.mayEnter : Bool) = true := by kernel_rfl
theorem k26 : ((Rows.vaultNobodyRow.lifted == Tryz.prog.liftsFinal) : Bool) = true := by kernel_rfl
theorem k27 : ((Tryz.prog.make == some Rows.vaultNobodyRow.make) : Bool) = true := by kernel_rfl
theorem k29 : ((Rows.vaultNobodyRow.pinned == Rows.vaultNobodyRow.pinnedBy) : Bool) = true := by kernel_rfl
theorem k30 : ((Rows.vaultNobodyRow.veiled == (Go.X.Fn.barquelaw18_VaultNobody.params.toList ++ Rows.vaultNobodySpec.plain.varTypes Tryz.prog ++ Go.X.Fn.barquelaw18_VaultNobody.resultTypes.toList).any (Tryz.prog.veiledRec ·)) : Bool) = true := by kernel_rfl
theorem k31 : (Rows.vaultNobodyRow.veiledFits Tryz.prog Go.X.Fn.barquelaw18_VaultNobody.params.toList (Go.X.Fn.barquelaw18_VaultNobody.params.toList ++ Rows.vaultNobodySpec.plain.varTypes Tryz.prog ++ Go.X.Fn.barquelaw18_VaultNobody.resultTypes.toList) : Bool) = true := by kernel_rfl
theorem vaultNobody_facts : joinedFacts Tryz.prog Go.X.F.barquelaw18_VaultNobody Go.X.Fn.barquelaw18_VaultNobody Rows.vaultNobodySpec Rows.vaultNobodyRow = true := by
  unfold joinedFacts
  simp only [Bool.and_eq_true]
  exact ⟨⟨⟨⟨⟨⟨⟨⟨⟨⟨⟨⟨⟨⟨⟨⟨⟨⟨⟨⟨⟨⟨⟨⟨⟨⟨⟨⟨⟨⟨⟨k0, k1⟩, k2⟩, k3⟩, k4⟩, k5⟩, k6⟩, k7⟩, k8⟩, k9⟩, k10⟩, k11⟩, k12⟩, k13⟩, k14⟩, k15⟩, k16⟩, k17⟩, k18⟩, k19⟩, k20⟩, k21⟩, k22⟩, k23⟩, k24⟩, k25⟩, k26⟩, k27⟩, by kernel_rfl⟩, k29⟩, k30⟩, k31⟩

end Go.Proofs.YtjhifcooocjagaaGreatDoor
