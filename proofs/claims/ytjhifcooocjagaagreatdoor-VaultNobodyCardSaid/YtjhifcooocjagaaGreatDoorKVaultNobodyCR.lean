/- VaultNobody: the card. -/
import Derived.Test.YtjhifcooocjagaaGreatDoorKVaultNobodyR
namespace Go.Proofs.YtjhifcooocjagaaGreatDoor
open Go.ChangeShapes Go.WideShapes Go.ChangeAt Go.RowKit

theorem vaultNobody_card : Rows.VaultNobodyCardSaid :=
  Claim7.holds_tied_plain_at .later [] [.data, .pinned] true (true, "d338cfde50d6b9975df722c8f1ca40b6a3c399d1c5c410aebfee2c98cf9dc590") true
    vaultNobody_holds (fun _ h => by cases h) (by kernel_rfl) (fun _ h => by cases h) vaultNobody_row_tie rfl ⟨rfl, rfl⟩ (by kernel_rfl) rfl
    (fun f fn hf hfn => by
      obtain rfl : f = Go.X.F.barquelaw18_VaultNobody := Option.some.inj ((show Tryz.prog.funcNamed "barque/barquelaw18.VaultNobody" = some Go.X.F.barquelaw18_VaultNobody by kernel_rfl).symm.trans hf) |>.symm
      obtain rfl : fn = Go.X.Fn.barquelaw18_VaultNobody := (Option.some.inj (Go.X.Fu.barquelaw18_VaultNobody.symm.trans hfn)).symm
      exact ⟨by kernel_rfl, fun j t ht => by
        have hall : (Go.X.Fn.barquelaw18_VaultNobody.params.toList.all fun u => !Tryz.prog.wantsStandIn u) = true := by kernel_rfl
        have hm : t ∈ Go.X.Fn.barquelaw18_VaultNobody.params.toList := by simpa using Array.mem_of_getElem? ht
        exact (show Tryz.prog.wantsStandIn t = false by simpa using List.all_eq_true.1 hall t hm)⟩)
    (by kernel_rfl)

#print axioms vaultNobody_card

end Go.Proofs.YtjhifcooocjagaaGreatDoor
