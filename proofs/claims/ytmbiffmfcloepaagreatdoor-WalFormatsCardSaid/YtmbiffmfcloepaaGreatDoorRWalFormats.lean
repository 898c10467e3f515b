/- WalFormats: the row. -/
import Derived.Test.YtmbiffmfcloepaaGreatDoorRows
import Derived.Test.YtmbiffmfcloepaaGreatDoorCards
import Derived.Test.YtmbiffmfcloepaaGreatDoorTie
import Derived.OpenShut
import Derived.SizedLaws
import Derived.LaidMore
import Derived.Lay
import Derived.SevenTiedAt
import Derived.Stop.Joined
import Derived.Test.YtmbiffmfcloepaaGreatDoorWFormats
namespace Go.Proofs.YtmbiffmfcloepaaGreatDoor
open Go.ChangeShapes Go.WideShapes Go.ChangeAt Go.RowKit
open Go.ChangeMaps (open_string shut_string)

theorem Tryz.own : ownKnob Tryz.prog.godebug = none := by kernel_rfl
theorem Tryz.laidOut : laidOutB Tryz.prog = true := by kernel_rfl

set_option maxRecDepth 100000 in
theorem walFormats_lifted (os : Os) (started : os.Started) (H : Type) (enc : TypeId × Value → H) :
    ReturnsInHanded {} Tryz.checked os Go.X.F.barquelaw15_WalFormats .any (fun w args => (Rows.walFormatsSpec.pre enc Tryz.prog Go.X.Fn.barquelaw15_WalFormats Rows.walFormatsRow.domain false w args ∧ laidMetH Tryz.prog Rows.walFormatsRow.laid w) ∧ sizedMet enc Tryz.prog Go.X.Fn.barquelaw15_WalFormats (OpenSpec.ofChange Rows.walFormatsSpec) false w args) (Rows.walFormatsSpec.post enc Tryz.prog Go.X.Fn.barquelaw15_WalFormats false true false false) := by
  refine returnsInHanded_of_change_and (C := Tryz.checked) (X := fun w _ => laidMetH Tryz.prog Rows.walFormatsRow.laid w) (fun _ _ _ hh h => h.of_heap hh) Tryz.own started (by kernel_rfl) Go.X.Fu.barquelaw15_WalFormats
    (ChangeSpec.witness_shaped (enc := enc) (C := Tryz.checked) (os := os) (X := fun w _ => laidMetH Tryz.prog Rows.walFormatsRow.laid w) false (World.laidAll Tryz.prog os Rows.walFormatsRow.laid) #[.slice none 0 0, .string ByteArray.empty] 8 (World.laidAll_os _ _ _)
      (World.shaped_of_ZipB (by kernel_rfl) (by kernel_rfl)) (by kernel_rfl) (by kernel_rfl) (by kernel_rfl)
      (by rw [MakeChecks.laidMetH_plain _ _ _ (by kernel_rfl)]; exact laidMet_laidAll _ (by kernel_rfl) (by kernel_rfl))) ?_
  intro W base args ds gs before hval0 hW hcnd _ _ _
  have hW' := hW
  obtain ⟨p, q, hA0, hV, rfl, hfz, hnd⟩ := hW
  obtain ⟨t0, t1, hpar, f0_0, r0, l0, f1_0, r1, l1⟩ : ∃ t0 t1 : TypeId, Go.X.Fn.barquelaw15_WalFormats.params = #[t0, t1] ∧ Go.X.WOpTypes Tryz.prog t0 ∧ Tryz.prog.readableRec t0 = true ∧ t0 < Tryz.prog.types.size ∧ Tryz.prog.underlying t1 = some .string ∧ Tryz.prog.readableRec t1 = true ∧ t1 < Tryz.prog.types.size :=
    ⟨Go.X.Fn.barquelaw15_WalFormats.params.getD 0 0, Go.X.Fn.barquelaw15_WalFormats.params.getD 1 0, by kernel_rfl, Go.X.wopTypes_of (by kernel_rfl), by kernel_rfl, of_decide_eq_true (by kernel_rfl), by kernel_rfl, by kernel_rfl, of_decide_eq_true (by kernel_rfl)⟩
  have hval : ∀ (j : Nat) t v, Go.X.Fn.barquelaw15_WalFormats.params[j]? = some t → args[j]? = some v → Value.okWide Tryz.prog W .any base t v := hval0
  have hA : DataW.TrodAll enc Tryz.prog W 0 (fun _ => true) true Go.X.Fn.barquelaw15_WalFormats.params.toList args.toList ds p := hA0
  rw [hpar] at hA hval
  obtain ⟨v0, v1, d0, d1, p0, p1, rfl, rfl, rfl, h0, h1⟩ := trodAll_two hA
  obtain ⟨rfl, rfl⟩ := trodVars_none hV
  obtain ⟨s0, x0, rfl, w0, a0⟩ := Go.X.open_wopsA f0_0 (hval 0 t0 v0 rfl rfl) h0
  obtain ⟨s1, rfl, _, _, w1⟩ := open_string f1_0 (hval 1 t1 v1 rfl rfl) h1
  have hlt : ∀ x ∈ (p0 ++ p1) ++ [], x.block < W.heap.size := fun x hx => hW'.lt x hx
  refine Calls.mono (Go.X.Formats_law a0 s1 (Go.X.Sat.start W)) ?_
  rintro e W' ⟨v, rfl, rfl, hsat⟩
  have hb := hsat.below
  have hargs : ∀ sp : Nat → Bool, (∀ x ∈ p0 ++ p1, sp x.block = true) → DataW.TrodAll enc Tryz.prog W' 0 sp true [t0, t1] [.slice s0.a s0.len s0.cap, .string s1] [d0, d1] (p0 ++ p1) := fun sp h =>
    trodAll_mk2 (Go.X.stays Tryz.laidOut r0 l0 sp h0 hb (fun x hx => hlt x (by simp [hx])) fun x hx => h x (by simp [hx])) (Go.X.stays Tryz.laidOut r1 l1 sp h1 hb (fun x hx => hlt x (by simp [hx])) fun x hx => h x (by simp [hx]))
  obtain ⟨tB, hres, hB⟩ : ∃ tB, Go.X.Fn.barquelaw15_WalFormats.resultTypes = #[tB] ∧ Tryz.prog.underlying tB = some .bool := ⟨Go.X.Fn.barquelaw15_WalFormats.resultTypes.getD 0 0, by kernel_rfl, by kernel_rfl⟩
  refine ⟨_, rfl, Go.X.post_of_below (pa := p0 ++ p1) (pv := []) hW' ?_ ?_ ?_ (fun _ => rfl) rfl hb ?_⟩
  · intro b sp hd
    rw [hres]
    exact trodAll_mk1 (shut_bool hB true)
  · rw [hpar]
    exact hargs _ fun x hx => by
      have := hlt x (by simpa using hx)
      simpa using this
  · rw [hpar]
    exact hargs _ fun _ _ => rfl
  · exact ok_one hres rfl (okWide_bool_mk hB true)

theorem walFormats_holds : Rows.WalFormatsSaid :=
  OpenClaim.holds_of_wide Go.X.F.barquelaw15_WalFormats Go.X.Fn.barquelaw15_WalFormats rfl rfl rfl rfl rfl rfl rfl ⟨rfl, rfl, rfl, rfl, rfl⟩ rfl rfl rfl rfl rfl (by kernel_rfl) Go.X.Fu.barquelaw15_WalFormats (by kernel_rfl)
    (of_decide_eq_true (by kernel_rfl)) (by unfold Func.isWrapper; first | (rw [if_pos (by decide +kernel)]; kernel_rfl) | (rw [if_neg (by decide +kernel)]; exact ⟨rfl, rfl⟩))
    (fun os started H enc _ => walFormats_lifted os started H enc)

theorem walFormats_card : Rows.WalFormatsCardSaid :=
  Claim7.holds_tied_plain_at .later [] [.data, .pinned] true (true, "a7c20d71159dff4185672add2c7e2074c66006013b4263e1471fc85041c3bb3c") false
    walFormats_holds (fun _ h => by cases h) (by kernel_rfl) (fun _ h => by cases h) walFormats_row_tie rfl ⟨rfl, rfl⟩ (by kernel_rfl) rfl
    (fun f fn hf hfn => by
      obtain rfl : f = Go.X.F.barquelaw15_WalFormats := Option.some.inj ((show Tryz.prog.funcNamed "barque/barquelaw15.WalFormats" = some Go.X.F.barquelaw15_WalFormats by kernel_rfl).symm.trans hf) |>.symm
      obtain rfl : fn = Go.X.Fn.barquelaw15_WalFormats := (Option.some.inj (Go.X.Fu.barquelaw15_WalFormats.symm.trans hfn)).symm
      exact ⟨by kernel_rfl, fun j t ht => by
        have hall : (Go.X.Fn.barquelaw15_WalFormats.params.toList.all fun u => !Tryz.prog.wantsStandIn u) = true := by kernel_rfl
        have hm : t ∈ Go.X.Fn.barquelaw15_WalFormats.params.toList := by simpa using Array.mem_of_getElem? ht
        exact (show Tryz.prog.wantsStandIn t = false by simpa using List.all_eq_true.1 hall t hm)⟩)
    (by kernel_rfl)

#print axioms walFormats_card

end Go.Proofs.YtmbiffmfcloepaaGreatDoor
