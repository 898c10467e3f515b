/- WalSpoilt: the row. -/
import Derived.Test.YtmbiffmfcloepaaGreatDoorRows
import Derived.Test.YtmbiffmfcloepaaGreatDoorCards
import Derived.Test.YtmbiffmfcloepaaGreatDoorTie
import Derived.OpenShut
import Derived.LaidMore
import Derived.Lay
import Derived.SevenTiedAt
import Derived.Stop.Joined
import Derived.Test.YtmbiffmfcloepaaGreatDoorWSpoilt
namespace Go.Proofs.YtmbiffmfcloepaaGreatDoor
open Go.ChangeShapes Go.WideShapes Go.ChangeAt Go.RowKit
open Go.ChangeMaps (open_string shut_string)

theorem Tryz.own : ownKnob Tryz.prog.godebug = none := by kernel_rfl
theorem Tryz.laidOut : laidOutB Tryz.prog = true := by kernel_rfl

set_option maxRecDepth 100000 in
theorem walSpoilt_lifted (os : Os) (started : os.Started) (H : Type) (enc : TypeId × Value → H) :
    ReturnsInHanded {} Tryz.checked os Go.X.F.barquelaw15_WalSpoilt .any (fun w args => (Rows.walSpoiltSpec.pre enc Tryz.prog Go.X.Fn.barquelaw15_WalSpoilt Rows.walSpoiltRow.domain false w args ∧ laidMetH Tryz.prog Rows.walSpoiltRow.laid w) ∧ sizedMet enc Tryz.prog Go.X.Fn.barquelaw15_WalSpoilt (OpenSpec.ofChange Rows.walSpoiltSpec) false w args) (Rows.walSpoiltSpec.post enc Tryz.prog Go.X.Fn.barquelaw15_WalSpoilt false true false false) := by
  refine returnsInHanded_of_change_and (C := Tryz.checked) (X := fun w _ => laidMetH Tryz.prog Rows.walSpoiltRow.laid w) (fun _ _ _ hh h => h.of_heap hh) Tryz.own started (by kernel_rfl) Go.X.Fu.barquelaw15_WalSpoilt
    (ChangeSpec.witness_shaped (enc := enc) (C := Tryz.checked) (os := os) (X := fun w _ => laidMetH Tryz.prog Rows.walSpoiltRow.laid w) false (World.laidAll Tryz.prog os Rows.walSpoiltRow.laid) #[.slice none 0 0, .int .i64 0, .int .i64 0] 8 (World.laidAll_os _ _ _)
      (World.shaped_of_ZipB (by kernel_rfl) (by kernel_rfl)) (by kernel_rfl) (by kernel_rfl) (by kernel_rfl)
      (by rw [MakeChecks.laidMetH_plain _ _ _ (by kernel_rfl)]; exact laidMet_laidAll _ (by kernel_rfl) (by kernel_rfl))) ?_
  intro W base args ds gs before hval0 hW hcnd _ _ _
  have hW' := hW
  obtain ⟨p, q, hA0, hV, rfl, hfz, hnd⟩ := hW
  obtain ⟨t0, e0, t1, t2, hpar, f0_0, f0_1, f0_2, r0, l0, f1_0, r1, l1, f2_0, r2, l2⟩ : ∃ t0 e0 t1 t2 : TypeId, Go.X.Fn.barquelaw15_WalSpoilt.params = #[t0, t1, t2] ∧ Tryz.prog.underlying t0 = some (.slice e0) ∧ Tryz.prog.underlying e0 = some .string ∧ Tryz.prog.cellsOf e0 = 1 ∧ Tryz.prog.readableRec t0 = true ∧ t0 < Tryz.prog.types.size ∧ Tryz.prog.underlying t1 = some (.int .i64) ∧ Tryz.prog.readableRec t1 = true ∧ t1 < Tryz.prog.types.size ∧ Tryz.prog.underlying t2 = some (.int .i64) ∧ Tryz.prog.readableRec t2 = true ∧ t2 < Tryz.prog.types.size :=
    ⟨Go.X.Fn.barquelaw15_WalSpoilt.params.getD 0 0, Go.X.elemOf Tryz.prog (Go.X.Fn.barquelaw15_WalSpoilt.params.getD 0 0), Go.X.Fn.barquelaw15_WalSpoilt.params.getD 1 0, Go.X.Fn.barquelaw15_WalSpoilt.params.getD 2 0, by kernel_rfl, by kernel_rfl, by kernel_rfl, by kernel_rfl, by kernel_rfl, of_decide_eq_true (by kernel_rfl), by kernel_rfl, by kernel_rfl, of_decide_eq_true (by kernel_rfl), by kernel_rfl, by kernel_rfl, of_decide_eq_true (by kernel_rfl)⟩
  have hval : ∀ (j : Nat) t v, Go.X.Fn.barquelaw15_WalSpoilt.params[j]? = some t → args[j]? = some v → Value.okWide Tryz.prog W .any base t v := hval0
  have hA : DataW.TrodAll enc Tryz.prog W 0 (fun _ => true) true Go.X.Fn.barquelaw15_WalSpoilt.params.toList args.toList ds p := hA0
  rw [hpar] at hA hval
  obtain ⟨v0, v1, v2, d0, d1, d2, p0, p1, p2, rfl, rfl, rfl, h0, h1, h2⟩ := trodAll_three hA
  obtain ⟨rfl, rfl⟩ := trodVars_none hV
  obtain ⟨s0, x0, rfl, w0, a0⟩ := Go.X.open_strsA f0_0 f0_1 f0_2 (hval 0 t0 v0 rfl rfl) h0
  obtain ⟨n1, rfl, _, _, w1⟩ := open_int f1_0 (hval 1 t1 v1 rfl rfl) h1
  obtain ⟨n2, rfl, _, _, w2⟩ := open_int f2_0 (hval 2 t2 v2 rfl rfl) h2
  have hlt : ∀ x ∈ ((p0 ++ p1) ++ p2) ++ [], x.block < W.heap.size := fun x hx => hW'.lt x hx
  refine Calls.mono (Go.X.Spoilt_law a0 n1 n2 (Go.X.Sat.start W)) ?_
  rintro e W' ⟨v, rfl, rfl, hsat⟩
  have hb := hsat.below
  have hargs : ∀ sp : Nat → Bool, (∀ x ∈ (p0 ++ p1) ++ p2, sp x.block = true) → DataW.TrodAll enc Tryz.prog W' 0 sp true [t0, t1, t2] [.slice s0.a s0.len s0.cap, .int .i64 n1, .int .i64 n2] [d0, d1, d2] ((p0 ++ p1) ++ p2) := fun sp h =>
    by rw [List.append_assoc]; exact trodAll_mk3 (Go.X.stays Tryz.laidOut r0 l0 sp h0 hb (fun x hx => hlt x (by simp [hx])) fun x hx => h x (by simp [hx])) (Go.X.stays Tryz.laidOut r1 l1 sp h1 hb (fun x hx => hlt x (by simp [hx])) fun x hx => h x (by simp [hx])) (Go.X.stays Tryz.laidOut r2 l2 sp h2 hb (fun x hx => hlt x (by simp [hx])) fun x hx => h x (by simp [hx]))
  obtain ⟨tB, hres, hB⟩ : ∃ tB, Go.X.Fn.barquelaw15_WalSpoilt.resultTypes = #[tB] ∧ Tryz.prog.underlying tB = some .bool := ⟨Go.X.Fn.barquelaw15_WalSpoilt.resultTypes.getD 0 0, by kernel_rfl, by kernel_rfl⟩
  refine ⟨_, rfl, Go.X.post_of_below (pa := (p0 ++ p1) ++ p2) (pv := []) hW' ?_ ?_ ?_ (fun _ => rfl) rfl hb ?_⟩
  · intro b sp hd
    rw [hres]
    exact trodAll_mk1 (shut_bool hB true)
  · rw [hpar]
    exact hargs _ fun x hx => by
      have := hlt x (by simpa using hx)
      simpa using this
  · rw [hpar]
    exact hargs _ fun _ _ => rfl
  · exact ok_one hres rfl (okWide_bool_mk hB true)

theorem walSpoilt_holds : Rows.WalSpoiltSaid :=
  OpenClaim.holds_of_wide Go.X.F.barquelaw15_WalSpoilt Go.X.Fn.barquelaw15_WalSpoilt rfl rfl rfl rfl rfl rfl rfl ⟨rfl, rfl, rfl, rfl, rfl⟩ rfl rfl rfl rfl rfl (by kernel_rfl) Go.X.Fu.barquelaw15_WalSpoilt (by kernel_rfl)
    (of_decide_eq_true (by kernel_rfl)) (by unfold Func.isWrapper; first | (rw [if_pos (by decide +kernel)]; kernel_rfl) | (rw [if_neg (by decide +kernel)]; exact ⟨rfl, rfl⟩))
    (fun os started H enc _ => walSpoilt_lifted os started H enc)

theorem walSpoilt_card : Rows.WalSpoiltCardSaid :=
  Claim7.holds_tied_plain_at .later [] [.data, .pinned] true (true, "a7c20d71159dff4185672add2c7e2074c66006013b4263e1471fc85041c3bb3c") false
    walSpoilt_holds (fun _ h => by cases h) (by kernel_rfl) (fun _ h => by cases h) walSpoilt_row_tie rfl ⟨rfl, rfl⟩ (by kernel_rfl) rfl
    (fun f fn hf hfn => by
      obtain rfl : f = Go.X.F.barquelaw15_WalSpoilt := Option.some.inj ((show Tryz.prog.funcNamed "barque/barquelaw15.WalSpoilt" = some Go.X.F.barquelaw15_WalSpoilt by kernel_rfl).symm.trans hf) |>.symm
      obtain rfl : fn = Go.X.Fn.barquelaw15_WalSpoilt := (Option.some.inj (Go.X.Fu.barquelaw15_WalSpoilt.symm.trans hfn)).symm
      exact ⟨by kernel_rfl, fun j t ht => by
        have hall : (Go.X.Fn.barquelaw15_WalSpoilt.params.toList.all fun u => !Tryz.prog.wantsStandIn u) = true := by kernel_rfl
        have hm : t ∈ Go.X.Fn.barquelaw15_WalSpoilt.params.toList := by simpa using Array.mem_of_getElem? ht
        exact (show Tryz.prog.wantsStandIn t = false by simpa using List.all_eq_true.1 hall t hm)⟩)
    (by kernel_rfl)

#print axioms walSpoilt_card

end Go.Proofs.YtmbiffmfcloepaaGreatDoor
