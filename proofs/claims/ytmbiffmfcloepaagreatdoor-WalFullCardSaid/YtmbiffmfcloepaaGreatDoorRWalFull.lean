/- WalFull: the row. -/
import Derived.Test.YtmbiffmfcloepaaGreatDoorRows
import Derived.Test.YtmbiffmfcloepaaGreatDoorCards
import Derived.Test.YtmbiffmfcloepaaGreatDoorTie
import Derived.OpenShut
import Derived.SizedLaws
import Derived.LaidMore
import Derived.Lay
import Derived.SevenTiedAt
import Derived.Stop.Joined
import Derived.Test.YtmbiffmfcloepaaGreatDoorWFull
namespace Go.Proofs.YtmbiffmfcloepaaGreatDoor
open Go.ChangeShapes Go.WideShapes Go.ChangeAt Go.RowKit
open Go.ChangeMaps (open_string shut_string)

theorem Tryz.own : ownKnob Tryz.prog.godebug = none := by kernel_rfl
theorem Tryz.laidOut : laidOutB Tryz.prog = true := by kernel_rfl

set_option maxRecDepth 100000 in
theorem walFull_lifted (os : Os) (started : os.Started) (H : Type) (enc : TypeId × Value → H) :
    ReturnsInHanded {} Tryz.checked os Go.X.F.barquelaw15_WalFull .any (fun w args => (Rows.walFullSpec.pre enc Tryz.prog Go.X.Fn.barquelaw15_WalFull Rows.walFullRow.domain false w args ∧ laidMetH Tryz.prog Rows.walFullRow.laid w) ∧ sizedMet enc Tryz.prog Go.X.Fn.barquelaw15_WalFull (OpenSpec.ofChange Rows.walFullSpec) false w args) (Rows.walFullSpec.post enc Tryz.prog Go.X.Fn.barquelaw15_WalFull false true false false) := by
  refine returnsInHanded_of_change_and (C := Tryz.checked) (X := fun w _ => laidMetH Tryz.prog Rows.walFullRow.laid w) (fun _ _ _ hh h => h.of_heap hh) Tryz.own started (by kernel_rfl) Go.X.Fu.barquelaw15_WalFull
    (ChangeSpec.witness_shaped (enc := enc) (C := Tryz.checked) (os := os) (X := fun w _ => laidMetH Tryz.prog Rows.walFullRow.laid w) false (World.laidAll Tryz.prog os Rows.walFullRow.laid) #[.int .i64 0, .slice none 0 0, .string ByteArray.empty] 8 (World.laidAll_os _ _ _)
      (World.shaped_of_ZipB (by kernel_rfl) (by kernel_rfl)) (by kernel_rfl) (by kernel_rfl) (by kernel_rfl)
      (by rw [MakeChecks.laidMetH_plain _ _ _ (by kernel_rfl)]; exact laidMet_laidAll _ (by kernel_rfl) (by kernel_rfl))) ?_
  intro W base args ds gs before hval0 hW hcnd hz0 _ _
  have hW' := hW
  obtain ⟨p, q, hA0, hV, rfl, hfz, hnd⟩ := hW
  obtain ⟨t0, t1, e1, t2, hpar, f0_0, r0, l0, f1_0, f1_1, f1_2, r1, l1, f2_0, r2, l2⟩ : ∃ t0 t1 e1 t2 : TypeId, Go.X.Fn.barquelaw15_WalFull.params = #[t0, t1, t2] ∧ Tryz.prog.underlying t0 = some (.int .i64) ∧ Tryz.prog.readableRec t0 = true ∧ t0 < Tryz.prog.types.size ∧ Tryz.prog.underlying t1 = some (.slice e1) ∧ Tryz.prog.underlying e1 = some .string ∧ Tryz.prog.cellsOf e1 = 1 ∧ Tryz.prog.readableRec t1 = true ∧ t1 < Tryz.prog.types.size ∧ Tryz.prog.underlying t2 = some .string ∧ Tryz.prog.readableRec t2 = true ∧ t2 < Tryz.prog.types.size :=
    ⟨Go.X.Fn.barquelaw15_WalFull.params.getD 0 0, Go.X.Fn.barquelaw15_WalFull.params.getD 1 0, Go.X.elemOf Tryz.prog (Go.X.Fn.barquelaw15_WalFull.params.getD 1 0), Go.X.Fn.barquelaw15_WalFull.params.getD 2 0, by kernel_rfl, by kernel_rfl, by kernel_rfl, of_decide_eq_true (by kernel_rfl), by kernel_rfl, by kernel_rfl, by kernel_rfl, by kernel_rfl, of_decide_eq_true (by kernel_rfl), by kernel_rfl, by kernel_rfl, of_decide_eq_true (by kernel_rfl)⟩
  have hval : ∀ (j : Nat) t v, Go.X.Fn.barquelaw15_WalFull.params[j]? = some t → args[j]? = some v → Value.okWide Tryz.prog W .any base t v := hval0
  have hA : DataW.TrodAll enc Tryz.prog W 0 (fun _ => true) true Go.X.Fn.barquelaw15_WalFull.params.toList args.toList ds p := hA0
  rw [hpar] at hA hval
  obtain ⟨v0, v1, v2, d0, d1, d2, p0, p1, p2, rfl, rfl, rfl, h0, h1, h2⟩ := trodAll_three hA
  obtain ⟨rfl, rfl⟩ := trodVars_none hV
  obtain ⟨n0, rfl, _, _, w0⟩ := open_int f0_0 (hval 0 t0 v0 rfl rfl) h0
  obtain ⟨s1, x1, rfl, w1, a1⟩ := Go.X.open_strsA f1_0 f1_1 f1_2 (hval 1 t1 v1 rfl rfl) h1
  obtain ⟨s2, rfl, e2, _, w2⟩ := open_string f2_0 (hval 2 t2 v2 rfl rfl) h2
  have z2 : s2.size ≤ 2 ^ 60 := by
    rw [hpar] at hz0
    have hz := List.all_eq_true.1 hz0 _ (DataW.weights_mem_each (j := 2) (t := t2) (d := d2) rfl rfl s2.data.toList.length (by rw [e2]; exact List.mem_singleton.2 rfl))
    have hz := of_decide_eq_true hz
    have hr : reachBytes = 140737488351232 := rfl
    rw [Go.X.size_list]
    omega
  have hlt : ∀ x ∈ ((p0 ++ p1) ++ p2) ++ [], x.block < W.heap.size := fun x hx => hW'.lt x hx
  refine Calls.mono (Go.X.Full_law n0 a1 s2 z2 (Go.X.Sat.start W)) ?_
  rintro e W' ⟨v, rfl, rfl, hsat⟩
  have hb := hsat.below
  have hargs : ∀ sp : Nat → Bool, (∀ x ∈ (p0 ++ p1) ++ p2, sp x.block = true) → DataW.TrodAll enc Tryz.prog W' 0 sp true [t0, t1, t2] [.int .i64 n0, .slice s1.a s1.len s1.cap, .string s2] [d0, d1, d2] ((p0 ++ p1) ++ p2) := fun sp h =>
    by rw [List.append_assoc]; exact trodAll_mk3 (Go.X.stays Tryz.laidOut r0 l0 sp h0 hb (fun x hx => hlt x (by simp [hx])) fun x hx => h x (by simp [hx])) (Go.X.stays Tryz.laidOut r1 l1 sp h1 hb (fun x hx => hlt x (by simp [hx])) fun x hx => h x (by simp [hx])) (Go.X.stays Tryz.laidOut r2 l2 sp h2 hb (fun x hx => hlt x (by simp [hx])) fun x hx => h x (by simp [hx]))
  obtain ⟨tB, hres, hB⟩ : ∃ tB, Go.X.Fn.barquelaw15_WalFull.resultTypes = #[tB] ∧ Tryz.prog.underlying tB = some .bool := ⟨Go.X.Fn.barquelaw15_WalFull.resultTypes.getD 0 0, by kernel_rfl, by kernel_rfl⟩
  refine ⟨_, rfl, Go.X.post_of_below (pa := (p0 ++ p1) ++ p2) (pv := []) hW' ?_ ?_ ?_ (fun _ => rfl) rfl hb ?_⟩
  · intro b sp hd
    rw [hres]
    exact trodAll_mk1 (shut_bool hB true)
  · rw [hpar]
    exact hargs _ fun x hx => by
      have := hlt x (by simpa using hx)
      simpa using this
  · rw [hpar]
    exact hargs _ fun _ _ => rfl
  · exact ok_one hres rfl (okWide_bool_mk hB true)

theorem walFull_holds : Rows.WalFullSaid :=
  OpenClaim.holds_of_wide Go.X.F.barquelaw15_WalFull Go.X.Fn.barquelaw15_WalFull rfl rfl rfl rfl rfl rfl rfl ⟨rfl, rfl, rfl, rfl, rfl⟩ rfl rfl rfl rfl rfl (by kernel_rfl) Go.X.Fu.barquelaw15_WalFull (by kernel_rfl)
    (of_decide_eq_true (by kernel_rfl)) (by unfold Func.isWrapper; first | (rw [if_pos (by decide +kernel)]; kernel_rfl) | (rw [if_neg (by decide +kernel)]; exact ⟨rfl, rfl⟩))
    (fun os started H enc _ => walFull_lifted os started H enc)

theorem walFull_card : Rows.WalFullCardSaid :=
  Claim7.holds_tied_plain_at .later [] [.data, .pinned] true (true, "a7c20d71159dff4185672add2c7e2074c66006013b4263e1471fc85041c3bb3c") false
    walFull_holds (fun _ h => by cases h) (by kernel_rfl) (fun _ h => by cases h) walFull_row_tie rfl ⟨rfl, rfl⟩ (by kernel_rfl) rfl
    (fun f fn hf hfn => by
      obtain rfl : f = Go.X.F.barquelaw15_WalFull := Option.some.inj ((show Tryz.prog.funcNamed "barque/barquelaw15.WalFull" = some Go.X.F.barquelaw15_WalFull by kernel_rfl).symm.trans hf) |>.symm
      obtain rfl : fn = Go.X.Fn.barquelaw15_WalFull := (Option.some.inj (Go.X.Fu.barquelaw15_WalFull.symm.trans hfn)).symm
      exact ⟨by kernel_rfl, fun j t ht => by
        have hall : (Go.X.Fn.barquelaw15_WalFull.params.toList.all fun u => !Tryz.prog.wantsStandIn u) = true := by kernel_rfl
        have hm : t ∈ Go.X.Fn.barquelaw15_WalFull.params.toList := by simpa using Array.mem_of_getElem? ht
        exact (show Tryz.prog.wantsStandIn t = false by simpa using List.all_eq_true.1 hall t hm)⟩)
    (by kernel_rfl)

#print axioms walFull_card

end Go.Proofs.YtmbiffmfcloepaaGreatDoor
