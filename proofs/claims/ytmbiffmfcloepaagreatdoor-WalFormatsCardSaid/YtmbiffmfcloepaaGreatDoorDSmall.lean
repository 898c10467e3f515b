/- The device's small calls. -/
import Derived.Test.YtmbiffmfcloepaaGreatDoorDModel
import Derived.Test.YtmbiffmfcloepaaGreatDoorSAll
namespace Go.X
open Go.Proofs

section
variable {W w : World} {L : List SP} {d : Nat} {D : DD}

theorem ready_spec (hs : Sat W w (DiskP d D :: L)) : Ret Tryz.prog F.disk_Disk_ready [ptr d] w fun v w' => v = .int .i64 (if D.off then 14 else 0) ∧ Quiet w w' := by
  refine S.disk_Disk_ready_ok _ _ _ ?_
  refine XIf.no rfl (xnil ?_)
  obtain ⟨l, fs, ws, hl, h⟩ := DiskP.open hs
  refine xload h 4 rfl rfl ?_
  cases hoff : D.off
  · exact XIf.no rfl ⟨rfl, Quiet.refl w⟩
  · exact XIf.yes rfl ⟨rfl, Quiet.refl w⟩

theorem ready_none : Ret Tryz.prog F.disk_Disk_ready [.pointer none] w fun v w' => v = .int .i64 1 ∧ w' = w := by
  refine S.disk_Disk_ready_ok _ _ _ ?_
  exact XIf.yes rfl ⟨rfl, rfl⟩

theorem sectors_spec (n : Nat) (hn : n ≤ 2 ^ 60) : Ret Tryz.prog F.disk_sectors [.int .i64 n] w fun v w' => v = .int .i64 (secs n) ∧ w' = w := by
  refine S.disk_sectors_ok _ _ _ ?_
  refine ⟨by decide, ?_, rfl⟩
  have h1 : IntKind.wrap .i64 ((n : Int) + 64) = n + 64 := wi (by omega) (by omega)
  have h2 : IntKind.wrap .i64 ((n : Int) + 64 - 1) = n + 63 := by rw [wi (by omega) (by omega)]; omega
  have h3 : ((n : Int) + 63).tdiv 64 = ((n : Int) + 63) / 64 := Int.tdiv_eq_ediv_of_nonneg (by omega)
  rw [h1, h2, h3, wi (by omega) (by omega)]
  unfold secs
  congr 1

theorem New_no (n : Int) (h : n < 0 ∨ 32768 < n) : Ret Tryz.prog F.disk_New [.int .i64 n] w fun v w' => v = .tuple ⟨[.pointer none, .int .i64 1]⟩ ∧ w' = w := by
  refine S.disk_New_ok _ _ _ ?_
  refine xjoin0 ?_
  by_cases h0 : n < 0
  · exact XIf.yes (by simpa using h0) (XIf.yes rfl ⟨rfl, rfl⟩)
  · exact XIf.no (by simpa using h0) (XIf.yes (by simp; omega) ⟨rfl, rfl⟩)

def DD.empty (n : Int) : DD := { files := [], wait := [], most := n, fuse := -1, off := false, count := 0, made := 0 }

theorem New_yes (n : Int) (h0 : 0 ≤ n) (h1 : n ≤ 32768) (hs : Sat W w L) : Ret Tryz.prog F.disk_New [.int .i64 n] w fun v w' => ∃ d, v = .tuple ⟨[ptr d, .int .i64 0]⟩ ∧ Sat W w' (DiskP d (DD.empty n) :: L) := by
  refine S.disk_New_ok _ _ _ ?_
  refine xjoin0 ?_
  refine XIf.no (by simp; omega) (XIf.no (by simp; omega) (xnew hs fun b w' hw => ⟨b, rfl, ?_⟩))
  refine DiskP.shut (l := []) (fs := ⟨none, 0, 0⟩) (ws := ⟨none, 0, 0⟩) rfl ?_
  have h2 : Sat W w' (FilesP [] :: own 4 ⟨none, 0, 0⟩ [] :: pts b _ :: L) := Sat.shut_all (As := []) hw.own_nil
  exact (h2.own_nil.bring 3)


end
end Go.X
