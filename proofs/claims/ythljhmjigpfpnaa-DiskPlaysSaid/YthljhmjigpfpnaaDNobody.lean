/- What no device answers. -/
import Derived.Test.YthljhmjigpfpnaaDAwake
namespace Go.X
open Go.Proofs

section
variable {W w : World} {L : List SP}

theorem ready_or (K : Int → World → Prop) (h : K 1 w) : XCall Try.prog F.disk_Disk_ready [.pointer none] (.leaf (.int .i64)) w K := by
  refine xcall ready_none ?_
  rintro v w' ⟨rfl, rfl⟩
  exact ⟨1, rfl, h⟩

theorem List_none : Ret Try.prog F.disk_Disk_List [.pointer none] w fun v w' => v = .tuple ⟨[.slice none 0 0, .int .i64 1]⟩ ∧ w' = w :=
  S.disk_Disk_List_ok none _ _ (ready_or _ (XIf.yes rfl ⟨rfl, rfl⟩))
theorem Size_none (n : ByteArray) : Ret Try.prog F.disk_Disk_Size [.pointer none, .string n] w fun v w' => v = .tuple ⟨[.int .i64 0, .int .i64 1]⟩ ∧ w' = w :=
  S.disk_Disk_Size_ok none _ _ _ (ready_or _ (XIf.yes rfl ⟨rfl, rfl⟩))
theorem Read_none (n : ByteArray) (a b : Int) : Ret Try.prog F.disk_Disk_Read [.pointer none, .string n, .int .i64 a, .int .i64 b] w fun v w' => v = .tuple ⟨[.string ByteArray.empty, .int .i64 1]⟩ ∧ w' = w :=
  S.disk_Disk_Read_ok none _ _ _ _ _ (ready_or _ (XIf.yes rfl ⟨rfl, rfl⟩))
theorem Create_none (n : ByteArray) : Ret Try.prog F.disk_Disk_Create [.pointer none, .string n] w fun v w' => v = .int .i64 1 ∧ w' = w :=
  S.disk_Disk_Create_ok none _ _ _ (ready_or _ (XIf.yes rfl ⟨rfl, rfl⟩))
theorem Remove_none (n : ByteArray) : Ret Try.prog F.disk_Disk_Remove [.pointer none, .string n] w fun v w' => v = .int .i64 1 ∧ w' = w :=
  S.disk_Disk_Remove_ok none _ _ _ (ready_or _ (XIf.yes rfl ⟨rfl, rfl⟩))
theorem Rename_none (n m : ByteArray) : Ret Try.prog F.disk_Disk_Rename [.pointer none, .string n, .string m] w fun v w' => v = .int .i64 1 ∧ w' = w :=
  S.disk_Disk_Rename_ok none _ _ _ _ (ready_or _ (XIf.yes rfl ⟨rfl, rfl⟩))
theorem Write_none (n t : ByteArray) (a : Int) : Ret Try.prog F.disk_Disk_Write [.pointer none, .string n, .int .i64 a, .string t] w fun v w' => v = .int .i64 1 ∧ w' = w :=
  S.disk_Disk_Write_ok none _ _ _ _ _ (ready_or _ (XIf.yes rfl ⟨rfl, rfl⟩))
theorem Append_none (n t : ByteArray) : Ret Try.prog F.disk_Disk_Append [.pointer none, .string n, .string t] w fun v w' => v = .int .i64 1 ∧ w' = w := by
  refine S.disk_Disk_Append_ok none _ _ _ _ (xcalls (Size_none n) ?_)
  rintro v w' ⟨rfl, rfl⟩
  exact ⟨((0 : Int), (1 : Int), ()), rfl, XIf.yes rfl ⟨rfl, rfl⟩⟩
theorem Sync_none : Ret Try.prog F.disk_Disk_Sync [.pointer none] w fun v w' => v = .int .i64 1 ∧ w' = w :=
  S.disk_Disk_Sync_ok none _ _ (ready_or _ (XIf.yes rfl ⟨rfl, rfl⟩))
theorem Arm_none (n : Int) : Ret Try.prog F.disk_Disk_Arm [.pointer none, .int .i64 n] w fun v w' => v = .int .i64 1 ∧ w' = w :=
  S.disk_Disk_Arm_ok none _ _ _ (ready_or _ (XIf.yes rfl ⟨rfl, rfl⟩))
theorem Spoil_none (n : ByteArray) (a b : Int) : Ret Try.prog F.disk_Disk_Spoil [.pointer none, .string n, .int .i64 a, .int .i64 b] w fun v w' => v = .int .i64 1 ∧ w' = w :=
  S.disk_Disk_Spoil_ok none _ _ _ _ _ (XIf.yes rfl ⟨rfl, rfl⟩)
theorem Free_none : Ret Try.prog F.disk_Disk_Free [.pointer none] w fun v w' => v = .int .i64 0 ∧ w' = w :=
  S.disk_Disk_Free_ok none _ _ (XIf.yes rfl ⟨rfl, rfl⟩)
theorem Waiting_none : Ret Try.prog F.disk_Disk_Waiting [.pointer none] w fun v w' => v = .int .i64 0 ∧ w' = w :=
  S.disk_Disk_Waiting_ok none _ _ (XIf.yes rfl ⟨rfl, rfl⟩)
theorem Writes_none : Ret Try.prog F.disk_Disk_Writes [.pointer none] w fun v w' => v = .int .i64 0 ∧ w' = w :=
  S.disk_Disk_Writes_ok none _ _ (XIf.yes rfl ⟨rfl, rfl⟩)
theorem Up_none : Ret Try.prog F.disk_Disk_Up [.pointer none] w fun v w' => v = .bool false ∧ w' = w :=
  S.disk_Disk_Up_ok none _ _ (xjoin0 (XIf.no rfl ⟨rfl, rfl⟩))
theorem Copy_none : Ret Try.prog F.disk_Disk_Copy [.pointer none] w fun v w' => v = .pointer none ∧ w' = w :=
  S.disk_Disk_Copy_ok none _ _ (XIf.yes rfl ⟨rfl, rfl⟩)

/-- A call whose answer is known and that leaves the world. -/
theorem xcall_eq {f : FuncId} {args : List Value} {t : Ty} {u : Value} {K : t.T → World → Prop} (h : Ret Try.prog f args w fun v w' => v = u ∧ w' = w) (x : t.T) (hx : u = t.mk x) (hk : K x w) : XCall Try.prog f args t w K :=
  xcall h fun v w' ⟨e1, e2⟩ => ⟨x, e1.trans hx, by rw [e2]; exact hk⟩

theorem xcalls_eq {f : FuncId} {args : List Value} {ts : List Ty} {u : Value} {K : HT ts → World → Prop} (h : Ret Try.prog f args w fun v w' => v = u ∧ w' = w) (x : HT ts) (hx : u = .tuple ⟨HT.vals ts x⟩) (hk : K x w) : XCalls Try.prog f args ts w K :=
  xcalls h fun v w' ⟨e1, e2⟩ => ⟨x, e1.trans hx, by rw [e2]; exact hk⟩

theorem Nobody_law (name : ByteArray) (n : Int) (hs : Sat W w L) : Ret Try.prog F.barquelaw14_DiskNobody [.string name, .int .i64 n] w fun v w' => v = .bool true ∧ Sat W w' L := by
  refine S.barquelaw14_DiskNobody_ok _ _ _ _ ?_
  refine xcalls_eq List_none (⟨none, 0, 0⟩, (1 : Int), ()) rfl (xcalls_eq (Size_none _) ((0 : Int), (1 : Int), ()) rfl (xcalls_eq (Read_none _ _ _) (ByteArray.empty, (1 : Int), ()) rfl (xnew hs fun b w1 h1 => ?_)))
  refine xcalls_eq (Crash_nil (s := ⟨some ⟨b, 0, none⟩, 1, 1⟩) h1) () rfl (xjoin0 ?_)
  refine xcall_eq (Create_none _) (1 : Int) rfl (XIf.yes rfl (xcall_eq (Remove_none _) (1 : Int) rfl (XIf.yes rfl (xcall_eq (Rename_none _ _) (1 : Int) rfl (XIf.yes rfl (XIf.yes rfl (XIf.yes rfl (XIf.yes rfl ?_))))))))
  refine xcall_eq (Write_none _ _ _) (1 : Int) rfl (XIf.yes rfl (xcall_eq (Append_none _ _) (1 : Int) rfl (XIf.yes rfl (xcall_eq Sync_none (1 : Int) rfl (XIf.yes rfl (xcall_eq (Arm_none _) (1 : Int) rfl (XIf.yes rfl (xcall_eq (Spoil_none _ _ _) (1 : Int) rfl (XIf.yes rfl ?_)))))))))
  refine xcall_eq Free_none (0 : Int) rfl (xcall_eq Waiting_none (0 : Int) rfl (xlet (0 : Int) (by decide) (xcall_eq Writes_none (0 : Int) rfl (xlet (0 : Int) (by decide) (XIf.yes rfl (xcall_eq Up_none false rfl (XIf.yes rfl (xcall_eq Copy_none none rfl (XIf.yes rfl ?_)))))))))
  refine xcall (awake_spec h1.drop) ?_
  rintro v w2 ⟨rfl, h2⟩
  exact ⟨true, rfl, rfl, h2⟩

end
end Go.X
