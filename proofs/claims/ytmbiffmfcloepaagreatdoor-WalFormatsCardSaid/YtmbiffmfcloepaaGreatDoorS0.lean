/- What is to be shown for each function, and the row that ties it to the function's code. -/
import Derived.Test.YtmbiffmfcloepaaGreatDoorSIds
set_option linter.unusedVariables false
namespace Go.X
open Go.Proofs

set_option maxRecDepth 100000 in
set_option maxHeartbeats 8000000 in
/-- 2 gosem.cut.init -/
def S.gosem_cut_init (K : Value → World → Prop) (w0 : World) : Prop :=
  XDos Tryz.prog (extRun Tryz.prog F.gosem_cut ⟨[]⟩) [] w0 fun (x1 : (Unit)) w2 => K (.tuple ⟨[]⟩) w2

set_option maxHeartbeats 8000000 in
set_option maxRecDepth 100000 in
theorem S.gosem_cut_init_ok (K : Value → World → Prop) (w0 : World) (h : S.gosem_cut_init   K w0) :
    Calls Tryz.prog F.gosem_cut_init ⟨[]⟩ w0 fun e w' => ∃ v, e = .returned v ∧ K v w' :=
  calls_x (P := Tryz.prog) [] (by kernel_rfl) Tryz.func2 (by kernel_rfl) (Eq.mp (by kernel_rfl : S.gosem_cut_init   K w0 = xfn Tryz.prog [] Tryz.f2 [] K w0) h)

set_option maxRecDepth 100000 in
set_option maxHeartbeats 8000000 in
/-- 3 barque/barquelaw15.WalSpoilt -/
def S.barquelaw15_WalSpoilt (p0_l : Sl) (p1_at : Int) (p2_by : Int) (K : Value → World → Prop) (w0 : World) : Prop :=
  XCall Tryz.prog F.barquelaw15_laid [.int .i64 300] (.leaf .ptr) w0 fun (x1 : Option Addr) w2 => XIf (Option.isNone x1) (K (.bool false) w2) (XLoop (α := (Int × Unit)) (fun next5 s3 w4 => XJoin (α := (Bool × Unit)) (fun s6 w7 => XIf s6.1 (XJoin (α := (Unit)) (fun s9 w10 => XLet (((IntKind.wrap .i64 (s3.1 + 1))) : Int) fun n12 => next5 (n12, ()) w10) (fun J11 => XNil x1 fun a13 => XLoad .ptr (Addr.add a13 2) (World.drew w7) fun (x14 : Option Addr) => XNil p0_l.a fun a15 => ((0 : Int) ≤ s3.1 ∧ s3.1 < ((p0_l.len : Nat) : Int)) ∧ (XLoad .str (Addr.add a15 ((Int.toNat s3.1) * 1)) (World.drew w7) fun (x16 : ByteArray) => XCall Tryz.prog F.barquelaw15_cut [.string x16] (.leaf .str) (World.drew w7) fun (x17 : ByteArray) w18 => (World.cell? w18 (Addr.add a13 2) = some (Leaf.mk .ptr x14)) ∧ (XCall Tryz.prog F.wal_Log_Append [.pointer x14, .string x17] (.leaf (.int .i64)) w18 fun (x19 : Int) w20 => XIf ((x19 : Int) == 0) (XNil x1 fun a21 => XLoad .slice (Addr.add a21 3) (World.drew w20) fun (x22 : Sl) => XNil p0_l.a fun a23 => ((0 : Int) ≤ s3.1 ∧ s3.1 < ((p0_l.len : Nat) : Int)) ∧ (XLoad .str (Addr.add a23 ((Int.toNat s3.1) * 1)) (World.drew w20) fun (x24 : ByteArray) => XCall Tryz.prog F.barquelaw15_cut [.string x24] (.leaf .str) (World.drew w20) fun (x25 : ByteArray) w26 => (World.cell? w26 (Addr.add a21 3) = some (Leaf.mk .slice x22)) ∧ (XNew 9 [.string x25] w26 fun a27 w28 => (World.cell? w28 (Addr.add a21 3) = some (Leaf.mk .slice x22)) ∧ (XDo Tryz.prog (Builtin.append_ #[22, 22] 22 ⟨[.slice x22.a x22.len x22.cap, .slice (some a27) 1 1]⟩) (.leaf .slice) w28 fun (x29 : Sl) w30 => XNil x1 fun a31 => XStore (Addr.add a31 3) (.slice x29.a x29.len x29.cap) w30 fun w32 => J11 () w32)))) (J11 () w20))))) (XNil x1 fun a33 => XLoad .ptr (Addr.add a33 2) w7 fun (x34 : Option Addr) => XCall Tryz.prog F.wal_Log_Sync [.pointer x34] (.leaf (.int .i64)) w7 fun (x35 : Int) w36 => XNil x1 fun a37 => XLoad .ptr a37 w36 fun (x38 : Option Addr) => XCall Tryz.prog F.disk_Disk_Spoil [.pointer x38, .string ⟨#[115, 101, 103, 45, 48, 48, 48, 48, 48, 48, 48, 49]⟩, .int .i64 p1_at, .int .i64 p2_by] (.leaf (.int .i64)) w36 fun (x39 : Int) w40 => XNil x1 fun a41 => XLoad .ptr a41 (World.drew w40) fun (x42 : Option Addr) => XNil x1 fun a43 => XLoad .ptr (Addr.add a43 1) (World.drew w40) fun (x44 : Option Addr) => XCalls Tryz.prog F.wal_Open [.pointer x42, .pointer x44] [.leaf .ptr, .leaf .slice, .leaf (.int .i64)] (World.drew w40) fun (x45 : (Option Addr × Sl × Int × Unit)) w46 => XIf ((x45.2.2.1 : Int) != 0) (XJoin (α := (Bool × Unit)) (fun s47 w48 => K (.bool s47.1) w48) (fun J49 => XIf ((x45.2.2.1 : Int) == 8) (XIf ((((x45.2.1.len : Nat) : Int) : Int) == 0) (XCall Tryz.prog F.barquelaw15_awake [] (.leaf .bool) w46 fun (x50 : Bool) w51 => J49 (x50, ()) w51) (J49 (false, ()) w46)) (J49 (false, ()) w46))) (XJoin (α := (Bool × Unit)) (fun s52 w53 => K (.bool s52.1) w53) (fun J54 => XNil x1 fun a55 => XLoad .slice (Addr.add a55 3) w46 fun (x56 : Sl) => XCall Tryz.prog F.barquelaw15_begins [.slice x45.2.1.a x45.2.1.len x45.2.1.cap, .slice x56.a x56.len x56.cap, .int .i64 0] (.leaf .bool) w46 fun (x57 : Bool) w58 => XIf x57 (XCall Tryz.prog F.barquelaw15_awake [] (.leaf .bool) w58 fun (x59 : Bool) w60 => J54 (x59, ()) w60) (J54 (false, ()) w58))))) (fun J8 => XIf (decide ((s3.1 : Int) < ((p0_l.len : Nat) : Int))) (J8 ((decide ((s3.1 : Int) < 20)), ()) w4) (J8 (false, ()) w4))) (0, ()) w2)

set_option maxHeartbeats 8000000 in
set_option maxRecDepth 100000 in
theorem S.barquelaw15_WalSpoilt_ok (p0_l : Sl) (p1_at : Int) (p2_by : Int) (K : Value → World → Prop) (w0 : World) (h : S.barquelaw15_WalSpoilt p0_l p1_at p2_by  K w0) :
    Calls Tryz.prog F.barquelaw15_WalSpoilt ⟨[.slice p0_l.a p0_l.len p0_l.cap, .int .i64 p1_at, .int .i64 p2_by]⟩ w0 fun e w' => ∃ v, e = .returned v ∧ K v w' :=
  calls_x (P := Tryz.prog) [0, 1, 2, 6, 7, 8, 10, 11, 14, 22, 35, 76] (by kernel_rfl) Tryz.func3 (by kernel_rfl) (Eq.mp (by kernel_rfl : S.barquelaw15_WalSpoilt p0_l p1_at p2_by  K w0 = xfn Tryz.prog [0, 1, 2, 6, 7, 8, 10, 11, 14, 22, 35, 76] Tryz.f3 [.slice p0_l.a p0_l.len p0_l.cap, .int .i64 p1_at, .int .i64 p2_by] K w0) h)

set_option maxRecDepth 100000 in
set_option maxHeartbeats 8000000 in
/-- 4 barque/barquelaw15.WalTurns -/
def S.barquelaw15_WalTurns (p0_a : Sl) (p1_snap : Sl) (p2_c : Sl) (K : Value → World → Prop) (w0 : World) : Prop :=
  XCall Tryz.prog F.barquelaw15_laid [.int .i64 300] (.leaf .ptr) w0 fun (x1 : Option Addr) w2 => XIf (Option.isNone x1) (K (.bool false) w2) (XCall Tryz.prog F.barquelaw15_few [.slice p0_a.a p0_a.len p0_a.cap] (.leaf .slice) w2 fun (x3 : Sl) w4 => XCall Tryz.prog F.barquelaw15_few [.slice p1_snap.a p1_snap.len p1_snap.cap] (.leaf .slice) w4 fun (x5 : Sl) w6 => XCall Tryz.prog F.barquelaw15_few [.slice p2_c.a p2_c.len p2_c.cap] (.leaf .slice) w6 fun (x7 : Sl) w8 => XLoop (α := (Int × Unit)) (fun next11 s9 w10 => XIf (decide ((s9.1 : Int) < ((x3.len : Nat) : Int))) (XNil x1 fun a12 => XLoad .ptr (Addr.add a12 2) (World.drew w10) fun (x13 : Option Addr) => XNil x3.a fun a14 => ((0 : Int) ≤ s9.1 ∧ s9.1 < ((x3.len : Nat) : Int)) ∧ (XLoad .str (Addr.add a14 ((Int.toNat s9.1) * 1)) (World.drew w10) fun (x15 : ByteArray) => XCall Tryz.prog F.wal_Log_Append [.pointer x13, .string x15] (.leaf (.int .i64)) (World.drew w10) fun (x16 : Int) w17 => XLet (((IntKind.wrap .i64 (s9.1 + 1))) : Int) fun n18 => next11 (n18, ()) w17)) (XNil x1 fun a19 => XLoad .ptr (Addr.add a19 2) w10 fun (x20 : Option Addr) => XCall Tryz.prog F.wal_Log_Turn [.pointer x20, .slice x5.a x5.len x5.cap] (.leaf (.int .i64)) w10 fun (x21 : Int) w22 => XIf ((x21 : Int) != 0) (K (.bool false) w22) (XLoop (α := (Bool × Int × Unit)) (fun next25 s23 w24 => XIf (decide ((s23.2.1 : Int) < ((x7.len : Nat) : Int))) (XNil x1 fun a26 => XLoad .ptr (Addr.add a26 2) (World.drew w24) fun (x27 : Option Addr) => XNil x7.a fun a28 => ((0 : Int) ≤ s23.2.1 ∧ s23.2.1 < ((x7.len : Nat) : Int)) ∧ (XLoad .str (Addr.add a28 ((Int.toNat s23.2.1) * 1)) (World.drew w24) fun (x29 : ByteArray) => XCall Tryz.prog F.wal_Log_Append [.pointer x27, .string x29] (.leaf (.int .i64)) (World.drew w24) fun (x30 : Int) w31 => XIf ((x30 : Int) != 0) (K (.bool false) w31) (XLet (((IntKind.wrap .i64 (s23.2.1 + 1))) : Int) fun n32 => next25 (s23.1, (n32, ())) w31))) (XNil x1 fun a33 => XLoad .ptr (Addr.add a33 2) w24 fun (x34 : Option Addr) => XCall Tryz.prog F.wal_Log_Sync [.pointer x34] (.leaf (.int .i64)) w24 fun (x35 : Int) w36 => XNil x1 fun a37 => XLoad .ptr a37 w36 fun (x38 : Option Addr) => XCalls Tryz.prog F.disk_Disk_Crash [.pointer x38, .slice none 0 0] [] w36 fun x39 w40 => XNil x1 fun a41 => XLoad .ptr a41 (World.drew w40) fun (x42 : Option Addr) => XNil x1 fun a43 => XLoad .ptr (Addr.add a43 1) (World.drew w40) fun (x44 : Option Addr) => XCalls Tryz.prog F.wal_Open [.pointer x42, .pointer x44] [.leaf .ptr, .leaf .slice, .leaf (.int .i64)] (World.drew w40) fun (x45 : (Option Addr × Sl × Int × Unit)) w46 => XNil x1 fun a47 => XLoad .ptr a47 w46 fun (x48 : Option Addr) => XCalls Tryz.prog F.disk_Disk_List [.pointer x48] [.leaf .slice, .leaf (.int .i64)] w46 fun (x49 : (Sl × Int × Unit)) w50 => XJoin (α := (Bool × Unit)) (fun s51 w52 => K (.bool s51.1) w52) (fun J53 => XIf ((x45.2.2.1 : Int) == 0) (XNew 9 [] (World.drew w50) fun a54 w55 => XDo Tryz.prog (Builtin.append_ #[22, 22] 22 ⟨[.slice (some a54) 0 0, .slice x5.a x5.len x5.cap]⟩) (.leaf .slice) w55 fun (x56 : Sl) w57 => XDo Tryz.prog (Builtin.append_ #[22, 22] 22 ⟨[.slice x56.a x56.len x56.cap, .slice x7.a x7.len x7.cap]⟩) (.leaf .slice) w57 fun (x58 : Sl) w59 => XCall Tryz.prog F.barquelaw15_same [.slice x45.2.1.a x45.2.1.len x45.2.1.cap, .slice x58.a x58.len x58.cap] (.leaf .bool) w59 fun (x60 : Bool) w61 => XIf x60 (XCall Tryz.prog F.wal_Log_Segment [.pointer x45.1] (.leaf (.int .i64)) w61 fun (x62 : Int) w63 => XIf ((x62 : Int) == 2) (XIf ((x49.2.1 : Int) == 0) (XIf ((((x49.1.len : Nat) : Int) : Int) == 1) (XNil x49.1.a fun a64 => ((0 : Int) ≤ 0 ∧ 0 < ((x49.1.len : Nat) : Int)) ∧ (XLoad .str (Addr.add a64 (0 * 1)) w63 fun (x65 : ByteArray) => XIf (sEq x65 ⟨#[115, 101, 103, 45, 48, 48, 48, 48, 48, 48, 48, 50]⟩) (XNil x1 fun a66 => XLoad .ptr (Addr.add a66 2) w63 fun (x67 : Option Addr) => XCall Tryz.prog F.wal_Log_Size [.pointer x45.1] (.leaf (.int .i64)) w63 fun (x68 : Int) w69 => (World.cell? w69 (Addr.add a66 2) = some (Leaf.mk .ptr x67)) ∧ ((World.cell? w69 (Addr.add a64 (0 * 1)) = some (Leaf.mk .str x65)) ∧ (XCall Tryz.prog F.wal_Log_Size [.pointer x67] (.leaf (.int .i64)) w69 fun (x70 : Int) w71 => (World.cell? w71 (Addr.add a64 (0 * 1)) = some (Leaf.mk .str x65)) ∧ (XIf ((x68 : Int) == x70) (XCall Tryz.prog F.barquelaw15_awake [] (.leaf .bool) w71 fun (x72 : Bool) w73 => (World.cell? w73 (Addr.add a64 (0 * 1)) = some (Leaf.mk .str x65)) ∧ (J53 (x72, ()) w73)) (J53 (false, ()) w71))))) (J53 (false, ()) w63))) (J53 (false, ()) w63)) (J53 (false, ()) w63)) (J53 (false, ()) w63)) (J53 (false, ()) w61)) (J53 (false, ()) (World.drew w50))))) (false, (0, ())) w22))) (0, ()) w8)

set_option maxHeartbeats 8000000 in
set_option maxRecDepth 100000 in
theorem S.barquelaw15_WalTurns_ok (p0_a : Sl) (p1_snap : Sl) (p2_c : Sl) (K : Value → World → Prop) (w0 : World) (h : S.barquelaw15_WalTurns p0_a p1_snap p2_c  K w0) :
    Calls Tryz.prog F.barquelaw15_WalTurns ⟨[.slice p0_a.a p0_a.len p0_a.cap, .slice p1_snap.a p1_snap.len p1_snap.cap, .slice p2_c.a p2_c.len p2_c.cap]⟩ w0 fun e w' => ∃ v, e = .returned v ∧ K v w' :=
  calls_x (P := Tryz.prog) [0, 1, 2, 6, 7, 8, 9, 10, 11, 12, 13, 14, 17, 27, 45, 49, 61] (by kernel_rfl) Tryz.func4 (by kernel_rfl) (Eq.mp (by kernel_rfl : S.barquelaw15_WalTurns p0_a p1_snap p2_c  K w0 = xfn Tryz.prog [0, 1, 2, 6, 7, 8, 9, 10, 11, 12, 13, 14, 17, 27, 45, 49, 61] Tryz.f4 [.slice p0_a.a p0_a.len p0_a.cap, .slice p1_snap.a p1_snap.len p1_snap.cap, .slice p2_c.a p2_c.len p2_c.cap] K w0) h)

set_option maxRecDepth 100000 in
set_option maxHeartbeats 8000000 in
/-- 5 barque/barquelaw15.WalPlays -/
def S.barquelaw15_WalPlays (p0_sectors : Int) (p1_script : Sl) (K : Value → World → Prop) (w0 : World) : Prop :=
  XJoin (α := (Bool × Unit)) (fun s1 w2 => XIf s1.1 (XCall Tryz.prog F.barquelaw15_awake [] (.leaf .bool) w2 fun (x4 : Bool) w5 => K (.bool x4) w5) (XCall Tryz.prog F.barquelaw15_laid [.int .i64 p0_sectors] (.leaf .ptr) w2 fun (x6 : Option Addr) w7 => XIf (Option.isNone x6) (K (.bool false) w7) (XLoop (α := (Bool × Int × Unit)) (fun next10 s8 w9 => XJoin (α := (Bool × Unit)) (fun s11 w12 => XIf s11.1 (XNil p1_script.a fun a14 => ((0 : Int) ≤ s8.2.1 ∧ s8.2.1 < ((p1_script.len : Nat) : Int)) ∧ (XLoads [(.int .i64), (.int .i64), .str, .slice, .slice] (Addr.add a14 ((Int.toNat s8.2.1) * 5)) w12 fun (x15 : (Int × Int × ByteArray × Sl × Sl × Unit)) => XCall Tryz.prog F.barquelaw15_world_step [.pointer x6, .agg ⟨[.int .i64 x15.1, .int .i64 x15.2.1, .string x15.2.2.1, .slice x15.2.2.2.1.a x15.2.2.2.1.len x15.2.2.2.1.cap, .slice x15.2.2.2.2.1.a x15.2.2.2.2.1.len x15.2.2.2.2.1.cap]⟩] (.leaf .bool) w12 fun (x16 : Bool) w17 => XIf (!x16) (K (.bool false) w17) (XLet (((IntKind.wrap .i64 (s8.2.1 + 1))) : Int) fun n18 => next10 (s8.1, (n18, ())) w17))) (XNil x6 fun a19 => XLoad .ptr a19 w12 fun (x20 : Option Addr) => XCalls Tryz.prog F.disk_Disk_Crash [.pointer x20, .slice none 0 0] [] w12 fun x21 w22 => XJoin (α := (Bool × Unit)) (fun s23 w24 => K (.bool s23.1) w24) (fun J25 => XCall Tryz.prog F.barquelaw15_world_open [.pointer x6] (.leaf .bool) w22 fun (x26 : Bool) w27 => XIf x26 (XCall Tryz.prog F.barquelaw15_awake [] (.leaf .bool) w27 fun (x28 : Bool) w29 => J25 (x28, ()) w29) (J25 (false, ()) w27)))) (fun J13 => XIf (decide ((s8.2.1 : Int) < ((p1_script.len : Nat) : Int))) (J13 ((decide ((s8.2.1 : Int) < 60)), ()) w9) (J13 (false, ()) w9))) (false, (0, ())) w7))) (fun J3 => XIf (decide ((p0_sectors : Int) < 10)) (J3 (true, ()) w0) (J3 ((decide ((p0_sectors : Int) > 300)), ()) w0))

set_option maxHeartbeats 8000000 in
set_option maxRecDepth 100000 in
theorem S.barquelaw15_WalPlays_ok (p0_sectors : Int) (p1_script : Sl) (K : Value → World → Prop) (w0 : World) (h : S.barquelaw15_WalPlays p0_sectors p1_script  K w0) :
    Calls Tryz.prog F.barquelaw15_WalPlays ⟨[.int .i64 p0_sectors, .slice p1_script.a p1_script.len p1_script.cap]⟩ w0 fun e w' => ∃ v, e = .returned v ∧ K v w' :=
  calls_x (P := Tryz.prog) [0, 1, 4, 5, 6, 12, 17, 25, 34] (by kernel_rfl) Tryz.func5 (by kernel_rfl) (Eq.mp (by kernel_rfl : S.barquelaw15_WalPlays p0_sectors p1_script  K w0 = xfn Tryz.prog [0, 1, 4, 5, 6, 12, 17, 25, 34] Tryz.f5 [.int .i64 p0_sectors, .slice p1_script.a p1_script.len p1_script.cap] K w0) h)

set_option maxRecDepth 100000 in
set_option maxHeartbeats 8000000 in
/-- 6 barque/barquelaw15.WalBroken -/
def S.barquelaw15_WalBroken (p0_script : Sl) (p1_fuses : Sl) (p2_fates : Sl) (K : Value → World → Prop) (w0 : World) : Prop :=
  XCall Tryz.prog F.barquelaw15_laid [.int .i64 300] (.leaf .ptr) w0 fun (x1 : Option Addr) w2 => XIf (Option.isNone x1) (K (.bool false) w2) (XLoop (α := (Bool × Int × Unit)) (fun next5 s3 w4 => XJoin (α := (Bool × Unit)) (fun s6 w7 => XIf s6.1 (XNil p0_script.a fun a9 => ((0 : Int) ≤ s3.2.1 ∧ s3.2.1 < ((p0_script.len : Nat) : Int)) ∧ (XLoads [(.int .i64), (.int .i64), .str, .slice, .slice] (Addr.add a9 ((Int.toNat s3.2.1) * 5)) w7 fun (x10 : (Int × Int × ByteArray × Sl × Sl × Unit)) => XCall Tryz.prog F.barquelaw15_world_step [.pointer x1, .agg ⟨[.int .i64 x10.1, .int .i64 x10.2.1, .string x10.2.2.1, .slice x10.2.2.2.1.a x10.2.2.2.1.len x10.2.2.2.1.cap, .slice x10.2.2.2.2.1.a x10.2.2.2.2.1.len x10.2.2.2.2.1.cap]⟩] (.leaf .bool) w7 fun (x11 : Bool) w12 => XIf (!x11) (K (.bool false) w12) (XLet (((IntKind.wrap .i64 (s3.2.1 + 1))) : Int) fun n13 => next5 (s3.1, (n13, ())) w12))) (XNil x1 fun a14 => XLoad .ptr a14 w7 fun (x15 : Option Addr) => XCalls Tryz.prog F.disk_Disk_Crash [.pointer x15, .slice p2_fates.a p2_fates.len p2_fates.cap] [] w7 fun x16 w17 => XLoop (α := (Bool × Int × Unit)) (fun next20 s18 w19 => XJoin (α := (Bool × Unit)) (fun s21 w22 => XIf s21.1 (XNil x1 fun a24 => XLoad .ptr a24 (World.drew w22) fun (x25 : Option Addr) => XNil p1_fuses.a fun a26 => ((0 : Int) ≤ s18.2.1 ∧ s18.2.1 < ((p1_fuses.len : Nat) : Int)) ∧ (XLoad (.int .i64) (Addr.add a26 ((Int.toNat s18.2.1) * 1)) (World.drew w22) fun (x27 : Int) => XCall Tryz.prog F.disk_Disk_Arm [.pointer x25, .int .i64 x27] (.leaf (.int .i64)) (World.drew w22) fun (x28 : Int) w29 => XNil x1 fun a30 => XLoad .ptr a30 (World.drew w29) fun (x31 : Option Addr) => XNil x1 fun a32 => XLoad .ptr (Addr.add a32 1) (World.drew w29) fun (x33 : Option Addr) => XCalls Tryz.prog F.wal_Open [.pointer x31, .pointer x33] [.leaf .ptr, .leaf .slice, .leaf (.int .i64)] (World.drew w29) fun (x34 : (Option Addr × Sl × Int × Unit)) w35 => XJoin (α := (Bool × Unit)) (fun s36 w37 => XIf s36.1 (K (.bool false) w37) (XNil x1 fun a39 => XLoad .ptr a39 w37 fun (x40 : Option Addr) => XCalls Tryz.prog F.disk_Disk_Crash [.pointer x40, .slice p2_fates.a p2_fates.len p2_fates.cap] [] w37 fun x41 w42 => XLet (((IntKind.wrap .i64 (s18.2.1 + 1))) : Int) fun n43 => next20 (s18.1, (n43, ())) w42)) (fun J38 => XIf ((x34.2.2.1 : Int) != 0) (XIf ((x34.2.2.1 : Int) != 14) (J38 (true, ()) w35) (J38 (((((x34.2.1.len : Nat) : Int) : Int) != 0), ()) w35)) (J38 (false, ()) w35)))) (XJoin (α := (Bool × Unit)) (fun s44 w45 => K (.bool s44.1) w45) (fun J46 => XCall Tryz.prog F.barquelaw15_world_open [.pointer x1] (.leaf .bool) w22 fun (x47 : Bool) w48 => XIf x47 (XCall Tryz.prog F.barquelaw15_awake [] (.leaf .bool) w48 fun (x49 : Bool) w50 => J46 (x49, ()) w50) (J46 (false, ()) w48)))) (fun J23 => XIf (decide ((s18.2.1 : Int) < ((p1_fuses.len : Nat) : Int))) (J23 ((decide ((s18.2.1 : Int) < 4)), ()) w19) (J23 (false, ()) w19))) (s3.1, (0, ())) w17)) (fun J8 => XIf (decide ((s3.2.1 : Int) < ((p0_script.len : Nat) : Int))) (J8 ((decide ((s3.2.1 : Int) < 40)), ()) w4) (J8 (false, ()) w4))) (false, (0, ())) w2)

set_option maxHeartbeats 8000000 in
set_option maxRecDepth 100000 in
theorem S.barquelaw15_WalBroken_ok (p0_script : Sl) (p1_fuses : Sl) (p2_fates : Sl) (K : Value → World → Prop) (w0 : World) (h : S.barquelaw15_WalBroken p0_script p1_fuses p2_fates  K w0) :
    Calls Tryz.prog F.barquelaw15_WalBroken ⟨[.slice p0_script.a p0_script.len p0_script.cap, .slice p1_fuses.a p1_fuses.len p1_fuses.cap, .slice p2_fates.a p2_fates.len p2_fates.cap]⟩ w0 fun e w' => ∃ v, e = .returned v ∧ K v w' :=
  calls_x (P := Tryz.prog) [0, 1, 2, 6, 7, 8, 9, 11, 12, 15, 23, 32, 46, 81] (by kernel_rfl) Tryz.func6 (by kernel_rfl) (Eq.mp (by kernel_rfl : S.barquelaw15_WalBroken p0_script p1_fuses p2_fates  K w0 = xfn Tryz.prog [0, 1, 2, 6, 7, 8, 9, 11, 12, 15, 23, 32, 46, 81] Tryz.f6 [.slice p0_script.a p0_script.len p0_script.cap, .slice p1_fuses.a p1_fuses.len p1_fuses.cap, .slice p2_fates.a p2_fates.len p2_fates.cap] K w0) h)

set_option maxRecDepth 100000 in
set_option maxHeartbeats 8000000 in
/-- 7 barque/barquelaw15.WalFormats -/
def S.barquelaw15_WalFormats (p0_script : Sl) (p1_name : ByteArray) (K : Value → World → Prop) (w0 : World) : Prop :=
  XCall Tryz.prog F.barquelaw15_laid [.int .i64 300] (.leaf .ptr) w0 fun (x1 : Option Addr) w2 => XIf (Option.isNone x1) (K (.bool false) w2) (XLoop (α := (Int × Unit)) (fun next5 s3 w4 => XJoin (α := (Bool × Unit)) (fun s6 w7 => XIf s6.1 (XNil p0_script.a fun a9 => ((0 : Int) ≤ s3.1 ∧ s3.1 < ((p0_script.len : Nat) : Int)) ∧ (XLoads [(.int .i64), (.int .i64), .str, .slice, .slice] (Addr.add a9 ((Int.toNat s3.1) * 5)) w7 fun (x10 : (Int × Int × ByteArray × Sl × Sl × Unit)) => XCall Tryz.prog F.barquelaw15_world_step [.pointer x1, .agg ⟨[.int .i64 x10.1, .int .i64 x10.2.1, .string x10.2.2.1, .slice x10.2.2.2.1.a x10.2.2.2.1.len x10.2.2.2.1.cap, .slice x10.2.2.2.2.1.a x10.2.2.2.2.1.len x10.2.2.2.2.1.cap]⟩] (.leaf .bool) w7 fun (x11 : Bool) w12 => XLet (((IntKind.wrap .i64 (s3.1 + 1))) : Int) fun n13 => next5 (n13, ()) w12)) (XNil x1 fun a14 => XLoad .ptr a14 w7 fun (x15 : Option Addr) => XCalls Tryz.prog F.disk_Disk_Crash [.pointer x15, .slice none 0 0] [] w7 fun x16 w17 => XNil x1 fun a18 => XLoad .ptr a18 w17 fun (x19 : Option Addr) => XCall Tryz.prog F.disk_Disk_Create [.pointer x19, .string p1_name] (.leaf (.int .i64)) w17 fun (x20 : Int) w21 => XNil x1 fun a22 => XLoad .ptr a22 (World.drew w21) fun (x23 : Option Addr) => XNil x1 fun a24 => XLoad .ptr (Addr.add a24 1) (World.drew w21) fun (x25 : Option Addr) => XCalls Tryz.prog F.wal_Format [.pointer x23, .pointer x25] [.leaf .ptr, .leaf (.int .i64)] (World.drew w21) fun (x26 : (Option Addr × Int × Unit)) w27 => XNil x1 fun a28 => XLoad .ptr a28 (World.drew w27) fun (x29 : Option Addr) => XNil x1 fun a30 => XLoad .ptr (Addr.add a30 1) (World.drew w27) fun (x31 : Option Addr) => XCalls Tryz.prog F.wal_Open [.pointer x29, .pointer x31] [.leaf .ptr, .leaf .slice, .leaf (.int .i64)] (World.drew w27) fun (x32 : (Option Addr × Sl × Int × Unit)) w33 => XNil x1 fun a34 => XLoad .ptr a34 w33 fun (x35 : Option Addr) => XCalls Tryz.prog F.disk_Disk_Size [.pointer x35, .string p1_name] [.leaf (.int .i64), .leaf (.int .i64)] w33 fun (x36 : (Int × Int × Unit)) w37 => XJoin (α := (Bool × Unit)) (fun s38 w39 => XJoin (α := (Bool × Unit)) (fun s41 w42 => XIf s41.1 (K (.bool false) w42) (XJoin (α := (Bool × Unit)) (fun s44 w45 => K (.bool s44.1) w45) (fun J46 => XIf (!((x20 : Int) == 0)) (XCall Tryz.prog F.barquelaw15_awake [] (.leaf .bool) w42 fun (x47 : Bool) w48 => J46 (x47, ()) w48) (XIf s38.1 (XCall Tryz.prog F.barquelaw15_awake [] (.leaf .bool) w42 fun (x49 : Bool) w50 => J46 (x49, ()) w50) (XIf ((x36.2.1 : Int) == 0) (XCall Tryz.prog F.barquelaw15_awake [] (.leaf .bool) w42 fun (x51 : Bool) w52 => J46 (x51, ()) w52) (J46 (false, ()) w42)))))) (fun J43 => XIf ((x26.2.1 : Int) != 0) (J43 (true, ()) w39) (XIf ((x32.2.2.1 : Int) != 0) (J43 (true, ()) w39) (XIf ((((x32.2.1.len : Nat) : Int) : Int) != 0) (J43 (true, ()) w39) (XCall Tryz.prog F.wal_Log_Segment [.pointer x26.1] (.leaf (.int .i64)) w39 fun (x53 : Int) w54 => J43 (((x53 : Int) != 1), ()) w54))))) (fun J40 => XIf (((((ByteArray.size p1_name) : Nat) : Int) : Int) == 12) ((((0 : Int) ≤ 4 ∧ 4 ≤ (((ByteArray.size p1_name) : Nat) : Int)) ∧ (0 : Int) ≤ 0 ∧ (0 : Int) ≤ 4) ∧ (XLet (((ByteArray.extract p1_name 0 4)) : ByteArray) fun t55 => J40 ((sEq t55 ⟨#[115, 101, 103, 45]⟩), ()) w37)) (J40 (false, ()) w37)))) (fun J8 => XIf (decide ((s3.1 : Int) < ((p0_script.len : Nat) : Int))) (J8 ((decide ((s3.1 : Int) < 20)), ()) w4) (J8 (false, ()) w4))) (0, ()) w2)

set_option maxHeartbeats 8000000 in
set_option maxRecDepth 100000 in
theorem S.barquelaw15_WalFormats_ok (p0_script : Sl) (p1_name : ByteArray) (K : Value → World → Prop) (w0 : World) (h : S.barquelaw15_WalFormats p0_script p1_name  K w0) :
    Calls Tryz.prog F.barquelaw15_WalFormats ⟨[.slice p0_script.a p0_script.len p0_script.cap, .string p1_name]⟩ w0 fun e w' => ∃ v, e = .returned v ∧ K v w' :=
  calls_x (P := Tryz.prog) [0, 1, 4, 5, 6, 7, 8, 9, 11, 12, 14, 15, 18, 26, 104] (by kernel_rfl) Tryz.func7 (by kernel_rfl) (Eq.mp (by kernel_rfl : S.barquelaw15_WalFormats p0_script p1_name  K w0 = xfn Tryz.prog [0, 1, 4, 5, 6, 7, 8, 9, 11, 12, 14, 15, 18, 26, 104] Tryz.f7 [.slice p0_script.a p0_script.len p0_script.cap, .string p1_name] K w0) h)

set_option maxRecDepth 100000 in
set_option maxHeartbeats 8000000 in
/-- 8 barque/barquelaw15.WalFull -/
def S.barquelaw15_WalFull (p0_sectors : Int) (p1_l : Sl) (p2_s : ByteArray) (K : Value → World → Prop) (w0 : World) : Prop :=
  XJoin (α := (Bool × Unit)) (fun s1 w2 => XIf s1.1 (XCall Tryz.prog F.barquelaw15_awake [] (.leaf .bool) w2 fun (x4 : Bool) w5 => K (.bool x4) w5) (XCall Tryz.prog F.barquelaw15_laid [.int .i64 p0_sectors] (.leaf .ptr) w2 fun (x6 : Option Addr) w7 => XIf (Option.isNone x6) (K (.bool false) w7) (XLoop (α := (Int × Unit)) (fun next10 s8 w9 => XJoin (α := (Bool × Unit)) (fun s11 w12 => XIf s11.1 (XJoin (α := (Unit)) (fun s14 w15 => XLet (((IntKind.wrap .i64 (s8.1 + 1))) : Int) fun n17 => next10 (n17, ()) w15) (fun J16 => XNil x6 fun a18 => XLoad .ptr (Addr.add a18 2) (World.drew w12) fun (x19 : Option Addr) => XNil p1_l.a fun a20 => ((0 : Int) ≤ s8.1 ∧ s8.1 < ((p1_l.len : Nat) : Int)) ∧ (XLoad .str (Addr.add a20 ((Int.toNat s8.1) * 1)) (World.drew w12) fun (x21 : ByteArray) => XCall Tryz.prog F.barquelaw15_cut [.string x21] (.leaf .str) (World.drew w12) fun (x22 : ByteArray) w23 => (World.cell? w23 (Addr.add a18 2) = some (Leaf.mk .ptr x19)) ∧ (XCall Tryz.prog F.wal_Log_Append [.pointer x19, .string x22] (.leaf (.int .i64)) w23 fun (x24 : Int) w25 => XIf ((x24 : Int) == 0) (XNil x6 fun a26 => XLoad .slice (Addr.add a26 3) (World.drew w25) fun (x27 : Sl) => XNil p1_l.a fun a28 => ((0 : Int) ≤ s8.1 ∧ s8.1 < ((p1_l.len : Nat) : Int)) ∧ (XLoad .str (Addr.add a28 ((Int.toNat s8.1) * 1)) (World.drew w25) fun (x29 : ByteArray) => XCall Tryz.prog F.barquelaw15_cut [.string x29] (.leaf .str) (World.drew w25) fun (x30 : ByteArray) w31 => (World.cell? w31 (Addr.add a26 3) = some (Leaf.mk .slice x27)) ∧ (XNew 9 [.string x30] w31 fun a32 w33 => (World.cell? w33 (Addr.add a26 3) = some (Leaf.mk .slice x27)) ∧ (XDo Tryz.prog (Builtin.append_ #[22, 22] 22 ⟨[.slice x27.a x27.len x27.cap, .slice (some a32) 1 1]⟩) (.leaf .slice) w33 fun (x34 : Sl) w35 => XNil x6 fun a36 => XStore (Addr.add a36 3) (.slice x34.a x34.len x34.cap) w35 fun w37 => J16 () w37)))) (J16 () w25))))) (XNil x6 fun a38 => XLoad .ptr (Addr.add a38 2) w12 fun (x39 : Option Addr) => XCall Tryz.prog F.wal_Log_Size [.pointer x39] (.leaf (.int .i64)) w12 fun (x40 : Int) w41 => XNil x6 fun a42 => XLoad .ptr a42 w41 fun (x43 : Option Addr) => XCall Tryz.prog F.disk_Disk_Writes [.pointer x43] (.leaf (.int .i64)) w41 fun (x44 : Int) w45 => XNil x6 fun a46 => XLoad .ptr (Addr.add a46 2) (World.drew w45) fun (x47 : Option Addr) => XDo Tryz.prog (Instr.makeSlice 61 (.int .i64 3840) (.int .i64 3840)) (.leaf .slice) (World.drew w45) fun (x48 : Sl) w49 => (World.cell? w49 (Addr.add a46 2) = some (Leaf.mk .ptr x47)) ∧ (XBytes x48.a x48.len w49 fun x50 => (((ByteArray.size p2_s + ByteArray.size x50 : Nat) : Int) ≤ IntKind.i64.max) ∧ (XLet (((p2_s ++ x50 : ByteArray)) : ByteArray) fun t51 => XCall Tryz.prog F.wal_Log_Append [.pointer x47, .string t51] (.leaf (.int .i64)) w49 fun (x52 : Int) w53 => sliceBytes w53 x48.a x48.len x50 ∧ (XJoin (α := (Bool × Unit)) (fun s54 w55 => XIf s54.1 (XJoin (α := (Bool × Unit)) (fun s57 w58 => K (.bool s57.1) w58) (fun J59 => XIf (decide (((((ByteArray.size p2_s) : Nat) : Int) : Int) > 1044992)) (XIf ((x52 : Int) == 4) (XCall Tryz.prog F.barquelaw15_awake [] (.leaf .bool) w55 fun (x60 : Bool) w61 => J59 (x60, ()) w61) (J59 (false, ()) w55)) (J59 (false, ()) w55))) (XNil x6 fun a62 => XLoad .ptr (Addr.add a62 2) (World.drew w55) fun (x63 : Option Addr) => XDo Tryz.prog (Instr.makeSlice 61 (.int .i64 3840) (.int .i64 3840)) (.leaf .slice) (World.drew w55) fun (x64 : Sl) w65 => (World.cell? w65 (Addr.add a62 2) = some (Leaf.mk .ptr x63)) ∧ (XBytes x64.a x64.len w65 fun x66 => XNew 9 [.string x66] w65 fun a67 w68 => (World.cell? w68 (Addr.add a62 2) = some (Leaf.mk .ptr x63)) ∧ (XCall Tryz.prog F.wal_Log_Turn [.pointer x63, .slice (some a67) 1 1] (.leaf (.int .i64)) w68 fun (x69 : Int) w70 => XJoin (α := (Bool × Unit)) (fun s71 w72 => XIf s71.1 (K (.bool false) w72) (XNil x6 fun a74 => XLoad .ptr (Addr.add a74 2) w72 fun (x75 : Option Addr) => XCall Tryz.prog F.wal_Log_Sync [.pointer x75] (.leaf (.int .i64)) w72 fun (x76 : Int) w77 => XNil x6 fun a78 => XLoad .ptr a78 (World.drew w77) fun (x79 : Option Addr) => XNil x6 fun a80 => XLoad .ptr (Addr.add a80 1) (World.drew w77) fun (x81 : Option Addr) => XCalls Tryz.prog F.wal_Open [.pointer x79, .pointer x81] [.leaf .ptr, .leaf .slice, .leaf (.int .i64)] (World.drew w77) fun (x82 : (Option Addr × Sl × Int × Unit)) w83 => XJoin (α := (Bool × Unit)) (fun s84 w85 => K (.bool s84.1) w85) (fun J86 => XIf ((x82.2.2.1 : Int) == 0) (XNil x6 fun a87 => XLoad .slice (Addr.add a87 3) w83 fun (x88 : Sl) => XCall Tryz.prog F.barquelaw15_same [.slice x82.2.1.a x82.2.1.len x82.2.1.cap, .slice x88.a x88.len x88.cap] (.leaf .bool) w83 fun (x89 : Bool) w90 => XIf x89 (XCall Tryz.prog F.barquelaw15_awake [] (.leaf .bool) w90 fun (x91 : Bool) w92 => J86 (x91, ()) w92) (J86 (false, ()) w90)) (J86 (false, ()) w83)))) (fun J73 => XIf ((x69 : Int) != 7) (J73 (true, ()) w70) (XNil x6 fun a93 => XLoad .ptr (Addr.add a93 2) w70 fun (x94 : Option Addr) => XCall Tryz.prog F.wal_Log_Segment [.pointer x94] (.leaf (.int .i64)) w70 fun (x95 : Int) w96 => J73 (((x95 : Int) != 1), ()) w96)))))) (fun J56 => XIf ((x52 : Int) != 7) (J56 (true, ()) w53) (XNil x6 fun a97 => XLoad .ptr (Addr.add a97 2) w53 fun (x98 : Option Addr) => XCall Tryz.prog F.wal_Log_Size [.pointer x98] (.leaf (.int .i64)) w53 fun (x99 : Int) w100 => XIf ((x99 : Int) != x40) (J56 (true, ()) w100) (XNil x6 fun a101 => XLoad .ptr a101 w100 fun (x102 : Option Addr) => XCall Tryz.prog F.disk_Disk_Writes [.pointer x102] (.leaf (.int .i64)) w100 fun (x103 : Int) w104 => J56 (((x103 : Int) != x44), ()) w104)))))))) (fun J13 => XIf (decide ((s8.1 : Int) < ((p1_l.len : Nat) : Int))) (J13 ((decide ((s8.1 : Int) < 30)), ()) w9) (J13 (false, ()) w9))) (0, ()) w7))) (fun J3 => XIf (decide ((p0_sectors : Int) < 10)) (J3 (true, ()) w0) (J3 ((decide ((p0_sectors : Int) > 60)), ()) w0))

set_option maxHeartbeats 8000000 in
set_option maxRecDepth 100000 in
theorem S.barquelaw15_WalFull_ok (p0_sectors : Int) (p1_l : Sl) (p2_s : ByteArray) (K : Value → World → Prop) (w0 : World) (h : S.barquelaw15_WalFull p0_sectors p1_l p2_s  K w0) :
    Calls Tryz.prog F.barquelaw15_WalFull ⟨[.int .i64 p0_sectors, .slice p1_l.a p1_l.len p1_l.cap, .string p2_s]⟩ w0 fun e w' => ∃ v, e = .returned v ∧ K v w' :=
  calls_x (P := Tryz.prog) [0, 1, 2, 6, 7, 8, 9, 10, 11, 12, 14, 15, 21, 26, 34, 47, 100, 128] (by kernel_rfl) Tryz.func8 (by kernel_rfl) (Eq.mp (by kernel_rfl : S.barquelaw15_WalFull p0_sectors p1_l p2_s  K w0 = xfn Tryz.prog [0, 1, 2, 6, 7, 8, 9, 10, 11, 12, 14, 15, 21, 26, 34, 47, 100, 128] Tryz.f8 [.int .i64 p0_sectors, .slice p1_l.a p1_l.len p1_l.cap, .string p2_s] K w0) h)

set_option maxRecDepth 100000 in
set_option maxHeartbeats 8000000 in
/-- 9 barque/barquelaw15.WalAgain -/
def S.barquelaw15_WalAgain (p0_script : Sl) (K : Value → World → Prop) (w0 : World) : Prop :=
  XCall Tryz.prog F.barquelaw15_laid [.int .i64 300] (.leaf .ptr) w0 fun (x1 : Option Addr) w2 => XIf (Option.isNone x1) (K (.bool false) w2) (XLoop (α := (Int × Unit)) (fun next5 s3 w4 => XJoin (α := (Bool × Unit)) (fun s6 w7 => XIf s6.1 (XNil p0_script.a fun a9 => ((0 : Int) ≤ s3.1 ∧ s3.1 < ((p0_script.len : Nat) : Int)) ∧ (XLoads [(.int .i64), (.int .i64), .str, .slice, .slice] (Addr.add a9 ((Int.toNat s3.1) * 5)) w7 fun (x10 : (Int × Int × ByteArray × Sl × Sl × Unit)) => XCall Tryz.prog F.barquelaw15_world_step [.pointer x1, .agg ⟨[.int .i64 x10.1, .int .i64 x10.2.1, .string x10.2.2.1, .slice x10.2.2.2.1.a x10.2.2.2.1.len x10.2.2.2.1.cap, .slice x10.2.2.2.2.1.a x10.2.2.2.2.1.len x10.2.2.2.2.1.cap]⟩] (.leaf .bool) w7 fun (x11 : Bool) w12 => XLet (((IntKind.wrap .i64 (s3.1 + 1))) : Int) fun n13 => next5 (n13, ()) w12)) (XNil x1 fun a14 => XLoad .ptr a14 w7 fun (x15 : Option Addr) => XCalls Tryz.prog F.disk_Disk_Crash [.pointer x15, .slice none 0 0] [] w7 fun x16 w17 => XNil x1 fun a18 => XLoad .ptr a18 (World.drew w17) fun (x19 : Option Addr) => XNil x1 fun a20 => XLoad .ptr (Addr.add a20 1) (World.drew w17) fun (x21 : Option Addr) => XCalls Tryz.prog F.wal_Open [.pointer x19, .pointer x21] [.leaf .ptr, .leaf .slice, .leaf (.int .i64)] (World.drew w17) fun (x22 : (Option Addr × Sl × Int × Unit)) w23 => XNil x1 fun a24 => XLoad .ptr a24 w23 fun (x25 : Option Addr) => XCall Tryz.prog F.disk_Disk_Writes [.pointer x25] (.leaf (.int .i64)) w23 fun (x26 : Int) w27 => XNil x1 fun a28 => XLoad .ptr a28 (World.drew w27) fun (x29 : Option Addr) => XNil x1 fun a30 => XLoad .ptr (Addr.add a30 1) (World.drew w27) fun (x31 : Option Addr) => XCalls Tryz.prog F.wal_Open [.pointer x29, .pointer x31] [.leaf .ptr, .leaf .slice, .leaf (.int .i64)] (World.drew w27) fun (x32 : (Option Addr × Sl × Int × Unit)) w33 => XNil x1 fun a34 => XLoad .ptr a34 w33 fun (x35 : Option Addr) => XCall Tryz.prog F.disk_Disk_Writes [.pointer x35] (.leaf (.int .i64)) w33 fun (x36 : Int) w37 => XNil x1 fun a38 => XLoad .ptr a38 w37 fun (x39 : Option Addr) => XCalls Tryz.prog F.disk_Disk_Crash [.pointer x39, .slice none 0 0] [] w37 fun x40 w41 => XNil x1 fun a42 => XLoad .ptr a42 (World.drew w41) fun (x43 : Option Addr) => XNil x1 fun a44 => XLoad .ptr (Addr.add a44 1) (World.drew w41) fun (x45 : Option Addr) => XCalls Tryz.prog F.wal_Open [.pointer x43, .pointer x45] [.leaf .ptr, .leaf .slice, .leaf (.int .i64)] (World.drew w41) fun (x46 : (Option Addr × Sl × Int × Unit)) w47 => XJoin (α := (Bool × Unit)) (fun s48 w49 => K (.bool s48.1) w49) (fun J50 => XIf ((x22.2.2.1 : Int) == 0) (XIf ((x32.2.2.1 : Int) == 0) (XIf ((x46.2.2.1 : Int) == 0) (XCall Tryz.prog F.barquelaw15_same [.slice x22.2.1.a x22.2.1.len x22.2.1.cap, .slice x32.2.1.a x32.2.1.len x32.2.1.cap] (.leaf .bool) w47 fun (x51 : Bool) w52 => XIf x51 (XCall Tryz.prog F.barquelaw15_same [.slice x22.2.1.a x22.2.1.len x22.2.1.cap, .slice x46.2.1.a x46.2.1.len x46.2.1.cap] (.leaf .bool) w52 fun (x53 : Bool) w54 => XIf x53 (XIf ((x26 : Int) == x36) (XCall Tryz.prog F.barquelaw15_awake [] (.leaf .bool) w54 fun (x55 : Bool) w56 => J50 (x55, ()) w56) (J50 (false, ()) w54)) (J50 (false, ()) w54)) (J50 (false, ()) w52)) (J50 (false, ()) w47)) (J50 (false, ()) w47)) (J50 (false, ()) w47)))) (fun J8 => XIf (decide ((s3.1 : Int) < ((p0_script.len : Nat) : Int))) (J8 ((decide ((s3.1 : Int) < 40)), ()) w4) (J8 (false, ()) w4))) (0, ()) w2)

set_option maxHeartbeats 8000000 in
set_option maxRecDepth 100000 in
theorem S.barquelaw15_WalAgain_ok (p0_script : Sl) (K : Value → World → Prop) (w0 : World) (h : S.barquelaw15_WalAgain p0_script  K w0) :
    Calls Tryz.prog F.barquelaw15_WalAgain ⟨[.slice p0_script.a p0_script.len p0_script.cap]⟩ w0 fun e w' => ∃ v, e = .returned v ∧ K v w' :=
  calls_x (P := Tryz.prog) [0, 2, 3, 4, 6, 7, 8, 10, 11, 12, 14, 15, 18, 26] (by kernel_rfl) Tryz.func9 (by kernel_rfl) (Eq.mp (by kernel_rfl : S.barquelaw15_WalAgain p0_script  K w0 = xfn Tryz.prog [0, 2, 3, 4, 6, 7, 8, 10, 11, 12, 14, 15, 18, 26] Tryz.f9 [.slice p0_script.a p0_script.len p0_script.cap] K w0) h)

set_option maxRecDepth 100000 in
set_option maxHeartbeats 8000000 in
/-- 10 barque/barquelaw15.laid -/
def S.barquelaw15_laid (p0_sectors : Int) (K : Value → World → Prop) (w0 : World) : Prop :=
  XCalls Tryz.prog F.disk_New [.int .i64 p0_sectors] [.leaf .ptr, .leaf (.int .i64)] w0 fun (x1 : (Option Addr × Int × Unit)) w2 => XCall Tryz.prog F.marks_Ideal [] (.leaf .ptr) w2 fun (x3 : Option Addr) w4 => XJoin (α := (Bool × Unit)) (fun s5 w6 => XIf s5.1 (K (.pointer none) w6) (XCalls Tryz.prog F.wal_Format [.pointer x1.1, .pointer x3] [.leaf .ptr, .leaf (.int .i64)] w6 fun (x8 : (Option Addr × Int × Unit)) w9 => XIf ((x8.2.1 : Int) != 0) (K (.pointer none) w9) (XNew 30 [.pointer x1.1, .pointer x3, .pointer x8.1, .slice none 0 0, .int .i64 0, .bool false, .slice none 0 0] w9 fun a10 w11 => K (.pointer (some a10)) w11))) (fun J7 => XIf ((x1.2.1 : Int) != 0) (J7 (true, ()) w4) (J7 ((Option.isNone x1.1), ()) w4))

set_option maxHeartbeats 8000000 in
set_option maxRecDepth 100000 in
theorem S.barquelaw15_laid_ok (p0_sectors : Int) (K : Value → World → Prop) (w0 : World) (h : S.barquelaw15_laid p0_sectors  K w0) :
    Calls Tryz.prog F.barquelaw15_laid ⟨[.int .i64 p0_sectors]⟩ w0 fun e w' => ∃ v, e = .returned v ∧ K v w' :=
  calls_x (P := Tryz.prog) [0, 2, 3, 4, 5, 6, 7, 19, 27] (by kernel_rfl) Tryz.func10 (by kernel_rfl) (Eq.mp (by kernel_rfl : S.barquelaw15_laid p0_sectors  K w0 = xfn Tryz.prog [0, 2, 3, 4, 5, 6, 7, 19, 27] Tryz.f10 [.int .i64 p0_sectors] K w0) h)

set_option maxRecDepth 100000 in
set_option maxHeartbeats 8000000 in
/-- 11 (*barque/wal.Log).Append -/
def S.wal_Log_Append (p0_l : Option Addr) (p1_s : ByteArray) (K : Value → World → Prop) (w0 : World) : Prop :=
  XCall Tryz.prog F.wal_Log_closed [.pointer p0_l] (.leaf .bool) w0 fun (x1 : Bool) w2 => XIf x1 (K (.int .i64 15) w2) (XNew 9 [.string p1_s] w2 fun a3 w4 => XCall Tryz.prog F.wal_Log_put [.pointer p0_l, .int .u8 82, .slice (some a3) 1 1] (.leaf (.int .i64)) w4 fun (x5 : Int) w6 => K (.int .i64 x5) w6)

set_option maxHeartbeats 8000000 in
set_option maxRecDepth 100000 in
theorem S.wal_Log_Append_ok (p0_l : Option Addr) (p1_s : ByteArray) (K : Value → World → Prop) (w0 : World) (h : S.wal_Log_Append p0_l p1_s  K w0) :
    Calls Tryz.prog F.wal_Log_Append ⟨[.pointer p0_l, .string p1_s]⟩ w0 fun e w' => ∃ v, e = .returned v ∧ K v w' :=
  calls_x (P := Tryz.prog) [0, 1, 4, 6] (by kernel_rfl) Tryz.func11 (by kernel_rfl) (Eq.mp (by kernel_rfl : S.wal_Log_Append p0_l p1_s  K w0 = xfn Tryz.prog [0, 1, 4, 6] Tryz.f11 [.pointer p0_l, .string p1_s] K w0) h)

set_option maxRecDepth 100000 in
set_option maxHeartbeats 8000000 in
/-- 12 barque/barquelaw15.cut -/
def S.barquelaw15_cut (p0_s : ByteArray) (K : Value → World → Prop) (w0 : World) : Prop :=
  XIf (decide (((((ByteArray.size p0_s) : Nat) : Int) : Int) > 300)) ((((0 : Int) ≤ 300 ∧ 300 ≤ (((ByteArray.size p0_s) : Nat) : Int)) ∧ (0 : Int) ≤ 0 ∧ (0 : Int) ≤ 300) ∧ (XLet (((ByteArray.extract p0_s 0 300)) : ByteArray) fun t1 => K (.string t1) w0)) (K (.string p0_s) w0)

set_option maxHeartbeats 8000000 in
set_option maxRecDepth 100000 in
theorem S.barquelaw15_cut_ok (p0_s : ByteArray) (K : Value → World → Prop) (w0 : World) (h : S.barquelaw15_cut p0_s  K w0) :
    Calls Tryz.prog F.barquelaw15_cut ⟨[.string p0_s]⟩ w0 fun e w' => ∃ v, e = .returned v ∧ K v w' :=
  calls_x (P := Tryz.prog) [0, 2, 5] (by kernel_rfl) Tryz.func12 (by kernel_rfl) (Eq.mp (by kernel_rfl : S.barquelaw15_cut p0_s  K w0 = xfn Tryz.prog [0, 2, 5] Tryz.f12 [.string p0_s] K w0) h)

set_option maxRecDepth 100000 in
set_option maxHeartbeats 8000000 in
/-- 13 (*barque/wal.Log).Sync -/
def S.wal_Log_Sync (p0_l : Option Addr) (K : Value → World → Prop) (w0 : World) : Prop :=
  XCall Tryz.prog F.wal_Log_closed [.pointer p0_l] (.leaf .bool) w0 fun (x1 : Bool) w2 => XIf x1 (K (.int .i64 15) w2) (XNil p0_l fun a3 => XLoad .ptr a3 w2 fun (x4 : Option Addr) => XCall Tryz.prog F.disk_Disk_Sync [.pointer x4] (.leaf (.int .i64)) w2 fun (x5 : Int) w6 => K (.int .i64 x5) w6)

set_option maxHeartbeats 8000000 in
set_option maxRecDepth 100000 in
theorem S.wal_Log_Sync_ok (p0_l : Option Addr) (K : Value → World → Prop) (w0 : World) (h : S.wal_Log_Sync p0_l  K w0) :
    Calls Tryz.prog F.wal_Log_Sync ⟨[.pointer p0_l]⟩ w0 fun e w' => ∃ v, e = .returned v ∧ K v w' :=
  calls_x (P := Tryz.prog) [0, 2, 4] (by kernel_rfl) Tryz.func13 (by kernel_rfl) (Eq.mp (by kernel_rfl : S.wal_Log_Sync p0_l  K w0 = xfn Tryz.prog [0, 2, 4] Tryz.f13 [.pointer p0_l] K w0) h)

set_option maxRecDepth 100000 in
set_option maxHeartbeats 8000000 in
/-- 14 (*barque/disk.Disk).Spoil -/
def S.disk_Disk_Spoil (p0_d : Option Addr) (p1_name : ByteArray) (p2_at : Int) (p3_by : Int) (K : Value → World → Prop) (w0 : World) : Prop :=
  XIf (Option.isNone p0_d) (K (.int .i64 1) w0) (XCall Tryz.prog F.disk_Disk_find [.pointer p0_d, .string p1_name] (.leaf .ptr) w0 fun (x1 : Option Addr) w2 => XIf (Option.isNone x1) (K (.int .i64 8) w2) (XJoin (α := (Bool × Unit)) (fun s3 w4 => XIf s3.1 (K (.int .i64 2) w4) (XNil x1 fun a6 => XLoad .slice (Addr.add a6 2) w4 fun (x7 : Sl) => XNil x7.a fun a8 => ((0 : Int) ≤ p2_at ∧ p2_at < ((x7.len : Nat) : Int)) ∧ (XLoad (.int .u8) (Addr.add a8 ((Int.toNat p2_at) * 1)) w4 fun (x9 : Int) => XLet (((IntKind.wrap .u8 (p3_by))) : Int) fun n10 => XLet (((ibits .xor .u8 x9 n10)) : Int) fun n11 => XNil x7.a fun a12 => ((0 : Int) ≤ p2_at ∧ p2_at < ((x7.len : Nat) : Int)) ∧ (XStore (Addr.add a12 ((Int.toNat p2_at) * 1)) (.int .u8 n11) w4 fun w13 => XJoin (α := (Unit)) (fun s14 w15 => K (.int .i64 0) w15) (fun J16 => XNil x1 fun a17 => XLoad .slice (Addr.add a17 3) w13 fun (x18 : Sl) => XIf (decide ((p2_at : Int) < ((x18.len : Nat) : Int))) (XNil x1 fun a19 => XLoad .slice (Addr.add a19 3) w13 fun (x20 : Sl) => XNil x20.a fun a21 => ((0 : Int) ≤ p2_at ∧ p2_at < ((x20.len : Nat) : Int)) ∧ (XLoad (.int .u8) (Addr.add a21 ((Int.toNat p2_at) * 1)) w13 fun (x22 : Int) => XLet (((IntKind.wrap .u8 (p3_by))) : Int) fun n23 => XLet (((ibits .xor .u8 x22 n23)) : Int) fun n24 => XNil x20.a fun a25 => ((0 : Int) ≤ p2_at ∧ p2_at < ((x20.len : Nat) : Int)) ∧ (XStore (Addr.add a25 ((Int.toNat p2_at) * 1)) (.int .u8 n24) w13 fun w26 => J16 () w26))) (J16 () w13)))))) (fun J5 => XIf (decide ((p2_at : Int) < 0)) (J5 (true, ()) w2) (XNil x1 fun a27 => XLoad .slice (Addr.add a27 2) w2 fun (x28 : Sl) => J5 ((decide ((p2_at : Int) ≥ ((x28.len : Nat) : Int))), ()) w2))))

set_option maxHeartbeats 8000000 in
set_option maxRecDepth 100000 in
theorem S.disk_Disk_Spoil_ok (p0_d : Option Addr) (p1_name : ByteArray) (p2_at : Int) (p3_by : Int) (K : Value → World → Prop) (w0 : World) (h : S.disk_Disk_Spoil p0_d p1_name p2_at p3_by  K w0) :
    Calls Tryz.prog F.disk_Disk_Spoil ⟨[.pointer p0_d, .string p1_name, .int .i64 p2_at, .int .i64 p3_by]⟩ w0 fun e w' => ∃ v, e = .returned v ∧ K v w' :=
  calls_x (P := Tryz.prog) [0, 1, 2, 3, 8, 9, 11, 16, 27, 45] (by kernel_rfl) Tryz.func14 (by kernel_rfl) (Eq.mp (by kernel_rfl : S.disk_Disk_Spoil p0_d p1_name p2_at p3_by  K w0 = xfn Tryz.prog [0, 1, 2, 3, 8, 9, 11, 16, 27, 45] Tryz.f14 [.pointer p0_d, .string p1_name, .int .i64 p2_at, .int .i64 p3_by] K w0) h)

set_option maxRecDepth 100000 in
set_option maxHeartbeats 8000000 in
/-- 15 barque/wal.Open -/
def S.wal_Open (p0_d : Option Addr) (p1_b : Option Addr) (K : Value → World → Prop) (w0 : World) : Prop :=
  XCall Tryz.prog F.wal_none [.pointer p0_d, .pointer p1_b] (.leaf .bool) w0 fun (x1 : Bool) w2 => XIf x1 (K (.tuple ⟨[.pointer none, .slice none 0 0, .int .i64 1]⟩) w2) (XCalls Tryz.prog F.wal_segments [.pointer p0_d] [.leaf .slice, .leaf (.int .i64)] w2 fun (x3 : (Sl × Int × Unit)) w4 => XIf ((x3.2.1 : Int) != 0) (K (.tuple ⟨[.pointer none, .slice none 0 0, .int .i64 x3.2.1]⟩) w4) (XLoop (α := (Option Addr × Sl × Int × Int × Unit)) (fun next7 s5 w6 => XIf (decide ((s5.2.2.2.1 : Int) < ((x3.1.len : Nat) : Int))) (XNil x3.1.a fun a8 => ((0 : Int) ≤ s5.2.2.2.1 ∧ s5.2.2.2.1 < ((x3.1.len : Nat) : Int)) ∧ (XLoad (.int .i64) (Addr.add a8 ((Int.toNat s5.2.2.2.1) * 1)) w6 fun (x9 : Int) => XCalls Tryz.prog F.wal_load [.pointer p0_d, .pointer p1_b, .int .i64 x9] [.leaf .ptr, .leaf .slice, .leaf .bool] w6 fun (x10 : (Option Addr × Sl × Bool × Unit)) w11 => XIf (!x10.2.2.1) (XLet (((IntKind.wrap .i64 (s5.2.2.2.1 + 1))) : Int) fun n12 => next7 (s5.1, (⟨s5.2.1.a, s5.2.1.len, s5.2.1.cap⟩, (s5.2.2.1, (n12, ())))) w11) (XLoop (α := (Int × Unit)) (fun next15 s13 w14 => XIf (decide ((s13.1 : Int) < ((x3.1.len : Nat) : Int))) (XJoin (α := (Unit)) (fun s16 w17 => XLet (((IntKind.wrap .i64 (s13.1 + 1))) : Int) fun n19 => next15 (n19, ()) w17) (fun J18 => XNil x3.1.a fun a20 => ((0 : Int) ≤ s13.1 ∧ s13.1 < ((x3.1.len : Nat) : Int)) ∧ (XLoad (.int .i64) (Addr.add a20 ((Int.toNat s13.1) * 1)) w14 fun (x21 : Int) => XIf ((x21 : Int) != x9) (XCall Tryz.prog F.wal_name [.int .i64 x21] (.leaf .str) w14 fun (x22 : ByteArray) w23 => XCall Tryz.prog F.disk_Disk_Remove [.pointer p0_d, .string x22] (.leaf (.int .i64)) w23 fun (x24 : Int) w25 => J18 () w25) (J18 () w14)))) (XCall Tryz.prog F.wal_Log_wipe [.pointer x10.1] (.leaf (.int .i64)) w14 fun (x26 : Int) w27 => XIf ((x26 : Int) != 0) (K (.tuple ⟨[.pointer none, .slice none 0 0, .int .i64 x26]⟩) w27) (K (.tuple ⟨[.pointer x10.1, .slice x10.2.1.a x10.2.1.len x10.2.1.cap, .int .i64 0]⟩) w27))) (0, ()) w11))) (K (.tuple ⟨[.pointer none, .slice none 0 0, .int .i64 8]⟩) w6)) (none, (⟨none, 0, 0⟩, (0, (0, ())))) w4))

set_option maxHeartbeats 8000000 in
set_option maxRecDepth 100000 in
theorem S.wal_Open_ok (p0_d : Option Addr) (p1_b : Option Addr) (K : Value → World → Prop) (w0 : World) (h : S.wal_Open p0_d p1_b  K w0) :
    Calls Tryz.prog F.wal_Open ⟨[.pointer p0_d, .pointer p1_b]⟩ w0 fun e w' => ∃ v, e = .returned v ∧ K v w' :=
  calls_x (P := Tryz.prog) [0, 1, 4, 5, 6, 7, 8, 10, 11, 12, 13, 15, 16, 19, 26, 28, 29, 30, 31, 43, 44, 45, 46, 47, 52, 61] (by kernel_rfl) Tryz.func15 (by kernel_rfl) (Eq.mp (by kernel_rfl : S.wal_Open p0_d p1_b  K w0 = xfn Tryz.prog [0, 1, 4, 5, 6, 7, 8, 10, 11, 12, 13, 15, 16, 19, 26, 28, 29, 30, 31, 43, 44, 45, 46, 47, 52, 61] Tryz.f15 [.pointer p0_d, .pointer p1_b] K w0) h)

set_option maxRecDepth 100000 in
set_option maxHeartbeats 8000000 in
/-- 16 barque/barquelaw15.awake -/
def S.barquelaw15_awake (K : Value → World → Prop) (w0 : World) : Prop :=
  XCalls Tryz.prog F.disk_New [.int .i64 100] [.leaf .ptr, .leaf (.int .i64)] w0 fun (x1 : (Option Addr × Int × Unit)) w2 => XCall Tryz.prog F.marks_Ideal [] (.leaf .ptr) w2 fun (x3 : Option Addr) w4 => XCalls Tryz.prog F.wal_Format [.pointer x1.1, .pointer x3] [.leaf .ptr, .leaf (.int .i64)] w4 fun (x5 : (Option Addr × Int × Unit)) w6 => XCall Tryz.prog F.wal_Log_Append [.pointer x5.1, .string ⟨#[97]⟩] (.leaf (.int .i64)) w6 fun (x7 : Int) w8 => XCall Tryz.prog F.wal_Log_Sync [.pointer x5.1] (.leaf (.int .i64)) w8 fun (x9 : Int) w10 => XCall Tryz.prog F.wal_Log_Append [.pointer x5.1, .string ⟨#[98]⟩] (.leaf (.int .i64)) w10 fun (x11 : Int) w12 => XCalls Tryz.prog F.disk_Disk_Crash [.pointer x1.1, .slice none 0 0] [] w12 fun x13 w14 => XCalls Tryz.prog F.wal_Open [.pointer x1.1, .pointer x3] [.leaf .ptr, .leaf .slice, .leaf (.int .i64)] w14 fun (x15 : (Option Addr × Sl × Int × Unit)) w16 => XJoin (α := (Bool × Unit)) (fun s17 w18 => K (.bool s17.1) w18) (fun J19 => XIf ((x5.2.1 : Int) == 0) (XIf ((x7 : Int) == 0) (XIf ((x9 : Int) == 0) (XIf ((x15.2.2.1 : Int) == 0) (XIf ((((x15.2.1.len : Nat) : Int) : Int) == 1) (XNil x15.2.1.a fun a20 => ((0 : Int) ≤ 0 ∧ 0 < ((x15.2.1.len : Nat) : Int)) ∧ (XLoad .str (Addr.add a20 (0 * 1)) w16 fun (x21 : ByteArray) => J19 ((sEq x21 ⟨#[97]⟩), ()) w16)) (J19 (false, ()) w16)) (J19 (false, ()) w16)) (J19 (false, ()) w16)) (J19 (false, ()) w16)) (J19 (false, ()) w16))

set_option maxHeartbeats 8000000 in
set_option maxRecDepth 100000 in
theorem S.barquelaw15_awake_ok (K : Value → World → Prop) (w0 : World) (h : S.barquelaw15_awake   K w0) :
    Calls Tryz.prog F.barquelaw15_awake ⟨[]⟩ w0 fun e w' => ∃ v, e = .returned v ∧ K v w' :=
  calls_x (P := Tryz.prog) [0, 1, 3, 4, 5, 6, 7, 9, 10] (by kernel_rfl) Tryz.func16 (by kernel_rfl) (Eq.mp (by kernel_rfl : S.barquelaw15_awake   K w0 = xfn Tryz.prog [0, 1, 3, 4, 5, 6, 7, 9, 10] Tryz.f16 [] K w0) h)

set_option maxRecDepth 100000 in
set_option maxHeartbeats 8000000 in
/-- 17 barque/barquelaw15.begins -/
def S.barquelaw15_begins (p0_l : Sl) (p1_of : Sl) (p2_least : Int) (K : Value → World → Prop) (w0 : World) : Prop :=
  XJoin (α := (Bool × Unit)) (fun s1 w2 => XIf s1.1 (K (.bool false) w2) (XLoop (α := (Bool × Int × Unit)) (fun next6 s4 w5 => XIf (decide ((s4.2.1 : Int) < ((p0_l.len : Nat) : Int))) (XNil p0_l.a fun a7 => ((0 : Int) ≤ s4.2.1 ∧ s4.2.1 < ((p0_l.len : Nat) : Int)) ∧ (XLoad .str (Addr.add a7 ((Int.toNat s4.2.1) * 1)) (World.drew w5) fun (x8 : ByteArray) => XNil p1_of.a fun a9 => ((0 : Int) ≤ s4.2.1 ∧ s4.2.1 < ((p1_of.len : Nat) : Int)) ∧ (XLoad .str (Addr.add a9 ((Int.toNat s4.2.1) * 1)) (World.drew w5) fun (x10 : ByteArray) => XIf (!sEq x8 x10) (K (.bool false) (World.drew w5)) (XLet (((IntKind.wrap .i64 (s4.2.1 + 1))) : Int) fun n11 => next6 (s4.1, (n11, ())) (World.drew w5))))) (K (.bool true) w5)) (false, (0, ())) w2)) (fun J3 => XIf (decide ((((p0_l.len : Nat) : Int) : Int) > ((p1_of.len : Nat) : Int))) (J3 (true, ()) w0) (J3 ((decide ((((p0_l.len : Nat) : Int) : Int) < p2_least)), ()) w0))

set_option maxHeartbeats 8000000 in
set_option maxRecDepth 100000 in
theorem S.barquelaw15_begins_ok (p0_l : Sl) (p1_of : Sl) (p2_least : Int) (K : Value → World → Prop) (w0 : World) (h : S.barquelaw15_begins p0_l p1_of p2_least  K w0) :
    Calls Tryz.prog F.barquelaw15_begins ⟨[.slice p0_l.a p0_l.len p0_l.cap, .slice p1_of.a p1_of.len p1_of.cap, .int .i64 p2_least]⟩ w0 fun e w' => ∃ v, e = .returned v ∧ K v w' :=
  calls_x (P := Tryz.prog) [0, 1, 2, 6, 7, 18, 22, 33] (by kernel_rfl) Tryz.func17 (by kernel_rfl) (Eq.mp (by kernel_rfl : S.barquelaw15_begins p0_l p1_of p2_least  K w0 = xfn Tryz.prog [0, 1, 2, 6, 7, 18, 22, 33] Tryz.f17 [.slice p0_l.a p0_l.len p0_l.cap, .slice p1_of.a p1_of.len p1_of.cap, .int .i64 p2_least] K w0) h)

set_option maxRecDepth 100000 in
set_option maxHeartbeats 8000000 in
/-- 18 barque/barquelaw15.few -/
def S.barquelaw15_few (p0_l : Sl) (K : Value → World → Prop) (w0 : World) : Prop :=
  XLoop (α := (Sl × Int × Unit)) (fun next3 s1 w2 => XJoin (α := (Bool × Unit)) (fun s4 w5 => XIf s4.1 (XNil p0_l.a fun a7 => ((0 : Int) ≤ s1.2.1 ∧ s1.2.1 < ((p0_l.len : Nat) : Int)) ∧ (XLoad .str (Addr.add a7 ((Int.toNat s1.2.1) * 1)) w5 fun (x8 : ByteArray) => XCall Tryz.prog F.barquelaw15_cut [.string x8] (.leaf .str) w5 fun (x9 : ByteArray) w10 => XNew 9 [.string x9] w10 fun a11 w12 => XDo Tryz.prog (Builtin.append_ #[22, 22] 22 ⟨[.slice s1.1.a s1.1.len s1.1.cap, .slice (some a11) 1 1]⟩) (.leaf .slice) w12 fun (x13 : Sl) w14 => XLet (((IntKind.wrap .i64 (s1.2.1 + 1))) : Int) fun n15 => next3 (⟨x13.a, x13.len, x13.cap⟩, (n15, ())) w14)) (K (.slice s1.1.a s1.1.len s1.1.cap) w5)) (fun J6 => XIf (decide ((s1.2.1 : Int) < ((p0_l.len : Nat) : Int))) (J6 ((decide ((s1.2.1 : Int) < 8)), ()) w2) (J6 (false, ()) w2))) (⟨none, 0, 0⟩, (0, ())) w0

set_option maxHeartbeats 8000000 in
set_option maxRecDepth 100000 in
theorem S.barquelaw15_few_ok (p0_l : Sl) (K : Value → World → Prop) (w0 : World) (h : S.barquelaw15_few p0_l  K w0) :
    Calls Tryz.prog F.barquelaw15_few ⟨[.slice p0_l.a p0_l.len p0_l.cap]⟩ w0 fun e w' => ∃ v, e = .returned v ∧ K v w' :=
  calls_x (P := Tryz.prog) [0, 2, 3, 4, 12] (by kernel_rfl) Tryz.func18 (by kernel_rfl) (Eq.mp (by kernel_rfl : S.barquelaw15_few p0_l  K w0 = xfn Tryz.prog [0, 2, 3, 4, 12] Tryz.f18 [.slice p0_l.a p0_l.len p0_l.cap] K w0) h)

set_option maxRecDepth 100000 in
set_option maxHeartbeats 8000000 in
/-- 19 (*barque/wal.Log).Turn -/
def S.wal_Log_Turn (p0_l : Option Addr) (p1_snap : Sl) (K : Value → World → Prop) (w0 : World) : Prop :=
  XCall Tryz.prog F.wal_Log_closed [.pointer p0_l] (.leaf .bool) w0 fun (x1 : Bool) w2 => XIf x1 (K (.int .i64 15) w2) (XNil p0_l fun a3 => XLoad (.int .i64) (Addr.add a3 2) w2 fun (x4 : Int) => XIf ((x4 : Int) == 99999999) (K (.int .i64 2) w2) (XNil p0_l fun a5 => XLoad .ptr a5 (World.drew w2) fun (x6 : Option Addr) => XNil p0_l fun a7 => XLoad .ptr (Addr.add a7 1) (World.drew w2) fun (x8 : Option Addr) => XNil p0_l fun a9 => XLoad (.int .i64) (Addr.add a9 2) (World.drew w2) fun (x10 : Int) => XLet (((IntKind.wrap .i64 (x10 + 1))) : Int) fun n11 => XCalls Tryz.prog F.wal_begin [.pointer x6, .pointer x8, .int .i64 n11, .slice p1_snap.a p1_snap.len p1_snap.cap] [.leaf .ptr, .leaf (.int .i64)] (World.drew w2) fun (x12 : (Option Addr × Int × Unit)) w13 => (World.cell? w13 (Addr.add a9 2) = some (Leaf.mk (.int .i64) x10)) ∧ (XIf ((x12.2.1 : Int) != 0) (K (.int .i64 x12.2.1) w13) (XNil p0_l fun a14 => XLoad .ptr a14 (World.drew w13) fun (x15 : Option Addr) => XNil p0_l fun a16 => XLoad (.int .i64) (Addr.add a16 2) (World.drew w13) fun (x17 : Int) => XCall Tryz.prog F.wal_name [.int .i64 x17] (.leaf .str) (World.drew w13) fun (x18 : ByteArray) w19 => (World.cell? w19 a14 = some (Leaf.mk .ptr x15)) ∧ (XCall Tryz.prog F.disk_Disk_Remove [.pointer x15, .string x18] (.leaf (.int .i64)) w19 fun (x20 : Int) w21 => XNil x12.1 fun a22 => XLoads [.ptr, .ptr, (.int .i64), (.int .i64), .str] a22 w21 fun (x23 : (Option Addr × Option Addr × Int × Int × ByteArray × Unit)) => XNil p0_l fun a24 => XStores a24 0 [.pointer x23.1, .pointer x23.2.1, .int .i64 x23.2.2.1, .int .i64 x23.2.2.2.1, .string x23.2.2.2.2.1] w21 fun w25 => K (.int .i64 0) w25)))))

set_option maxHeartbeats 8000000 in
set_option maxRecDepth 100000 in
theorem S.wal_Log_Turn_ok (p0_l : Option Addr) (p1_snap : Sl) (K : Value → World → Prop) (w0 : World) (h : S.wal_Log_Turn p0_l p1_snap  K w0) :
    Calls Tryz.prog F.wal_Log_Turn ⟨[.pointer p0_l, .slice p1_snap.a p1_snap.len p1_snap.cap]⟩ w0 fun e w' => ∃ v, e = .returned v ∧ K v w' :=
  calls_x (P := Tryz.prog) [0, 1, 4, 5, 6, 8, 13, 33] (by kernel_rfl) Tryz.func19 (by kernel_rfl) (Eq.mp (by kernel_rfl : S.wal_Log_Turn p0_l p1_snap  K w0 = xfn Tryz.prog [0, 1, 4, 5, 6, 8, 13, 33] Tryz.f19 [.pointer p0_l, .slice p1_snap.a p1_snap.len p1_snap.cap] K w0) h)

set_option maxRecDepth 100000 in
set_option maxHeartbeats 8000000 in
/-- 20 (*barque/disk.Disk).Crash -/
def S.disk_Disk_Crash (p0_d : Option Addr) (p1_fates : Sl) (K : Value → World → Prop) (w0 : World) : Prop :=
  XIf (Option.isNone p0_d) (K (.tuple ⟨[]⟩) w0) (XJoin (α := (Unit)) (fun s1 w2 => XNil p0_d fun a4 => XStore (Addr.add a4 1) (.slice none 0 0) w2 fun w5 => XNil p0_d fun a6 => XStore (Addr.add a6 3) (.int .i64 (-1)) w5 fun w7 => XNil p0_d fun a8 => XStore (Addr.add a8 4) (.bool false) w7 fun w9 => XNil p0_d fun a10 => XLoad .slice a10 w9 fun (x11 : Sl) => XLoop (α := (Int × Unit)) (fun next14 s12 w13 => XIf (decide ((s12.1 : Int) < ((x11.len : Nat) : Int))) (XNil x11.a fun a15 => ((0 : Int) ≤ s12.1 ∧ s12.1 < ((x11.len : Nat) : Int)) ∧ (XLoad .ptr (Addr.add a15 ((Int.toNat s12.1) * 1)) w13 fun (x16 : Option Addr) => XNil x16 fun a17 => XLoad .slice (Addr.add a17 2) w13 fun (x18 : Sl) => XCall Tryz.prog F.slices_Clone [.slice x18.a x18.len x18.cap] (.leaf .slice) w13 fun (x19 : Sl) w20 => XNil x16 fun a21 => XStore (Addr.add a21 3) (.slice x19.a x19.len x19.cap) w20 fun w22 => XLet (((IntKind.wrap .i64 (s12.1 + 1))) : Int) fun n23 => next14 (n23, ()) w22)) (K (.tuple ⟨[]⟩) w13)) (0, ()) w9) (fun J3 => XNil p0_d fun a24 => XLoad .slice (Addr.add a24 1) w0 fun (x25 : Sl) => XLoop (α := (Int × Unit)) (fun next28 s26 w27 => XIf (decide ((s26.1 : Int) < ((x25.len : Nat) : Int))) (XJoin (α := (Unit)) (fun s29 w30 => XLet (((IntKind.wrap .i64 (s26.1 + 1))) : Int) fun n32 => next28 (n32, ()) w30) (fun J31 => XNil x25.a fun a33 => ((0 : Int) ≤ s26.1 ∧ s26.1 < ((x25.len : Nat) : Int)) ∧ (XLoads [(.int .i64), (.int .i64), (.int .i64), .str] (Addr.add a33 ((Int.toNat s26.1) * 4)) w27 fun (x34 : (Int × Int × Int × ByteArray × Unit)) => XNew 86 [.int .i64 0, .int .i64 0, .int .i64 0, .string ByteArray.empty] w27 fun a35 w36 => XStores a35 0 [.int .i64 x34.1, .int .i64 x34.2.1, .int .i64 x34.2.2.1, .string x34.2.2.2.1] w36 fun w37 => XIf (decide ((s26.1 : Int) ≥ ((p1_fates.len : Nat) : Int))) (J3 () w37) (XLoad .str (Addr.add a35 3) w37 fun (x38 : ByteArray) => XNil p1_fates.a fun a39 => ((0 : Int) ≤ s26.1 ∧ s26.1 < ((p1_fates.len : Nat) : Int)) ∧ (XLoad (.int .i64) (Addr.add a39 ((Int.toNat s26.1) * 1)) w37 fun (x40 : Int) => XJoin (α := (Int × Unit)) (fun s41 w42 => XLoads [(.int .i64), (.int .i64), (.int .i64), .str] a35 w42 fun (x44 : (Int × Int × Int × ByteArray × Unit)) => XLoad .str (Addr.add a35 3) w42 fun (x45 : ByteArray) => XCalls Tryz.prog F.disk_Disk_last [.pointer p0_d, .agg ⟨[.int .i64 x44.1, .int .i64 x44.2.1, .int .i64 x44.2.2.1, .string x44.2.2.2.1]⟩, .int .i64 (((ByteArray.size x45) : Nat) : Int)] [] w42 fun x46 w47 => J31 () w47) (fun J43 => XIf ((x40 : Int) == 2) ((2 : Int) ≠ 0 ∧ (XLet (((IntKind.wrap .i64 (Int.tdiv (((ByteArray.size x38) : Nat) : Int) 2))) : Int) fun n48 => XLoad .str (Addr.add a35 3) w37 fun (x49 : ByteArray) => (((0 : Int) ≤ n48 ∧ n48 ≤ (((ByteArray.size x49) : Nat) : Int)) ∧ (0 : Int) ≤ 0 ∧ (0 : Int) ≤ n48) ∧ (XLet (((ByteArray.extract x49 0 (Int.toNat n48))) : ByteArray) fun t50 => XStore (Addr.add a35 3) (.string t50) w37 fun w51 => J43 (n48, ()) w51))) (XIf ((x40 : Int) == 1) (J43 ((((ByteArray.size x38) : Nat) : Int), ()) w37) (XIf ((x40 : Int) == 0) (J31 () w37) (J31 () w37))))))))) (J3 () w27)) (0, ()) w0))

set_option maxHeartbeats 8000000 in
set_option maxRecDepth 100000 in
theorem S.disk_Disk_Crash_ok (p0_d : Option Addr) (p1_fates : Sl) (K : Value → World → Prop) (w0 : World) (h : S.disk_Disk_Crash p0_d p1_fates  K w0) :
    Calls Tryz.prog F.disk_Disk_Crash ⟨[.pointer p0_d, .slice p1_fates.a p1_fates.len p1_fates.cap]⟩ w0 fun e w' => ∃ v, e = .returned v ∧ K v w' :=
  calls_x (P := Tryz.prog) [0, 1, 4, 5, 6, 8, 10, 14, 15, 16, 17, 24, 31, 32, 34, 36, 64, 65, 66, 67] (by kernel_rfl) Tryz.func20 (by kernel_rfl) (Eq.mp (by kernel_rfl : S.disk_Disk_Crash p0_d p1_fates  K w0 = xfn Tryz.prog [0, 1, 4, 5, 6, 8, 10, 14, 15, 16, 17, 24, 31, 32, 34, 36, 64, 65, 66, 67] Tryz.f20 [.pointer p0_d, .slice p1_fates.a p1_fates.len p1_fates.cap] K w0) h)

set_option maxRecDepth 100000 in
set_option maxHeartbeats 8000000 in
/-- 21 (*barque/disk.Disk).List -/
def S.disk_Disk_List (p0_d : Option Addr) (K : Value → World → Prop) (w0 : World) : Prop :=
  XCall Tryz.prog F.disk_Disk_ready [.pointer p0_d] (.leaf (.int .i64)) w0 fun (x1 : Int) w2 => XIf ((x1 : Int) != 0) (K (.tuple ⟨[.slice none 0 0, .int .i64 x1]⟩) w2) (XNil p0_d fun a3 => XLoad .slice a3 w2 fun (x4 : Sl) => XLoop (α := (Sl × Int × Unit)) (fun next7 s5 w6 => XIf (decide ((s5.2.1 : Int) < ((x4.len : Nat) : Int))) (XNil x4.a fun a8 => ((0 : Int) ≤ s5.2.1 ∧ s5.2.1 < ((x4.len : Nat) : Int)) ∧ (XLoad .ptr (Addr.add a8 ((Int.toNat s5.2.1) * 1)) w6 fun (x9 : Option Addr) => XNil x9 fun a10 => XLoad .str (Addr.add a10 1) w6 fun (x11 : ByteArray) => XNew 9 [.string x11] w6 fun a12 w13 => XDo Tryz.prog (Builtin.append_ #[22, 22] 22 ⟨[.slice s5.1.a s5.1.len s5.1.cap, .slice (some a12) 1 1]⟩) (.leaf .slice) w13 fun (x14 : Sl) w15 => XLet (((IntKind.wrap .i64 (s5.2.1 + 1))) : Int) fun n16 => next7 (⟨x14.a, x14.len, x14.cap⟩, (n16, ())) w15)) (K (.tuple ⟨[.slice s5.1.a s5.1.len s5.1.cap, .int .i64 0]⟩) w6)) (⟨none, 0, 0⟩, (0, ())) w2)

set_option maxHeartbeats 8000000 in
set_option maxRecDepth 100000 in
theorem S.disk_Disk_List_ok (p0_d : Option Addr) (K : Value → World → Prop) (w0 : World) (h : S.disk_Disk_List p0_d  K w0) :
    Calls Tryz.prog F.disk_Disk_List ⟨[.pointer p0_d]⟩ w0 fun e w' => ∃ v, e = .returned v ∧ K v w' :=
  calls_x (P := Tryz.prog) [0, 2, 3, 4, 5, 7, 11, 16, 17, 18, 19] (by kernel_rfl) Tryz.func21 (by kernel_rfl) (Eq.mp (by kernel_rfl : S.disk_Disk_List p0_d  K w0 = xfn Tryz.prog [0, 2, 3, 4, 5, 7, 11, 16, 17, 18, 19] Tryz.f21 [.pointer p0_d] K w0) h)

set_option maxRecDepth 100000 in
set_option maxHeartbeats 8000000 in
/-- 22 barque/barquelaw15.same -/
def S.barquelaw15_same (p0_a : Sl) (p1_b : Sl) (K : Value → World → Prop) (w0 : World) : Prop :=
  XJoin (α := (Bool × Unit)) (fun s1 w2 => K (.bool s1.1) w2) (fun J3 => XIf ((((p0_a.len : Nat) : Int) : Int) == ((p1_b.len : Nat) : Int)) (XCall Tryz.prog F.barquelaw15_begins [.slice p0_a.a p0_a.len p0_a.cap, .slice p1_b.a p1_b.len p1_b.cap, .int .i64 0] (.leaf .bool) w0 fun (x4 : Bool) w5 => J3 (x4, ()) w5) (J3 (false, ()) w0))

set_option maxHeartbeats 8000000 in
set_option maxRecDepth 100000 in
theorem S.barquelaw15_same_ok (p0_a : Sl) (p1_b : Sl) (K : Value → World → Prop) (w0 : World) (h : S.barquelaw15_same p0_a p1_b  K w0) :
    Calls Tryz.prog F.barquelaw15_same ⟨[.slice p0_a.a p0_a.len p0_a.cap, .slice p1_b.a p1_b.len p1_b.cap]⟩ w0 fun e w' => ∃ v, e = .returned v ∧ K v w' :=
  calls_x (P := Tryz.prog) [0, 1, 4] (by kernel_rfl) Tryz.func22 (by kernel_rfl) (Eq.mp (by kernel_rfl : S.barquelaw15_same p0_a p1_b  K w0 = xfn Tryz.prog [0, 1, 4] Tryz.f22 [.slice p0_a.a p0_a.len p0_a.cap, .slice p1_b.a p1_b.len p1_b.cap] K w0) h)

set_option maxRecDepth 100000 in
set_option maxHeartbeats 8000000 in
/-- 23 (*barque/wal.Log).Segment -/
def S.wal_Log_Segment (p0_l : Option Addr) (K : Value → World → Prop) (w0 : World) : Prop :=
  XCall Tryz.prog F.wal_Log_closed [.pointer p0_l] (.leaf .bool) w0 fun (x1 : Bool) w2 => XIf x1 (K (.int .i64 0) w2) (XNil p0_l fun a3 => XLoad (.int .i64) (Addr.add a3 2) w2 fun (x4 : Int) => K (.int .i64 x4) w2)

set_option maxHeartbeats 8000000 in
set_option maxRecDepth 100000 in
theorem S.wal_Log_Segment_ok (p0_l : Option Addr) (K : Value → World → Prop) (w0 : World) (h : S.wal_Log_Segment p0_l  K w0) :
    Calls Tryz.prog F.wal_Log_Segment ⟨[.pointer p0_l]⟩ w0 fun e w' => ∃ v, e = .returned v ∧ K v w' :=
  calls_x (P := Tryz.prog) [0, 2, 4] (by kernel_rfl) Tryz.func23 (by kernel_rfl) (Eq.mp (by kernel_rfl : S.wal_Log_Segment p0_l  K w0 = xfn Tryz.prog [0, 2, 4] Tryz.f23 [.pointer p0_l] K w0) h)

set_option maxRecDepth 100000 in
set_option maxHeartbeats 8000000 in
/-- 24 (*barque/wal.Log).Size -/
def S.wal_Log_Size (p0_l : Option Addr) (K : Value → World → Prop) (w0 : World) : Prop :=
  XCall Tryz.prog F.wal_Log_closed [.pointer p0_l] (.leaf .bool) w0 fun (x1 : Bool) w2 => XIf x1 (K (.int .i64 0) w2) (XNil p0_l fun a3 => XLoad (.int .i64) (Addr.add a3 3) w2 fun (x4 : Int) => K (.int .i64 x4) w2)

set_option maxHeartbeats 8000000 in
set_option maxRecDepth 100000 in
theorem S.wal_Log_Size_ok (p0_l : Option Addr) (K : Value → World → Prop) (w0 : World) (h : S.wal_Log_Size p0_l  K w0) :
    Calls Tryz.prog F.wal_Log_Size ⟨[.pointer p0_l]⟩ w0 fun e w' => ∃ v, e = .returned v ∧ K v w' :=
  calls_x (P := Tryz.prog) [0, 2, 4] (by kernel_rfl) Tryz.func24 (by kernel_rfl) (Eq.mp (by kernel_rfl : S.wal_Log_Size p0_l  K w0 = xfn Tryz.prog [0, 2, 4] Tryz.f24 [.pointer p0_l] K w0) h)

set_option maxRecDepth 100000 in
set_option maxHeartbeats 8000000 in
/-- 25 (*barque/barquelaw15.world).step -/
def S.barquelaw15_world_step (p0_w : Option Addr) (p1_o : HL [(.int .i64), (.int .i64), .str, .slice, .slice]) (K : Value → World → Prop) (w0 : World) : Prop :=
  XNew 52 [.int .i64 p1_o.1, .int .i64 p1_o.2.1, .string p1_o.2.2.1, .slice p1_o.2.2.2.1.a p1_o.2.2.2.1.len p1_o.2.2.2.1.cap, .slice p1_o.2.2.2.2.1.a p1_o.2.2.2.2.1.len p1_o.2.2.2.2.1.cap] w0 fun a1 w2 => XNil p0_w fun a3 => XLoad .ptr a3 w2 fun (x4 : Option Addr) => XCall Tryz.prog F.disk_Disk_Up [.pointer x4] (.leaf .bool) w2 fun (x5 : Bool) w6 => XLoad (.int .i64) a1 w6 fun (x7 : Int) => XIf ((x7 : Int) == 0) (XLoad .str (Addr.add a1 2) w6 fun (x8 : ByteArray) => XCall Tryz.prog F.barquelaw15_cut [.string x8] (.leaf .str) w6 fun (x9 : ByteArray) w10 => XNil p0_w fun a11 => XLoad .ptr (Addr.add a11 2) w10 fun (x12 : Option Addr) => XCall Tryz.prog F.wal_Log_Append [.pointer x12, .string x9] (.leaf (.int .i64)) w10 fun (x13 : Int) w14 => XJoin (α := (Unit)) (fun s15 w16 => XJoin (α := (Bool × Unit)) (fun s18 w19 => K (.bool s18.1) w19) (fun J20 => XIf ((x13 : Int) == 0) (XIf x5 (J20 (true, ()) w16) (XIf ((x13 : Int) == 14) (XNil p0_w fun a21 => XLoad .ptr a21 w16 fun (x22 : Option Addr) => XCall Tryz.prog F.disk_Disk_Up [.pointer x22] (.leaf .bool) w16 fun (x23 : Bool) w24 => XIf (!x23) (J20 (true, ()) w24) (XIf ((x13 : Int) == 7) (J20 (x5, ()) w24) (J20 (false, ()) w24))) (XIf ((x13 : Int) == 7) (J20 (x5, ()) w16) (J20 (false, ()) w16)))) (XIf ((x13 : Int) == 14) (XNil p0_w fun a25 => XLoad .ptr a25 w16 fun (x26 : Option Addr) => XCall Tryz.prog F.disk_Disk_Up [.pointer x26] (.leaf .bool) w16 fun (x27 : Bool) w28 => XIf (!x27) (J20 (true, ()) w28) (XIf ((x13 : Int) == 7) (J20 (x5, ()) w28) (J20 (false, ()) w28))) (XIf ((x13 : Int) == 7) (J20 (x5, ()) w16) (J20 (false, ()) w16))))) (fun J17 => XJoin (α := (Bool × Unit)) (fun s29 w30 => XIf s29.1 (XNew 9 [] w30 fun a32 w33 => XNil p0_w fun a34 => XLoad .slice (Addr.add a34 3) w33 fun (x35 : Sl) => XDo Tryz.prog (Builtin.append_ #[22, 22] 22 ⟨[.slice (some a32) 0 0, .slice x35.a x35.len x35.cap]⟩) (.leaf .slice) w33 fun (x36 : Sl) w37 => XNew 9 [.string x9] w37 fun a38 w39 => XDo Tryz.prog (Builtin.append_ #[22, 22] 22 ⟨[.slice x36.a x36.len x36.cap, .slice (some a38) 1 1]⟩) (.leaf .slice) w39 fun (x40 : Sl) w41 => XNil p0_w fun a42 => XStore (Addr.add a42 3) (.slice x40.a x40.len x40.cap) w41 fun w43 => J17 () w43) (J17 () w30)) (fun J31 => XIf ((x13 : Int) == 0) (J31 (true, ()) w14) (XIf ((x13 : Int) == 14) (J31 (x5, ()) w14) (J31 (false, ()) w14))))) (XIf ((x7 : Int) == 1) (XNil p0_w fun a44 => XLoad .ptr (Addr.add a44 2) w6 fun (x45 : Option Addr) => XCall Tryz.prog F.wal_Log_Sync [.pointer x45] (.leaf (.int .i64)) w6 fun (x46 : Int) w47 => XJoin (α := (Unit)) (fun s48 w49 => XJoin (α := (Bool × Unit)) (fun s51 w52 => K (.bool s51.1) w52) (fun J53 => XIf (((x46 : Int) == 0) == x5) (XIf x5 (J53 (true, ()) w49) (J53 (((x46 : Int) == 14), ()) w49)) (J53 (false, ()) w49))) (fun J50 => XIf ((x46 : Int) == 0) (XNil p0_w fun a54 => XLoad .slice (Addr.add a54 3) w47 fun (x55 : Sl) => XNil p0_w fun a56 => XStore (Addr.add a56 4) (.int .i64 ((x55.len : Nat) : Int)) w47 fun w57 => J50 () w57) (J50 () w47))) (XIf ((x7 : Int) == 2) (XLoad .slice (Addr.add a1 3) w6 fun (x58 : Sl) => XCall Tryz.prog F.barquelaw15_few [.slice x58.a x58.len x58.cap] (.leaf .slice) w6 fun (x59 : Sl) w60 => XCall Tryz.prog F.barquelaw15_world_turn [.pointer p0_w, .slice x59.a x59.len x59.cap] (.leaf .bool) w60 fun (x61 : Bool) w62 => K (.bool x61) w62) (XIf ((x7 : Int) == 3) (XNil p0_w fun a63 => XLoad .ptr a63 (World.drew w6) fun (x64 : Option Addr) => XLoad .slice (Addr.add a1 4) (World.drew w6) fun (x65 : Sl) => XCalls Tryz.prog F.disk_Disk_Crash [.pointer x64, .slice x65.a x65.len x65.cap] [] (World.drew w6) fun x66 w67 => XCall Tryz.prog F.barquelaw15_world_open [.pointer p0_w] (.leaf .bool) w67 fun (x68 : Bool) w69 => K (.bool x68) w69) (XNil p0_w fun a70 => XLoad .ptr a70 (World.drew w6) fun (x71 : Option Addr) => XLoad (.int .i64) (Addr.add a1 1) (World.drew w6) fun (x72 : Int) => XCall Tryz.prog F.disk_Disk_Arm [.pointer x71, .int .i64 x72] (.leaf (.int .i64)) (World.drew w6) fun (x73 : Int) w74 => K (.bool true) w74))))

set_option maxHeartbeats 8000000 in
set_option maxRecDepth 100000 in
theorem S.barquelaw15_world_step_ok (p0_w : Option Addr) (p1_o : HL [(.int .i64), (.int .i64), .str, .slice, .slice]) (K : Value → World → Prop) (w0 : World) (h : S.barquelaw15_world_step p0_w p1_o  K w0) :
    Calls Tryz.prog F.barquelaw15_world_step ⟨[.pointer p0_w, .agg ⟨[.int .i64 p1_o.1, .int .i64 p1_o.2.1, .string p1_o.2.2.1, .slice p1_o.2.2.2.1.a p1_o.2.2.2.1.len p1_o.2.2.2.1.cap, .slice p1_o.2.2.2.2.1.a p1_o.2.2.2.2.1.len p1_o.2.2.2.2.1.cap]⟩]⟩ w0 fun e w' => ∃ v, e = .returned v ∧ K v w' :=
  calls_x (P := Tryz.prog) [0, 1, 3, 4, 5, 6, 7, 8, 15, 23, 42, 79, 87, 107, 114] (by kernel_rfl) Tryz.func25 (by kernel_rfl) (Eq.mp (by kernel_rfl : S.barquelaw15_world_step p0_w p1_o  K w0 = xfn Tryz.prog [0, 1, 3, 4, 5, 6, 7, 8, 15, 23, 42, 79, 87, 107, 114] Tryz.f25 [.pointer p0_w, .agg ⟨[.int .i64 p1_o.1, .int .i64 p1_o.2.1, .string p1_o.2.2.1, .slice p1_o.2.2.2.1.a p1_o.2.2.2.1.len p1_o.2.2.2.1.cap, .slice p1_o.2.2.2.2.1.a p1_o.2.2.2.2.1.len p1_o.2.2.2.2.1.cap]⟩] K w0) h)

set_option maxRecDepth 100000 in
set_option maxHeartbeats 8000000 in
/-- 26 (*barque/barquelaw15.world).open -/
def S.barquelaw15_world_open (p0_w : Option Addr) (K : Value → World → Prop) (w0 : World) : Prop :=
  XNil p0_w fun a1 => XLoad .ptr a1 (World.drew w0) fun (x2 : Option Addr) => XNil p0_w fun a3 => XLoad .ptr (Addr.add a3 1) (World.drew w0) fun (x4 : Option Addr) => XCalls Tryz.prog F.wal_Open [.pointer x2, .pointer x4] [.leaf .ptr, .leaf .slice, .leaf (.int .i64)] (World.drew w0) fun (x5 : (Option Addr × Sl × Int × Unit)) w6 => XIf ((x5.2.2.1 : Int) != 0) (K (.bool false) w6) (XJoin (α := (Bool × Unit)) (fun s7 w8 => XIf s7.1 (K (.bool false) w8) (XNil p0_w fun a10 => XStore (Addr.add a10 2) (.pointer x5.1) w8 fun w11 => XNew 9 [] w11 fun a12 w13 => XDo Tryz.prog (Builtin.append_ #[22, 22] 22 ⟨[.slice (some a12) 0 0, .slice x5.2.1.a x5.2.1.len x5.2.1.cap]⟩) (.leaf .slice) w13 fun (x14 : Sl) w15 => XNil p0_w fun a16 => XStore (Addr.add a16 3) (.slice x14.a x14.len x14.cap) w15 fun w17 => XNil p0_w fun a18 => XStore (Addr.add a18 4) (.int .i64 ((x5.2.1.len : Nat) : Int)) w17 fun w19 => XNil p0_w fun a20 => XStore (Addr.add a20 5) (.bool false) w19 fun w21 => K (.bool true) w21)) (fun J9 => XNil p0_w fun a22 => XLoad .slice (Addr.add a22 3) (World.drew w6) fun (x23 : Sl) => XNil p0_w fun a24 => XLoad (.int .i64) (Addr.add a24 4) (World.drew w6) fun (x25 : Int) => XCall Tryz.prog F.barquelaw15_begins [.slice x5.2.1.a x5.2.1.len x5.2.1.cap, .slice x23.a x23.len x23.cap, .int .i64 x25] (.leaf .bool) (World.drew w6) fun (x26 : Bool) w27 => XIf (!x26) (XNil p0_w fun a28 => XLoad .bool (Addr.add a28 5) w27 fun (x29 : Bool) => XIf x29 (XNil p0_w fun a30 => XLoad .slice (Addr.add a30 6) w27 fun (x31 : Sl) => XCall Tryz.prog F.barquelaw15_same [.slice x5.2.1.a x5.2.1.len x5.2.1.cap, .slice x31.a x31.len x31.cap] (.leaf .bool) w27 fun (x32 : Bool) w33 => (World.cell? w33 (Addr.add a28 5) = some (Leaf.mk .bool x29)) ∧ (J9 ((!x32), ()) w33)) (J9 ((!false), ()) w27)) (J9 (false, ()) w27)))

set_option maxHeartbeats 8000000 in
set_option maxRecDepth 100000 in
theorem S.barquelaw15_world_open_ok (p0_w : Option Addr) (K : Value → World → Prop) (w0 : World) (h : S.barquelaw15_world_open p0_w  K w0) :
    Calls Tryz.prog F.barquelaw15_world_open ⟨[.pointer p0_w]⟩ w0 fun e w' => ∃ v, e = .returned v ∧ K v w' :=
  calls_x (P := Tryz.prog) [0, 2, 3, 4, 5, 20, 46] (by kernel_rfl) Tryz.func26 (by kernel_rfl) (Eq.mp (by kernel_rfl : S.barquelaw15_world_open p0_w  K w0 = xfn Tryz.prog [0, 2, 3, 4, 5, 20, 46] Tryz.f26 [.pointer p0_w] K w0) h)

set_option maxRecDepth 100000 in
set_option maxHeartbeats 8000000 in
/-- 27 (*barque/disk.Disk).Arm -/
def S.disk_Disk_Arm (p0_d : Option Addr) (p1_n : Int) (K : Value → World → Prop) (w0 : World) : Prop :=
  XCall Tryz.prog F.disk_Disk_ready [.pointer p0_d] (.leaf (.int .i64)) w0 fun (x1 : Int) w2 => XIf ((x1 : Int) != 0) (K (.int .i64 x1) w2) (XIf (decide ((p1_n : Int) < 0)) (K (.int .i64 1) w2) (XNil p0_d fun a3 => XStore (Addr.add a3 3) (.int .i64 p1_n) w2 fun w4 => K (.int .i64 0) w4))

set_option maxHeartbeats 8000000 in
set_option maxRecDepth 100000 in
theorem S.disk_Disk_Arm_ok (p0_d : Option Addr) (p1_n : Int) (K : Value → World → Prop) (w0 : World) (h : S.disk_Disk_Arm p0_d p1_n  K w0) :
    Calls Tryz.prog F.disk_Disk_Arm ⟨[.pointer p0_d, .int .i64 p1_n]⟩ w0 fun e w' => ∃ v, e = .returned v ∧ K v w' :=
  calls_x (P := Tryz.prog) [0, 1, 4, 5, 9, 12] (by kernel_rfl) Tryz.func27 (by kernel_rfl) (Eq.mp (by kernel_rfl : S.disk_Disk_Arm p0_d p1_n  K w0 = xfn Tryz.prog [0, 1, 4, 5, 9, 12] Tryz.f27 [.pointer p0_d, .int .i64 p1_n] K w0) h)

set_option maxRecDepth 100000 in
set_option maxHeartbeats 8000000 in
/-- 28 (*barque/disk.Disk).Create -/
def S.disk_Disk_Create (p0_d : Option Addr) (p1_name : ByteArray) (K : Value → World → Prop) (w0 : World) : Prop :=
  XCall Tryz.prog F.disk_Disk_ready [.pointer p0_d] (.leaf (.int .i64)) w0 fun (x1 : Int) w2 => XIf ((x1 : Int) != 0) (K (.int .i64 x1) w2) (XCall Tryz.prog F.disk_named [.string p1_name] (.leaf .bool) w2 fun (x3 : Bool) w4 => XIf (!x3) (K (.int .i64 1) w4) (XCalls Tryz.prog F.disk_Disk_place [.pointer p0_d, .string p1_name] [.leaf (.int .i64), .leaf .bool] w4 fun (x5 : (Int × Bool × Unit)) w6 => XIf x5.2.1 (K (.int .i64 9) w6) (XNil p0_d fun a7 => XLoad .slice a7 (World.drew w6) fun (x8 : Sl) => XNil p0_d fun a9 => XLoad (.int .i64) (Addr.add a9 6) (World.drew w6) fun (x10 : Int) => XNew 73 [.int .i64 x10, .string p1_name, .slice none 0 0, .slice none 0 0] (World.drew w6) fun a11 w12 => (World.cell? w12 (Addr.add a9 6) = some (Leaf.mk (.int .i64) x10)) ∧ ((World.cell? w12 a7 = some (Leaf.mk .slice x8)) ∧ (XNew 70 [.pointer (some a11)] w12 fun a13 w14 => (World.cell? w14 (Addr.add a9 6) = some (Leaf.mk (.int .i64) x10)) ∧ ((World.cell? w14 a7 = some (Leaf.mk .slice x8)) ∧ (XCall Tryz.prog F.slices_Insert [.slice x8.a x8.len x8.cap, .int .i64 x5.1, .slice (some a13) 1 1] (.leaf .slice) w14 fun (x15 : Sl) w16 => (World.cell? w16 (Addr.add a9 6) = some (Leaf.mk (.int .i64) x10)) ∧ (XNil p0_d fun a17 => XStore a17 (.slice x15.a x15.len x15.cap) w16 fun w18 => XNil p0_d fun a19 => XLoad (.int .i64) (Addr.add a19 6) w18 fun (x20 : Int) => XLet (((IntKind.wrap .i64 (x20 + 1))) : Int) fun n21 => XNil p0_d fun a22 => XStore (Addr.add a22 6) (.int .i64 n21) w18 fun w23 => K (.int .i64 0) w23))))))))

set_option maxHeartbeats 8000000 in
set_option maxRecDepth 100000 in
theorem S.disk_Disk_Create_ok (p0_d : Option Addr) (p1_name : ByteArray) (K : Value → World → Prop) (w0 : World) (h : S.disk_Disk_Create p0_d p1_name  K w0) :
    Calls Tryz.prog F.disk_Disk_Create ⟨[.pointer p0_d, .string p1_name]⟩ w0 fun e w' => ∃ v, e = .returned v ∧ K v w' :=
  calls_x (P := Tryz.prog) [0, 1, 4, 5, 6, 7, 11, 15, 22] (by kernel_rfl) Tryz.func28 (by kernel_rfl) (Eq.mp (by kernel_rfl : S.disk_Disk_Create p0_d p1_name  K w0 = xfn Tryz.prog [0, 1, 4, 5, 6, 7, 11, 15, 22] Tryz.f28 [.pointer p0_d, .string p1_name] K w0) h)

set_option maxRecDepth 100000 in
set_option maxHeartbeats 8000000 in
/-- 29 barque/wal.Format -/
def S.wal_Format (p0_d : Option Addr) (p1_b : Option Addr) (K : Value → World → Prop) (w0 : World) : Prop :=
  XCall Tryz.prog F.wal_none [.pointer p0_d, .pointer p1_b] (.leaf .bool) w0 fun (x1 : Bool) w2 => XIf x1 (K (.tuple ⟨[.pointer none, .int .i64 1]⟩) w2) (XCalls Tryz.prog F.wal_segments [.pointer p0_d] [.leaf .slice, .leaf (.int .i64)] w2 fun (x3 : (Sl × Int × Unit)) w4 => XIf ((x3.2.1 : Int) != 0) (K (.tuple ⟨[.pointer none, .int .i64 x3.2.1]⟩) w4) (XLoop (α := (Int × Unit)) (fun next7 s5 w6 => XIf (decide ((s5.1 : Int) < ((x3.1.len : Nat) : Int))) (XNil x3.1.a fun a8 => ((0 : Int) ≤ s5.1 ∧ s5.1 < ((x3.1.len : Nat) : Int)) ∧ (XLoad (.int .i64) (Addr.add a8 ((Int.toNat s5.1) * 1)) w6 fun (x9 : Int) => XCall Tryz.prog F.wal_name [.int .i64 x9] (.leaf .str) w6 fun (x10 : ByteArray) w11 => XCall Tryz.prog F.disk_Disk_Remove [.pointer p0_d, .string x10] (.leaf (.int .i64)) w11 fun (x12 : Int) w13 => XLet (((IntKind.wrap .i64 (s5.1 + 1))) : Int) fun n14 => next7 (n14, ()) w13)) (XCalls Tryz.prog F.wal_begin [.pointer p0_d, .pointer p1_b, .int .i64 1, .slice none 0 0] [.leaf .ptr, .leaf (.int .i64)] w6 fun (x15 : (Option Addr × Int × Unit)) w16 => K (.tuple ⟨[.pointer x15.1, .int .i64 x15.2.1]⟩) w16)) (0, ()) w4))

set_option maxHeartbeats 8000000 in
set_option maxRecDepth 100000 in
theorem S.wal_Format_ok (p0_d : Option Addr) (p1_b : Option Addr) (K : Value → World → Prop) (w0 : World) (h : S.wal_Format p0_d p1_b  K w0) :
    Calls Tryz.prog F.wal_Format ⟨[.pointer p0_d, .pointer p1_b]⟩ w0 fun e w' => ∃ v, e = .returned v ∧ K v w' :=
  calls_x (P := Tryz.prog) [0, 1, 4, 5, 6, 7, 9, 12, 19, 21, 22, 23, 24] (by kernel_rfl) Tryz.func29 (by kernel_rfl) (Eq.mp (by kernel_rfl : S.wal_Format p0_d p1_b  K w0 = xfn Tryz.prog [0, 1, 4, 5, 6, 7, 9, 12, 19, 21, 22, 23, 24] Tryz.f29 [.pointer p0_d, .pointer p1_b] K w0) h)

set_option maxRecDepth 100000 in
set_option maxHeartbeats 8000000 in
/-- 30 (*barque/disk.Disk).Size -/
def S.disk_Disk_Size (p0_d : Option Addr) (p1_name : ByteArray) (K : Value → World → Prop) (w0 : World) : Prop :=
  XCall Tryz.prog F.disk_Disk_ready [.pointer p0_d] (.leaf (.int .i64)) w0 fun (x1 : Int) w2 => XIf ((x1 : Int) != 0) (K (.tuple ⟨[.int .i64 0, .int .i64 x1]⟩) w2) (XCall Tryz.prog F.disk_Disk_find [.pointer p0_d, .string p1_name] (.leaf .ptr) w2 fun (x3 : Option Addr) w4 => XIf (Option.isNone x3) (K (.tuple ⟨[.int .i64 0, .int .i64 8]⟩) w4) (XNil x3 fun a5 => XLoad .slice (Addr.add a5 3) w4 fun (x6 : Sl) => K (.tuple ⟨[.int .i64 ((x6.len : Nat) : Int), .int .i64 0]⟩) w4))

set_option maxHeartbeats 8000000 in
set_option maxRecDepth 100000 in
theorem S.disk_Disk_Size_ok (p0_d : Option Addr) (p1_name : ByteArray) (K : Value → World → Prop) (w0 : World) (h : S.disk_Disk_Size p0_d p1_name  K w0) :
    Calls Tryz.prog F.disk_Disk_Size ⟨[.pointer p0_d, .string p1_name]⟩ w0 fun e w' => ∃ v, e = .returned v ∧ K v w' :=
  calls_x (P := Tryz.prog) [0, 1, 4, 5, 6, 7, 11, 17] (by kernel_rfl) Tryz.func30 (by kernel_rfl) (Eq.mp (by kernel_rfl : S.disk_Disk_Size p0_d p1_name  K w0 = xfn Tryz.prog [0, 1, 4, 5, 6, 7, 11, 17] Tryz.f30 [.pointer p0_d, .string p1_name] K w0) h)

set_option maxRecDepth 100000 in
set_option maxHeartbeats 8000000 in
/-- 31 (*barque/disk.Disk).Writes -/
def S.disk_Disk_Writes (p0_d : Option Addr) (K : Value → World → Prop) (w0 : World) : Prop :=
  XIf (Option.isNone p0_d) (K (.int .i64 0) w0) (XNil p0_d fun a1 => XLoad (.int .i64) (Addr.add a1 5) w0 fun (x2 : Int) => K (.int .i64 x2) w0)

set_option maxHeartbeats 8000000 in
set_option maxRecDepth 100000 in
theorem S.disk_Disk_Writes_ok (p0_d : Option Addr) (K : Value → World → Prop) (w0 : World) (h : S.disk_Disk_Writes p0_d  K w0) :
    Calls Tryz.prog F.disk_Disk_Writes ⟨[.pointer p0_d]⟩ w0 fun e w' => ∃ v, e = .returned v ∧ K v w' :=
  calls_x (P := Tryz.prog) [0, 2, 4] (by kernel_rfl) Tryz.func31 (by kernel_rfl) (Eq.mp (by kernel_rfl : S.disk_Disk_Writes p0_d  K w0 = xfn Tryz.prog [0, 2, 4] Tryz.f31 [.pointer p0_d] K w0) h)

set_option maxRecDepth 100000 in
set_option maxHeartbeats 8000000 in
/-- 32 barque/disk.New -/
def S.disk_New (p0_sectors : Int) (K : Value → World → Prop) (w0 : World) : Prop :=
  XJoin (α := (Bool × Unit)) (fun s1 w2 => XIf s1.1 (K (.tuple ⟨[.pointer none, .int .i64 1]⟩) w2) (XNew 84 [.slice none 0 0, .slice none 0 0, .int .i64 p0_sectors, .int .i64 (-1), .bool false, .int .i64 0, .int .i64 0] w2 fun a4 w5 => K (.tuple ⟨[.pointer (some a4), .int .i64 0]⟩) w5)) (fun J3 => XIf (decide ((p0_sectors : Int) < 0)) (J3 (true, ()) w0) (J3 ((decide ((p0_sectors : Int) > 32768)), ()) w0))

set_option maxHeartbeats 8000000 in
set_option maxRecDepth 100000 in
theorem S.disk_New_ok (p0_sectors : Int) (K : Value → World → Prop) (w0 : World) (h : S.disk_New p0_sectors  K w0) :
    Calls Tryz.prog F.disk_New ⟨[.int .i64 p0_sectors]⟩ w0 fun e w' => ∃ v, e = .returned v ∧ K v w' :=
  calls_x (P := Tryz.prog) [0, 2, 3, 9] (by kernel_rfl) Tryz.func32 (by kernel_rfl) (Eq.mp (by kernel_rfl : S.disk_New p0_sectors  K w0 = xfn Tryz.prog [0, 2, 3, 9] Tryz.f32 [.int .i64 p0_sectors] K w0) h)

set_option maxRecDepth 100000 in
set_option maxHeartbeats 8000000 in
/-- 33 barque/marks.Ideal -/
def S.marks_Ideal (K : Value → World → Prop) (w0 : World) : Prop :=
  XDo Tryz.prog (Instr.makeMap 94 none) (.leaf .map) w0 fun (x1 : Option Nat) w2 => XNew 101 (List.replicate 72 (.int .u32 0) ++ [.bool false, .map x1, .bool true]) w2 fun a3 w4 => K (.pointer (some a3)) w4

set_option maxHeartbeats 8000000 in
set_option maxRecDepth 100000 in
theorem S.marks_Ideal_ok (K : Value → World → Prop) (w0 : World) (h : S.marks_Ideal   K w0) :
    Calls Tryz.prog F.marks_Ideal ⟨[]⟩ w0 fun e w' => ∃ v, e = .returned v ∧ K v w' :=
  calls_x (P := Tryz.prog) [0] (by kernel_rfl) Tryz.func33 (by kernel_rfl) (Eq.mp (by kernel_rfl : S.marks_Ideal   K w0 = xfn Tryz.prog [0] Tryz.f33 [] K w0) h)

set_option maxRecDepth 100000 in
set_option maxHeartbeats 8000000 in
/-- 34 (*barque/wal.Log).closed -/
def S.wal_Log_closed (p0_l : Option Addr) (K : Value → World → Prop) (w0 : World) : Prop :=
  XJoin (α := (Bool × Unit)) (fun s1 w2 => K (.bool s1.1) w2) (fun J3 => XIf (Option.isNone p0_l) (J3 (true, ()) w0) (XNil p0_l fun a4 => XLoad .ptr a4 w0 fun (x5 : Option Addr) => J3 ((Option.isNone x5), ()) w0))

set_option maxHeartbeats 8000000 in
set_option maxRecDepth 100000 in
theorem S.wal_Log_closed_ok (p0_l : Option Addr) (K : Value → World → Prop) (w0 : World) (h : S.wal_Log_closed p0_l  K w0) :
    Calls Tryz.prog F.wal_Log_closed ⟨[.pointer p0_l]⟩ w0 fun e w' => ∃ v, e = .returned v ∧ K v w' :=
  calls_x (P := Tryz.prog) [0, 2] (by kernel_rfl) Tryz.func34 (by kernel_rfl) (Eq.mp (by kernel_rfl : S.wal_Log_closed p0_l  K w0 = xfn Tryz.prog [0, 2] Tryz.f34 [.pointer p0_l] K w0) h)

set_option maxRecDepth 100000 in
set_option maxHeartbeats 8000000 in
/-- 35 (*barque/wal.Log).put -/
def S.wal_Log_put (p0_l : Option Addr) (p1_sign : Int) (p2_list : Sl) (K : Value → World → Prop) (w0 : World) : Prop :=
  XNew 104 [.pointer none, .slice none 0 0] w0 fun a1 w2 => XNil p0_l fun a3 => XLoad .str (Addr.add a3 4) w2 fun (x4 : ByteArray) => XLoop (α := (Int × ByteArray × Int × Unit)) (fun next7 s5 w6 => XIf (decide ((s5.2.2.1 : Int) < ((p2_list.len : Nat) : Int))) (XNil p2_list.a fun a8 => ((0 : Int) ≤ s5.2.2.1 ∧ s5.2.2.1 < ((p2_list.len : Nat) : Int)) ∧ (XLoad .str (Addr.add a8 ((Int.toNat s5.2.2.1) * 1)) w6 fun (x9 : ByteArray) => XIf (decide (((((ByteArray.size x9) : Nat) : Int) : Int) > 1048832)) (K (.int .i64 4) w6) (XNil p0_l fun a10 => XLoad .ptr (Addr.add a10 1) (World.drew w6) fun (x11 : Option Addr) => XNew 5 [.int .u8 p1_sign] (World.drew w6) fun a12 w13 => (World.cell? w13 (Addr.add a10 1) = some (Leaf.mk .ptr x11)) ∧ (XBytes (some a12) 1 w13 fun x14 => (((ByteArray.size x14 + ByteArray.size x9 : Nat) : Int) ≤ IntKind.i64.max) ∧ (XLet (((x14 ++ x9 : ByteArray)) : ByteArray) fun t15 => XCalls Tryz.prog F.wal_record [.pointer x11, .string s5.2.1, .string t15] [.leaf .str, .leaf .str] w13 fun (x16 : (ByteArray × ByteArray × Unit)) w17 => sliceBytes w17 (some a12) 1 x14 ∧ (XCalls Tryz.prog F.strings_Builder_WriteString [.pointer (some a1), .string x16.1] [.leaf (.int .i64), .leaf .any] w17 fun (x18 : (Int × Value × Unit)) w19 => XLet (((IntKind.wrap .i64 (s5.2.2.1 + 1))) : Int) fun n20 => next7 (s5.1, (x16.2.1, (n20, ()))) w19)))))) (XNil p0_l fun a21 => XLoad .ptr a21 (World.drew w6) fun (x22 : Option Addr) => XNil p0_l fun a23 => XLoad (.int .i64) (Addr.add a23 2) (World.drew w6) fun (x24 : Int) => XNil p0_l fun a25 => XLoad (.int .i64) (Addr.add a25 3) (World.drew w6) fun (x26 : Int) => XCall Tryz.prog F.wal_name [.int .i64 x24] (.leaf .str) (World.drew w6) fun (x27 : ByteArray) w28 => (World.cell? w28 (Addr.add a25 3) = some (Leaf.mk (.int .i64) x26)) ∧ ((World.cell? w28 a21 = some (Leaf.mk .ptr x22)) ∧ (XCall Tryz.prog F.strings_Builder_String [.pointer (some a1)] (.leaf .str) w28 fun (x29 : ByteArray) w30 => (World.cell? w30 (Addr.add a25 3) = some (Leaf.mk (.int .i64) x26)) ∧ ((World.cell? w30 a21 = some (Leaf.mk .ptr x22)) ∧ (XCall Tryz.prog F.disk_Disk_Write [.pointer x22, .string x27, .int .i64 x26, .string x29] (.leaf (.int .i64)) w30 fun (x31 : Int) w32 => XIf ((x31 : Int) != 0) (K (.int .i64 x31) w32) (XNil p0_l fun a33 => XLoad (.int .i64) (Addr.add a33 3) (World.drew w32) fun (x34 : Int) => XCall Tryz.prog F.strings_Builder_Len [.pointer (some a1)] (.leaf (.int .i64)) (World.drew w32) fun (x35 : Int) w36 => (World.cell? w36 (Addr.add a33 3) = some (Leaf.mk (.int .i64) x34)) ∧ (XLet (((IntKind.wrap .i64 (x34 + x35))) : Int) fun n37 => XNil p0_l fun a38 => XStore (Addr.add a38 3) (.int .i64 n37) w36 fun w39 => XNil p0_l fun a40 => XStore (Addr.add a40 4) (.string s5.2.1) w39 fun w41 => K (.int .i64 0) w41)))))))) (0, (x4, (0, ()))) w2

set_option maxHeartbeats 8000000 in
set_option maxRecDepth 100000 in
theorem S.wal_Log_put_ok (p0_l : Option Addr) (p1_sign : Int) (p2_list : Sl) (K : Value → World → Prop) (w0 : World) (h : S.wal_Log_put p0_l p1_sign p2_list  K w0) :
    Calls Tryz.prog F.wal_Log_put ⟨[.pointer p0_l, .int .u8 p1_sign, .slice p2_list.a p2_list.len p2_list.cap]⟩ w0 fun e w' => ∃ v, e = .returned v ∧ K v w' :=
  calls_x (P := Tryz.prog) [0, 1, 2, 6, 7, 8, 10, 11, 12, 17, 18, 19, 20, 25, 59] (by kernel_rfl) Tryz.func35 (by kernel_rfl) (Eq.mp (by kernel_rfl : S.wal_Log_put p0_l p1_sign p2_list  K w0 = xfn Tryz.prog [0, 1, 2, 6, 7, 8, 10, 11, 12, 17, 18, 19, 20, 25, 59] Tryz.f35 [.pointer p0_l, .int .u8 p1_sign, .slice p2_list.a p2_list.len p2_list.cap] K w0) h)

set_option maxRecDepth 100000 in
set_option maxHeartbeats 8000000 in
/-- 36 (*barque/disk.Disk).Sync -/
def S.disk_Disk_Sync (p0_d : Option Addr) (K : Value → World → Prop) (w0 : World) : Prop :=
  XCall Tryz.prog F.disk_Disk_ready [.pointer p0_d] (.leaf (.int .i64)) w0 fun (x1 : Int) w2 => XIf ((x1 : Int) != 0) (K (.int .i64 x1) w2) (XNil p0_d fun a3 => XLoad .slice (Addr.add a3 1) w2 fun (x4 : Sl) => XLoop (α := (Int × Unit)) (fun next7 s5 w6 => XIf (decide ((s5.1 : Int) < ((x4.len : Nat) : Int))) (XNil x4.a fun a8 => ((0 : Int) ≤ s5.1 ∧ s5.1 < ((x4.len : Nat) : Int)) ∧ (XLoads [(.int .i64), (.int .i64), (.int .i64), .str] (Addr.add a8 ((Int.toNat s5.1) * 4)) w6 fun (x9 : (Int × Int × Int × ByteArray × Unit)) => XNew 86 [.int .i64 0, .int .i64 0, .int .i64 0, .string ByteArray.empty] w6 fun a10 w11 => XStores a10 0 [.int .i64 x9.1, .int .i64 x9.2.1, .int .i64 x9.2.2.1, .string x9.2.2.2.1] w11 fun w12 => XLoads [(.int .i64), (.int .i64), (.int .i64), .str] a10 w12 fun (x13 : (Int × Int × Int × ByteArray × Unit)) => XLoad .str (Addr.add a10 3) w12 fun (x14 : ByteArray) => XCalls Tryz.prog F.disk_Disk_last [.pointer p0_d, .agg ⟨[.int .i64 x13.1, .int .i64 x13.2.1, .int .i64 x13.2.2.1, .string x13.2.2.2.1]⟩, .int .i64 (((ByteArray.size x14) : Nat) : Int)] [] w12 fun x15 w16 => XLet (((IntKind.wrap .i64 (s5.1 + 1))) : Int) fun n17 => next7 (n17, ()) w16)) (XNil p0_d fun a18 => XStore (Addr.add a18 1) (.slice none 0 0) w6 fun w19 => K (.int .i64 0) w19)) (0, ()) w2)

set_option maxHeartbeats 8000000 in
set_option maxRecDepth 100000 in
theorem S.disk_Disk_Sync_ok (p0_d : Option Addr) (K : Value → World → Prop) (w0 : World) (h : S.disk_Disk_Sync p0_d  K w0) :
    Calls Tryz.prog F.disk_Disk_Sync ⟨[.pointer p0_d]⟩ w0 fun e w' => ∃ v, e = .returned v ∧ K v w' :=
  calls_x (P := Tryz.prog) [0, 2, 3, 5, 9, 14, 15, 16, 17] (by kernel_rfl) Tryz.func36 (by kernel_rfl) (Eq.mp (by kernel_rfl : S.disk_Disk_Sync p0_d  K w0 = xfn Tryz.prog [0, 2, 3, 5, 9, 14, 15, 16, 17] Tryz.f36 [.pointer p0_d] K w0) h)

set_option maxRecDepth 100000 in
set_option maxHeartbeats 8000000 in
/-- 37 (*barque/disk.Disk).find -/
def S.disk_Disk_find (p0_d : Option Addr) (p1_name : ByteArray) (K : Value → World → Prop) (w0 : World) : Prop :=
  XCalls Tryz.prog F.disk_Disk_place [.pointer p0_d, .string p1_name] [.leaf (.int .i64), .leaf .bool] w0 fun (x1 : (Int × Bool × Unit)) w2 => XIf x1.2.1 (XNil p0_d fun a3 => XLoad .slice a3 w2 fun (x4 : Sl) => XNil x4.a fun a5 => ((0 : Int) ≤ x1.1 ∧ x1.1 < ((x4.len : Nat) : Int)) ∧ (XLoad .ptr (Addr.add a5 ((Int.toNat x1.1) * 1)) w2 fun (x6 : Option Addr) => K (.pointer x6) w2)) (K (.pointer none) w2)

set_option maxHeartbeats 8000000 in
set_option maxRecDepth 100000 in
theorem S.disk_Disk_find_ok (p0_d : Option Addr) (p1_name : ByteArray) (K : Value → World → Prop) (w0 : World) (h : S.disk_Disk_find p0_d p1_name  K w0) :
    Calls Tryz.prog F.disk_Disk_find ⟨[.pointer p0_d, .string p1_name]⟩ w0 fun e w' => ∃ v, e = .returned v ∧ K v w' :=
  calls_x (P := Tryz.prog) [0, 1, 4, 5, 6, 13] (by kernel_rfl) Tryz.func37 (by kernel_rfl) (Eq.mp (by kernel_rfl : S.disk_Disk_find p0_d p1_name  K w0 = xfn Tryz.prog [0, 1, 4, 5, 6, 13] Tryz.f37 [.pointer p0_d, .string p1_name] K w0) h)

set_option maxRecDepth 100000 in
set_option maxHeartbeats 8000000 in
/-- 38 barque/wal.none -/
def S.wal_none (p0_d : Option Addr) (p1_b : Option Addr) (K : Value → World → Prop) (w0 : World) : Prop :=
  XJoin (α := (Bool × Unit)) (fun s1 w2 => K (.bool s1.1) w2) (fun J3 => XIf (Option.isNone p0_d) (J3 (true, ()) w0) (XCall Tryz.prog F.marks_Book_Ready [.pointer p1_b] (.leaf .bool) w0 fun (x4 : Bool) w5 => J3 ((!x4), ()) w5))

set_option maxHeartbeats 8000000 in
set_option maxRecDepth 100000 in
theorem S.wal_none_ok (p0_d : Option Addr) (p1_b : Option Addr) (K : Value → World → Prop) (w0 : World) (h : S.wal_none p0_d p1_b  K w0) :
    Calls Tryz.prog F.wal_none ⟨[.pointer p0_d, .pointer p1_b]⟩ w0 fun e w' => ∃ v, e = .returned v ∧ K v w' :=
  calls_x (P := Tryz.prog) [0, 1, 4] (by kernel_rfl) Tryz.func38 (by kernel_rfl) (Eq.mp (by kernel_rfl : S.wal_none p0_d p1_b  K w0 = xfn Tryz.prog [0, 1, 4] Tryz.f38 [.pointer p0_d, .pointer p1_b] K w0) h)

set_option maxRecDepth 100000 in
set_option maxHeartbeats 8000000 in
/-- 39 barque/wal.segments -/
def S.wal_segments (p0_d : Option Addr) (K : Value → World → Prop) (w0 : World) : Prop :=
  XCalls Tryz.prog F.disk_Disk_List [.pointer p0_d] [.leaf .slice, .leaf (.int .i64)] w0 fun (x1 : (Sl × Int × Unit)) w2 => XIf ((x1.2.1 : Int) != 0) (K (.tuple ⟨[.slice none 0 0, .int .i64 x1.2.1]⟩) w2) (XLet (((IntKind.wrap .i64 (((x1.1.len : Nat) : Int) - 1))) : Int) fun n3 => XLoop (α := (Sl × Int × Unit)) (fun next6 s4 w5 => XIf (decide ((s4.2.1 : Int) ≥ 0)) (XJoin (α := (Sl × Unit)) (fun s7 w8 => XLet (((IntKind.wrap .i64 (s4.2.1 - 1))) : Int) fun n10 => next6 (⟨s7.1.a, s7.1.len, s7.1.cap⟩, (n10, ())) w8) (fun J9 => XNil x1.1.a fun a11 => ((0 : Int) ≤ s4.2.1 ∧ s4.2.1 < ((x1.1.len : Nat) : Int)) ∧ (XLoad .str (Addr.add a11 ((Int.toNat s4.2.1) * 1)) w5 fun (x12 : ByteArray) => XCalls Tryz.prog F.wal_number [.string x12] [.leaf (.int .i64), .leaf .bool] w5 fun (x13 : (Int × Bool × Unit)) w14 => XIf x13.2.1 (XNew 3 [.int .i64 x13.1] w14 fun a15 w16 => XDo Tryz.prog (Builtin.append_ #[50, 50] 50 ⟨[.slice s4.1.a s4.1.len s4.1.cap, .slice (some a15) 1 1]⟩) (.leaf .slice) w16 fun (x17 : Sl) w18 => J9 (⟨x17.a, x17.len, x17.cap⟩, ()) w18) (J9 (⟨s4.1.a, s4.1.len, s4.1.cap⟩, ()) w14)))) (K (.tuple ⟨[.slice s4.1.a s4.1.len s4.1.cap, .int .i64 0]⟩) w5)) (⟨none, 0, 0⟩, (n3, ())) w2)

set_option maxHeartbeats 8000000 in
set_option maxRecDepth 100000 in
theorem S.wal_segments_ok (p0_d : Option Addr) (K : Value → World → Prop) (w0 : World) (h : S.wal_segments p0_d  K w0) :
    Calls Tryz.prog F.wal_segments ⟨[.pointer p0_d]⟩ w0 fun e w' => ∃ v, e = .returned v ∧ K v w' :=
  calls_x (P := Tryz.prog) [0, 2, 3, 4, 5, 6, 7, 8, 9, 16, 22, 33] (by kernel_rfl) Tryz.func39 (by kernel_rfl) (Eq.mp (by kernel_rfl : S.wal_segments p0_d  K w0 = xfn Tryz.prog [0, 2, 3, 4, 5, 6, 7, 8, 9, 16, 22, 33] Tryz.f39 [.pointer p0_d] K w0) h)

set_option maxRecDepth 100000 in
set_option maxHeartbeats 8000000 in
/-- 40 barque/wal.load -/
def S.wal_load (p0_d : Option Addr) (p1_b : Option Addr) (p2_n : Int) (K : Value → World → Prop) (w0 : World) : Prop :=
  XCall Tryz.prog F.wal_name [.int .i64 p2_n] (.leaf .str) w0 fun (x1 : ByteArray) w2 => XCalls Tryz.prog F.disk_Disk_Size [.pointer p0_d, .string x1] [.leaf (.int .i64), .leaf (.int .i64)] w2 fun (x3 : (Int × Int × Unit)) w4 => XIf ((x3.2.1 : Int) != 0) (K (.tuple ⟨[.pointer none, .slice none 0 0, .bool false]⟩) w4) (XCall Tryz.prog F.wal_name [.int .i64 p2_n] (.leaf .str) w4 fun (x5 : ByteArray) w6 => XCalls Tryz.prog F.disk_Disk_Read [.pointer p0_d, .string x5, .int .i64 0, .int .i64 x3.1] [.leaf .str, .leaf (.int .i64)] w6 fun (x7 : (ByteArray × Int × Unit)) w8 => XIf ((x7.2.1 : Int) != 0) (K (.tuple ⟨[.pointer none, .slice none 0 0, .bool false]⟩) w8) (XCall Tryz.prog F.wal_first [.int .i64 p2_n] (.leaf .str) w8 fun (x9 : ByteArray) w10 => XNew 69 [.pointer p0_d, .pointer p1_b, .int .i64 p2_n, .int .i64 0, .string x9] w10 fun a11 w12 => XLoop (α := (Option Addr × Sl × Bool × Sl × Bool × Unit)) (fun next15 s13 w14 => XLoad (.int .i64) (Addr.add a11 3) (World.drew w14) fun (x16 : Int) => XLoad .str (Addr.add a11 4) (World.drew w14) fun (x17 : ByteArray) => XCalls Tryz.prog F.wal_next [.pointer p1_b, .string x7.1, .int .i64 x16, .string x17] [.leaf .str, .leaf .str, .leaf .bool] (World.drew w14) fun (x18 : (ByteArray × ByteArray × Bool × Unit)) w19 => XIf (!x18.2.2.1) (K (.tuple ⟨[.pointer (some a11), .slice s13.2.2.2.1.a s13.2.2.2.1.len s13.2.2.2.1.cap, .bool s13.2.2.2.2.1]⟩) w19) (XJoin (α := (Option Addr × Sl × Bool × Sl × Bool × Unit)) (fun s20 w21 => XLoad (.int .i64) (Addr.add a11 3) w21 fun (x23 : Int) => XLet (((IntKind.wrap .i64 (36 + (((ByteArray.size x18.1) : Nat) : Int)))) : Int) fun n24 => XLet (((IntKind.wrap .i64 (x23 + n24))) : Int) fun n25 => XStore (Addr.add a11 3) (.int .i64 n25) w21 fun w26 => XStore (Addr.add a11 4) (.string x18.2.1) w26 fun w27 => next15 (s20.1, (⟨s20.2.1.a, s20.2.1.len, s20.2.1.cap⟩, (s20.2.2.1, (⟨s20.2.2.2.1.a, s20.2.2.2.1.len, s20.2.2.2.1.cap⟩, (s20.2.2.2.2.1, ()))))) w27) (fun J22 => XJoin (α := (Bool × Unit)) (fun s28 w29 => XIf s28.1 (J22 (s13.1, (⟨s13.2.1.a, s13.2.1.len, s13.2.1.cap⟩, (s13.2.2.1, (⟨s13.2.2.2.1.a, s13.2.2.2.1.len, s13.2.2.2.1.cap⟩, (true, ()))))) w29) (XJoin (α := (Bool × Unit)) (fun s31 w32 => XIf s31.1 ((((0 : Int) ≤ (((ByteArray.size x18.1) : Nat) : Int) ∧ (((ByteArray.size x18.1) : Nat) : Int) ≤ (((ByteArray.size x18.1) : Nat) : Int)) ∧ (0 : Int) ≤ 1 ∧ (1 : Int) ≤ (((ByteArray.size x18.1) : Nat) : Int)) ∧ (XLet (((ByteArray.extract x18.1 1 (Int.toNat (((ByteArray.size x18.1) : Nat) : Int)))) : ByteArray) fun t34 => XNew 9 [.string t34] w32 fun a35 w36 => XDo Tryz.prog (Builtin.append_ #[22, 22] 22 ⟨[.slice s13.2.2.2.1.a s13.2.2.2.1.len s13.2.2.2.1.cap, .slice (some a35) 1 1]⟩) (.leaf .slice) w36 fun (x37 : Sl) w38 => J22 (s13.1, (⟨s13.2.1.a, s13.2.1.len, s13.2.1.cap⟩, (s13.2.2.1, (⟨x37.a, x37.len, x37.cap⟩, (s13.2.2.2.2.1, ()))))) w38)) (K (.tuple ⟨[.pointer (some a11), .slice s13.2.2.2.1.a s13.2.2.2.1.len s13.2.2.2.1.cap, .bool s13.2.2.2.2.1]⟩) w32)) (fun J33 => XJoin (α := (Bool × Unit)) (fun s39 w40 => XIf s39.1 (J33 (s39.1, ()) w40) (XJoin (α := (Bool × Unit)) (fun s42 w43 => J33 (s42.1, ()) w43) (fun J44 => ((0 : Int) ≤ 0 ∧ 0 < ((ByteArray.size x18.1 : Nat) : Int)) ∧ (XLet ((((UInt8.toNat (List.getD (ByteArray.data x18.1).toList 0 0) : Nat) : Int)) : Int) fun n45 => XIf ((n45 : Int) == 82) (J44 (s13.2.2.2.2.1, ()) w40) (J44 (false, ()) w40))))) (fun J41 => ((0 : Int) ≤ 0 ∧ 0 < ((ByteArray.size x18.1 : Nat) : Int)) ∧ (XLet ((((UInt8.toNat (List.getD (ByteArray.data x18.1).toList 0 0) : Nat) : Int)) : Int) fun n46 => XIf ((n46 : Int) == 83) (J41 ((!s13.2.2.2.2.1), ()) w29) (J41 (false, ()) w29)))))) (fun J30 => ((0 : Int) ≤ 0 ∧ 0 < ((ByteArray.size x18.1 : Nat) : Int)) ∧ (XLet ((((UInt8.toNat (List.getD (ByteArray.data x18.1).toList 0 0) : Nat) : Int)) : Int) fun n47 => XIf ((n47 : Int) == 69) (XIf (!s13.2.2.2.2.1) (J30 ((((((ByteArray.size x18.1) : Nat) : Int) : Int) == 1), ()) w19) (J30 (false, ()) w19)) (J30 (false, ()) w19)))))) (none, (⟨none, 0, 0⟩, (false, (⟨none, 0, 0⟩, (false, ()))))) w12))

set_option maxHeartbeats 8000000 in
set_option maxRecDepth 100000 in
theorem S.wal_load_ok (p0_d : Option Addr) (p1_b : Option Addr) (p2_n : Int) (K : Value → World → Prop) (w0 : World) (h : S.wal_load p0_d p1_b p2_n  K w0) :
    Calls Tryz.prog F.wal_load ⟨[.pointer p0_d, .pointer p1_b, .int .i64 p2_n]⟩ w0 fun e w' => ∃ v, e = .returned v ∧ K v w' :=
  calls_x (P := Tryz.prog) [0, 1, 2, 6, 7, 8, 9, 10, 11, 12, 13, 14, 15, 16, 17, 26, 36, 60, 64, 77] (by kernel_rfl) Tryz.func40 (by kernel_rfl) (Eq.mp (by kernel_rfl : S.wal_load p0_d p1_b p2_n  K w0 = xfn Tryz.prog [0, 1, 2, 6, 7, 8, 9, 10, 11, 12, 13, 14, 15, 16, 17, 26, 36, 60, 64, 77] Tryz.f40 [.pointer p0_d, .pointer p1_b, .int .i64 p2_n] K w0) h)

set_option maxRecDepth 100000 in
set_option maxHeartbeats 8000000 in
/-- 41 (*barque/disk.Disk).Remove -/
def S.disk_Disk_Remove (p0_d : Option Addr) (p1_name : ByteArray) (K : Value → World → Prop) (w0 : World) : Prop :=
  XCall Tryz.prog F.disk_Disk_ready [.pointer p0_d] (.leaf (.int .i64)) w0 fun (x1 : Int) w2 => XIf ((x1 : Int) != 0) (K (.int .i64 x1) w2) (XCalls Tryz.prog F.disk_Disk_place [.pointer p0_d, .string p1_name] [.leaf (.int .i64), .leaf .bool] w2 fun (x3 : (Int × Bool × Unit)) w4 => XIf (!x3.2.1) (K (.int .i64 8) w4) (XNil p0_d fun a5 => XLoad .slice a5 w4 fun (x6 : Sl) => XNil x6.a fun a7 => ((0 : Int) ≤ x3.1 ∧ x3.1 < ((x6.len : Nat) : Int)) ∧ (XLoad .ptr (Addr.add a7 ((Int.toNat x3.1) * 1)) w4 fun (x8 : Option Addr) => XNew 70 [.pointer none] w4 fun a9 w10 => XStore a9 (.pointer x8) w10 fun w11 => XNil p0_d fun a12 => XLoad .slice a12 w11 fun (x13 : Sl) => XLet (((IntKind.wrap .i64 (x3.1 + 1))) : Int) fun n14 => XCall Tryz.prog F.slices_Delete [.slice x13.a x13.len x13.cap, .int .i64 x3.1, .int .i64 n14] (.leaf .slice) w11 fun (x15 : Sl) w16 => XNil p0_d fun a17 => XStore a17 (.slice x15.a x15.len x15.cap) w16 fun w18 => XNil p0_d fun a19 => XLoad .slice (Addr.add a19 1) w18 fun (x20 : Sl) => XCall Tryz.prog F.slices_DeleteFunc [.slice x20.a x20.len x20.cap, .func (.func F.disk_Disk_Remove_1) ⟨[]⟩ ⟨[.pointer (some a9)]⟩] (.leaf .slice) w18 fun (x21 : Sl) w22 => XNil p0_d fun a23 => XStore (Addr.add a23 1) (.slice x21.a x21.len x21.cap) w22 fun w24 => K (.int .i64 0) w24)))

set_option maxHeartbeats 8000000 in
set_option maxRecDepth 100000 in
theorem S.disk_Disk_Remove_ok (p0_d : Option Addr) (p1_name : ByteArray) (K : Value → World → Prop) (w0 : World) (h : S.disk_Disk_Remove p0_d p1_name  K w0) :
    Calls Tryz.prog F.disk_Disk_Remove ⟨[.pointer p0_d, .string p1_name]⟩ w0 fun e w' => ∃ v, e = .returned v ∧ K v w' :=
  calls_x (P := Tryz.prog) [0, 1, 4, 5, 6, 7, 8, 12, 21] (by kernel_rfl) Tryz.func41 (by kernel_rfl) (Eq.mp (by kernel_rfl : S.disk_Disk_Remove p0_d p1_name  K w0 = xfn Tryz.prog [0, 1, 4, 5, 6, 7, 8, 12, 21] Tryz.f41 [.pointer p0_d, .string p1_name] K w0) h)

set_option maxRecDepth 100000 in
set_option maxHeartbeats 8000000 in
/-- 42 barque/wal.name -/
def S.wal_name (p0_n : Int) (K : Value → World → Prop) (w0 : World) : Prop :=
  XNew 5 [.int .u8 115, .int .u8 101, .int .u8 103, .int .u8 45] w0 fun a1 w2 => XDo Tryz.prog (convert 61 61 (.slice (some a1) 4 4)) (.leaf .slice) w2 fun (x3 : Sl) w4 => XLoop (α := (Sl × Int × Unit)) (fun next7 s5 w6 => XIf (decide ((s5.2.1 : Int) < 8)) (XNew 5 [.int .u8 48] w6 fun a8 w9 => XDo Tryz.prog (Builtin.append_ #[61, 61] 61 ⟨[.slice s5.1.a s5.1.len s5.1.cap, .slice (some a8) 1 1]⟩) (.leaf .slice) w9 fun (x10 : Sl) w11 => XLet (((IntKind.wrap .i64 (s5.2.1 + 1))) : Int) fun n12 => next7 (⟨x10.a, x10.len, x10.cap⟩, (n12, ())) w11) (XLet (((IntKind.wrap .i64 (((s5.1.len : Nat) : Int) - 1))) : Int) fun n13 => XLoop (α := (Int × Int × Unit)) (fun next16 s14 w15 => XJoin (α := (Bool × Unit)) (fun s17 w18 => XIf s17.1 ((10 : Int) ≠ 0 ∧ (XLet (((Int.tmod s14.1 10)) : Int) fun n20 => XLet (((IntKind.wrap .i64 (48 + n20))) : Int) fun n21 => XLet (((IntKind.wrap .u8 (n21))) : Int) fun n22 => XNil s5.1.a fun a23 => ((0 : Int) ≤ s14.2.1 ∧ s14.2.1 < ((s5.1.len : Nat) : Int)) ∧ (XStore (Addr.add a23 ((Int.toNat s14.2.1) * 1)) (.int .u8 n22) w18 fun w24 => (10 : Int) ≠ 0 ∧ (XLet (((IntKind.wrap .i64 (Int.tdiv s14.1 10))) : Int) fun n25 => XLet (((IntKind.wrap .i64 (s14.2.1 - 1))) : Int) fun n26 => next16 (n25, (n26, ())) w24)))) (XBytes s5.1.a s5.1.len w18 fun x27 => K (.string x27) w18)) (fun J19 => XIf (decide ((s14.1 : Int) > 0)) (J19 ((decide ((s14.2.1 : Int) ≥ 4)), ()) w15) (J19 (false, ()) w15))) (p0_n, (n13, ())) w6)) (⟨x3.a, x3.len, x3.cap⟩, (0, ())) w4

set_option maxHeartbeats 8000000 in
set_option maxRecDepth 100000 in
theorem S.wal_name_ok (p0_n : Int) (K : Value → World → Prop) (w0 : World) (h : S.wal_name p0_n  K w0) :
    Calls Tryz.prog F.wal_name ⟨[.int .i64 p0_n]⟩ w0 fun e w' => ∃ v, e = .returned v ∧ K v w' :=
  calls_x (P := Tryz.prog) [0, 2, 3, 4, 7, 8, 21] (by kernel_rfl) Tryz.func42 (by kernel_rfl) (Eq.mp (by kernel_rfl : S.wal_name p0_n  K w0 = xfn Tryz.prog [0, 2, 3, 4, 7, 8, 21] Tryz.f42 [.int .i64 p0_n] K w0) h)

set_option maxRecDepth 100000 in
set_option maxHeartbeats 8000000 in
/-- 43 (*barque/wal.Log).wipe -/
def S.wal_Log_wipe (p0_l : Option Addr) (K : Value → World → Prop) (w0 : World) : Prop :=
  XNil p0_l fun a1 => XLoad .ptr a1 (World.drew w0) fun (x2 : Option Addr) => XNil p0_l fun a3 => XLoad (.int .i64) (Addr.add a3 2) (World.drew w0) fun (x4 : Int) => XCall Tryz.prog F.wal_name [.int .i64 x4] (.leaf .str) (World.drew w0) fun (x5 : ByteArray) w6 => (World.cell? w6 a1 = some (Leaf.mk .ptr x2)) ∧ (XCalls Tryz.prog F.disk_Disk_Size [.pointer x2, .string x5] [.leaf (.int .i64), .leaf (.int .i64)] w6 fun (x7 : (Int × Int × Unit)) w8 => XIf ((x7.2.1 : Int) != 0) (K (.int .i64 x7.2.1) w8) (XNil p0_l fun a9 => XLoad .ptr a9 (World.drew w8) fun (x10 : Option Addr) => XNil p0_l fun a11 => XLoad (.int .i64) (Addr.add a11 2) (World.drew w8) fun (x12 : Int) => XNil p0_l fun a13 => XLoad (.int .i64) (Addr.add a13 3) (World.drew w8) fun (x14 : Int) => XNil p0_l fun a15 => XLoad (.int .i64) (Addr.add a15 3) (World.drew w8) fun (x16 : Int) => XLet (((IntKind.wrap .i64 (x7.1 - x16))) : Int) fun n17 => XCall Tryz.prog F.wal_name [.int .i64 x12] (.leaf .str) (World.drew w8) fun (x18 : ByteArray) w19 => (World.cell? w19 (Addr.add a15 3) = some (Leaf.mk (.int .i64) x16)) ∧ ((World.cell? w19 (Addr.add a13 3) = some (Leaf.mk (.int .i64) x14)) ∧ ((World.cell? w19 a9 = some (Leaf.mk .ptr x10)) ∧ (XCalls Tryz.prog F.disk_Disk_Read [.pointer x10, .string x18, .int .i64 x14, .int .i64 n17] [.leaf .str, .leaf (.int .i64)] w19 fun (x20 : (ByteArray × Int × Unit)) w21 => (World.cell? w21 (Addr.add a15 3) = some (Leaf.mk (.int .i64) x16)) ∧ (XJoin (α := (Bool × Unit)) (fun s22 w23 => XIf s22.1 (K (.int .i64 x20.2.1) w23) (XNil p0_l fun a25 => XLoad .ptr a25 (World.drew w23) fun (x26 : Option Addr) => XNil p0_l fun a27 => XLoad (.int .i64) (Addr.add a27 2) (World.drew w23) fun (x28 : Int) => XNil p0_l fun a29 => XLoad (.int .i64) (Addr.add a29 3) (World.drew w23) fun (x30 : Int) => XCall Tryz.prog F.wal_name [.int .i64 x28] (.leaf .str) (World.drew w23) fun (x31 : ByteArray) w32 => (World.cell? w32 (Addr.add a29 3) = some (Leaf.mk (.int .i64) x30)) ∧ ((World.cell? w32 a25 = some (Leaf.mk .ptr x26)) ∧ (XCall Tryz.prog F.strings_Repeat [.string ⟨#[0]⟩, .int .i64 (((ByteArray.size x20.1) : Nat) : Int)] (.leaf .str) w32 fun (x33 : ByteArray) w34 => (World.cell? w34 (Addr.add a29 3) = some (Leaf.mk (.int .i64) x30)) ∧ ((World.cell? w34 a25 = some (Leaf.mk .ptr x26)) ∧ (XCall Tryz.prog F.disk_Disk_Write [.pointer x26, .string x31, .int .i64 x30, .string x33] (.leaf (.int .i64)) w34 fun (x35 : Int) w36 => XIf ((x35 : Int) != 0) (K (.int .i64 x35) w36) (XNil p0_l fun a37 => XLoad .ptr a37 w36 fun (x38 : Option Addr) => XCall Tryz.prog F.disk_Disk_Sync [.pointer x38] (.leaf (.int .i64)) w36 fun (x39 : Int) w40 => K (.int .i64 x39) w40))))))) (fun J24 => XIf ((x20.2.1 : Int) != 0) (J24 (true, ()) w21) (XCall Tryz.prog F.strings_Trim [.string x20.1, .string ⟨#[0]⟩] (.leaf .str) w21 fun (x41 : ByteArray) w42 => J24 ((sEq x41 ByteArray.empty), ()) w42))))))))

set_option maxHeartbeats 8000000 in
set_option maxRecDepth 100000 in
theorem S.wal_Log_wipe_ok (p0_l : Option Addr) (K : Value → World → Prop) (w0 : World) (h : S.wal_Log_wipe p0_l  K w0) :
    Calls Tryz.prog F.wal_Log_wipe ⟨[.pointer p0_l]⟩ w0 fun e w' => ∃ v, e = .returned v ∧ K v w' :=
  calls_x (P := Tryz.prog) [0, 2, 3, 4, 5, 6, 21, 52, 72] (by kernel_rfl) Tryz.func43 (by kernel_rfl) (Eq.mp (by kernel_rfl : S.wal_Log_wipe p0_l  K w0 = xfn Tryz.prog [0, 2, 3, 4, 5, 6, 21, 52, 72] Tryz.f43 [.pointer p0_l] K w0) h)

set_option maxRecDepth 100000 in
set_option maxHeartbeats 8000000 in
/-- 44 barque/wal.begin -/
def S.wal_begin (p0_d : Option Addr) (p1_b : Option Addr) (p2_n : Int) (p3_snap : Sl) (K : Value → World → Prop) (w0 : World) : Prop :=
  XCall Tryz.prog F.wal_name [.int .i64 p2_n] (.leaf .str) w0 fun (x1 : ByteArray) w2 => XCall Tryz.prog F.disk_Disk_Create [.pointer p0_d, .string x1] (.leaf (.int .i64)) w2 fun (x3 : Int) w4 => XIf ((x3 : Int) != 0) (K (.tuple ⟨[.pointer none, .int .i64 x3]⟩) w4) (XCall Tryz.prog F.wal_first [.int .i64 p2_n] (.leaf .str) w4 fun (x5 : ByteArray) w6 => XNew 69 [.pointer p0_d, .pointer p1_b, .int .i64 p2_n, .int .i64 0, .string x5] w6 fun a7 w8 => XCall Tryz.prog F.wal_Log_put [.pointer (some a7), .int .u8 83, .slice p3_snap.a p3_snap.len p3_snap.cap] (.leaf (.int .i64)) w8 fun (x9 : Int) w10 => XJoin (α := (Int × Unit)) (fun s11 w12 => XJoin (α := (Int × Unit)) (fun s14 w15 => XJoin (α := (Unit)) (fun s17 w18 => XIf ((s14.1 : Int) != 0) (K (.tuple ⟨[.pointer none, .int .i64 s14.1]⟩) w18) (K (.tuple ⟨[.pointer (some a7), .int .i64 0]⟩) w18)) (fun J19 => XJoin (α := (Bool × Unit)) (fun s20 w21 => XIf s20.1 (XCall Tryz.prog F.wal_name [.int .i64 p2_n] (.leaf .str) w21 fun (x23 : ByteArray) w24 => XCall Tryz.prog F.disk_Disk_Remove [.pointer p0_d, .string x23] (.leaf (.int .i64)) w24 fun (x25 : Int) w26 => J19 () w26) (J19 () w21)) (fun J22 => XIf ((s14.1 : Int) == 7) (J22 (true, ()) w15) (XIf ((s14.1 : Int) == 4) (J22 (true, ()) w15) (J22 (((s14.1 : Int) == 2), ()) w15))))) (fun J16 => XIf ((s11.1 : Int) == 0) (XCall Tryz.prog F.disk_Disk_Sync [.pointer p0_d] (.leaf (.int .i64)) w12 fun (x27 : Int) w28 => J16 (x27, ()) w28) (J16 (s11.1, ()) w12))) (fun J13 => XIf ((x9 : Int) == 0) (XNew 9 [.string ByteArray.empty] w10 fun a29 w30 => XCall Tryz.prog F.wal_Log_put [.pointer (some a7), .int .u8 69, .slice (some a29) 1 1] (.leaf (.int .i64)) w30 fun (x31 : Int) w32 => J13 (x31, ()) w32) (J13 (x9, ()) w10)))

set_option maxHeartbeats 8000000 in
set_option maxRecDepth 100000 in
theorem S.wal_begin_ok (p0_d : Option Addr) (p1_b : Option Addr) (p2_n : Int) (p3_snap : Sl) (K : Value → World → Prop) (w0 : World) (h : S.wal_begin p0_d p1_b p2_n p3_snap  K w0) :
    Calls Tryz.prog F.wal_begin ⟨[.pointer p0_d, .pointer p1_b, .int .i64 p2_n, .slice p3_snap.a p3_snap.len p3_snap.cap]⟩ w0 fun e w' => ∃ v, e = .returned v ∧ K v w' :=
  calls_x (P := Tryz.prog) [0, 1, 2, 3, 8, 9, 10, 11, 12, 18, 31, 36, 48, 54] (by kernel_rfl) Tryz.func44 (by kernel_rfl) (Eq.mp (by kernel_rfl : S.wal_begin p0_d p1_b p2_n p3_snap  K w0 = xfn Tryz.prog [0, 1, 2, 3, 8, 9, 10, 11, 12, 18, 31, 36, 48, 54] Tryz.f44 [.pointer p0_d, .pointer p1_b, .int .i64 p2_n, .slice p3_snap.a p3_snap.len p3_snap.cap] K w0) h)

set_option maxRecDepth 100000 in
set_option maxHeartbeats 8000000 in
/-- 45 (*barque/disk.Disk).last -/
def S.disk_Disk_last (p0_d : Option Addr) (p1_w : HL [(.int .i64), (.int .i64), (.int .i64), .str]) (p2_n : Int) (K : Value → World → Prop) (w0 : World) : Prop :=
  XNew 86 [.int .i64 p1_w.1, .int .i64 p1_w.2.1, .int .i64 p1_w.2.2.1, .string p1_w.2.2.2.1] w0 fun a1 w2 => XNil p0_d fun a3 => XLoad .slice a3 w2 fun (x4 : Sl) => XLoop (α := (Int × Unit)) (fun next7 s5 w6 => XIf (decide ((s5.1 : Int) < ((x4.len : Nat) : Int))) (XJoin (α := (Unit)) (fun s8 w9 => XLet (((IntKind.wrap .i64 (s5.1 + 1))) : Int) fun n11 => next7 (n11, ()) w9) (fun J10 => XNil x4.a fun a12 => ((0 : Int) ≤ s5.1 ∧ s5.1 < ((x4.len : Nat) : Int)) ∧ (XLoad .ptr (Addr.add a12 ((Int.toNat s5.1) * 1)) w6 fun (x13 : Option Addr) => XJoin (α := (Bool × Unit)) (fun s14 w15 => XIf s14.1 (XLoad (.int .i64) (Addr.add a1 1) w15 fun (x17 : Int) => XLet (((IntKind.wrap .i64 (x17 * 64))) : Int) fun n18 => XLoad (.int .i64) (Addr.add a1 2) w15 fun (x19 : Int) => XLet (((IntKind.wrap .i64 (n18 + x19))) : Int) fun n20 => XNil x13 fun a21 => XLoad .slice (Addr.add a21 2) w15 fun (x22 : Sl) => XLet (((IntKind.wrap .i64 (n20 + p2_n))) : Int) fun n23 => XCall Tryz.prog F.disk_grown [.slice x22.a x22.len x22.cap, .int .i64 n23] (.leaf .slice) w15 fun (x24 : Sl) w25 => XNil x13 fun a26 => XStore (Addr.add a26 2) (.slice x24.a x24.len x24.cap) w25 fun w27 => XNil x13 fun a28 => XLoad .slice (Addr.add a28 2) (World.drew w27) fun (x29 : Sl) => (((0 : Int) ≤ ((x29.len : Nat) : Int) ∧ ((x29.len : Nat) : Int) ≤ ((x29.len : Nat) : Int)) ∧ (0 : Int) ≤ n20 ∧ (n20 : Int) ≤ ((x29.len : Nat) : Int)) ∧ (XLet ((⟨(if x29.cap = (Int.toNat n20) then x29.a else Option.map (fun b => Addr.add b ((Int.toNat n20) * 1)) x29.a), ((Int.toNat ((x29.len : Nat) : Int)) - (Int.toNat n20)), (x29.cap - (Int.toNat n20))⟩) : Sl) fun s30 => XLoad .str (Addr.add a1 3) (World.drew w27) fun (x31 : ByteArray) => (((0 : Int) ≤ p2_n ∧ p2_n ≤ (((ByteArray.size x31) : Nat) : Int)) ∧ (0 : Int) ≤ 0 ∧ (0 : Int) ≤ p2_n) ∧ (XLet (((ByteArray.extract x31 0 (Int.toNat p2_n))) : ByteArray) fun t32 => XDo Tryz.prog (Builtin.copy_ #[61, 9] 3 ⟨[.slice s30.a s30.len s30.cap, .string t32]⟩) (.leaf (.int .i64)) (World.drew w27) fun (x33 : Int) w34 => (World.cell? w34 (Addr.add a1 3) = some (Leaf.mk .str x31)) ∧ ((World.cell? w34 (Addr.add a28 2) = some (Leaf.mk .slice x29)) ∧ (J10 () w34))))) (J10 () w15)) (fun J16 => XNil x13 fun a35 => XLoad (.int .i64) a35 (World.drew w6) fun (x36 : Int) => XLoad (.int .i64) a1 (World.drew w6) fun (x37 : Int) => XIf ((x36 : Int) == x37) (J16 ((decide ((p2_n : Int) > 0)), ()) (World.drew w6)) (J16 (false, ()) (World.drew w6)))))) (K (.tuple ⟨[]⟩) w6)) (0, ()) w2

set_option maxHeartbeats 8000000 in
set_option maxRecDepth 100000 in
theorem S.disk_Disk_last_ok (p0_d : Option Addr) (p1_w : HL [(.int .i64), (.int .i64), (.int .i64), .str]) (p2_n : Int) (K : Value → World → Prop) (w0 : World) (h : S.disk_Disk_last p0_d p1_w p2_n  K w0) :
    Calls Tryz.prog F.disk_Disk_last ⟨[.pointer p0_d, .agg ⟨[.int .i64 p1_w.1, .int .i64 p1_w.2.1, .int .i64 p1_w.2.2.1, .string p1_w.2.2.2.1]⟩, .int .i64 p2_n]⟩ w0 fun e w' => ∃ v, e = .returned v ∧ K v w' :=
  calls_x (P := Tryz.prog) [0, 1, 2, 4, 7, 8, 12, 13, 14, 15, 28] (by kernel_rfl) Tryz.func45 (by kernel_rfl) (Eq.mp (by kernel_rfl : S.disk_Disk_last p0_d p1_w p2_n  K w0 = xfn Tryz.prog [0, 1, 2, 4, 7, 8, 12, 13, 14, 15, 28] Tryz.f45 [.pointer p0_d, .agg ⟨[.int .i64 p1_w.1, .int .i64 p1_w.2.1, .int .i64 p1_w.2.2.1, .string p1_w.2.2.2.1]⟩, .int .i64 p2_n] K w0) h)

set_option maxRecDepth 100000 in
set_option maxHeartbeats 8000000 in
/-- 46 slices.Clone[[]byte,byte] -/
def S.slices_Clone (p0_s : Sl) (K : Value → World → Prop) (w0 : World) : Prop :=
  XIf (Option.isNone p0_s.a) (K (.slice none 0 0) w0) (XNew 5 [] w0 fun a1 w2 => XDo Tryz.prog (Builtin.append_ #[61, 61] 61 ⟨[.slice (some a1) 0 0, .slice p0_s.a p0_s.len p0_s.cap]⟩) (.leaf .slice) w2 fun (x3 : Sl) w4 => K (.slice x3.a x3.len x3.cap) w4)

set_option maxHeartbeats 8000000 in
set_option maxRecDepth 100000 in
theorem S.slices_Clone_ok (p0_s : Sl) (K : Value → World → Prop) (w0 : World) (h : S.slices_Clone p0_s  K w0) :
    Calls Tryz.prog F.slices_Clone ⟨[.slice p0_s.a p0_s.len p0_s.cap]⟩ w0 fun e w' => ∃ v, e = .returned v ∧ K v w' :=
  calls_x (P := Tryz.prog) [0, 2, 4] (by kernel_rfl) Tryz.func46 (by kernel_rfl) (Eq.mp (by kernel_rfl : S.slices_Clone p0_s  K w0 = xfn Tryz.prog [0, 2, 4] Tryz.f46 [.slice p0_s.a p0_s.len p0_s.cap] K w0) h)

set_option maxRecDepth 100000 in
set_option maxHeartbeats 8000000 in
/-- 47 (*barque/disk.Disk).ready -/
def S.disk_Disk_ready (p0_d : Option Addr) (K : Value → World → Prop) (w0 : World) : Prop :=
  XIf (Option.isNone p0_d) (K (.int .i64 1) w0) (XNil p0_d fun a1 => XLoad .bool (Addr.add a1 4) w0 fun (x2 : Bool) => XIf x2 (K (.int .i64 14) w0) (K (.int .i64 0) w0))

set_option maxHeartbeats 8000000 in
set_option maxRecDepth 100000 in
theorem S.disk_Disk_ready_ok (p0_d : Option Addr) (K : Value → World → Prop) (w0 : World) (h : S.disk_Disk_ready p0_d  K w0) :
    Calls Tryz.prog F.disk_Disk_ready ⟨[.pointer p0_d]⟩ w0 fun e w' => ∃ v, e = .returned v ∧ K v w' :=
  calls_x (P := Tryz.prog) [0, 2, 3, 6] (by kernel_rfl) Tryz.func47 (by kernel_rfl) (Eq.mp (by kernel_rfl : S.disk_Disk_ready p0_d  K w0 = xfn Tryz.prog [0, 2, 3, 6] Tryz.f47 [.pointer p0_d] K w0) h)

set_option maxRecDepth 100000 in
set_option maxHeartbeats 8000000 in
/-- 48 (*barque/disk.Disk).Up -/
def S.disk_Disk_Up (p0_d : Option Addr) (K : Value → World → Prop) (w0 : World) : Prop :=
  XJoin (α := (Bool × Unit)) (fun s1 w2 => K (.bool s1.1) w2) (fun J3 => XIf (!(Option.isNone p0_d)) (XNil p0_d fun a4 => XLoad .bool (Addr.add a4 4) w0 fun (x5 : Bool) => J3 ((!x5), ()) w0) (J3 (false, ()) w0))

set_option maxHeartbeats 8000000 in
set_option maxRecDepth 100000 in
theorem S.disk_Disk_Up_ok (p0_d : Option Addr) (K : Value → World → Prop) (w0 : World) (h : S.disk_Disk_Up p0_d  K w0) :
    Calls Tryz.prog F.disk_Disk_Up ⟨[.pointer p0_d]⟩ w0 fun e w' => ∃ v, e = .returned v ∧ K v w' :=
  calls_x (P := Tryz.prog) [0, 2] (by kernel_rfl) Tryz.func48 (by kernel_rfl) (Eq.mp (by kernel_rfl : S.disk_Disk_Up p0_d  K w0 = xfn Tryz.prog [0, 2] Tryz.f48 [.pointer p0_d] K w0) h)

set_option maxRecDepth 100000 in
set_option maxHeartbeats 8000000 in
/-- 49 (*barque/barquelaw15.world).turn -/
def S.barquelaw15_world_turn (p0_w : Option Addr) (p1_snap : Sl) (K : Value → World → Prop) (w0 : World) : Prop :=
  XNil p0_w fun a1 => XLoad .ptr a1 w0 fun (x2 : Option Addr) => XCall Tryz.prog F.disk_Disk_Up [.pointer x2] (.leaf .bool) w0 fun (x3 : Bool) w4 => XNil p0_w fun a5 => XLoad .ptr (Addr.add a5 2) w4 fun (x6 : Option Addr) => XCall Tryz.prog F.wal_Log_Segment [.pointer x6] (.leaf (.int .i64)) w4 fun (x7 : Int) w8 => XNil p0_w fun a9 => XLoad .ptr (Addr.add a9 2) w8 fun (x10 : Option Addr) => XCall Tryz.prog F.wal_Log_Turn [.pointer x10, .slice p1_snap.a p1_snap.len p1_snap.cap] (.leaf (.int .i64)) w8 fun (x11 : Int) w12 => XIf ((x11 : Int) == 0) (XNil p0_w fun a13 => XStore (Addr.add a13 3) (.slice p1_snap.a p1_snap.len p1_snap.cap) w12 fun w14 => XNil p0_w fun a15 => XStore (Addr.add a15 4) (.int .i64 ((p1_snap.len : Nat) : Int)) w14 fun w16 => XNil p0_w fun a17 => XStore (Addr.add a17 5) (.bool false) w16 fun w18 => XJoin (α := (Bool × Unit)) (fun s19 w20 => K (.bool s19.1) w20) (fun J21 => XIf x3 (XNil p0_w fun a22 => XLoad .ptr (Addr.add a22 2) w18 fun (x23 : Option Addr) => XCall Tryz.prog F.wal_Log_Segment [.pointer x23] (.leaf (.int .i64)) w18 fun (x24 : Int) w25 => XLet (((IntKind.wrap .i64 (x7 + 1))) : Int) fun n26 => J21 (((x24 : Int) == n26), ()) w25) (J21 (false, ()) w18))) (XIf ((x11 : Int) == 14) (XJoin (α := (Unit)) (fun s27 w28 => XNil p0_w fun a30 => XLoad .ptr a30 w28 fun (x31 : Option Addr) => XCall Tryz.prog F.disk_Disk_Up [.pointer x31] (.leaf .bool) w28 fun (x32 : Bool) w33 => K (.bool (!x32)) w33) (fun J29 => XIf x3 (XNil p0_w fun a34 => XStore (Addr.add a34 5) (.bool true) w12 fun w35 => XNil p0_w fun a36 => XStore (Addr.add a36 6) (.slice p1_snap.a p1_snap.len p1_snap.cap) w35 fun w37 => J29 () w37) (J29 () w12))) (XJoin (α := (Bool × Unit)) (fun s38 w39 => K (.bool s38.1) w39) (fun J40 => XIf ((x11 : Int) == 7) (XIf x3 (XNil p0_w fun a41 => XLoad .ptr (Addr.add a41 2) w12 fun (x42 : Option Addr) => XCall Tryz.prog F.wal_Log_Segment [.pointer x42] (.leaf (.int .i64)) w12 fun (x43 : Int) w44 => J40 (((x43 : Int) == x7), ()) w44) (J40 (false, ()) w12)) (J40 (false, ()) w12))))

set_option maxHeartbeats 8000000 in
set_option maxRecDepth 100000 in
theorem S.barquelaw15_world_turn_ok (p0_w : Option Addr) (p1_snap : Sl) (K : Value → World → Prop) (w0 : World) (h : S.barquelaw15_world_turn p0_w p1_snap  K w0) :
    Calls Tryz.prog F.barquelaw15_world_turn ⟨[.pointer p0_w, .slice p1_snap.a p1_snap.len p1_snap.cap]⟩ w0 fun e w' => ∃ v, e = .returned v ∧ K v w' :=
  calls_x (P := Tryz.prog) [0, 1, 4, 5, 6, 7, 24, 39, 64, 66] (by kernel_rfl) Tryz.func49 (by kernel_rfl) (Eq.mp (by kernel_rfl : S.barquelaw15_world_turn p0_w p1_snap  K w0 = xfn Tryz.prog [0, 1, 4, 5, 6, 7, 24, 39, 64, 66] Tryz.f49 [.pointer p0_w, .slice p1_snap.a p1_snap.len p1_snap.cap] K w0) h)

set_option maxRecDepth 100000 in
set_option maxHeartbeats 8000000 in
/-- 50 barque/disk.named -/
def S.disk_named (p0_s : ByteArray) (K : Value → World → Prop) (w0 : World) : Prop :=
  XJoin (α := (Bool × Unit)) (fun s1 w2 => XIf s1.1 (K (.bool false) w2) (XDo Tryz.prog (convert 9 61 (.string p0_s)) (.leaf .slice) w2 fun (x4 : Sl) w5 => XLoop (α := (Bool × Int × Unit)) (fun next8 s6 w7 => XIf (decide ((s6.2.1 : Int) < ((x4.len : Nat) : Int))) (XNil x4.a fun a9 => ((0 : Int) ≤ s6.2.1 ∧ s6.2.1 < ((x4.len : Nat) : Int)) ∧ (XLoad (.int .u8) (Addr.add a9 ((Int.toNat s6.2.1) * 1)) w7 fun (x10 : Int) => XJoin (α := (Bool × Unit)) (fun s11 w12 => XIf s11.1 (K (.bool false) w12) (XLet (((IntKind.wrap .i64 (s6.2.1 + 1))) : Int) fun n14 => next8 (s6.1, (n14, ())) w12)) (fun J13 => XIf (decide ((x10 : Int) < 33)) (J13 (true, ()) w7) (J13 ((decide ((x10 : Int) > 126)), ()) w7)))) (K (.bool true) w7)) (false, (0, ())) w5)) (fun J3 => XIf (sEq p0_s ByteArray.empty) (J3 (true, ()) w0) (J3 ((decide (((((ByteArray.size p0_s) : Nat) : Int) : Int) > 24)), ()) w0))

set_option maxHeartbeats 8000000 in
set_option maxRecDepth 100000 in
theorem S.disk_named_ok (p0_s : ByteArray) (K : Value → World → Prop) (w0 : World) (h : S.disk_named p0_s  K w0) :
    Calls Tryz.prog F.disk_named ⟨[.string p0_s]⟩ w0 fun e w' => ∃ v, e = .returned v ∧ K v w' :=
  calls_x (P := Tryz.prog) [0, 2, 4, 11, 13, 14, 15, 16, 24] (by kernel_rfl) Tryz.func50 (by kernel_rfl) (Eq.mp (by kernel_rfl : S.disk_named p0_s  K w0 = xfn Tryz.prog [0, 2, 4, 11, 13, 14, 15, 16, 24] Tryz.f50 [.string p0_s] K w0) h)

set_option maxRecDepth 100000 in
set_option maxHeartbeats 8000000 in
/-- 51 (*barque/disk.Disk).place -/
def S.disk_Disk_place (p0_d : Option Addr) (p1_name : ByteArray) (K : Value → World → Prop) (w0 : World) : Prop :=
  XNil p0_d fun a1 => XLoad .slice a1 w0 fun (x2 : Sl) => XCalls Tryz.prog F.slices_BinarySearchFunc [.slice x2.a x2.len x2.cap, .string p1_name, .func (.func F.disk_Disk_place_1) ⟨[]⟩ ⟨[]⟩] [.leaf (.int .i64), .leaf .bool] w0 fun (x3 : (Int × Bool × Unit)) w4 => K (.tuple ⟨[.int .i64 x3.1, .bool x3.2.1]⟩) w4

set_option maxHeartbeats 8000000 in
set_option maxRecDepth 100000 in
theorem S.disk_Disk_place_ok (p0_d : Option Addr) (p1_name : ByteArray) (K : Value → World → Prop) (w0 : World) (h : S.disk_Disk_place p0_d p1_name  K w0) :
    Calls Tryz.prog F.disk_Disk_place ⟨[.pointer p0_d, .string p1_name]⟩ w0 fun e w' => ∃ v, e = .returned v ∧ K v w' :=
  calls_x (P := Tryz.prog) [0, 1, 4, 5] (by kernel_rfl) Tryz.func51 (by kernel_rfl) (Eq.mp (by kernel_rfl : S.disk_Disk_place p0_d p1_name  K w0 = xfn Tryz.prog [0, 1, 4, 5] Tryz.f51 [.pointer p0_d, .string p1_name] K w0) h)

set_option maxRecDepth 100000 in
set_option maxHeartbeats 8000000 in
/-- 52 slices.Insert[[]*barque/disk.file,*barque/disk.file] -/
def S.slices_Insert (p0_s : Sl) (p1_i : Int) (p2_v : Sl) (K : Value → World → Prop) (w0 : World) : Prop :=
  (((0 : Int) ≤ ((p0_s.len : Nat) : Int) ∧ ((p0_s.len : Nat) : Int) ≤ ((p0_s.len : Nat) : Int)) ∧ (0 : Int) ≤ p1_i ∧ (p1_i : Int) ≤ ((p0_s.len : Nat) : Int)) ∧ (XLet ((⟨(if p0_s.cap = (Int.toNat p1_i) then p0_s.a else Option.map (fun b => Addr.add b ((Int.toNat p1_i) * 1)) p0_s.a), ((Int.toNat ((p0_s.len : Nat) : Int)) - (Int.toNat p1_i)), (p0_s.cap - (Int.toNat p1_i))⟩) : Sl) fun s1 => XIf ((((p2_v.len : Nat) : Int) : Int) == 0) (K (.slice p0_s.a p0_s.len p0_s.cap) w0) (XIf ((p1_i : Int) == ((p0_s.len : Nat) : Int)) (XDo Tryz.prog (Builtin.append_ #[81, 81] 81 ⟨[.slice p0_s.a p0_s.len p0_s.cap, .slice p2_v.a p2_v.len p2_v.cap]⟩) (.leaf .slice) w0 fun (x2 : Sl) w3 => K (.slice x2.a x2.len x2.cap) w3) (XLet (((IntKind.wrap .i64 (((p0_s.len : Nat) : Int) + ((p2_v.len : Nat) : Int)))) : Int) fun n4 => XIf (decide ((n4 : Int) > ((p0_s.cap : Nat) : Int))) ((((0 : Int) ≤ p1_i ∧ p1_i ≤ ((p0_s.cap : Nat) : Int)) ∧ (0 : Int) ≤ 0 ∧ (0 : Int) ≤ p1_i) ∧ (XLet ((⟨(if p0_s.cap = 0 then p0_s.a else Option.map (fun b => Addr.add b (0 * 1)) p0_s.a), ((Int.toNat p1_i) - 0), (p0_s.cap - 0)⟩) : Sl) fun s5 => XLet (((IntKind.wrap .i64 (((p0_s.len : Nat) : Int) + ((p2_v.len : Nat) : Int)))) : Int) fun n6 => XLet (((IntKind.wrap .i64 (n6 - p1_i))) : Int) fun n7 => XDo Tryz.prog (Builtin.append_ #[81, 3] 81 ⟨[.slice s5.a s5.len s5.cap, .int .i64 n7]⟩) (.leaf .slice) w0 fun (x8 : Sl) w9 => (((0 : Int) ≤ ((x8.len : Nat) : Int) ∧ ((x8.len : Nat) : Int) ≤ ((x8.len : Nat) : Int)) ∧ (0 : Int) ≤ p1_i ∧ (p1_i : Int) ≤ ((x8.len : Nat) : Int)) ∧ (XLet ((⟨(if x8.cap = (Int.toNat p1_i) then x8.a else Option.map (fun b => Addr.add b ((Int.toNat p1_i) * 1)) x8.a), ((Int.toNat ((x8.len : Nat) : Int)) - (Int.toNat p1_i)), (x8.cap - (Int.toNat p1_i))⟩) : Sl) fun s10 => XDo Tryz.prog (Builtin.copy_ #[81, 81] 3 ⟨[.slice s10.a s10.len s10.cap, .slice p2_v.a p2_v.len p2_v.cap]⟩) (.leaf (.int .i64)) w9 fun (x11 : Int) w12 => XLet (((IntKind.wrap .i64 (p1_i + ((p2_v.len : Nat) : Int)))) : Int) fun n13 => (((0 : Int) ≤ ((x8.len : Nat) : Int) ∧ ((x8.len : Nat) : Int) ≤ ((x8.len : Nat) : Int)) ∧ (0 : Int) ≤ n13 ∧ (n13 : Int) ≤ ((x8.len : Nat) : Int)) ∧ (XLet ((⟨(if x8.cap = (Int.toNat n13) then x8.a else Option.map (fun b => Addr.add b ((Int.toNat n13) * 1)) x8.a), ((Int.toNat ((x8.len : Nat) : Int)) - (Int.toNat n13)), (x8.cap - (Int.toNat n13))⟩) : Sl) fun s14 => (((0 : Int) ≤ ((p0_s.len : Nat) : Int) ∧ ((p0_s.len : Nat) : Int) ≤ ((p0_s.len : Nat) : Int)) ∧ (0 : Int) ≤ p1_i ∧ (p1_i : Int) ≤ ((p0_s.len : Nat) : Int)) ∧ (XLet ((⟨(if p0_s.cap = (Int.toNat p1_i) then p0_s.a else Option.map (fun b => Addr.add b ((Int.toNat p1_i) * 1)) p0_s.a), ((Int.toNat ((p0_s.len : Nat) : Int)) - (Int.toNat p1_i)), (p0_s.cap - (Int.toNat p1_i))⟩) : Sl) fun s15 => XDo Tryz.prog (Builtin.copy_ #[81, 81] 3 ⟨[.slice s14.a s14.len s14.cap, .slice s15.a s15.len s15.cap]⟩) (.leaf (.int .i64)) (World.drew w12) fun (x16 : Int) w17 => K (.slice x8.a x8.len x8.cap) w17))))) (XLet (((IntKind.wrap .i64 (((p0_s.len : Nat) : Int) + ((p2_v.len : Nat) : Int)))) : Int) fun n18 => (((0 : Int) ≤ n18 ∧ n18 ≤ ((p0_s.cap : Nat) : Int)) ∧ (0 : Int) ≤ 0 ∧ (0 : Int) ≤ n18) ∧ (XLet ((⟨(if p0_s.cap = 0 then p0_s.a else Option.map (fun b => Addr.add b (0 * 1)) p0_s.a), ((Int.toNat n18) - 0), (p0_s.cap - 0)⟩) : Sl) fun s19 => XLet (((IntKind.wrap .i64 (p1_i + ((p2_v.len : Nat) : Int)))) : Int) fun n20 => (((0 : Int) ≤ ((s19.len : Nat) : Int) ∧ ((s19.len : Nat) : Int) ≤ ((s19.len : Nat) : Int)) ∧ (0 : Int) ≤ n20 ∧ (n20 : Int) ≤ ((s19.len : Nat) : Int)) ∧ (XLet ((⟨(if s19.cap = (Int.toNat n20) then s19.a else Option.map (fun b => Addr.add b ((Int.toNat n20) * 1)) s19.a), ((Int.toNat ((s19.len : Nat) : Int)) - (Int.toNat n20)), (s19.cap - (Int.toNat n20))⟩) : Sl) fun s21 => XDo Tryz.prog (extRun Tryz.prog F.slices_overlaps ⟨[.slice p2_v.a p2_v.len p2_v.cap, .slice s21.a s21.len s21.cap]⟩) (.leaf .bool) w0 fun (x22 : Bool) w23 => XIf (!x22) (XLet (((IntKind.wrap .i64 (p1_i + ((p2_v.len : Nat) : Int)))) : Int) fun n24 => (((0 : Int) ≤ ((s19.len : Nat) : Int) ∧ ((s19.len : Nat) : Int) ≤ ((s19.len : Nat) : Int)) ∧ (0 : Int) ≤ n24 ∧ (n24 : Int) ≤ ((s19.len : Nat) : Int)) ∧ (XLet ((⟨(if s19.cap = (Int.toNat n24) then s19.a else Option.map (fun b => Addr.add b ((Int.toNat n24) * 1)) s19.a), ((Int.toNat ((s19.len : Nat) : Int)) - (Int.toNat n24)), (s19.cap - (Int.toNat n24))⟩) : Sl) fun s25 => (((0 : Int) ≤ ((s19.len : Nat) : Int) ∧ ((s19.len : Nat) : Int) ≤ ((s19.len : Nat) : Int)) ∧ (0 : Int) ≤ p1_i ∧ (p1_i : Int) ≤ ((s19.len : Nat) : Int)) ∧ (XLet ((⟨(if s19.cap = (Int.toNat p1_i) then s19.a else Option.map (fun b => Addr.add b ((Int.toNat p1_i) * 1)) s19.a), ((Int.toNat ((s19.len : Nat) : Int)) - (Int.toNat p1_i)), (s19.cap - (Int.toNat p1_i))⟩) : Sl) fun s26 => XDo Tryz.prog (Builtin.copy_ #[81, 81] 3 ⟨[.slice s25.a s25.len s25.cap, .slice s26.a s26.len s26.cap]⟩) (.leaf (.int .i64)) (World.drew w23) fun (x27 : Int) w28 => (((0 : Int) ≤ ((s19.len : Nat) : Int) ∧ ((s19.len : Nat) : Int) ≤ ((s19.len : Nat) : Int)) ∧ (0 : Int) ≤ p1_i ∧ (p1_i : Int) ≤ ((s19.len : Nat) : Int)) ∧ (XLet ((⟨(if s19.cap = (Int.toNat p1_i) then s19.a else Option.map (fun b => Addr.add b ((Int.toNat p1_i) * 1)) s19.a), ((Int.toNat ((s19.len : Nat) : Int)) - (Int.toNat p1_i)), (s19.cap - (Int.toNat p1_i))⟩) : Sl) fun s29 => XDo Tryz.prog (Builtin.copy_ #[81, 81] 3 ⟨[.slice s29.a s29.len s29.cap, .slice p2_v.a p2_v.len p2_v.cap]⟩) (.leaf (.int .i64)) w28 fun (x30 : Int) w31 => K (.slice s19.a s19.len s19.cap) w31)))) ((((0 : Int) ≤ ((s19.len : Nat) : Int) ∧ ((s19.len : Nat) : Int) ≤ ((s19.len : Nat) : Int)) ∧ (0 : Int) ≤ ((p0_s.len : Nat) : Int) ∧ (((p0_s.len : Nat) : Int) : Int) ≤ ((s19.len : Nat) : Int)) ∧ (XLet ((⟨(if s19.cap = (Int.toNat ((p0_s.len : Nat) : Int)) then s19.a else Option.map (fun b => Addr.add b ((Int.toNat ((p0_s.len : Nat) : Int)) * 1)) s19.a), ((Int.toNat ((s19.len : Nat) : Int)) - (Int.toNat ((p0_s.len : Nat) : Int))), (s19.cap - (Int.toNat ((p0_s.len : Nat) : Int)))⟩) : Sl) fun s32 => XDo Tryz.prog (Builtin.copy_ #[81, 81] 3 ⟨[.slice s32.a s32.len s32.cap, .slice p2_v.a p2_v.len p2_v.cap]⟩) (.leaf (.int .i64)) w23 fun (x33 : Int) w34 => (((0 : Int) ≤ ((s19.len : Nat) : Int) ∧ ((s19.len : Nat) : Int) ≤ ((s19.len : Nat) : Int)) ∧ (0 : Int) ≤ p1_i ∧ (p1_i : Int) ≤ ((s19.len : Nat) : Int)) ∧ (XLet ((⟨(if s19.cap = (Int.toNat p1_i) then s19.a else Option.map (fun b => Addr.add b ((Int.toNat p1_i) * 1)) s19.a), ((Int.toNat ((s19.len : Nat) : Int)) - (Int.toNat p1_i)), (s19.cap - (Int.toNat p1_i))⟩) : Sl) fun s35 => XCalls Tryz.prog F.slices_rotateRight [.slice s35.a s35.len s35.cap, .int .i64 ((p2_v.len : Nat) : Int)] [] w34 fun x36 w37 => K (.slice s19.a s19.len s19.cap) w37)))))))))

set_option maxHeartbeats 8000000 in
set_option maxRecDepth 100000 in
theorem S.slices_Insert_ok (p0_s : Sl) (p1_i : Int) (p2_v : Sl) (K : Value → World → Prop) (w0 : World) (h : S.slices_Insert p0_s p1_i p2_v  K w0) :
    Calls Tryz.prog F.slices_Insert ⟨[.slice p0_s.a p0_s.len p0_s.cap, .int .i64 p1_i, .slice p2_v.a p2_v.len p2_v.cap]⟩ w0 fun e w' => ∃ v, e = .returned v ∧ K v w' :=
  calls_x (P := Tryz.prog) [0, 1, 2, 6, 7, 8, 9, 16, 22, 31, 68] (by kernel_rfl) Tryz.func52 (by kernel_rfl) (Eq.mp (by kernel_rfl : S.slices_Insert p0_s p1_i p2_v  K w0 = xfn Tryz.prog [0, 1, 2, 6, 7, 8, 9, 16, 22, 31, 68] Tryz.f52 [.slice p0_s.a p0_s.len p0_s.cap, .int .i64 p1_i, .slice p2_v.a p2_v.len p2_v.cap] K w0) h)

set_option maxRecDepth 100000 in
set_option maxHeartbeats 8000000 in
/-- 53 barque/wal.record -/
def S.wal_record (p0_b : Option Addr) (p1_last : ByteArray) (p2_s : ByteArray) (K : Value → World → Prop) (w0 : World) : Prop :=
  (((ByteArray.size p1_last + ByteArray.size p2_s : Nat) : Int) ≤ IntKind.i64.max) ∧ (XLet (((p1_last ++ p2_s : ByteArray)) : ByteArray) fun t1 => XCall Tryz.prog F.marks_Book_Mark [.pointer p0_b, .string t1] (.leaf .str) w0 fun (x2 : ByteArray) w3 => XCall Tryz.prog F.wal_four [.int .i64 (((ByteArray.size p2_s) : Nat) : Int)] (.leaf .str) w3 fun (x4 : ByteArray) w5 => (((ByteArray.size x4 + ByteArray.size x2 : Nat) : Int) ≤ IntKind.i64.max) ∧ (XLet (((x4 ++ x2 : ByteArray)) : ByteArray) fun t6 => (((ByteArray.size t6 + ByteArray.size p2_s : Nat) : Int) ≤ IntKind.i64.max) ∧ (XLet (((t6 ++ p2_s : ByteArray)) : ByteArray) fun t7 => K (.tuple ⟨[.string t7, .string x2]⟩) w5)))

set_option maxHeartbeats 8000000 in
set_option maxRecDepth 100000 in
theorem S.wal_record_ok (p0_b : Option Addr) (p1_last : ByteArray) (p2_s : ByteArray) (K : Value → World → Prop) (w0 : World) (h : S.wal_record p0_b p1_last p2_s  K w0) :
    Calls Tryz.prog F.wal_record ⟨[.pointer p0_b, .string p1_last, .string p2_s]⟩ w0 fun e w' => ∃ v, e = .returned v ∧ K v w' :=
  calls_x (P := Tryz.prog) [0, 1, 2, 6, 7, 8] (by kernel_rfl) Tryz.func53 (by kernel_rfl) (Eq.mp (by kernel_rfl : S.wal_record p0_b p1_last p2_s  K w0 = xfn Tryz.prog [0, 1, 2, 6, 7, 8] Tryz.f53 [.pointer p0_b, .string p1_last, .string p2_s] K w0) h)

set_option maxRecDepth 100000 in
set_option maxHeartbeats 8000000 in
/-- 54 (*strings.Builder).WriteString -/
def S.strings_Builder_WriteString (p0_b : Option Addr) (p1_s : ByteArray) (K : Value → World → Prop) (w0 : World) : Prop :=
  XCalls Tryz.prog F.strings_Builder_copyCheck [.pointer p0_b] [] w0 fun x1 w2 => XNil p0_b fun a3 => XLoad .slice (Addr.add a3 1) w2 fun (x4 : Sl) => XDo Tryz.prog (Builtin.append_ #[61, 9] 61 ⟨[.slice x4.a x4.len x4.cap, .string p1_s]⟩) (.leaf .slice) w2 fun (x5 : Sl) w6 => XNil p0_b fun a7 => XStore (Addr.add a7 1) (.slice x5.a x5.len x5.cap) w6 fun w8 => K (.tuple ⟨[.int .i64 (((ByteArray.size p1_s) : Nat) : Int), .nilIface]⟩) w8

set_option maxHeartbeats 8000000 in
set_option maxRecDepth 100000 in
theorem S.strings_Builder_WriteString_ok (p0_b : Option Addr) (p1_s : ByteArray) (K : Value → World → Prop) (w0 : World) (h : S.strings_Builder_WriteString p0_b p1_s  K w0) :
    Calls Tryz.prog F.strings_Builder_WriteString ⟨[.pointer p0_b, .string p1_s]⟩ w0 fun e w' => ∃ v, e = .returned v ∧ K v w' :=
  calls_x (P := Tryz.prog) [0, 1, 4, 5] (by kernel_rfl) Tryz.func54 (by kernel_rfl) (Eq.mp (by kernel_rfl : S.strings_Builder_WriteString p0_b p1_s  K w0 = xfn Tryz.prog [0, 1, 4, 5] Tryz.f54 [.pointer p0_b, .string p1_s] K w0) h)

end Go.X
