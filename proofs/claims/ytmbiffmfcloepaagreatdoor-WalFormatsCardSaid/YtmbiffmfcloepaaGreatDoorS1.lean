/- What is to be shown for each function, and the row that ties it to the function's code. -/
import Derived.Test.YtmbiffmfcloepaaGreatDoorSIds
set_option linter.unusedVariables false
namespace Go.X
open Go.Proofs

set_option maxRecDepth 100000 in
set_option maxHeartbeats 8000000 in
/-- 55 (*barque/disk.Disk).Write -/
def S.disk_Disk_Write (p0_d : Option Addr) (p1_name : ByteArray) (p2_at : Int) (p3_s : ByteArray) (K : Value → World → Prop) (w0 : World) : Prop :=
  XCall Tryz.prog F.disk_Disk_ready [.pointer p0_d] (.leaf (.int .i64)) w0 fun (x1 : Int) w2 => XIf ((x1 : Int) != 0) (K (.int .i64 x1) w2) (XCall Tryz.prog F.disk_Disk_find [.pointer p0_d, .string p1_name] (.leaf .ptr) w2 fun (x3 : Option Addr) w4 => XIf (Option.isNone x3) (K (.int .i64 8) w4) (XJoin (α := (Bool × Unit)) (fun s5 w6 => XIf s5.1 (K (.int .i64 2) w6) (XLet (((IntKind.wrap .i64 (p2_at + (((ByteArray.size p3_s) : Nat) : Int)))) : Int) fun n8 => XNil x3 fun a9 => XLoad .slice (Addr.add a9 3) (World.drew w6) fun (x10 : Sl) => XNil x3 fun a11 => XLoad .slice (Addr.add a11 2) (World.drew w6) fun (x12 : Sl) => XLet (((if (((x12.len : Nat) : Int) : Int) > ((x10.len : Nat) : Int) then ((x12.len : Nat) : Int) else ((x10.len : Nat) : Int))) : Int) fun n13 => XCall Tryz.prog F.disk_sectors [.int .i64 n8] (.leaf (.int .i64)) (World.drew w6) fun (x14 : Int) w15 => (World.cell? w15 (Addr.add a11 2) = some (Leaf.mk .slice x12)) ∧ ((World.cell? w15 (Addr.add a9 3) = some (Leaf.mk .slice x10)) ∧ (XCall Tryz.prog F.disk_sectors [.int .i64 n13] (.leaf (.int .i64)) w15 fun (x16 : Int) w17 => (World.cell? w17 (Addr.add a11 2) = some (Leaf.mk .slice x12)) ∧ ((World.cell? w17 (Addr.add a9 3) = some (Leaf.mk .slice x10)) ∧ (XLet (((IntKind.wrap .i64 (x14 - x16))) : Int) fun n18 => XJoin (α := (Bool × Unit)) (fun s19 w20 => XIf s19.1 (K (.int .i64 7) w20) (XLoop (α := (Int × ByteArray × Int × Unit)) (fun next24 s22 w23 => XIf (decide (((((ByteArray.size s22.2.1) : Nat) : Int) : Int) > 0)) ((64 : Int) ≠ 0 ∧ (XLet (((Int.tmod s22.1 64)) : Int) fun n25 => XLet (((IntKind.wrap .i64 (64 - n25))) : Int) fun n26 => XLet (((if (n26 : Int) < (((ByteArray.size s22.2.1) : Nat) : Int) then n26 else (((ByteArray.size s22.2.1) : Nat) : Int))) : Int) fun n27 => XNil p0_d fun a28 => XLoad (.int .i64) (Addr.add a28 3) w23 fun (x29 : Int) => XIf ((x29 : Int) == 0) (XNil p0_d fun a30 => XStore (Addr.add a30 4) (.bool true) w23 fun w31 => K (.int .i64 14) w31) (XJoin (α := (Unit)) (fun s32 w33 => XNil p0_d fun a35 => XLoad (.int .i64) (Addr.add a35 5) w33 fun (x36 : Int) => XLet (((IntKind.wrap .i64 (x36 + 1))) : Int) fun n37 => XNil p0_d fun a38 => XStore (Addr.add a38 5) (.int .i64 n37) w33 fun w39 => XNil p0_d fun a40 => XLoad .slice (Addr.add a40 1) (World.drew w39) fun (x41 : Sl) => XNil x3 fun a42 => XLoad (.int .i64) a42 (World.drew w39) fun (x43 : Int) => (64 : Int) ≠ 0 ∧ (XLet (((IntKind.wrap .i64 (Int.tdiv s22.1 64))) : Int) fun n44 => (64 : Int) ≠ 0 ∧ (XLet (((Int.tmod s22.1 64)) : Int) fun n45 => (((0 : Int) ≤ n27 ∧ n27 ≤ (((ByteArray.size s22.2.1) : Nat) : Int)) ∧ (0 : Int) ≤ 0 ∧ (0 : Int) ≤ n27) ∧ (XLet (((ByteArray.extract s22.2.1 0 (Int.toNat n27))) : ByteArray) fun t46 => XNew 86 [.int .i64 x43, .int .i64 n44, .int .i64 n45, .string t46] (World.drew w39) fun a47 w48 => (World.cell? w48 a42 = some (Leaf.mk (.int .i64) x43)) ∧ ((World.cell? w48 (Addr.add a40 1) = some (Leaf.mk .slice x41)) ∧ (XDo Tryz.prog (Builtin.append_ #[82, 82] 82 ⟨[.slice x41.a x41.len x41.cap, .slice (some a47) 1 1]⟩) (.leaf .slice) w48 fun (x49 : Sl) w50 => (World.cell? w50 a42 = some (Leaf.mk (.int .i64) x43)) ∧ (XNil p0_d fun a51 => XStore (Addr.add a51 1) (.slice x49.a x49.len x49.cap) w50 fun w52 => XNil x3 fun a53 => XLoad .slice (Addr.add a53 3) w52 fun (x54 : Sl) => XLet (((IntKind.wrap .i64 (s22.1 + n27))) : Int) fun n55 => XCall Tryz.prog F.disk_grown [.slice x54.a x54.len x54.cap, .int .i64 n55] (.leaf .slice) w52 fun (x56 : Sl) w57 => XNil x3 fun a58 => XStore (Addr.add a58 3) (.slice x56.a x56.len x56.cap) w57 fun w59 => XNil x3 fun a60 => XLoad .slice (Addr.add a60 3) (World.drew w59) fun (x61 : Sl) => (((0 : Int) ≤ ((x61.len : Nat) : Int) ∧ ((x61.len : Nat) : Int) ≤ ((x61.len : Nat) : Int)) ∧ (0 : Int) ≤ s22.1 ∧ (s22.1 : Int) ≤ ((x61.len : Nat) : Int)) ∧ (XLet ((⟨(if x61.cap = (Int.toNat s22.1) then x61.a else Option.map (fun b => Addr.add b ((Int.toNat s22.1) * 1)) x61.a), ((Int.toNat ((x61.len : Nat) : Int)) - (Int.toNat s22.1)), (x61.cap - (Int.toNat s22.1))⟩) : Sl) fun s62 => (((0 : Int) ≤ n27 ∧ n27 ≤ (((ByteArray.size s22.2.1) : Nat) : Int)) ∧ (0 : Int) ≤ 0 ∧ (0 : Int) ≤ n27) ∧ (XLet (((ByteArray.extract s22.2.1 0 (Int.toNat n27))) : ByteArray) fun t63 => XDo Tryz.prog (Builtin.copy_ #[61, 9] 3 ⟨[.slice s62.a s62.len s62.cap, .string t63]⟩) (.leaf (.int .i64)) (World.drew w59) fun (x64 : Int) w65 => (World.cell? w65 (Addr.add a60 3) = some (Leaf.mk .slice x61)) ∧ (XLet (((IntKind.wrap .i64 (s22.1 + n27))) : Int) fun n66 => (((0 : Int) ≤ (((ByteArray.size s22.2.1) : Nat) : Int) ∧ (((ByteArray.size s22.2.1) : Nat) : Int) ≤ (((ByteArray.size s22.2.1) : Nat) : Int)) ∧ (0 : Int) ≤ n27 ∧ (n27 : Int) ≤ (((ByteArray.size s22.2.1) : Nat) : Int)) ∧ (XLet (((ByteArray.extract s22.2.1 (Int.toNat n27) (Int.toNat (((ByteArray.size s22.2.1) : Nat) : Int)))) : ByteArray) fun t67 => next24 (n66, (t67, (s22.2.2.1, ()))) (World.drew w65)))))))))))) (fun J34 => XNil p0_d fun a68 => XLoad (.int .i64) (Addr.add a68 3) w23 fun (x69 : Int) => XIf (decide ((x69 : Int) > 0)) (XNil p0_d fun a70 => XLoad (.int .i64) (Addr.add a70 3) w23 fun (x71 : Int) => XLet (((IntKind.wrap .i64 (x71 - 1))) : Int) fun n72 => XNil p0_d fun a73 => XStore (Addr.add a73 3) (.int .i64 n72) w23 fun w74 => J34 () w74) (J34 () w23))))) (K (.int .i64 0) w23)) (p2_at, (p3_s, (0, ()))) w20)) (fun J21 => XIf (decide (((((ByteArray.size p3_s) : Nat) : Int) : Int) > 0)) (XCall Tryz.prog F.disk_Disk_Free [.pointer p0_d] (.leaf (.int .i64)) w17 fun (x75 : Int) w76 => J21 ((decide ((n18 : Int) > x75)), ()) w76) (J21 (false, ()) w17)))))))) (fun J7 => XIf (decide ((p2_at : Int) < 0)) (J7 (true, ()) w4) (XLet (((IntKind.wrap .i64 (2097152 - (((ByteArray.size p3_s) : Nat) : Int)))) : Int) fun n77 => J7 ((decide ((p2_at : Int) > n77)), ()) w4))))

set_option maxHeartbeats 8000000 in
set_option maxRecDepth 100000 in
theorem S.disk_Disk_Write_ok (p0_d : Option Addr) (p1_name : ByteArray) (p2_at : Int) (p3_s : ByteArray) (K : Value → World → Prop) (w0 : World) (h : S.disk_Disk_Write p0_d p1_name p2_at p3_s  K w0) :
    Calls Tryz.prog F.disk_Disk_Write ⟨[.pointer p0_d, .string p1_name, .int .i64 p2_at, .string p3_s]⟩ w0 fun e w' => ∃ v, e = .returned v ∧ K v w' :=
  calls_x (P := Tryz.prog) [0, 1, 2, 3, 8, 9, 10, 11, 12, 16, 22, 31, 58, 61, 72, 80] (by kernel_rfl) Tryz.func55 (by kernel_rfl) (Eq.mp (by kernel_rfl : S.disk_Disk_Write p0_d p1_name p2_at p3_s  K w0 = xfn Tryz.prog [0, 1, 2, 3, 8, 9, 10, 11, 12, 16, 22, 31, 58, 61, 72, 80] Tryz.f55 [.pointer p0_d, .string p1_name, .int .i64 p2_at, .string p3_s] K w0) h)

set_option maxRecDepth 100000 in
set_option maxHeartbeats 8000000 in
/-- 56 (*strings.Builder).String -/
def S.strings_Builder_String (p0_b : Option Addr) (K : Value → World → Prop) (w0 : World) : Prop :=
  XNil p0_b fun a1 => XLoad .slice (Addr.add a1 1) (World.drew w0) fun (x2 : Sl) => XNil p0_b fun a3 => XLoad .slice (Addr.add a3 1) (World.drew w0) fun (x4 : Sl) => XDo Tryz.prog (Builtin.unsafeSliceData_ #[61] 129 ⟨[.slice x2.a x2.len x2.cap]⟩) (.leaf .ptr) (World.drew w0) fun (x5 : Option Addr) w6 => (World.cell? w6 (Addr.add a3 1) = some (Leaf.mk .slice x4)) ∧ (XDo Tryz.prog (Builtin.unsafeString_ #[129, 3] 9 ⟨[.pointer x5, .int .i64 ((x4.len : Nat) : Int)]⟩) (.leaf .str) w6 fun (x7 : ByteArray) w8 => (World.cell? w8 (Addr.add a3 1) = some (Leaf.mk .slice x4)) ∧ (K (.string x7) w8))

set_option maxHeartbeats 8000000 in
set_option maxRecDepth 100000 in
theorem S.strings_Builder_String_ok (p0_b : Option Addr) (K : Value → World → Prop) (w0 : World) (h : S.strings_Builder_String p0_b  K w0) :
    Calls Tryz.prog F.strings_Builder_String ⟨[.pointer p0_b]⟩ w0 fun e w' => ∃ v, e = .returned v ∧ K v w' :=
  calls_x (P := Tryz.prog) [0, 2] (by kernel_rfl) Tryz.func56 (by kernel_rfl) (Eq.mp (by kernel_rfl : S.strings_Builder_String p0_b  K w0 = xfn Tryz.prog [0, 2] Tryz.f56 [.pointer p0_b] K w0) h)

set_option maxRecDepth 100000 in
set_option maxHeartbeats 8000000 in
/-- 57 (*strings.Builder).Len -/
def S.strings_Builder_Len (p0_b : Option Addr) (K : Value → World → Prop) (w0 : World) : Prop :=
  XNil p0_b fun a1 => XLoad .slice (Addr.add a1 1) w0 fun (x2 : Sl) => K (.int .i64 ((x2.len : Nat) : Int)) w0

set_option maxHeartbeats 8000000 in
set_option maxRecDepth 100000 in
theorem S.strings_Builder_Len_ok (p0_b : Option Addr) (K : Value → World → Prop) (w0 : World) (h : S.strings_Builder_Len p0_b  K w0) :
    Calls Tryz.prog F.strings_Builder_Len ⟨[.pointer p0_b]⟩ w0 fun e w' => ∃ v, e = .returned v ∧ K v w' :=
  calls_x (P := Tryz.prog) [0, 2] (by kernel_rfl) Tryz.func57 (by kernel_rfl) (Eq.mp (by kernel_rfl : S.strings_Builder_Len p0_b  K w0 = xfn Tryz.prog [0, 2] Tryz.f57 [.pointer p0_b] K w0) h)

set_option maxRecDepth 100000 in
set_option maxHeartbeats 8000000 in
/-- 58 (*barque/marks.Book).Ready -/
def S.marks_Book_Ready (p0_b : Option Addr) (K : Value → World → Prop) (w0 : World) : Prop :=
  XCall Tryz.prog F.marks_Book_none [.pointer p0_b] (.leaf .bool) w0 fun (x1 : Bool) w2 => K (.bool (!x1)) w2

set_option maxHeartbeats 8000000 in
set_option maxRecDepth 100000 in
theorem S.marks_Book_Ready_ok (p0_b : Option Addr) (K : Value → World → Prop) (w0 : World) (h : S.marks_Book_Ready p0_b  K w0) :
    Calls Tryz.prog F.marks_Book_Ready ⟨[.pointer p0_b]⟩ w0 fun e w' => ∃ v, e = .returned v ∧ K v w' :=
  calls_x (P := Tryz.prog) [0, 2] (by kernel_rfl) Tryz.func58 (by kernel_rfl) (Eq.mp (by kernel_rfl : S.marks_Book_Ready p0_b  K w0 = xfn Tryz.prog [0, 2] Tryz.f58 [.pointer p0_b] K w0) h)

set_option maxRecDepth 100000 in
set_option maxHeartbeats 8000000 in
/-- 59 barque/wal.number -/
def S.wal_number (p0_s : ByteArray) (K : Value → World → Prop) (w0 : World) : Prop :=
  XJoin (α := (Bool × Unit)) (fun s1 w2 => XIf s1.1 (K (.tuple ⟨[.int .i64 0, .bool false]⟩) w2) ((((0 : Int) ≤ (((ByteArray.size p0_s) : Nat) : Int) ∧ (((ByteArray.size p0_s) : Nat) : Int) ≤ (((ByteArray.size p0_s) : Nat) : Int)) ∧ (0 : Int) ≤ 4 ∧ (4 : Int) ≤ (((ByteArray.size p0_s) : Nat) : Int)) ∧ (XLet (((ByteArray.extract p0_s 4 (Int.toNat (((ByteArray.size p0_s) : Nat) : Int)))) : ByteArray) fun t4 => XDo Tryz.prog (convert 9 61 (.string t4)) (.leaf .slice) w2 fun (x5 : Sl) w6 => XLoop (α := (Int × Bool × Int × Int × Unit)) (fun next9 s7 w8 => XIf (decide ((s7.2.2.2.1 : Int) < ((x5.len : Nat) : Int))) (XNil x5.a fun a10 => ((0 : Int) ≤ s7.2.2.2.1 ∧ s7.2.2.2.1 < ((x5.len : Nat) : Int)) ∧ (XLoad (.int .u8) (Addr.add a10 ((Int.toNat s7.2.2.2.1) * 1)) w8 fun (x11 : Int) => XJoin (α := (Bool × Unit)) (fun s12 w13 => XIf s12.1 (K (.tuple ⟨[.int .i64 0, .bool false]⟩) w13) (XLet (((IntKind.wrap .i64 (10 * s7.2.2.1))) : Int) fun n15 => XLet (((IntKind.wrap .u8 (x11 - 48))) : Int) fun n16 => XLet (((IntKind.wrap .i64 (n16))) : Int) fun n17 => XLet (((IntKind.wrap .i64 (n15 + n17))) : Int) fun n18 => XLet (((IntKind.wrap .i64 (s7.2.2.2.1 + 1))) : Int) fun n19 => next9 (s7.1, (s7.2.1, (n18, (n19, ())))) w13)) (fun J14 => XIf (decide ((x11 : Int) < 48)) (J14 (true, ()) w8) (J14 ((decide ((x11 : Int) > 57)), ()) w8)))) (K (.tuple ⟨[.int .i64 s7.2.2.1, .bool true]⟩) w8)) (0, (false, (0, (0, ())))) w6))) (fun J3 => XIf (((((ByteArray.size p0_s) : Nat) : Int) : Int) != 12) (J3 (true, ()) w0) (XCall Tryz.prog F.strings_HasPrefix [.string p0_s, .string ⟨#[115, 101, 103, 45]⟩] (.leaf .bool) w0 fun (x20 : Bool) w21 => J3 ((!x20), ()) w21))

set_option maxHeartbeats 8000000 in
set_option maxRecDepth 100000 in
theorem S.wal_number_ok (p0_s : ByteArray) (K : Value → World → Prop) (w0 : World) (h : S.wal_number p0_s  K w0) :
    Calls Tryz.prog F.wal_number ⟨[.string p0_s]⟩ w0 fun e w' => ∃ v, e = .returned v ∧ K v w' :=
  calls_x (P := Tryz.prog) [0, 2, 3, 4, 6, 14, 17, 18, 19, 20, 28] (by kernel_rfl) Tryz.func59 (by kernel_rfl) (Eq.mp (by kernel_rfl : S.wal_number p0_s  K w0 = xfn Tryz.prog [0, 2, 3, 4, 6, 14, 17, 18, 19, 20, 28] Tryz.f59 [.string p0_s] K w0) h)

set_option maxRecDepth 100000 in
set_option maxHeartbeats 8000000 in
/-- 60 (*barque/disk.Disk).Read -/
def S.disk_Disk_Read (p0_d : Option Addr) (p1_name : ByteArray) (p2_at : Int) (p3_n : Int) (K : Value → World → Prop) (w0 : World) : Prop :=
  XCall Tryz.prog F.disk_Disk_ready [.pointer p0_d] (.leaf (.int .i64)) w0 fun (x1 : Int) w2 => XIf ((x1 : Int) != 0) (K (.tuple ⟨[.string ByteArray.empty, .int .i64 x1]⟩) w2) (XCall Tryz.prog F.disk_Disk_find [.pointer p0_d, .string p1_name] (.leaf .ptr) w2 fun (x3 : Option Addr) w4 => XIf (Option.isNone x3) (K (.tuple ⟨[.string ByteArray.empty, .int .i64 8]⟩) w4) (XJoin (α := (Bool × Unit)) (fun s5 w6 => XIf s5.1 (K (.tuple ⟨[.string ByteArray.empty, .int .i64 2]⟩) w6) (XNil x3 fun a8 => XLoad .slice (Addr.add a8 3) w6 fun (x9 : Sl) => XIf (decide ((p2_at : Int) ≥ ((x9.len : Nat) : Int))) (K (.tuple ⟨[.string ByteArray.empty, .int .i64 0]⟩) w6) (XNil x3 fun a10 => XLoad .slice (Addr.add a10 3) (World.drew w6) fun (x11 : Sl) => XNil x3 fun a12 => XLoad .slice (Addr.add a12 3) (World.drew w6) fun (x13 : Sl) => XLet (((IntKind.wrap .i64 (((x13.len : Nat) : Int) - p2_at))) : Int) fun n14 => XLet (((if (n14 : Int) < p3_n then n14 else p3_n)) : Int) fun n15 => XLet (((IntKind.wrap .i64 (p2_at + n15))) : Int) fun n16 => (((0 : Int) ≤ n16 ∧ n16 ≤ ((x11.cap : Nat) : Int)) ∧ (0 : Int) ≤ p2_at ∧ (p2_at : Int) ≤ n16) ∧ (XLet ((⟨(if x11.cap = (Int.toNat p2_at) then x11.a else Option.map (fun b => Addr.add b ((Int.toNat p2_at) * 1)) x11.a), ((Int.toNat n16) - (Int.toNat p2_at)), (x11.cap - (Int.toNat p2_at))⟩) : Sl) fun s17 => XBytes s17.a s17.len (World.drew w6) fun x18 => K (.tuple ⟨[.string x18, .int .i64 0]⟩) (World.drew w6))))) (fun J7 => XIf (decide ((p2_at : Int) < 0)) (J7 (true, ()) w4) (J7 ((decide ((p3_n : Int) < 0)), ()) w4))))

set_option maxHeartbeats 8000000 in
set_option maxRecDepth 100000 in
theorem S.disk_Disk_Read_ok (p0_d : Option Addr) (p1_name : ByteArray) (p2_at : Int) (p3_n : Int) (K : Value → World → Prop) (w0 : World) (h : S.disk_Disk_Read p0_d p1_name p2_at p3_n  K w0) :
    Calls Tryz.prog F.disk_Disk_Read ⟨[.pointer p0_d, .string p1_name, .int .i64 p2_at, .int .i64 p3_n]⟩ w0 fun e w' => ∃ v, e = .returned v ∧ K v w' :=
  calls_x (P := Tryz.prog) [0, 1, 2, 3, 8, 9, 10, 11, 15, 20, 23, 30] (by kernel_rfl) Tryz.func60 (by kernel_rfl) (Eq.mp (by kernel_rfl : S.disk_Disk_Read p0_d p1_name p2_at p3_n  K w0 = xfn Tryz.prog [0, 1, 2, 3, 8, 9, 10, 11, 15, 20, 23, 30] Tryz.f60 [.pointer p0_d, .string p1_name, .int .i64 p2_at, .int .i64 p3_n] K w0) h)

set_option maxRecDepth 100000 in
set_option maxHeartbeats 8000000 in
/-- 61 barque/wal.first -/
def S.wal_first (p0_n : Int) (K : Value → World → Prop) (w0 : World) : Prop :=
  XCall Tryz.prog F.wal_name [.int .i64 p0_n] (.leaf .str) w0 fun (x1 : ByteArray) w2 => (((ByteArray.size ⟨#[115, 101, 103, 109, 101, 110, 116, 32]⟩ + ByteArray.size x1 : Nat) : Int) ≤ IntKind.i64.max) ∧ (XLet (((⟨#[115, 101, 103, 109, 101, 110, 116, 32]⟩ ++ x1 : ByteArray)) : ByteArray) fun t3 => K (.string t3) w2)

set_option maxHeartbeats 8000000 in
set_option maxRecDepth 100000 in
theorem S.wal_first_ok (p0_n : Int) (K : Value → World → Prop) (w0 : World) (h : S.wal_first p0_n  K w0) :
    Calls Tryz.prog F.wal_first ⟨[.int .i64 p0_n]⟩ w0 fun e w' => ∃ v, e = .returned v ∧ K v w' :=
  calls_x (P := Tryz.prog) [0, 2] (by kernel_rfl) Tryz.func61 (by kernel_rfl) (Eq.mp (by kernel_rfl : S.wal_first p0_n  K w0 = xfn Tryz.prog [0, 2] Tryz.f61 [.int .i64 p0_n] K w0) h)

set_option maxRecDepth 100000 in
set_option maxHeartbeats 8000000 in
/-- 62 barque/wal.next -/
def S.wal_next (p0_b : Option Addr) (p1_all : ByteArray) (p2_at : Int) (p3_last : ByteArray) (K : Value → World → Prop) (w0 : World) : Prop :=
  XLet (((IntKind.wrap .i64 ((((ByteArray.size p1_all) : Nat) : Int) - p2_at))) : Int) fun n1 => XIf (decide ((n1 : Int) < 36)) (K (.tuple ⟨[.string ByteArray.empty, .string ByteArray.empty, .bool false]⟩) w0) (XLet (((IntKind.wrap .i64 (p2_at + 4))) : Int) fun n2 => (((0 : Int) ≤ n2 ∧ n2 ≤ (((ByteArray.size p1_all) : Nat) : Int)) ∧ (0 : Int) ≤ p2_at ∧ (p2_at : Int) ≤ n2) ∧ (XLet (((ByteArray.extract p1_all (Int.toNat p2_at) (Int.toNat n2))) : ByteArray) fun t3 => XCall Tryz.prog F.wal_value [.string t3] (.leaf (.int .i64)) w0 fun (x4 : Int) w5 => XJoin (α := (Bool × Unit)) (fun s6 w7 => XIf s6.1 (K (.tuple ⟨[.string ByteArray.empty, .string ByteArray.empty, .bool false]⟩) w7) (XLet (((IntKind.wrap .i64 (p2_at + 4))) : Int) fun n9 => XLet (((IntKind.wrap .i64 (p2_at + 36))) : Int) fun n10 => (((0 : Int) ≤ n10 ∧ n10 ≤ (((ByteArray.size p1_all) : Nat) : Int)) ∧ (0 : Int) ≤ n9 ∧ (n9 : Int) ≤ n10) ∧ (XLet (((ByteArray.extract p1_all (Int.toNat n9) (Int.toNat n10))) : ByteArray) fun t11 => XLet (((IntKind.wrap .i64 (p2_at + 36))) : Int) fun n12 => XLet (((IntKind.wrap .i64 (p2_at + 36))) : Int) fun n13 => XLet (((IntKind.wrap .i64 (n13 + x4))) : Int) fun n14 => (((0 : Int) ≤ n14 ∧ n14 ≤ (((ByteArray.size p1_all) : Nat) : Int)) ∧ (0 : Int) ≤ n12 ∧ (n12 : Int) ≤ n14) ∧ (XLet (((ByteArray.extract p1_all (Int.toNat n12) (Int.toNat n14))) : ByteArray) fun t15 => (((ByteArray.size p3_last + ByteArray.size t15 : Nat) : Int) ≤ IntKind.i64.max) ∧ (XLet (((p3_last ++ t15 : ByteArray)) : ByteArray) fun t16 => XCall Tryz.prog F.marks_Book_Is [.pointer p0_b, .string t16, .string t11] (.leaf .bool) (World.drew w7) fun (x17 : Bool) w18 => XIf (!x17) (K (.tuple ⟨[.string ByteArray.empty, .string ByteArray.empty, .bool false]⟩) w18) (K (.tuple ⟨[.string t15, .string t11, .bool true]⟩) w18)))))) (fun J8 => XIf (decide ((x4 : Int) < 1)) (J8 (true, ()) w5) (XIf (decide ((x4 : Int) > 1048833)) (J8 (true, ()) w5) (XLet (((IntKind.wrap .i64 ((((ByteArray.size p1_all) : Nat) : Int) - p2_at))) : Int) fun n19 => XLet (((IntKind.wrap .i64 (n19 - 36))) : Int) fun n20 => J8 ((decide ((x4 : Int) > n20)), ()) w5)))))

set_option maxHeartbeats 8000000 in
set_option maxRecDepth 100000 in
theorem S.wal_next_ok (p0_b : Option Addr) (p1_all : ByteArray) (p2_at : Int) (p3_last : ByteArray) (K : Value → World → Prop) (w0 : World) (h : S.wal_next p0_b p1_all p2_at p3_last  K w0) :
    Calls Tryz.prog F.wal_next ⟨[.pointer p0_b, .string p1_all, .int .i64 p2_at, .string p3_last]⟩ w0 fun e w' => ∃ v, e = .returned v ∧ K v w' :=
  calls_x (P := Tryz.prog) [0, 1, 2, 3, 8, 9, 10, 11, 12, 13, 18, 39, 60] (by kernel_rfl) Tryz.func62 (by kernel_rfl) (Eq.mp (by kernel_rfl : S.wal_next p0_b p1_all p2_at p3_last  K w0 = xfn Tryz.prog [0, 1, 2, 3, 8, 9, 10, 11, 12, 13, 18, 39, 60] Tryz.f62 [.pointer p0_b, .string p1_all, .int .i64 p2_at, .string p3_last] K w0) h)

set_option maxRecDepth 100000 in
set_option maxHeartbeats 8000000 in
/-- 63 slices.Delete[[]*barque/disk.file,*barque/disk.file] -/
def S.slices_Delete (p0_s : Sl) (p1_i : Int) (p2_j : Int) (K : Value → World → Prop) (w0 : World) : Prop :=
  (((0 : Int) ≤ ((p0_s.len : Nat) : Int) ∧ ((p0_s.len : Nat) : Int) ≤ ((p0_s.cap : Nat) : Int)) ∧ ((0 : Int) ≤ p2_j ∧ (p2_j : Int) ≤ ((p0_s.len : Nat) : Int)) ∧ (0 : Int) ≤ p1_i ∧ (p1_i : Int) ≤ p2_j) ∧ (XLet ((⟨(if (Int.toNat ((p0_s.len : Nat) : Int)) = (Int.toNat p1_i) then p0_s.a else Option.map (fun b => Addr.add b ((Int.toNat p1_i) * 1)) p0_s.a), ((Int.toNat p2_j) - (Int.toNat p1_i)), ((Int.toNat ((p0_s.len : Nat) : Int)) - (Int.toNat p1_i))⟩) : Sl) fun s1 => XIf ((p1_i : Int) == p2_j) (K (.slice p0_s.a p0_s.len p0_s.cap) w0) ((((0 : Int) ≤ p1_i ∧ p1_i ≤ ((p0_s.cap : Nat) : Int)) ∧ (0 : Int) ≤ 0 ∧ (0 : Int) ≤ p1_i) ∧ (XLet ((⟨(if p0_s.cap = 0 then p0_s.a else Option.map (fun b => Addr.add b (0 * 1)) p0_s.a), ((Int.toNat p1_i) - 0), (p0_s.cap - 0)⟩) : Sl) fun s2 => (((0 : Int) ≤ ((p0_s.len : Nat) : Int) ∧ ((p0_s.len : Nat) : Int) ≤ ((p0_s.len : Nat) : Int)) ∧ (0 : Int) ≤ p2_j ∧ (p2_j : Int) ≤ ((p0_s.len : Nat) : Int)) ∧ (XLet ((⟨(if p0_s.cap = (Int.toNat p2_j) then p0_s.a else Option.map (fun b => Addr.add b ((Int.toNat p2_j) * 1)) p0_s.a), ((Int.toNat ((p0_s.len : Nat) : Int)) - (Int.toNat p2_j)), (p0_s.cap - (Int.toNat p2_j))⟩) : Sl) fun s3 => XDo Tryz.prog (Builtin.append_ #[81, 81] 81 ⟨[.slice s2.a s2.len s2.cap, .slice s3.a s3.len s3.cap]⟩) (.leaf .slice) (World.drew w0) fun (x4 : Sl) w5 => (((0 : Int) ≤ ((p0_s.len : Nat) : Int) ∧ ((p0_s.len : Nat) : Int) ≤ ((x4.cap : Nat) : Int)) ∧ (0 : Int) ≤ ((x4.len : Nat) : Int) ∧ (((x4.len : Nat) : Int) : Int) ≤ ((p0_s.len : Nat) : Int)) ∧ (XLet ((⟨(if x4.cap = (Int.toNat ((x4.len : Nat) : Int)) then x4.a else Option.map (fun b => Addr.add b ((Int.toNat ((x4.len : Nat) : Int)) * 1)) x4.a), ((Int.toNat ((p0_s.len : Nat) : Int)) - (Int.toNat ((x4.len : Nat) : Int))), (x4.cap - (Int.toNat ((x4.len : Nat) : Int)))⟩) : Sl) fun s6 => XDos Tryz.prog (Builtin.clear_ #[81] 0 ⟨[.slice s6.a s6.len s6.cap]⟩) [] w5 fun (x7 : (Unit)) w8 => K (.slice x4.a x4.len x4.cap) w8)))))

set_option maxHeartbeats 8000000 in
set_option maxRecDepth 100000 in
theorem S.slices_Delete_ok (p0_s : Sl) (p1_i : Int) (p2_j : Int) (K : Value → World → Prop) (w0 : World) (h : S.slices_Delete p0_s p1_i p2_j  K w0) :
    Calls Tryz.prog F.slices_Delete ⟨[.slice p0_s.a p0_s.len p0_s.cap, .int .i64 p1_i, .int .i64 p2_j]⟩ w0 fun e w' => ∃ v, e = .returned v ∧ K v w' :=
  calls_x (P := Tryz.prog) [0, 1, 2, 6, 7, 16] (by kernel_rfl) Tryz.func63 (by kernel_rfl) (Eq.mp (by kernel_rfl : S.slices_Delete p0_s p1_i p2_j  K w0 = xfn Tryz.prog [0, 1, 2, 6, 7, 16] Tryz.f63 [.slice p0_s.a p0_s.len p0_s.cap, .int .i64 p1_i, .int .i64 p2_j] K w0) h)

set_option maxRecDepth 100000 in
set_option maxHeartbeats 8000000 in
/-- 64 slices.DeleteFunc[[]barque/disk.write,barque/disk.write] -/
def S.slices_DeleteFunc (p0_s : Sl) (p1_del : Value) (K : Value → World → Prop) (w0 : World) : Prop :=
  XCall Tryz.prog F.slices_IndexFunc [.slice p0_s.a p0_s.len p0_s.cap, p1_del] (.leaf (.int .i64)) w0 fun (x1 : Int) w2 => XIf ((x1 : Int) == (-1)) (K (.slice p0_s.a p0_s.len p0_s.cap) w2) (XLet (((IntKind.wrap .i64 (x1 + 1))) : Int) fun n3 => XLoop (α := (Int × Int × Unit)) (fun next6 s4 w5 => XIf (decide ((s4.2.1 : Int) < ((p0_s.len : Nat) : Int))) (XJoin (α := (Int × Unit)) (fun s7 w8 => XLet (((IntKind.wrap .i64 (s4.2.1 + 1))) : Int) fun n10 => next6 (s7.1, (n10, ())) w8) (fun J9 => XNil p0_s.a fun a11 => ((0 : Int) ≤ s4.2.1 ∧ s4.2.1 < ((p0_s.len : Nat) : Int)) ∧ (XLoads [(.int .i64), (.int .i64), (.int .i64), .str] (Addr.add a11 ((Int.toNat s4.2.1) * 4)) w5 fun (x12 : (Int × Int × Int × ByteArray × Unit)) => XNew 86 [.int .i64 0, .int .i64 0, .int .i64 0, .string ByteArray.empty] w5 fun a13 w14 => XStores a13 0 [.int .i64 x12.1, .int .i64 x12.2.1, .int .i64 x12.2.2.1, .string x12.2.2.2.1] w14 fun w15 => XLoads [(.int .i64), (.int .i64), (.int .i64), .str] a13 w15 fun (x16 : (Int × Int × Int × ByteArray × Unit)) => XCallV Tryz.prog (p1_del) [.agg ⟨[.int .i64 x16.1, .int .i64 x16.2.1, .int .i64 x16.2.2.1, .string x16.2.2.2.1]⟩] (.leaf .bool) w15 fun (x17 : Bool) w18 => XIf (!x17) (XLoads [(.int .i64), (.int .i64), (.int .i64), .str] a13 w18 fun (x19 : (Int × Int × Int × ByteArray × Unit)) => XNil p0_s.a fun a20 => ((0 : Int) ≤ s4.1 ∧ s4.1 < ((p0_s.len : Nat) : Int)) ∧ (XStores (Addr.add a20 ((Int.toNat s4.1) * 4)) 0 [.int .i64 x19.1, .int .i64 x19.2.1, .int .i64 x19.2.2.1, .string x19.2.2.2.1] w18 fun w21 => XLet (((IntKind.wrap .i64 (s4.1 + 1))) : Int) fun n22 => J9 (n22, ()) w21)) (J9 (s4.1, ()) w18)))) ((((0 : Int) ≤ ((p0_s.len : Nat) : Int) ∧ ((p0_s.len : Nat) : Int) ≤ ((p0_s.len : Nat) : Int)) ∧ (0 : Int) ≤ s4.1 ∧ (s4.1 : Int) ≤ ((p0_s.len : Nat) : Int)) ∧ (XLet ((⟨(if p0_s.cap = (Int.toNat s4.1) then p0_s.a else Option.map (fun b => Addr.add b ((Int.toNat s4.1) * 4)) p0_s.a), ((Int.toNat ((p0_s.len : Nat) : Int)) - (Int.toNat s4.1)), (p0_s.cap - (Int.toNat s4.1))⟩) : Sl) fun s23 => XDos Tryz.prog (Builtin.clear_ #[82] 0 ⟨[.slice s23.a s23.len s23.cap]⟩) [] w5 fun (x24 : (Unit)) w25 => (((0 : Int) ≤ s4.1 ∧ s4.1 ≤ ((p0_s.cap : Nat) : Int)) ∧ (0 : Int) ≤ 0 ∧ (0 : Int) ≤ s4.1) ∧ (XLet ((⟨(if p0_s.cap = 0 then p0_s.a else Option.map (fun b => Addr.add b (0 * 4)) p0_s.a), ((Int.toNat s4.1) - 0), (p0_s.cap - 0)⟩) : Sl) fun s26 => K (.slice s26.a s26.len s26.cap) w25)))) (x1, (n3, ())) w2)

set_option maxHeartbeats 8000000 in
set_option maxRecDepth 100000 in
theorem S.slices_DeleteFunc_ok (p0_s : Sl) (p1_del : Value) (K : Value → World → Prop) (w0 : World) (h : S.slices_DeleteFunc p0_s p1_del  K w0) :
    Calls Tryz.prog F.slices_DeleteFunc ⟨[.slice p0_s.a p0_s.len p0_s.cap, p1_del]⟩ w0 fun e w' => ∃ v, e = .returned v ∧ K v w' :=
  calls_x (P := Tryz.prog) [0, 1, 4, 5, 6, 7, 12, 19, 29] (by kernel_rfl) Tryz.func64 (by kernel_rfl) (Eq.mp (by kernel_rfl : S.slices_DeleteFunc p0_s p1_del  K w0 = xfn Tryz.prog [0, 1, 4, 5, 6, 7, 12, 19, 29] Tryz.f64 [.slice p0_s.a p0_s.len p0_s.cap, p1_del] K w0) h)

set_option maxRecDepth 100000 in
set_option maxHeartbeats 8000000 in
/-- 65 (*barque/disk.Disk).Remove$1 -/
def S.disk_Disk_Remove_1 (p0_w : HL [(.int .i64), (.int .i64), (.int .i64), .str]) (q0 : Addr) (K : Value → World → Prop) (w0 : World) : Prop :=
  XNew 86 [.int .i64 p0_w.1, .int .i64 p0_w.2.1, .int .i64 p0_w.2.2.1, .string p0_w.2.2.2.1] w0 fun a1 w2 => XLoad (.int .i64) a1 (World.drew w2) fun (x3 : Int) => XLoad .ptr q0 (World.drew w2) fun (x4 : Option Addr) => XNil x4 fun a5 => XLoad (.int .i64) a5 (World.drew w2) fun (x6 : Int) => K (.bool ((x3 : Int) == x6)) (World.drew w2)

set_option maxHeartbeats 8000000 in
set_option maxRecDepth 100000 in
theorem S.disk_Disk_Remove_1_ok (p0_w : HL [(.int .i64), (.int .i64), (.int .i64), .str]) (q0 : Addr) (K : Value → World → Prop) (w0 : World) (h : S.disk_Disk_Remove_1 p0_w q0 K w0) :
    Calls Tryz.prog F.disk_Disk_Remove_1 ⟨[.agg ⟨[.int .i64 p0_w.1, .int .i64 p0_w.2.1, .int .i64 p0_w.2.2.1, .string p0_w.2.2.2.1]⟩, .pointer (some q0)]⟩ w0 fun e w' => ∃ v, e = .returned v ∧ K v w' :=
  calls_x (P := Tryz.prog) [0, 1, 2, 3] (by kernel_rfl) Tryz.func65 (by kernel_rfl) (Eq.mp (by kernel_rfl : S.disk_Disk_Remove_1 p0_w q0 K w0 = xfn Tryz.prog [0, 1, 2, 3] Tryz.f65 [.agg ⟨[.int .i64 p0_w.1, .int .i64 p0_w.2.1, .int .i64 p0_w.2.2.1, .string p0_w.2.2.2.1]⟩, .pointer (some q0)] K w0) h)

set_option maxRecDepth 100000 in
set_option maxHeartbeats 8000000 in
/-- 66 strings.Trim -/
def S.strings_Trim (p0_s : ByteArray) (p1_cutset : ByteArray) (K : Value → World → Prop) (w0 : World) : Prop :=
  XJoin (α := (Bool × Unit)) (fun s1 w2 => XIf s1.1 (K (.string p0_s) w2) (XJoin (α := (Bool × Unit)) (fun s4 w5 => XIf s4.1 (((0 : Int) ≤ 0 ∧ 0 < ((ByteArray.size p1_cutset : Nat) : Int)) ∧ (XLet ((((UInt8.toNat (List.getD (ByteArray.data p1_cutset).toList 0 0) : Nat) : Int)) : Int) fun n7 => ((0 : Int) ≤ 0 ∧ 0 < ((ByteArray.size p1_cutset : Nat) : Int)) ∧ (XLet ((((UInt8.toNat (List.getD (ByteArray.data p1_cutset).toList 0 0) : Nat) : Int)) : Int) fun n8 => XCall Tryz.prog F.strings_trimRightByte [.string p0_s, .int .u8 n7] (.leaf .str) (World.drew w5) fun (x9 : ByteArray) w10 => XCall Tryz.prog F.strings_trimLeftByte [.string x9, .int .u8 n8] (.leaf .str) w10 fun (x11 : ByteArray) w12 => K (.string x11) w12))) (XCalls Tryz.prog F.strings_makeASCIISet [.string p1_cutset] [.agg (List.replicate 256 (.bool)), .leaf .bool] w5 fun (x13 : ((HL (List.replicate 256 (.bool))) × Bool × Unit)) w14 => XNew 135 (List.replicate 256 (.bool false)) w14 fun a15 w16 => XStores a15 0 (HL.cells (List.replicate 256 (.bool)) x13.1) w16 fun w17 => XIf x13.2.1 (XCall Tryz.prog F.strings_trimRightASCII [.string p0_s, .pointer (some a15)] (.leaf .str) w17 fun (x18 : ByteArray) w19 => XCall Tryz.prog F.strings_trimLeftASCII [.string x18, .pointer (some a15)] (.leaf .str) w19 fun (x20 : ByteArray) w21 => K (.string x20) w21) (XCall Tryz.prog F.strings_trimRightUnicode [.string p0_s, .string p1_cutset] (.leaf .str) w17 fun (x22 : ByteArray) w23 => XCall Tryz.prog F.strings_trimLeftUnicode [.string x22, .string p1_cutset] (.leaf .str) w23 fun (x24 : ByteArray) w25 => K (.string x24) w25))) (fun J6 => XIf (((((ByteArray.size p1_cutset) : Nat) : Int) : Int) == 1) (((0 : Int) ≤ 0 ∧ 0 < ((ByteArray.size p1_cutset : Nat) : Int)) ∧ (XLet ((((UInt8.toNat (List.getD (ByteArray.data p1_cutset).toList 0 0) : Nat) : Int)) : Int) fun n26 => J6 ((decide ((n26 : Int) < 128)), ()) w2)) (J6 (false, ()) w2)))) (fun J3 => XIf (sEq p0_s ByteArray.empty) (J3 (true, ()) w0) (J3 ((sEq p1_cutset ByteArray.empty), ()) w0))

set_option maxHeartbeats 8000000 in
set_option maxRecDepth 100000 in
theorem S.strings_Trim_ok (p0_s : ByteArray) (p1_cutset : ByteArray) (K : Value → World → Prop) (w0 : World) (h : S.strings_Trim p0_s p1_cutset  K w0) :
    Calls Tryz.prog F.strings_Trim ⟨[.string p0_s, .string p1_cutset]⟩ w0 fun e w' => ∃ v, e = .returned v ∧ K v w' :=
  calls_x (P := Tryz.prog) [0, 1, 4, 5, 6, 12, 21, 34] (by kernel_rfl) Tryz.func66 (by kernel_rfl) (Eq.mp (by kernel_rfl : S.strings_Trim p0_s p1_cutset  K w0 = xfn Tryz.prog [0, 1, 4, 5, 6, 12, 21, 34] Tryz.f66 [.string p0_s, .string p1_cutset] K w0) h)

set_option maxRecDepth 100000 in
set_option maxHeartbeats 8000000 in
/-- 67 strings.Repeat -/
def S.strings_Repeat (p0_s : ByteArray) (p1_count : Int) (K : Value → World → Prop) (w0 : World) : Prop :=
  XIf ((p1_count : Int) == 0) (K (.string ByteArray.empty) w0) (XIf ((p1_count : Int) == 1) (K (.string p0_s) w0) (XJoin (α := (Unit)) (fun s1 w2 => XLet (((IntKind.wrap .u64 ((((ByteArray.size p0_s) : Nat) : Int)))) : Int) fun n4 => XLet (((IntKind.wrap .u64 (p1_count))) : Int) fun n5 => XCalls Tryz.prog F.math_bits_Mul [.int .u64 n4, .int .u64 n5] [.leaf (.int .u64), .leaf (.int .u64)] w2 fun (x6 : (Int × Int × Unit)) w7 => XJoin (α := (Unit)) (fun s8 w9 => XLet (((IntKind.wrap .i64 (x6.2.1))) : Int) fun n11 => XIf (((((ByteArray.size p0_s) : Nat) : Int) : Int) == 0) (K (.string ByteArray.empty) w9) (XJoin (α := (ByteArray × Unit)) (fun s12 w13 => XJoin (α := (Int × Unit)) (fun s15 w16 => XNew 104 [.pointer none, .slice none 0 0] w16 fun a18 w19 => XCalls Tryz.prog F.strings_Builder_Grow [.pointer (some a18), .int .i64 n11] [] w19 fun x20 w21 => XCalls Tryz.prog F.strings_Builder_WriteString [.pointer (some a18), .string p0_s] [.leaf (.int .i64), .leaf .any] w21 fun (x22 : (Int × Value × Unit)) w23 => XLoop (α := (Unit)) (fun next26 s24 w25 => XCall Tryz.prog F.strings_Builder_Len [.pointer (some a18)] (.leaf (.int .i64)) w25 fun (x27 : Int) w28 => XIf (decide ((x27 : Int) < n11)) (XCall Tryz.prog F.strings_Builder_Len [.pointer (some a18)] (.leaf (.int .i64)) w28 fun (x29 : Int) w30 => XLet (((IntKind.wrap .i64 (n11 - x29))) : Int) fun n31 => XCall Tryz.prog F.strings_Builder_Len [.pointer (some a18)] (.leaf (.int .i64)) w30 fun (x32 : Int) w33 => XLet (((if (s15.1 : Int) < (if (x32 : Int) < n31 then x32 else n31) then s15.1 else (if (x32 : Int) < n31 then x32 else n31))) : Int) fun n34 => XCall Tryz.prog F.strings_Builder_String [.pointer (some a18)] (.leaf .str) w33 fun (x35 : ByteArray) w36 => (((0 : Int) ≤ n34 ∧ n34 ≤ (((ByteArray.size x35) : Nat) : Int)) ∧ (0 : Int) ≤ 0 ∧ (0 : Int) ≤ n34) ∧ (XLet (((ByteArray.extract x35 0 (Int.toNat n34))) : ByteArray) fun t37 => XCalls Tryz.prog F.strings_Builder_WriteString [.pointer (some a18), .string t37] [.leaf (.int .i64), .leaf .any] w36 fun (x38 : (Int × Value × Unit)) w39 => next26 () w39)) (XCall Tryz.prog F.strings_Builder_String [.pointer (some a18)] (.leaf .str) w28 fun (x40 : ByteArray) w41 => K (.string x40) w41)) () w23) (fun J17 => XIf (decide ((n11 : Int) > 8192)) (((((ByteArray.size p0_s) : Nat) : Int) : Int) ≠ 0 ∧ (XLet (((IntKind.wrap .i64 (Int.tdiv 8192 (((ByteArray.size p0_s) : Nat) : Int)))) : Int) fun n42 => XLet (((IntKind.wrap .i64 (n42 * (((ByteArray.size p0_s) : Nat) : Int)))) : Int) fun n43 => XIf ((n43 : Int) == 0) (J17 ((((ByteArray.size p0_s) : Nat) : Int), ()) w13) (J17 (n43, ()) w13))) (J17 (n11, ()) w13))) (fun J14 => ((0 : Int) ≤ 0 ∧ 0 < ((ByteArray.size p0_s : Nat) : Int)) ∧ (XLet ((((UInt8.toNat (List.getD (ByteArray.data p0_s).toList 0 0) : Nat) : Int)) : Int) fun n44 => XJoin (α := (Bool × Unit)) (fun s45 w46 => XIf s45.1 (XJoin (α := (Bool × Unit)) (fun s48 w49 => XIf s48.1 ((((0 : Int) ≤ n11 ∧ n11 ≤ (((ByteArray.size ⟨#[32, 32, 32, 32, 32, 32, 32, 32, 32, 32, 32, 32, 32, 32, 32, 32, 32, 32, 32, 32, 32, 32, 32, 32, 32, 32, 32, 32, 32, 32, 32, 32, 32, 32, 32, 32, 32, 32, 32, 32, 32, 32, 32, 32, 32, 32, 32, 32, 32, 32, 32, 32, 32, 32, 32, 32, 32, 32, 32, 32, 32, 32, 32, 32, 32, 32, 32, 32, 32, 32, 32, 32, 32, 32, 32, 32, 32, 32, 32, 32, 32, 32, 32, 32, 32, 32, 32, 32, 32, 32, 32, 32, 32, 32, 32, 32, 32, 32, 32, 32, 32, 32, 32, 32, 32, 32, 32, 32, 32, 32, 32, 32, 32, 32, 32, 32, 32, 32, 32, 32, 32, 32, 32, 32, 32, 32, 32, 32]⟩) : Nat) : Int)) ∧ (0 : Int) ≤ 0 ∧ (0 : Int) ≤ n11) ∧ (XLet (((ByteArray.extract ⟨#[32, 32, 32, 32, 32, 32, 32, 32, 32, 32, 32, 32, 32, 32, 32, 32, 32, 32, 32, 32, 32, 32, 32, 32, 32, 32, 32, 32, 32, 32, 32, 32, 32, 32, 32, 32, 32, 32, 32, 32, 32, 32, 32, 32, 32, 32, 32, 32, 32, 32, 32, 32, 32, 32, 32, 32, 32, 32, 32, 32, 32, 32, 32, 32, 32, 32, 32, 32, 32, 32, 32, 32, 32, 32, 32, 32, 32, 32, 32, 32, 32, 32, 32, 32, 32, 32, 32, 32, 32, 32, 32, 32, 32, 32, 32, 32, 32, 32, 32, 32, 32, 32, 32, 32, 32, 32, 32, 32, 32, 32, 32, 32, 32, 32, 32, 32, 32, 32, 32, 32, 32, 32, 32, 32, 32, 32, 32, 32]⟩ 0 (Int.toNat n11))) : ByteArray) fun t51 => K (.string t51) w49)) (XJoin (α := (Bool × Unit)) (fun s52 w53 => XIf s52.1 ((((0 : Int) ≤ n11 ∧ n11 ≤ (((ByteArray.size ⟨#[45, 45, 45, 45, 45, 45, 45, 45, 45, 45, 45, 45, 45, 45, 45, 45, 45, 45, 45, 45, 45, 45, 45, 45, 45, 45, 45, 45, 45, 45, 45, 45, 45, 45, 45, 45, 45, 45, 45, 45, 45, 45, 45, 45, 45, 45, 45, 45, 45, 45, 45, 45, 45, 45, 45, 45, 45, 45, 45, 45, 45, 45, 45, 45, 45, 45, 45, 45, 45, 45, 45, 45, 45, 45, 45, 45, 45, 45, 45, 45, 45, 45, 45, 45, 45, 45, 45, 45, 45, 45, 45, 45, 45, 45, 45, 45, 45, 45, 45, 45, 45, 45, 45, 45, 45, 45, 45, 45, 45, 45, 45, 45, 45, 45, 45, 45, 45, 45, 45, 45, 45, 45, 45, 45, 45, 45, 45, 45]⟩) : Nat) : Int)) ∧ (0 : Int) ≤ 0 ∧ (0 : Int) ≤ n11) ∧ (XLet (((ByteArray.extract ⟨#[45, 45, 45, 45, 45, 45, 45, 45, 45, 45, 45, 45, 45, 45, 45, 45, 45, 45, 45, 45, 45, 45, 45, 45, 45, 45, 45, 45, 45, 45, 45, 45, 45, 45, 45, 45, 45, 45, 45, 45, 45, 45, 45, 45, 45, 45, 45, 45, 45, 45, 45, 45, 45, 45, 45, 45, 45, 45, 45, 45, 45, 45, 45, 45, 45, 45, 45, 45, 45, 45, 45, 45, 45, 45, 45, 45, 45, 45, 45, 45, 45, 45, 45, 45, 45, 45, 45, 45, 45, 45, 45, 45, 45, 45, 45, 45, 45, 45, 45, 45, 45, 45, 45, 45, 45, 45, 45, 45, 45, 45, 45, 45, 45, 45, 45, 45, 45, 45, 45, 45, 45, 45, 45, 45, 45, 45, 45, 45]⟩ 0 (Int.toNat n11))) : ByteArray) fun t55 => K (.string t55) w53)) (XJoin (α := (Bool × Unit)) (fun s56 w57 => XIf s56.1 ((((0 : Int) ≤ n11 ∧ n11 ≤ (((ByteArray.size ⟨#[48, 48, 48, 48, 48, 48, 48, 48, 48, 48, 48, 48, 48, 48, 48, 48, 48, 48, 48, 48, 48, 48, 48, 48, 48, 48, 48, 48, 48, 48, 48, 48, 48, 48, 48, 48, 48, 48, 48, 48, 48, 48, 48, 48, 48, 48, 48, 48, 48, 48, 48, 48, 48, 48, 48, 48, 48, 48, 48, 48, 48, 48, 48, 48]⟩) : Nat) : Int)) ∧ (0 : Int) ≤ 0 ∧ (0 : Int) ≤ n11) ∧ (XLet (((ByteArray.extract ⟨#[48, 48, 48, 48, 48, 48, 48, 48, 48, 48, 48, 48, 48, 48, 48, 48, 48, 48, 48, 48, 48, 48, 48, 48, 48, 48, 48, 48, 48, 48, 48, 48, 48, 48, 48, 48, 48, 48, 48, 48, 48, 48, 48, 48, 48, 48, 48, 48, 48, 48, 48, 48, 48, 48, 48, 48, 48, 48, 48, 48, 48, 48, 48, 48]⟩ 0 (Int.toNat n11))) : ByteArray) fun t59 => K (.string t59) w57)) (XJoin (α := (Bool × Unit)) (fun s60 w61 => XIf s60.1 ((((0 : Int) ≤ n11 ∧ n11 ≤ (((ByteArray.size ⟨#[61, 61, 61, 61, 61, 61, 61, 61, 61, 61, 61, 61, 61, 61, 61, 61, 61, 61, 61, 61, 61, 61, 61, 61, 61, 61, 61, 61, 61, 61, 61, 61, 61, 61, 61, 61, 61, 61, 61, 61, 61, 61, 61, 61, 61, 61, 61, 61, 61, 61, 61, 61, 61, 61, 61, 61, 61, 61, 61, 61, 61, 61, 61, 61, 61, 61, 61, 61, 61, 61, 61, 61, 61, 61, 61, 61, 61, 61, 61, 61, 61, 61, 61, 61, 61, 61, 61, 61, 61, 61, 61, 61, 61, 61, 61, 61, 61, 61, 61, 61, 61, 61, 61, 61, 61, 61, 61, 61, 61, 61, 61, 61, 61, 61, 61, 61, 61, 61, 61, 61, 61, 61, 61, 61, 61, 61, 61, 61]⟩) : Nat) : Int)) ∧ (0 : Int) ≤ 0 ∧ (0 : Int) ≤ n11) ∧ (XLet (((ByteArray.extract ⟨#[61, 61, 61, 61, 61, 61, 61, 61, 61, 61, 61, 61, 61, 61, 61, 61, 61, 61, 61, 61, 61, 61, 61, 61, 61, 61, 61, 61, 61, 61, 61, 61, 61, 61, 61, 61, 61, 61, 61, 61, 61, 61, 61, 61, 61, 61, 61, 61, 61, 61, 61, 61, 61, 61, 61, 61, 61, 61, 61, 61, 61, 61, 61, 61, 61, 61, 61, 61, 61, 61, 61, 61, 61, 61, 61, 61, 61, 61, 61, 61, 61, 61, 61, 61, 61, 61, 61, 61, 61, 61, 61, 61, 61, 61, 61, 61, 61, 61, 61, 61, 61, 61, 61, 61, 61, 61, 61, 61, 61, 61, 61, 61, 61, 61, 61, 61, 61, 61, 61, 61, 61, 61, 61, 61, 61, 61, 61, 61]⟩ 0 (Int.toNat n11))) : ByteArray) fun t63 => K (.string t63) w61)) (XJoin (α := (Bool × Unit)) (fun s64 w65 => XIf s64.1 ((((0 : Int) ≤ n11 ∧ n11 ≤ (((ByteArray.size ⟨#[9, 9, 9, 9, 9, 9, 9, 9, 9, 9, 9, 9, 9, 9, 9, 9, 9, 9, 9, 9, 9, 9, 9, 9, 9, 9, 9, 9, 9, 9, 9, 9, 9, 9, 9, 9, 9, 9, 9, 9, 9, 9, 9, 9, 9, 9, 9, 9, 9, 9, 9, 9, 9, 9, 9, 9, 9, 9, 9, 9, 9, 9, 9, 9]⟩) : Nat) : Int)) ∧ (0 : Int) ≤ 0 ∧ (0 : Int) ≤ n11) ∧ (XLet (((ByteArray.extract ⟨#[9, 9, 9, 9, 9, 9, 9, 9, 9, 9, 9, 9, 9, 9, 9, 9, 9, 9, 9, 9, 9, 9, 9, 9, 9, 9, 9, 9, 9, 9, 9, 9, 9, 9, 9, 9, 9, 9, 9, 9, 9, 9, 9, 9, 9, 9, 9, 9, 9, 9, 9, 9, 9, 9, 9, 9, 9, 9, 9, 9, 9, 9, 9, 9]⟩ 0 (Int.toNat n11))) : ByteArray) fun t67 => K (.string t67) w65)) (J14 (ByteArray.empty, ()) w65)) (fun J66 => XIf (decide ((n11 : Int) ≤ 64)) (XCall Tryz.prog F.strings_HasPrefix [.string ⟨#[9, 9, 9, 9, 9, 9, 9, 9, 9, 9, 9, 9, 9, 9, 9, 9, 9, 9, 9, 9, 9, 9, 9, 9, 9, 9, 9, 9, 9, 9, 9, 9, 9, 9, 9, 9, 9, 9, 9, 9, 9, 9, 9, 9, 9, 9, 9, 9, 9, 9, 9, 9, 9, 9, 9, 9, 9, 9, 9, 9, 9, 9, 9, 9]⟩, .string p0_s] (.leaf .bool) w61 fun (x68 : Bool) w69 => J66 (x68, ()) w69) (J66 (false, ()) w61)))) (fun J62 => XIf (decide ((n11 : Int) ≤ 128)) (XCall Tryz.prog F.strings_HasPrefix [.string ⟨#[61, 61, 61, 61, 61, 61, 61, 61, 61, 61, 61, 61, 61, 61, 61, 61, 61, 61, 61, 61, 61, 61, 61, 61, 61, 61, 61, 61, 61, 61, 61, 61, 61, 61, 61, 61, 61, 61, 61, 61, 61, 61, 61, 61, 61, 61, 61, 61, 61, 61, 61, 61, 61, 61, 61, 61, 61, 61, 61, 61, 61, 61, 61, 61, 61, 61, 61, 61, 61, 61, 61, 61, 61, 61, 61, 61, 61, 61, 61, 61, 61, 61, 61, 61, 61, 61, 61, 61, 61, 61, 61, 61, 61, 61, 61, 61, 61, 61, 61, 61, 61, 61, 61, 61, 61, 61, 61, 61, 61, 61, 61, 61, 61, 61, 61, 61, 61, 61, 61, 61, 61, 61, 61, 61, 61, 61, 61, 61]⟩, .string p0_s] (.leaf .bool) w57 fun (x70 : Bool) w71 => J62 (x70, ()) w71) (J62 (false, ()) w57)))) (fun J58 => XIf (decide ((n11 : Int) ≤ 64)) (XCall Tryz.prog F.strings_HasPrefix [.string ⟨#[48, 48, 48, 48, 48, 48, 48, 48, 48, 48, 48, 48, 48, 48, 48, 48, 48, 48, 48, 48, 48, 48, 48, 48, 48, 48, 48, 48, 48, 48, 48, 48, 48, 48, 48, 48, 48, 48, 48, 48, 48, 48, 48, 48, 48, 48, 48, 48, 48, 48, 48, 48, 48, 48, 48, 48, 48, 48, 48, 48, 48, 48, 48, 48]⟩, .string p0_s] (.leaf .bool) w53 fun (x72 : Bool) w73 => J58 (x72, ()) w73) (J58 (false, ()) w53)))) (fun J54 => XIf (decide ((n11 : Int) ≤ 128)) (XCall Tryz.prog F.strings_HasPrefix [.string ⟨#[45, 45, 45, 45, 45, 45, 45, 45, 45, 45, 45, 45, 45, 45, 45, 45, 45, 45, 45, 45, 45, 45, 45, 45, 45, 45, 45, 45, 45, 45, 45, 45, 45, 45, 45, 45, 45, 45, 45, 45, 45, 45, 45, 45, 45, 45, 45, 45, 45, 45, 45, 45, 45, 45, 45, 45, 45, 45, 45, 45, 45, 45, 45, 45, 45, 45, 45, 45, 45, 45, 45, 45, 45, 45, 45, 45, 45, 45, 45, 45, 45, 45, 45, 45, 45, 45, 45, 45, 45, 45, 45, 45, 45, 45, 45, 45, 45, 45, 45, 45, 45, 45, 45, 45, 45, 45, 45, 45, 45, 45, 45, 45, 45, 45, 45, 45, 45, 45, 45, 45, 45, 45, 45, 45, 45, 45, 45, 45]⟩, .string p0_s] (.leaf .bool) w49 fun (x74 : Bool) w75 => J54 (x74, ()) w75) (J54 (false, ()) w49)))) (fun J50 => XIf (decide ((n11 : Int) ≤ 128)) (XCall Tryz.prog F.strings_HasPrefix [.string ⟨#[32, 32, 32, 32, 32, 32, 32, 32, 32, 32, 32, 32, 32, 32, 32, 32, 32, 32, 32, 32, 32, 32, 32, 32, 32, 32, 32, 32, 32, 32, 32, 32, 32, 32, 32, 32, 32, 32, 32, 32, 32, 32, 32, 32, 32, 32, 32, 32, 32, 32, 32, 32, 32, 32, 32, 32, 32, 32, 32, 32, 32, 32, 32, 32, 32, 32, 32, 32, 32, 32, 32, 32, 32, 32, 32, 32, 32, 32, 32, 32, 32, 32, 32, 32, 32, 32, 32, 32, 32, 32, 32, 32, 32, 32, 32, 32, 32, 32, 32, 32, 32, 32, 32, 32, 32, 32, 32, 32, 32, 32, 32, 32, 32, 32, 32, 32, 32, 32, 32, 32, 32, 32, 32, 32, 32, 32, 32, 32]⟩, .string p0_s] (.leaf .bool) w46 fun (x76 : Bool) w77 => J50 (x76, ()) w77) (J50 (false, ()) w46))) (J14 (ByteArray.empty, ()) w46)) (fun J47 => XIf ((n44 : Int) == 32) (J47 (((n44 : Int) == 32), ()) w9) (XIf ((n44 : Int) == 45) (J47 (((n44 : Int) == 45), ()) w9) (XIf ((n44 : Int) == 48) (J47 (((n44 : Int) == 48), ()) w9) (XIf ((n44 : Int) == 61) (J47 (((n44 : Int) == 61), ()) w9) (J47 (((n44 : Int) == 9), ()) w9))))))))) (fun J10 => XJoin (α := (Bool × Unit)) (fun s78 w79 => XIf s78.1 ((False /- pure op -/)) (J10 () w79)) (fun J80 => XIf (decide ((x6.1 : Int) > 0)) (J80 (true, ()) w7) (J80 ((decide ((x6.2.1 : Int) > 9223372036854775807)), ()) w7)))) (fun J3 => XIf (decide ((p1_count : Int) < 0)) ((False /- pure op -/)) (J3 () w0))))

set_option maxHeartbeats 8000000 in
set_option maxRecDepth 100000 in
theorem S.strings_Repeat_ok (p0_s : ByteArray) (p1_count : Int) (K : Value → World → Prop) (w0 : World) (h : S.strings_Repeat p0_s p1_count  K w0) :
    Calls Tryz.prog F.strings_Repeat ⟨[.string p0_s, .int .i64 p1_count]⟩ w0 fun e w' => ∃ v, e = .returned v ∧ K v w' :=
  calls_x (P := Tryz.prog) [0, 1, 4, 5, 6, 7, 8, 9, 10, 11, 12, 14, 18, 34, 40, 42, 43, 49, 58, 67, 76, 85, 96, 104, 113] (by kernel_rfl) Tryz.func67 (by kernel_rfl) (Eq.mp (by kernel_rfl : S.strings_Repeat p0_s p1_count  K w0 = xfn Tryz.prog [0, 1, 4, 5, 6, 7, 8, 9, 10, 11, 12, 14, 18, 34, 40, 42, 43, 49, 58, 67, 76, 85, 96, 104, 113] Tryz.f67 [.string p0_s, .int .i64 p1_count] K w0) h)

set_option maxRecDepth 100000 in
set_option maxHeartbeats 8000000 in
/-- 68 barque/disk.grown -/
def S.disk_grown (p0_b : Sl) (p1_n : Int) (K : Value → World → Prop) (w0 : World) : Prop :=
  XLoop (α := (Sl × Unit)) (fun next3 s1 w2 => XIf (decide ((((s1.1.len : Nat) : Int) : Int) < p1_n)) (XLet (((IntKind.wrap .i64 (p1_n - ((s1.1.len : Nat) : Int)))) : Int) fun n4 => XDo Tryz.prog (Builtin.append_ #[61, 3] 61 ⟨[.slice s1.1.a s1.1.len s1.1.cap, .int .i64 n4]⟩) (.leaf .slice) w2 fun (x5 : Sl) w6 => next3 (⟨x5.a, x5.len, x5.cap⟩, ()) w6) (K (.slice s1.1.a s1.1.len s1.1.cap) w2)) (⟨p0_b.a, p0_b.len, p0_b.cap⟩, ()) w0

set_option maxHeartbeats 8000000 in
set_option maxRecDepth 100000 in
theorem S.disk_grown_ok (p0_b : Sl) (p1_n : Int) (K : Value → World → Prop) (w0 : World) (h : S.disk_grown p0_b p1_n  K w0) :
    Calls Tryz.prog F.disk_grown ⟨[.slice p0_b.a p0_b.len p0_b.cap, .int .i64 p1_n]⟩ w0 fun e w' => ∃ v, e = .returned v ∧ K v w' :=
  calls_x (P := Tryz.prog) [0, 1, 4, 8] (by kernel_rfl) Tryz.func68 (by kernel_rfl) (Eq.mp (by kernel_rfl : S.disk_grown p0_b p1_n  K w0 = xfn Tryz.prog [0, 1, 4, 8] Tryz.f68 [.slice p0_b.a p0_b.len p0_b.cap, .int .i64 p1_n] K w0) h)

set_option maxRecDepth 100000 in
set_option maxHeartbeats 8000000 in
/-- 69 slices.BinarySearchFunc[[]*barque/disk.file,*barque/disk.file,string] -/
def S.slices_BinarySearchFunc (p0_x : Sl) (p1_target : ByteArray) (p2_cmp : Value) (K : Value → World → Prop) (w0 : World) : Prop :=
  XLoop (α := (Int × Int × Unit)) (fun next3 s1 w2 => XIf (decide ((s1.1 : Int) < s1.2.1)) (XLet (((IntKind.wrap .i64 (s1.1 + s1.2.1))) : Int) fun n4 => XLet (((IntKind.wrap .u64 (n4))) : Int) fun n5 => (0 : Int) ≤ 1 ∧ (XLet (((ishr .u64 n5 1)) : Int) fun n6 => XLet (((IntKind.wrap .i64 (n6))) : Int) fun n7 => XNil p0_x.a fun a8 => ((0 : Int) ≤ n7 ∧ n7 < ((p0_x.len : Nat) : Int)) ∧ (XLoad .ptr (Addr.add a8 ((Int.toNat n7) * 1)) w2 fun (x9 : Option Addr) => XCallV Tryz.prog (p2_cmp) [.pointer x9, .string p1_target] (.leaf (.int .i64)) w2 fun (x10 : Int) w11 => XIf (decide ((x10 : Int) < 0)) (XLet (((IntKind.wrap .i64 (n7 + 1))) : Int) fun n12 => next3 (n12, (s1.2.1, ())) w11) (next3 (s1.1, (n7, ())) w11)))) (XJoin (α := (Int × Bool × Unit)) (fun s13 w14 => K (.tuple ⟨[.int .i64 s13.1, .bool s13.2.1]⟩) w14) (fun J15 => XIf (decide ((s1.1 : Int) < ((p0_x.len : Nat) : Int))) (XNil p0_x.a fun a16 => ((0 : Int) ≤ s1.1 ∧ s1.1 < ((p0_x.len : Nat) : Int)) ∧ (XLoad .ptr (Addr.add a16 ((Int.toNat s1.1) * 1)) w2 fun (x17 : Option Addr) => XCallV Tryz.prog (p2_cmp) [.pointer x17, .string p1_target] (.leaf (.int .i64)) w2 fun (x18 : Int) w19 => J15 (s1.1, (((x18 : Int) == 0), ())) w19)) (J15 (s1.1, (false, ())) w2)))) (0, (((p0_x.len : Nat) : Int), ())) w0

set_option maxHeartbeats 8000000 in
set_option maxRecDepth 100000 in
theorem S.slices_BinarySearchFunc_ok (p0_x : Sl) (p1_target : ByteArray) (p2_cmp : Value) (K : Value → World → Prop) (w0 : World) (h : S.slices_BinarySearchFunc p0_x p1_target p2_cmp  K w0) :
    Calls Tryz.prog F.slices_BinarySearchFunc ⟨[.slice p0_x.a p0_x.len p0_x.cap, .string p1_target, p2_cmp]⟩ w0 fun e w' => ∃ v, e = .returned v ∧ K v w' :=
  calls_x (P := Tryz.prog) [0, 1, 2, 6, 7, 8, 9, 10, 11, 17, 31] (by kernel_rfl) Tryz.func69 (by kernel_rfl) (Eq.mp (by kernel_rfl : S.slices_BinarySearchFunc p0_x p1_target p2_cmp  K w0 = xfn Tryz.prog [0, 1, 2, 6, 7, 8, 9, 10, 11, 17, 31] Tryz.f69 [.slice p0_x.a p0_x.len p0_x.cap, .string p1_target, p2_cmp] K w0) h)

set_option maxRecDepth 100000 in
set_option maxHeartbeats 8000000 in
/-- 70 (*barque/disk.Disk).place$1 -/
def S.disk_Disk_place_1 (p0_f : Option Addr) (p1_s : ByteArray) (K : Value → World → Prop) (w0 : World) : Prop :=
  XNil p0_f fun a1 => XLoad .str (Addr.add a1 1) w0 fun (x2 : ByteArray) => XCall Tryz.prog F.strings_Compare [.string x2, .string p1_s] (.leaf (.int .i64)) w0 fun (x3 : Int) w4 => K (.int .i64 x3) w4

set_option maxHeartbeats 8000000 in
set_option maxRecDepth 100000 in
theorem S.disk_Disk_place_1_ok (p0_f : Option Addr) (p1_s : ByteArray) (K : Value → World → Prop) (w0 : World) (h : S.disk_Disk_place_1 p0_f p1_s  K w0) :
    Calls Tryz.prog F.disk_Disk_place_1 ⟨[.pointer p0_f, .string p1_s]⟩ w0 fun e w' => ∃ v, e = .returned v ∧ K v w' :=
  calls_x (P := Tryz.prog) [0, 1, 4] (by kernel_rfl) Tryz.func70 (by kernel_rfl) (Eq.mp (by kernel_rfl : S.disk_Disk_place_1 p0_f p1_s  K w0 = xfn Tryz.prog [0, 1, 4] Tryz.f70 [.pointer p0_f, .string p1_s] K w0) h)

set_option maxRecDepth 100000 in
set_option maxHeartbeats 8000000 in
/-- 71 strings.Compare -/
def S.strings_Compare (p0_a : ByteArray) (p1_b : ByteArray) (K : Value → World → Prop) (w0 : World) : Prop :=
  XCall Tryz.prog F.internal_bytealg_CompareString [.string p0_a, .string p1_b] (.leaf (.int .i64)) w0 fun (x1 : Int) w2 => K (.int .i64 x1) w2

set_option maxHeartbeats 8000000 in
set_option maxRecDepth 100000 in
theorem S.strings_Compare_ok (p0_a : ByteArray) (p1_b : ByteArray) (K : Value → World → Prop) (w0 : World) (h : S.strings_Compare p0_a p1_b  K w0) :
    Calls Tryz.prog F.strings_Compare ⟨[.string p0_a, .string p1_b]⟩ w0 fun e w' => ∃ v, e = .returned v ∧ K v w' :=
  calls_x (P := Tryz.prog) [0, 1, 4] (by kernel_rfl) Tryz.func71 (by kernel_rfl) (Eq.mp (by kernel_rfl : S.strings_Compare p0_a p1_b  K w0 = xfn Tryz.prog [0, 1, 4] Tryz.f71 [.string p0_a, .string p1_b] K w0) h)

set_option maxRecDepth 100000 in
set_option maxHeartbeats 8000000 in
/-- 73 slices.rotateRight[*barque/disk.file] -/
def S.slices_rotateRight (p0_s : Sl) (p1_r : Int) (K : Value → World → Prop) (w0 : World) : Prop :=
  XLet (((IntKind.wrap .i64 (((p0_s.len : Nat) : Int) - p1_r))) : Int) fun n1 => XCalls Tryz.prog F.slices_rotateLeft [.slice p0_s.a p0_s.len p0_s.cap, .int .i64 n1] [] w0 fun x2 w3 => K (.tuple ⟨[]⟩) w3

set_option maxHeartbeats 8000000 in
set_option maxRecDepth 100000 in
theorem S.slices_rotateRight_ok (p0_s : Sl) (p1_r : Int) (K : Value → World → Prop) (w0 : World) (h : S.slices_rotateRight p0_s p1_r  K w0) :
    Calls Tryz.prog F.slices_rotateRight ⟨[.slice p0_s.a p0_s.len p0_s.cap, .int .i64 p1_r]⟩ w0 fun e w' => ∃ v, e = .returned v ∧ K v w' :=
  calls_x (P := Tryz.prog) [0, 1] (by kernel_rfl) Tryz.func73 (by kernel_rfl) (Eq.mp (by kernel_rfl : S.slices_rotateRight p0_s p1_r  K w0 = xfn Tryz.prog [0, 1] Tryz.f73 [.slice p0_s.a p0_s.len p0_s.cap, .int .i64 p1_r] K w0) h)

set_option maxRecDepth 100000 in
set_option maxHeartbeats 8000000 in
/-- 74 (*barque/marks.Book).Mark -/
def S.marks_Book_Mark (p0_b : Option Addr) (p1_s : ByteArray) (K : Value → World → Prop) (w0 : World) : Prop :=
  XCall Tryz.prog F.marks_Book_none [.pointer p0_b] (.leaf .bool) w0 fun (x1 : Bool) w2 => XIf x1 (K (.string ByteArray.empty) w2) (XNil p0_b fun a3 => XLoad .bool (Addr.add a3 72) w2 fun (x4 : Bool) => XIf x4 (XNil p0_b fun a5 => XLoads (List.replicate 72 ((.int .u32))) a5 w2 fun (x6 : (HL (List.replicate 72 ((.int .u32))))) => XCall Tryz.prog F._marks_mixer_sum [.agg ⟨HL.cells (List.replicate 72 ((.int .u32))) x6⟩, .string p1_s] (.leaf .str) w2 fun (x7 : ByteArray) w8 => K (.string x7) w8) (XNil p0_b fun a9 => XLoad .map (Addr.add a9 73) w2 fun (x10 : Option Nat) => XDos Tryz.prog (Instr.lookup 94 (.map x10) (.string p1_s) true) [.leaf (.int .i64), .leaf .bool] w2 fun (x11 : (Int × Bool × Unit)) w12 => XJoin (α := (Int × Unit)) (fun s13 w14 => XCall Tryz.prog F.marks_numbered [.int .i64 s13.1] (.leaf .str) w14 fun (x16 : ByteArray) w17 => K (.string x16) w17) (fun J15 => XIf (!x11.2.1) (XNil p0_b fun a18 => XLoad .map (Addr.add a18 73) w12 fun (x19 : Option Nat) => XDo Tryz.prog (Builtin.len_ #[94] 3 ⟨[.map x19]⟩) (.leaf (.int .i64)) w12 fun (x20 : Int) w21 => XLet (((IntKind.wrap .i64 (x20 + 1))) : Int) fun n22 => XNil p0_b fun a23 => XLoad .map (Addr.add a23 73) w21 fun (x24 : Option Nat) => XDoU Tryz.prog (Instr.mapUpdate 94 (.map x24) (.string p1_s) (.int .i64 n22)) w21 fun w25 => J15 (n22, ()) w25) (J15 (x11.1, ()) w12))))

set_option maxHeartbeats 8000000 in
set_option maxRecDepth 100000 in
theorem S.marks_Book_Mark_ok (p0_b : Option Addr) (p1_s : ByteArray) (K : Value → World → Prop) (w0 : World) (h : S.marks_Book_Mark p0_b p1_s  K w0) :
    Calls Tryz.prog F.marks_Book_Mark ⟨[.pointer p0_b, .string p1_s]⟩ w0 fun e w' => ∃ v, e = .returned v ∧ K v w' :=
  calls_x (P := Tryz.prog) [0, 1, 4, 5, 6, 7, 10, 31] (by kernel_rfl) Tryz.func74 (by kernel_rfl) (Eq.mp (by kernel_rfl : S.marks_Book_Mark p0_b p1_s  K w0 = xfn Tryz.prog [0, 1, 4, 5, 6, 7, 10, 31] Tryz.f74 [.pointer p0_b, .string p1_s] K w0) h)

set_option maxRecDepth 100000 in
set_option maxHeartbeats 8000000 in
/-- 75 barque/wal.four -/
def S.wal_four (p0_n : Int) (K : Value → World → Prop) (w0 : World) : Prop :=
  XLet (((IntKind.wrap .u8 (p0_n))) : Int) fun n1 => (0 : Int) ≤ 8 ∧ (XLet (((ishr .i64 p0_n 8)) : Int) fun n2 => XLet (((IntKind.wrap .u8 (n2))) : Int) fun n3 => (0 : Int) ≤ 16 ∧ (XLet (((ishr .i64 p0_n 16)) : Int) fun n4 => XLet (((IntKind.wrap .u8 (n4))) : Int) fun n5 => (0 : Int) ≤ 24 ∧ (XLet (((ishr .i64 p0_n 24)) : Int) fun n6 => XLet (((IntKind.wrap .u8 (n6))) : Int) fun n7 => XNew 5 [.int .u8 n1, .int .u8 n3, .int .u8 n5, .int .u8 n7] w0 fun a8 w9 => XBytes (some a8) 4 w9 fun x10 => K (.string x10) w9)))

set_option maxHeartbeats 8000000 in
set_option maxRecDepth 100000 in
theorem S.wal_four_ok (p0_n : Int) (K : Value → World → Prop) (w0 : World) (h : S.wal_four p0_n  K w0) :
    Calls Tryz.prog F.wal_four ⟨[.int .i64 p0_n]⟩ w0 fun e w' => ∃ v, e = .returned v ∧ K v w' :=
  calls_x (P := Tryz.prog) [0, 2] (by kernel_rfl) Tryz.func75 (by kernel_rfl) (Eq.mp (by kernel_rfl : S.wal_four p0_n  K w0 = xfn Tryz.prog [0, 2] Tryz.f75 [.int .i64 p0_n] K w0) h)

set_option maxRecDepth 100000 in
set_option maxHeartbeats 8000000 in
/-- 76 (*strings.Builder).copyCheck -/
def S.strings_Builder_copyCheck (p0_b : Option Addr) (K : Value → World → Prop) (w0 : World) : Prop :=
  XNil p0_b fun a1 => XLoad .ptr a1 w0 fun (x2 : Option Addr) => XIf (Option.isNone x2) (XDo Tryz.prog (convert 102 144 (.pointer p0_b)) (.leaf .ptr) w0 fun (x3 : Option Addr) w4 => XDo Tryz.prog (extRun Tryz.prog F.internal_abi_NoEscape ⟨[.pointer x3]⟩) (.leaf .ptr) w4 fun (x5 : Option Addr) w6 => XDo Tryz.prog (convert 144 102 (.pointer x5)) (.leaf .ptr) w6 fun (x7 : Option Addr) w8 => XNil p0_b fun a9 => XStore a9 (.pointer x7) w8 fun w10 => K (.tuple ⟨[]⟩) w10) (XNil p0_b fun a11 => XLoad .ptr a11 w0 fun (x12 : Option Addr) => XDo Tryz.prog (do pure (.bool (!(← Op.equal 102 (.pointer x12) (.pointer p0_b))))) (.leaf .bool) w0 fun (x13 : Bool) w14 => XIf x13 ((False /- code -/)) (K (.tuple ⟨[]⟩) w14))

set_option maxHeartbeats 8000000 in
set_option maxRecDepth 100000 in
theorem S.strings_Builder_copyCheck_ok (p0_b : Option Addr) (K : Value → World → Prop) (w0 : World) (h : S.strings_Builder_copyCheck p0_b  K w0) :
    Calls Tryz.prog F.strings_Builder_copyCheck ⟨[.pointer p0_b]⟩ w0 fun e w' => ∃ v, e = .returned v ∧ K v w' :=
  calls_x (P := Tryz.prog) [0, 6, 19] (by kernel_rfl) Tryz.func76 (by kernel_rfl) (Eq.mp (by kernel_rfl : S.strings_Builder_copyCheck p0_b  K w0 = xfn Tryz.prog [0, 6, 19] Tryz.f76 [.pointer p0_b] K w0) h)

set_option maxRecDepth 100000 in
set_option maxHeartbeats 8000000 in
/-- 77 barque/disk.sectors -/
def S.disk_sectors (p0_n : Int) (K : Value → World → Prop) (w0 : World) : Prop :=
  XLet (((IntKind.wrap .i64 (p0_n + 64))) : Int) fun n1 => XLet (((IntKind.wrap .i64 (n1 - 1))) : Int) fun n2 => (64 : Int) ≠ 0 ∧ (XLet (((IntKind.wrap .i64 (Int.tdiv n2 64))) : Int) fun n3 => K (.int .i64 n3) w0)

set_option maxHeartbeats 8000000 in
set_option maxRecDepth 100000 in
theorem S.disk_sectors_ok (p0_n : Int) (K : Value → World → Prop) (w0 : World) (h : S.disk_sectors p0_n  K w0) :
    Calls Tryz.prog F.disk_sectors ⟨[.int .i64 p0_n]⟩ w0 fun e w' => ∃ v, e = .returned v ∧ K v w' :=
  calls_x (P := Tryz.prog) [0, 2] (by kernel_rfl) Tryz.func77 (by kernel_rfl) (Eq.mp (by kernel_rfl : S.disk_sectors p0_n  K w0 = xfn Tryz.prog [0, 2] Tryz.f77 [.int .i64 p0_n] K w0) h)

set_option maxRecDepth 100000 in
set_option maxHeartbeats 8000000 in
/-- 78 (*barque/disk.Disk).Free -/
def S.disk_Disk_Free (p0_d : Option Addr) (K : Value → World → Prop) (w0 : World) : Prop :=
  XIf (Option.isNone p0_d) (K (.int .i64 0) w0) (XNil p0_d fun a1 => XLoad (.int .i64) (Addr.add a1 2) (World.drew w0) fun (x2 : Int) => XCall Tryz.prog F.disk_Disk_used [.pointer p0_d] (.leaf (.int .i64)) (World.drew w0) fun (x3 : Int) w4 => (World.cell? w4 (Addr.add a1 2) = some (Leaf.mk (.int .i64) x2)) ∧ (XLet (((IntKind.wrap .i64 (x2 - x3))) : Int) fun n5 => K (.int .i64 n5) w4))

set_option maxHeartbeats 8000000 in
set_option maxRecDepth 100000 in
theorem S.disk_Disk_Free_ok (p0_d : Option Addr) (K : Value → World → Prop) (w0 : World) (h : S.disk_Disk_Free p0_d  K w0) :
    Calls Tryz.prog F.disk_Disk_Free ⟨[.pointer p0_d]⟩ w0 fun e w' => ∃ v, e = .returned v ∧ K v w' :=
  calls_x (P := Tryz.prog) [0, 2, 4] (by kernel_rfl) Tryz.func78 (by kernel_rfl) (Eq.mp (by kernel_rfl : S.disk_Disk_Free p0_d  K w0 = xfn Tryz.prog [0, 2, 4] Tryz.f78 [.pointer p0_d] K w0) h)

set_option maxRecDepth 100000 in
set_option maxHeartbeats 8000000 in
/-- 79 (*barque/marks.Book).none -/
def S.marks_Book_none (p0_b : Option Addr) (K : Value → World → Prop) (w0 : World) : Prop :=
  XJoin (α := (Bool × Unit)) (fun s1 w2 => K (.bool s1.1) w2) (fun J3 => XIf (Option.isNone p0_b) (J3 (true, ()) w0) (XNil p0_b fun a4 => XLoad .bool (Addr.add a4 72) w0 fun (x5 : Bool) => XIf (!x5) (XNil p0_b fun a6 => XLoad .bool (Addr.add a6 74) w0 fun (x7 : Bool) => J3 ((!x7), ()) w0) (J3 (false, ()) w0)))

set_option maxHeartbeats 8000000 in
set_option maxRecDepth 100000 in
theorem S.marks_Book_none_ok (p0_b : Option Addr) (K : Value → World → Prop) (w0 : World) (h : S.marks_Book_none p0_b  K w0) :
    Calls Tryz.prog F.marks_Book_none ⟨[.pointer p0_b]⟩ w0 fun e w' => ∃ v, e = .returned v ∧ K v w' :=
  calls_x (P := Tryz.prog) [0, 2] (by kernel_rfl) Tryz.func79 (by kernel_rfl) (Eq.mp (by kernel_rfl : S.marks_Book_none p0_b  K w0 = xfn Tryz.prog [0, 2] Tryz.f79 [.pointer p0_b] K w0) h)

set_option maxRecDepth 100000 in
set_option maxHeartbeats 8000000 in
/-- 80 strings.HasPrefix -/
def S.strings_HasPrefix (p0_s : ByteArray) (p1_prefix : ByteArray) (K : Value → World → Prop) (w0 : World) : Prop :=
  XCall Tryz.prog F.internal_stringslite_HasPrefix [.string p0_s, .string p1_prefix] (.leaf .bool) w0 fun (x1 : Bool) w2 => K (.bool x1) w2

set_option maxHeartbeats 8000000 in
set_option maxRecDepth 100000 in
theorem S.strings_HasPrefix_ok (p0_s : ByteArray) (p1_prefix : ByteArray) (K : Value → World → Prop) (w0 : World) (h : S.strings_HasPrefix p0_s p1_prefix  K w0) :
    Calls Tryz.prog F.strings_HasPrefix ⟨[.string p0_s, .string p1_prefix]⟩ w0 fun e w' => ∃ v, e = .returned v ∧ K v w' :=
  calls_x (P := Tryz.prog) [0, 1, 4] (by kernel_rfl) Tryz.func80 (by kernel_rfl) (Eq.mp (by kernel_rfl : S.strings_HasPrefix p0_s p1_prefix  K w0 = xfn Tryz.prog [0, 1, 4] Tryz.f80 [.string p0_s, .string p1_prefix] K w0) h)

set_option maxRecDepth 100000 in
set_option maxHeartbeats 8000000 in
/-- 81 barque/wal.value -/
def S.wal_value (p0_s : ByteArray) (K : Value → World → Prop) (w0 : World) : Prop :=
  ((0 : Int) ≤ 0 ∧ 0 < ((ByteArray.size p0_s : Nat) : Int)) ∧ (XLet ((((UInt8.toNat (List.getD (ByteArray.data p0_s).toList 0 0) : Nat) : Int)) : Int) fun n1 => XLet (((IntKind.wrap .i64 (n1))) : Int) fun n2 => ((0 : Int) ≤ 1 ∧ 1 < ((ByteArray.size p0_s : Nat) : Int)) ∧ (XLet ((((UInt8.toNat (List.getD (ByteArray.data p0_s).toList 1 0) : Nat) : Int)) : Int) fun n3 => XLet (((IntKind.wrap .i64 (n3))) : Int) fun n4 => (0 : Int) ≤ 8 ∧ (XLet (((ishl .i64 n4 8)) : Int) fun n5 => XLet (((ibits .or .i64 n2 n5)) : Int) fun n6 => ((0 : Int) ≤ 2 ∧ 2 < ((ByteArray.size p0_s : Nat) : Int)) ∧ (XLet ((((UInt8.toNat (List.getD (ByteArray.data p0_s).toList 2 0) : Nat) : Int)) : Int) fun n7 => XLet (((IntKind.wrap .i64 (n7))) : Int) fun n8 => (0 : Int) ≤ 16 ∧ (XLet (((ishl .i64 n8 16)) : Int) fun n9 => XLet (((ibits .or .i64 n6 n9)) : Int) fun n10 => ((0 : Int) ≤ 3 ∧ 3 < ((ByteArray.size p0_s : Nat) : Int)) ∧ (XLet ((((UInt8.toNat (List.getD (ByteArray.data p0_s).toList 3 0) : Nat) : Int)) : Int) fun n11 => XLet (((IntKind.wrap .i64 (n11))) : Int) fun n12 => (0 : Int) ≤ 24 ∧ (XLet (((ishl .i64 n12 24)) : Int) fun n13 => XLet (((ibits .or .i64 n10 n13)) : Int) fun n14 => K (.int .i64 n14) (World.drew w0))))))))

set_option maxHeartbeats 8000000 in
set_option maxRecDepth 100000 in
theorem S.wal_value_ok (p0_s : ByteArray) (K : Value → World → Prop) (w0 : World) (h : S.wal_value p0_s  K w0) :
    Calls Tryz.prog F.wal_value ⟨[.string p0_s]⟩ w0 fun e w' => ∃ v, e = .returned v ∧ K v w' :=
  calls_x (P := Tryz.prog) [0, 2] (by kernel_rfl) Tryz.func81 (by kernel_rfl) (Eq.mp (by kernel_rfl : S.wal_value p0_s  K w0 = xfn Tryz.prog [0, 2] Tryz.f81 [.string p0_s] K w0) h)

set_option maxRecDepth 100000 in
set_option maxHeartbeats 8000000 in
/-- 82 (*barque/marks.Book).Is -/
def S.marks_Book_Is (p0_b : Option Addr) (p1_s : ByteArray) (p2_mark : ByteArray) (K : Value → World → Prop) (w0 : World) : Prop :=
  XCall Tryz.prog F.marks_Book_none [.pointer p0_b] (.leaf .bool) w0 fun (x1 : Bool) w2 => XIf x1 (K (.bool false) w2) (XNil p0_b fun a3 => XLoad .bool (Addr.add a3 72) w2 fun (x4 : Bool) => XIf x4 (XNil p0_b fun a5 => XLoads (List.replicate 72 ((.int .u32))) a5 w2 fun (x6 : (HL (List.replicate 72 ((.int .u32))))) => XCall Tryz.prog F._marks_mixer_sum [.agg ⟨HL.cells (List.replicate 72 ((.int .u32))) x6⟩, .string p1_s] (.leaf .str) w2 fun (x7 : ByteArray) w8 => K (.bool (sEq x7 p2_mark)) w8) (XNil p0_b fun a9 => XLoad .map (Addr.add a9 73) w2 fun (x10 : Option Nat) => XDos Tryz.prog (Instr.lookup 94 (.map x10) (.string p1_s) true) [.leaf (.int .i64), .leaf .bool] w2 fun (x11 : (Int × Bool × Unit)) w12 => XJoin (α := (Bool × Unit)) (fun s13 w14 => K (.bool s13.1) w14) (fun J15 => XIf x11.2.1 (XCall Tryz.prog F.marks_numbered [.int .i64 x11.1] (.leaf .str) w12 fun (x16 : ByteArray) w17 => J15 ((sEq x16 p2_mark), ()) w17) (J15 (false, ()) w12))))

set_option maxHeartbeats 8000000 in
set_option maxRecDepth 100000 in
theorem S.marks_Book_Is_ok (p0_b : Option Addr) (p1_s : ByteArray) (p2_mark : ByteArray) (K : Value → World → Prop) (w0 : World) (h : S.marks_Book_Is p0_b p1_s p2_mark  K w0) :
    Calls Tryz.prog F.marks_Book_Is ⟨[.pointer p0_b, .string p1_s, .string p2_mark]⟩ w0 fun e w' => ∃ v, e = .returned v ∧ K v w' :=
  calls_x (P := Tryz.prog) [0, 1, 2, 6, 7, 8, 9, 12] (by kernel_rfl) Tryz.func82 (by kernel_rfl) (Eq.mp (by kernel_rfl : S.marks_Book_Is p0_b p1_s p2_mark  K w0 = xfn Tryz.prog [0, 1, 2, 6, 7, 8, 9, 12] Tryz.f82 [.pointer p0_b, .string p1_s, .string p2_mark] K w0) h)

set_option maxRecDepth 100000 in
set_option maxHeartbeats 8000000 in
/-- 83 slices.IndexFunc[[]barque/disk.write,barque/disk.write] -/
def S.slices_IndexFunc (p0_s : Sl) (p1_f : Value) (K : Value → World → Prop) (w0 : World) : Prop :=
  XLoop (α := (Int × Int × Unit)) (fun next3 s1 w2 => XIf (decide ((s1.2.1 : Int) < ((p0_s.len : Nat) : Int))) (XNil p0_s.a fun a4 => ((0 : Int) ≤ s1.2.1 ∧ s1.2.1 < ((p0_s.len : Nat) : Int)) ∧ (XLoads [(.int .i64), (.int .i64), (.int .i64), .str] (Addr.add a4 ((Int.toNat s1.2.1) * 4)) w2 fun (x5 : (Int × Int × Int × ByteArray × Unit)) => XCallV Tryz.prog (p1_f) [.agg ⟨[.int .i64 x5.1, .int .i64 x5.2.1, .int .i64 x5.2.2.1, .string x5.2.2.2.1]⟩] (.leaf .bool) w2 fun (x6 : Bool) w7 => XIf x6 (K (.int .i64 s1.2.1) w7) (XLet (((IntKind.wrap .i64 (s1.2.1 + 1))) : Int) fun n8 => next3 (s1.1, (n8, ())) w7))) (K (.int .i64 (-1)) w2)) (0, (0, ())) w0

set_option maxHeartbeats 8000000 in
set_option maxRecDepth 100000 in
theorem S.slices_IndexFunc_ok (p0_s : Sl) (p1_f : Value) (K : Value → World → Prop) (w0 : World) (h : S.slices_IndexFunc p0_s p1_f  K w0) :
    Calls Tryz.prog F.slices_IndexFunc ⟨[.slice p0_s.a p0_s.len p0_s.cap, p1_f]⟩ w0 fun e w' => ∃ v, e = .returned v ∧ K v w' :=
  calls_x (P := Tryz.prog) [0, 1, 4, 5, 7, 8, 9, 16] (by kernel_rfl) Tryz.func83 (by kernel_rfl) (Eq.mp (by kernel_rfl : S.slices_IndexFunc p0_s p1_f  K w0 = xfn Tryz.prog [0, 1, 4, 5, 7, 8, 9, 16] Tryz.f83 [.slice p0_s.a p0_s.len p0_s.cap, p1_f] K w0) h)

set_option maxRecDepth 100000 in
set_option maxHeartbeats 8000000 in
/-- 84 strings.trimLeftByte -/
def S.strings_trimLeftByte (p0_s : ByteArray) (p1_c : Int) (K : Value → World → Prop) (w0 : World) : Prop :=
  XLoop (α := (ByteArray × Unit)) (fun next3 s1 w2 => XJoin (α := (Bool × Unit)) (fun s4 w5 => XIf s4.1 ((((0 : Int) ≤ (((ByteArray.size s1.1) : Nat) : Int) ∧ (((ByteArray.size s1.1) : Nat) : Int) ≤ (((ByteArray.size s1.1) : Nat) : Int)) ∧ (0 : Int) ≤ 1 ∧ (1 : Int) ≤ (((ByteArray.size s1.1) : Nat) : Int)) ∧ (XLet (((ByteArray.extract s1.1 1 (Int.toNat (((ByteArray.size s1.1) : Nat) : Int)))) : ByteArray) fun t7 => next3 (t7, ()) w5)) (K (.string s1.1) w5)) (fun J6 => XIf (decide (((((ByteArray.size s1.1) : Nat) : Int) : Int) > 0)) (((0 : Int) ≤ 0 ∧ 0 < ((ByteArray.size s1.1 : Nat) : Int)) ∧ (XLet ((((UInt8.toNat (List.getD (ByteArray.data s1.1).toList 0 0) : Nat) : Int)) : Int) fun n8 => J6 (((n8 : Int) == p1_c), ()) w2)) (J6 (false, ()) w2))) (p0_s, ()) w0

set_option maxHeartbeats 8000000 in
set_option maxRecDepth 100000 in
theorem S.strings_trimLeftByte_ok (p0_s : ByteArray) (p1_c : Int) (K : Value → World → Prop) (w0 : World) (h : S.strings_trimLeftByte p0_s p1_c  K w0) :
    Calls Tryz.prog F.strings_trimLeftByte ⟨[.string p0_s, .int .u8 p1_c]⟩ w0 fun e w' => ∃ v, e = .returned v ∧ K v w' :=
  calls_x (P := Tryz.prog) [0, 1, 4, 13] (by kernel_rfl) Tryz.func84 (by kernel_rfl) (Eq.mp (by kernel_rfl : S.strings_trimLeftByte p0_s p1_c  K w0 = xfn Tryz.prog [0, 1, 4, 13] Tryz.f84 [.string p0_s, .int .u8 p1_c] K w0) h)

set_option maxRecDepth 100000 in
set_option maxHeartbeats 8000000 in
/-- 85 strings.trimRightByte -/
def S.strings_trimRightByte (p0_s : ByteArray) (p1_c : Int) (K : Value → World → Prop) (w0 : World) : Prop :=
  XLoop (α := (ByteArray × Unit)) (fun next3 s1 w2 => XJoin (α := (Bool × Unit)) (fun s4 w5 => XIf s4.1 (XLet (((IntKind.wrap .i64 ((((ByteArray.size s1.1) : Nat) : Int) - 1))) : Int) fun n7 => (((0 : Int) ≤ n7 ∧ n7 ≤ (((ByteArray.size s1.1) : Nat) : Int)) ∧ (0 : Int) ≤ 0 ∧ (0 : Int) ≤ n7) ∧ (XLet (((ByteArray.extract s1.1 0 (Int.toNat n7))) : ByteArray) fun t8 => next3 (t8, ()) w5)) (K (.string s1.1) w5)) (fun J6 => XIf (decide (((((ByteArray.size s1.1) : Nat) : Int) : Int) > 0)) (XLet (((IntKind.wrap .i64 ((((ByteArray.size s1.1) : Nat) : Int) - 1))) : Int) fun n9 => ((0 : Int) ≤ n9 ∧ n9 < ((ByteArray.size s1.1 : Nat) : Int)) ∧ (XLet ((((UInt8.toNat (List.getD (ByteArray.data s1.1).toList (Int.toNat n9) 0) : Nat) : Int)) : Int) fun n10 => J6 (((n10 : Int) == p1_c), ()) w2)) (J6 (false, ()) w2))) (p0_s, ()) w0

set_option maxHeartbeats 8000000 in
set_option maxRecDepth 100000 in
theorem S.strings_trimRightByte_ok (p0_s : ByteArray) (p1_c : Int) (K : Value → World → Prop) (w0 : World) (h : S.strings_trimRightByte p0_s p1_c  K w0) :
    Calls Tryz.prog F.strings_trimRightByte ⟨[.string p0_s, .int .u8 p1_c]⟩ w0 fun e w' => ∃ v, e = .returned v ∧ K v w' :=
  calls_x (P := Tryz.prog) [0, 1, 4, 16] (by kernel_rfl) Tryz.func85 (by kernel_rfl) (Eq.mp (by kernel_rfl : S.strings_trimRightByte p0_s p1_c  K w0 = xfn Tryz.prog [0, 1, 4, 16] Tryz.f85 [.string p0_s, .int .u8 p1_c] K w0) h)

set_option maxRecDepth 100000 in
set_option maxHeartbeats 8000000 in
/-- 87 strings.trimLeftASCII -/
def S.strings_trimLeftASCII (p0_s : ByteArray) (p1_as : Option Addr) (K : Value → World → Prop) (w0 : World) : Prop :=
  XJoin (α := (ByteArray × Unit)) (fun s1 w2 => K (.string s1.1) w2) (fun J3 => XLoop (α := (ByteArray × Unit)) (fun next6 s4 w5 => XIf (decide (((((ByteArray.size s4.1) : Nat) : Int) : Int) > 0)) (((0 : Int) ≤ 0 ∧ 0 < ((ByteArray.size s4.1 : Nat) : Int)) ∧ (XLet ((((UInt8.toNat (List.getD (ByteArray.data s4.1).toList 0 0) : Nat) : Int)) : Int) fun n7 => XCall Tryz.prog F.strings_asciiSet_contains [.pointer p1_as, .int .u8 n7] (.leaf .bool) w5 fun (x8 : Bool) w9 => XIf (!x8) (J3 (s4.1, ()) w9) ((((0 : Int) ≤ (((ByteArray.size s4.1) : Nat) : Int) ∧ (((ByteArray.size s4.1) : Nat) : Int) ≤ (((ByteArray.size s4.1) : Nat) : Int)) ∧ (0 : Int) ≤ 1 ∧ (1 : Int) ≤ (((ByteArray.size s4.1) : Nat) : Int)) ∧ (XLet (((ByteArray.extract s4.1 1 (Int.toNat (((ByteArray.size s4.1) : Nat) : Int)))) : ByteArray) fun t10 => next6 (t10, ()) w9)))) (J3 (s4.1, ()) w5)) (p0_s, ()) w0)

set_option maxHeartbeats 8000000 in
set_option maxRecDepth 100000 in
theorem S.strings_trimLeftASCII_ok (p0_s : ByteArray) (p1_as : Option Addr) (K : Value → World → Prop) (w0 : World) (h : S.strings_trimLeftASCII p0_s p1_as  K w0) :
    Calls Tryz.prog F.strings_trimLeftASCII ⟨[.string p0_s, .pointer p1_as]⟩ w0 fun e w' => ∃ v, e = .returned v ∧ K v w' :=
  calls_x (P := Tryz.prog) [0, 1, 4, 7, 12] (by kernel_rfl) Tryz.func87 (by kernel_rfl) (Eq.mp (by kernel_rfl : S.strings_trimLeftASCII p0_s p1_as  K w0 = xfn Tryz.prog [0, 1, 4, 7, 12] Tryz.f87 [.string p0_s, .pointer p1_as] K w0) h)

set_option maxRecDepth 100000 in
set_option maxHeartbeats 8000000 in
/-- 88 strings.trimRightASCII -/
def S.strings_trimRightASCII (p0_s : ByteArray) (p1_as : Option Addr) (K : Value → World → Prop) (w0 : World) : Prop :=
  XJoin (α := (ByteArray × Unit)) (fun s1 w2 => K (.string s1.1) w2) (fun J3 => XLoop (α := (ByteArray × Unit)) (fun next6 s4 w5 => XIf (decide (((((ByteArray.size s4.1) : Nat) : Int) : Int) > 0)) (XLet (((IntKind.wrap .i64 ((((ByteArray.size s4.1) : Nat) : Int) - 1))) : Int) fun n7 => ((0 : Int) ≤ n7 ∧ n7 < ((ByteArray.size s4.1 : Nat) : Int)) ∧ (XLet ((((UInt8.toNat (List.getD (ByteArray.data s4.1).toList (Int.toNat n7) 0) : Nat) : Int)) : Int) fun n8 => XCall Tryz.prog F.strings_asciiSet_contains [.pointer p1_as, .int .u8 n8] (.leaf .bool) w5 fun (x9 : Bool) w10 => XIf (!x9) (J3 (s4.1, ()) w10) (XLet (((IntKind.wrap .i64 ((((ByteArray.size s4.1) : Nat) : Int) - 1))) : Int) fun n11 => (((0 : Int) ≤ n11 ∧ n11 ≤ (((ByteArray.size s4.1) : Nat) : Int)) ∧ (0 : Int) ≤ 0 ∧ (0 : Int) ≤ n11) ∧ (XLet (((ByteArray.extract s4.1 0 (Int.toNat n11))) : ByteArray) fun t12 => next6 (t12, ()) w10)))) (J3 (s4.1, ()) w5)) (p0_s, ()) w0)

set_option maxHeartbeats 8000000 in
set_option maxRecDepth 100000 in
theorem S.strings_trimRightASCII_ok (p0_s : ByteArray) (p1_as : Option Addr) (K : Value → World → Prop) (w0 : World) (h : S.strings_trimRightASCII p0_s p1_as  K w0) :
    Calls Tryz.prog F.strings_trimRightASCII ⟨[.string p0_s, .pointer p1_as]⟩ w0 fun e w' => ∃ v, e = .returned v ∧ K v w' :=
  calls_x (P := Tryz.prog) [0, 1, 4, 7, 15] (by kernel_rfl) Tryz.func88 (by kernel_rfl) (Eq.mp (by kernel_rfl : S.strings_trimRightASCII p0_s p1_as  K w0 = xfn Tryz.prog [0, 1, 4, 7, 15] Tryz.f88 [.string p0_s, .pointer p1_as] K w0) h)

set_option maxRecDepth 100000 in
set_option maxHeartbeats 8000000 in
/-- 89 strings.trimLeftUnicode -/
def S.strings_trimLeftUnicode (p0_s : ByteArray) (p1_cutset : ByteArray) (K : Value → World → Prop) (w0 : World) : Prop :=
  XJoin (α := (ByteArray × Unit)) (fun s1 w2 => K (.string s1.1) w2) (fun J3 => XLoop (α := (ByteArray × Unit)) (fun next6 s4 w5 => XIf (decide (((((ByteArray.size s4.1) : Nat) : Int) : Int) > 0)) (XCalls Tryz.prog F.unicode_utf8_DecodeRuneInString [.string s4.1] [.leaf (.int .i32), .leaf (.int .i64)] w5 fun (x7 : (Int × Int × Unit)) w8 => XCall Tryz.prog F.strings_ContainsRune [.string p1_cutset, .int .i32 x7.1] (.leaf .bool) w8 fun (x9 : Bool) w10 => XIf (!x9) (J3 (s4.1, ()) w10) ((((0 : Int) ≤ (((ByteArray.size s4.1) : Nat) : Int) ∧ (((ByteArray.size s4.1) : Nat) : Int) ≤ (((ByteArray.size s4.1) : Nat) : Int)) ∧ (0 : Int) ≤ x7.2.1 ∧ (x7.2.1 : Int) ≤ (((ByteArray.size s4.1) : Nat) : Int)) ∧ (XLet (((ByteArray.extract s4.1 (Int.toNat x7.2.1) (Int.toNat (((ByteArray.size s4.1) : Nat) : Int)))) : ByteArray) fun t11 => next6 (t11, ()) w10))) (J3 (s4.1, ()) w5)) (p0_s, ()) w0)

set_option maxHeartbeats 8000000 in
set_option maxRecDepth 100000 in
theorem S.strings_trimLeftUnicode_ok (p0_s : ByteArray) (p1_cutset : ByteArray) (K : Value → World → Prop) (w0 : World) (h : S.strings_trimLeftUnicode p0_s p1_cutset  K w0) :
    Calls Tryz.prog F.strings_trimLeftUnicode ⟨[.string p0_s, .string p1_cutset]⟩ w0 fun e w' => ∃ v, e = .returned v ∧ K v w' :=
  calls_x (P := Tryz.prog) [0, 1, 4, 5, 6, 9, 18] (by kernel_rfl) Tryz.func89 (by kernel_rfl) (Eq.mp (by kernel_rfl : S.strings_trimLeftUnicode p0_s p1_cutset  K w0 = xfn Tryz.prog [0, 1, 4, 5, 6, 9, 18] Tryz.f89 [.string p0_s, .string p1_cutset] K w0) h)

set_option maxRecDepth 100000 in
set_option maxHeartbeats 8000000 in
/-- 90 strings.trimRightUnicode -/
def S.strings_trimRightUnicode (p0_s : ByteArray) (p1_cutset : ByteArray) (K : Value → World → Prop) (w0 : World) : Prop :=
  XJoin (α := (ByteArray × Unit)) (fun s1 w2 => K (.string s1.1) w2) (fun J3 => XLoop (α := (ByteArray × Unit)) (fun next6 s4 w5 => XIf (decide (((((ByteArray.size s4.1) : Nat) : Int) : Int) > 0)) (XLet (((IntKind.wrap .i64 ((((ByteArray.size s4.1) : Nat) : Int) - 1))) : Int) fun n7 => ((0 : Int) ≤ n7 ∧ n7 < ((ByteArray.size s4.1 : Nat) : Int)) ∧ (XLet ((((UInt8.toNat (List.getD (ByteArray.data s4.1).toList (Int.toNat n7) 0) : Nat) : Int)) : Int) fun n8 => XLet (((IntKind.wrap .i32 (n8))) : Int) fun n9 => XJoin (α := (Int × Int × Unit)) (fun s10 w11 => XCall Tryz.prog F.strings_ContainsRune [.string p1_cutset, .int .i32 s10.1] (.leaf .bool) w11 fun (x13 : Bool) w14 => XIf (!x13) (J3 (s4.1, ()) w14) (XLet (((IntKind.wrap .i64 ((((ByteArray.size s4.1) : Nat) : Int) - s10.2.1))) : Int) fun n15 => (((0 : Int) ≤ n15 ∧ n15 ≤ (((ByteArray.size s4.1) : Nat) : Int)) ∧ (0 : Int) ≤ 0 ∧ (0 : Int) ≤ n15) ∧ (XLet (((ByteArray.extract s4.1 0 (Int.toNat n15))) : ByteArray) fun t16 => next6 (t16, ()) w14))) (fun J12 => XIf (decide ((n9 : Int) ≥ 128)) (XCalls Tryz.prog F.unicode_utf8_DecodeLastRuneInString [.string s4.1] [.leaf (.int .i32), .leaf (.int .i64)] w5 fun (x17 : (Int × Int × Unit)) w18 => J12 (x17.1, (x17.2.1, ())) w18) (J12 (n9, (1, ())) w5)))) (J3 (s4.1, ()) w5)) (p0_s, ()) w0)

set_option maxHeartbeats 8000000 in
set_option maxRecDepth 100000 in
theorem S.strings_trimRightUnicode_ok (p0_s : ByteArray) (p1_cutset : ByteArray) (K : Value → World → Prop) (w0 : World) (h : S.strings_trimRightUnicode p0_s p1_cutset  K w0) :
    Calls Tryz.prog F.strings_trimRightUnicode ⟨[.string p0_s, .string p1_cutset]⟩ w0 fun e w' => ∃ v, e = .returned v ∧ K v w' :=
  calls_x (P := Tryz.prog) [0, 1, 4, 5, 6, 9, 17, 26] (by kernel_rfl) Tryz.func90 (by kernel_rfl) (Eq.mp (by kernel_rfl : S.strings_trimRightUnicode p0_s p1_cutset  K w0 = xfn Tryz.prog [0, 1, 4, 5, 6, 9, 17, 26] Tryz.f90 [.string p0_s, .string p1_cutset] K w0) h)

set_option maxRecDepth 100000 in
set_option maxHeartbeats 8000000 in
/-- 91 math/bits.Mul -/
def S.math_bits_Mul (p0_x : Int) (p1_y : Int) (K : Value → World → Prop) (w0 : World) : Prop :=
  XCalls Tryz.prog F.math_bits_Mul64 [.int .u64 p0_x, .int .u64 p1_y] [.leaf (.int .u64), .leaf (.int .u64)] w0 fun (x1 : (Int × Int × Unit)) w2 => K (.tuple ⟨[.int .u64 x1.1, .int .u64 x1.2.1]⟩) w2

set_option maxHeartbeats 8000000 in
set_option maxRecDepth 100000 in
theorem S.math_bits_Mul_ok (p0_x : Int) (p1_y : Int) (K : Value → World → Prop) (w0 : World) (h : S.math_bits_Mul p0_x p1_y  K w0) :
    Calls Tryz.prog F.math_bits_Mul ⟨[.int .u64 p0_x, .int .u64 p1_y]⟩ w0 fun e w' => ∃ v, e = .returned v ∧ K v w' :=
  calls_x (P := Tryz.prog) [0, 1, 4, 5, 6, 7, 8, 9] (by kernel_rfl) Tryz.func91 (by kernel_rfl) (Eq.mp (by kernel_rfl : S.math_bits_Mul p0_x p1_y  K w0 = xfn Tryz.prog [0, 1, 4, 5, 6, 7, 8, 9] Tryz.f91 [.int .u64 p0_x, .int .u64 p1_y] K w0) h)

set_option maxRecDepth 100000 in
set_option maxHeartbeats 8000000 in
/-- 92 (*strings.Builder).Grow -/
def S.strings_Builder_Grow (p0_b : Option Addr) (p1_n : Int) (K : Value → World → Prop) (w0 : World) : Prop :=
  XCalls Tryz.prog F.strings_Builder_copyCheck [.pointer p0_b] [] w0 fun x1 w2 => XJoin (α := (Unit)) (fun s3 w4 => XNil p0_b fun a6 => XLoad .slice (Addr.add a6 1) (World.drew w4) fun (x7 : Sl) => XNil p0_b fun a8 => XLoad .slice (Addr.add a8 1) (World.drew w4) fun (x9 : Sl) => XLet (((IntKind.wrap .i64 (((x7.cap : Nat) : Int) - ((x9.len : Nat) : Int)))) : Int) fun n10 => XIf (decide ((n10 : Int) < p1_n)) (XCalls Tryz.prog F.strings_Builder_grow [.pointer p0_b, .int .i64 p1_n] [] (World.drew w4) fun x11 w12 => K (.tuple ⟨[]⟩) w12) (K (.tuple ⟨[]⟩) (World.drew w4))) (fun J5 => XIf (decide ((p1_n : Int) < 0)) ((False /- pure op -/)) (J5 () w2))

set_option maxHeartbeats 8000000 in
set_option maxRecDepth 100000 in
theorem S.strings_Builder_Grow_ok (p0_b : Option Addr) (p1_n : Int) (K : Value → World → Prop) (w0 : World) (h : S.strings_Builder_Grow p0_b p1_n  K w0) :
    Calls Tryz.prog F.strings_Builder_Grow ⟨[.pointer p0_b, .int .i64 p1_n]⟩ w0 fun e w' => ∃ v, e = .returned v ∧ K v w' :=
  calls_x (P := Tryz.prog) [0, 1, 7, 21] (by kernel_rfl) Tryz.func92 (by kernel_rfl) (Eq.mp (by kernel_rfl : S.strings_Builder_Grow p0_b p1_n  K w0 = xfn Tryz.prog [0, 1, 7, 21] Tryz.f92 [.pointer p0_b, .int .i64 p1_n] K w0) h)

set_option maxRecDepth 100000 in
set_option maxHeartbeats 8000000 in
/-- 93 internal/bytealg.CompareString -/
def S.internal_bytealg_CompareString (p0_a : ByteArray) (p1_b : ByteArray) (K : Value → World → Prop) (w0 : World) : Prop :=
  XDo Tryz.prog (extRun Tryz.prog F.internal_bytealg_abigen_runtime_cmpstring ⟨[.string p0_a, .string p1_b]⟩) (.leaf (.int .i64)) w0 fun (x1 : Int) w2 => K (.int .i64 x1) w2

set_option maxHeartbeats 8000000 in
set_option maxRecDepth 100000 in
theorem S.internal_bytealg_CompareString_ok (p0_a : ByteArray) (p1_b : ByteArray) (K : Value → World → Prop) (w0 : World) (h : S.internal_bytealg_CompareString p0_a p1_b  K w0) :
    Calls Tryz.prog F.internal_bytealg_CompareString ⟨[.string p0_a, .string p1_b]⟩ w0 fun e w' => ∃ v, e = .returned v ∧ K v w' :=
  calls_x (P := Tryz.prog) [0, 1, 4] (by kernel_rfl) Tryz.func93 (by kernel_rfl) (Eq.mp (by kernel_rfl : S.internal_bytealg_CompareString p0_a p1_b  K w0 = xfn Tryz.prog [0, 1, 4] Tryz.f93 [.string p0_a, .string p1_b] K w0) h)

set_option maxRecDepth 100000 in
set_option maxHeartbeats 8000000 in
/-- 94 slices.rotateLeft[*barque/disk.file] -/
def S.slices_rotateLeft (p0_s : Sl) (p1_r : Int) (K : Value → World → Prop) (w0 : World) : Prop :=
  (((0 : Int) ≤ p1_r ∧ p1_r ≤ ((p0_s.cap : Nat) : Int)) ∧ (0 : Int) ≤ 0 ∧ (0 : Int) ≤ p1_r) ∧ (XLet ((⟨(if p0_s.cap = 0 then p0_s.a else Option.map (fun b => Addr.add b (0 * 1)) p0_s.a), ((Int.toNat p1_r) - 0), (p0_s.cap - 0)⟩) : Sl) fun s1 => XCalls Tryz.prog F.slices_Reverse [.slice s1.a s1.len s1.cap] [] w0 fun x2 w3 => (((0 : Int) ≤ ((p0_s.len : Nat) : Int) ∧ ((p0_s.len : Nat) : Int) ≤ ((p0_s.len : Nat) : Int)) ∧ (0 : Int) ≤ p1_r ∧ (p1_r : Int) ≤ ((p0_s.len : Nat) : Int)) ∧ (XLet ((⟨(if p0_s.cap = (Int.toNat p1_r) then p0_s.a else Option.map (fun b => Addr.add b ((Int.toNat p1_r) * 1)) p0_s.a), ((Int.toNat ((p0_s.len : Nat) : Int)) - (Int.toNat p1_r)), (p0_s.cap - (Int.toNat p1_r))⟩) : Sl) fun s4 => XCalls Tryz.prog F.slices_Reverse [.slice s4.a s4.len s4.cap] [] w3 fun x5 w6 => XCalls Tryz.prog F.slices_Reverse [.slice p0_s.a p0_s.len p0_s.cap] [] w6 fun x7 w8 => K (.tuple ⟨[]⟩) w8))

set_option maxHeartbeats 8000000 in
set_option maxRecDepth 100000 in
theorem S.slices_rotateLeft_ok (p0_s : Sl) (p1_r : Int) (K : Value → World → Prop) (w0 : World) (h : S.slices_rotateLeft p0_s p1_r  K w0) :
    Calls Tryz.prog F.slices_rotateLeft ⟨[.slice p0_s.a p0_s.len p0_s.cap, .int .i64 p1_r]⟩ w0 fun e w' => ∃ v, e = .returned v ∧ K v w' :=
  calls_x (P := Tryz.prog) [0, 1] (by kernel_rfl) Tryz.func94 (by kernel_rfl) (Eq.mp (by kernel_rfl : S.slices_rotateLeft p0_s p1_r  K w0 = xfn Tryz.prog [0, 1] Tryz.f94 [.slice p0_s.a p0_s.len p0_s.cap, .int .i64 p1_r] K w0) h)

set_option maxRecDepth 100000 in
set_option maxHeartbeats 8000000 in
/-- 96 barque/marks.numbered -/
def S.marks_numbered (p0_n : Int) (K : Value → World → Prop) (w0 : World) : Prop :=
  XDo Tryz.prog (Instr.makeSlice 61 (.int .i64 32) (.int .i64 32)) (.leaf .slice) w0 fun (x1 : Sl) w2 => XLoop (α := (Int × Unit)) (fun next5 s3 w4 => XIf (decide ((s3.1 : Int) < ((x1.len : Nat) : Int))) ((8 : Int) ≠ 0 ∧ (XLet (((Int.tmod s3.1 8)) : Int) fun n6 => XLet (((IntKind.wrap .i64 (8 * n6))) : Int) fun n7 => (0 : Int) ≤ n7 ∧ (XLet (((ishr .i64 p0_n n7)) : Int) fun n8 => XLet (((IntKind.wrap .u8 (n8))) : Int) fun n9 => XNil x1.a fun a10 => ((0 : Int) ≤ s3.1 ∧ s3.1 < ((x1.len : Nat) : Int)) ∧ (XStore (Addr.add a10 ((Int.toNat s3.1) * 1)) (.int .u8 n9) w4 fun w11 => XLet (((IntKind.wrap .i64 (s3.1 + 1))) : Int) fun n12 => next5 (n12, ()) w11)))) (XBytes x1.a x1.len w4 fun x13 => K (.string x13) w4)) (0, ()) w2

set_option maxHeartbeats 8000000 in
set_option maxRecDepth 100000 in
theorem S.marks_numbered_ok (p0_n : Int) (K : Value → World → Prop) (w0 : World) (h : S.marks_numbered p0_n  K w0) :
    Calls Tryz.prog F.marks_numbered ⟨[.int .i64 p0_n]⟩ w0 fun e w' => ∃ v, e = .returned v ∧ K v w' :=
  calls_x (P := Tryz.prog) [0, 2, 3, 4, 7, 8, 9] (by kernel_rfl) Tryz.func96 (by kernel_rfl) (Eq.mp (by kernel_rfl : S.marks_numbered p0_n  K w0 = xfn Tryz.prog [0, 2, 3, 4, 7, 8, 9] Tryz.f96 [.int .i64 p0_n] K w0) h)

set_option maxRecDepth 100000 in
set_option maxHeartbeats 8000000 in
/-- 98 (*barque/disk.Disk).used -/
def S.disk_Disk_used (p0_d : Option Addr) (K : Value → World → Prop) (w0 : World) : Prop :=
  XNil p0_d fun a1 => XLoad .slice a1 w0 fun (x2 : Sl) => XLoop (α := (Int × Int × Unit)) (fun next5 s3 w4 => XIf (decide ((s3.2.1 : Int) < ((x2.len : Nat) : Int))) (XNil x2.a fun a6 => ((0 : Int) ≤ s3.2.1 ∧ s3.2.1 < ((x2.len : Nat) : Int)) ∧ (XLoad .ptr (Addr.add a6 ((Int.toNat s3.2.1) * 1)) w4 fun (x7 : Option Addr) => XNil x7 fun a8 => XLoad .slice (Addr.add a8 3) (World.drew w4) fun (x9 : Sl) => XNil x7 fun a10 => XLoad .slice (Addr.add a10 2) (World.drew w4) fun (x11 : Sl) => XLet (((if (((x11.len : Nat) : Int) : Int) > ((x9.len : Nat) : Int) then ((x11.len : Nat) : Int) else ((x9.len : Nat) : Int))) : Int) fun n12 => XCall Tryz.prog F.disk_sectors [.int .i64 n12] (.leaf (.int .i64)) (World.drew w4) fun (x13 : Int) w14 => (World.cell? w14 (Addr.add a10 2) = some (Leaf.mk .slice x11)) ∧ ((World.cell? w14 (Addr.add a8 3) = some (Leaf.mk .slice x9)) ∧ (XLet (((IntKind.wrap .i64 (s3.1 + x13))) : Int) fun n15 => XLet (((IntKind.wrap .i64 (s3.2.1 + 1))) : Int) fun n16 => next5 (n15, (n16, ())) w14)))) (K (.int .i64 s3.1) w4)) (0, (0, ())) w0

set_option maxHeartbeats 8000000 in
set_option maxRecDepth 100000 in
theorem S.disk_Disk_used_ok (p0_d : Option Addr) (K : Value → World → Prop) (w0 : World) (h : S.disk_Disk_used p0_d  K w0) :
    Calls Tryz.prog F.disk_Disk_used ⟨[.pointer p0_d]⟩ w0 fun e w' => ∃ v, e = .returned v ∧ K v w' :=
  calls_x (P := Tryz.prog) [0, 2, 3, 5, 9, 10, 11, 12] (by kernel_rfl) Tryz.func98 (by kernel_rfl) (Eq.mp (by kernel_rfl : S.disk_Disk_used p0_d  K w0 = xfn Tryz.prog [0, 2, 3, 5, 9, 10, 11, 12] Tryz.f98 [.pointer p0_d] K w0) h)

set_option maxRecDepth 100000 in
set_option maxHeartbeats 8000000 in
/-- 99 internal/stringslite.HasPrefix -/
def S.internal_stringslite_HasPrefix (p0_s : ByteArray) (p1_prefix : ByteArray) (K : Value → World → Prop) (w0 : World) : Prop :=
  XJoin (α := (Bool × Unit)) (fun s1 w2 => K (.bool s1.1) w2) (fun J3 => XIf (decide (((((ByteArray.size p0_s) : Nat) : Int) : Int) ≥ (((ByteArray.size p1_prefix) : Nat) : Int))) ((((0 : Int) ≤ (((ByteArray.size p1_prefix) : Nat) : Int) ∧ (((ByteArray.size p1_prefix) : Nat) : Int) ≤ (((ByteArray.size p0_s) : Nat) : Int)) ∧ (0 : Int) ≤ 0 ∧ (0 : Int) ≤ (((ByteArray.size p1_prefix) : Nat) : Int)) ∧ (XLet (((ByteArray.extract p0_s 0 (Int.toNat (((ByteArray.size p1_prefix) : Nat) : Int)))) : ByteArray) fun t4 => J3 ((sEq t4 p1_prefix), ()) w0)) (J3 (false, ()) w0))

set_option maxHeartbeats 8000000 in
set_option maxRecDepth 100000 in
theorem S.internal_stringslite_HasPrefix_ok (p0_s : ByteArray) (p1_prefix : ByteArray) (K : Value → World → Prop) (w0 : World) (h : S.internal_stringslite_HasPrefix p0_s p1_prefix  K w0) :
    Calls Tryz.prog F.internal_stringslite_HasPrefix ⟨[.string p0_s, .string p1_prefix]⟩ w0 fun e w' => ∃ v, e = .returned v ∧ K v w' :=
  calls_x (P := Tryz.prog) [0, 1, 4] (by kernel_rfl) Tryz.func99 (by kernel_rfl) (Eq.mp (by kernel_rfl : S.internal_stringslite_HasPrefix p0_s p1_prefix  K w0 = xfn Tryz.prog [0, 1, 4] Tryz.f99 [.string p0_s, .string p1_prefix] K w0) h)

set_option maxRecDepth 100000 in
set_option maxHeartbeats 8000000 in
/-- 100 (*strings.asciiSet).contains -/
def S.strings_asciiSet_contains (p0_as : Option Addr) (p1_c : Int) (K : Value → World → Prop) (w0 : World) : Prop :=
  XNil p0_as fun a1 => ((0 : Int) ≤ p1_c ∧ p1_c < ((256 : Nat) : Int)) ∧ (XLoad .bool (Addr.add a1 ((Int.toNat p1_c) * 1)) w0 fun (x2 : Bool) => K (.bool x2) w0)

set_option maxHeartbeats 8000000 in
set_option maxRecDepth 100000 in
theorem S.strings_asciiSet_contains_ok (p0_as : Option Addr) (p1_c : Int) (K : Value → World → Prop) (w0 : World) (h : S.strings_asciiSet_contains p0_as p1_c  K w0) :
    Calls Tryz.prog F.strings_asciiSet_contains ⟨[.pointer p0_as, .int .u8 p1_c]⟩ w0 fun e w' => ∃ v, e = .returned v ∧ K v w' :=
  calls_x (P := Tryz.prog) [0, 1, 4] (by kernel_rfl) Tryz.func100 (by kernel_rfl) (Eq.mp (by kernel_rfl : S.strings_asciiSet_contains p0_as p1_c  K w0 = xfn Tryz.prog [0, 1, 4] Tryz.f100 [.pointer p0_as, .int .u8 p1_c] K w0) h)

set_option maxRecDepth 100000 in
set_option maxHeartbeats 8000000 in
/-- 101 unicode/utf8.DecodeRuneInString -/
def S.unicode_utf8_DecodeRuneInString (p0_s : ByteArray) (K : Value → World → Prop) (w0 : World) : Prop :=
  XJoin (α := (Bool × Unit)) (fun s1 w2 => XIf s1.1 (((0 : Int) ≤ 0 ∧ 0 < ((ByteArray.size p0_s : Nat) : Int)) ∧ (XLet ((((UInt8.toNat (List.getD (ByteArray.data p0_s).toList 0 0) : Nat) : Int)) : Int) fun n4 => XLet (((IntKind.wrap .i32 (n4))) : Int) fun n5 => K (.tuple ⟨[.int .i32 n5, .int .i64 1]⟩) w2)) (XCalls Tryz.prog F.unicode_utf8_decodeRuneInStringSlow [.string p0_s] [.leaf (.int .i32), .leaf (.int .i64)] w2 fun (x6 : (Int × Int × Unit)) w7 => K (.tuple ⟨[.int .i32 x6.1, .int .i64 x6.2.1]⟩) w7)) (fun J3 => XIf (!sEq p0_s ByteArray.empty) (((0 : Int) ≤ 0 ∧ 0 < ((ByteArray.size p0_s : Nat) : Int)) ∧ (XLet ((((UInt8.toNat (List.getD (ByteArray.data p0_s).toList 0 0) : Nat) : Int)) : Int) fun n8 => J3 ((decide ((n8 : Int) < 128)), ()) w0)) (J3 (false, ()) w0))

set_option maxHeartbeats 8000000 in
set_option maxRecDepth 100000 in
theorem S.unicode_utf8_DecodeRuneInString_ok (p0_s : ByteArray) (K : Value → World → Prop) (w0 : World) (h : S.unicode_utf8_DecodeRuneInString p0_s  K w0) :
    Calls Tryz.prog F.unicode_utf8_DecodeRuneInString ⟨[.string p0_s]⟩ w0 fun e w' => ∃ v, e = .returned v ∧ K v w' :=
  calls_x (P := Tryz.prog) [0, 2, 3, 10] (by kernel_rfl) Tryz.func101 (by kernel_rfl) (Eq.mp (by kernel_rfl : S.unicode_utf8_DecodeRuneInString p0_s  K w0 = xfn Tryz.prog [0, 2, 3, 10] Tryz.f101 [.string p0_s] K w0) h)

set_option maxRecDepth 100000 in
set_option maxHeartbeats 8000000 in
/-- 102 strings.ContainsRune -/
def S.strings_ContainsRune (p0_s : ByteArray) (p1_r : Int) (K : Value → World → Prop) (w0 : World) : Prop :=
  XCall Tryz.prog F.strings_IndexRune [.string p0_s, .int .i32 p1_r] (.leaf (.int .i64)) w0 fun (x1 : Int) w2 => K (.bool (decide ((x1 : Int) ≥ 0))) w2

set_option maxHeartbeats 8000000 in
set_option maxRecDepth 100000 in
theorem S.strings_ContainsRune_ok (p0_s : ByteArray) (p1_r : Int) (K : Value → World → Prop) (w0 : World) (h : S.strings_ContainsRune p0_s p1_r  K w0) :
    Calls Tryz.prog F.strings_ContainsRune ⟨[.string p0_s, .int .i32 p1_r]⟩ w0 fun e w' => ∃ v, e = .returned v ∧ K v w' :=
  calls_x (P := Tryz.prog) [0, 1, 4] (by kernel_rfl) Tryz.func102 (by kernel_rfl) (Eq.mp (by kernel_rfl : S.strings_ContainsRune p0_s p1_r  K w0 = xfn Tryz.prog [0, 1, 4] Tryz.f102 [.string p0_s, .int .i32 p1_r] K w0) h)

set_option maxRecDepth 100000 in
set_option maxHeartbeats 8000000 in
/-- 103 unicode/utf8.DecodeLastRuneInString -/
def S.unicode_utf8_DecodeLastRuneInString (p0_s : ByteArray) (K : Value → World → Prop) (w0 : World) : Prop :=
  XIf (((((ByteArray.size p0_s) : Nat) : Int) : Int) == 0) (K (.tuple ⟨[.int .i32 65533, .int .i64 0]⟩) w0) (XLet (((IntKind.wrap .i64 ((((ByteArray.size p0_s) : Nat) : Int) - 1))) : Int) fun n1 => ((0 : Int) ≤ n1 ∧ n1 < ((ByteArray.size p0_s : Nat) : Int)) ∧ (XLet ((((UInt8.toNat (List.getD (ByteArray.data p0_s).toList (Int.toNat n1) 0) : Nat) : Int)) : Int) fun n2 => XLet (((IntKind.wrap .i32 (n2))) : Int) fun n3 => XIf (decide ((n3 : Int) < 128)) (K (.tuple ⟨[.int .i32 n3, .int .i64 1]⟩) w0) (XLet (((IntKind.wrap .i64 ((((ByteArray.size p0_s) : Nat) : Int) - 4))) : Int) fun n4 => XLet (((if (0 : Int) > n4 then 0 else n4)) : Int) fun n5 => XJoin (α := (Int × Unit)) (fun s6 w7 => XJoin (α := (Int × Unit)) (fun s9 w10 => (((0 : Int) ≤ (((ByteArray.size p0_s) : Nat) : Int) ∧ (((ByteArray.size p0_s) : Nat) : Int) ≤ (((ByteArray.size p0_s) : Nat) : Int)) ∧ (0 : Int) ≤ s9.1 ∧ (s9.1 : Int) ≤ (((ByteArray.size p0_s) : Nat) : Int)) ∧ (XLet (((ByteArray.extract p0_s (Int.toNat s9.1) (Int.toNat (((ByteArray.size p0_s) : Nat) : Int)))) : ByteArray) fun t12 => XCalls Tryz.prog F.unicode_utf8_DecodeRuneInString [.string t12] [.leaf (.int .i32), .leaf (.int .i64)] w10 fun (x13 : (Int × Int × Unit)) w14 => XLet (((IntKind.wrap .i64 (s9.1 + x13.2.1))) : Int) fun n15 => XIf ((n15 : Int) != (((ByteArray.size p0_s) : Nat) : Int)) (K (.tuple ⟨[.int .i32 65533, .int .i64 1]⟩) w14) (K (.tuple ⟨[.int .i32 x13.1, .int .i64 x13.2.1]⟩) w14))) (fun J11 => XIf (decide ((s6.1 : Int) < 0)) (J11 (0, ()) w7) (J11 (s6.1, ()) w7))) (fun J8 => XLet (((IntKind.wrap .i64 (n1 - 1))) : Int) fun n16 => XLoop (α := (Int × Unit)) (fun next19 s17 w18 => XIf (decide ((s17.1 : Int) ≥ n5)) (((0 : Int) ≤ s17.1 ∧ s17.1 < ((ByteArray.size p0_s : Nat) : Int)) ∧ (XLet ((((UInt8.toNat (List.getD (ByteArray.data p0_s).toList (Int.toNat s17.1) 0) : Nat) : Int)) : Int) fun n20 => XCall Tryz.prog F.unicode_utf8_RuneStart [.int .u8 n20] (.leaf .bool) w18 fun (x21 : Bool) w22 => XIf x21 (J8 (s17.1, ()) w22) (XLet (((IntKind.wrap .i64 (s17.1 - 1))) : Int) fun n23 => next19 (n23, ()) w22))) (J8 (s17.1, ()) w18)) (n16, ()) w0))))

set_option maxHeartbeats 8000000 in
set_option maxRecDepth 100000 in
theorem S.unicode_utf8_DecodeLastRuneInString_ok (p0_s : ByteArray) (K : Value → World → Prop) (w0 : World) (h : S.unicode_utf8_DecodeLastRuneInString p0_s  K w0) :
    Calls Tryz.prog F.unicode_utf8_DecodeLastRuneInString ⟨[.string p0_s]⟩ w0 fun e w' => ∃ v, e = .returned v ∧ K v w' :=
  calls_x (P := Tryz.prog) [0, 2, 3, 4, 5, 6, 10, 18, 27, 33, 35, 48] (by kernel_rfl) Tryz.func103 (by kernel_rfl) (Eq.mp (by kernel_rfl : S.unicode_utf8_DecodeLastRuneInString p0_s  K w0 = xfn Tryz.prog [0, 2, 3, 4, 5, 6, 10, 18, 27, 33, 35, 48] Tryz.f103 [.string p0_s] K w0) h)

set_option maxRecDepth 100000 in
set_option maxHeartbeats 8000000 in
/-- 104 math/bits.Mul32 -/
def S.math_bits_Mul32 (p0_x : Int) (p1_y : Int) (K : Value → World → Prop) (w0 : World) : Prop :=
  XLet (((IntKind.wrap .u64 (p0_x))) : Int) fun n1 => XLet (((IntKind.wrap .u64 (p1_y))) : Int) fun n2 => XLet (((IntKind.wrap .u64 (n1 * n2))) : Int) fun n3 => (0 : Int) ≤ 32 ∧ (XLet (((ishr .u64 n3 32)) : Int) fun n4 => XLet (((IntKind.wrap .u32 (n4))) : Int) fun n5 => XLet (((IntKind.wrap .u32 (n3))) : Int) fun n6 => K (.tuple ⟨[.int .u32 n5, .int .u32 n6]⟩) w0)

set_option maxHeartbeats 8000000 in
set_option maxRecDepth 100000 in
theorem S.math_bits_Mul32_ok (p0_x : Int) (p1_y : Int) (K : Value → World → Prop) (w0 : World) (h : S.math_bits_Mul32 p0_x p1_y  K w0) :
    Calls Tryz.prog F.math_bits_Mul32 ⟨[.int .u32 p0_x, .int .u32 p1_y]⟩ w0 fun e w' => ∃ v, e = .returned v ∧ K v w' :=
  calls_x (P := Tryz.prog) [0, 1, 4, 5, 6] (by kernel_rfl) Tryz.func104 (by kernel_rfl) (Eq.mp (by kernel_rfl : S.math_bits_Mul32 p0_x p1_y  K w0 = xfn Tryz.prog [0, 1, 4, 5, 6] Tryz.f104 [.int .u32 p0_x, .int .u32 p1_y] K w0) h)

set_option maxRecDepth 100000 in
set_option maxHeartbeats 8000000 in
/-- 105 math/bits.Mul64 -/
def S.math_bits_Mul64 (p0_x : Int) (p1_y : Int) (K : Value → World → Prop) (w0 : World) : Prop :=
  XLet (((ibits .and .u64 p0_x 4294967295)) : Int) fun n1 => (0 : Int) ≤ 32 ∧ (XLet (((ishr .u64 p0_x 32)) : Int) fun n2 => XLet (((ibits .and .u64 p1_y 4294967295)) : Int) fun n3 => (0 : Int) ≤ 32 ∧ (XLet (((ishr .u64 p1_y 32)) : Int) fun n4 => XLet (((IntKind.wrap .u64 (n1 * n3))) : Int) fun n5 => XLet (((IntKind.wrap .u64 (n2 * n3))) : Int) fun n6 => (0 : Int) ≤ 32 ∧ (XLet (((ishr .u64 n5 32)) : Int) fun n7 => XLet (((IntKind.wrap .u64 (n6 + n7))) : Int) fun n8 => XLet (((ibits .and .u64 n8 4294967295)) : Int) fun n9 => (0 : Int) ≤ 32 ∧ (XLet (((ishr .u64 n8 32)) : Int) fun n10 => XLet (((IntKind.wrap .u64 (n1 * n4))) : Int) fun n11 => XLet (((IntKind.wrap .u64 (n9 + n11))) : Int) fun n12 => XLet (((IntKind.wrap .u64 (n2 * n4))) : Int) fun n13 => XLet (((IntKind.wrap .u64 (n13 + n10))) : Int) fun n14 => (0 : Int) ≤ 32 ∧ (XLet (((ishr .u64 n12 32)) : Int) fun n15 => XLet (((IntKind.wrap .u64 (n14 + n15))) : Int) fun n16 => XLet (((IntKind.wrap .u64 (p0_x * p1_y))) : Int) fun n17 => K (.tuple ⟨[.int .u64 n16, .int .u64 n17]⟩) w0)))))

set_option maxHeartbeats 8000000 in
set_option maxRecDepth 100000 in
theorem S.math_bits_Mul64_ok (p0_x : Int) (p1_y : Int) (K : Value → World → Prop) (w0 : World) (h : S.math_bits_Mul64 p0_x p1_y  K w0) :
    Calls Tryz.prog F.math_bits_Mul64 ⟨[.int .u64 p0_x, .int .u64 p1_y]⟩ w0 fun e w' => ∃ v, e = .returned v ∧ K v w' :=
  calls_x (P := Tryz.prog) [0, 1, 4, 5, 6, 7, 8, 9, 10, 11, 12, 13] (by kernel_rfl) Tryz.func105 (by kernel_rfl) (Eq.mp (by kernel_rfl : S.math_bits_Mul64 p0_x p1_y  K w0 = xfn Tryz.prog [0, 1, 4, 5, 6, 7, 8, 9, 10, 11, 12, 13] Tryz.f105 [.int .u64 p0_x, .int .u64 p1_y] K w0) h)

set_option maxRecDepth 100000 in
set_option maxHeartbeats 8000000 in
/-- 106 (*strings.Builder).grow -/
def S.strings_Builder_grow (p0_b : Option Addr) (p1_n : Int) (K : Value → World → Prop) (w0 : World) : Prop :=
  XNil p0_b fun a1 => XLoad .slice (Addr.add a1 1) (World.drew w0) fun (x2 : Sl) => XLet (((IntKind.wrap .i64 (2 * ((x2.cap : Nat) : Int)))) : Int) fun n3 => XLet (((IntKind.wrap .i64 (n3 + p1_n))) : Int) fun n4 => XNil p0_b fun a5 => XLoad .slice (Addr.add a5 1) (World.drew w0) fun (x6 : Sl) => XDo Tryz.prog (extRun Tryz.prog F.internal_bytealg_MakeNoZero ⟨[.int .i64 n4]⟩) (.leaf .slice) (World.drew w0) fun (x7 : Sl) w8 => (World.cell? w8 (Addr.add a5 1) = some (Leaf.mk .slice x6)) ∧ ((World.cell? w8 (Addr.add a1 1) = some (Leaf.mk .slice x2)) ∧ ((((0 : Int) ≤ ((x6.len : Nat) : Int) ∧ ((x6.len : Nat) : Int) ≤ ((x7.cap : Nat) : Int)) ∧ (0 : Int) ≤ 0 ∧ (0 : Int) ≤ ((x6.len : Nat) : Int)) ∧ (XLet ((⟨(if x7.cap = 0 then x7.a else Option.map (fun b => Addr.add b (0 * 1)) x7.a), ((Int.toNat ((x6.len : Nat) : Int)) - 0), (x7.cap - 0)⟩) : Sl) fun s9 => XNil p0_b fun a10 => XLoad .slice (Addr.add a10 1) w8 fun (x11 : Sl) => XDo Tryz.prog (Builtin.copy_ #[61, 61] 3 ⟨[.slice s9.a s9.len s9.cap, .slice x11.a x11.len x11.cap]⟩) (.leaf (.int .i64)) w8 fun (x12 : Int) w13 => XNil p0_b fun a14 => XStore (Addr.add a14 1) (.slice s9.a s9.len s9.cap) w13 fun w15 => K (.tuple ⟨[]⟩) w15)))

set_option maxHeartbeats 8000000 in
set_option maxRecDepth 100000 in
theorem S.strings_Builder_grow_ok (p0_b : Option Addr) (p1_n : Int) (K : Value → World → Prop) (w0 : World) (h : S.strings_Builder_grow p0_b p1_n  K w0) :
    Calls Tryz.prog F.strings_Builder_grow ⟨[.pointer p0_b, .int .i64 p1_n]⟩ w0 fun e w' => ∃ v, e = .returned v ∧ K v w' :=
  calls_x (P := Tryz.prog) [0, 1, 4] (by kernel_rfl) Tryz.func106 (by kernel_rfl) (Eq.mp (by kernel_rfl : S.strings_Builder_grow p0_b p1_n  K w0 = xfn Tryz.prog [0, 1, 4] Tryz.f106 [.pointer p0_b, .int .i64 p1_n] K w0) h)

set_option maxRecDepth 100000 in
set_option maxHeartbeats 8000000 in
/-- 108 slices.Reverse[[]*barque/disk.file,*barque/disk.file] -/
def S.slices_Reverse (p0_s : Sl) (K : Value → World → Prop) (w0 : World) : Prop :=
  XLet (((IntKind.wrap .i64 (((p0_s.len : Nat) : Int) - 1))) : Int) fun n1 => XLoop (α := (Int × Int × Unit)) (fun next4 s2 w3 => XIf (decide ((s2.1 : Int) < s2.2.1)) (XNil p0_s.a fun a5 => ((0 : Int) ≤ s2.2.1 ∧ s2.2.1 < ((p0_s.len : Nat) : Int)) ∧ (XLoad .ptr (Addr.add a5 ((Int.toNat s2.2.1) * 1)) (World.drew w3) fun (x6 : Option Addr) => XNil p0_s.a fun a7 => ((0 : Int) ≤ s2.1 ∧ s2.1 < ((p0_s.len : Nat) : Int)) ∧ (XLoad .ptr (Addr.add a7 ((Int.toNat s2.1) * 1)) (World.drew w3) fun (x8 : Option Addr) => XNil p0_s.a fun a9 => ((0 : Int) ≤ s2.1 ∧ s2.1 < ((p0_s.len : Nat) : Int)) ∧ (XStore (Addr.add a9 ((Int.toNat s2.1) * 1)) (.pointer x6) (World.drew w3) fun w10 => XNil p0_s.a fun a11 => ((0 : Int) ≤ s2.2.1 ∧ s2.2.1 < ((p0_s.len : Nat) : Int)) ∧ (XStore (Addr.add a11 ((Int.toNat s2.2.1) * 1)) (.pointer x8) w10 fun w12 => XLet (((IntKind.wrap .i64 (s2.1 + 1))) : Int) fun n13 => XLet (((IntKind.wrap .i64 (s2.2.1 - 1))) : Int) fun n14 => next4 (n13, (n14, ())) w12))))) (K (.tuple ⟨[]⟩) w3)) (0, (n1, ())) w0

set_option maxHeartbeats 8000000 in
set_option maxRecDepth 100000 in
theorem S.slices_Reverse_ok (p0_s : Sl) (K : Value → World → Prop) (w0 : World) (h : S.slices_Reverse p0_s  K w0) :
    Calls Tryz.prog F.slices_Reverse ⟨[.slice p0_s.a p0_s.len p0_s.cap]⟩ w0 fun e w' => ∃ v, e = .returned v ∧ K v w' :=
  calls_x (P := Tryz.prog) [0, 2, 3, 9] (by kernel_rfl) Tryz.func108 (by kernel_rfl) (Eq.mp (by kernel_rfl : S.slices_Reverse p0_s  K w0 = xfn Tryz.prog [0, 2, 3, 9] Tryz.f108 [.slice p0_s.a p0_s.len p0_s.cap] K w0) h)

set_option maxRecDepth 100000 in
set_option maxHeartbeats 8000000 in
/-- 110 barque/marks.ending -/
def S.marks_ending (p0_n : Int) (K : Value → World → Prop) (w0 : World) : Prop :=
  XNew 5 [.int .u8 128] w0 fun a1 w2 => XLoop (α := (Sl × Unit)) (fun next5 s3 w4 => XLet (((IntKind.wrap .i64 (p0_n + ((s3.1.len : Nat) : Int)))) : Int) fun n6 => (64 : Int) ≠ 0 ∧ (XLet (((Int.tmod n6 64)) : Int) fun n7 => XIf ((n7 : Int) != 56) (XNew 5 [.int .u8 0] w4 fun a8 w9 => XDo Tryz.prog (Builtin.append_ #[61, 61] 61 ⟨[.slice s3.1.a s3.1.len s3.1.cap, .slice (some a8) 1 1]⟩) (.leaf .slice) w9 fun (x10 : Sl) w11 => next5 (⟨x10.a, x10.len, x10.cap⟩, ()) w11) (XLoop (α := (Sl × Int × Unit)) (fun next14 s12 w13 => XIf (decide ((s12.2.1 : Int) ≥ 0)) (XLet (((IntKind.wrap .u64 (p0_n))) : Int) fun n15 => XLet (((IntKind.wrap .u64 (n15 * 8))) : Int) fun n16 => XLet (((IntKind.wrap .i64 (8 * s12.2.1))) : Int) fun n17 => (0 : Int) ≤ n17 ∧ (XLet (((ishr .u64 n16 n17)) : Int) fun n18 => XLet (((IntKind.wrap .u8 (n18))) : Int) fun n19 => XNew 5 [.int .u8 n19] w13 fun a20 w21 => XDo Tryz.prog (Builtin.append_ #[61, 61] 61 ⟨[.slice s12.1.a s12.1.len s12.1.cap, .slice (some a20) 1 1]⟩) (.leaf .slice) w21 fun (x22 : Sl) w23 => XLet (((IntKind.wrap .i64 (s12.2.1 - 1))) : Int) fun n24 => next14 (⟨x22.a, x22.len, x22.cap⟩, (n24, ())) w23)) (XBytes s12.1.a s12.1.len w13 fun x25 => K (.string x25) w13)) (⟨s3.1.a, s3.1.len, s3.1.cap⟩, (7, ())) w4))) (⟨(some a1), 1, 1⟩, ()) w2

set_option maxHeartbeats 8000000 in
set_option maxRecDepth 100000 in
theorem S.marks_ending_ok (p0_n : Int) (K : Value → World → Prop) (w0 : World) (h : S.marks_ending p0_n  K w0) :
    Calls Tryz.prog F.marks_ending ⟨[.int .i64 p0_n]⟩ w0 fun e w' => ∃ v, e = .returned v ∧ K v w' :=
  calls_x (P := Tryz.prog) [0, 2, 3, 4, 11, 16] (by kernel_rfl) Tryz.func110 (by kernel_rfl) (Eq.mp (by kernel_rfl : S.marks_ending p0_n  K w0 = xfn Tryz.prog [0, 2, 3, 4, 11, 16] Tryz.f110 [.int .i64 p0_n] K w0) h)

set_option maxRecDepth 100000 in
set_option maxHeartbeats 8000000 in
/-- 111 unicode/utf8.decodeRuneInStringSlow -/
def S.unicode_utf8_decodeRuneInStringSlow (p0_s : ByteArray) (K : Value → World → Prop) (w0 : World) : Prop :=
  XIf (decide (((((ByteArray.size p0_s) : Nat) : Int) : Int) < 1)) (K (.tuple ⟨[.int .i32 65533, .int .i64 0]⟩) w0) (((0 : Int) ≤ 0 ∧ 0 < ((ByteArray.size p0_s : Nat) : Int)) ∧ (XLet ((((UInt8.toNat (List.getD (ByteArray.data p0_s).toList 0 0) : Nat) : Int)) : Int) fun n1 => ((0 : Int) ≤ n1 ∧ n1 < ((256 : Nat) : Int)) ∧ (XLoad (.int .u8) (Addr.add ⟨1, 0, none⟩ ((Int.toNat n1) * 1)) w0 fun (x2 : Int) => XIf (decide ((x2 : Int) ≥ 240)) (XLet (((IntKind.wrap .i32 (x2))) : Int) fun n3 => (0 : Int) ≤ 31 ∧ (XLet (((ishl .i32 n3 31)) : Int) fun n4 => (0 : Int) ≤ 31 ∧ (XLet (((ishr .i32 n4 31)) : Int) fun n5 => ((0 : Int) ≤ 0 ∧ 0 < ((ByteArray.size p0_s : Nat) : Int)) ∧ (XLet ((((UInt8.toNat (List.getD (ByteArray.data p0_s).toList 0 0) : Nat) : Int)) : Int) fun n6 => XLet (((IntKind.wrap .i32 (n6))) : Int) fun n7 => XLet (((ibits .andNot .i32 n7 n5)) : Int) fun n8 => XLet (((ibits .and .i32 65533 n5)) : Int) fun n9 => XLet (((ibits .or .i32 n8 n9)) : Int) fun n10 => K (.tuple ⟨[.int .i32 n10, .int .i64 1]⟩) w0)))) (XLet (((ibits .and .u8 x2 7)) : Int) fun n11 => XLet (((IntKind.wrap .i64 (n11))) : Int) fun n12 => (0 : Int) ≤ 4 ∧ (XLet (((ishr .u8 x2 4)) : Int) fun n13 => ((0 : Int) ≤ n13 ∧ n13 < ((16 : Nat) : Int)) ∧ (XLoads [(.int .u8), (.int .u8)] (Addr.add ⟨2, 0, none⟩ ((Int.toNat n13) * 2)) w0 fun (x14 : (Int × Int × Unit)) => XNew 166 [.int .u8 0, .int .u8 0] w0 fun a15 w16 => XStores a15 0 [.int .u8 x14.1, .int .u8 x14.2.1] w16 fun w17 => XIf (decide (((((ByteArray.size p0_s) : Nat) : Int) : Int) < n12)) (K (.tuple ⟨[.int .i32 65533, .int .i64 1]⟩) w17) (((0 : Int) ≤ 1 ∧ 1 < ((ByteArray.size p0_s : Nat) : Int)) ∧ (XLet ((((UInt8.toNat (List.getD (ByteArray.data p0_s).toList 1 0) : Nat) : Int)) : Int) fun n18 => XJoin (α := (Bool × Unit)) (fun s19 w20 => XIf s19.1 (K (.tuple ⟨[.int .i32 65533, .int .i64 1]⟩) w20) (XIf (decide ((n12 : Int) ≤ 2)) (XLet (((ibits .and .u8 n1 31)) : Int) fun n22 => XLet (((IntKind.wrap .i32 (n22))) : Int) fun n23 => (0 : Int) ≤ 6 ∧ (XLet (((ishl .i32 n23 6)) : Int) fun n24 => XLet (((ibits .and .u8 n18 63)) : Int) fun n25 => XLet (((IntKind.wrap .i32 (n25))) : Int) fun n26 => XLet (((ibits .or .i32 n24 n26)) : Int) fun n27 => K (.tuple ⟨[.int .i32 n27, .int .i64 2]⟩) w20)) (((0 : Int) ≤ 2 ∧ 2 < ((ByteArray.size p0_s : Nat) : Int)) ∧ (XLet ((((UInt8.toNat (List.getD (ByteArray.data p0_s).toList 2 0) : Nat) : Int)) : Int) fun n28 => XJoin (α := (Bool × Unit)) (fun s29 w30 => XIf s29.1 (K (.tuple ⟨[.int .i32 65533, .int .i64 1]⟩) w30) (XIf (decide ((n12 : Int) ≤ 3)) (XLet (((ibits .and .u8 n1 15)) : Int) fun n32 => XLet (((IntKind.wrap .i32 (n32))) : Int) fun n33 => (0 : Int) ≤ 12 ∧ (XLet (((ishl .i32 n33 12)) : Int) fun n34 => XLet (((ibits .and .u8 n18 63)) : Int) fun n35 => XLet (((IntKind.wrap .i32 (n35))) : Int) fun n36 => (0 : Int) ≤ 6 ∧ (XLet (((ishl .i32 n36 6)) : Int) fun n37 => XLet (((ibits .or .i32 n34 n37)) : Int) fun n38 => XLet (((ibits .and .u8 n28 63)) : Int) fun n39 => XLet (((IntKind.wrap .i32 (n39))) : Int) fun n40 => XLet (((ibits .or .i32 n38 n40)) : Int) fun n41 => K (.tuple ⟨[.int .i32 n41, .int .i64 3]⟩) w30))) (((0 : Int) ≤ 3 ∧ 3 < ((ByteArray.size p0_s : Nat) : Int)) ∧ (XLet ((((UInt8.toNat (List.getD (ByteArray.data p0_s).toList 3 0) : Nat) : Int)) : Int) fun n42 => XJoin (α := (Bool × Unit)) (fun s43 w44 => XIf s43.1 (K (.tuple ⟨[.int .i32 65533, .int .i64 1]⟩) w44) (XLet (((ibits .and .u8 n1 7)) : Int) fun n46 => XLet (((IntKind.wrap .i32 (n46))) : Int) fun n47 => (0 : Int) ≤ 18 ∧ (XLet (((ishl .i32 n47 18)) : Int) fun n48 => XLet (((ibits .and .u8 n18 63)) : Int) fun n49 => XLet (((IntKind.wrap .i32 (n49))) : Int) fun n50 => (0 : Int) ≤ 12 ∧ (XLet (((ishl .i32 n50 12)) : Int) fun n51 => XLet (((ibits .or .i32 n48 n51)) : Int) fun n52 => XLet (((ibits .and .u8 n28 63)) : Int) fun n53 => XLet (((IntKind.wrap .i32 (n53))) : Int) fun n54 => (0 : Int) ≤ 6 ∧ (XLet (((ishl .i32 n54 6)) : Int) fun n55 => XLet (((ibits .or .i32 n52 n55)) : Int) fun n56 => XLet (((ibits .and .u8 n42 63)) : Int) fun n57 => XLet (((IntKind.wrap .i32 (n57))) : Int) fun n58 => XLet (((ibits .or .i32 n56 n58)) : Int) fun n59 => K (.tuple ⟨[.int .i32 n59, .int .i64 4]⟩) w44))))) (fun J45 => XIf (decide ((n42 : Int) < 128)) (J45 (true, ()) w30) (J45 ((decide ((191 : Int) < n42)), ()) w30)))))) (fun J31 => XIf (decide ((n28 : Int) < 128)) (J31 (true, ()) w20) (J31 ((decide ((191 : Int) < n28)), ()) w20)))))) (fun J21 => XLoad (.int .u8) a15 w17 fun (x60 : Int) => XIf (decide ((n18 : Int) < x60)) (J21 (true, ()) w17) (XLoad (.int .u8) (Addr.add a15 1) w17 fun (x61 : Int) => J21 ((decide ((x61 : Int) < n18)), ()) w17))))))))))

set_option maxHeartbeats 8000000 in
set_option maxRecDepth 100000 in
theorem S.unicode_utf8_decodeRuneInStringSlow_ok (p0_s : ByteArray) (K : Value → World → Prop) (w0 : World) (h : S.unicode_utf8_decodeRuneInStringSlow p0_s  K w0) :
    Calls Tryz.prog F.unicode_utf8_decodeRuneInStringSlow ⟨[.string p0_s]⟩ w0 fun e w' => ∃ v, e = .returned v ∧ K v w' :=
  calls_x (P := Tryz.prog) [0, 2, 3, 4, 5, 6, 7, 8, 9, 10, 11, 12, 16, 23, 45, 57, 59, 75, 77, 98] (by kernel_rfl) Tryz.func111 (by kernel_rfl) (Eq.mp (by kernel_rfl : S.unicode_utf8_decodeRuneInStringSlow p0_s  K w0 = xfn Tryz.prog [0, 2, 3, 4, 5, 6, 7, 8, 9, 10, 11, 12, 16, 23, 45, 57, 59, 75, 77, 98] Tryz.f111 [.string p0_s] K w0) h)

set_option maxRecDepth 100000 in
set_option maxHeartbeats 8000000 in
/-- 113 unicode/utf8.RuneStart -/
def S.unicode_utf8_RuneStart (p0_b : Int) (K : Value → World → Prop) (w0 : World) : Prop :=
  XLet (((ibits .and .u8 p0_b 192)) : Int) fun n1 => K (.bool ((n1 : Int) != 128)) w0

set_option maxHeartbeats 8000000 in
set_option maxRecDepth 100000 in
theorem S.unicode_utf8_RuneStart_ok (p0_b : Int) (K : Value → World → Prop) (w0 : World) (h : S.unicode_utf8_RuneStart p0_b  K w0) :
    Calls Tryz.prog F.unicode_utf8_RuneStart ⟨[.int .u8 p0_b]⟩ w0 fun e w' => ∃ v, e = .returned v ∧ K v w' :=
  calls_x (P := Tryz.prog) [0, 2] (by kernel_rfl) Tryz.func113 (by kernel_rfl) (Eq.mp (by kernel_rfl : S.unicode_utf8_RuneStart p0_b  K w0 = xfn Tryz.prog [0, 2] Tryz.f113 [.int .u8 p0_b] K w0) h)

set_option maxRecDepth 100000 in
set_option maxHeartbeats 8000000 in
/-- 115 barque/marks.turn -/
def S.marks_turn (p0_x : Int) (p1_n : Int) (K : Value → World → Prop) (w0 : World) : Prop :=
  XLet (((IntKind.wrap .i64 (0 - p1_n))) : Int) fun n1 => XCall Tryz.prog F.math_bits_RotateLeft32 [.int .u32 p0_x, .int .i64 n1] (.leaf (.int .u32)) w0 fun (x2 : Int) w3 => K (.int .u32 x2) w3

set_option maxHeartbeats 8000000 in
set_option maxRecDepth 100000 in
theorem S.marks_turn_ok (p0_x : Int) (p1_n : Int) (K : Value → World → Prop) (w0 : World) (h : S.marks_turn p0_x p1_n  K w0) :
    Calls Tryz.prog F.marks_turn ⟨[.int .u32 p0_x, .int .i64 p1_n]⟩ w0 fun e w' => ∃ v, e = .returned v ∧ K v w' :=
  calls_x (P := Tryz.prog) [0, 1, 4] (by kernel_rfl) Tryz.func115 (by kernel_rfl) (Eq.mp (by kernel_rfl : S.marks_turn p0_x p1_n  K w0 = xfn Tryz.prog [0, 1, 4] Tryz.f115 [.int .u32 p0_x, .int .i64 p1_n] K w0) h)

set_option maxRecDepth 100000 in
set_option maxHeartbeats 8000000 in
/-- 116 barque/marks.word -/
def S.marks_word (p0_w : Option Addr) (p1_i : Int) (K : Value → World → Prop) (w0 : World) : Prop :=
  XJoin (α := (Unit)) (fun s1 w2 => (16 : Int) ≠ 0 ∧ (XLet (((Int.tmod p1_i 16)) : Int) fun n4 => XNil p0_w fun a5 => ((0 : Int) ≤ n4 ∧ n4 < ((16 : Nat) : Int)) ∧ (XLoad (.int .u32) (Addr.add a5 ((Int.toNat n4) * 1)) w2 fun (x6 : Int) => K (.int .u32 x6) w2))) (fun J3 => XIf (decide ((p1_i : Int) ≥ 16)) (XLet (((IntKind.wrap .i64 (p1_i + 1))) : Int) fun n7 => (16 : Int) ≠ 0 ∧ (XLet (((Int.tmod n7 16)) : Int) fun n8 => XNil p0_w fun a9 => ((0 : Int) ≤ n8 ∧ n8 < ((16 : Nat) : Int)) ∧ (XLoad (.int .u32) (Addr.add a9 ((Int.toNat n8) * 1)) (World.drew w0) fun (x10 : Int) => XLet (((IntKind.wrap .i64 (p1_i + 14))) : Int) fun n11 => (16 : Int) ≠ 0 ∧ (XLet (((Int.tmod n11 16)) : Int) fun n12 => XNil p0_w fun a13 => ((0 : Int) ≤ n12 ∧ n12 < ((16 : Nat) : Int)) ∧ (XLoad (.int .u32) (Addr.add a13 ((Int.toNat n12) * 1)) (World.drew w0) fun (x14 : Int) => (16 : Int) ≠ 0 ∧ (XLet (((Int.tmod p1_i 16)) : Int) fun n15 => XNil p0_w fun a16 => ((0 : Int) ≤ n15 ∧ n15 < ((16 : Nat) : Int)) ∧ (XLoad (.int .u32) (Addr.add a16 ((Int.toNat n15) * 1)) (World.drew (World.drew w0)) fun (x17 : Int) => (0 : Int) ≤ 3 ∧ (XLet (((ishr .u32 x10 3)) : Int) fun n18 => XLet (((IntKind.wrap .i64 (p1_i + 9))) : Int) fun n19 => (16 : Int) ≠ 0 ∧ (XLet (((Int.tmod n19 16)) : Int) fun n20 => XNil p0_w fun a21 => ((0 : Int) ≤ n20 ∧ n20 < ((16 : Nat) : Int)) ∧ (XLoad (.int .u32) (Addr.add a21 ((Int.toNat n20) * 1)) (World.drew (World.drew w0)) fun (x22 : Int) => (0 : Int) ≤ 10 ∧ (XLet (((ishr .u32 x14 10)) : Int) fun n23 => XNil p0_w fun a24 => XCall Tryz.prog F.marks_turn [.int .u32 x10, .int .i64 7] (.leaf (.int .u32)) (World.drew (World.drew w0)) fun (x25 : Int) w26 => (World.cell? w26 (Addr.add a21 ((Int.toNat n20) * 1)) = some (Leaf.mk (.int .u32) x22)) ∧ ((World.cell? w26 (Addr.add a16 ((Int.toNat n15) * 1)) = some (Leaf.mk (.int .u32) x17)) ∧ (XCall Tryz.prog F.marks_turn [.int .u32 x10, .int .i64 18] (.leaf (.int .u32)) w26 fun (x27 : Int) w28 => (World.cell? w28 (Addr.add a21 ((Int.toNat n20) * 1)) = some (Leaf.mk (.int .u32) x22)) ∧ ((World.cell? w28 (Addr.add a16 ((Int.toNat n15) * 1)) = some (Leaf.mk (.int .u32) x17)) ∧ (XLet (((ibits .xor .u32 x25 x27)) : Int) fun n29 => XLet (((ibits .xor .u32 n29 n18)) : Int) fun n30 => XLet (((IntKind.wrap .u32 (n30 + x22))) : Int) fun n31 => XCall Tryz.prog F.marks_turn [.int .u32 x14, .int .i64 17] (.leaf (.int .u32)) w28 fun (x32 : Int) w33 => (World.cell? w33 (Addr.add a21 ((Int.toNat n20) * 1)) = some (Leaf.mk (.int .u32) x22)) ∧ ((World.cell? w33 (Addr.add a16 ((Int.toNat n15) * 1)) = some (Leaf.mk (.int .u32) x17)) ∧ (XCall Tryz.prog F.marks_turn [.int .u32 x14, .int .i64 19] (.leaf (.int .u32)) w33 fun (x34 : Int) w35 => (World.cell? w35 (Addr.add a21 ((Int.toNat n20) * 1)) = some (Leaf.mk (.int .u32) x22)) ∧ ((World.cell? w35 (Addr.add a16 ((Int.toNat n15) * 1)) = some (Leaf.mk (.int .u32) x17)) ∧ (XLet (((ibits .xor .u32 x32 x34)) : Int) fun n36 => XLet (((ibits .xor .u32 n36 n23)) : Int) fun n37 => XLet (((IntKind.wrap .u32 (n31 + n37))) : Int) fun n38 => XLet (((IntKind.wrap .u32 (x17 + n38))) : Int) fun n39 => ((0 : Int) ≤ n15 ∧ n15 < ((16 : Nat) : Int)) ∧ (XStore (Addr.add a24 ((Int.toNat n15) * 1)) (.int .u32 n39) w35 fun w40 => J3 () w40)))))))))))))))))))) (J3 () w0))

set_option maxHeartbeats 8000000 in
set_option maxRecDepth 100000 in
theorem S.marks_word_ok (p0_w : Option Addr) (p1_i : Int) (K : Value → World → Prop) (w0 : World) (h : S.marks_word p0_w p1_i  K w0) :
    Calls Tryz.prog F.marks_word ⟨[.pointer p0_w, .int .i64 p1_i]⟩ w0 fun e w' => ∃ v, e = .returned v ∧ K v w' :=
  calls_x (P := Tryz.prog) [0, 1, 4, 5, 6, 8] (by kernel_rfl) Tryz.func116 (by kernel_rfl) (Eq.mp (by kernel_rfl : S.marks_word p0_w p1_i  K w0 = xfn Tryz.prog [0, 1, 4, 5, 6, 8] Tryz.f116 [.pointer p0_w, .int .i64 p1_i] K w0) h)

set_option maxRecDepth 100000 in
set_option maxHeartbeats 8000000 in
/-- 117 strings.IndexByte -/
def S.strings_IndexByte (p0_s : ByteArray) (p1_c : Int) (K : Value → World → Prop) (w0 : World) : Prop :=
  XCall Tryz.prog F.internal_stringslite_IndexByte [.string p0_s, .int .u8 p1_c] (.leaf (.int .i64)) w0 fun (x1 : Int) w2 => K (.int .i64 x1) w2

set_option maxHeartbeats 8000000 in
set_option maxRecDepth 100000 in
theorem S.strings_IndexByte_ok (p0_s : ByteArray) (p1_c : Int) (K : Value → World → Prop) (w0 : World) (h : S.strings_IndexByte p0_s p1_c  K w0) :
    Calls Tryz.prog F.strings_IndexByte ⟨[.string p0_s, .int .u8 p1_c]⟩ w0 fun e w' => ∃ v, e = .returned v ∧ K v w' :=
  calls_x (P := Tryz.prog) [0, 1, 4] (by kernel_rfl) Tryz.func117 (by kernel_rfl) (Eq.mp (by kernel_rfl : S.strings_IndexByte p0_s p1_c  K w0 = xfn Tryz.prog [0, 1, 4] Tryz.f117 [.string p0_s, .int .u8 p1_c] K w0) h)

set_option maxRecDepth 100000 in
set_option maxHeartbeats 8000000 in
/-- 118 unicode/utf8.ValidRune -/
def S.unicode_utf8_ValidRune (p0_r : Int) (K : Value → World → Prop) (w0 : World) : Prop :=
  XJoin (α := (Bool × Unit)) (fun s1 w2 => XIf s1.1 (K (.bool true) w2) (XJoin (α := (Bool × Unit)) (fun s4 w5 => XIf s4.1 (K (.bool true) w5) (K (.bool false) w5)) (fun J6 => XIf (decide ((57343 : Int) < p0_r)) (J6 ((decide ((p0_r : Int) ≤ 1114111)), ()) w2) (J6 (false, ()) w2)))) (fun J3 => XIf (decide ((0 : Int) ≤ p0_r)) (J3 ((decide ((p0_r : Int) < 55296)), ()) w0) (J3 (false, ()) w0))

set_option maxHeartbeats 8000000 in
set_option maxRecDepth 100000 in
theorem S.unicode_utf8_ValidRune_ok (p0_r : Int) (K : Value → World → Prop) (w0 : World) (h : S.unicode_utf8_ValidRune p0_r  K w0) :
    Calls Tryz.prog F.unicode_utf8_ValidRune ⟨[.int .i32 p0_r]⟩ w0 fun e w' => ∃ v, e = .returned v ∧ K v w' :=
  calls_x (P := Tryz.prog) [0, 2, 3, 10] (by kernel_rfl) Tryz.func118 (by kernel_rfl) (Eq.mp (by kernel_rfl : S.unicode_utf8_ValidRune p0_r  K w0 = xfn Tryz.prog [0, 2, 3, 10] Tryz.f118 [.int .i32 p0_r] K w0) h)

set_option maxRecDepth 100000 in
set_option maxHeartbeats 8000000 in
/-- 119 internal/bytealg.Cutover -/
def S.internal_bytealg_Cutover (p0_n : Int) (K : Value → World → Prop) (w0 : World) : Prop :=
  XLet (((IntKind.wrap .i64 (p0_n + 16))) : Int) fun n1 => (8 : Int) ≠ 0 ∧ (XLet (((IntKind.wrap .i64 (Int.tdiv n1 8))) : Int) fun n2 => K (.int .i64 n2) w0)

set_option maxHeartbeats 8000000 in
set_option maxRecDepth 100000 in
theorem S.internal_bytealg_Cutover_ok (p0_n : Int) (K : Value → World → Prop) (w0 : World) (h : S.internal_bytealg_Cutover p0_n  K w0) :
    Calls Tryz.prog F.internal_bytealg_Cutover ⟨[.int .i64 p0_n]⟩ w0 fun e w' => ∃ v, e = .returned v ∧ K v w' :=
  calls_x (P := Tryz.prog) [0, 2] (by kernel_rfl) Tryz.func119 (by kernel_rfl) (Eq.mp (by kernel_rfl : S.internal_bytealg_Cutover p0_n  K w0 = xfn Tryz.prog [0, 2] Tryz.f119 [.int .i64 p0_n] K w0) h)

set_option maxRecDepth 100000 in
set_option maxHeartbeats 8000000 in
/-- 121 math/bits.RotateLeft32 -/
def S.math_bits_RotateLeft32 (p0_x : Int) (p1_k : Int) (K : Value → World → Prop) (w0 : World) : Prop :=
  XLet (((IntKind.wrap .u64 (p1_k))) : Int) fun n1 => XLet (((ibits .and .u64 n1 31)) : Int) fun n2 => (0 : Int) ≤ n2 ∧ (XLet (((ishl .u32 p0_x n2)) : Int) fun n3 => XLet (((IntKind.wrap .u64 (32 - n2))) : Int) fun n4 => (0 : Int) ≤ n4 ∧ (XLet (((ishr .u32 p0_x n4)) : Int) fun n5 => XLet (((ibits .or .u32 n3 n5)) : Int) fun n6 => K (.int .u32 n6) w0))

set_option maxHeartbeats 8000000 in
set_option maxRecDepth 100000 in
theorem S.math_bits_RotateLeft32_ok (p0_x : Int) (p1_k : Int) (K : Value → World → Prop) (w0 : World) (h : S.math_bits_RotateLeft32 p0_x p1_k  K w0) :
    Calls Tryz.prog F.math_bits_RotateLeft32 ⟨[.int .u32 p0_x, .int .i64 p1_k]⟩ w0 fun e w' => ∃ v, e = .returned v ∧ K v w' :=
  calls_x (P := Tryz.prog) [0, 1, 4, 5] (by kernel_rfl) Tryz.func121 (by kernel_rfl) (Eq.mp (by kernel_rfl : S.math_bits_RotateLeft32 p0_x p1_k  K w0 = xfn Tryz.prog [0, 1, 4, 5] Tryz.f121 [.int .u32 p0_x, .int .i64 p1_k] K w0) h)

set_option maxRecDepth 100000 in
set_option maxHeartbeats 8000000 in
/-- 122 internal/stringslite.IndexByte -/
def S.internal_stringslite_IndexByte (p0_s : ByteArray) (p1_c : Int) (K : Value → World → Prop) (w0 : World) : Prop :=
  XDo Tryz.prog (extRun Tryz.prog F.internal_bytealg_IndexByteString ⟨[.string p0_s, .int .u8 p1_c]⟩) (.leaf (.int .i64)) w0 fun (x1 : Int) w2 => K (.int .i64 x1) w2

set_option maxHeartbeats 8000000 in
set_option maxRecDepth 100000 in
theorem S.internal_stringslite_IndexByte_ok (p0_s : ByteArray) (p1_c : Int) (K : Value → World → Prop) (w0 : World) (h : S.internal_stringslite_IndexByte p0_s p1_c  K w0) :
    Calls Tryz.prog F.internal_stringslite_IndexByte ⟨[.string p0_s, .int .u8 p1_c]⟩ w0 fun e w' => ∃ v, e = .returned v ∧ K v w' :=
  calls_x (P := Tryz.prog) [0, 1, 4] (by kernel_rfl) Tryz.func122 (by kernel_rfl) (Eq.mp (by kernel_rfl : S.internal_stringslite_IndexByte p0_s p1_c  K w0 = xfn Tryz.prog [0, 1, 4] Tryz.f122 [.string p0_s, .int .u8 p1_c] K w0) h)

set_option maxRecDepth 100000 in
set_option maxHeartbeats 8000000 in
/-- 146 gosem.cut.vars -/
def S.gosem_cut_vars (K : Value → World → Prop) (w0 : World) : Prop :=
  XStores ⟨2, 0, none⟩ 0 ([.int .u8 128, .int .u8 191, .int .u8 160, .int .u8 191, .int .u8 128, .int .u8 159, .int .u8 144, .int .u8 191, .int .u8 128, .int .u8 143] ++ List.replicate 22 (.int .u8 0)) w0 fun w1 => K (.tuple ⟨[]⟩) w1

set_option maxHeartbeats 8000000 in
set_option maxRecDepth 100000 in
theorem S.gosem_cut_vars_ok (K : Value → World → Prop) (w0 : World) (h : S.gosem_cut_vars   K w0) :
    Calls Tryz.prog F.gosem_cut_vars ⟨[]⟩ w0 fun e w' => ∃ v, e = .returned v ∧ K v w' :=
  calls_x (P := Tryz.prog) [] (by kernel_rfl) Tryz.func146 (by kernel_rfl) (Eq.mp (by kernel_rfl : S.gosem_cut_vars   K w0 = xfn Tryz.prog [] Tryz.f146 [] K w0) h)

end Go.X
