/- What is to be shown for each function, and the row that ties it to the function's code. -/
import Derived.Test.YthljhmjigpfpnaaSIds
set_option linter.unusedVariables false
namespace Go.X
open Go.Proofs

/-- 62 (*barque/disk.Disk).place$1 -/
def S.disk_Disk_place_1 (p0_f : Option Addr) (p1_s : ByteArray) (K : Value → World → Prop) (w0 : World) : Prop :=
  XNil p0_f fun a1 => XLoad .str (Addr.add a1 1) w0 fun (x2 : ByteArray) => XCall Try.prog F.strings_Compare [.string x2, .string p1_s] (.leaf (.int .i64)) w0 fun (x3 : Int) w4 => K (.int .i64 x3) w4

set_option maxHeartbeats 8000000 in
set_option maxRecDepth 100000 in
theorem S.disk_Disk_place_1_ok (p0_f : Option Addr) (p1_s : ByteArray) (K : Value → World → Prop) (w0 : World) (h : S.disk_Disk_place_1 p0_f p1_s  K w0) :
    Calls Try.prog F.disk_Disk_place_1 ⟨[.pointer p0_f, .string p1_s]⟩ w0 fun e w' => ∃ v, e = .returned v ∧ K v w' :=
  calls_x (P := Try.prog) [0, 1, 4] (by kernel_rfl) Try.func62 (by kernel_rfl) (Eq.mp (by kernel_rfl : S.disk_Disk_place_1 p0_f p1_s  K w0 = xfn Try.prog [0, 1, 4] Try.f62 [.pointer p0_f, .string p1_s] K w0) h)

/-- 63 strings.Compare -/
def S.strings_Compare (p0_a : ByteArray) (p1_b : ByteArray) (K : Value → World → Prop) (w0 : World) : Prop :=
  XCall Try.prog F.internal_bytealg_CompareString [.string p0_a, .string p1_b] (.leaf (.int .i64)) w0 fun (x1 : Int) w2 => K (.int .i64 x1) w2

set_option maxHeartbeats 8000000 in
set_option maxRecDepth 100000 in
theorem S.strings_Compare_ok (p0_a : ByteArray) (p1_b : ByteArray) (K : Value → World → Prop) (w0 : World) (h : S.strings_Compare p0_a p1_b  K w0) :
    Calls Try.prog F.strings_Compare ⟨[.string p0_a, .string p1_b]⟩ w0 fun e w' => ∃ v, e = .returned v ∧ K v w' :=
  calls_x (P := Try.prog) [0, 1, 4] (by kernel_rfl) Try.func63 (by kernel_rfl) (Eq.mp (by kernel_rfl : S.strings_Compare p0_a p1_b  K w0 = xfn Try.prog [0, 1, 4] Try.f63 [.string p0_a, .string p1_b] K w0) h)

/-- 65 slices.rotateRight[*barque/disk.file] -/
def S.slices_rotateRight (p0_s : Sl) (p1_r : Int) (K : Value → World → Prop) (w0 : World) : Prop :=
  XLet (((IntKind.wrap .i64 (((p0_s.len : Nat) : Int) - p1_r))) : Int) fun n1 => XCalls Try.prog F.slices_rotateLeft [.slice p0_s.a p0_s.len p0_s.cap, .int .i64 n1] [] w0 fun x2 w3 => K (.tuple ⟨[]⟩) w3

set_option maxHeartbeats 8000000 in
set_option maxRecDepth 100000 in
theorem S.slices_rotateRight_ok (p0_s : Sl) (p1_r : Int) (K : Value → World → Prop) (w0 : World) (h : S.slices_rotateRight p0_s p1_r  K w0) :
    Calls Try.prog F.slices_rotateRight ⟨[.slice p0_s.a p0_s.len p0_s.cap, .int .i64 p1_r]⟩ w0 fun e w' => ∃ v, e = .returned v ∧ K v w' :=
  calls_x (P := Try.prog) [0, 1] (by kernel_rfl) Try.func65 (by kernel_rfl) (Eq.mp (by kernel_rfl : S.slices_rotateRight p0_s p1_r  K w0 = xfn Try.prog [0, 1] Try.f65 [.slice p0_s.a p0_s.len p0_s.cap, .int .i64 p1_r] K w0) h)

/-- 66 barque/barqueref14.Name -/
def S.barqueref14_Name (p0_s : ByteArray) (K : Value → World → Prop) (w0 : World) : Prop :=
  XLoop (α := (Bool × Int × Unit)) (fun next3 s1 w2 => XIf (decide ((s1.2.1 : Int) < (((ByteArray.size p0_s) : Nat) : Int))) (XJoin (α := (Bool × Unit)) (fun s4 w5 => XIf s4.1 (K (.bool false) w5) (XLet (((IntKind.wrap .i64 (s1.2.1 + 1))) : Int) fun n7 => next3 (s1.1, (n7, ())) w5)) (fun J6 => ((0 : Int) ≤ s1.2.1 ∧ s1.2.1 < ((ByteArray.size p0_s : Nat) : Int)) ∧ (XLet ((((UInt8.toNat (List.getD (ByteArray.data p0_s).toList (Int.toNat s1.2.1) 0) : Nat) : Int)) : Int) fun n8 => XIf (decide ((n8 : Int) < 33)) (J6 (true, ()) w2) (((0 : Int) ≤ s1.2.1 ∧ s1.2.1 < ((ByteArray.size p0_s : Nat) : Int)) ∧ (XLet ((((UInt8.toNat (List.getD (ByteArray.data p0_s).toList (Int.toNat s1.2.1) 0) : Nat) : Int)) : Int) fun n9 => J6 ((decide ((n9 : Int) > 126)), ()) w2))))) (XJoin (α := (Bool × Unit)) (fun s10 w11 => K (.bool s10.1) w11) (fun J12 => XIf (!sEq p0_s ByteArray.empty) (J12 ((decide (((((ByteArray.size p0_s) : Nat) : Int) : Int) ≤ 24)), ()) w2) (J12 (false, ()) w2)))) (false, (0, ())) w0

set_option maxHeartbeats 8000000 in
set_option maxRecDepth 100000 in
theorem S.barqueref14_Name_ok (p0_s : ByteArray) (K : Value → World → Prop) (w0 : World) (h : S.barqueref14_Name p0_s  K w0) :
    Calls Try.prog F.barqueref14_Name ⟨[.string p0_s]⟩ w0 fun e w' => ∃ v, e = .returned v ∧ K v w' :=
  calls_x (P := Try.prog) [0, 2, 3, 7, 19] (by kernel_rfl) Try.func66 (by kernel_rfl) (Eq.mp (by kernel_rfl : S.barqueref14_Name p0_s  K w0 = xfn Try.prog [0, 2, 3, 7, 19] Try.f66 [.string p0_s] K w0) h)

/-- 67 (*barque/barqueref14.Disk).find -/
def S.barqueref14_Disk_find (p0_d : Option Addr) (p1_name : ByteArray) (K : Value → World → Prop) (w0 : World) : Prop :=
  XLoop (α := (Int × Int × Unit)) (fun next3 s1 w2 => XNil p0_d fun a4 => XLoad .slice a4 w2 fun (x5 : Sl) => XIf (decide ((s1.2.1 : Int) < ((x5.len : Nat) : Int))) (XNil p0_d fun a6 => XLoad .slice a6 w2 fun (x7 : Sl) => XNil x7.a fun a8 => ((0 : Int) ≤ s1.2.1 ∧ s1.2.1 < ((x7.len : Nat) : Int)) ∧ (XLoad .str (Addr.add (Addr.add a8 ((Int.toNat s1.2.1) * 4)) 1) w2 fun (x9 : ByteArray) => XIf (sEq x9 p1_name) (K (.int .i64 s1.2.1) w2) (XLet (((IntKind.wrap .i64 (s1.2.1 + 1))) : Int) fun n10 => next3 (s1.1, (n10, ())) w2))) (K (.int .i64 (-1)) w2)) (0, (0, ())) w0

set_option maxHeartbeats 8000000 in
set_option maxRecDepth 100000 in
theorem S.barqueref14_Disk_find_ok (p0_d : Option Addr) (p1_name : ByteArray) (K : Value → World → Prop) (w0 : World) (h : S.barqueref14_Disk_find p0_d p1_name  K w0) :
    Calls Try.prog F.barqueref14_Disk_find ⟨[.pointer p0_d, .string p1_name]⟩ w0 fun e w' => ∃ v, e = .returned v ∧ K v w' :=
  calls_x (P := Try.prog) [0, 1, 4, 5, 12, 24] (by kernel_rfl) Try.func67 (by kernel_rfl) (Eq.mp (by kernel_rfl : S.barqueref14_Disk_find p0_d p1_name  K w0 = xfn Try.prog [0, 1, 4, 5, 12, 24] Try.f67 [.pointer p0_d, .string p1_name] K w0) h)

/-- 68 barque/barqueref14.taken -/
def S.barqueref14_taken (p0_n : Int) (K : Value → World → Prop) (w0 : World) : Prop :=
  XLet (((IntKind.wrap .i64 (p0_n + 63))) : Int) fun n1 => (64 : Int) ≠ 0 ∧ (XLet (((IntKind.wrap .i64 (Int.tdiv n1 64))) : Int) fun n2 => K (.int .i64 n2) w0)

set_option maxHeartbeats 8000000 in
set_option maxRecDepth 100000 in
theorem S.barqueref14_taken_ok (p0_n : Int) (K : Value → World → Prop) (w0 : World) (h : S.barqueref14_taken p0_n  K w0) :
    Calls Try.prog F.barqueref14_taken ⟨[.int .i64 p0_n]⟩ w0 fun e w' => ∃ v, e = .returned v ∧ K v w' :=
  calls_x (P := Try.prog) [0, 2] (by kernel_rfl) Try.func68 (by kernel_rfl) (Eq.mp (by kernel_rfl : S.barqueref14_taken p0_n  K w0 = xfn Try.prog [0, 2] Try.f68 [.int .i64 p0_n] K w0) h)

/-- 69 barque/barqueref14.takes -/
def S.barqueref14_takes (p0_f : HL [(.int .i64), .str, .str, .str]) (K : Value → World → Prop) (w0 : World) : Prop :=
  XNew 94 [.int .i64 p0_f.1, .string p0_f.2.1, .string p0_f.2.2.1, .string p0_f.2.2.2.1] w0 fun a1 w2 => XLoad .str (Addr.add a1 3) w2 fun (x3 : ByteArray) => XLoad .str (Addr.add a1 2) w2 fun (x4 : ByteArray) => XIf (decide (((((ByteArray.size x3) : Nat) : Int) : Int) > (((ByteArray.size x4) : Nat) : Int))) (XLoad .str (Addr.add a1 3) w2 fun (x5 : ByteArray) => XCall Try.prog F.barqueref14_taken [.int .i64 (((ByteArray.size x5) : Nat) : Int)] (.leaf (.int .i64)) w2 fun (x6 : Int) w7 => K (.int .i64 x6) w7) (XLoad .str (Addr.add a1 2) w2 fun (x8 : ByteArray) => XCall Try.prog F.barqueref14_taken [.int .i64 (((ByteArray.size x8) : Nat) : Int)] (.leaf (.int .i64)) w2 fun (x9 : Int) w10 => K (.int .i64 x9) w10)

set_option maxHeartbeats 8000000 in
set_option maxRecDepth 100000 in
theorem S.barqueref14_takes_ok (p0_f : HL [(.int .i64), .str, .str, .str]) (K : Value → World → Prop) (w0 : World) (h : S.barqueref14_takes p0_f  K w0) :
    Calls Try.prog F.barqueref14_takes ⟨[.agg ⟨[.int .i64 p0_f.1, .string p0_f.2.1, .string p0_f.2.2.1, .string p0_f.2.2.2.1]⟩]⟩ w0 fun e w' => ∃ v, e = .returned v ∧ K v w' :=
  calls_x (P := Try.prog) [0, 1, 2, 9] (by kernel_rfl) Try.func69 (by kernel_rfl) (Eq.mp (by kernel_rfl : S.barqueref14_takes p0_f  K w0 = xfn Try.prog [0, 1, 2, 9] Try.f69 [.agg ⟨[.int .i64 p0_f.1, .string p0_f.2.1, .string p0_f.2.2.1, .string p0_f.2.2.2.1]⟩] K w0) h)

/-- 70 barque/barqueref14.laid -/
def S.barqueref14_laid (p0_s : ByteArray) (p1_at : Int) (p2_t : ByteArray) (K : Value → World → Prop) (w0 : World) : Prop :=
  XJoin (α := (ByteArray × Unit)) (fun s1 w2 => XLet (((IntKind.wrap .i64 (p1_at + (((ByteArray.size p2_t) : Nat) : Int)))) : Int) fun n4 => XIf (decide ((n4 : Int) ≥ (((ByteArray.size s1.1) : Nat) : Int))) ((((0 : Int) ≤ p1_at ∧ p1_at ≤ (((ByteArray.size s1.1) : Nat) : Int)) ∧ (0 : Int) ≤ 0 ∧ (0 : Int) ≤ p1_at) ∧ (XLet (((ByteArray.extract s1.1 0 (Int.toNat p1_at))) : ByteArray) fun t5 => (((ByteArray.size t5 + ByteArray.size p2_t : Nat) : Int) ≤ IntKind.i64.max) ∧ (XLet (((t5 ++ p2_t : ByteArray)) : ByteArray) fun t6 => K (.string t6) w2))) ((((0 : Int) ≤ p1_at ∧ p1_at ≤ (((ByteArray.size s1.1) : Nat) : Int)) ∧ (0 : Int) ≤ 0 ∧ (0 : Int) ≤ p1_at) ∧ (XLet (((ByteArray.extract s1.1 0 (Int.toNat p1_at))) : ByteArray) fun t7 => (((ByteArray.size t7 + ByteArray.size p2_t : Nat) : Int) ≤ IntKind.i64.max) ∧ (XLet (((t7 ++ p2_t : ByteArray)) : ByteArray) fun t8 => XLet (((IntKind.wrap .i64 (p1_at + (((ByteArray.size p2_t) : Nat) : Int)))) : Int) fun n9 => (((0 : Int) ≤ (((ByteArray.size s1.1) : Nat) : Int) ∧ (((ByteArray.size s1.1) : Nat) : Int) ≤ (((ByteArray.size s1.1) : Nat) : Int)) ∧ (0 : Int) ≤ n9 ∧ (n9 : Int) ≤ (((ByteArray.size s1.1) : Nat) : Int)) ∧ (XLet (((ByteArray.extract s1.1 (Int.toNat n9) (Int.toNat (((ByteArray.size s1.1) : Nat) : Int)))) : ByteArray) fun t10 => (((ByteArray.size t8 + ByteArray.size t10 : Nat) : Int) ≤ IntKind.i64.max) ∧ (XLet (((t8 ++ t10 : ByteArray)) : ByteArray) fun t11 => K (.string t11) (World.drew w2))))))) (fun J3 => XIf (decide ((p1_at : Int) > (((ByteArray.size p0_s) : Nat) : Int))) (XLet (((IntKind.wrap .i64 (p1_at - (((ByteArray.size p0_s) : Nat) : Int)))) : Int) fun n12 => XDo Try.prog (Instr.makeSlice 32 (.int .i64 n12) (.int .i64 n12)) (.leaf .slice) w0 fun (x13 : Sl) w14 => XBytes x13.a x13.len w14 fun x15 => (((ByteArray.size p0_s + ByteArray.size x15 : Nat) : Int) ≤ IntKind.i64.max) ∧ (XLet (((p0_s ++ x15 : ByteArray)) : ByteArray) fun t16 => J3 (t16, ()) w14)) (J3 (p0_s, ()) w0))

set_option maxHeartbeats 8000000 in
set_option maxRecDepth 100000 in
theorem S.barqueref14_laid_ok (p0_s : ByteArray) (p1_at : Int) (p2_t : ByteArray) (K : Value → World → Prop) (w0 : World) (h : S.barqueref14_laid p0_s p1_at p2_t  K w0) :
    Calls Try.prog F.barqueref14_laid ⟨[.string p0_s, .int .i64 p1_at, .string p2_t]⟩ w0 fun e w' => ∃ v, e = .returned v ∧ K v w' :=
  calls_x (P := Try.prog) [0, 1, 2, 6, 10, 25] (by kernel_rfl) Try.func70 (by kernel_rfl) (Eq.mp (by kernel_rfl : S.barqueref14_laid p0_s p1_at p2_t  K w0 = xfn Try.prog [0, 1, 2, 6, 10, 25] Try.f70 [.string p0_s, .int .i64 p1_at, .string p2_t] K w0) h)

/-- 71 (*barque/barqueref14.Disk).lasts -/
def S.barqueref14_Disk_lasts (p0_d : Option Addr) (p1_p : HL [(.int .i64), (.int .i64), .str]) (p2_n : Int) (K : Value → World → Prop) (w0 : World) : Prop :=
  XNew 96 [.int .i64 p1_p.1, .int .i64 p1_p.2.1, .string p1_p.2.2.1] w0 fun a1 w2 => XLoop (α := (Int × Unit)) (fun next5 s3 w4 => XNil p0_d fun a6 => XLoad .slice a6 w4 fun (x7 : Sl) => XIf (decide ((s3.1 : Int) < ((x7.len : Nat) : Int))) (XJoin (α := (Unit)) (fun s8 w9 => XLet (((IntKind.wrap .i64 (s3.1 + 1))) : Int) fun n11 => next5 (n11, ()) w9) (fun J10 => XJoin (α := (Bool × Unit)) (fun s12 w13 => XIf s12.1 (XNil p0_d fun a15 => XLoad .slice a15 (World.drew w13) fun (x16 : Sl) => XNil p0_d fun a17 => XLoad .slice a17 (World.drew w13) fun (x18 : Sl) => XNil x18.a fun a19 => ((0 : Int) ≤ s3.1 ∧ s3.1 < ((x18.len : Nat) : Int)) ∧ (XLoad .str (Addr.add (Addr.add a19 ((Int.toNat s3.1) * 4)) 2) (World.drew w13) fun (x20 : ByteArray) => XLoad (.int .i64) (Addr.add a1 1) (World.drew w13) fun (x21 : Int) => XLoad .str (Addr.add a1 2) (World.drew w13) fun (x22 : ByteArray) => (((0 : Int) ≤ p2_n ∧ p2_n ≤ (((ByteArray.size x22) : Nat) : Int)) ∧ (0 : Int) ≤ 0 ∧ (0 : Int) ≤ p2_n) ∧ (XLet (((ByteArray.extract x22 0 (Int.toNat p2_n))) : ByteArray) fun t23 => XCall Try.prog F.barqueref14_laid [.string x20, .int .i64 x21, .string t23] (.leaf .str) (World.drew w13) fun (x24 : ByteArray) w25 => (World.cell? w25 (Addr.add a1 2) = some (Leaf.mk .str x22)) ∧ ((World.cell? w25 a17 = some (Leaf.mk .slice x18)) ∧ ((World.cell? w25 a15 = some (Leaf.mk .slice x16)) ∧ (XNil x16.a fun a26 => ((0 : Int) ≤ s3.1 ∧ s3.1 < ((x16.len : Nat) : Int)) ∧ (XStore (Addr.add (Addr.add a26 ((Int.toNat s3.1) * 4)) 2) (.string x24) w25 fun w27 => J10 () w27))))))) (J10 () w13)) (fun J14 => XNil p0_d fun a28 => XLoad .slice a28 (World.drew w4) fun (x29 : Sl) => XNil x29.a fun a30 => ((0 : Int) ≤ s3.1 ∧ s3.1 < ((x29.len : Nat) : Int)) ∧ (XLoad (.int .i64) (Addr.add a30 ((Int.toNat s3.1) * 4)) (World.drew w4) fun (x31 : Int) => XLoad (.int .i64) a1 (World.drew w4) fun (x32 : Int) => XIf ((x31 : Int) == x32) (J14 ((decide ((p2_n : Int) > 0)), ()) (World.drew w4)) (J14 (false, ()) (World.drew w4)))))) (K (.tuple ⟨[]⟩) w4)) (0, ()) w2

set_option maxHeartbeats 8000000 in
set_option maxRecDepth 100000 in
theorem S.barqueref14_Disk_lasts_ok (p0_d : Option Addr) (p1_p : HL [(.int .i64), (.int .i64), .str]) (p2_n : Int) (K : Value → World → Prop) (w0 : World) (h : S.barqueref14_Disk_lasts p0_d p1_p p2_n  K w0) :
    Calls Try.prog F.barqueref14_Disk_lasts ⟨[.pointer p0_d, .agg ⟨[.int .i64 p1_p.1, .int .i64 p1_p.2.1, .string p1_p.2.2.1]⟩, .int .i64 p2_n]⟩ w0 fun e w' => ∃ v, e = .returned v ∧ K v w' :=
  calls_x (P := Try.prog) [0, 1, 2, 4, 6, 13, 30] (by kernel_rfl) Try.func71 (by kernel_rfl) (Eq.mp (by kernel_rfl : S.barqueref14_Disk_lasts p0_d p1_p p2_n  K w0 = xfn Try.prog [0, 1, 2, 4, 6, 13, 30] Try.f71 [.pointer p0_d, .agg ⟨[.int .i64 p1_p.1, .int .i64 p1_p.2.1, .string p1_p.2.2.1]⟩, .int .i64 p2_n] K w0) h)

/-- 72 barque/barqueref14.bent -/
def S.barqueref14_bent (p0_s : ByteArray) (p1_at : Int) (p2_by : Int) (K : Value → World → Prop) (w0 : World) : Prop :=
  XDo Try.prog (convert 9 32 (.string p0_s)) (.leaf .slice) w0 fun (x1 : Sl) w2 => XNil x1.a fun a3 => ((0 : Int) ≤ p1_at ∧ p1_at < ((x1.len : Nat) : Int)) ∧ (XLoad (.int .u8) (Addr.add a3 ((Int.toNat p1_at) * 1)) w2 fun (x4 : Int) => XLet (((IntKind.wrap .u8 (p2_by))) : Int) fun n5 => XLet (((ibits .xor .u8 x4 n5)) : Int) fun n6 => XNil x1.a fun a7 => ((0 : Int) ≤ p1_at ∧ p1_at < ((x1.len : Nat) : Int)) ∧ (XStore (Addr.add a7 ((Int.toNat p1_at) * 1)) (.int .u8 n6) w2 fun w8 => XBytes x1.a x1.len w8 fun x9 => K (.string x9) w8))

set_option maxHeartbeats 8000000 in
set_option maxRecDepth 100000 in
theorem S.barqueref14_bent_ok (p0_s : ByteArray) (p1_at : Int) (p2_by : Int) (K : Value → World → Prop) (w0 : World) (h : S.barqueref14_bent p0_s p1_at p2_by  K w0) :
    Calls Try.prog F.barqueref14_bent ⟨[.string p0_s, .int .i64 p1_at, .int .i64 p2_by]⟩ w0 fun e w' => ∃ v, e = .returned v ∧ K v w' :=
  calls_x (P := Try.prog) [0, 1, 2, 6, 7] (by kernel_rfl) Try.func72 (by kernel_rfl) (Eq.mp (by kernel_rfl : S.barqueref14_bent p0_s p1_at p2_by  K w0 = xfn Try.prog [0, 1, 2, 6, 7] Try.f72 [.string p0_s, .int .i64 p1_at, .int .i64 p2_by] K w0) h)

/-- 73 slices.IndexFunc[[]barque/disk.write,barque/disk.write] -/
def S.slices_IndexFunc (p0_s : Sl) (p1_f : Value) (K : Value → World → Prop) (w0 : World) : Prop :=
  XLoop (α := (Int × Int × Unit)) (fun next3 s1 w2 => XIf (decide ((s1.2.1 : Int) < ((p0_s.len : Nat) : Int))) (XNil p0_s.a fun a4 => ((0 : Int) ≤ s1.2.1 ∧ s1.2.1 < ((p0_s.len : Nat) : Int)) ∧ (XLoads [(.int .i64), (.int .i64), (.int .i64), .str] (Addr.add a4 ((Int.toNat s1.2.1) * 4)) w2 fun (x5 : (Int × Int × Int × ByteArray × Unit)) => XCallV Try.prog (p1_f) [.agg ⟨[.int .i64 x5.1, .int .i64 x5.2.1, .int .i64 x5.2.2.1, .string x5.2.2.2.1]⟩] (.leaf .bool) w2 fun (x6 : Bool) w7 => XIf x6 (K (.int .i64 s1.2.1) w7) (XLet (((IntKind.wrap .i64 (s1.2.1 + 1))) : Int) fun n8 => next3 (s1.1, (n8, ())) w7))) (K (.int .i64 (-1)) w2)) (0, (0, ())) w0

set_option maxHeartbeats 8000000 in
set_option maxRecDepth 100000 in
theorem S.slices_IndexFunc_ok (p0_s : Sl) (p1_f : Value) (K : Value → World → Prop) (w0 : World) (h : S.slices_IndexFunc p0_s p1_f  K w0) :
    Calls Try.prog F.slices_IndexFunc ⟨[.slice p0_s.a p0_s.len p0_s.cap, p1_f]⟩ w0 fun e w' => ∃ v, e = .returned v ∧ K v w' :=
  calls_x (P := Try.prog) [0, 1, 4, 5, 7, 8, 9, 16] (by kernel_rfl) Try.func73 (by kernel_rfl) (Eq.mp (by kernel_rfl : S.slices_IndexFunc p0_s p1_f  K w0 = xfn Try.prog [0, 1, 4, 5, 7, 8, 9, 16] Try.f73 [.slice p0_s.a p0_s.len p0_s.cap, p1_f] K w0) h)

/-- 74 internal/bytealg.CompareString -/
def S.internal_bytealg_CompareString (p0_a : ByteArray) (p1_b : ByteArray) (K : Value → World → Prop) (w0 : World) : Prop :=
  XDo Try.prog (extRun Try.prog F.internal_bytealg_abigen_runtime_cmpstring ⟨[.string p0_a, .string p1_b]⟩) (.leaf (.int .i64)) w0 fun (x1 : Int) w2 => K (.int .i64 x1) w2

set_option maxHeartbeats 8000000 in
set_option maxRecDepth 100000 in
theorem S.internal_bytealg_CompareString_ok (p0_a : ByteArray) (p1_b : ByteArray) (K : Value → World → Prop) (w0 : World) (h : S.internal_bytealg_CompareString p0_a p1_b  K w0) :
    Calls Try.prog F.internal_bytealg_CompareString ⟨[.string p0_a, .string p1_b]⟩ w0 fun e w' => ∃ v, e = .returned v ∧ K v w' :=
  calls_x (P := Try.prog) [0, 1, 4] (by kernel_rfl) Try.func74 (by kernel_rfl) (Eq.mp (by kernel_rfl : S.internal_bytealg_CompareString p0_a p1_b  K w0 = xfn Try.prog [0, 1, 4] Try.f74 [.string p0_a, .string p1_b] K w0) h)

/-- 75 slices.rotateLeft[*barque/disk.file] -/
def S.slices_rotateLeft (p0_s : Sl) (p1_r : Int) (K : Value → World → Prop) (w0 : World) : Prop :=
  (((0 : Int) ≤ p1_r ∧ p1_r ≤ ((p0_s.cap : Nat) : Int)) ∧ (0 : Int) ≤ 0 ∧ (0 : Int) ≤ p1_r) ∧ (XLet ((⟨(if p0_s.cap = 0 then p0_s.a else Option.map (fun b => Addr.add b (0 * 1)) p0_s.a), ((Int.toNat p1_r) - 0), (p0_s.cap - 0)⟩) : Sl) fun s1 => XCalls Try.prog F.slices_Reverse [.slice s1.a s1.len s1.cap] [] w0 fun x2 w3 => (((0 : Int) ≤ ((p0_s.len : Nat) : Int) ∧ ((p0_s.len : Nat) : Int) ≤ ((p0_s.len : Nat) : Int)) ∧ (0 : Int) ≤ p1_r ∧ (p1_r : Int) ≤ ((p0_s.len : Nat) : Int)) ∧ (XLet ((⟨(if p0_s.cap = (Int.toNat p1_r) then p0_s.a else Option.map (fun b => Addr.add b ((Int.toNat p1_r) * 1)) p0_s.a), ((Int.toNat ((p0_s.len : Nat) : Int)) - (Int.toNat p1_r)), (p0_s.cap - (Int.toNat p1_r))⟩) : Sl) fun s4 => XCalls Try.prog F.slices_Reverse [.slice s4.a s4.len s4.cap] [] w3 fun x5 w6 => XCalls Try.prog F.slices_Reverse [.slice p0_s.a p0_s.len p0_s.cap] [] w6 fun x7 w8 => K (.tuple ⟨[]⟩) w8))

set_option maxHeartbeats 8000000 in
set_option maxRecDepth 100000 in
theorem S.slices_rotateLeft_ok (p0_s : Sl) (p1_r : Int) (K : Value → World → Prop) (w0 : World) (h : S.slices_rotateLeft p0_s p1_r  K w0) :
    Calls Try.prog F.slices_rotateLeft ⟨[.slice p0_s.a p0_s.len p0_s.cap, .int .i64 p1_r]⟩ w0 fun e w' => ∃ v, e = .returned v ∧ K v w' :=
  calls_x (P := Try.prog) [0, 1] (by kernel_rfl) Try.func75 (by kernel_rfl) (Eq.mp (by kernel_rfl : S.slices_rotateLeft p0_s p1_r  K w0 = xfn Try.prog [0, 1] Try.f75 [.slice p0_s.a p0_s.len p0_s.cap, .int .i64 p1_r] K w0) h)

/-- 77 slices.Reverse[[]*barque/disk.file,*barque/disk.file] -/
def S.slices_Reverse (p0_s : Sl) (K : Value → World → Prop) (w0 : World) : Prop :=
  XLet (((IntKind.wrap .i64 (((p0_s.len : Nat) : Int) - 1))) : Int) fun n1 => XLoop (α := (Int × Int × Unit)) (fun next4 s2 w3 => XIf (decide ((s2.1 : Int) < s2.2.1)) (XNil p0_s.a fun a5 => ((0 : Int) ≤ s2.2.1 ∧ s2.2.1 < ((p0_s.len : Nat) : Int)) ∧ (XLoad .ptr (Addr.add a5 ((Int.toNat s2.2.1) * 1)) (World.drew w3) fun (x6 : Option Addr) => XNil p0_s.a fun a7 => ((0 : Int) ≤ s2.1 ∧ s2.1 < ((p0_s.len : Nat) : Int)) ∧ (XLoad .ptr (Addr.add a7 ((Int.toNat s2.1) * 1)) (World.drew w3) fun (x8 : Option Addr) => XNil p0_s.a fun a9 => ((0 : Int) ≤ s2.1 ∧ s2.1 < ((p0_s.len : Nat) : Int)) ∧ (XStore (Addr.add a9 ((Int.toNat s2.1) * 1)) (.pointer x6) (World.drew w3) fun w10 => XNil p0_s.a fun a11 => ((0 : Int) ≤ s2.2.1 ∧ s2.2.1 < ((p0_s.len : Nat) : Int)) ∧ (XStore (Addr.add a11 ((Int.toNat s2.2.1) * 1)) (.pointer x8) w10 fun w12 => XLet (((IntKind.wrap .i64 (s2.1 + 1))) : Int) fun n13 => XLet (((IntKind.wrap .i64 (s2.2.1 - 1))) : Int) fun n14 => next4 (n13, (n14, ())) w12))))) (K (.tuple ⟨[]⟩) w3)) (0, (n1, ())) w0

set_option maxHeartbeats 8000000 in
set_option maxRecDepth 100000 in
theorem S.slices_Reverse_ok (p0_s : Sl) (K : Value → World → Prop) (w0 : World) (h : S.slices_Reverse p0_s  K w0) :
    Calls Try.prog F.slices_Reverse ⟨[.slice p0_s.a p0_s.len p0_s.cap]⟩ w0 fun e w' => ∃ v, e = .returned v ∧ K v w' :=
  calls_x (P := Try.prog) [0, 2, 3, 9] (by kernel_rfl) Try.func77 (by kernel_rfl) (Eq.mp (by kernel_rfl : S.slices_Reverse p0_s  K w0 = xfn Try.prog [0, 2, 3, 9] Try.f77 [.slice p0_s.a p0_s.len p0_s.cap] K w0) h)

end Go.X
