/-
  DERIVED. The tables of the interpreter for this seat, by program.
  Conditions: none.
-/
import Derived.Test.YtmbbnoipoifhhaaGreatDoorCf
import Derived.KernelRfl
set_option linter.all false
set_option maxHeartbeats 4000000
namespace Go.Proofs.YtmbbnoipoifhhaaGreatDoor
namespace Ab
@[simp] theorem underlying_0 : Program.underlying Go.Proofs.Tryz.prog 0 = some (TypeDesc.tuple { toList := [] }) := by kernel_rfl
@[simp] theorem szOf_0 : szOf Go.Proofs.Tryz.prog 0 = some 1 := by kernel_rfl
@[simp] theorem byOf_0 : byOf Go.Proofs.Tryz.prog 0 = some 0 := by kernel_rfl
@[simp] theorem zeroOf_0 : zeroOf Go.Proofs.Tryz.prog 0 = some [AV.undef] := by kernel_rfl
@[simp] theorem zsz_0 : zsz Go.Proofs.Tryz.prog 0 = some 1 := by kernel_rfl
@[simp] theorem zeroAV_0 : zeroAV Go.Proofs.Tryz.prog 0 = some AV.undef := by kernel_rfl
@[simp] theorem underlying_1 : Program.underlying Go.Proofs.Tryz.prog 1 = some (TypeDesc.func { toList := [] } { toList := [] } false) := by kernel_rfl
@[simp] theorem szOf_1 : szOf Go.Proofs.Tryz.prog 1 = some 1 := by kernel_rfl
@[simp] theorem byOf_1 : byOf Go.Proofs.Tryz.prog 1 = some 8 := by kernel_rfl
@[simp] theorem zeroOf_1 : zeroOf Go.Proofs.Tryz.prog 1 = some [AV.nfn] := by kernel_rfl
@[simp] theorem zsz_1 : zsz Go.Proofs.Tryz.prog 1 = some 1 := by kernel_rfl
@[simp] theorem zeroAV_1 : zeroAV Go.Proofs.Tryz.prog 1 = some AV.nfn := by kernel_rfl
@[simp] theorem underlying_2 : Program.underlying Go.Proofs.Tryz.prog 2 = some (TypeDesc.int IntKind.i64) := by kernel_rfl
@[simp] theorem szOf_2 : szOf Go.Proofs.Tryz.prog 2 = some 1 := by kernel_rfl
@[simp] theorem byOf_2 : byOf Go.Proofs.Tryz.prog 2 = some 8 := by kernel_rfl
@[simp] theorem zeroOf_2 : zeroOf Go.Proofs.Tryz.prog 2 = some [AV.i IntKind.i64 (0)] := by kernel_rfl
@[simp] theorem zsz_2 : zsz Go.Proofs.Tryz.prog 2 = some 1 := by kernel_rfl
@[simp] theorem zeroAV_2 : zeroAV Go.Proofs.Tryz.prog 2 = some (AV.i IntKind.i64 (0)) := by kernel_rfl
@[simp] theorem underlying_3 : Program.underlying Go.Proofs.Tryz.prog 3 = some (TypeDesc.int IntKind.i64) := by kernel_rfl
@[simp] theorem szOf_3 : szOf Go.Proofs.Tryz.prog 3 = some 1 := by kernel_rfl
@[simp] theorem byOf_3 : byOf Go.Proofs.Tryz.prog 3 = some 8 := by kernel_rfl
@[simp] theorem zeroOf_3 : zeroOf Go.Proofs.Tryz.prog 3 = some [AV.i IntKind.i64 (0)] := by kernel_rfl
@[simp] theorem zsz_3 : zsz Go.Proofs.Tryz.prog 3 = some 1 := by kernel_rfl
@[simp] theorem zeroAV_3 : zeroAV Go.Proofs.Tryz.prog 3 = some (AV.i IntKind.i64 (0)) := by kernel_rfl
@[simp] theorem underlying_4 : Program.underlying Go.Proofs.Tryz.prog 4 = some TypeDesc.bool := by kernel_rfl
@[simp] theorem szOf_4 : szOf Go.Proofs.Tryz.prog 4 = some 1 := by kernel_rfl
@[simp] theorem byOf_4 : byOf Go.Proofs.Tryz.prog 4 = some 1 := by kernel_rfl
@[simp] theorem zeroOf_4 : zeroOf Go.Proofs.Tryz.prog 4 = some [AV.b false] := by kernel_rfl
@[simp] theorem zsz_4 : zsz Go.Proofs.Tryz.prog 4 = some 1 := by kernel_rfl
@[simp] theorem zeroAV_4 : zeroAV Go.Proofs.Tryz.prog 4 = some (AV.b false) := by kernel_rfl
@[simp] theorem underlying_5 : Program.underlying Go.Proofs.Tryz.prog 5 = some (TypeDesc.int IntKind.u8) := by kernel_rfl
@[simp] theorem szOf_5 : szOf Go.Proofs.Tryz.prog 5 = some 1 := by kernel_rfl
@[simp] theorem byOf_5 : byOf Go.Proofs.Tryz.prog 5 = some 1 := by kernel_rfl
@[simp] theorem zeroOf_5 : zeroOf Go.Proofs.Tryz.prog 5 = some [AV.i IntKind.u8 (0)] := by kernel_rfl
@[simp] theorem zsz_5 : zsz Go.Proofs.Tryz.prog 5 = some 1 := by kernel_rfl
@[simp] theorem zeroAV_5 : zeroAV Go.Proofs.Tryz.prog 5 = some (AV.i IntKind.u8 (0)) := by kernel_rfl
@[simp] theorem underlying_6 : Program.underlying Go.Proofs.Tryz.prog 6 = some (TypeDesc.int IntKind.u8) := by kernel_rfl
@[simp] theorem szOf_6 : szOf Go.Proofs.Tryz.prog 6 = some 1 := by kernel_rfl
@[simp] theorem byOf_6 : byOf Go.Proofs.Tryz.prog 6 = some 1 := by kernel_rfl
@[simp] theorem zeroOf_6 : zeroOf Go.Proofs.Tryz.prog 6 = some [AV.i IntKind.u8 (0)] := by kernel_rfl
@[simp] theorem zsz_6 : zsz Go.Proofs.Tryz.prog 6 = some 1 := by kernel_rfl
@[simp] theorem zeroAV_6 : zeroAV Go.Proofs.Tryz.prog 6 = some (AV.i IntKind.u8 (0)) := by kernel_rfl
@[simp] theorem underlying_8 : Program.underlying Go.Proofs.Tryz.prog 8 = some (TypeDesc.struct { toList := [{ name := "x", type := 2, offset := 0, embedded := false, tag := "", pkgPath := "runtime", byteOffset := 0 }, { name := "y", type := 3, offset := 1, embedded := false, tag := "", pkgPath := "runtime", byteOffset := 8 }, { name := "signed", type := 4, offset := 2, embedded := false, tag := "", pkgPath := "runtime", byteOffset := 16 }, { name := "code", type := 6, offset := 3, embedded := false, tag := "", pkgPath := "runtime", byteOffset := 17 }] }) := by kernel_rfl
@[simp] theorem szOf_8 : szOf Go.Proofs.Tryz.prog 8 = some 4 := by kernel_rfl
@[simp] theorem byOf_8 : byOf Go.Proofs.Tryz.prog 8 = some 24 := by kernel_rfl
@[simp] theorem zeroOf_8 : zeroOf Go.Proofs.Tryz.prog 8 = some [AV.i IntKind.i64 (0), AV.i IntKind.i64 (0), AV.b false, AV.i IntKind.u8 (0)] := by kernel_rfl
@[simp] theorem zsz_8 : zsz Go.Proofs.Tryz.prog 8 = some 4 := by kernel_rfl
@[simp] theorem zeroAV_8 : zeroAV Go.Proofs.Tryz.prog 8 = some (AV.agg [AV.i IntKind.i64 (0), AV.i IntKind.i64 (0), AV.b false, AV.i IntKind.u8 (0)]) := by kernel_rfl
@[simp] theorem fieldOff_8_0 : fieldOff Go.Proofs.Tryz.prog 8 0 = some 0 := by kernel_rfl
@[simp] theorem fieldOff_8_1 : fieldOff Go.Proofs.Tryz.prog 8 1 = some 1 := by kernel_rfl
@[simp] theorem fieldOff_8_2 : fieldOff Go.Proofs.Tryz.prog 8 2 = some 2 := by kernel_rfl
@[simp] theorem fieldOff_8_3 : fieldOff Go.Proofs.Tryz.prog 8 3 = some 3 := by kernel_rfl
@[simp] theorem underlying_9 : Program.underlying Go.Proofs.Tryz.prog 9 = some TypeDesc.string := by kernel_rfl
@[simp] theorem szOf_9 : szOf Go.Proofs.Tryz.prog 9 = some 1 := by kernel_rfl
@[simp] theorem byOf_9 : byOf Go.Proofs.Tryz.prog 9 = some 16 := by kernel_rfl
@[simp] theorem zeroOf_9 : zeroOf Go.Proofs.Tryz.prog 9 = some [AV.s { data := { toList := [] } }] := by kernel_rfl
@[simp] theorem zsz_9 : zsz Go.Proofs.Tryz.prog 9 = some 1 := by kernel_rfl
@[simp] theorem zeroAV_9 : zeroAV Go.Proofs.Tryz.prog 9 = some (AV.s { data := { toList := [] } }) := by kernel_rfl
@[simp] theorem underlying_20 : Program.underlying Go.Proofs.Tryz.prog 20 = some (TypeDesc.interface { toList := [] }) := by kernel_rfl
@[simp] theorem szOf_20 : szOf Go.Proofs.Tryz.prog 20 = some 1 := by kernel_rfl
@[simp] theorem byOf_20 : byOf Go.Proofs.Tryz.prog 20 = some 16 := by kernel_rfl
@[simp] theorem zeroOf_20 : zeroOf Go.Proofs.Tryz.prog 20 = some [AV.undef] := by kernel_rfl
@[simp] theorem zsz_20 : zsz Go.Proofs.Tryz.prog 20 = some 1 := by kernel_rfl
@[simp] theorem zeroAV_20 : zeroAV Go.Proofs.Tryz.prog 20 = some AV.undef := by kernel_rfl
@[simp] theorem underlying_22 : Program.underlying Go.Proofs.Tryz.prog 22 = some (TypeDesc.slice 37) := by kernel_rfl
@[simp] theorem szOf_22 : szOf Go.Proofs.Tryz.prog 22 = some 1 := by kernel_rfl
@[simp] theorem byOf_22 : byOf Go.Proofs.Tryz.prog 22 = some 24 := by kernel_rfl
@[simp] theorem zeroOf_22 : zeroOf Go.Proofs.Tryz.prog 22 = some [AV.vs true 0 []] := by kernel_rfl
@[simp] theorem zsz_22 : zsz Go.Proofs.Tryz.prog 22 = some 1 := by kernel_rfl
@[simp] theorem elemOf_22 : elemOf Go.Proofs.Tryz.prog 22 = some 37 := by kernel_rfl
@[simp] theorem zeroAV_22 : zeroAV Go.Proofs.Tryz.prog 22 = some (AV.vs true 0 []) := by kernel_rfl
@[simp] theorem underlying_23 : Program.underlying Go.Proofs.Tryz.prog 23 = some (TypeDesc.int IntKind.u16) := by kernel_rfl
@[simp] theorem szOf_23 : szOf Go.Proofs.Tryz.prog 23 = some 1 := by kernel_rfl
@[simp] theorem byOf_23 : byOf Go.Proofs.Tryz.prog 23 = some 2 := by kernel_rfl
@[simp] theorem zeroOf_23 : zeroOf Go.Proofs.Tryz.prog 23 = some [AV.i IntKind.u16 (0)] := by kernel_rfl
@[simp] theorem zsz_23 : zsz Go.Proofs.Tryz.prog 23 = some 1 := by kernel_rfl
@[simp] theorem zeroAV_23 : zeroAV Go.Proofs.Tryz.prog 23 = some (AV.i IntKind.u16 (0)) := by kernel_rfl
@[simp] theorem underlying_25 : Program.underlying Go.Proofs.Tryz.prog 25 = some (TypeDesc.pointer 88) := by kernel_rfl
@[simp] theorem szOf_25 : szOf Go.Proofs.Tryz.prog 25 = some 1 := by kernel_rfl
@[simp] theorem byOf_25 : byOf Go.Proofs.Tryz.prog 25 = some 8 := by kernel_rfl
@[simp] theorem zeroOf_25 : zeroOf Go.Proofs.Tryz.prog 25 = some [AV.np] := by kernel_rfl
@[simp] theorem zsz_25 : zsz Go.Proofs.Tryz.prog 25 = some 1 := by kernel_rfl
@[simp] theorem zeroAV_25 : zeroAV Go.Proofs.Tryz.prog 25 = some AV.np := by kernel_rfl
@[simp] theorem underlying_26 : Program.underlying Go.Proofs.Tryz.prog 26 = some (TypeDesc.int IntKind.i64) := by kernel_rfl
@[simp] theorem szOf_26 : szOf Go.Proofs.Tryz.prog 26 = some 1 := by kernel_rfl
@[simp] theorem byOf_26 : byOf Go.Proofs.Tryz.prog 26 = some 8 := by kernel_rfl
@[simp] theorem zeroOf_26 : zeroOf Go.Proofs.Tryz.prog 26 = some [AV.i IntKind.i64 (0)] := by kernel_rfl
@[simp] theorem zsz_26 : zsz Go.Proofs.Tryz.prog 26 = some 1 := by kernel_rfl
@[simp] theorem zeroAV_26 : zeroAV Go.Proofs.Tryz.prog 26 = some (AV.i IntKind.i64 (0)) := by kernel_rfl
@[simp] theorem underlying_27 : Program.underlying Go.Proofs.Tryz.prog 27 = some (TypeDesc.tuple { toList := [25, 26] }) := by kernel_rfl
@[simp] theorem szOf_27 : szOf Go.Proofs.Tryz.prog 27 = some 1 := by kernel_rfl
@[simp] theorem byOf_27 : byOf Go.Proofs.Tryz.prog 27 = some 0 := by kernel_rfl
@[simp] theorem zeroOf_27 : zeroOf Go.Proofs.Tryz.prog 27 = some [AV.undef] := by kernel_rfl
@[simp] theorem zsz_27 : zsz Go.Proofs.Tryz.prog 27 = some 1 := by kernel_rfl
@[simp] theorem zeroAV_27 : zeroAV Go.Proofs.Tryz.prog 27 = some AV.undef := by kernel_rfl
@[simp] theorem underlying_29 : Program.underlying Go.Proofs.Tryz.prog 29 = some (TypeDesc.pointer 92) := by kernel_rfl
@[simp] theorem szOf_29 : szOf Go.Proofs.Tryz.prog 29 = some 1 := by kernel_rfl
@[simp] theorem byOf_29 : byOf Go.Proofs.Tryz.prog 29 = some 8 := by kernel_rfl
@[simp] theorem zeroOf_29 : zeroOf Go.Proofs.Tryz.prog 29 = some [AV.np] := by kernel_rfl
@[simp] theorem zsz_29 : zsz Go.Proofs.Tryz.prog 29 = some 1 := by kernel_rfl
@[simp] theorem zeroAV_29 : zeroAV Go.Proofs.Tryz.prog 29 = some AV.np := by kernel_rfl
@[simp] theorem underlying_30 : Program.underlying Go.Proofs.Tryz.prog 30 = some (TypeDesc.tuple { toList := [29, 26] }) := by kernel_rfl
@[simp] theorem szOf_30 : szOf Go.Proofs.Tryz.prog 30 = some 1 := by kernel_rfl
@[simp] theorem byOf_30 : byOf Go.Proofs.Tryz.prog 30 = some 0 := by kernel_rfl
@[simp] theorem zeroOf_30 : zeroOf Go.Proofs.Tryz.prog 30 = some [AV.undef] := by kernel_rfl
@[simp] theorem zsz_30 : zsz Go.Proofs.Tryz.prog 30 = some 1 := by kernel_rfl
@[simp] theorem zeroAV_30 : zeroAV Go.Proofs.Tryz.prog 30 = some AV.undef := by kernel_rfl
@[simp] theorem underlying_32 : Program.underlying Go.Proofs.Tryz.prog 32 = some (TypeDesc.slice 9) := by kernel_rfl
@[simp] theorem szOf_32 : szOf Go.Proofs.Tryz.prog 32 = some 1 := by kernel_rfl
@[simp] theorem byOf_32 : byOf Go.Proofs.Tryz.prog 32 = some 24 := by kernel_rfl
@[simp] theorem zeroOf_32 : zeroOf Go.Proofs.Tryz.prog 32 = some [AV.vs true 0 []] := by kernel_rfl
@[simp] theorem zsz_32 : zsz Go.Proofs.Tryz.prog 32 = some 1 := by kernel_rfl
@[simp] theorem elemOf_32 : elemOf Go.Proofs.Tryz.prog 32 = some 9 := by kernel_rfl
@[simp] theorem zeroAV_32 : zeroAV Go.Proofs.Tryz.prog 32 = some (AV.vs true 0 []) := by kernel_rfl
@[simp] theorem underlying_33 : Program.underlying Go.Proofs.Tryz.prog 33 = some (TypeDesc.slice 3) := by kernel_rfl
@[simp] theorem szOf_33 : szOf Go.Proofs.Tryz.prog 33 = some 1 := by kernel_rfl
@[simp] theorem byOf_33 : byOf Go.Proofs.Tryz.prog 33 = some 24 := by kernel_rfl
@[simp] theorem zeroOf_33 : zeroOf Go.Proofs.Tryz.prog 33 = some [AV.vs true 0 []] := by kernel_rfl
@[simp] theorem zsz_33 : zsz Go.Proofs.Tryz.prog 33 = some 1 := by kernel_rfl
@[simp] theorem elemOf_33 : elemOf Go.Proofs.Tryz.prog 33 = some 3 := by kernel_rfl
@[simp] theorem zeroAV_33 : zeroAV Go.Proofs.Tryz.prog 33 = some (AV.vs true 0 []) := by kernel_rfl
@[simp] theorem underlying_34 : Program.underlying Go.Proofs.Tryz.prog 34 = some (TypeDesc.int IntKind.u64) := by kernel_rfl
@[simp] theorem szOf_34 : szOf Go.Proofs.Tryz.prog 34 = some 1 := by kernel_rfl
@[simp] theorem byOf_34 : byOf Go.Proofs.Tryz.prog 34 = some 8 := by kernel_rfl
@[simp] theorem zeroOf_34 : zeroOf Go.Proofs.Tryz.prog 34 = some [AV.i IntKind.u64 (0)] := by kernel_rfl
@[simp] theorem zsz_34 : zsz Go.Proofs.Tryz.prog 34 = some 1 := by kernel_rfl
@[simp] theorem zeroAV_34 : zeroAV Go.Proofs.Tryz.prog 34 = some (AV.i IntKind.u64 (0)) := by kernel_rfl
@[simp] theorem underlying_35 : Program.underlying Go.Proofs.Tryz.prog 35 = some (TypeDesc.tuple { toList := [34, 26] }) := by kernel_rfl
@[simp] theorem szOf_35 : szOf Go.Proofs.Tryz.prog 35 = some 1 := by kernel_rfl
@[simp] theorem byOf_35 : byOf Go.Proofs.Tryz.prog 35 = some 0 := by kernel_rfl
@[simp] theorem zeroOf_35 : zeroOf Go.Proofs.Tryz.prog 35 = some [AV.undef] := by kernel_rfl
@[simp] theorem zsz_35 : zsz Go.Proofs.Tryz.prog 35 = some 1 := by kernel_rfl
@[simp] theorem zeroAV_35 : zeroAV Go.Proofs.Tryz.prog 35 = some AV.undef := by kernel_rfl
@[simp] theorem underlying_37 : Program.underlying Go.Proofs.Tryz.prog 37 = some (TypeDesc.slice 5) := by kernel_rfl
@[simp] theorem szOf_37 : szOf Go.Proofs.Tryz.prog 37 = some 1 := by kernel_rfl
@[simp] theorem byOf_37 : byOf Go.Proofs.Tryz.prog 37 = some 24 := by kernel_rfl
@[simp] theorem zeroOf_37 : zeroOf Go.Proofs.Tryz.prog 37 = some [AV.vs true 0 []] := by kernel_rfl
@[simp] theorem zsz_37 : zsz Go.Proofs.Tryz.prog 37 = some 1 := by kernel_rfl
@[simp] theorem elemOf_37 : elemOf Go.Proofs.Tryz.prog 37 = some 5 := by kernel_rfl
@[simp] theorem zeroAV_37 : zeroAV Go.Proofs.Tryz.prog 37 = some (AV.vs true 0 []) := by kernel_rfl
@[simp] theorem underlying_39 : Program.underlying Go.Proofs.Tryz.prog 39 = some (TypeDesc.tuple { toList := [3, 26] }) := by kernel_rfl
@[simp] theorem szOf_39 : szOf Go.Proofs.Tryz.prog 39 = some 1 := by kernel_rfl
@[simp] theorem byOf_39 : byOf Go.Proofs.Tryz.prog 39 = some 0 := by kernel_rfl
@[simp] theorem zeroOf_39 : zeroOf Go.Proofs.Tryz.prog 39 = some [AV.undef] := by kernel_rfl
@[simp] theorem zsz_39 : zsz Go.Proofs.Tryz.prog 39 = some 1 := by kernel_rfl
@[simp] theorem zeroAV_39 : zeroAV Go.Proofs.Tryz.prog 39 = some AV.undef := by kernel_rfl
@[simp] theorem underlying_41 : Program.underlying Go.Proofs.Tryz.prog 41 = some (TypeDesc.tuple { toList := [37, 26] }) := by kernel_rfl
@[simp] theorem szOf_41 : szOf Go.Proofs.Tryz.prog 41 = some 1 := by kernel_rfl
@[simp] theorem byOf_41 : byOf Go.Proofs.Tryz.prog 41 = some 0 := by kernel_rfl
@[simp] theorem zeroOf_41 : zeroOf Go.Proofs.Tryz.prog 41 = some [AV.undef] := by kernel_rfl
@[simp] theorem zsz_41 : zsz Go.Proofs.Tryz.prog 41 = some 1 := by kernel_rfl
@[simp] theorem zeroAV_41 : zeroAV Go.Proofs.Tryz.prog 41 = some AV.undef := by kernel_rfl
@[simp] theorem underlying_49 : Program.underlying Go.Proofs.Tryz.prog 49 = some (TypeDesc.tuple { toList := [25, 29] }) := by kernel_rfl
@[simp] theorem szOf_49 : szOf Go.Proofs.Tryz.prog 49 = some 1 := by kernel_rfl
@[simp] theorem byOf_49 : byOf Go.Proofs.Tryz.prog 49 = some 0 := by kernel_rfl
@[simp] theorem zeroOf_49 : zeroOf Go.Proofs.Tryz.prog 49 = some [AV.undef] := by kernel_rfl
@[simp] theorem zsz_49 : zsz Go.Proofs.Tryz.prog 49 = some 1 := by kernel_rfl
@[simp] theorem zeroAV_49 : zeroAV Go.Proofs.Tryz.prog 49 = some AV.undef := by kernel_rfl
@[simp] theorem underlying_56 : Program.underlying Go.Proofs.Tryz.prog 56 = some (TypeDesc.slice 58) := by kernel_rfl
@[simp] theorem szOf_56 : szOf Go.Proofs.Tryz.prog 56 = some 1 := by kernel_rfl
@[simp] theorem byOf_56 : byOf Go.Proofs.Tryz.prog 56 = some 24 := by kernel_rfl
@[simp] theorem zeroOf_56 : zeroOf Go.Proofs.Tryz.prog 56 = some [AV.vs true 0 []] := by kernel_rfl
@[simp] theorem zsz_56 : zsz Go.Proofs.Tryz.prog 56 = some 1 := by kernel_rfl
@[simp] theorem elemOf_56 : elemOf Go.Proofs.Tryz.prog 56 = some 58 := by kernel_rfl
@[simp] theorem zeroAV_56 : zeroAV Go.Proofs.Tryz.prog 56 = some (AV.vs true 0 []) := by kernel_rfl
@[simp] theorem underlying_58 : Program.underlying Go.Proofs.Tryz.prog 58 = some (TypeDesc.struct { toList := [{ name := "Kind", type := 3, offset := 0, embedded := false, tag := "", pkgPath := "", byteOffset := 0 }, { name := "Most", type := 3, offset := 1, embedded := false, tag := "", pkgPath := "", byteOffset := 8 }, { name := "Names", type := 3, offset := 2, embedded := false, tag := "", pkgPath := "", byteOffset := 16 }, { name := "B", type := 37, offset := 3, embedded := false, tag := "", pkgPath := "", byteOffset := 24 }, { name := "No", type := 34, offset := 4, embedded := false, tag := "", pkgPath := "", byteOffset := 48 }, { name := "How", type := 4, offset := 5, embedded := false, tag := "", pkgPath := "", byteOffset := 56 }, { name := "Keeps", type := 33, offset := 6, embedded := false, tag := "", pkgPath := "", byteOffset := 64 }] }) := by kernel_rfl
@[simp] theorem szOf_58 : szOf Go.Proofs.Tryz.prog 58 = some 7 := by kernel_rfl
@[simp] theorem byOf_58 : byOf Go.Proofs.Tryz.prog 58 = some 88 := by kernel_rfl
@[simp] theorem zeroOf_58 : zeroOf Go.Proofs.Tryz.prog 58 = some [AV.i IntKind.i64 (0), AV.i IntKind.i64 (0), AV.i IntKind.i64 (0), AV.vs true 0 [], AV.i IntKind.u64 (0), AV.b false, AV.vs true 0 []] := by kernel_rfl
@[simp] theorem zsz_58 : zsz Go.Proofs.Tryz.prog 58 = some 7 := by kernel_rfl
@[simp] theorem zeroAV_58 : zeroAV Go.Proofs.Tryz.prog 58 = some (AV.agg [AV.i IntKind.i64 (0), AV.i IntKind.i64 (0), AV.i IntKind.i64 (0), AV.vs true 0 [], AV.i IntKind.u64 (0), AV.b false, AV.vs true 0 []]) := by kernel_rfl
@[simp] theorem fieldOff_58_0 : fieldOff Go.Proofs.Tryz.prog 58 0 = some 0 := by kernel_rfl
@[simp] theorem fieldOff_58_1 : fieldOff Go.Proofs.Tryz.prog 58 1 = some 1 := by kernel_rfl
@[simp] theorem fieldOff_58_2 : fieldOff Go.Proofs.Tryz.prog 58 2 = some 2 := by kernel_rfl
@[simp] theorem fieldOff_58_3 : fieldOff Go.Proofs.Tryz.prog 58 3 = some 3 := by kernel_rfl
@[simp] theorem fieldOff_58_4 : fieldOff Go.Proofs.Tryz.prog 58 4 = some 4 := by kernel_rfl
@[simp] theorem fieldOff_58_5 : fieldOff Go.Proofs.Tryz.prog 58 5 = some 5 := by kernel_rfl
@[simp] theorem fieldOff_58_6 : fieldOff Go.Proofs.Tryz.prog 58 6 = some 6 := by kernel_rfl
@[simp] theorem underlying_74 : Program.underlying Go.Proofs.Tryz.prog 74 = some (TypeDesc.slice 84) := by kernel_rfl
@[simp] theorem szOf_74 : szOf Go.Proofs.Tryz.prog 74 = some 1 := by kernel_rfl
@[simp] theorem byOf_74 : byOf Go.Proofs.Tryz.prog 74 = some 24 := by kernel_rfl
@[simp] theorem zeroOf_74 : zeroOf Go.Proofs.Tryz.prog 74 = some [AV.vs true 0 []] := by kernel_rfl
@[simp] theorem zsz_74 : zsz Go.Proofs.Tryz.prog 74 = some 1 := by kernel_rfl
@[simp] theorem elemOf_74 : elemOf Go.Proofs.Tryz.prog 74 = some 84 := by kernel_rfl
@[simp] theorem zeroAV_74 : zeroAV Go.Proofs.Tryz.prog 74 = some (AV.vs true 0 []) := by kernel_rfl
@[simp] theorem underlying_81 : Program.underlying Go.Proofs.Tryz.prog 81 = some (TypeDesc.tuple { toList := [74, 26] }) := by kernel_rfl
@[simp] theorem szOf_81 : szOf Go.Proofs.Tryz.prog 81 = some 1 := by kernel_rfl
@[simp] theorem byOf_81 : byOf Go.Proofs.Tryz.prog 81 = some 0 := by kernel_rfl
@[simp] theorem zeroOf_81 : zeroOf Go.Proofs.Tryz.prog 81 = some [AV.undef] := by kernel_rfl
@[simp] theorem zsz_81 : zsz Go.Proofs.Tryz.prog 81 = some 1 := by kernel_rfl
@[simp] theorem zeroAV_81 : zeroAV Go.Proofs.Tryz.prog 81 = some AV.undef := by kernel_rfl
@[simp] theorem underlying_84 : Program.underlying Go.Proofs.Tryz.prog 84 = some (TypeDesc.struct { toList := [{ name := "No", type := 34, offset := 0, embedded := false, tag := "", pkgPath := "", byteOffset := 0 }, { name := "B", type := 37, offset := 1, embedded := false, tag := "", pkgPath := "", byteOffset := 8 }] }) := by kernel_rfl
@[simp] theorem szOf_84 : szOf Go.Proofs.Tryz.prog 84 = some 2 := by kernel_rfl
@[simp] theorem byOf_84 : byOf Go.Proofs.Tryz.prog 84 = some 32 := by kernel_rfl
@[simp] theorem zeroOf_84 : zeroOf Go.Proofs.Tryz.prog 84 = some [AV.i IntKind.u64 (0), AV.vs true 0 []] := by kernel_rfl
@[simp] theorem zsz_84 : zsz Go.Proofs.Tryz.prog 84 = some 2 := by kernel_rfl
@[simp] theorem zeroAV_84 : zeroAV Go.Proofs.Tryz.prog 84 = some (AV.agg [AV.i IntKind.u64 (0), AV.vs true 0 []]) := by kernel_rfl
@[simp] theorem fieldOff_84_0 : fieldOff Go.Proofs.Tryz.prog 84 0 = some 0 := by kernel_rfl
@[simp] theorem fieldOff_84_1 : fieldOff Go.Proofs.Tryz.prog 84 1 = some 1 := by kernel_rfl
@[simp] theorem underlying_85 : Program.underlying Go.Proofs.Tryz.prog 85 = some (TypeDesc.map 9 104) := by kernel_rfl
@[simp] theorem szOf_85 : szOf Go.Proofs.Tryz.prog 85 = some 1 := by kernel_rfl
@[simp] theorem byOf_85 : byOf Go.Proofs.Tryz.prog 85 = some 8 := by kernel_rfl
@[simp] theorem zeroOf_85 : zeroOf Go.Proofs.Tryz.prog 85 = some [AV.mp none] := by kernel_rfl
@[simp] theorem zsz_85 : zsz Go.Proofs.Tryz.prog 85 = some 1 := by kernel_rfl
@[simp] theorem zeroAV_85 : zeroAV Go.Proofs.Tryz.prog 85 = some (AV.mp none) := by kernel_rfl
@[simp] theorem underlying_86 : Program.underlying Go.Proofs.Tryz.prog 86 = some (TypeDesc.slice 85) := by kernel_rfl
@[simp] theorem szOf_86 : szOf Go.Proofs.Tryz.prog 86 = some 1 := by kernel_rfl
@[simp] theorem byOf_86 : byOf Go.Proofs.Tryz.prog 86 = some 24 := by kernel_rfl
@[simp] theorem zeroOf_86 : zeroOf Go.Proofs.Tryz.prog 86 = some [AV.vs true 0 []] := by kernel_rfl
@[simp] theorem zsz_86 : zsz Go.Proofs.Tryz.prog 86 = some 1 := by kernel_rfl
@[simp] theorem elemOf_86 : elemOf Go.Proofs.Tryz.prog 86 = some 85 := by kernel_rfl
@[simp] theorem zeroAV_86 : zeroAV Go.Proofs.Tryz.prog 86 = some (AV.vs true 0 []) := by kernel_rfl
@[simp] theorem underlying_88 : Program.underlying Go.Proofs.Tryz.prog 88 = some (TypeDesc.struct { toList := [{ name := "quota", type := 3, offset := 0, embedded := false, tag := "", pkgPath := "lockstep/simfs", byteOffset := 0 }, { name := "names", type := 85, offset := 1, embedded := false, tag := "", pkgPath := "lockstep/simfs", byteOffset := 8 }, { name := "was", type := 86, offset := 2, embedded := false, tag := "", pkgPath := "lockstep/simfs", byteOffset := 16 }, { name := "stop", type := 3, offset := 3, embedded := false, tag := "", pkgPath := "lockstep/simfs", byteOffset := 40 }] }) := by kernel_rfl
@[simp] theorem szOf_88 : szOf Go.Proofs.Tryz.prog 88 = some 4 := by kernel_rfl
@[simp] theorem byOf_88 : byOf Go.Proofs.Tryz.prog 88 = some 48 := by kernel_rfl
@[simp] theorem zeroOf_88 : zeroOf Go.Proofs.Tryz.prog 88 = some [AV.i IntKind.i64 (0), AV.mp none, AV.vs true 0 [], AV.i IntKind.i64 (0)] := by kernel_rfl
@[simp] theorem zsz_88 : zsz Go.Proofs.Tryz.prog 88 = some 4 := by kernel_rfl
@[simp] theorem zeroAV_88 : zeroAV Go.Proofs.Tryz.prog 88 = some (AV.agg [AV.i IntKind.i64 (0), AV.mp none, AV.vs true 0 [], AV.i IntKind.i64 (0)]) := by kernel_rfl
@[simp] theorem fieldOff_88_0 : fieldOff Go.Proofs.Tryz.prog 88 0 = some 0 := by kernel_rfl
@[simp] theorem fieldOff_88_1 : fieldOff Go.Proofs.Tryz.prog 88 1 = some 1 := by kernel_rfl
@[simp] theorem fieldOff_88_2 : fieldOff Go.Proofs.Tryz.prog 88 2 = some 2 := by kernel_rfl
@[simp] theorem fieldOff_88_3 : fieldOff Go.Proofs.Tryz.prog 88 3 = some 3 := by kernel_rfl
@[simp] theorem underlying_89 : Program.underlying Go.Proofs.Tryz.prog 89 = some (TypeDesc.func { toList := [9] } { toList := [4] } false) := by kernel_rfl
@[simp] theorem szOf_89 : szOf Go.Proofs.Tryz.prog 89 = some 1 := by kernel_rfl
@[simp] theorem byOf_89 : byOf Go.Proofs.Tryz.prog 89 = some 8 := by kernel_rfl
@[simp] theorem zeroOf_89 : zeroOf Go.Proofs.Tryz.prog 89 = some [AV.nfn] := by kernel_rfl
@[simp] theorem zsz_89 : zsz Go.Proofs.Tryz.prog 89 = some 1 := by kernel_rfl
@[simp] theorem zeroAV_89 : zeroAV Go.Proofs.Tryz.prog 89 = some AV.nfn := by kernel_rfl
@[simp] theorem underlying_90 : Program.underlying Go.Proofs.Tryz.prog 90 = some (TypeDesc.slice 96) := by kernel_rfl
@[simp] theorem szOf_90 : szOf Go.Proofs.Tryz.prog 90 = some 1 := by kernel_rfl
@[simp] theorem byOf_90 : byOf Go.Proofs.Tryz.prog 90 = some 24 := by kernel_rfl
@[simp] theorem zeroOf_90 : zeroOf Go.Proofs.Tryz.prog 90 = some [AV.vs true 0 []] := by kernel_rfl
@[simp] theorem zsz_90 : zsz Go.Proofs.Tryz.prog 90 = some 1 := by kernel_rfl
@[simp] theorem elemOf_90 : elemOf Go.Proofs.Tryz.prog 90 = some 96 := by kernel_rfl
@[simp] theorem zeroAV_90 : zeroAV Go.Proofs.Tryz.prog 90 = some (AV.vs true 0 []) := by kernel_rfl
@[simp] theorem underlying_92 : Program.underlying Go.Proofs.Tryz.prog 92 = some (TypeDesc.struct { toList := [{ name := "f", type := 25, offset := 0, embedded := false, tag := "", pkgPath := "lockstep/cmdlog", byteOffset := 0 }, { name := "name", type := 9, offset := 1, embedded := false, tag := "", pkgPath := "lockstep/cmdlog", byteOffset := 8 }, { name := "size", type := 3, offset := 2, embedded := false, tag := "", pkgPath := "lockstep/cmdlog", byteOffset := 24 }, { name := "segs", type := 90, offset := 3, embedded := false, tag := "", pkgPath := "lockstep/cmdlog", byteOffset := 32 }, { name := "last", type := 34, offset := 4, embedded := false, tag := "", pkgPath := "lockstep/cmdlog", byteOffset := 56 }, { name := "fast", type := 34, offset := 5, embedded := false, tag := "", pkgPath := "lockstep/cmdlog", byteOffset := 64 }] }) := by kernel_rfl
@[simp] theorem szOf_92 : szOf Go.Proofs.Tryz.prog 92 = some 6 := by kernel_rfl
@[simp] theorem byOf_92 : byOf Go.Proofs.Tryz.prog 92 = some 72 := by kernel_rfl
@[simp] theorem zeroOf_92 : zeroOf Go.Proofs.Tryz.prog 92 = some [AV.np, AV.s { data := { toList := [] } }, AV.i IntKind.i64 (0), AV.vs true 0 [], AV.i IntKind.u64 (0), AV.i IntKind.u64 (0)] := by kernel_rfl
@[simp] theorem zsz_92 : zsz Go.Proofs.Tryz.prog 92 = some 6 := by kernel_rfl
@[simp] theorem zeroAV_92 : zeroAV Go.Proofs.Tryz.prog 92 = some (AV.agg [AV.np, AV.s { data := { toList := [] } }, AV.i IntKind.i64 (0), AV.vs true 0 [], AV.i IntKind.u64 (0), AV.i IntKind.u64 (0)]) := by kernel_rfl
@[simp] theorem fieldOff_92_0 : fieldOff Go.Proofs.Tryz.prog 92 0 = some 0 := by kernel_rfl
@[simp] theorem fieldOff_92_1 : fieldOff Go.Proofs.Tryz.prog 92 1 = some 1 := by kernel_rfl
@[simp] theorem fieldOff_92_2 : fieldOff Go.Proofs.Tryz.prog 92 2 = some 2 := by kernel_rfl
@[simp] theorem fieldOff_92_3 : fieldOff Go.Proofs.Tryz.prog 92 3 = some 3 := by kernel_rfl
@[simp] theorem fieldOff_92_4 : fieldOff Go.Proofs.Tryz.prog 92 4 = some 4 := by kernel_rfl
@[simp] theorem fieldOff_92_5 : fieldOff Go.Proofs.Tryz.prog 92 5 = some 5 := by kernel_rfl
@[simp] theorem underlying_93 : Program.underlying Go.Proofs.Tryz.prog 93 = some (TypeDesc.tuple { toList := [4, 4, 4] }) := by kernel_rfl
@[simp] theorem szOf_93 : szOf Go.Proofs.Tryz.prog 93 = some 1 := by kernel_rfl
@[simp] theorem byOf_93 : byOf Go.Proofs.Tryz.prog 93 = some 0 := by kernel_rfl
@[simp] theorem zeroOf_93 : zeroOf Go.Proofs.Tryz.prog 93 = some [AV.undef] := by kernel_rfl
@[simp] theorem zsz_93 : zsz Go.Proofs.Tryz.prog 93 = some 1 := by kernel_rfl
@[simp] theorem zeroAV_93 : zeroAV Go.Proofs.Tryz.prog 93 = some AV.undef := by kernel_rfl
@[simp] theorem underlying_96 : Program.underlying Go.Proofs.Tryz.prog 96 = some (TypeDesc.pointer 100) := by kernel_rfl
@[simp] theorem szOf_96 : szOf Go.Proofs.Tryz.prog 96 = some 1 := by kernel_rfl
@[simp] theorem byOf_96 : byOf Go.Proofs.Tryz.prog 96 = some 8 := by kernel_rfl
@[simp] theorem zeroOf_96 : zeroOf Go.Proofs.Tryz.prog 96 = some [AV.np] := by kernel_rfl
@[simp] theorem zsz_96 : zsz Go.Proofs.Tryz.prog 96 = some 1 := by kernel_rfl
@[simp] theorem zeroAV_96 : zeroAV Go.Proofs.Tryz.prog 96 = some AV.np := by kernel_rfl
@[simp] theorem underlying_100 : Program.underlying Go.Proofs.Tryz.prog 100 = some (TypeDesc.struct { toList := [{ name := "no", type := 34, offset := 0, embedded := false, tag := "", pkgPath := "lockstep/cmdlog", byteOffset := 0 }, { name := "records", type := 22, offset := 1, embedded := false, tag := "", pkgPath := "lockstep/cmdlog", byteOffset := 8 }, { name := "size", type := 3, offset := 2, embedded := false, tag := "", pkgPath := "lockstep/cmdlog", byteOffset := 32 }] }) := by kernel_rfl
@[simp] theorem szOf_100 : szOf Go.Proofs.Tryz.prog 100 = some 3 := by kernel_rfl
@[simp] theorem byOf_100 : byOf Go.Proofs.Tryz.prog 100 = some 40 := by kernel_rfl
@[simp] theorem zeroOf_100 : zeroOf Go.Proofs.Tryz.prog 100 = some [AV.i IntKind.u64 (0), AV.vs true 0 [], AV.i IntKind.i64 (0)] := by kernel_rfl
@[simp] theorem zsz_100 : zsz Go.Proofs.Tryz.prog 100 = some 3 := by kernel_rfl
@[simp] theorem zeroAV_100 : zeroAV Go.Proofs.Tryz.prog 100 = some (AV.agg [AV.i IntKind.u64 (0), AV.vs true 0 [], AV.i IntKind.i64 (0)]) := by kernel_rfl
@[simp] theorem fieldOff_100_0 : fieldOff Go.Proofs.Tryz.prog 100 0 = some 0 := by kernel_rfl
@[simp] theorem fieldOff_100_1 : fieldOff Go.Proofs.Tryz.prog 100 1 = some 1 := by kernel_rfl
@[simp] theorem fieldOff_100_2 : fieldOff Go.Proofs.Tryz.prog 100 2 = some 2 := by kernel_rfl
@[simp] theorem underlying_104 : Program.underlying Go.Proofs.Tryz.prog 104 = some (TypeDesc.pointer 108) := by kernel_rfl
@[simp] theorem szOf_104 : szOf Go.Proofs.Tryz.prog 104 = some 1 := by kernel_rfl
@[simp] theorem byOf_104 : byOf Go.Proofs.Tryz.prog 104 = some 8 := by kernel_rfl
@[simp] theorem zeroOf_104 : zeroOf Go.Proofs.Tryz.prog 104 = some [AV.np] := by kernel_rfl
@[simp] theorem zsz_104 : zsz Go.Proofs.Tryz.prog 104 = some 1 := by kernel_rfl
@[simp] theorem zeroAV_104 : zeroAV Go.Proofs.Tryz.prog 104 = some AV.np := by kernel_rfl
@[simp] theorem underlying_105 : Program.underlying Go.Proofs.Tryz.prog 105 = some (TypeDesc.tuple { toList := [104, 26] }) := by kernel_rfl
@[simp] theorem szOf_105 : szOf Go.Proofs.Tryz.prog 105 = some 1 := by kernel_rfl
@[simp] theorem byOf_105 : byOf Go.Proofs.Tryz.prog 105 = some 0 := by kernel_rfl
@[simp] theorem zeroOf_105 : zeroOf Go.Proofs.Tryz.prog 105 = some [AV.undef] := by kernel_rfl
@[simp] theorem zsz_105 : zsz Go.Proofs.Tryz.prog 105 = some 1 := by kernel_rfl
@[simp] theorem zeroAV_105 : zeroAV Go.Proofs.Tryz.prog 105 = some AV.undef := by kernel_rfl
@[simp] theorem underlying_108 : Program.underlying Go.Proofs.Tryz.prog 108 = some (TypeDesc.struct { toList := [{ name := "b", type := 37, offset := 0, embedded := false, tag := "", pkgPath := "lockstep/simfs", byteOffset := 0 }, { name := "fast", type := 3, offset := 1, embedded := false, tag := "", pkgPath := "lockstep/simfs", byteOffset := 24 }] }) := by kernel_rfl
@[simp] theorem szOf_108 : szOf Go.Proofs.Tryz.prog 108 = some 2 := by kernel_rfl
@[simp] theorem byOf_108 : byOf Go.Proofs.Tryz.prog 108 = some 32 := by kernel_rfl
@[simp] theorem zeroOf_108 : zeroOf Go.Proofs.Tryz.prog 108 = some [AV.vs true 0 [], AV.i IntKind.i64 (0)] := by kernel_rfl
@[simp] theorem zsz_108 : zsz Go.Proofs.Tryz.prog 108 = some 2 := by kernel_rfl
@[simp] theorem zeroAV_108 : zeroAV Go.Proofs.Tryz.prog 108 = some (AV.agg [AV.vs true 0 [], AV.i IntKind.i64 (0)]) := by kernel_rfl
@[simp] theorem fieldOff_108_0 : fieldOff Go.Proofs.Tryz.prog 108 0 = some 0 := by kernel_rfl
@[simp] theorem fieldOff_108_1 : fieldOff Go.Proofs.Tryz.prog 108 1 = some 1 := by kernel_rfl
@[simp] theorem underlying_109 : Program.underlying Go.Proofs.Tryz.prog 109 = some (TypeDesc.tuple { toList := [104, 4] }) := by kernel_rfl
@[simp] theorem szOf_109 : szOf Go.Proofs.Tryz.prog 109 = some 1 := by kernel_rfl
@[simp] theorem byOf_109 : byOf Go.Proofs.Tryz.prog 109 = some 0 := by kernel_rfl
@[simp] theorem zeroOf_109 : zeroOf Go.Proofs.Tryz.prog 109 = some [AV.undef] := by kernel_rfl
@[simp] theorem zsz_109 : zsz Go.Proofs.Tryz.prog 109 = some 1 := by kernel_rfl
@[simp] theorem zeroAV_109 : zeroAV Go.Proofs.Tryz.prog 109 = some AV.undef := by kernel_rfl
@[simp] theorem underlying_110 : Program.underlying Go.Proofs.Tryz.prog 110 = some (TypeDesc.tuple { toList := [4, 4] }) := by kernel_rfl
@[simp] theorem szOf_110 : szOf Go.Proofs.Tryz.prog 110 = some 1 := by kernel_rfl
@[simp] theorem byOf_110 : byOf Go.Proofs.Tryz.prog 110 = some 0 := by kernel_rfl
@[simp] theorem zeroOf_110 : zeroOf Go.Proofs.Tryz.prog 110 = some [AV.undef] := by kernel_rfl
@[simp] theorem zsz_110 : zsz Go.Proofs.Tryz.prog 110 = some 1 := by kernel_rfl
@[simp] theorem zeroAV_110 : zeroAV Go.Proofs.Tryz.prog 110 = some AV.undef := by kernel_rfl
@[simp] theorem underlying_123 : Program.underlying Go.Proofs.Tryz.prog 123 = some (TypeDesc.slice 149) := by kernel_rfl
@[simp] theorem szOf_123 : szOf Go.Proofs.Tryz.prog 123 = some 1 := by kernel_rfl
@[simp] theorem byOf_123 : byOf Go.Proofs.Tryz.prog 123 = some 24 := by kernel_rfl
@[simp] theorem zeroOf_123 : zeroOf Go.Proofs.Tryz.prog 123 = some [AV.vs true 0 []] := by kernel_rfl
@[simp] theorem zsz_123 : zsz Go.Proofs.Tryz.prog 123 = some 1 := by kernel_rfl
@[simp] theorem elemOf_123 : elemOf Go.Proofs.Tryz.prog 123 = some 149 := by kernel_rfl
@[simp] theorem zeroAV_123 : zeroAV Go.Proofs.Tryz.prog 123 = some (AV.vs true 0 []) := by kernel_rfl
@[simp] theorem underlying_126 : Program.underlying Go.Proofs.Tryz.prog 126 = some (TypeDesc.slice 34) := by kernel_rfl
@[simp] theorem szOf_126 : szOf Go.Proofs.Tryz.prog 126 = some 1 := by kernel_rfl
@[simp] theorem byOf_126 : byOf Go.Proofs.Tryz.prog 126 = some 24 := by kernel_rfl
@[simp] theorem zeroOf_126 : zeroOf Go.Proofs.Tryz.prog 126 = some [AV.vs true 0 []] := by kernel_rfl
@[simp] theorem zsz_126 : zsz Go.Proofs.Tryz.prog 126 = some 1 := by kernel_rfl
@[simp] theorem elemOf_126 : elemOf Go.Proofs.Tryz.prog 126 = some 34 := by kernel_rfl
@[simp] theorem zeroAV_126 : zeroAV Go.Proofs.Tryz.prog 126 = some (AV.vs true 0 []) := by kernel_rfl
@[simp] theorem underlying_127 : Program.underlying Go.Proofs.Tryz.prog 127 = some (TypeDesc.tuple { toList := [34, 4] }) := by kernel_rfl
@[simp] theorem szOf_127 : szOf Go.Proofs.Tryz.prog 127 = some 1 := by kernel_rfl
@[simp] theorem byOf_127 : byOf Go.Proofs.Tryz.prog 127 = some 0 := by kernel_rfl
@[simp] theorem zeroOf_127 : zeroOf Go.Proofs.Tryz.prog 127 = some [AV.undef] := by kernel_rfl
@[simp] theorem zsz_127 : zsz Go.Proofs.Tryz.prog 127 = some 1 := by kernel_rfl
@[simp] theorem zeroAV_127 : zeroAV Go.Proofs.Tryz.prog 127 = some AV.undef := by kernel_rfl
@[simp] theorem underlying_130 : Program.underlying Go.Proofs.Tryz.prog 130 = some (TypeDesc.tuple { toList := [96, 4] }) := by kernel_rfl
@[simp] theorem szOf_130 : szOf Go.Proofs.Tryz.prog 130 = some 1 := by kernel_rfl
@[simp] theorem byOf_130 : byOf Go.Proofs.Tryz.prog 130 = some 0 := by kernel_rfl
@[simp] theorem zeroOf_130 : zeroOf Go.Proofs.Tryz.prog 130 = some [AV.undef] := by kernel_rfl
@[simp] theorem zsz_130 : zsz Go.Proofs.Tryz.prog 130 = some 1 := by kernel_rfl
@[simp] theorem zeroAV_130 : zeroAV Go.Proofs.Tryz.prog 130 = some AV.undef := by kernel_rfl
@[simp] theorem underlying_138 : Program.underlying Go.Proofs.Tryz.prog 138 = some (TypeDesc.func { toList := [89] } { toList := [] } false) := by kernel_rfl
@[simp] theorem szOf_138 : szOf Go.Proofs.Tryz.prog 138 = some 1 := by kernel_rfl
@[simp] theorem byOf_138 : byOf Go.Proofs.Tryz.prog 138 = some 8 := by kernel_rfl
@[simp] theorem zeroOf_138 : zeroOf Go.Proofs.Tryz.prog 138 = some [AV.nfn] := by kernel_rfl
@[simp] theorem zsz_138 : zsz Go.Proofs.Tryz.prog 138 = some 1 := by kernel_rfl
@[simp] theorem zeroAV_138 : zeroAV Go.Proofs.Tryz.prog 138 = some AV.nfn := by kernel_rfl
@[simp] theorem underlying_149 : Program.underlying Go.Proofs.Tryz.prog 149 = some (TypeDesc.struct { toList := [{ name := "Name", type := 9, offset := 0, embedded := false, tag := "", pkgPath := "", byteOffset := 0 }, { name := "B", type := 37, offset := 1, embedded := false, tag := "", pkgPath := "", byteOffset := 16 }, { name := "Fast", type := 3, offset := 2, embedded := false, tag := "", pkgPath := "", byteOffset := 40 }] }) := by kernel_rfl
@[simp] theorem szOf_149 : szOf Go.Proofs.Tryz.prog 149 = some 3 := by kernel_rfl
@[simp] theorem byOf_149 : byOf Go.Proofs.Tryz.prog 149 = some 48 := by kernel_rfl
@[simp] theorem zeroOf_149 : zeroOf Go.Proofs.Tryz.prog 149 = some [AV.s { data := { toList := [] } }, AV.vs true 0 [], AV.i IntKind.i64 (0)] := by kernel_rfl
@[simp] theorem zsz_149 : zsz Go.Proofs.Tryz.prog 149 = some 3 := by kernel_rfl
@[simp] theorem zeroAV_149 : zeroAV Go.Proofs.Tryz.prog 149 = some (AV.agg [AV.s { data := { toList := [] } }, AV.vs true 0 [], AV.i IntKind.i64 (0)]) := by kernel_rfl
@[simp] theorem fieldOff_149_0 : fieldOff Go.Proofs.Tryz.prog 149 0 = some 0 := by kernel_rfl
@[simp] theorem fieldOff_149_1 : fieldOff Go.Proofs.Tryz.prog 149 1 = some 1 := by kernel_rfl
@[simp] theorem fieldOff_149_2 : fieldOff Go.Proofs.Tryz.prog 149 2 = some 2 := by kernel_rfl
@[simp] theorem underlying_163 : Program.underlying Go.Proofs.Tryz.prog 163 = some (TypeDesc.array 256 4) := by kernel_rfl
@[simp] theorem szOf_163 : szOf Go.Proofs.Tryz.prog 163 = some 256 := by kernel_rfl
@[simp] theorem byOf_163 : byOf Go.Proofs.Tryz.prog 163 = some 256 := by kernel_rfl
@[simp] theorem zeroOf_163 : zeroOf Go.Proofs.Tryz.prog 163 = some [AV.b false, AV.b false, AV.b false, AV.b false, AV.b false, AV.b false, AV.b false, AV.b false, AV.b false, AV.b false, AV.b false, AV.b false, AV.b false, AV.b false, AV.b false, AV.b false, AV.b false, AV.b false, AV.b false, AV.b false, AV.b false, AV.b false, AV.b false, AV.b false, AV.b false, AV.b false, AV.b false, AV.b false, AV.b false, AV.b false, AV.b false, AV.b false, AV.b false, AV.b false, AV.b false, AV.b false, AV.b false, AV.b false, AV.b false, AV.b false, AV.b false, AV.b false, AV.b false, AV.b false, AV.b false, AV.b false, AV.b false, AV.b false, AV.b false, AV.b false, AV.b false, AV.b false, AV.b false, AV.b false, AV.b false, AV.b false, AV.b false, AV.b false, AV.b false, AV.b false, AV.b false, AV.b false, AV.b false, AV.b false, AV.b false, AV.b false, AV.b false, AV.b false, AV.b false, AV.b false, AV.b false, AV.b false, AV.b false, AV.b false, AV.b false, AV.b false, AV.b false, AV.b false, AV.b false, AV.b false, AV.b false, AV.b false, AV.b false, AV.b false, AV.b false, AV.b false, AV.b false, AV.b false, AV.b false, AV.b false, AV.b false, AV.b false, AV.b false, AV.b false, AV.b false, AV.b false, AV.b false, AV.b false, AV.b false, AV.b false, AV.b false, AV.b false, AV.b false, AV.b false, AV.b false, AV.b false, AV.b false, AV.b false, AV.b false, AV.b false, AV.b false, AV.b false, AV.b false, AV.b false, AV.b false, AV.b false, AV.b false, AV.b false, AV.b false, AV.b false, AV.b false, AV.b false, AV.b false, AV.b false, AV.b false, AV.b false, AV.b false, AV.b false, AV.b false, AV.b false, AV.b false, AV.b false, AV.b false, AV.b false, AV.b false, AV.b false, AV.b false, AV.b false, AV.b false, AV.b false, AV.b false, AV.b false, AV.b false, AV.b false, AV.b false, AV.b false, AV.b false, AV.b false, AV.b false, AV.b false, AV.b false, AV.b false, AV.b false, AV.b false, AV.b false, AV.b false, AV.b false, AV.b false, AV.b false, AV.b false, AV.b false, AV.b false, AV.b false, AV.b false, AV.b false, AV.b false, AV.b false, AV.b false, AV.b false, AV.b false, AV.b false, AV.b false, AV.b false, AV.b false, AV.b false, AV.b false, AV.b false, AV.b false, AV.b false, AV.b false, AV.b false, AV.b false, AV.b false, AV.b false, AV.b false, AV.b false, AV.b false, AV.b false, AV.b false, AV.b false, AV.b false, AV.b false, AV.b false, AV.b false, AV.b false, AV.b false, AV.b false, AV.b false, AV.b false, AV.b false, AV.b false, AV.b false, AV.b false, AV.b false, AV.b false, AV.b false, AV.b false, AV.b false, AV.b false, AV.b false, AV.b false, AV.b false, AV.b false, AV.b false, AV.b false, AV.b false, AV.b false, AV.b false, AV.b false, AV.b false, AV.b false, AV.b false, AV.b false, AV.b false, AV.b false, AV.b false, AV.b false, AV.b false, AV.b false, AV.b false, AV.b false, AV.b false, AV.b false, AV.b false, AV.b false, AV.b false, AV.b false, AV.b false, AV.b false, AV.b false, AV.b false, AV.b false, AV.b false, AV.b false, AV.b false, AV.b false, AV.b false, AV.b false, AV.b false, AV.b false, AV.b false, AV.b false, AV.b false, AV.b false, AV.b false, AV.b false] := by kernel_rfl
@[simp] theorem zsz_163 : zsz Go.Proofs.Tryz.prog 163 = some 256 := by kernel_rfl
@[simp] theorem zeroAV_163 : zeroAV Go.Proofs.Tryz.prog 163 = some (AV.agg [AV.b false, AV.b false, AV.b false, AV.b false, AV.b false, AV.b false, AV.b false, AV.b false, AV.b false, AV.b false, AV.b false, AV.b false, AV.b false, AV.b false, AV.b false, AV.b false, AV.b false, AV.b false, AV.b false, AV.b false, AV.b false, AV.b false, AV.b false, AV.b false, AV.b false, AV.b false, AV.b false, AV.b false, AV.b false, AV.b false, AV.b false, AV.b false, AV.b false, AV.b false, AV.b false, AV.b false, AV.b false, AV.b false, AV.b false, AV.b false, AV.b false, AV.b false, AV.b false, AV.b false, AV.b false, AV.b false, AV.b false, AV.b false, AV.b false, AV.b false, AV.b false, AV.b false, AV.b false, AV.b false, AV.b false, AV.b false, AV.b false, AV.b false, AV.b false, AV.b false, AV.b false, AV.b false, AV.b false, AV.b false, AV.b false, AV.b false, AV.b false, AV.b false, AV.b false, AV.b false, AV.b false, AV.b false, AV.b false, AV.b false, AV.b false, AV.b false, AV.b false, AV.b false, AV.b false, AV.b false, AV.b false, AV.b false, AV.b false, AV.b false, AV.b false, AV.b false, AV.b false, AV.b false, AV.b false, AV.b false, AV.b false, AV.b false, AV.b false, AV.b false, AV.b false, AV.b false, AV.b false, AV.b false, AV.b false, AV.b false, AV.b false, AV.b false, AV.b false, AV.b false, AV.b false, AV.b false, AV.b false, AV.b false, AV.b false, AV.b false, AV.b false, AV.b false, AV.b false, AV.b false, AV.b false, AV.b false, AV.b false, AV.b false, AV.b false, AV.b false, AV.b false, AV.b false, AV.b false, AV.b false, AV.b false, AV.b false, AV.b false, AV.b false, AV.b false, AV.b false, AV.b false, AV.b false, AV.b false, AV.b false, AV.b false, AV.b false, AV.b false, AV.b false, AV.b false, AV.b false, AV.b false, AV.b false, AV.b false, AV.b false, AV.b false, AV.b false, AV.b false, AV.b false, AV.b false, AV.b false, AV.b false, AV.b false, AV.b false, AV.b false, AV.b false, AV.b false, AV.b false, AV.b false, AV.b false, AV.b false, AV.b false, AV.b false, AV.b false, AV.b false, AV.b false, AV.b false, AV.b false, AV.b false, AV.b false, AV.b false, AV.b false, AV.b false, AV.b false, AV.b false, AV.b false, AV.b false, AV.b false, AV.b false, AV.b false, AV.b false, AV.b false, AV.b false, AV.b false, AV.b false, AV.b false, AV.b false, AV.b false, AV.b false, AV.b false, AV.b false, AV.b false, AV.b false, AV.b false, AV.b false, AV.b false, AV.b false, AV.b false, AV.b false, AV.b false, AV.b false, AV.b false, AV.b false, AV.b false, AV.b false, AV.b false, AV.b false, AV.b false, AV.b false, AV.b false, AV.b false, AV.b false, AV.b false, AV.b false, AV.b false, AV.b false, AV.b false, AV.b false, AV.b false, AV.b false, AV.b false, AV.b false, AV.b false, AV.b false, AV.b false, AV.b false, AV.b false, AV.b false, AV.b false, AV.b false, AV.b false, AV.b false, AV.b false, AV.b false, AV.b false, AV.b false, AV.b false, AV.b false, AV.b false, AV.b false, AV.b false, AV.b false, AV.b false, AV.b false, AV.b false, AV.b false, AV.b false, AV.b false, AV.b false, AV.b false, AV.b false, AV.b false, AV.b false, AV.b false, AV.b false, AV.b false, AV.b false]) := by kernel_rfl
@[simp] theorem underlying_164 : Program.underlying Go.Proofs.Tryz.prog 164 = some (TypeDesc.tuple { toList := [163, 4] }) := by kernel_rfl
@[simp] theorem szOf_164 : szOf Go.Proofs.Tryz.prog 164 = some 1 := by kernel_rfl
@[simp] theorem byOf_164 : byOf Go.Proofs.Tryz.prog 164 = some 0 := by kernel_rfl
@[simp] theorem zeroOf_164 : zeroOf Go.Proofs.Tryz.prog 164 = some [AV.undef] := by kernel_rfl
@[simp] theorem zsz_164 : zsz Go.Proofs.Tryz.prog 164 = some 1 := by kernel_rfl
@[simp] theorem zeroAV_164 : zeroAV Go.Proofs.Tryz.prog 164 = some AV.undef := by kernel_rfl
@[simp] theorem underlying_167 : Program.underlying Go.Proofs.Tryz.prog 167 = some (TypeDesc.pointer 163) := by kernel_rfl
@[simp] theorem szOf_167 : szOf Go.Proofs.Tryz.prog 167 = some 1 := by kernel_rfl
@[simp] theorem byOf_167 : byOf Go.Proofs.Tryz.prog 167 = some 8 := by kernel_rfl
@[simp] theorem zeroOf_167 : zeroOf Go.Proofs.Tryz.prog 167 = some [AV.np] := by kernel_rfl
@[simp] theorem zsz_167 : zsz Go.Proofs.Tryz.prog 167 = some 1 := by kernel_rfl
@[simp] theorem zeroAV_167 : zeroAV Go.Proofs.Tryz.prog 167 = some AV.np := by kernel_rfl
@[simp] theorem underlying_168 : Program.underlying Go.Proofs.Tryz.prog 168 = some (TypeDesc.tuple { toList := [9, 4] }) := by kernel_rfl
@[simp] theorem szOf_168 : szOf Go.Proofs.Tryz.prog 168 = some 1 := by kernel_rfl
@[simp] theorem byOf_168 : byOf Go.Proofs.Tryz.prog 168 = some 0 := by kernel_rfl
@[simp] theorem zeroOf_168 : zeroOf Go.Proofs.Tryz.prog 168 = some [AV.undef] := by kernel_rfl
@[simp] theorem zsz_168 : zsz Go.Proofs.Tryz.prog 168 = some 1 := by kernel_rfl
@[simp] theorem zeroAV_168 : zeroAV Go.Proofs.Tryz.prog 168 = some AV.undef := by kernel_rfl
@[simp] theorem underlying_171 : Program.underlying Go.Proofs.Tryz.prog 171 = some (TypeDesc.int IntKind.u64) := by kernel_rfl
@[simp] theorem szOf_171 : szOf Go.Proofs.Tryz.prog 171 = some 1 := by kernel_rfl
@[simp] theorem byOf_171 : byOf Go.Proofs.Tryz.prog 171 = some 8 := by kernel_rfl
@[simp] theorem zeroOf_171 : zeroOf Go.Proofs.Tryz.prog 171 = some [AV.i IntKind.u64 (0)] := by kernel_rfl
@[simp] theorem zsz_171 : zsz Go.Proofs.Tryz.prog 171 = some 1 := by kernel_rfl
@[simp] theorem zeroAV_171 : zeroAV Go.Proofs.Tryz.prog 171 = some (AV.i IntKind.u64 (0)) := by kernel_rfl
@[simp] theorem underlying_188 : Program.underlying Go.Proofs.Tryz.prog 188 = some (TypeDesc.int IntKind.i64) := by kernel_rfl
@[simp] theorem szOf_188 : szOf Go.Proofs.Tryz.prog 188 = some 1 := by kernel_rfl
@[simp] theorem byOf_188 : byOf Go.Proofs.Tryz.prog 188 = some 8 := by kernel_rfl
@[simp] theorem zeroOf_188 : zeroOf Go.Proofs.Tryz.prog 188 = some [AV.i IntKind.i64 (0)] := by kernel_rfl
@[simp] theorem zsz_188 : zsz Go.Proofs.Tryz.prog 188 = some 1 := by kernel_rfl
@[simp] theorem zeroAV_188 : zeroAV Go.Proofs.Tryz.prog 188 = some (AV.i IntKind.i64 (0)) := by kernel_rfl
@[simp] theorem underlying_189 : Program.underlying Go.Proofs.Tryz.prog 189 = some (TypeDesc.tuple { toList := [3, 188] }) := by kernel_rfl
@[simp] theorem szOf_189 : szOf Go.Proofs.Tryz.prog 189 = some 1 := by kernel_rfl
@[simp] theorem byOf_189 : byOf Go.Proofs.Tryz.prog 189 = some 0 := by kernel_rfl
@[simp] theorem zeroOf_189 : zeroOf Go.Proofs.Tryz.prog 189 = some [AV.undef] := by kernel_rfl
@[simp] theorem zsz_189 : zsz Go.Proofs.Tryz.prog 189 = some 1 := by kernel_rfl
@[simp] theorem zeroAV_189 : zeroAV Go.Proofs.Tryz.prog 189 = some AV.undef := by kernel_rfl
@[simp] theorem underlying_194 : Program.underlying Go.Proofs.Tryz.prog 194 = some (TypeDesc.tuple { toList := [3, 4] }) := by kernel_rfl
@[simp] theorem szOf_194 : szOf Go.Proofs.Tryz.prog 194 = some 1 := by kernel_rfl
@[simp] theorem byOf_194 : byOf Go.Proofs.Tryz.prog 194 = some 0 := by kernel_rfl
@[simp] theorem zeroOf_194 : zeroOf Go.Proofs.Tryz.prog 194 = some [AV.undef] := by kernel_rfl
@[simp] theorem zsz_194 : zsz Go.Proofs.Tryz.prog 194 = some 1 := by kernel_rfl
@[simp] theorem zeroAV_194 : zeroAV Go.Proofs.Tryz.prog 194 = some AV.undef := by kernel_rfl
@[simp] theorem underlying_197 : Program.underlying Go.Proofs.Tryz.prog 197 = some (TypeDesc.int IntKind.u32) := by kernel_rfl
@[simp] theorem szOf_197 : szOf Go.Proofs.Tryz.prog 197 = some 1 := by kernel_rfl
@[simp] theorem byOf_197 : byOf Go.Proofs.Tryz.prog 197 = some 4 := by kernel_rfl
@[simp] theorem zeroOf_197 : zeroOf Go.Proofs.Tryz.prog 197 = some [AV.i IntKind.u32 (0)] := by kernel_rfl
@[simp] theorem zsz_197 : zsz Go.Proofs.Tryz.prog 197 = some 1 := by kernel_rfl
@[simp] theorem zeroAV_197 : zeroAV Go.Proofs.Tryz.prog 197 = some (AV.i IntKind.u32 (0)) := by kernel_rfl
@[simp] theorem underlying_207 : Program.underlying Go.Proofs.Tryz.prog 207 = some (TypeDesc.pointer 3) := by kernel_rfl
@[simp] theorem szOf_207 : szOf Go.Proofs.Tryz.prog 207 = some 1 := by kernel_rfl
@[simp] theorem byOf_207 : byOf Go.Proofs.Tryz.prog 207 = some 8 := by kernel_rfl
@[simp] theorem zeroOf_207 : zeroOf Go.Proofs.Tryz.prog 207 = some [AV.np] := by kernel_rfl
@[simp] theorem zsz_207 : zsz Go.Proofs.Tryz.prog 207 = some 1 := by kernel_rfl
@[simp] theorem zeroAV_207 : zeroAV Go.Proofs.Tryz.prog 207 = some AV.np := by kernel_rfl
@[simp] theorem underlying_222 : Program.underlying Go.Proofs.Tryz.prog 222 = some (TypeDesc.tuple { toList := [3, 3] }) := by kernel_rfl
@[simp] theorem szOf_222 : szOf Go.Proofs.Tryz.prog 222 = some 1 := by kernel_rfl
@[simp] theorem byOf_222 : byOf Go.Proofs.Tryz.prog 222 = some 0 := by kernel_rfl
@[simp] theorem zeroOf_222 : zeroOf Go.Proofs.Tryz.prog 222 = some [AV.undef] := by kernel_rfl
@[simp] theorem zsz_222 : zsz Go.Proofs.Tryz.prog 222 = some 1 := by kernel_rfl
@[simp] theorem zeroAV_222 : zeroAV Go.Proofs.Tryz.prog 222 = some AV.undef := by kernel_rfl
end Ab
end Go.Proofs.YtmbbnoipoifhhaaGreatDoor
