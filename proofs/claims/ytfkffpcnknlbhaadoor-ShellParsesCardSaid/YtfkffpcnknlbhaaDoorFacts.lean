/-
  DERIVED. The tables of the interpreter for this seat, by program.
  Conditions: none.
-/
import Derived.Test.YtfkffpcnknlbhaaDoorCf
import Derived.KernelRfl
set_option linter.all false
set_option maxHeartbeats 4000000
namespace Go.Proofs.YtfkffpcnknlbhaaDoor
namespace Ab
@[simp] theorem underlying_0 : Program.underlying Tryd.prog 0 = some (TypeDesc.tuple { toList := [] }) := by kernel_rfl
@[simp] theorem szOf_0 : szOf Tryd.prog 0 = some 1 := by kernel_rfl
@[simp] theorem byOf_0 : byOf Tryd.prog 0 = some 0 := by kernel_rfl
@[simp] theorem zeroOf_0 : zeroOf Tryd.prog 0 = some [AV.undef] := by kernel_rfl
@[simp] theorem zsz_0 : zsz Tryd.prog 0 = some 1 := by kernel_rfl
@[simp] theorem underlying_1 : Program.underlying Tryd.prog 1 = some (TypeDesc.func { toList := [] } { toList := [] } false) := by kernel_rfl
@[simp] theorem szOf_1 : szOf Tryd.prog 1 = some 1 := by kernel_rfl
@[simp] theorem byOf_1 : byOf Tryd.prog 1 = some 8 := by kernel_rfl
@[simp] theorem zeroOf_1 : zeroOf Tryd.prog 1 = some [AV.nfn] := by kernel_rfl
@[simp] theorem zsz_1 : zsz Tryd.prog 1 = some 1 := by kernel_rfl
@[simp] theorem underlying_2 : Program.underlying Tryd.prog 2 = some (TypeDesc.int IntKind.i64) := by kernel_rfl
@[simp] theorem szOf_2 : szOf Tryd.prog 2 = some 1 := by kernel_rfl
@[simp] theorem byOf_2 : byOf Tryd.prog 2 = some 8 := by kernel_rfl
@[simp] theorem zeroOf_2 : zeroOf Tryd.prog 2 = some [AV.i IntKind.i64 (0)] := by kernel_rfl
@[simp] theorem zsz_2 : zsz Tryd.prog 2 = some 1 := by kernel_rfl
@[simp] theorem underlying_3 : Program.underlying Tryd.prog 3 = some (TypeDesc.int IntKind.i64) := by kernel_rfl
@[simp] theorem szOf_3 : szOf Tryd.prog 3 = some 1 := by kernel_rfl
@[simp] theorem byOf_3 : byOf Tryd.prog 3 = some 8 := by kernel_rfl
@[simp] theorem zeroOf_3 : zeroOf Tryd.prog 3 = some [AV.i IntKind.i64 (0)] := by kernel_rfl
@[simp] theorem zsz_3 : zsz Tryd.prog 3 = some 1 := by kernel_rfl
@[simp] theorem underlying_4 : Program.underlying Tryd.prog 4 = some TypeDesc.bool := by kernel_rfl
@[simp] theorem szOf_4 : szOf Tryd.prog 4 = some 1 := by kernel_rfl
@[simp] theorem byOf_4 : byOf Tryd.prog 4 = some 1 := by kernel_rfl
@[simp] theorem zeroOf_4 : zeroOf Tryd.prog 4 = some [AV.b false] := by kernel_rfl
@[simp] theorem zsz_4 : zsz Tryd.prog 4 = some 1 := by kernel_rfl
@[simp] theorem underlying_5 : Program.underlying Tryd.prog 5 = some (TypeDesc.int IntKind.u8) := by kernel_rfl
@[simp] theorem szOf_5 : szOf Tryd.prog 5 = some 1 := by kernel_rfl
@[simp] theorem byOf_5 : byOf Tryd.prog 5 = some 1 := by kernel_rfl
@[simp] theorem zeroOf_5 : zeroOf Tryd.prog 5 = some [AV.i IntKind.u8 (0)] := by kernel_rfl
@[simp] theorem zsz_5 : zsz Tryd.prog 5 = some 1 := by kernel_rfl
@[simp] theorem underlying_6 : Program.underlying Tryd.prog 6 = some (TypeDesc.int IntKind.u8) := by kernel_rfl
@[simp] theorem szOf_6 : szOf Tryd.prog 6 = some 1 := by kernel_rfl
@[simp] theorem byOf_6 : byOf Tryd.prog 6 = some 1 := by kernel_rfl
@[simp] theorem zeroOf_6 : zeroOf Tryd.prog 6 = some [AV.i IntKind.u8 (0)] := by kernel_rfl
@[simp] theorem zsz_6 : zsz Tryd.prog 6 = some 1 := by kernel_rfl
@[simp] theorem underlying_7 : Program.underlying Tryd.prog 7 = some (TypeDesc.struct { toList := [{ name := "x", type := 2, offset := 0, embedded := false, tag := "", pkgPath := "runtime", byteOffset := 0 }, { name := "y", type := 3, offset := 1, embedded := false, tag := "", pkgPath := "runtime", byteOffset := 8 }, { name := "signed", type := 4, offset := 2, embedded := false, tag := "", pkgPath := "runtime", byteOffset := 16 }, { name := "code", type := 6, offset := 3, embedded := false, tag := "", pkgPath := "runtime", byteOffset := 17 }] }) := by kernel_rfl
@[simp] theorem szOf_7 : szOf Tryd.prog 7 = some 4 := by kernel_rfl
@[simp] theorem byOf_7 : byOf Tryd.prog 7 = some 24 := by kernel_rfl
@[simp] theorem zeroOf_7 : zeroOf Tryd.prog 7 = some [AV.i IntKind.i64 (0), AV.i IntKind.i64 (0), AV.b false, AV.i IntKind.u8 (0)] := by kernel_rfl
@[simp] theorem zsz_7 : zsz Tryd.prog 7 = some 4 := by kernel_rfl
@[simp] theorem fieldOff_7_0 : fieldOff Tryd.prog 7 0 = some 0 := by kernel_rfl
@[simp] theorem fieldOff_7_1 : fieldOff Tryd.prog 7 1 = some 1 := by kernel_rfl
@[simp] theorem fieldOff_7_2 : fieldOff Tryd.prog 7 2 = some 2 := by kernel_rfl
@[simp] theorem fieldOff_7_3 : fieldOff Tryd.prog 7 3 = some 3 := by kernel_rfl
@[simp] theorem underlying_8 : Program.underlying Tryd.prog 8 = some (TypeDesc.struct { toList := [{ name := "x", type := 2, offset := 0, embedded := false, tag := "", pkgPath := "runtime", byteOffset := 0 }, { name := "y", type := 3, offset := 1, embedded := false, tag := "", pkgPath := "runtime", byteOffset := 8 }, { name := "signed", type := 4, offset := 2, embedded := false, tag := "", pkgPath := "runtime", byteOffset := 16 }, { name := "code", type := 6, offset := 3, embedded := false, tag := "", pkgPath := "runtime", byteOffset := 17 }] }) := by kernel_rfl
@[simp] theorem szOf_8 : szOf Tryd.prog 8 = some 4 := by kernel_rfl
@[simp] theorem byOf_8 : byOf Tryd.prog 8 = some 24 := by kernel_rfl
@[simp] theorem zeroOf_8 : zeroOf Tryd.prog 8 = some [AV.i IntKind.i64 (0), AV.i IntKind.i64 (0), AV.b false, AV.i IntKind.u8 (0)] := by kernel_rfl
@[simp] theorem zsz_8 : zsz Tryd.prog 8 = some 4 := by kernel_rfl
@[simp] theorem fieldOff_8_0 : fieldOff Tryd.prog 8 0 = some 0 := by kernel_rfl
@[simp] theorem fieldOff_8_1 : fieldOff Tryd.prog 8 1 = some 1 := by kernel_rfl
@[simp] theorem fieldOff_8_2 : fieldOff Tryd.prog 8 2 = some 2 := by kernel_rfl
@[simp] theorem fieldOff_8_3 : fieldOff Tryd.prog 8 3 = some 3 := by kernel_rfl
@[simp] theorem underlying_9 : Program.underlying Tryd.prog 9 = some TypeDesc.string := by kernel_rfl
@[simp] theorem szOf_9 : szOf Tryd.prog 9 = some 1 := by kernel_rfl
@[simp] theorem byOf_9 : byOf Tryd.prog 9 = some 16 := by kernel_rfl
@[simp] theorem zeroOf_9 : zeroOf Tryd.prog 9 = some [AV.s { data := { toList := [] } }] := by kernel_rfl
@[simp] theorem zsz_9 : zsz Tryd.prog 9 = some 1 := by kernel_rfl
@[simp] theorem underlying_10 : Program.underlying Tryd.prog 10 = some TypeDesc.string := by kernel_rfl
@[simp] theorem szOf_10 : szOf Tryd.prog 10 = some 1 := by kernel_rfl
@[simp] theorem byOf_10 : byOf Tryd.prog 10 = some 16 := by kernel_rfl
@[simp] theorem zeroOf_10 : zeroOf Tryd.prog 10 = some [AV.s { data := { toList := [] } }] := by kernel_rfl
@[simp] theorem zsz_10 : zsz Tryd.prog 10 = some 1 := by kernel_rfl
@[simp] theorem underlying_11 : Program.underlying Tryd.prog 11 = some TypeDesc.string := by kernel_rfl
@[simp] theorem szOf_11 : szOf Tryd.prog 11 = some 1 := by kernel_rfl
@[simp] theorem byOf_11 : byOf Tryd.prog 11 = some 16 := by kernel_rfl
@[simp] theorem zeroOf_11 : zeroOf Tryd.prog 11 = some [AV.s { data := { toList := [] } }] := by kernel_rfl
@[simp] theorem zsz_11 : zsz Tryd.prog 11 = some 1 := by kernel_rfl
@[simp] theorem underlying_12 : Program.underlying Tryd.prog 12 = some (TypeDesc.int IntKind.u64) := by kernel_rfl
@[simp] theorem szOf_12 : szOf Tryd.prog 12 = some 1 := by kernel_rfl
@[simp] theorem byOf_12 : byOf Tryd.prog 12 = some 8 := by kernel_rfl
@[simp] theorem zeroOf_12 : zeroOf Tryd.prog 12 = some [AV.i IntKind.u64 (0)] := by kernel_rfl
@[simp] theorem zsz_12 : zsz Tryd.prog 12 = some 1 := by kernel_rfl
@[simp] theorem underlying_13 : Program.underlying Tryd.prog 13 = some (TypeDesc.struct { toList := [{ name := "msg", type := 9, offset := 0, embedded := false, tag := "", pkgPath := "runtime", byteOffset := 0 }, { name := "addr", type := 12, offset := 1, embedded := false, tag := "", pkgPath := "runtime", byteOffset := 16 }] }) := by kernel_rfl
@[simp] theorem szOf_13 : szOf Tryd.prog 13 = some 2 := by kernel_rfl
@[simp] theorem byOf_13 : byOf Tryd.prog 13 = some 24 := by kernel_rfl
@[simp] theorem zeroOf_13 : zeroOf Tryd.prog 13 = some [AV.s { data := { toList := [] } }, AV.i IntKind.u64 (0)] := by kernel_rfl
@[simp] theorem zsz_13 : zsz Tryd.prog 13 = some 2 := by kernel_rfl
@[simp] theorem fieldOff_13_0 : fieldOff Tryd.prog 13 0 = some 0 := by kernel_rfl
@[simp] theorem fieldOff_13_1 : fieldOff Tryd.prog 13 1 = some 1 := by kernel_rfl
@[simp] theorem underlying_14 : Program.underlying Tryd.prog 14 = some (TypeDesc.struct { toList := [{ name := "msg", type := 9, offset := 0, embedded := false, tag := "", pkgPath := "runtime", byteOffset := 0 }, { name := "addr", type := 12, offset := 1, embedded := false, tag := "", pkgPath := "runtime", byteOffset := 16 }] }) := by kernel_rfl
@[simp] theorem szOf_14 : szOf Tryd.prog 14 = some 2 := by kernel_rfl
@[simp] theorem byOf_14 : byOf Tryd.prog 14 = some 24 := by kernel_rfl
@[simp] theorem zeroOf_14 : zeroOf Tryd.prog 14 = some [AV.s { data := { toList := [] } }, AV.i IntKind.u64 (0)] := by kernel_rfl
@[simp] theorem zsz_14 : zsz Tryd.prog 14 = some 2 := by kernel_rfl
@[simp] theorem fieldOff_14_0 : fieldOff Tryd.prog 14 0 = some 0 := by kernel_rfl
@[simp] theorem fieldOff_14_1 : fieldOff Tryd.prog 14 1 = some 1 := by kernel_rfl
@[simp] theorem underlying_15 : Program.underlying Tryd.prog 15 = some (TypeDesc.pointer 115) := by kernel_rfl
@[simp] theorem szOf_15 : szOf Tryd.prog 15 = some 1 := by kernel_rfl
@[simp] theorem byOf_15 : byOf Tryd.prog 15 = some 8 := by kernel_rfl
@[simp] theorem zeroOf_15 : zeroOf Tryd.prog 15 = some [AV.np] := by kernel_rfl
@[simp] theorem zsz_15 : zsz Tryd.prog 15 = some 1 := by kernel_rfl
@[simp] theorem underlying_16 : Program.underlying Tryd.prog 16 = some (TypeDesc.pointer 118) := by kernel_rfl
@[simp] theorem szOf_16 : szOf Tryd.prog 16 = some 1 := by kernel_rfl
@[simp] theorem byOf_16 : byOf Tryd.prog 16 = some 8 := by kernel_rfl
@[simp] theorem zeroOf_16 : zeroOf Tryd.prog 16 = some [AV.np] := by kernel_rfl
@[simp] theorem zsz_16 : zsz Tryd.prog 16 = some 1 := by kernel_rfl
@[simp] theorem underlying_17 : Program.underlying Tryd.prog 17 = some (TypeDesc.pointer 126) := by kernel_rfl
@[simp] theorem szOf_17 : szOf Tryd.prog 17 = some 1 := by kernel_rfl
@[simp] theorem byOf_17 : byOf Tryd.prog 17 = some 8 := by kernel_rfl
@[simp] theorem zeroOf_17 : zeroOf Tryd.prog 17 = some [AV.np] := by kernel_rfl
@[simp] theorem zsz_17 : zsz Tryd.prog 17 = some 1 := by kernel_rfl
@[simp] theorem underlying_18 : Program.underlying Tryd.prog 18 = some (TypeDesc.struct { toList := [{ name := "typ", type := 17, offset := 0, embedded := false, tag := "", pkgPath := "internal/runtime/maps", byteOffset := 0 }] }) := by kernel_rfl
@[simp] theorem szOf_18 : szOf Tryd.prog 18 = some 1 := by kernel_rfl
@[simp] theorem byOf_18 : byOf Tryd.prog 18 = some 8 := by kernel_rfl
@[simp] theorem zeroOf_18 : zeroOf Tryd.prog 18 = some [AV.np] := by kernel_rfl
@[simp] theorem zsz_18 : zsz Tryd.prog 18 = some 1 := by kernel_rfl
@[simp] theorem fieldOff_18_0 : fieldOff Tryd.prog 18 0 = some 0 := by kernel_rfl
@[simp] theorem underlying_19 : Program.underlying Tryd.prog 19 = some (TypeDesc.struct { toList := [{ name := "typ", type := 17, offset := 0, embedded := false, tag := "", pkgPath := "internal/runtime/maps", byteOffset := 0 }] }) := by kernel_rfl
@[simp] theorem szOf_19 : szOf Tryd.prog 19 = some 1 := by kernel_rfl
@[simp] theorem byOf_19 : byOf Tryd.prog 19 = some 8 := by kernel_rfl
@[simp] theorem zeroOf_19 : zeroOf Tryd.prog 19 = some [AV.np] := by kernel_rfl
@[simp] theorem zsz_19 : zsz Tryd.prog 19 = some 1 := by kernel_rfl
@[simp] theorem fieldOff_19_0 : fieldOff Tryd.prog 19 0 = some 0 := by kernel_rfl
@[simp] theorem underlying_20 : Program.underlying Tryd.prog 20 = some (TypeDesc.interface { toList := [] }) := by kernel_rfl
@[simp] theorem szOf_20 : szOf Tryd.prog 20 = some 1 := by kernel_rfl
@[simp] theorem byOf_20 : byOf Tryd.prog 20 = some 16 := by kernel_rfl
@[simp] theorem zeroOf_20 : zeroOf Tryd.prog 20 = some [AV.undef] := by kernel_rfl
@[simp] theorem zsz_20 : zsz Tryd.prog 20 = some 1 := by kernel_rfl
@[simp] theorem underlying_21 : Program.underlying Tryd.prog 21 = some (TypeDesc.int IntKind.i32) := by kernel_rfl
@[simp] theorem szOf_21 : szOf Tryd.prog 21 = some 1 := by kernel_rfl
@[simp] theorem byOf_21 : byOf Tryd.prog 21 = some 4 := by kernel_rfl
@[simp] theorem zeroOf_21 : zeroOf Tryd.prog 21 = some [AV.i IntKind.i32 (0)] := by kernel_rfl
@[simp] theorem zsz_21 : zsz Tryd.prog 21 = some 1 := by kernel_rfl
@[simp] theorem underlying_22 : Program.underlying Tryd.prog 22 = some (TypeDesc.slice 28) := by kernel_rfl
@[simp] theorem szOf_22 : szOf Tryd.prog 22 = some 1 := by kernel_rfl
@[simp] theorem byOf_22 : byOf Tryd.prog 22 = some 24 := by kernel_rfl
@[simp] theorem zeroOf_22 : zeroOf Tryd.prog 22 = some [AV.vs true 0 []] := by kernel_rfl
@[simp] theorem zsz_22 : zsz Tryd.prog 22 = some 1 := by kernel_rfl
@[simp] theorem elemOf_22 : elemOf Tryd.prog 22 = some 28 := by kernel_rfl
@[simp] theorem underlying_23 : Program.underlying Tryd.prog 23 = some (TypeDesc.int IntKind.i64) := by kernel_rfl
@[simp] theorem szOf_23 : szOf Tryd.prog 23 = some 1 := by kernel_rfl
@[simp] theorem byOf_23 : byOf Tryd.prog 23 = some 8 := by kernel_rfl
@[simp] theorem zeroOf_23 : zeroOf Tryd.prog 23 = some [AV.i IntKind.i64 (0)] := by kernel_rfl
@[simp] theorem zsz_23 : zsz Tryd.prog 23 = some 1 := by kernel_rfl
@[simp] theorem underlying_24 : Program.underlying Tryd.prog 24 = some (TypeDesc.tuple { toList := [22, 3, 23] }) := by kernel_rfl
@[simp] theorem szOf_24 : szOf Tryd.prog 24 = some 1 := by kernel_rfl
@[simp] theorem byOf_24 : byOf Tryd.prog 24 = some 0 := by kernel_rfl
@[simp] theorem zeroOf_24 : zeroOf Tryd.prog 24 = some [AV.undef] := by kernel_rfl
@[simp] theorem zsz_24 : zsz Tryd.prog 24 = some 1 := by kernel_rfl
@[simp] theorem underlying_25 : Program.underlying Tryd.prog 25 = some (TypeDesc.func { toList := [9] } { toList := [22, 3, 23] } false) := by kernel_rfl
@[simp] theorem szOf_25 : szOf Tryd.prog 25 = some 1 := by kernel_rfl
@[simp] theorem byOf_25 : byOf Tryd.prog 25 = some 8 := by kernel_rfl
@[simp] theorem zeroOf_25 : zeroOf Tryd.prog 25 = some [AV.nfn] := by kernel_rfl
@[simp] theorem zsz_25 : zsz Tryd.prog 25 = some 1 := by kernel_rfl
@[simp] theorem underlying_26 : Program.underlying Tryd.prog 26 = some (TypeDesc.slice 9) := by kernel_rfl
@[simp] theorem szOf_26 : szOf Tryd.prog 26 = some 1 := by kernel_rfl
@[simp] theorem byOf_26 : byOf Tryd.prog 26 = some 24 := by kernel_rfl
@[simp] theorem zeroOf_26 : zeroOf Tryd.prog 26 = some [AV.vs true 0 []] := by kernel_rfl
@[simp] theorem zsz_26 : zsz Tryd.prog 26 = some 1 := by kernel_rfl
@[simp] theorem elemOf_26 : elemOf Tryd.prog 26 = some 9 := by kernel_rfl
@[simp] theorem underlying_27 : Program.underlying Tryd.prog 27 = some (TypeDesc.struct { toList := [{ name := "Line", type := 3, offset := 0, embedded := false, tag := "", pkgPath := "", byteOffset := 0 }, { name := "Word", type := 9, offset := 1, embedded := false, tag := "", pkgPath := "", byteOffset := 8 }, { name := "Args", type := 26, offset := 2, embedded := false, tag := "", pkgPath := "", byteOffset := 24 }] }) := by kernel_rfl
@[simp] theorem szOf_27 : szOf Tryd.prog 27 = some 3 := by kernel_rfl
@[simp] theorem byOf_27 : byOf Tryd.prog 27 = some 48 := by kernel_rfl
@[simp] theorem zeroOf_27 : zeroOf Tryd.prog 27 = some [AV.i IntKind.i64 (0), AV.s { data := { toList := [] } }, AV.vs true 0 []] := by kernel_rfl
@[simp] theorem zsz_27 : zsz Tryd.prog 27 = some 3 := by kernel_rfl
@[simp] theorem fieldOff_27_0 : fieldOff Tryd.prog 27 0 = some 0 := by kernel_rfl
@[simp] theorem fieldOff_27_1 : fieldOff Tryd.prog 27 1 = some 1 := by kernel_rfl
@[simp] theorem fieldOff_27_2 : fieldOff Tryd.prog 27 2 = some 2 := by kernel_rfl
@[simp] theorem underlying_28 : Program.underlying Tryd.prog 28 = some (TypeDesc.struct { toList := [{ name := "Line", type := 3, offset := 0, embedded := false, tag := "", pkgPath := "", byteOffset := 0 }, { name := "Word", type := 9, offset := 1, embedded := false, tag := "", pkgPath := "", byteOffset := 8 }, { name := "Args", type := 26, offset := 2, embedded := false, tag := "", pkgPath := "", byteOffset := 24 }] }) := by kernel_rfl
@[simp] theorem szOf_28 : szOf Tryd.prog 28 = some 3 := by kernel_rfl
@[simp] theorem byOf_28 : byOf Tryd.prog 28 = some 48 := by kernel_rfl
@[simp] theorem zeroOf_28 : zeroOf Tryd.prog 28 = some [AV.i IntKind.i64 (0), AV.s { data := { toList := [] } }, AV.vs true 0 []] := by kernel_rfl
@[simp] theorem zsz_28 : zsz Tryd.prog 28 = some 3 := by kernel_rfl
@[simp] theorem fieldOff_28_0 : fieldOff Tryd.prog 28 0 = some 0 := by kernel_rfl
@[simp] theorem fieldOff_28_1 : fieldOff Tryd.prog 28 1 = some 1 := by kernel_rfl
@[simp] theorem fieldOff_28_2 : fieldOff Tryd.prog 28 2 = some 2 := by kernel_rfl
@[simp] theorem underlying_29 : Program.underlying Tryd.prog 29 = some (TypeDesc.func { toList := [9] } { toList := [4] } false) := by kernel_rfl
@[simp] theorem szOf_29 : szOf Tryd.prog 29 = some 1 := by kernel_rfl
@[simp] theorem byOf_29 : byOf Tryd.prog 29 = some 8 := by kernel_rfl
@[simp] theorem zeroOf_29 : zeroOf Tryd.prog 29 = some [AV.nfn] := by kernel_rfl
@[simp] theorem zsz_29 : zsz Tryd.prog 29 = some 1 := by kernel_rfl
@[simp] theorem underlying_30 : Program.underlying Tryd.prog 30 = some (TypeDesc.func { toList := [9] } { toList := [26] } false) := by kernel_rfl
@[simp] theorem szOf_30 : szOf Tryd.prog 30 = some 1 := by kernel_rfl
@[simp] theorem byOf_30 : byOf Tryd.prog 30 = some 8 := by kernel_rfl
@[simp] theorem zeroOf_30 : zeroOf Tryd.prog 30 = some [AV.nfn] := by kernel_rfl
@[simp] theorem zsz_30 : zsz Tryd.prog 30 = some 1 := by kernel_rfl
@[simp] theorem underlying_31 : Program.underlying Tryd.prog 31 = some (TypeDesc.tuple { toList := [9, 9] }) := by kernel_rfl
@[simp] theorem szOf_31 : szOf Tryd.prog 31 = some 1 := by kernel_rfl
@[simp] theorem byOf_31 : byOf Tryd.prog 31 = some 0 := by kernel_rfl
@[simp] theorem zeroOf_31 : zeroOf Tryd.prog 31 = some [AV.undef] := by kernel_rfl
@[simp] theorem zsz_31 : zsz Tryd.prog 31 = some 1 := by kernel_rfl
@[simp] theorem underlying_32 : Program.underlying Tryd.prog 32 = some (TypeDesc.func { toList := [9] } { toList := [9, 9] } false) := by kernel_rfl
@[simp] theorem szOf_32 : szOf Tryd.prog 32 = some 1 := by kernel_rfl
@[simp] theorem byOf_32 : byOf Tryd.prog 32 = some 8 := by kernel_rfl
@[simp] theorem zeroOf_32 : zeroOf Tryd.prog 32 = some [AV.nfn] := by kernel_rfl
@[simp] theorem zsz_32 : zsz Tryd.prog 32 = some 1 := by kernel_rfl
@[simp] theorem underlying_33 : Program.underlying Tryd.prog 33 = some (TypeDesc.tuple { toList := [9, 4] }) := by kernel_rfl
@[simp] theorem szOf_33 : szOf Tryd.prog 33 = some 1 := by kernel_rfl
@[simp] theorem byOf_33 : byOf Tryd.prog 33 = some 0 := by kernel_rfl
@[simp] theorem zeroOf_33 : zeroOf Tryd.prog 33 = some [AV.undef] := by kernel_rfl
@[simp] theorem zsz_33 : zsz Tryd.prog 33 = some 1 := by kernel_rfl
@[simp] theorem underlying_34 : Program.underlying Tryd.prog 34 = some (TypeDesc.func { toList := [9] } { toList := [9, 4] } false) := by kernel_rfl
@[simp] theorem szOf_34 : szOf Tryd.prog 34 = some 1 := by kernel_rfl
@[simp] theorem byOf_34 : byOf Tryd.prog 34 = some 8 := by kernel_rfl
@[simp] theorem zeroOf_34 : zeroOf Tryd.prog 34 = some [AV.nfn] := by kernel_rfl
@[simp] theorem zsz_34 : zsz Tryd.prog 34 = some 1 := by kernel_rfl
@[simp] theorem underlying_35 : Program.underlying Tryd.prog 35 = some (TypeDesc.tuple { toList := [26, 4] }) := by kernel_rfl
@[simp] theorem szOf_35 : szOf Tryd.prog 35 = some 1 := by kernel_rfl
@[simp] theorem byOf_35 : byOf Tryd.prog 35 = some 0 := by kernel_rfl
@[simp] theorem zeroOf_35 : zeroOf Tryd.prog 35 = some [AV.undef] := by kernel_rfl
@[simp] theorem zsz_35 : zsz Tryd.prog 35 = some 1 := by kernel_rfl
@[simp] theorem underlying_36 : Program.underlying Tryd.prog 36 = some (TypeDesc.func { toList := [9, 9] } { toList := [26, 4] } false) := by kernel_rfl
@[simp] theorem szOf_36 : szOf Tryd.prog 36 = some 1 := by kernel_rfl
@[simp] theorem byOf_36 : byOf Tryd.prog 36 = some 8 := by kernel_rfl
@[simp] theorem zeroOf_36 : zeroOf Tryd.prog 36 = some [AV.nfn] := by kernel_rfl
@[simp] theorem zsz_36 : zsz Tryd.prog 36 = some 1 := by kernel_rfl
@[simp] theorem underlying_37 : Program.underlying Tryd.prog 37 = some (TypeDesc.tuple { toList := [9, 9, 4] }) := by kernel_rfl
@[simp] theorem szOf_37 : szOf Tryd.prog 37 = some 1 := by kernel_rfl
@[simp] theorem byOf_37 : byOf Tryd.prog 37 = some 0 := by kernel_rfl
@[simp] theorem zeroOf_37 : zeroOf Tryd.prog 37 = some [AV.undef] := by kernel_rfl
@[simp] theorem zsz_37 : zsz Tryd.prog 37 = some 1 := by kernel_rfl
@[simp] theorem underlying_38 : Program.underlying Tryd.prog 38 = some (TypeDesc.func { toList := [9, 9] } { toList := [9, 9, 4] } false) := by kernel_rfl
@[simp] theorem szOf_38 : szOf Tryd.prog 38 = some 1 := by kernel_rfl
@[simp] theorem byOf_38 : byOf Tryd.prog 38 = some 8 := by kernel_rfl
@[simp] theorem zeroOf_38 : zeroOf Tryd.prog 38 = some [AV.nfn] := by kernel_rfl
@[simp] theorem zsz_38 : zsz Tryd.prog 38 = some 1 := by kernel_rfl
@[simp] theorem underlying_39 : Program.underlying Tryd.prog 39 = some (TypeDesc.tuple { toList := [28, 4] }) := by kernel_rfl
@[simp] theorem szOf_39 : szOf Tryd.prog 39 = some 1 := by kernel_rfl
@[simp] theorem byOf_39 : byOf Tryd.prog 39 = some 0 := by kernel_rfl
@[simp] theorem zeroOf_39 : zeroOf Tryd.prog 39 = some [AV.undef] := by kernel_rfl
@[simp] theorem zsz_39 : zsz Tryd.prog 39 = some 1 := by kernel_rfl
@[simp] theorem underlying_40 : Program.underlying Tryd.prog 40 = some (TypeDesc.func { toList := [9] } { toList := [28, 4] } false) := by kernel_rfl
@[simp] theorem szOf_40 : szOf Tryd.prog 40 = some 1 := by kernel_rfl
@[simp] theorem byOf_40 : byOf Tryd.prog 40 = some 8 := by kernel_rfl
@[simp] theorem zeroOf_40 : zeroOf Tryd.prog 40 = some [AV.nfn] := by kernel_rfl
@[simp] theorem zsz_40 : zsz Tryd.prog 40 = some 1 := by kernel_rfl
@[simp] theorem underlying_41 : Program.underlying Tryd.prog 41 = some (TypeDesc.func { toList := [9] } { toList := [9] } false) := by kernel_rfl
@[simp] theorem szOf_41 : szOf Tryd.prog 41 = some 1 := by kernel_rfl
@[simp] theorem byOf_41 : byOf Tryd.prog 41 = some 8 := by kernel_rfl
@[simp] theorem zeroOf_41 : zeroOf Tryd.prog 41 = some [AV.nfn] := by kernel_rfl
@[simp] theorem zsz_41 : zsz Tryd.prog 41 = some 1 := by kernel_rfl
@[simp] theorem underlying_42 : Program.underlying Tryd.prog 42 = some (TypeDesc.func { toList := [9] } { toList := [3] } false) := by kernel_rfl
@[simp] theorem szOf_42 : szOf Tryd.prog 42 = some 1 := by kernel_rfl
@[simp] theorem byOf_42 : byOf Tryd.prog 42 = some 8 := by kernel_rfl
@[simp] theorem zeroOf_42 : zeroOf Tryd.prog 42 = some [AV.nfn] := by kernel_rfl
@[simp] theorem zsz_42 : zsz Tryd.prog 42 = some 1 := by kernel_rfl
@[simp] theorem underlying_43 : Program.underlying Tryd.prog 43 = some (TypeDesc.func { toList := [9, 9] } { toList := [9] } false) := by kernel_rfl
@[simp] theorem szOf_43 : szOf Tryd.prog 43 = some 1 := by kernel_rfl
@[simp] theorem byOf_43 : byOf Tryd.prog 43 = some 8 := by kernel_rfl
@[simp] theorem zeroOf_43 : zeroOf Tryd.prog 43 = some [AV.nfn] := by kernel_rfl
@[simp] theorem zsz_43 : zsz Tryd.prog 43 = some 1 := by kernel_rfl
@[simp] theorem underlying_44 : Program.underlying Tryd.prog 44 = some (TypeDesc.func { toList := [5, 9] } { toList := [4] } false) := by kernel_rfl
@[simp] theorem szOf_44 : szOf Tryd.prog 44 = some 1 := by kernel_rfl
@[simp] theorem byOf_44 : byOf Tryd.prog 44 = some 8 := by kernel_rfl
@[simp] theorem zeroOf_44 : zeroOf Tryd.prog 44 = some [AV.nfn] := by kernel_rfl
@[simp] theorem zsz_44 : zsz Tryd.prog 44 = some 1 := by kernel_rfl
@[simp] theorem underlying_45 : Program.underlying Tryd.prog 45 = some (TypeDesc.func { toList := [9, 9] } { toList := [3] } false) := by kernel_rfl
@[simp] theorem szOf_45 : szOf Tryd.prog 45 = some 1 := by kernel_rfl
@[simp] theorem byOf_45 : byOf Tryd.prog 45 = some 8 := by kernel_rfl
@[simp] theorem zeroOf_45 : zeroOf Tryd.prog 45 = some [AV.nfn] := by kernel_rfl
@[simp] theorem zsz_45 : zsz Tryd.prog 45 = some 1 := by kernel_rfl
@[simp] theorem underlying_46 : Program.underlying Tryd.prog 46 = some (TypeDesc.func { toList := [9, 5] } { toList := [9] } false) := by kernel_rfl
@[simp] theorem szOf_46 : szOf Tryd.prog 46 = some 1 := by kernel_rfl
@[simp] theorem byOf_46 : byOf Tryd.prog 46 = some 8 := by kernel_rfl
@[simp] theorem zeroOf_46 : zeroOf Tryd.prog 46 = some [AV.nfn] := by kernel_rfl
@[simp] theorem zsz_46 : zsz Tryd.prog 46 = some 1 := by kernel_rfl
@[simp] theorem underlying_47 : Program.underlying Tryd.prog 47 = some (TypeDesc.array 256 4) := by kernel_rfl
@[simp] theorem szOf_47 : szOf Tryd.prog 47 = some 256 := by kernel_rfl
@[simp] theorem byOf_47 : byOf Tryd.prog 47 = some 256 := by kernel_rfl
@[simp] theorem zeroOf_47 : zeroOf Tryd.prog 47 = some [AV.b false, AV.b false, AV.b false, AV.b false, AV.b false, AV.b false, AV.b false, AV.b false, AV.b false, AV.b false, AV.b false, AV.b false, AV.b false, AV.b false, AV.b false, AV.b false, AV.b false, AV.b false, AV.b false, AV.b false, AV.b false, AV.b false, AV.b false, AV.b false, AV.b false, AV.b false, AV.b false, AV.b false, AV.b false, AV.b false, AV.b false, AV.b false, AV.b false, AV.b false, AV.b false, AV.b false, AV.b false, AV.b false, AV.b false, AV.b false, AV.b false, AV.b false, AV.b false, AV.b false, AV.b false, AV.b false, AV.b false, AV.b false, AV.b false, AV.b false, AV.b false, AV.b false, AV.b false, AV.b false, AV.b false, AV.b false, AV.b false, AV.b false, AV.b false, AV.b false, AV.b false, AV.b false, AV.b false, AV.b false, AV.b false, AV.b false, AV.b false, AV.b false, AV.b false, AV.b false, AV.b false, AV.b false, AV.b false, AV.b false, AV.b false, AV.b false, AV.b false, AV.b false, AV.b false, AV.b false, AV.b false, AV.b false, AV.b false, AV.b false, AV.b false, AV.b false, AV.b false, AV.b false, AV.b false, AV.b false, AV.b false, AV.b false, AV.b false, AV.b false, AV.b false, AV.b false, AV.b false, AV.b false, AV.b false, AV.b false, AV.b false, AV.b false, AV.b false, AV.b false, AV.b false, AV.b false, AV.b false, AV.b false, AV.b false, AV.b false, AV.b false, AV.b false, AV.b false, AV.b false, AV.b false, AV.b false, AV.b false, AV.b false, AV.b false, AV.b false, AV.b false, AV.b false, AV.b false, AV.b false, AV.b false, AV.b false, AV.b false, AV.b false, AV.b false, AV.b false, AV.b false, AV.b false, AV.b false, AV.b false, AV.b false, AV.b false, AV.b false, AV.b false, AV.b false, AV.b false, AV.b false, AV.b false, AV.b false, AV.b false, AV.b false, AV.b false, AV.b false, AV.b false, AV.b false, AV.b false, AV.b false, AV.b false, AV.b false, AV.b false, AV.b false, AV.b false, AV.b false, AV.b false, AV.b false, AV.b false, AV.b false, AV.b false, AV.b false, AV.b false, AV.b false, AV.b false, AV.b false, AV.b false, AV.b false, AV.b false, AV.b false, AV.b false, AV.b false, AV.b false, AV.b false, AV.b false, AV.b false, AV.b false, AV.b false, AV.b false, AV.b false, AV.b false, AV.b false, AV.b false, AV.b false, AV.b false, AV.b false, AV.b false, AV.b false, AV.b false, AV.b false, AV.b false, AV.b false, AV.b false, AV.b false, AV.b false, AV.b false, AV.b false, AV.b false, AV.b false, AV.b false, AV.b false, AV.b false, AV.b false, AV.b false, AV.b false, AV.b false, AV.b false, AV.b false, AV.b false, AV.b false, AV.b false, AV.b false, AV.b false, AV.b false, AV.b false, AV.b false, AV.b false, AV.b false, AV.b false, AV.b false, AV.b false, AV.b false, AV.b false, AV.b false, AV.b false, AV.b false, AV.b false, AV.b false, AV.b false, AV.b false, AV.b false, AV.b false, AV.b false, AV.b false, AV.b false, AV.b false, AV.b false, AV.b false, AV.b false, AV.b false, AV.b false, AV.b false, AV.b false, AV.b false, AV.b false, AV.b false, AV.b false, AV.b false, AV.b false, AV.b false, AV.b false, AV.b false, AV.b false, AV.b false, AV.b false] := by kernel_rfl
@[simp] theorem zsz_47 : zsz Tryd.prog 47 = some 256 := by kernel_rfl
@[simp] theorem underlying_48 : Program.underlying Tryd.prog 48 = some (TypeDesc.array 256 4) := by kernel_rfl
@[simp] theorem szOf_48 : szOf Tryd.prog 48 = some 256 := by kernel_rfl
@[simp] theorem byOf_48 : byOf Tryd.prog 48 = some 256 := by kernel_rfl
@[simp] theorem zeroOf_48 : zeroOf Tryd.prog 48 = some [AV.b false, AV.b false, AV.b false, AV.b false, AV.b false, AV.b false, AV.b false, AV.b false, AV.b false, AV.b false, AV.b false, AV.b false, AV.b false, AV.b false, AV.b false, AV.b false, AV.b false, AV.b false, AV.b false, AV.b false, AV.b false, AV.b false, AV.b false, AV.b false, AV.b false, AV.b false, AV.b false, AV.b false, AV.b false, AV.b false, AV.b false, AV.b false, AV.b false, AV.b false, AV.b false, AV.b false, AV.b false, AV.b false, AV.b false, AV.b false, AV.b false, AV.b false, AV.b false, AV.b false, AV.b false, AV.b false, AV.b false, AV.b false, AV.b false, AV.b false, AV.b false, AV.b false, AV.b false, AV.b false, AV.b false, AV.b false, AV.b false, AV.b false, AV.b false, AV.b false, AV.b false, AV.b false, AV.b false, AV.b false, AV.b false, AV.b false, AV.b false, AV.b false, AV.b false, AV.b false, AV.b false, AV.b false, AV.b false, AV.b false, AV.b false, AV.b false, AV.b false, AV.b false, AV.b false, AV.b false, AV.b false, AV.b false, AV.b false, AV.b false, AV.b false, AV.b false, AV.b false, AV.b false, AV.b false, AV.b false, AV.b false, AV.b false, AV.b false, AV.b false, AV.b false, AV.b false, AV.b false, AV.b false, AV.b false, AV.b false, AV.b false, AV.b false, AV.b false, AV.b false, AV.b false, AV.b false, AV.b false, AV.b false, AV.b false, AV.b false, AV.b false, AV.b false, AV.b false, AV.b false, AV.b false, AV.b false, AV.b false, AV.b false, AV.b false, AV.b false, AV.b false, AV.b false, AV.b false, AV.b false, AV.b false, AV.b false, AV.b false, AV.b false, AV.b false, AV.b false, AV.b false, AV.b false, AV.b false, AV.b false, AV.b false, AV.b false, AV.b false, AV.b false, AV.b false, AV.b false, AV.b false, AV.b false, AV.b false, AV.b false, AV.b false, AV.b false, AV.b false, AV.b false, AV.b false, AV.b false, AV.b false, AV.b false, AV.b false, AV.b false, AV.b false, AV.b false, AV.b false, AV.b false, AV.b false, AV.b false, AV.b false, AV.b false, AV.b false, AV.b false, AV.b false, AV.b false, AV.b false, AV.b false, AV.b false, AV.b false, AV.b false, AV.b false, AV.b false, AV.b false, AV.b false, AV.b false, AV.b false, AV.b false, AV.b false, AV.b false, AV.b false, AV.b false, AV.b false, AV.b false, AV.b false, AV.b false, AV.b false, AV.b false, AV.b false, AV.b false, AV.b false, AV.b false, AV.b false, AV.b false, AV.b false, AV.b false, AV.b false, AV.b false, AV.b false, AV.b false, AV.b false, AV.b false, AV.b false, AV.b false, AV.b false, AV.b false, AV.b false, AV.b false, AV.b false, AV.b false, AV.b false, AV.b false, AV.b false, AV.b false, AV.b false, AV.b false, AV.b false, AV.b false, AV.b false, AV.b false, AV.b false, AV.b false, AV.b false, AV.b false, AV.b false, AV.b false, AV.b false, AV.b false, AV.b false, AV.b false, AV.b false, AV.b false, AV.b false, AV.b false, AV.b false, AV.b false, AV.b false, AV.b false, AV.b false, AV.b false, AV.b false, AV.b false, AV.b false, AV.b false, AV.b false, AV.b false, AV.b false, AV.b false, AV.b false, AV.b false, AV.b false, AV.b false, AV.b false, AV.b false, AV.b false, AV.b false] := by kernel_rfl
@[simp] theorem zsz_48 : zsz Tryd.prog 48 = some 256 := by kernel_rfl
@[simp] theorem underlying_49 : Program.underlying Tryd.prog 49 = some (TypeDesc.tuple { toList := [48, 4] }) := by kernel_rfl
@[simp] theorem szOf_49 : szOf Tryd.prog 49 = some 1 := by kernel_rfl
@[simp] theorem byOf_49 : byOf Tryd.prog 49 = some 0 := by kernel_rfl
@[simp] theorem zeroOf_49 : zeroOf Tryd.prog 49 = some [AV.undef] := by kernel_rfl
@[simp] theorem zsz_49 : zsz Tryd.prog 49 = some 1 := by kernel_rfl
@[simp] theorem underlying_50 : Program.underlying Tryd.prog 50 = some (TypeDesc.func { toList := [9] } { toList := [48, 4] } false) := by kernel_rfl
@[simp] theorem szOf_50 : szOf Tryd.prog 50 = some 1 := by kernel_rfl
@[simp] theorem byOf_50 : byOf Tryd.prog 50 = some 8 := by kernel_rfl
@[simp] theorem zeroOf_50 : zeroOf Tryd.prog 50 = some [AV.nfn] := by kernel_rfl
@[simp] theorem zsz_50 : zsz Tryd.prog 50 = some 1 := by kernel_rfl
@[simp] theorem underlying_51 : Program.underlying Tryd.prog 51 = some (TypeDesc.func { toList := [9, 52] } { toList := [9] } false) := by kernel_rfl
@[simp] theorem szOf_51 : szOf Tryd.prog 51 = some 1 := by kernel_rfl
@[simp] theorem byOf_51 : byOf Tryd.prog 51 = some 8 := by kernel_rfl
@[simp] theorem zeroOf_51 : zeroOf Tryd.prog 51 = some [AV.nfn] := by kernel_rfl
@[simp] theorem zsz_51 : zsz Tryd.prog 51 = some 1 := by kernel_rfl
@[simp] theorem underlying_52 : Program.underlying Tryd.prog 52 = some (TypeDesc.pointer 48) := by kernel_rfl
@[simp] theorem szOf_52 : szOf Tryd.prog 52 = some 1 := by kernel_rfl
@[simp] theorem byOf_52 : byOf Tryd.prog 52 = some 8 := by kernel_rfl
@[simp] theorem zeroOf_52 : zeroOf Tryd.prog 52 = some [AV.np] := by kernel_rfl
@[simp] theorem zsz_52 : zsz Tryd.prog 52 = some 1 := by kernel_rfl
@[simp] theorem underlying_53 : Program.underlying Tryd.prog 53 = some (TypeDesc.func { toList := [9, 54] } { toList := [26] } false) := by kernel_rfl
@[simp] theorem szOf_53 : szOf Tryd.prog 53 = some 1 := by kernel_rfl
@[simp] theorem byOf_53 : byOf Tryd.prog 53 = some 8 := by kernel_rfl
@[simp] theorem zeroOf_53 : zeroOf Tryd.prog 53 = some [AV.nfn] := by kernel_rfl
@[simp] theorem zsz_53 : zsz Tryd.prog 53 = some 1 := by kernel_rfl
@[simp] theorem underlying_54 : Program.underlying Tryd.prog 54 = some (TypeDesc.func { toList := [21] } { toList := [4] } false) := by kernel_rfl
@[simp] theorem szOf_54 : szOf Tryd.prog 54 = some 1 := by kernel_rfl
@[simp] theorem byOf_54 : byOf Tryd.prog 54 = some 8 := by kernel_rfl
@[simp] theorem zeroOf_54 : zeroOf Tryd.prog 54 = some [AV.nfn] := by kernel_rfl
@[simp] theorem zsz_54 : zsz Tryd.prog 54 = some 1 := by kernel_rfl
@[simp] theorem underlying_55 : Program.underlying Tryd.prog 55 = some (TypeDesc.tuple { toList := [3, 4] }) := by kernel_rfl
@[simp] theorem szOf_55 : szOf Tryd.prog 55 = some 1 := by kernel_rfl
@[simp] theorem byOf_55 : byOf Tryd.prog 55 = some 0 := by kernel_rfl
@[simp] theorem zeroOf_55 : zeroOf Tryd.prog 55 = some [AV.undef] := by kernel_rfl
@[simp] theorem zsz_55 : zsz Tryd.prog 55 = some 1 := by kernel_rfl
@[simp] theorem underlying_56 : Program.underlying Tryd.prog 56 = some (TypeDesc.func { toList := [9] } { toList := [3, 4] } false) := by kernel_rfl
@[simp] theorem szOf_56 : szOf Tryd.prog 56 = some 1 := by kernel_rfl
@[simp] theorem byOf_56 : byOf Tryd.prog 56 = some 8 := by kernel_rfl
@[simp] theorem zeroOf_56 : zeroOf Tryd.prog 56 = some [AV.nfn] := by kernel_rfl
@[simp] theorem zsz_56 : zsz Tryd.prog 56 = some 1 := by kernel_rfl
@[simp] theorem underlying_57 : Program.underlying Tryd.prog 57 = some (TypeDesc.func { toList := [9, 5] } { toList := [3] } false) := by kernel_rfl
@[simp] theorem szOf_57 : szOf Tryd.prog 57 = some 1 := by kernel_rfl
@[simp] theorem byOf_57 : byOf Tryd.prog 57 = some 8 := by kernel_rfl
@[simp] theorem zeroOf_57 : zeroOf Tryd.prog 57 = some [AV.nfn] := by kernel_rfl
@[simp] theorem zsz_57 : zsz Tryd.prog 57 = some 1 := by kernel_rfl
@[simp] theorem underlying_58 : Program.underlying Tryd.prog 58 = some (TypeDesc.func { toList := [3] } { toList := [3] } false) := by kernel_rfl
@[simp] theorem szOf_58 : szOf Tryd.prog 58 = some 1 := by kernel_rfl
@[simp] theorem byOf_58 : byOf Tryd.prog 58 = some 8 := by kernel_rfl
@[simp] theorem zeroOf_58 : zeroOf Tryd.prog 58 = some [AV.nfn] := by kernel_rfl
@[simp] theorem zsz_58 : zsz Tryd.prog 58 = some 1 := by kernel_rfl
@[simp] theorem underlying_59 : Program.underlying Tryd.prog 59 = some (TypeDesc.int IntKind.u64) := by kernel_rfl
@[simp] theorem szOf_59 : szOf Tryd.prog 59 = some 1 := by kernel_rfl
@[simp] theorem byOf_59 : byOf Tryd.prog 59 = some 8 := by kernel_rfl
@[simp] theorem zeroOf_59 : zeroOf Tryd.prog 59 = some [AV.i IntKind.u64 (0)] := by kernel_rfl
@[simp] theorem zsz_59 : zsz Tryd.prog 59 = some 1 := by kernel_rfl
@[simp] theorem underlying_60 : Program.underlying Tryd.prog 60 = some (TypeDesc.func { toList := [5] } { toList := [4] } false) := by kernel_rfl
@[simp] theorem szOf_60 : szOf Tryd.prog 60 = some 1 := by kernel_rfl
@[simp] theorem byOf_60 : byOf Tryd.prog 60 = some 8 := by kernel_rfl
@[simp] theorem zeroOf_60 : zeroOf Tryd.prog 60 = some [AV.nfn] := by kernel_rfl
@[simp] theorem zsz_60 : zsz Tryd.prog 60 = some 1 := by kernel_rfl
@[simp] theorem underlying_61 : Program.underlying Tryd.prog 61 = some (TypeDesc.tuple { toList := [21, 3] }) := by kernel_rfl
@[simp] theorem szOf_61 : szOf Tryd.prog 61 = some 1 := by kernel_rfl
@[simp] theorem byOf_61 : byOf Tryd.prog 61 = some 0 := by kernel_rfl
@[simp] theorem zeroOf_61 : zeroOf Tryd.prog 61 = some [AV.undef] := by kernel_rfl
@[simp] theorem zsz_61 : zsz Tryd.prog 61 = some 1 := by kernel_rfl
@[simp] theorem underlying_62 : Program.underlying Tryd.prog 62 = some (TypeDesc.func { toList := [9] } { toList := [21, 3] } false) := by kernel_rfl
@[simp] theorem szOf_62 : szOf Tryd.prog 62 = some 1 := by kernel_rfl
@[simp] theorem byOf_62 : byOf Tryd.prog 62 = some 8 := by kernel_rfl
@[simp] theorem zeroOf_62 : zeroOf Tryd.prog 62 = some [AV.nfn] := by kernel_rfl
@[simp] theorem zsz_62 : zsz Tryd.prog 62 = some 1 := by kernel_rfl
@[simp] theorem underlying_63 : Program.underlying Tryd.prog 63 = some (TypeDesc.func { toList := [9, 21] } { toList := [4] } false) := by kernel_rfl
@[simp] theorem szOf_63 : szOf Tryd.prog 63 = some 1 := by kernel_rfl
@[simp] theorem byOf_63 : byOf Tryd.prog 63 = some 8 := by kernel_rfl
@[simp] theorem zeroOf_63 : zeroOf Tryd.prog 63 = some [AV.nfn] := by kernel_rfl
@[simp] theorem zsz_63 : zsz Tryd.prog 63 = some 1 := by kernel_rfl
@[simp] theorem underlying_64 : Program.underlying Tryd.prog 64 = some (TypeDesc.slice 66) := by kernel_rfl
@[simp] theorem szOf_64 : szOf Tryd.prog 64 = some 1 := by kernel_rfl
@[simp] theorem byOf_64 : byOf Tryd.prog 64 = some 24 := by kernel_rfl
@[simp] theorem zeroOf_64 : zeroOf Tryd.prog 64 = some [AV.vs true 0 []] := by kernel_rfl
@[simp] theorem zsz_64 : zsz Tryd.prog 64 = some 1 := by kernel_rfl
@[simp] theorem elemOf_64 : elemOf Tryd.prog 64 = some 66 := by kernel_rfl
@[simp] theorem underlying_65 : Program.underlying Tryd.prog 65 = some (TypeDesc.struct { toList := [{ name := "start", type := 3, offset := 0, embedded := false, tag := "", pkgPath := "strings", byteOffset := 0 }, { name := "end", type := 3, offset := 1, embedded := false, tag := "", pkgPath := "strings", byteOffset := 8 }] }) := by kernel_rfl
@[simp] theorem szOf_65 : szOf Tryd.prog 65 = some 2 := by kernel_rfl
@[simp] theorem byOf_65 : byOf Tryd.prog 65 = some 16 := by kernel_rfl
@[simp] theorem zeroOf_65 : zeroOf Tryd.prog 65 = some [AV.i IntKind.i64 (0), AV.i IntKind.i64 (0)] := by kernel_rfl
@[simp] theorem zsz_65 : zsz Tryd.prog 65 = some 2 := by kernel_rfl
@[simp] theorem fieldOff_65_0 : fieldOff Tryd.prog 65 0 = some 0 := by kernel_rfl
@[simp] theorem fieldOff_65_1 : fieldOff Tryd.prog 65 1 = some 1 := by kernel_rfl
@[simp] theorem underlying_66 : Program.underlying Tryd.prog 66 = some (TypeDesc.struct { toList := [{ name := "start", type := 3, offset := 0, embedded := false, tag := "", pkgPath := "strings", byteOffset := 0 }, { name := "end", type := 3, offset := 1, embedded := false, tag := "", pkgPath := "strings", byteOffset := 8 }] }) := by kernel_rfl
@[simp] theorem szOf_66 : szOf Tryd.prog 66 = some 2 := by kernel_rfl
@[simp] theorem byOf_66 : byOf Tryd.prog 66 = some 16 := by kernel_rfl
@[simp] theorem zeroOf_66 : zeroOf Tryd.prog 66 = some [AV.i IntKind.i64 (0), AV.i IntKind.i64 (0)] := by kernel_rfl
@[simp] theorem zsz_66 : zsz Tryd.prog 66 = some 2 := by kernel_rfl
@[simp] theorem fieldOff_66_0 : fieldOff Tryd.prog 66 0 = some 0 := by kernel_rfl
@[simp] theorem fieldOff_66_1 : fieldOff Tryd.prog 66 1 = some 1 := by kernel_rfl
@[simp] theorem underlying_67 : Program.underlying Tryd.prog 67 = some (TypeDesc.interface { toList := [("Error", 113)] }) := by kernel_rfl
@[simp] theorem szOf_67 : szOf Tryd.prog 67 = some 1 := by kernel_rfl
@[simp] theorem byOf_67 : byOf Tryd.prog 67 = some 16 := by kernel_rfl
@[simp] theorem zeroOf_67 : zeroOf Tryd.prog 67 = some [AV.undef] := by kernel_rfl
@[simp] theorem zsz_67 : zsz Tryd.prog 67 = some 1 := by kernel_rfl
@[simp] theorem underlying_68 : Program.underlying Tryd.prog 68 = some (TypeDesc.interface { toList := [("Error", 113)] }) := by kernel_rfl
@[simp] theorem szOf_68 : szOf Tryd.prog 68 = some 1 := by kernel_rfl
@[simp] theorem byOf_68 : byOf Tryd.prog 68 = some 16 := by kernel_rfl
@[simp] theorem zeroOf_68 : zeroOf Tryd.prog 68 = some [AV.undef] := by kernel_rfl
@[simp] theorem zsz_68 : zsz Tryd.prog 68 = some 1 := by kernel_rfl
@[simp] theorem underlying_69 : Program.underlying Tryd.prog 69 = some (TypeDesc.tuple { toList := [3, 68] }) := by kernel_rfl
@[simp] theorem szOf_69 : szOf Tryd.prog 69 = some 1 := by kernel_rfl
@[simp] theorem byOf_69 : byOf Tryd.prog 69 = some 0 := by kernel_rfl
@[simp] theorem zeroOf_69 : zeroOf Tryd.prog 69 = some [AV.undef] := by kernel_rfl
@[simp] theorem zsz_69 : zsz Tryd.prog 69 = some 1 := by kernel_rfl
@[simp] theorem underlying_70 : Program.underlying Tryd.prog 70 = some (TypeDesc.func { toList := [9] } { toList := [3, 68] } false) := by kernel_rfl
@[simp] theorem szOf_70 : szOf Tryd.prog 70 = some 1 := by kernel_rfl
@[simp] theorem byOf_70 : byOf Tryd.prog 70 = some 8 := by kernel_rfl
@[simp] theorem zeroOf_70 : zeroOf Tryd.prog 70 = some [AV.nfn] := by kernel_rfl
@[simp] theorem zsz_70 : zsz Tryd.prog 70 = some 1 := by kernel_rfl
@[simp] theorem underlying_71 : Program.underlying Tryd.prog 71 = some (TypeDesc.int IntKind.u32) := by kernel_rfl
@[simp] theorem szOf_71 : szOf Tryd.prog 71 = some 1 := by kernel_rfl
@[simp] theorem byOf_71 : byOf Tryd.prog 71 = some 4 := by kernel_rfl
@[simp] theorem zeroOf_71 : zeroOf Tryd.prog 71 = some [AV.i IntKind.u32 (0)] := by kernel_rfl
@[simp] theorem zsz_71 : zsz Tryd.prog 71 = some 1 := by kernel_rfl
@[simp] theorem underlying_72 : Program.underlying Tryd.prog 72 = some (TypeDesc.tuple { toList := [71, 71] }) := by kernel_rfl
@[simp] theorem szOf_72 : szOf Tryd.prog 72 = some 1 := by kernel_rfl
@[simp] theorem byOf_72 : byOf Tryd.prog 72 = some 0 := by kernel_rfl
@[simp] theorem zeroOf_72 : zeroOf Tryd.prog 72 = some [AV.undef] := by kernel_rfl
@[simp] theorem zsz_72 : zsz Tryd.prog 72 = some 1 := by kernel_rfl
@[simp] theorem underlying_73 : Program.underlying Tryd.prog 73 = some (TypeDesc.func { toList := [9] } { toList := [71, 71] } false) := by kernel_rfl
@[simp] theorem szOf_73 : szOf Tryd.prog 73 = some 1 := by kernel_rfl
@[simp] theorem byOf_73 : byOf Tryd.prog 73 = some 8 := by kernel_rfl
@[simp] theorem zeroOf_73 : zeroOf Tryd.prog 73 = some [AV.nfn] := by kernel_rfl
@[simp] theorem zsz_73 : zsz Tryd.prog 73 = some 1 := by kernel_rfl
@[simp] theorem underlying_74 : Program.underlying Tryd.prog 74 = some (TypeDesc.func { toList := [9, 21] } { toList := [3] } false) := by kernel_rfl
@[simp] theorem szOf_74 : szOf Tryd.prog 74 = some 1 := by kernel_rfl
@[simp] theorem byOf_74 : byOf Tryd.prog 74 = some 8 := by kernel_rfl
@[simp] theorem zeroOf_74 : zeroOf Tryd.prog 74 = some [AV.nfn] := by kernel_rfl
@[simp] theorem zsz_74 : zsz Tryd.prog 74 = some 1 := by kernel_rfl
@[simp] theorem underlying_75 : Program.underlying Tryd.prog 75 = some (TypeDesc.func { toList := [9, 9, 3, 3, 68] } { toList := [68] } false) := by kernel_rfl
@[simp] theorem szOf_75 : szOf Tryd.prog 75 = some 1 := by kernel_rfl
@[simp] theorem byOf_75 : byOf Tryd.prog 75 = some 8 := by kernel_rfl
@[simp] theorem zeroOf_75 : zeroOf Tryd.prog 75 = some [AV.nfn] := by kernel_rfl
@[simp] theorem zsz_75 : zsz Tryd.prog 75 = some 1 := by kernel_rfl
@[simp] theorem underlying_76 : Program.underlying Tryd.prog 76 = some (TypeDesc.array 256 5) := by kernel_rfl
@[simp] theorem szOf_76 : szOf Tryd.prog 76 = some 256 := by kernel_rfl
@[simp] theorem byOf_76 : byOf Tryd.prog 76 = some 256 := by kernel_rfl
@[simp] theorem zeroOf_76 : zeroOf Tryd.prog 76 = some [AV.i IntKind.u8 (0), AV.i IntKind.u8 (0), AV.i IntKind.u8 (0), AV.i IntKind.u8 (0), AV.i IntKind.u8 (0), AV.i IntKind.u8 (0), AV.i IntKind.u8 (0), AV.i IntKind.u8 (0), AV.i IntKind.u8 (0), AV.i IntKind.u8 (0), AV.i IntKind.u8 (0), AV.i IntKind.u8 (0), AV.i IntKind.u8 (0), AV.i IntKind.u8 (0), AV.i IntKind.u8 (0), AV.i IntKind.u8 (0), AV.i IntKind.u8 (0), AV.i IntKind.u8 (0), AV.i IntKind.u8 (0), AV.i IntKind.u8 (0), AV.i IntKind.u8 (0), AV.i IntKind.u8 (0), AV.i IntKind.u8 (0), AV.i IntKind.u8 (0), AV.i IntKind.u8 (0), AV.i IntKind.u8 (0), AV.i IntKind.u8 (0), AV.i IntKind.u8 (0), AV.i IntKind.u8 (0), AV.i IntKind.u8 (0), AV.i IntKind.u8 (0), AV.i IntKind.u8 (0), AV.i IntKind.u8 (0), AV.i IntKind.u8 (0), AV.i IntKind.u8 (0), AV.i IntKind.u8 (0), AV.i IntKind.u8 (0), AV.i IntKind.u8 (0), AV.i IntKind.u8 (0), AV.i IntKind.u8 (0), AV.i IntKind.u8 (0), AV.i IntKind.u8 (0), AV.i IntKind.u8 (0), AV.i IntKind.u8 (0), AV.i IntKind.u8 (0), AV.i IntKind.u8 (0), AV.i IntKind.u8 (0), AV.i IntKind.u8 (0), AV.i IntKind.u8 (0), AV.i IntKind.u8 (0), AV.i IntKind.u8 (0), AV.i IntKind.u8 (0), AV.i IntKind.u8 (0), AV.i IntKind.u8 (0), AV.i IntKind.u8 (0), AV.i IntKind.u8 (0), AV.i IntKind.u8 (0), AV.i IntKind.u8 (0), AV.i IntKind.u8 (0), AV.i IntKind.u8 (0), AV.i IntKind.u8 (0), AV.i IntKind.u8 (0), AV.i IntKind.u8 (0), AV.i IntKind.u8 (0), AV.i IntKind.u8 (0), AV.i IntKind.u8 (0), AV.i IntKind.u8 (0), AV.i IntKind.u8 (0), AV.i IntKind.u8 (0), AV.i IntKind.u8 (0), AV.i IntKind.u8 (0), AV.i IntKind.u8 (0), AV.i IntKind.u8 (0), AV.i IntKind.u8 (0), AV.i IntKind.u8 (0), AV.i IntKind.u8 (0), AV.i IntKind.u8 (0), AV.i IntKind.u8 (0), AV.i IntKind.u8 (0), AV.i IntKind.u8 (0), AV.i IntKind.u8 (0), AV.i IntKind.u8 (0), AV.i IntKind.u8 (0), AV.i IntKind.u8 (0), AV.i IntKind.u8 (0), AV.i IntKind.u8 (0), AV.i IntKind.u8 (0), AV.i IntKind.u8 (0), AV.i IntKind.u8 (0), AV.i IntKind.u8 (0), AV.i IntKind.u8 (0), AV.i IntKind.u8 (0), AV.i IntKind.u8 (0), AV.i IntKind.u8 (0), AV.i IntKind.u8 (0), AV.i IntKind.u8 (0), AV.i IntKind.u8 (0), AV.i IntKind.u8 (0), AV.i IntKind.u8 (0), AV.i IntKind.u8 (0), AV.i IntKind.u8 (0), AV.i IntKind.u8 (0), AV.i IntKind.u8 (0), AV.i IntKind.u8 (0), AV.i IntKind.u8 (0), AV.i IntKind.u8 (0), AV.i IntKind.u8 (0), AV.i IntKind.u8 (0), AV.i IntKind.u8 (0), AV.i IntKind.u8 (0), AV.i IntKind.u8 (0), AV.i IntKind.u8 (0), AV.i IntKind.u8 (0), AV.i IntKind.u8 (0), AV.i IntKind.u8 (0), AV.i IntKind.u8 (0), AV.i IntKind.u8 (0), AV.i IntKind.u8 (0), AV.i IntKind.u8 (0), AV.i IntKind.u8 (0), AV.i IntKind.u8 (0), AV.i IntKind.u8 (0), AV.i IntKind.u8 (0), AV.i IntKind.u8 (0), AV.i IntKind.u8 (0), AV.i IntKind.u8 (0), AV.i IntKind.u8 (0), AV.i IntKind.u8 (0), AV.i IntKind.u8 (0), AV.i IntKind.u8 (0), AV.i IntKind.u8 (0), AV.i IntKind.u8 (0), AV.i IntKind.u8 (0), AV.i IntKind.u8 (0), AV.i IntKind.u8 (0), AV.i IntKind.u8 (0), AV.i IntKind.u8 (0), AV.i IntKind.u8 (0), AV.i IntKind.u8 (0), AV.i IntKind.u8 (0), AV.i IntKind.u8 (0), AV.i IntKind.u8 (0), AV.i IntKind.u8 (0), AV.i IntKind.u8 (0), AV.i IntKind.u8 (0), AV.i IntKind.u8 (0), AV.i IntKind.u8 (0), AV.i IntKind.u8 (0), AV.i IntKind.u8 (0), AV.i IntKind.u8 (0), AV.i IntKind.u8 (0), AV.i IntKind.u8 (0), AV.i IntKind.u8 (0), AV.i IntKind.u8 (0), AV.i IntKind.u8 (0), AV.i IntKind.u8 (0), AV.i IntKind.u8 (0), AV.i IntKind.u8 (0), AV.i IntKind.u8 (0), AV.i IntKind.u8 (0), AV.i IntKind.u8 (0), AV.i IntKind.u8 (0), AV.i IntKind.u8 (0), AV.i IntKind.u8 (0), AV.i IntKind.u8 (0), AV.i IntKind.u8 (0), AV.i IntKind.u8 (0), AV.i IntKind.u8 (0), AV.i IntKind.u8 (0), AV.i IntKind.u8 (0), AV.i IntKind.u8 (0), AV.i IntKind.u8 (0), AV.i IntKind.u8 (0), AV.i IntKind.u8 (0), AV.i IntKind.u8 (0), AV.i IntKind.u8 (0), AV.i IntKind.u8 (0), AV.i IntKind.u8 (0), AV.i IntKind.u8 (0), AV.i IntKind.u8 (0), AV.i IntKind.u8 (0), AV.i IntKind.u8 (0), AV.i IntKind.u8 (0), AV.i IntKind.u8 (0), AV.i IntKind.u8 (0), AV.i IntKind.u8 (0), AV.i IntKind.u8 (0), AV.i IntKind.u8 (0), AV.i IntKind.u8 (0), AV.i IntKind.u8 (0), AV.i IntKind.u8 (0), AV.i IntKind.u8 (0), AV.i IntKind.u8 (0), AV.i IntKind.u8 (0), AV.i IntKind.u8 (0), AV.i IntKind.u8 (0), AV.i IntKind.u8 (0), AV.i IntKind.u8 (0), AV.i IntKind.u8 (0), AV.i IntKind.u8 (0), AV.i IntKind.u8 (0), AV.i IntKind.u8 (0), AV.i IntKind.u8 (0), AV.i IntKind.u8 (0), AV.i IntKind.u8 (0), AV.i IntKind.u8 (0), AV.i IntKind.u8 (0), AV.i IntKind.u8 (0), AV.i IntKind.u8 (0), AV.i IntKind.u8 (0), AV.i IntKind.u8 (0), AV.i IntKind.u8 (0), AV.i IntKind.u8 (0), AV.i IntKind.u8 (0), AV.i IntKind.u8 (0), AV.i IntKind.u8 (0), AV.i IntKind.u8 (0), AV.i IntKind.u8 (0), AV.i IntKind.u8 (0), AV.i IntKind.u8 (0), AV.i IntKind.u8 (0), AV.i IntKind.u8 (0), AV.i IntKind.u8 (0), AV.i IntKind.u8 (0), AV.i IntKind.u8 (0), AV.i IntKind.u8 (0), AV.i IntKind.u8 (0), AV.i IntKind.u8 (0), AV.i IntKind.u8 (0), AV.i IntKind.u8 (0), AV.i IntKind.u8 (0), AV.i IntKind.u8 (0), AV.i IntKind.u8 (0), AV.i IntKind.u8 (0), AV.i IntKind.u8 (0), AV.i IntKind.u8 (0), AV.i IntKind.u8 (0), AV.i IntKind.u8 (0), AV.i IntKind.u8 (0), AV.i IntKind.u8 (0), AV.i IntKind.u8 (0), AV.i IntKind.u8 (0), AV.i IntKind.u8 (0), AV.i IntKind.u8 (0), AV.i IntKind.u8 (0), AV.i IntKind.u8 (0), AV.i IntKind.u8 (0), AV.i IntKind.u8 (0), AV.i IntKind.u8 (0), AV.i IntKind.u8 (0), AV.i IntKind.u8 (0), AV.i IntKind.u8 (0), AV.i IntKind.u8 (0), AV.i IntKind.u8 (0), AV.i IntKind.u8 (0), AV.i IntKind.u8 (0)] := by kernel_rfl
@[simp] theorem zsz_76 : zsz Tryd.prog 76 = some 256 := by kernel_rfl
@[simp] theorem underlying_77 : Program.underlying Tryd.prog 77 = some (TypeDesc.struct { toList := [{ name := "lo", type := 5, offset := 0, embedded := false, tag := "", pkgPath := "unicode/utf8", byteOffset := 0 }, { name := "hi", type := 5, offset := 1, embedded := false, tag := "", pkgPath := "unicode/utf8", byteOffset := 1 }] }) := by kernel_rfl
@[simp] theorem szOf_77 : szOf Tryd.prog 77 = some 2 := by kernel_rfl
@[simp] theorem byOf_77 : byOf Tryd.prog 77 = some 2 := by kernel_rfl
@[simp] theorem zeroOf_77 : zeroOf Tryd.prog 77 = some [AV.i IntKind.u8 (0), AV.i IntKind.u8 (0)] := by kernel_rfl
@[simp] theorem zsz_77 : zsz Tryd.prog 77 = some 2 := by kernel_rfl
@[simp] theorem fieldOff_77_0 : fieldOff Tryd.prog 77 0 = some 0 := by kernel_rfl
@[simp] theorem fieldOff_77_1 : fieldOff Tryd.prog 77 1 = some 1 := by kernel_rfl
@[simp] theorem underlying_78 : Program.underlying Tryd.prog 78 = some (TypeDesc.struct { toList := [{ name := "lo", type := 5, offset := 0, embedded := false, tag := "", pkgPath := "unicode/utf8", byteOffset := 0 }, { name := "hi", type := 5, offset := 1, embedded := false, tag := "", pkgPath := "unicode/utf8", byteOffset := 1 }] }) := by kernel_rfl
@[simp] theorem szOf_78 : szOf Tryd.prog 78 = some 2 := by kernel_rfl
@[simp] theorem byOf_78 : byOf Tryd.prog 78 = some 2 := by kernel_rfl
@[simp] theorem zeroOf_78 : zeroOf Tryd.prog 78 = some [AV.i IntKind.u8 (0), AV.i IntKind.u8 (0)] := by kernel_rfl
@[simp] theorem zsz_78 : zsz Tryd.prog 78 = some 2 := by kernel_rfl
@[simp] theorem fieldOff_78_0 : fieldOff Tryd.prog 78 0 = some 0 := by kernel_rfl
@[simp] theorem fieldOff_78_1 : fieldOff Tryd.prog 78 1 = some 1 := by kernel_rfl
@[simp] theorem underlying_79 : Program.underlying Tryd.prog 79 = some (TypeDesc.array 16 78) := by kernel_rfl
@[simp] theorem szOf_79 : szOf Tryd.prog 79 = some 32 := by kernel_rfl
@[simp] theorem byOf_79 : byOf Tryd.prog 79 = some 32 := by kernel_rfl
@[simp] theorem zeroOf_79 : zeroOf Tryd.prog 79 = some [AV.i IntKind.u8 (0), AV.i IntKind.u8 (0), AV.i IntKind.u8 (0), AV.i IntKind.u8 (0), AV.i IntKind.u8 (0), AV.i IntKind.u8 (0), AV.i IntKind.u8 (0), AV.i IntKind.u8 (0), AV.i IntKind.u8 (0), AV.i IntKind.u8 (0), AV.i IntKind.u8 (0), AV.i IntKind.u8 (0), AV.i IntKind.u8 (0), AV.i IntKind.u8 (0), AV.i IntKind.u8 (0), AV.i IntKind.u8 (0), AV.i IntKind.u8 (0), AV.i IntKind.u8 (0), AV.i IntKind.u8 (0), AV.i IntKind.u8 (0), AV.i IntKind.u8 (0), AV.i IntKind.u8 (0), AV.i IntKind.u8 (0), AV.i IntKind.u8 (0), AV.i IntKind.u8 (0), AV.i IntKind.u8 (0), AV.i IntKind.u8 (0), AV.i IntKind.u8 (0), AV.i IntKind.u8 (0), AV.i IntKind.u8 (0), AV.i IntKind.u8 (0), AV.i IntKind.u8 (0)] := by kernel_rfl
@[simp] theorem zsz_79 : zsz Tryd.prog 79 = some 32 := by kernel_rfl
@[simp] theorem underlying_80 : Program.underlying Tryd.prog 80 = some (TypeDesc.int IntKind.i64) := by kernel_rfl
@[simp] theorem szOf_80 : szOf Tryd.prog 80 = some 1 := by kernel_rfl
@[simp] theorem byOf_80 : byOf Tryd.prog 80 = some 8 := by kernel_rfl
@[simp] theorem zeroOf_80 : zeroOf Tryd.prog 80 = some [AV.i IntKind.i64 (0)] := by kernel_rfl
@[simp] theorem zsz_80 : zsz Tryd.prog 80 = some 1 := by kernel_rfl
@[simp] theorem underlying_81 : Program.underlying Tryd.prog 81 = some (TypeDesc.slice 5) := by kernel_rfl
@[simp] theorem szOf_81 : szOf Tryd.prog 81 = some 1 := by kernel_rfl
@[simp] theorem byOf_81 : byOf Tryd.prog 81 = some 24 := by kernel_rfl
@[simp] theorem zeroOf_81 : zeroOf Tryd.prog 81 = some [AV.vs true 0 []] := by kernel_rfl
@[simp] theorem zsz_81 : zsz Tryd.prog 81 = some 1 := by kernel_rfl
@[simp] theorem elemOf_81 : elemOf Tryd.prog 81 = some 5 := by kernel_rfl
@[simp] theorem underlying_82 : Program.underlying Tryd.prog 82 = some (TypeDesc.tuple { toList := [2, 68] }) := by kernel_rfl
@[simp] theorem szOf_82 : szOf Tryd.prog 82 = some 1 := by kernel_rfl
@[simp] theorem byOf_82 : byOf Tryd.prog 82 = some 0 := by kernel_rfl
@[simp] theorem zeroOf_82 : zeroOf Tryd.prog 82 = some [AV.undef] := by kernel_rfl
@[simp] theorem zsz_82 : zsz Tryd.prog 82 = some 1 := by kernel_rfl
@[simp] theorem underlying_83 : Program.underlying Tryd.prog 83 = some (TypeDesc.func { toList := [9, 3, 3] } { toList := [2, 68] } false) := by kernel_rfl
@[simp] theorem szOf_83 : szOf Tryd.prog 83 = some 1 := by kernel_rfl
@[simp] theorem byOf_83 : byOf Tryd.prog 83 = some 8 := by kernel_rfl
@[simp] theorem zeroOf_83 : zeroOf Tryd.prog 83 = some [AV.nfn] := by kernel_rfl
@[simp] theorem zsz_83 : zsz Tryd.prog 83 = some 1 := by kernel_rfl
@[simp] theorem underlying_84 : Program.underlying Tryd.prog 84 = some (TypeDesc.pointer 91) := by kernel_rfl
@[simp] theorem szOf_84 : szOf Tryd.prog 84 = some 1 := by kernel_rfl
@[simp] theorem byOf_84 : byOf Tryd.prog 84 = some 8 := by kernel_rfl
@[simp] theorem zeroOf_84 : zeroOf Tryd.prog 84 = some [AV.np] := by kernel_rfl
@[simp] theorem zsz_84 : zsz Tryd.prog 84 = some 1 := by kernel_rfl
@[simp] theorem underlying_85 : Program.underlying Tryd.prog 85 = some (TypeDesc.func { toList := [9, 9] } { toList := [84] } false) := by kernel_rfl
@[simp] theorem szOf_85 : szOf Tryd.prog 85 = some 1 := by kernel_rfl
@[simp] theorem byOf_85 : byOf Tryd.prog 85 = some 8 := by kernel_rfl
@[simp] theorem zeroOf_85 : zeroOf Tryd.prog 85 = some [AV.nfn] := by kernel_rfl
@[simp] theorem zsz_85 : zsz Tryd.prog 85 = some 1 := by kernel_rfl
@[simp] theorem underlying_86 : Program.underlying Tryd.prog 86 = some (TypeDesc.func { toList := [9, 9, 3] } { toList := [84] } false) := by kernel_rfl
@[simp] theorem szOf_86 : szOf Tryd.prog 86 = some 1 := by kernel_rfl
@[simp] theorem byOf_86 : byOf Tryd.prog 86 = some 8 := by kernel_rfl
@[simp] theorem zeroOf_86 : zeroOf Tryd.prog 86 = some [AV.nfn] := by kernel_rfl
@[simp] theorem zsz_86 : zsz Tryd.prog 86 = some 1 := by kernel_rfl
@[simp] theorem underlying_87 : Program.underlying Tryd.prog 87 = some (TypeDesc.int IntKind.u64) := by kernel_rfl
@[simp] theorem szOf_87 : szOf Tryd.prog 87 = some 1 := by kernel_rfl
@[simp] theorem byOf_87 : byOf Tryd.prog 87 = some 8 := by kernel_rfl
@[simp] theorem zeroOf_87 : zeroOf Tryd.prog 87 = some [AV.i IntKind.u64 (0)] := by kernel_rfl
@[simp] theorem zsz_87 : zsz Tryd.prog 87 = some 1 := by kernel_rfl
@[simp] theorem underlying_88 : Program.underlying Tryd.prog 88 = some (TypeDesc.tuple { toList := [87, 68] }) := by kernel_rfl
@[simp] theorem szOf_88 : szOf Tryd.prog 88 = some 1 := by kernel_rfl
@[simp] theorem byOf_88 : byOf Tryd.prog 88 = some 0 := by kernel_rfl
@[simp] theorem zeroOf_88 : zeroOf Tryd.prog 88 = some [AV.undef] := by kernel_rfl
@[simp] theorem zsz_88 : zsz Tryd.prog 88 = some 1 := by kernel_rfl
@[simp] theorem underlying_89 : Program.underlying Tryd.prog 89 = some (TypeDesc.func { toList := [9, 3, 3] } { toList := [87, 68] } false) := by kernel_rfl
@[simp] theorem szOf_89 : szOf Tryd.prog 89 = some 1 := by kernel_rfl
@[simp] theorem byOf_89 : byOf Tryd.prog 89 = some 8 := by kernel_rfl
@[simp] theorem zeroOf_89 : zeroOf Tryd.prog 89 = some [AV.nfn] := by kernel_rfl
@[simp] theorem zsz_89 : zsz Tryd.prog 89 = some 1 := by kernel_rfl
@[simp] theorem underlying_90 : Program.underlying Tryd.prog 90 = some (TypeDesc.struct { toList := [{ name := "Func", type := 9, offset := 0, embedded := false, tag := "", pkgPath := "", byteOffset := 0 }, { name := "Num", type := 9, offset := 1, embedded := false, tag := "", pkgPath := "", byteOffset := 16 }, { name := "Err", type := 68, offset := 2, embedded := false, tag := "", pkgPath := "", byteOffset := 32 }] }) := by kernel_rfl
@[simp] theorem szOf_90 : szOf Tryd.prog 90 = some 3 := by kernel_rfl
@[simp] theorem byOf_90 : byOf Tryd.prog 90 = some 48 := by kernel_rfl
@[simp] theorem zeroOf_90 : zeroOf Tryd.prog 90 = some [AV.undef] := by kernel_rfl
@[simp] theorem zsz_90 : zsz Tryd.prog 90 = some 3 := by kernel_rfl
@[simp] theorem fieldOff_90_0 : fieldOff Tryd.prog 90 0 = some 0 := by kernel_rfl
@[simp] theorem fieldOff_90_1 : fieldOff Tryd.prog 90 1 = some 1 := by kernel_rfl
@[simp] theorem fieldOff_90_2 : fieldOff Tryd.prog 90 2 = some 2 := by kernel_rfl
@[simp] theorem underlying_91 : Program.underlying Tryd.prog 91 = some (TypeDesc.struct { toList := [{ name := "Func", type := 9, offset := 0, embedded := false, tag := "", pkgPath := "", byteOffset := 0 }, { name := "Num", type := 9, offset := 1, embedded := false, tag := "", pkgPath := "", byteOffset := 16 }, { name := "Err", type := 68, offset := 2, embedded := false, tag := "", pkgPath := "", byteOffset := 32 }] }) := by kernel_rfl
@[simp] theorem szOf_91 : szOf Tryd.prog 91 = some 3 := by kernel_rfl
@[simp] theorem byOf_91 : byOf Tryd.prog 91 = some 48 := by kernel_rfl
@[simp] theorem zeroOf_91 : zeroOf Tryd.prog 91 = some [AV.undef] := by kernel_rfl
@[simp] theorem zsz_91 : zsz Tryd.prog 91 = some 3 := by kernel_rfl
@[simp] theorem fieldOff_91_0 : fieldOff Tryd.prog 91 0 = some 0 := by kernel_rfl
@[simp] theorem fieldOff_91_1 : fieldOff Tryd.prog 91 1 = some 1 := by kernel_rfl
@[simp] theorem fieldOff_91_2 : fieldOff Tryd.prog 91 2 = some 2 := by kernel_rfl
@[simp] theorem underlying_92 : Program.underlying Tryd.prog 92 = some (TypeDesc.func { toList := [9] } { toList := [68] } false) := by kernel_rfl
@[simp] theorem szOf_92 : szOf Tryd.prog 92 = some 1 := by kernel_rfl
@[simp] theorem byOf_92 : byOf Tryd.prog 92 = some 8 := by kernel_rfl
@[simp] theorem zeroOf_92 : zeroOf Tryd.prog 92 = some [AV.nfn] := by kernel_rfl
@[simp] theorem zsz_92 : zsz Tryd.prog 92 = some 1 := by kernel_rfl
@[simp] theorem underlying_93 : Program.underlying Tryd.prog 93 = some (TypeDesc.func { toList := [3] } { toList := [9] } false) := by kernel_rfl
@[simp] theorem szOf_93 : szOf Tryd.prog 93 = some 1 := by kernel_rfl
@[simp] theorem byOf_93 : byOf Tryd.prog 93 = some 8 := by kernel_rfl
@[simp] theorem zeroOf_93 : zeroOf Tryd.prog 93 = some [AV.nfn] := by kernel_rfl
@[simp] theorem zsz_93 : zsz Tryd.prog 93 = some 1 := by kernel_rfl
@[simp] theorem underlying_94 : Program.underlying Tryd.prog 94 = some (TypeDesc.func { toList := [5] } { toList := [5] } false) := by kernel_rfl
@[simp] theorem szOf_94 : szOf Tryd.prog 94 = some 1 := by kernel_rfl
@[simp] theorem byOf_94 : byOf Tryd.prog 94 = some 8 := by kernel_rfl
@[simp] theorem zeroOf_94 : zeroOf Tryd.prog 94 = some [AV.nfn] := by kernel_rfl
@[simp] theorem zsz_94 : zsz Tryd.prog 94 = some 1 := by kernel_rfl
@[simp] theorem underlying_95 : Program.underlying Tryd.prog 95 = some (TypeDesc.pointer 5) := by kernel_rfl
@[simp] theorem szOf_95 : szOf Tryd.prog 95 = some 1 := by kernel_rfl
@[simp] theorem byOf_95 : byOf Tryd.prog 95 = some 8 := by kernel_rfl
@[simp] theorem zeroOf_95 : zeroOf Tryd.prog 95 = some [AV.np] := by kernel_rfl
@[simp] theorem zsz_95 : zsz Tryd.prog 95 = some 1 := by kernel_rfl
@[simp] theorem underlying_96 : Program.underlying Tryd.prog 96 = some (TypeDesc.pointer 98) := by kernel_rfl
@[simp] theorem szOf_96 : szOf Tryd.prog 96 = some 1 := by kernel_rfl
@[simp] theorem byOf_96 : byOf Tryd.prog 96 = some 8 := by kernel_rfl
@[simp] theorem zeroOf_96 : zeroOf Tryd.prog 96 = some [AV.np] := by kernel_rfl
@[simp] theorem zsz_96 : zsz Tryd.prog 96 = some 1 := by kernel_rfl
@[simp] theorem underlying_97 : Program.underlying Tryd.prog 97 = some (TypeDesc.struct { toList := [{ name := "s", type := 9, offset := 0, embedded := false, tag := "", pkgPath := "errors", byteOffset := 0 }] }) := by kernel_rfl
@[simp] theorem szOf_97 : szOf Tryd.prog 97 = some 1 := by kernel_rfl
@[simp] theorem byOf_97 : byOf Tryd.prog 97 = some 16 := by kernel_rfl
@[simp] theorem zeroOf_97 : zeroOf Tryd.prog 97 = some [AV.s { data := { toList := [] } }] := by kernel_rfl
@[simp] theorem zsz_97 : zsz Tryd.prog 97 = some 1 := by kernel_rfl
@[simp] theorem fieldOff_97_0 : fieldOff Tryd.prog 97 0 = some 0 := by kernel_rfl
@[simp] theorem underlying_98 : Program.underlying Tryd.prog 98 = some (TypeDesc.struct { toList := [{ name := "s", type := 9, offset := 0, embedded := false, tag := "", pkgPath := "errors", byteOffset := 0 }] }) := by kernel_rfl
@[simp] theorem szOf_98 : szOf Tryd.prog 98 = some 1 := by kernel_rfl
@[simp] theorem byOf_98 : byOf Tryd.prog 98 = some 16 := by kernel_rfl
@[simp] theorem zeroOf_98 : zeroOf Tryd.prog 98 = some [AV.s { data := { toList := [] } }] := by kernel_rfl
@[simp] theorem zsz_98 : zsz Tryd.prog 98 = some 1 := by kernel_rfl
@[simp] theorem fieldOff_98_0 : fieldOff Tryd.prog 98 0 = some 0 := by kernel_rfl
@[simp] theorem underlying_99 : Program.underlying Tryd.prog 99 = some (TypeDesc.func { toList := [2, 3] } { toList := [9] } false) := by kernel_rfl
@[simp] theorem szOf_99 : szOf Tryd.prog 99 = some 1 := by kernel_rfl
@[simp] theorem byOf_99 : byOf Tryd.prog 99 = some 8 := by kernel_rfl
@[simp] theorem zeroOf_99 : zeroOf Tryd.prog 99 = some [AV.nfn] := by kernel_rfl
@[simp] theorem zsz_99 : zsz Tryd.prog 99 = some 1 := by kernel_rfl
@[simp] theorem underlying_100 : Program.underlying Tryd.prog 100 = some (TypeDesc.array 24 5) := by kernel_rfl
@[simp] theorem szOf_100 : szOf Tryd.prog 100 = some 24 := by kernel_rfl
@[simp] theorem byOf_100 : byOf Tryd.prog 100 = some 24 := by kernel_rfl
@[simp] theorem zeroOf_100 : zeroOf Tryd.prog 100 = some [AV.i IntKind.u8 (0), AV.i IntKind.u8 (0), AV.i IntKind.u8 (0), AV.i IntKind.u8 (0), AV.i IntKind.u8 (0), AV.i IntKind.u8 (0), AV.i IntKind.u8 (0), AV.i IntKind.u8 (0), AV.i IntKind.u8 (0), AV.i IntKind.u8 (0), AV.i IntKind.u8 (0), AV.i IntKind.u8 (0), AV.i IntKind.u8 (0), AV.i IntKind.u8 (0), AV.i IntKind.u8 (0), AV.i IntKind.u8 (0), AV.i IntKind.u8 (0), AV.i IntKind.u8 (0), AV.i IntKind.u8 (0), AV.i IntKind.u8 (0), AV.i IntKind.u8 (0), AV.i IntKind.u8 (0), AV.i IntKind.u8 (0), AV.i IntKind.u8 (0)] := by kernel_rfl
@[simp] theorem zsz_100 : zsz Tryd.prog 100 = some 24 := by kernel_rfl
@[simp] theorem underlying_101 : Program.underlying Tryd.prog 101 = some (TypeDesc.func { toList := [87] } { toList := [3] } false) := by kernel_rfl
@[simp] theorem szOf_101 : szOf Tryd.prog 101 = some 1 := by kernel_rfl
@[simp] theorem byOf_101 : byOf Tryd.prog 101 = some 8 := by kernel_rfl
@[simp] theorem zeroOf_101 : zeroOf Tryd.prog 101 = some [AV.nfn] := by kernel_rfl
@[simp] theorem zsz_101 : zsz Tryd.prog 101 = some 1 := by kernel_rfl
@[simp] theorem underlying_102 : Program.underlying Tryd.prog 102 = some (TypeDesc.func { toList := [81, 87] } { toList := [] } false) := by kernel_rfl
@[simp] theorem szOf_102 : szOf Tryd.prog 102 = some 1 := by kernel_rfl
@[simp] theorem byOf_102 : byOf Tryd.prog 102 = some 8 := by kernel_rfl
@[simp] theorem zeroOf_102 : zeroOf Tryd.prog 102 = some [AV.nfn] := by kernel_rfl
@[simp] theorem zsz_102 : zsz Tryd.prog 102 = some 1 := by kernel_rfl
@[simp] theorem underlying_103 : Program.underlying Tryd.prog 103 = some (TypeDesc.tuple { toList := [81, 9] }) := by kernel_rfl
@[simp] theorem szOf_103 : szOf Tryd.prog 103 = some 1 := by kernel_rfl
@[simp] theorem byOf_103 : byOf Tryd.prog 103 = some 0 := by kernel_rfl
@[simp] theorem zeroOf_103 : zeroOf Tryd.prog 103 = some [AV.undef] := by kernel_rfl
@[simp] theorem zsz_103 : zsz Tryd.prog 103 = some 1 := by kernel_rfl
@[simp] theorem underlying_104 : Program.underlying Tryd.prog 104 = some (TypeDesc.func { toList := [81, 87, 3, 4, 4] } { toList := [81, 9] } false) := by kernel_rfl
@[simp] theorem szOf_104 : szOf Tryd.prog 104 = some 1 := by kernel_rfl
@[simp] theorem byOf_104 : byOf Tryd.prog 104 = some 8 := by kernel_rfl
@[simp] theorem zeroOf_104 : zeroOf Tryd.prog 104 = some [AV.nfn] := by kernel_rfl
@[simp] theorem zsz_104 : zsz Tryd.prog 104 = some 1 := by kernel_rfl
@[simp] theorem underlying_105 : Program.underlying Tryd.prog 105 = some (TypeDesc.func { toList := [4] } { toList := [3] } false) := by kernel_rfl
@[simp] theorem szOf_105 : szOf Tryd.prog 105 = some 1 := by kernel_rfl
@[simp] theorem byOf_105 : byOf Tryd.prog 105 = some 8 := by kernel_rfl
@[simp] theorem zeroOf_105 : zeroOf Tryd.prog 105 = some [AV.nfn] := by kernel_rfl
@[simp] theorem zsz_105 : zsz Tryd.prog 105 = some 1 := by kernel_rfl
@[simp] theorem underlying_106 : Program.underlying Tryd.prog 106 = some (TypeDesc.array 20 87) := by kernel_rfl
@[simp] theorem szOf_106 : szOf Tryd.prog 106 = some 20 := by kernel_rfl
@[simp] theorem byOf_106 : byOf Tryd.prog 106 = some 160 := by kernel_rfl
@[simp] theorem zeroOf_106 : zeroOf Tryd.prog 106 = some [AV.i IntKind.u64 (0), AV.i IntKind.u64 (0), AV.i IntKind.u64 (0), AV.i IntKind.u64 (0), AV.i IntKind.u64 (0), AV.i IntKind.u64 (0), AV.i IntKind.u64 (0), AV.i IntKind.u64 (0), AV.i IntKind.u64 (0), AV.i IntKind.u64 (0), AV.i IntKind.u64 (0), AV.i IntKind.u64 (0), AV.i IntKind.u64 (0), AV.i IntKind.u64 (0), AV.i IntKind.u64 (0), AV.i IntKind.u64 (0), AV.i IntKind.u64 (0), AV.i IntKind.u64 (0), AV.i IntKind.u64 (0), AV.i IntKind.u64 (0)] := by kernel_rfl
@[simp] theorem zsz_106 : zsz Tryd.prog 106 = some 20 := by kernel_rfl
@[simp] theorem underlying_107 : Program.underlying Tryd.prog 107 = some (TypeDesc.array 65 5) := by kernel_rfl
@[simp] theorem szOf_107 : szOf Tryd.prog 107 = some 65 := by kernel_rfl
@[simp] theorem byOf_107 : byOf Tryd.prog 107 = some 65 := by kernel_rfl
@[simp] theorem zeroOf_107 : zeroOf Tryd.prog 107 = some [AV.i IntKind.u8 (0), AV.i IntKind.u8 (0), AV.i IntKind.u8 (0), AV.i IntKind.u8 (0), AV.i IntKind.u8 (0), AV.i IntKind.u8 (0), AV.i IntKind.u8 (0), AV.i IntKind.u8 (0), AV.i IntKind.u8 (0), AV.i IntKind.u8 (0), AV.i IntKind.u8 (0), AV.i IntKind.u8 (0), AV.i IntKind.u8 (0), AV.i IntKind.u8 (0), AV.i IntKind.u8 (0), AV.i IntKind.u8 (0), AV.i IntKind.u8 (0), AV.i IntKind.u8 (0), AV.i IntKind.u8 (0), AV.i IntKind.u8 (0), AV.i IntKind.u8 (0), AV.i IntKind.u8 (0), AV.i IntKind.u8 (0), AV.i IntKind.u8 (0), AV.i IntKind.u8 (0), AV.i IntKind.u8 (0), AV.i IntKind.u8 (0), AV.i IntKind.u8 (0), AV.i IntKind.u8 (0), AV.i IntKind.u8 (0), AV.i IntKind.u8 (0), AV.i IntKind.u8 (0), AV.i IntKind.u8 (0), AV.i IntKind.u8 (0), AV.i IntKind.u8 (0), AV.i IntKind.u8 (0), AV.i IntKind.u8 (0), AV.i IntKind.u8 (0), AV.i IntKind.u8 (0), AV.i IntKind.u8 (0), AV.i IntKind.u8 (0), AV.i IntKind.u8 (0), AV.i IntKind.u8 (0), AV.i IntKind.u8 (0), AV.i IntKind.u8 (0), AV.i IntKind.u8 (0), AV.i IntKind.u8 (0), AV.i IntKind.u8 (0), AV.i IntKind.u8 (0), AV.i IntKind.u8 (0), AV.i IntKind.u8 (0), AV.i IntKind.u8 (0), AV.i IntKind.u8 (0), AV.i IntKind.u8 (0), AV.i IntKind.u8 (0), AV.i IntKind.u8 (0), AV.i IntKind.u8 (0), AV.i IntKind.u8 (0), AV.i IntKind.u8 (0), AV.i IntKind.u8 (0), AV.i IntKind.u8 (0), AV.i IntKind.u8 (0), AV.i IntKind.u8 (0), AV.i IntKind.u8 (0), AV.i IntKind.u8 (0)] := by kernel_rfl
@[simp] theorem zsz_107 : zsz Tryd.prog 107 = some 65 := by kernel_rfl
@[simp] theorem underlying_108 : Program.underlying Tryd.prog 108 = some (TypeDesc.func { toList := [3] } { toList := [4] } false) := by kernel_rfl
@[simp] theorem szOf_108 : szOf Tryd.prog 108 = some 1 := by kernel_rfl
@[simp] theorem byOf_108 : byOf Tryd.prog 108 = some 8 := by kernel_rfl
@[simp] theorem zeroOf_108 : zeroOf Tryd.prog 108 = some [AV.nfn] := by kernel_rfl
@[simp] theorem zsz_108 : zsz Tryd.prog 108 = some 1 := by kernel_rfl
@[simp] theorem underlying_109 : Program.underlying Tryd.prog 109 = some (TypeDesc.func { toList := [59] } { toList := [3] } false) := by kernel_rfl
@[simp] theorem szOf_109 : szOf Tryd.prog 109 = some 1 := by kernel_rfl
@[simp] theorem byOf_109 : byOf Tryd.prog 109 = some 8 := by kernel_rfl
@[simp] theorem zeroOf_109 : zeroOf Tryd.prog 109 = some [AV.nfn] := by kernel_rfl
@[simp] theorem zsz_109 : zsz Tryd.prog 109 = some 1 := by kernel_rfl
end Ab
end Go.Proofs.YtfkffpcnknlbhaaDoor
