/-
  DERIVED. The tables of the interpreter for this seat, by program.
  Conditions: none.
-/
import Derived.Test.YtidoflgcblglbaaDoorCf
import Derived.KernelRfl
set_option linter.all false
set_option maxHeartbeats 4000000
namespace Go.Proofs.YtidoflgcblglbaaDoor
namespace Ab
@[simp] theorem underlying_0 : Program.underlying Go.Proofs.Tryd.prog 0 = some (TypeDesc.tuple { toList := [] }) := by kernel_rfl
@[simp] theorem szOf_0 : szOf Go.Proofs.Tryd.prog 0 = some 1 := by kernel_rfl
@[simp] theorem byOf_0 : byOf Go.Proofs.Tryd.prog 0 = some 0 := by kernel_rfl
@[simp] theorem zeroOf_0 : zeroOf Go.Proofs.Tryd.prog 0 = some [AV.undef] := by kernel_rfl
@[simp] theorem zsz_0 : zsz Go.Proofs.Tryd.prog 0 = some 1 := by kernel_rfl
@[simp] theorem zeroAV_0 : zeroAV Go.Proofs.Tryd.prog 0 = some AV.undef := by kernel_rfl
@[simp] theorem underlying_1 : Program.underlying Go.Proofs.Tryd.prog 1 = some (TypeDesc.func { toList := [] } { toList := [] } false) := by kernel_rfl
@[simp] theorem szOf_1 : szOf Go.Proofs.Tryd.prog 1 = some 1 := by kernel_rfl
@[simp] theorem byOf_1 : byOf Go.Proofs.Tryd.prog 1 = some 8 := by kernel_rfl
@[simp] theorem zeroOf_1 : zeroOf Go.Proofs.Tryd.prog 1 = some [AV.nfn] := by kernel_rfl
@[simp] theorem zsz_1 : zsz Go.Proofs.Tryd.prog 1 = some 1 := by kernel_rfl
@[simp] theorem zeroAV_1 : zeroAV Go.Proofs.Tryd.prog 1 = some AV.nfn := by kernel_rfl
@[simp] theorem underlying_2 : Program.underlying Go.Proofs.Tryd.prog 2 = some (TypeDesc.int IntKind.i64) := by kernel_rfl
@[simp] theorem szOf_2 : szOf Go.Proofs.Tryd.prog 2 = some 1 := by kernel_rfl
@[simp] theorem byOf_2 : byOf Go.Proofs.Tryd.prog 2 = some 8 := by kernel_rfl
@[simp] theorem zeroOf_2 : zeroOf Go.Proofs.Tryd.prog 2 = some [AV.i IntKind.i64 (0)] := by kernel_rfl
@[simp] theorem zsz_2 : zsz Go.Proofs.Tryd.prog 2 = some 1 := by kernel_rfl
@[simp] theorem zeroAV_2 : zeroAV Go.Proofs.Tryd.prog 2 = some (AV.i IntKind.i64 (0)) := by kernel_rfl
@[simp] theorem underlying_3 : Program.underlying Go.Proofs.Tryd.prog 3 = some (TypeDesc.int IntKind.i64) := by kernel_rfl
@[simp] theorem szOf_3 : szOf Go.Proofs.Tryd.prog 3 = some 1 := by kernel_rfl
@[simp] theorem byOf_3 : byOf Go.Proofs.Tryd.prog 3 = some 8 := by kernel_rfl
@[simp] theorem zeroOf_3 : zeroOf Go.Proofs.Tryd.prog 3 = some [AV.i IntKind.i64 (0)] := by kernel_rfl
@[simp] theorem zsz_3 : zsz Go.Proofs.Tryd.prog 3 = some 1 := by kernel_rfl
@[simp] theorem zeroAV_3 : zeroAV Go.Proofs.Tryd.prog 3 = some (AV.i IntKind.i64 (0)) := by kernel_rfl
@[simp] theorem underlying_4 : Program.underlying Go.Proofs.Tryd.prog 4 = some TypeDesc.bool := by kernel_rfl
@[simp] theorem szOf_4 : szOf Go.Proofs.Tryd.prog 4 = some 1 := by kernel_rfl
@[simp] theorem byOf_4 : byOf Go.Proofs.Tryd.prog 4 = some 1 := by kernel_rfl
@[simp] theorem zeroOf_4 : zeroOf Go.Proofs.Tryd.prog 4 = some [AV.b false] := by kernel_rfl
@[simp] theorem zsz_4 : zsz Go.Proofs.Tryd.prog 4 = some 1 := by kernel_rfl
@[simp] theorem zeroAV_4 : zeroAV Go.Proofs.Tryd.prog 4 = some (AV.b false) := by kernel_rfl
@[simp] theorem underlying_5 : Program.underlying Go.Proofs.Tryd.prog 5 = some (TypeDesc.int IntKind.u8) := by kernel_rfl
@[simp] theorem szOf_5 : szOf Go.Proofs.Tryd.prog 5 = some 1 := by kernel_rfl
@[simp] theorem byOf_5 : byOf Go.Proofs.Tryd.prog 5 = some 1 := by kernel_rfl
@[simp] theorem zeroOf_5 : zeroOf Go.Proofs.Tryd.prog 5 = some [AV.i IntKind.u8 (0)] := by kernel_rfl
@[simp] theorem zsz_5 : zsz Go.Proofs.Tryd.prog 5 = some 1 := by kernel_rfl
@[simp] theorem zeroAV_5 : zeroAV Go.Proofs.Tryd.prog 5 = some (AV.i IntKind.u8 (0)) := by kernel_rfl
@[simp] theorem underlying_6 : Program.underlying Go.Proofs.Tryd.prog 6 = some (TypeDesc.int IntKind.u8) := by kernel_rfl
@[simp] theorem szOf_6 : szOf Go.Proofs.Tryd.prog 6 = some 1 := by kernel_rfl
@[simp] theorem byOf_6 : byOf Go.Proofs.Tryd.prog 6 = some 1 := by kernel_rfl
@[simp] theorem zeroOf_6 : zeroOf Go.Proofs.Tryd.prog 6 = some [AV.i IntKind.u8 (0)] := by kernel_rfl
@[simp] theorem zsz_6 : zsz Go.Proofs.Tryd.prog 6 = some 1 := by kernel_rfl
@[simp] theorem zeroAV_6 : zeroAV Go.Proofs.Tryd.prog 6 = some (AV.i IntKind.u8 (0)) := by kernel_rfl
@[simp] theorem underlying_7 : Program.underlying Go.Proofs.Tryd.prog 7 = some (TypeDesc.struct { toList := [{ name := "x", type := 2, offset := 0, embedded := false, tag := "", pkgPath := "runtime", byteOffset := 0 }, { name := "y", type := 3, offset := 1, embedded := false, tag := "", pkgPath := "runtime", byteOffset := 8 }, { name := "signed", type := 4, offset := 2, embedded := false, tag := "", pkgPath := "runtime", byteOffset := 16 }, { name := "code", type := 6, offset := 3, embedded := false, tag := "", pkgPath := "runtime", byteOffset := 17 }] }) := by kernel_rfl
@[simp] theorem szOf_7 : szOf Go.Proofs.Tryd.prog 7 = some 4 := by kernel_rfl
@[simp] theorem byOf_7 : byOf Go.Proofs.Tryd.prog 7 = some 24 := by kernel_rfl
@[simp] theorem zeroOf_7 : zeroOf Go.Proofs.Tryd.prog 7 = some [AV.i IntKind.i64 (0), AV.i IntKind.i64 (0), AV.b false, AV.i IntKind.u8 (0)] := by kernel_rfl
@[simp] theorem zsz_7 : zsz Go.Proofs.Tryd.prog 7 = some 4 := by kernel_rfl
@[simp] theorem zeroAV_7 : zeroAV Go.Proofs.Tryd.prog 7 = some (AV.agg [AV.i IntKind.i64 (0), AV.i IntKind.i64 (0), AV.b false, AV.i IntKind.u8 (0)]) := by kernel_rfl
@[simp] theorem fieldOff_7_0 : fieldOff Go.Proofs.Tryd.prog 7 0 = some 0 := by kernel_rfl
@[simp] theorem fieldOff_7_1 : fieldOff Go.Proofs.Tryd.prog 7 1 = some 1 := by kernel_rfl
@[simp] theorem fieldOff_7_2 : fieldOff Go.Proofs.Tryd.prog 7 2 = some 2 := by kernel_rfl
@[simp] theorem fieldOff_7_3 : fieldOff Go.Proofs.Tryd.prog 7 3 = some 3 := by kernel_rfl
@[simp] theorem underlying_8 : Program.underlying Go.Proofs.Tryd.prog 8 = some (TypeDesc.struct { toList := [{ name := "x", type := 2, offset := 0, embedded := false, tag := "", pkgPath := "runtime", byteOffset := 0 }, { name := "y", type := 3, offset := 1, embedded := false, tag := "", pkgPath := "runtime", byteOffset := 8 }, { name := "signed", type := 4, offset := 2, embedded := false, tag := "", pkgPath := "runtime", byteOffset := 16 }, { name := "code", type := 6, offset := 3, embedded := false, tag := "", pkgPath := "runtime", byteOffset := 17 }] }) := by kernel_rfl
@[simp] theorem szOf_8 : szOf Go.Proofs.Tryd.prog 8 = some 4 := by kernel_rfl
@[simp] theorem byOf_8 : byOf Go.Proofs.Tryd.prog 8 = some 24 := by kernel_rfl
@[simp] theorem zeroOf_8 : zeroOf Go.Proofs.Tryd.prog 8 = some [AV.i IntKind.i64 (0), AV.i IntKind.i64 (0), AV.b false, AV.i IntKind.u8 (0)] := by kernel_rfl
@[simp] theorem zsz_8 : zsz Go.Proofs.Tryd.prog 8 = some 4 := by kernel_rfl
@[simp] theorem zeroAV_8 : zeroAV Go.Proofs.Tryd.prog 8 = some (AV.agg [AV.i IntKind.i64 (0), AV.i IntKind.i64 (0), AV.b false, AV.i IntKind.u8 (0)]) := by kernel_rfl
@[simp] theorem fieldOff_8_0 : fieldOff Go.Proofs.Tryd.prog 8 0 = some 0 := by kernel_rfl
@[simp] theorem fieldOff_8_1 : fieldOff Go.Proofs.Tryd.prog 8 1 = some 1 := by kernel_rfl
@[simp] theorem fieldOff_8_2 : fieldOff Go.Proofs.Tryd.prog 8 2 = some 2 := by kernel_rfl
@[simp] theorem fieldOff_8_3 : fieldOff Go.Proofs.Tryd.prog 8 3 = some 3 := by kernel_rfl
@[simp] theorem underlying_9 : Program.underlying Go.Proofs.Tryd.prog 9 = some TypeDesc.string := by kernel_rfl
@[simp] theorem szOf_9 : szOf Go.Proofs.Tryd.prog 9 = some 1 := by kernel_rfl
@[simp] theorem byOf_9 : byOf Go.Proofs.Tryd.prog 9 = some 16 := by kernel_rfl
@[simp] theorem zeroOf_9 : zeroOf Go.Proofs.Tryd.prog 9 = some [AV.s { data := { toList := [] } }] := by kernel_rfl
@[simp] theorem zsz_9 : zsz Go.Proofs.Tryd.prog 9 = some 1 := by kernel_rfl
@[simp] theorem zeroAV_9 : zeroAV Go.Proofs.Tryd.prog 9 = some (AV.s { data := { toList := [] } }) := by kernel_rfl
@[simp] theorem underlying_10 : Program.underlying Go.Proofs.Tryd.prog 10 = some TypeDesc.string := by kernel_rfl
@[simp] theorem szOf_10 : szOf Go.Proofs.Tryd.prog 10 = some 1 := by kernel_rfl
@[simp] theorem byOf_10 : byOf Go.Proofs.Tryd.prog 10 = some 16 := by kernel_rfl
@[simp] theorem zeroOf_10 : zeroOf Go.Proofs.Tryd.prog 10 = some [AV.s { data := { toList := [] } }] := by kernel_rfl
@[simp] theorem zsz_10 : zsz Go.Proofs.Tryd.prog 10 = some 1 := by kernel_rfl
@[simp] theorem zeroAV_10 : zeroAV Go.Proofs.Tryd.prog 10 = some (AV.s { data := { toList := [] } }) := by kernel_rfl
@[simp] theorem underlying_11 : Program.underlying Go.Proofs.Tryd.prog 11 = some TypeDesc.string := by kernel_rfl
@[simp] theorem szOf_11 : szOf Go.Proofs.Tryd.prog 11 = some 1 := by kernel_rfl
@[simp] theorem byOf_11 : byOf Go.Proofs.Tryd.prog 11 = some 16 := by kernel_rfl
@[simp] theorem zeroOf_11 : zeroOf Go.Proofs.Tryd.prog 11 = some [AV.s { data := { toList := [] } }] := by kernel_rfl
@[simp] theorem zsz_11 : zsz Go.Proofs.Tryd.prog 11 = some 1 := by kernel_rfl
@[simp] theorem zeroAV_11 : zeroAV Go.Proofs.Tryd.prog 11 = some (AV.s { data := { toList := [] } }) := by kernel_rfl
@[simp] theorem underlying_12 : Program.underlying Go.Proofs.Tryd.prog 12 = some (TypeDesc.int IntKind.u64) := by kernel_rfl
@[simp] theorem szOf_12 : szOf Go.Proofs.Tryd.prog 12 = some 1 := by kernel_rfl
@[simp] theorem byOf_12 : byOf Go.Proofs.Tryd.prog 12 = some 8 := by kernel_rfl
@[simp] theorem zeroOf_12 : zeroOf Go.Proofs.Tryd.prog 12 = some [AV.i IntKind.u64 (0)] := by kernel_rfl
@[simp] theorem zsz_12 : zsz Go.Proofs.Tryd.prog 12 = some 1 := by kernel_rfl
@[simp] theorem zeroAV_12 : zeroAV Go.Proofs.Tryd.prog 12 = some (AV.i IntKind.u64 (0)) := by kernel_rfl
@[simp] theorem underlying_13 : Program.underlying Go.Proofs.Tryd.prog 13 = some (TypeDesc.struct { toList := [{ name := "msg", type := 9, offset := 0, embedded := false, tag := "", pkgPath := "runtime", byteOffset := 0 }, { name := "addr", type := 12, offset := 1, embedded := false, tag := "", pkgPath := "runtime", byteOffset := 16 }] }) := by kernel_rfl
@[simp] theorem szOf_13 : szOf Go.Proofs.Tryd.prog 13 = some 2 := by kernel_rfl
@[simp] theorem byOf_13 : byOf Go.Proofs.Tryd.prog 13 = some 24 := by kernel_rfl
@[simp] theorem zeroOf_13 : zeroOf Go.Proofs.Tryd.prog 13 = some [AV.s { data := { toList := [] } }, AV.i IntKind.u64 (0)] := by kernel_rfl
@[simp] theorem zsz_13 : zsz Go.Proofs.Tryd.prog 13 = some 2 := by kernel_rfl
@[simp] theorem zeroAV_13 : zeroAV Go.Proofs.Tryd.prog 13 = some (AV.agg [AV.s { data := { toList := [] } }, AV.i IntKind.u64 (0)]) := by kernel_rfl
@[simp] theorem fieldOff_13_0 : fieldOff Go.Proofs.Tryd.prog 13 0 = some 0 := by kernel_rfl
@[simp] theorem fieldOff_13_1 : fieldOff Go.Proofs.Tryd.prog 13 1 = some 1 := by kernel_rfl
@[simp] theorem underlying_14 : Program.underlying Go.Proofs.Tryd.prog 14 = some (TypeDesc.struct { toList := [{ name := "msg", type := 9, offset := 0, embedded := false, tag := "", pkgPath := "runtime", byteOffset := 0 }, { name := "addr", type := 12, offset := 1, embedded := false, tag := "", pkgPath := "runtime", byteOffset := 16 }] }) := by kernel_rfl
@[simp] theorem szOf_14 : szOf Go.Proofs.Tryd.prog 14 = some 2 := by kernel_rfl
@[simp] theorem byOf_14 : byOf Go.Proofs.Tryd.prog 14 = some 24 := by kernel_rfl
@[simp] theorem zeroOf_14 : zeroOf Go.Proofs.Tryd.prog 14 = some [AV.s { data := { toList := [] } }, AV.i IntKind.u64 (0)] := by kernel_rfl
@[simp] theorem zsz_14 : zsz Go.Proofs.Tryd.prog 14 = some 2 := by kernel_rfl
@[simp] theorem zeroAV_14 : zeroAV Go.Proofs.Tryd.prog 14 = some (AV.agg [AV.s { data := { toList := [] } }, AV.i IntKind.u64 (0)]) := by kernel_rfl
@[simp] theorem fieldOff_14_0 : fieldOff Go.Proofs.Tryd.prog 14 0 = some 0 := by kernel_rfl
@[simp] theorem fieldOff_14_1 : fieldOff Go.Proofs.Tryd.prog 14 1 = some 1 := by kernel_rfl
@[simp] theorem underlying_15 : Program.underlying Go.Proofs.Tryd.prog 15 = some (TypeDesc.pointer 172) := by kernel_rfl
@[simp] theorem szOf_15 : szOf Go.Proofs.Tryd.prog 15 = some 1 := by kernel_rfl
@[simp] theorem byOf_15 : byOf Go.Proofs.Tryd.prog 15 = some 8 := by kernel_rfl
@[simp] theorem zeroOf_15 : zeroOf Go.Proofs.Tryd.prog 15 = some [AV.np] := by kernel_rfl
@[simp] theorem zsz_15 : zsz Go.Proofs.Tryd.prog 15 = some 1 := by kernel_rfl
@[simp] theorem zeroAV_15 : zeroAV Go.Proofs.Tryd.prog 15 = some AV.np := by kernel_rfl
@[simp] theorem underlying_16 : Program.underlying Go.Proofs.Tryd.prog 16 = some (TypeDesc.pointer 175) := by kernel_rfl
@[simp] theorem szOf_16 : szOf Go.Proofs.Tryd.prog 16 = some 1 := by kernel_rfl
@[simp] theorem byOf_16 : byOf Go.Proofs.Tryd.prog 16 = some 8 := by kernel_rfl
@[simp] theorem zeroOf_16 : zeroOf Go.Proofs.Tryd.prog 16 = some [AV.np] := by kernel_rfl
@[simp] theorem zsz_16 : zsz Go.Proofs.Tryd.prog 16 = some 1 := by kernel_rfl
@[simp] theorem zeroAV_16 : zeroAV Go.Proofs.Tryd.prog 16 = some AV.np := by kernel_rfl
@[simp] theorem underlying_17 : Program.underlying Go.Proofs.Tryd.prog 17 = some (TypeDesc.pointer 183) := by kernel_rfl
@[simp] theorem szOf_17 : szOf Go.Proofs.Tryd.prog 17 = some 1 := by kernel_rfl
@[simp] theorem byOf_17 : byOf Go.Proofs.Tryd.prog 17 = some 8 := by kernel_rfl
@[simp] theorem zeroOf_17 : zeroOf Go.Proofs.Tryd.prog 17 = some [AV.np] := by kernel_rfl
@[simp] theorem zsz_17 : zsz Go.Proofs.Tryd.prog 17 = some 1 := by kernel_rfl
@[simp] theorem zeroAV_17 : zeroAV Go.Proofs.Tryd.prog 17 = some AV.np := by kernel_rfl
@[simp] theorem underlying_18 : Program.underlying Go.Proofs.Tryd.prog 18 = some (TypeDesc.struct { toList := [{ name := "typ", type := 17, offset := 0, embedded := false, tag := "", pkgPath := "internal/runtime/maps", byteOffset := 0 }] }) := by kernel_rfl
@[simp] theorem szOf_18 : szOf Go.Proofs.Tryd.prog 18 = some 1 := by kernel_rfl
@[simp] theorem byOf_18 : byOf Go.Proofs.Tryd.prog 18 = some 8 := by kernel_rfl
@[simp] theorem zeroOf_18 : zeroOf Go.Proofs.Tryd.prog 18 = some [AV.np] := by kernel_rfl
@[simp] theorem zsz_18 : zsz Go.Proofs.Tryd.prog 18 = some 1 := by kernel_rfl
@[simp] theorem zeroAV_18 : zeroAV Go.Proofs.Tryd.prog 18 = some (AV.agg [AV.np]) := by kernel_rfl
@[simp] theorem fieldOff_18_0 : fieldOff Go.Proofs.Tryd.prog 18 0 = some 0 := by kernel_rfl
@[simp] theorem underlying_19 : Program.underlying Go.Proofs.Tryd.prog 19 = some (TypeDesc.struct { toList := [{ name := "typ", type := 17, offset := 0, embedded := false, tag := "", pkgPath := "internal/runtime/maps", byteOffset := 0 }] }) := by kernel_rfl
@[simp] theorem szOf_19 : szOf Go.Proofs.Tryd.prog 19 = some 1 := by kernel_rfl
@[simp] theorem byOf_19 : byOf Go.Proofs.Tryd.prog 19 = some 8 := by kernel_rfl
@[simp] theorem zeroOf_19 : zeroOf Go.Proofs.Tryd.prog 19 = some [AV.np] := by kernel_rfl
@[simp] theorem zsz_19 : zsz Go.Proofs.Tryd.prog 19 = some 1 := by kernel_rfl
@[simp] theorem zeroAV_19 : zeroAV Go.Proofs.Tryd.prog 19 = some (AV.agg [AV.np]) := by kernel_rfl
@[simp] theorem fieldOff_19_0 : fieldOff Go.Proofs.Tryd.prog 19 0 = some 0 := by kernel_rfl
@[simp] theorem underlying_20 : Program.underlying Go.Proofs.Tryd.prog 20 = some (TypeDesc.interface { toList := [] }) := by kernel_rfl
@[simp] theorem szOf_20 : szOf Go.Proofs.Tryd.prog 20 = some 1 := by kernel_rfl
@[simp] theorem byOf_20 : byOf Go.Proofs.Tryd.prog 20 = some 16 := by kernel_rfl
@[simp] theorem zeroOf_20 : zeroOf Go.Proofs.Tryd.prog 20 = some [AV.undef] := by kernel_rfl
@[simp] theorem zsz_20 : zsz Go.Proofs.Tryd.prog 20 = some 1 := by kernel_rfl
@[simp] theorem zeroAV_20 : zeroAV Go.Proofs.Tryd.prog 20 = some AV.undef := by kernel_rfl
@[simp] theorem underlying_21 : Program.underlying Go.Proofs.Tryd.prog 21 = some (TypeDesc.int IntKind.i32) := by kernel_rfl
@[simp] theorem szOf_21 : szOf Go.Proofs.Tryd.prog 21 = some 1 := by kernel_rfl
@[simp] theorem byOf_21 : byOf Go.Proofs.Tryd.prog 21 = some 4 := by kernel_rfl
@[simp] theorem zeroOf_21 : zeroOf Go.Proofs.Tryd.prog 21 = some [AV.i IntKind.i32 (0)] := by kernel_rfl
@[simp] theorem zsz_21 : zsz Go.Proofs.Tryd.prog 21 = some 1 := by kernel_rfl
@[simp] theorem zeroAV_21 : zeroAV Go.Proofs.Tryd.prog 21 = some (AV.i IntKind.i32 (0)) := by kernel_rfl
@[simp] theorem underlying_22 : Program.underlying Go.Proofs.Tryd.prog 22 = some (TypeDesc.slice 30) := by kernel_rfl
@[simp] theorem szOf_22 : szOf Go.Proofs.Tryd.prog 22 = some 1 := by kernel_rfl
@[simp] theorem byOf_22 : byOf Go.Proofs.Tryd.prog 22 = some 24 := by kernel_rfl
@[simp] theorem zeroOf_22 : zeroOf Go.Proofs.Tryd.prog 22 = some [AV.vs true 0 []] := by kernel_rfl
@[simp] theorem zsz_22 : zsz Go.Proofs.Tryd.prog 22 = some 1 := by kernel_rfl
@[simp] theorem elemOf_22 : elemOf Go.Proofs.Tryd.prog 22 = some 30 := by kernel_rfl
@[simp] theorem zeroAV_22 : zeroAV Go.Proofs.Tryd.prog 22 = some (AV.vs true 0 []) := by kernel_rfl
@[simp] theorem underlying_23 : Program.underlying Go.Proofs.Tryd.prog 23 = some (TypeDesc.int IntKind.u64) := by kernel_rfl
@[simp] theorem szOf_23 : szOf Go.Proofs.Tryd.prog 23 = some 1 := by kernel_rfl
@[simp] theorem byOf_23 : byOf Go.Proofs.Tryd.prog 23 = some 8 := by kernel_rfl
@[simp] theorem zeroOf_23 : zeroOf Go.Proofs.Tryd.prog 23 = some [AV.i IntKind.u64 (0)] := by kernel_rfl
@[simp] theorem zsz_23 : zsz Go.Proofs.Tryd.prog 23 = some 1 := by kernel_rfl
@[simp] theorem zeroAV_23 : zeroAV Go.Proofs.Tryd.prog 23 = some (AV.i IntKind.u64 (0)) := by kernel_rfl
@[simp] theorem underlying_24 : Program.underlying Go.Proofs.Tryd.prog 24 = some (TypeDesc.func { toList := [22] } { toList := [22] } false) := by kernel_rfl
@[simp] theorem szOf_24 : szOf Go.Proofs.Tryd.prog 24 = some 1 := by kernel_rfl
@[simp] theorem byOf_24 : byOf Go.Proofs.Tryd.prog 24 = some 8 := by kernel_rfl
@[simp] theorem zeroOf_24 : zeroOf Go.Proofs.Tryd.prog 24 = some [AV.nfn] := by kernel_rfl
@[simp] theorem zsz_24 : zsz Go.Proofs.Tryd.prog 24 = some 1 := by kernel_rfl
@[simp] theorem zeroAV_24 : zeroAV Go.Proofs.Tryd.prog 24 = some AV.nfn := by kernel_rfl
@[simp] theorem underlying_25 : Program.underlying Go.Proofs.Tryd.prog 25 = some (TypeDesc.int IntKind.i64) := by kernel_rfl
@[simp] theorem szOf_25 : szOf Go.Proofs.Tryd.prog 25 = some 1 := by kernel_rfl
@[simp] theorem byOf_25 : byOf Go.Proofs.Tryd.prog 25 = some 8 := by kernel_rfl
@[simp] theorem zeroOf_25 : zeroOf Go.Proofs.Tryd.prog 25 = some [AV.i IntKind.i64 (0)] := by kernel_rfl
@[simp] theorem zsz_25 : zsz Go.Proofs.Tryd.prog 25 = some 1 := by kernel_rfl
@[simp] theorem zeroAV_25 : zeroAV Go.Proofs.Tryd.prog 25 = some (AV.i IntKind.i64 (0)) := by kernel_rfl
@[simp] theorem underlying_26 : Program.underlying Go.Proofs.Tryd.prog 26 = some (TypeDesc.func { toList := [22] } { toList := [25] } false) := by kernel_rfl
@[simp] theorem szOf_26 : szOf Go.Proofs.Tryd.prog 26 = some 1 := by kernel_rfl
@[simp] theorem byOf_26 : byOf Go.Proofs.Tryd.prog 26 = some 8 := by kernel_rfl
@[simp] theorem zeroOf_26 : zeroOf Go.Proofs.Tryd.prog 26 = some [AV.nfn] := by kernel_rfl
@[simp] theorem zsz_26 : zsz Go.Proofs.Tryd.prog 26 = some 1 := by kernel_rfl
@[simp] theorem zeroAV_26 : zeroAV Go.Proofs.Tryd.prog 26 = some AV.nfn := by kernel_rfl
@[simp] theorem underlying_27 : Program.underlying Go.Proofs.Tryd.prog 27 = some (TypeDesc.slice 3) := by kernel_rfl
@[simp] theorem szOf_27 : szOf Go.Proofs.Tryd.prog 27 = some 1 := by kernel_rfl
@[simp] theorem byOf_27 : byOf Go.Proofs.Tryd.prog 27 = some 24 := by kernel_rfl
@[simp] theorem zeroOf_27 : zeroOf Go.Proofs.Tryd.prog 27 = some [AV.vs true 0 []] := by kernel_rfl
@[simp] theorem zsz_27 : zsz Go.Proofs.Tryd.prog 27 = some 1 := by kernel_rfl
@[simp] theorem elemOf_27 : elemOf Go.Proofs.Tryd.prog 27 = some 3 := by kernel_rfl
@[simp] theorem zeroAV_27 : zeroAV Go.Proofs.Tryd.prog 27 = some (AV.vs true 0 []) := by kernel_rfl
@[simp] theorem underlying_28 : Program.underlying Go.Proofs.Tryd.prog 28 = some (TypeDesc.tuple { toList := [27, 25] }) := by kernel_rfl
@[simp] theorem szOf_28 : szOf Go.Proofs.Tryd.prog 28 = some 1 := by kernel_rfl
@[simp] theorem byOf_28 : byOf Go.Proofs.Tryd.prog 28 = some 0 := by kernel_rfl
@[simp] theorem zeroOf_28 : zeroOf Go.Proofs.Tryd.prog 28 = some [AV.undef] := by kernel_rfl
@[simp] theorem zsz_28 : zsz Go.Proofs.Tryd.prog 28 = some 1 := by kernel_rfl
@[simp] theorem zeroAV_28 : zeroAV Go.Proofs.Tryd.prog 28 = some AV.undef := by kernel_rfl
@[simp] theorem underlying_29 : Program.underlying Go.Proofs.Tryd.prog 29 = some (TypeDesc.func { toList := [22] } { toList := [27, 25] } false) := by kernel_rfl
@[simp] theorem szOf_29 : szOf Go.Proofs.Tryd.prog 29 = some 1 := by kernel_rfl
@[simp] theorem byOf_29 : byOf Go.Proofs.Tryd.prog 29 = some 8 := by kernel_rfl
@[simp] theorem zeroOf_29 : zeroOf Go.Proofs.Tryd.prog 29 = some [AV.nfn] := by kernel_rfl
@[simp] theorem zsz_29 : zsz Go.Proofs.Tryd.prog 29 = some 1 := by kernel_rfl
@[simp] theorem zeroAV_29 : zeroAV Go.Proofs.Tryd.prog 29 = some AV.nfn := by kernel_rfl
@[simp] theorem underlying_30 : Program.underlying Go.Proofs.Tryd.prog 30 = some (TypeDesc.slice 39) := by kernel_rfl
@[simp] theorem szOf_30 : szOf Go.Proofs.Tryd.prog 30 = some 1 := by kernel_rfl
@[simp] theorem byOf_30 : byOf Go.Proofs.Tryd.prog 30 = some 24 := by kernel_rfl
@[simp] theorem zeroOf_30 : zeroOf Go.Proofs.Tryd.prog 30 = some [AV.vs true 0 []] := by kernel_rfl
@[simp] theorem zsz_30 : zsz Go.Proofs.Tryd.prog 30 = some 1 := by kernel_rfl
@[simp] theorem elemOf_30 : elemOf Go.Proofs.Tryd.prog 30 = some 39 := by kernel_rfl
@[simp] theorem zeroAV_30 : zeroAV Go.Proofs.Tryd.prog 30 = some (AV.vs true 0 []) := by kernel_rfl
@[simp] theorem underlying_31 : Program.underlying Go.Proofs.Tryd.prog 31 = some (TypeDesc.tuple { toList := [30, 25] }) := by kernel_rfl
@[simp] theorem szOf_31 : szOf Go.Proofs.Tryd.prog 31 = some 1 := by kernel_rfl
@[simp] theorem byOf_31 : byOf Go.Proofs.Tryd.prog 31 = some 0 := by kernel_rfl
@[simp] theorem zeroOf_31 : zeroOf Go.Proofs.Tryd.prog 31 = some [AV.undef] := by kernel_rfl
@[simp] theorem zsz_31 : zsz Go.Proofs.Tryd.prog 31 = some 1 := by kernel_rfl
@[simp] theorem zeroAV_31 : zeroAV Go.Proofs.Tryd.prog 31 = some AV.undef := by kernel_rfl
@[simp] theorem underlying_32 : Program.underlying Go.Proofs.Tryd.prog 32 = some (TypeDesc.func { toList := [22] } { toList := [30, 25] } false) := by kernel_rfl
@[simp] theorem szOf_32 : szOf Go.Proofs.Tryd.prog 32 = some 1 := by kernel_rfl
@[simp] theorem byOf_32 : byOf Go.Proofs.Tryd.prog 32 = some 8 := by kernel_rfl
@[simp] theorem zeroOf_32 : zeroOf Go.Proofs.Tryd.prog 32 = some [AV.nfn] := by kernel_rfl
@[simp] theorem zsz_32 : zsz Go.Proofs.Tryd.prog 32 = some 1 := by kernel_rfl
@[simp] theorem zeroAV_32 : zeroAV Go.Proofs.Tryd.prog 32 = some AV.nfn := by kernel_rfl
@[simp] theorem underlying_33 : Program.underlying Go.Proofs.Tryd.prog 33 = some (TypeDesc.func { toList := [30, 30] } { toList := [4] } false) := by kernel_rfl
@[simp] theorem szOf_33 : szOf Go.Proofs.Tryd.prog 33 = some 1 := by kernel_rfl
@[simp] theorem byOf_33 : byOf Go.Proofs.Tryd.prog 33 = some 8 := by kernel_rfl
@[simp] theorem zeroOf_33 : zeroOf Go.Proofs.Tryd.prog 33 = some [AV.nfn] := by kernel_rfl
@[simp] theorem zsz_33 : zsz Go.Proofs.Tryd.prog 33 = some 1 := by kernel_rfl
@[simp] theorem zeroAV_33 : zeroAV Go.Proofs.Tryd.prog 33 = some AV.nfn := by kernel_rfl
@[simp] theorem underlying_34 : Program.underlying Go.Proofs.Tryd.prog 34 = some (TypeDesc.func { toList := [30, 23] } { toList := [30] } false) := by kernel_rfl
@[simp] theorem szOf_34 : szOf Go.Proofs.Tryd.prog 34 = some 1 := by kernel_rfl
@[simp] theorem byOf_34 : byOf Go.Proofs.Tryd.prog 34 = some 8 := by kernel_rfl
@[simp] theorem zeroOf_34 : zeroOf Go.Proofs.Tryd.prog 34 = some [AV.nfn] := by kernel_rfl
@[simp] theorem zsz_34 : zsz Go.Proofs.Tryd.prog 34 = some 1 := by kernel_rfl
@[simp] theorem zeroAV_34 : zeroAV Go.Proofs.Tryd.prog 34 = some AV.nfn := by kernel_rfl
@[simp] theorem underlying_35 : Program.underlying Go.Proofs.Tryd.prog 35 = some (TypeDesc.func { toList := [30] } { toList := [30] } false) := by kernel_rfl
@[simp] theorem szOf_35 : szOf Go.Proofs.Tryd.prog 35 = some 1 := by kernel_rfl
@[simp] theorem byOf_35 : byOf Go.Proofs.Tryd.prog 35 = some 8 := by kernel_rfl
@[simp] theorem zeroOf_35 : zeroOf Go.Proofs.Tryd.prog 35 = some [AV.nfn] := by kernel_rfl
@[simp] theorem zsz_35 : zsz Go.Proofs.Tryd.prog 35 = some 1 := by kernel_rfl
@[simp] theorem zeroAV_35 : zeroAV Go.Proofs.Tryd.prog 35 = some AV.nfn := by kernel_rfl
@[simp] theorem underlying_36 : Program.underlying Go.Proofs.Tryd.prog 36 = some (TypeDesc.slice 50) := by kernel_rfl
@[simp] theorem szOf_36 : szOf Go.Proofs.Tryd.prog 36 = some 1 := by kernel_rfl
@[simp] theorem byOf_36 : byOf Go.Proofs.Tryd.prog 36 = some 24 := by kernel_rfl
@[simp] theorem zeroOf_36 : zeroOf Go.Proofs.Tryd.prog 36 = some [AV.vs true 0 []] := by kernel_rfl
@[simp] theorem zsz_36 : zsz Go.Proofs.Tryd.prog 36 = some 1 := by kernel_rfl
@[simp] theorem elemOf_36 : elemOf Go.Proofs.Tryd.prog 36 = some 50 := by kernel_rfl
@[simp] theorem zeroAV_36 : zeroAV Go.Proofs.Tryd.prog 36 = some (AV.vs true 0 []) := by kernel_rfl
@[simp] theorem underlying_37 : Program.underlying Go.Proofs.Tryd.prog 37 = some (TypeDesc.slice 50) := by kernel_rfl
@[simp] theorem szOf_37 : szOf Go.Proofs.Tryd.prog 37 = some 1 := by kernel_rfl
@[simp] theorem byOf_37 : byOf Go.Proofs.Tryd.prog 37 = some 24 := by kernel_rfl
@[simp] theorem zeroOf_37 : zeroOf Go.Proofs.Tryd.prog 37 = some [AV.vs true 0 []] := by kernel_rfl
@[simp] theorem zsz_37 : zsz Go.Proofs.Tryd.prog 37 = some 1 := by kernel_rfl
@[simp] theorem elemOf_37 : elemOf Go.Proofs.Tryd.prog 37 = some 50 := by kernel_rfl
@[simp] theorem zeroAV_37 : zeroAV Go.Proofs.Tryd.prog 37 = some (AV.vs true 0 []) := by kernel_rfl
@[simp] theorem underlying_38 : Program.underlying Go.Proofs.Tryd.prog 38 = some (TypeDesc.struct { toList := [{ name := "ID", type := 23, offset := 0, embedded := false, tag := "", pkgPath := "", byteOffset := 0 }, { name := "Client", type := 23, offset := 1, embedded := false, tag := "", pkgPath := "", byteOffset := 8 }, { name := "Seq", type := 23, offset := 2, embedded := false, tag := "", pkgPath := "", byteOffset := 16 }, { name := "Parts", type := 27, offset := 3, embedded := false, tag := "", pkgPath := "", byteOffset := 24 }, { name := "Proc", type := 9, offset := 4, embedded := false, tag := "", pkgPath := "", byteOffset := 48 }, { name := "Args", type := 37, offset := 5, embedded := false, tag := "", pkgPath := "", byteOffset := 64 }] }) := by kernel_rfl
@[simp] theorem szOf_38 : szOf Go.Proofs.Tryd.prog 38 = some 6 := by kernel_rfl
@[simp] theorem byOf_38 : byOf Go.Proofs.Tryd.prog 38 = some 88 := by kernel_rfl
@[simp] theorem zeroOf_38 : zeroOf Go.Proofs.Tryd.prog 38 = some [AV.i IntKind.u64 (0), AV.i IntKind.u64 (0), AV.i IntKind.u64 (0), AV.vs true 0 [], AV.s { data := { toList := [] } }, AV.vs true 0 []] := by kernel_rfl
@[simp] theorem zsz_38 : zsz Go.Proofs.Tryd.prog 38 = some 6 := by kernel_rfl
@[simp] theorem zeroAV_38 : zeroAV Go.Proofs.Tryd.prog 38 = some (AV.agg [AV.i IntKind.u64 (0), AV.i IntKind.u64 (0), AV.i IntKind.u64 (0), AV.vs true 0 [], AV.s { data := { toList := [] } }, AV.vs true 0 []]) := by kernel_rfl
@[simp] theorem fieldOff_38_0 : fieldOff Go.Proofs.Tryd.prog 38 0 = some 0 := by kernel_rfl
@[simp] theorem fieldOff_38_1 : fieldOff Go.Proofs.Tryd.prog 38 1 = some 1 := by kernel_rfl
@[simp] theorem fieldOff_38_2 : fieldOff Go.Proofs.Tryd.prog 38 2 = some 2 := by kernel_rfl
@[simp] theorem fieldOff_38_3 : fieldOff Go.Proofs.Tryd.prog 38 3 = some 3 := by kernel_rfl
@[simp] theorem fieldOff_38_4 : fieldOff Go.Proofs.Tryd.prog 38 4 = some 4 := by kernel_rfl
@[simp] theorem fieldOff_38_5 : fieldOff Go.Proofs.Tryd.prog 38 5 = some 5 := by kernel_rfl
@[simp] theorem underlying_39 : Program.underlying Go.Proofs.Tryd.prog 39 = some (TypeDesc.struct { toList := [{ name := "ID", type := 23, offset := 0, embedded := false, tag := "", pkgPath := "", byteOffset := 0 }, { name := "Client", type := 23, offset := 1, embedded := false, tag := "", pkgPath := "", byteOffset := 8 }, { name := "Seq", type := 23, offset := 2, embedded := false, tag := "", pkgPath := "", byteOffset := 16 }, { name := "Parts", type := 27, offset := 3, embedded := false, tag := "", pkgPath := "", byteOffset := 24 }, { name := "Proc", type := 9, offset := 4, embedded := false, tag := "", pkgPath := "", byteOffset := 48 }, { name := "Args", type := 37, offset := 5, embedded := false, tag := "", pkgPath := "", byteOffset := 64 }] }) := by kernel_rfl
@[simp] theorem szOf_39 : szOf Go.Proofs.Tryd.prog 39 = some 6 := by kernel_rfl
@[simp] theorem byOf_39 : byOf Go.Proofs.Tryd.prog 39 = some 88 := by kernel_rfl
@[simp] theorem zeroOf_39 : zeroOf Go.Proofs.Tryd.prog 39 = some [AV.i IntKind.u64 (0), AV.i IntKind.u64 (0), AV.i IntKind.u64 (0), AV.vs true 0 [], AV.s { data := { toList := [] } }, AV.vs true 0 []] := by kernel_rfl
@[simp] theorem zsz_39 : zsz Go.Proofs.Tryd.prog 39 = some 6 := by kernel_rfl
@[simp] theorem zeroAV_39 : zeroAV Go.Proofs.Tryd.prog 39 = some (AV.agg [AV.i IntKind.u64 (0), AV.i IntKind.u64 (0), AV.i IntKind.u64 (0), AV.vs true 0 [], AV.s { data := { toList := [] } }, AV.vs true 0 []]) := by kernel_rfl
@[simp] theorem fieldOff_39_0 : fieldOff Go.Proofs.Tryd.prog 39 0 = some 0 := by kernel_rfl
@[simp] theorem fieldOff_39_1 : fieldOff Go.Proofs.Tryd.prog 39 1 = some 1 := by kernel_rfl
@[simp] theorem fieldOff_39_2 : fieldOff Go.Proofs.Tryd.prog 39 2 = some 2 := by kernel_rfl
@[simp] theorem fieldOff_39_3 : fieldOff Go.Proofs.Tryd.prog 39 3 = some 3 := by kernel_rfl
@[simp] theorem fieldOff_39_4 : fieldOff Go.Proofs.Tryd.prog 39 4 = some 4 := by kernel_rfl
@[simp] theorem fieldOff_39_5 : fieldOff Go.Proofs.Tryd.prog 39 5 = some 5 := by kernel_rfl
@[simp] theorem underlying_40 : Program.underlying Go.Proofs.Tryd.prog 40 = some (TypeDesc.func { toList := [22, 23] } { toList := [4] } false) := by kernel_rfl
@[simp] theorem szOf_40 : szOf Go.Proofs.Tryd.prog 40 = some 1 := by kernel_rfl
@[simp] theorem byOf_40 : byOf Go.Proofs.Tryd.prog 40 = some 8 := by kernel_rfl
@[simp] theorem zeroOf_40 : zeroOf Go.Proofs.Tryd.prog 40 = some [AV.nfn] := by kernel_rfl
@[simp] theorem zsz_40 : zsz Go.Proofs.Tryd.prog 40 = some 1 := by kernel_rfl
@[simp] theorem zeroAV_40 : zeroAV Go.Proofs.Tryd.prog 40 = some AV.nfn := by kernel_rfl
@[simp] theorem underlying_41 : Program.underlying Go.Proofs.Tryd.prog 41 = some (TypeDesc.slice 5) := by kernel_rfl
@[simp] theorem szOf_41 : szOf Go.Proofs.Tryd.prog 41 = some 1 := by kernel_rfl
@[simp] theorem byOf_41 : byOf Go.Proofs.Tryd.prog 41 = some 24 := by kernel_rfl
@[simp] theorem zeroOf_41 : zeroOf Go.Proofs.Tryd.prog 41 = some [AV.vs true 0 []] := by kernel_rfl
@[simp] theorem zsz_41 : zsz Go.Proofs.Tryd.prog 41 = some 1 := by kernel_rfl
@[simp] theorem elemOf_41 : elemOf Go.Proofs.Tryd.prog 41 = some 5 := by kernel_rfl
@[simp] theorem zeroAV_41 : zeroAV Go.Proofs.Tryd.prog 41 = some (AV.vs true 0 []) := by kernel_rfl
@[simp] theorem underlying_42 : Program.underlying Go.Proofs.Tryd.prog 42 = some (TypeDesc.func { toList := [39] } { toList := [39] } false) := by kernel_rfl
@[simp] theorem szOf_42 : szOf Go.Proofs.Tryd.prog 42 = some 1 := by kernel_rfl
@[simp] theorem byOf_42 : byOf Go.Proofs.Tryd.prog 42 = some 8 := by kernel_rfl
@[simp] theorem zeroOf_42 : zeroOf Go.Proofs.Tryd.prog 42 = some [AV.nfn] := by kernel_rfl
@[simp] theorem zsz_42 : zsz Go.Proofs.Tryd.prog 42 = some 1 := by kernel_rfl
@[simp] theorem zeroAV_42 : zeroAV Go.Proofs.Tryd.prog 42 = some AV.nfn := by kernel_rfl
@[simp] theorem underlying_43 : Program.underlying Go.Proofs.Tryd.prog 43 = some (TypeDesc.func { toList := [41] } { toList := [41] } false) := by kernel_rfl
@[simp] theorem szOf_43 : szOf Go.Proofs.Tryd.prog 43 = some 1 := by kernel_rfl
@[simp] theorem byOf_43 : byOf Go.Proofs.Tryd.prog 43 = some 8 := by kernel_rfl
@[simp] theorem zeroOf_43 : zeroOf Go.Proofs.Tryd.prog 43 = some [AV.nfn] := by kernel_rfl
@[simp] theorem zsz_43 : zsz Go.Proofs.Tryd.prog 43 = some 1 := by kernel_rfl
@[simp] theorem zeroAV_43 : zeroAV Go.Proofs.Tryd.prog 43 = some AV.nfn := by kernel_rfl
@[simp] theorem underlying_44 : Program.underlying Go.Proofs.Tryd.prog 44 = some (TypeDesc.tuple { toList := [41, 25] }) := by kernel_rfl
@[simp] theorem szOf_44 : szOf Go.Proofs.Tryd.prog 44 = some 1 := by kernel_rfl
@[simp] theorem byOf_44 : byOf Go.Proofs.Tryd.prog 44 = some 0 := by kernel_rfl
@[simp] theorem zeroOf_44 : zeroOf Go.Proofs.Tryd.prog 44 = some [AV.undef] := by kernel_rfl
@[simp] theorem zsz_44 : zsz Go.Proofs.Tryd.prog 44 = some 1 := by kernel_rfl
@[simp] theorem zeroAV_44 : zeroAV Go.Proofs.Tryd.prog 44 = some AV.undef := by kernel_rfl
@[simp] theorem underlying_45 : Program.underlying Go.Proofs.Tryd.prog 45 = some (TypeDesc.func { toList := [39] } { toList := [41, 25] } false) := by kernel_rfl
@[simp] theorem szOf_45 : szOf Go.Proofs.Tryd.prog 45 = some 1 := by kernel_rfl
@[simp] theorem byOf_45 : byOf Go.Proofs.Tryd.prog 45 = some 8 := by kernel_rfl
@[simp] theorem zeroOf_45 : zeroOf Go.Proofs.Tryd.prog 45 = some [AV.nfn] := by kernel_rfl
@[simp] theorem zsz_45 : zsz Go.Proofs.Tryd.prog 45 = some 1 := by kernel_rfl
@[simp] theorem zeroAV_45 : zeroAV Go.Proofs.Tryd.prog 45 = some AV.nfn := by kernel_rfl
@[simp] theorem underlying_46 : Program.underlying Go.Proofs.Tryd.prog 46 = some (TypeDesc.func { toList := [39, 39] } { toList := [4] } false) := by kernel_rfl
@[simp] theorem szOf_46 : szOf Go.Proofs.Tryd.prog 46 = some 1 := by kernel_rfl
@[simp] theorem byOf_46 : byOf Go.Proofs.Tryd.prog 46 = some 8 := by kernel_rfl
@[simp] theorem zeroOf_46 : zeroOf Go.Proofs.Tryd.prog 46 = some [AV.nfn] := by kernel_rfl
@[simp] theorem zsz_46 : zsz Go.Proofs.Tryd.prog 46 = some 1 := by kernel_rfl
@[simp] theorem zeroAV_46 : zeroAV Go.Proofs.Tryd.prog 46 = some AV.nfn := by kernel_rfl
@[simp] theorem underlying_47 : Program.underlying Go.Proofs.Tryd.prog 47 = some (TypeDesc.tuple { toList := [39, 25] }) := by kernel_rfl
@[simp] theorem szOf_47 : szOf Go.Proofs.Tryd.prog 47 = some 1 := by kernel_rfl
@[simp] theorem byOf_47 : byOf Go.Proofs.Tryd.prog 47 = some 0 := by kernel_rfl
@[simp] theorem zeroOf_47 : zeroOf Go.Proofs.Tryd.prog 47 = some [AV.undef] := by kernel_rfl
@[simp] theorem zsz_47 : zsz Go.Proofs.Tryd.prog 47 = some 1 := by kernel_rfl
@[simp] theorem zeroAV_47 : zeroAV Go.Proofs.Tryd.prog 47 = some AV.undef := by kernel_rfl
@[simp] theorem underlying_48 : Program.underlying Go.Proofs.Tryd.prog 48 = some (TypeDesc.func { toList := [41] } { toList := [39, 25] } false) := by kernel_rfl
@[simp] theorem szOf_48 : szOf Go.Proofs.Tryd.prog 48 = some 1 := by kernel_rfl
@[simp] theorem byOf_48 : byOf Go.Proofs.Tryd.prog 48 = some 8 := by kernel_rfl
@[simp] theorem zeroOf_48 : zeroOf Go.Proofs.Tryd.prog 48 = some [AV.nfn] := by kernel_rfl
@[simp] theorem zsz_48 : zsz Go.Proofs.Tryd.prog 48 = some 1 := by kernel_rfl
@[simp] theorem zeroAV_48 : zeroAV Go.Proofs.Tryd.prog 48 = some AV.nfn := by kernel_rfl
@[simp] theorem underlying_49 : Program.underlying Go.Proofs.Tryd.prog 49 = some (TypeDesc.struct { toList := [{ name := "Type", type := 3, offset := 0, embedded := false, tag := "", pkgPath := "", byteOffset := 0 }, { name := "Int", type := 2, offset := 1, embedded := false, tag := "", pkgPath := "", byteOffset := 8 }, { name := "Text", type := 9, offset := 2, embedded := false, tag := "", pkgPath := "", byteOffset := 16 }] }) := by kernel_rfl
@[simp] theorem szOf_49 : szOf Go.Proofs.Tryd.prog 49 = some 3 := by kernel_rfl
@[simp] theorem byOf_49 : byOf Go.Proofs.Tryd.prog 49 = some 32 := by kernel_rfl
@[simp] theorem zeroOf_49 : zeroOf Go.Proofs.Tryd.prog 49 = some [AV.i IntKind.i64 (0), AV.i IntKind.i64 (0), AV.s { data := { toList := [] } }] := by kernel_rfl
@[simp] theorem zsz_49 : zsz Go.Proofs.Tryd.prog 49 = some 3 := by kernel_rfl
@[simp] theorem zeroAV_49 : zeroAV Go.Proofs.Tryd.prog 49 = some (AV.agg [AV.i IntKind.i64 (0), AV.i IntKind.i64 (0), AV.s { data := { toList := [] } }]) := by kernel_rfl
@[simp] theorem fieldOff_49_0 : fieldOff Go.Proofs.Tryd.prog 49 0 = some 0 := by kernel_rfl
@[simp] theorem fieldOff_49_1 : fieldOff Go.Proofs.Tryd.prog 49 1 = some 1 := by kernel_rfl
@[simp] theorem fieldOff_49_2 : fieldOff Go.Proofs.Tryd.prog 49 2 = some 2 := by kernel_rfl
@[simp] theorem underlying_50 : Program.underlying Go.Proofs.Tryd.prog 50 = some (TypeDesc.struct { toList := [{ name := "Type", type := 3, offset := 0, embedded := false, tag := "", pkgPath := "", byteOffset := 0 }, { name := "Int", type := 2, offset := 1, embedded := false, tag := "", pkgPath := "", byteOffset := 8 }, { name := "Text", type := 9, offset := 2, embedded := false, tag := "", pkgPath := "", byteOffset := 16 }] }) := by kernel_rfl
@[simp] theorem szOf_50 : szOf Go.Proofs.Tryd.prog 50 = some 3 := by kernel_rfl
@[simp] theorem byOf_50 : byOf Go.Proofs.Tryd.prog 50 = some 32 := by kernel_rfl
@[simp] theorem zeroOf_50 : zeroOf Go.Proofs.Tryd.prog 50 = some [AV.i IntKind.i64 (0), AV.i IntKind.i64 (0), AV.s { data := { toList := [] } }] := by kernel_rfl
@[simp] theorem zsz_50 : zsz Go.Proofs.Tryd.prog 50 = some 3 := by kernel_rfl
@[simp] theorem zeroAV_50 : zeroAV Go.Proofs.Tryd.prog 50 = some (AV.agg [AV.i IntKind.i64 (0), AV.i IntKind.i64 (0), AV.s { data := { toList := [] } }]) := by kernel_rfl
@[simp] theorem fieldOff_50_0 : fieldOff Go.Proofs.Tryd.prog 50 0 = some 0 := by kernel_rfl
@[simp] theorem fieldOff_50_1 : fieldOff Go.Proofs.Tryd.prog 50 1 = some 1 := by kernel_rfl
@[simp] theorem fieldOff_50_2 : fieldOff Go.Proofs.Tryd.prog 50 2 = some 2 := by kernel_rfl
@[simp] theorem underlying_51 : Program.underlying Go.Proofs.Tryd.prog 51 = some (TypeDesc.func { toList := [39] } { toList := [] } false) := by kernel_rfl
@[simp] theorem szOf_51 : szOf Go.Proofs.Tryd.prog 51 = some 1 := by kernel_rfl
@[simp] theorem byOf_51 : byOf Go.Proofs.Tryd.prog 51 = some 8 := by kernel_rfl
@[simp] theorem zeroOf_51 : zeroOf Go.Proofs.Tryd.prog 51 = some [AV.nfn] := by kernel_rfl
@[simp] theorem zsz_51 : zsz Go.Proofs.Tryd.prog 51 = some 1 := by kernel_rfl
@[simp] theorem zeroAV_51 : zeroAV Go.Proofs.Tryd.prog 51 = some AV.nfn := by kernel_rfl
@[simp] theorem underlying_52 : Program.underlying Go.Proofs.Tryd.prog 52 = some (TypeDesc.func { toList := [39, 39, 41] } { toList := [4] } false) := by kernel_rfl
@[simp] theorem szOf_52 : szOf Go.Proofs.Tryd.prog 52 = some 1 := by kernel_rfl
@[simp] theorem byOf_52 : byOf Go.Proofs.Tryd.prog 52 = some 8 := by kernel_rfl
@[simp] theorem zeroOf_52 : zeroOf Go.Proofs.Tryd.prog 52 = some [AV.nfn] := by kernel_rfl
@[simp] theorem zsz_52 : zsz Go.Proofs.Tryd.prog 52 = some 1 := by kernel_rfl
@[simp] theorem zeroAV_52 : zeroAV Go.Proofs.Tryd.prog 52 = some AV.nfn := by kernel_rfl
@[simp] theorem underlying_53 : Program.underlying Go.Proofs.Tryd.prog 53 = some (TypeDesc.func { toList := [] } { toList := [4] } false) := by kernel_rfl
@[simp] theorem szOf_53 : szOf Go.Proofs.Tryd.prog 53 = some 1 := by kernel_rfl
@[simp] theorem byOf_53 : byOf Go.Proofs.Tryd.prog 53 = some 8 := by kernel_rfl
@[simp] theorem zeroOf_53 : zeroOf Go.Proofs.Tryd.prog 53 = some [AV.nfn] := by kernel_rfl
@[simp] theorem zsz_53 : zsz Go.Proofs.Tryd.prog 53 = some 1 := by kernel_rfl
@[simp] theorem zeroAV_53 : zeroAV Go.Proofs.Tryd.prog 53 = some AV.nfn := by kernel_rfl
@[simp] theorem underlying_54 : Program.underlying Go.Proofs.Tryd.prog 54 = some (TypeDesc.func { toList := [3, 30, 41] } { toList := [22] } false) := by kernel_rfl
@[simp] theorem szOf_54 : szOf Go.Proofs.Tryd.prog 54 = some 1 := by kernel_rfl
@[simp] theorem byOf_54 : byOf Go.Proofs.Tryd.prog 54 = some 8 := by kernel_rfl
@[simp] theorem zeroOf_54 : zeroOf Go.Proofs.Tryd.prog 54 = some [AV.nfn] := by kernel_rfl
@[simp] theorem zsz_54 : zsz Go.Proofs.Tryd.prog 54 = some 1 := by kernel_rfl
@[simp] theorem zeroAV_54 : zeroAV Go.Proofs.Tryd.prog 54 = some AV.nfn := by kernel_rfl
@[simp] theorem underlying_55 : Program.underlying Go.Proofs.Tryd.prog 55 = some (TypeDesc.func { toList := [30, 23] } { toList := [4] } false) := by kernel_rfl
@[simp] theorem szOf_55 : szOf Go.Proofs.Tryd.prog 55 = some 1 := by kernel_rfl
@[simp] theorem byOf_55 : byOf Go.Proofs.Tryd.prog 55 = some 8 := by kernel_rfl
@[simp] theorem zeroOf_55 : zeroOf Go.Proofs.Tryd.prog 55 = some [AV.nfn] := by kernel_rfl
@[simp] theorem zsz_55 : zsz Go.Proofs.Tryd.prog 55 = some 1 := by kernel_rfl
@[simp] theorem zeroAV_55 : zeroAV Go.Proofs.Tryd.prog 55 = some AV.nfn := by kernel_rfl
@[simp] theorem underlying_56 : Program.underlying Go.Proofs.Tryd.prog 56 = some (TypeDesc.func { toList := [22, 27] } { toList := [4] } false) := by kernel_rfl
@[simp] theorem szOf_56 : szOf Go.Proofs.Tryd.prog 56 = some 1 := by kernel_rfl
@[simp] theorem byOf_56 : byOf Go.Proofs.Tryd.prog 56 = some 8 := by kernel_rfl
@[simp] theorem zeroOf_56 : zeroOf Go.Proofs.Tryd.prog 56 = some [AV.nfn] := by kernel_rfl
@[simp] theorem zsz_56 : zsz Go.Proofs.Tryd.prog 56 = some 1 := by kernel_rfl
@[simp] theorem zeroAV_56 : zeroAV Go.Proofs.Tryd.prog 56 = some AV.nfn := by kernel_rfl
@[simp] theorem underlying_57 : Program.underlying Go.Proofs.Tryd.prog 57 = some (TypeDesc.func { toList := [5, 30, 41] } { toList := [4] } false) := by kernel_rfl
@[simp] theorem szOf_57 : szOf Go.Proofs.Tryd.prog 57 = some 1 := by kernel_rfl
@[simp] theorem byOf_57 : byOf Go.Proofs.Tryd.prog 57 = some 8 := by kernel_rfl
@[simp] theorem zeroOf_57 : zeroOf Go.Proofs.Tryd.prog 57 = some [AV.nfn] := by kernel_rfl
@[simp] theorem zsz_57 : zsz Go.Proofs.Tryd.prog 57 = some 1 := by kernel_rfl
@[simp] theorem zeroAV_57 : zeroAV Go.Proofs.Tryd.prog 57 = some AV.nfn := by kernel_rfl
@[simp] theorem underlying_58 : Program.underlying Go.Proofs.Tryd.prog 58 = some (TypeDesc.int IntKind.u16) := by kernel_rfl
@[simp] theorem szOf_58 : szOf Go.Proofs.Tryd.prog 58 = some 1 := by kernel_rfl
@[simp] theorem byOf_58 : byOf Go.Proofs.Tryd.prog 58 = some 2 := by kernel_rfl
@[simp] theorem zeroOf_58 : zeroOf Go.Proofs.Tryd.prog 58 = some [AV.i IntKind.u16 (0)] := by kernel_rfl
@[simp] theorem zsz_58 : zsz Go.Proofs.Tryd.prog 58 = some 1 := by kernel_rfl
@[simp] theorem zeroAV_58 : zeroAV Go.Proofs.Tryd.prog 58 = some (AV.i IntKind.u16 (0)) := by kernel_rfl
@[simp] theorem underlying_59 : Program.underlying Go.Proofs.Tryd.prog 59 = some (TypeDesc.func { toList := [5, 30, 41, 58] } { toList := [4] } false) := by kernel_rfl
@[simp] theorem szOf_59 : szOf Go.Proofs.Tryd.prog 59 = some 1 := by kernel_rfl
@[simp] theorem byOf_59 : byOf Go.Proofs.Tryd.prog 59 = some 8 := by kernel_rfl
@[simp] theorem zeroOf_59 : zeroOf Go.Proofs.Tryd.prog 59 = some [AV.nfn] := by kernel_rfl
@[simp] theorem zsz_59 : zsz Go.Proofs.Tryd.prog 59 = some 1 := by kernel_rfl
@[simp] theorem zeroAV_59 : zeroAV Go.Proofs.Tryd.prog 59 = some AV.nfn := by kernel_rfl
@[simp] theorem underlying_60 : Program.underlying Go.Proofs.Tryd.prog 60 = some (TypeDesc.func { toList := [39] } { toList := [4] } false) := by kernel_rfl
@[simp] theorem szOf_60 : szOf Go.Proofs.Tryd.prog 60 = some 1 := by kernel_rfl
@[simp] theorem byOf_60 : byOf Go.Proofs.Tryd.prog 60 = some 8 := by kernel_rfl
@[simp] theorem zeroOf_60 : zeroOf Go.Proofs.Tryd.prog 60 = some [AV.nfn] := by kernel_rfl
@[simp] theorem zsz_60 : zsz Go.Proofs.Tryd.prog 60 = some 1 := by kernel_rfl
@[simp] theorem zeroAV_60 : zeroAV Go.Proofs.Tryd.prog 60 = some AV.nfn := by kernel_rfl
@[simp] theorem underlying_61 : Program.underlying Go.Proofs.Tryd.prog 61 = some (TypeDesc.func { toList := [22, 3, 3] } { toList := [4] } false) := by kernel_rfl
@[simp] theorem szOf_61 : szOf Go.Proofs.Tryd.prog 61 = some 1 := by kernel_rfl
@[simp] theorem byOf_61 : byOf Go.Proofs.Tryd.prog 61 = some 8 := by kernel_rfl
@[simp] theorem zeroOf_61 : zeroOf Go.Proofs.Tryd.prog 61 = some [AV.nfn] := by kernel_rfl
@[simp] theorem zsz_61 : zsz Go.Proofs.Tryd.prog 61 = some 1 := by kernel_rfl
@[simp] theorem zeroAV_61 : zeroAV Go.Proofs.Tryd.prog 61 = some AV.nfn := by kernel_rfl
@[simp] theorem underlying_62 : Program.underlying Go.Proofs.Tryd.prog 62 = some (TypeDesc.func { toList := [22, 27, 39] } { toList := [4] } false) := by kernel_rfl
@[simp] theorem szOf_62 : szOf Go.Proofs.Tryd.prog 62 = some 1 := by kernel_rfl
@[simp] theorem byOf_62 : byOf Go.Proofs.Tryd.prog 62 = some 8 := by kernel_rfl
@[simp] theorem zeroOf_62 : zeroOf Go.Proofs.Tryd.prog 62 = some [AV.nfn] := by kernel_rfl
@[simp] theorem zsz_62 : zsz Go.Proofs.Tryd.prog 62 = some 1 := by kernel_rfl
@[simp] theorem zeroAV_62 : zeroAV Go.Proofs.Tryd.prog 62 = some AV.nfn := by kernel_rfl
@[simp] theorem underlying_63 : Program.underlying Go.Proofs.Tryd.prog 63 = some (TypeDesc.func { toList := [30, 64] } { toList := [] } false) := by kernel_rfl
@[simp] theorem szOf_63 : szOf Go.Proofs.Tryd.prog 63 = some 1 := by kernel_rfl
@[simp] theorem byOf_63 : byOf Go.Proofs.Tryd.prog 63 = some 8 := by kernel_rfl
@[simp] theorem zeroOf_63 : zeroOf Go.Proofs.Tryd.prog 63 = some [AV.nfn] := by kernel_rfl
@[simp] theorem zsz_63 : zsz Go.Proofs.Tryd.prog 63 = some 1 := by kernel_rfl
@[simp] theorem zeroAV_63 : zeroAV Go.Proofs.Tryd.prog 63 = some AV.nfn := by kernel_rfl
@[simp] theorem underlying_64 : Program.underlying Go.Proofs.Tryd.prog 64 = some (TypeDesc.func { toList := [39, 39] } { toList := [3] } false) := by kernel_rfl
@[simp] theorem szOf_64 : szOf Go.Proofs.Tryd.prog 64 = some 1 := by kernel_rfl
@[simp] theorem byOf_64 : byOf Go.Proofs.Tryd.prog 64 = some 8 := by kernel_rfl
@[simp] theorem zeroOf_64 : zeroOf Go.Proofs.Tryd.prog 64 = some [AV.nfn] := by kernel_rfl
@[simp] theorem zsz_64 : zsz Go.Proofs.Tryd.prog 64 = some 1 := by kernel_rfl
@[simp] theorem zeroAV_64 : zeroAV Go.Proofs.Tryd.prog 64 = some AV.nfn := by kernel_rfl
@[simp] theorem underlying_65 : Program.underlying Go.Proofs.Tryd.prog 65 = some (TypeDesc.func { toList := [27] } { toList := [27] } false) := by kernel_rfl
@[simp] theorem szOf_65 : szOf Go.Proofs.Tryd.prog 65 = some 1 := by kernel_rfl
@[simp] theorem byOf_65 : byOf Go.Proofs.Tryd.prog 65 = some 8 := by kernel_rfl
@[simp] theorem zeroOf_65 : zeroOf Go.Proofs.Tryd.prog 65 = some [AV.nfn] := by kernel_rfl
@[simp] theorem zsz_65 : zsz Go.Proofs.Tryd.prog 65 = some 1 := by kernel_rfl
@[simp] theorem zeroAV_65 : zeroAV Go.Proofs.Tryd.prog 65 = some AV.nfn := by kernel_rfl
@[simp] theorem underlying_66 : Program.underlying Go.Proofs.Tryd.prog 66 = some (TypeDesc.func { toList := [37] } { toList := [37] } false) := by kernel_rfl
@[simp] theorem szOf_66 : szOf Go.Proofs.Tryd.prog 66 = some 1 := by kernel_rfl
@[simp] theorem byOf_66 : byOf Go.Proofs.Tryd.prog 66 = some 8 := by kernel_rfl
@[simp] theorem zeroOf_66 : zeroOf Go.Proofs.Tryd.prog 66 = some [AV.nfn] := by kernel_rfl
@[simp] theorem zsz_66 : zsz Go.Proofs.Tryd.prog 66 = some 1 := by kernel_rfl
@[simp] theorem zeroAV_66 : zeroAV Go.Proofs.Tryd.prog 66 = some AV.nfn := by kernel_rfl
@[simp] theorem underlying_67 : Program.underlying Go.Proofs.Tryd.prog 67 = some (TypeDesc.func { toList := [41, 23, 3] } { toList := [41] } false) := by kernel_rfl
@[simp] theorem szOf_67 : szOf Go.Proofs.Tryd.prog 67 = some 1 := by kernel_rfl
@[simp] theorem byOf_67 : byOf Go.Proofs.Tryd.prog 67 = some 8 := by kernel_rfl
@[simp] theorem zeroOf_67 : zeroOf Go.Proofs.Tryd.prog 67 = some [AV.nfn] := by kernel_rfl
@[simp] theorem zsz_67 : zsz Go.Proofs.Tryd.prog 67 = some 1 := by kernel_rfl
@[simp] theorem zeroAV_67 : zeroAV Go.Proofs.Tryd.prog 67 = some AV.nfn := by kernel_rfl
@[simp] theorem underlying_68 : Program.underlying Go.Proofs.Tryd.prog 68 = some (TypeDesc.func { toList := [37] } { toList := [41, 25] } false) := by kernel_rfl
@[simp] theorem szOf_68 : szOf Go.Proofs.Tryd.prog 68 = some 1 := by kernel_rfl
@[simp] theorem byOf_68 : byOf Go.Proofs.Tryd.prog 68 = some 8 := by kernel_rfl
@[simp] theorem zeroOf_68 : zeroOf Go.Proofs.Tryd.prog 68 = some [AV.nfn] := by kernel_rfl
@[simp] theorem zsz_68 : zsz Go.Proofs.Tryd.prog 68 = some 1 := by kernel_rfl
@[simp] theorem zeroAV_68 : zeroAV Go.Proofs.Tryd.prog 68 = some AV.nfn := by kernel_rfl
@[simp] theorem underlying_69 : Program.underlying Go.Proofs.Tryd.prog 69 = some (TypeDesc.func { toList := [41] } { toList := [23] } false) := by kernel_rfl
@[simp] theorem szOf_69 : szOf Go.Proofs.Tryd.prog 69 = some 1 := by kernel_rfl
@[simp] theorem byOf_69 : byOf Go.Proofs.Tryd.prog 69 = some 8 := by kernel_rfl
@[simp] theorem zeroOf_69 : zeroOf Go.Proofs.Tryd.prog 69 = some [AV.nfn] := by kernel_rfl
@[simp] theorem zsz_69 : zsz Go.Proofs.Tryd.prog 69 = some 1 := by kernel_rfl
@[simp] theorem zeroAV_69 : zeroAV Go.Proofs.Tryd.prog 69 = some AV.nfn := by kernel_rfl
@[simp] theorem underlying_70 : Program.underlying Go.Proofs.Tryd.prog 70 = some (TypeDesc.func { toList := [50] } { toList := [50] } false) := by kernel_rfl
@[simp] theorem szOf_70 : szOf Go.Proofs.Tryd.prog 70 = some 1 := by kernel_rfl
@[simp] theorem byOf_70 : byOf Go.Proofs.Tryd.prog 70 = some 8 := by kernel_rfl
@[simp] theorem zeroOf_70 : zeroOf Go.Proofs.Tryd.prog 70 = some [AV.nfn] := by kernel_rfl
@[simp] theorem zsz_70 : zsz Go.Proofs.Tryd.prog 70 = some 1 := by kernel_rfl
@[simp] theorem zeroAV_70 : zeroAV Go.Proofs.Tryd.prog 70 = some AV.nfn := by kernel_rfl
@[simp] theorem underlying_71 : Program.underlying Go.Proofs.Tryd.prog 71 = some (TypeDesc.tuple { toList := [39, 4] }) := by kernel_rfl
@[simp] theorem szOf_71 : szOf Go.Proofs.Tryd.prog 71 = some 1 := by kernel_rfl
@[simp] theorem byOf_71 : byOf Go.Proofs.Tryd.prog 71 = some 0 := by kernel_rfl
@[simp] theorem zeroOf_71 : zeroOf Go.Proofs.Tryd.prog 71 = some [AV.undef] := by kernel_rfl
@[simp] theorem zsz_71 : zsz Go.Proofs.Tryd.prog 71 = some 1 := by kernel_rfl
@[simp] theorem zeroAV_71 : zeroAV Go.Proofs.Tryd.prog 71 = some AV.undef := by kernel_rfl
@[simp] theorem underlying_72 : Program.underlying Go.Proofs.Tryd.prog 72 = some (TypeDesc.func { toList := [41] } { toList := [39, 4] } false) := by kernel_rfl
@[simp] theorem szOf_72 : szOf Go.Proofs.Tryd.prog 72 = some 1 := by kernel_rfl
@[simp] theorem byOf_72 : byOf Go.Proofs.Tryd.prog 72 = some 8 := by kernel_rfl
@[simp] theorem zeroOf_72 : zeroOf Go.Proofs.Tryd.prog 72 = some [AV.nfn] := by kernel_rfl
@[simp] theorem zsz_72 : zsz Go.Proofs.Tryd.prog 72 = some 1 := by kernel_rfl
@[simp] theorem zeroAV_72 : zeroAV Go.Proofs.Tryd.prog 72 = some AV.nfn := by kernel_rfl
@[simp] theorem underlying_73 : Program.underlying Go.Proofs.Tryd.prog 73 = some (TypeDesc.tuple { toList := [37, 3, 25] }) := by kernel_rfl
@[simp] theorem szOf_73 : szOf Go.Proofs.Tryd.prog 73 = some 1 := by kernel_rfl
@[simp] theorem byOf_73 : byOf Go.Proofs.Tryd.prog 73 = some 0 := by kernel_rfl
@[simp] theorem zeroOf_73 : zeroOf Go.Proofs.Tryd.prog 73 = some [AV.undef] := by kernel_rfl
@[simp] theorem zsz_73 : zsz Go.Proofs.Tryd.prog 73 = some 1 := by kernel_rfl
@[simp] theorem zeroAV_73 : zeroAV Go.Proofs.Tryd.prog 73 = some AV.undef := by kernel_rfl
@[simp] theorem underlying_74 : Program.underlying Go.Proofs.Tryd.prog 74 = some (TypeDesc.func { toList := [41] } { toList := [37, 3, 25] } false) := by kernel_rfl
@[simp] theorem szOf_74 : szOf Go.Proofs.Tryd.prog 74 = some 1 := by kernel_rfl
@[simp] theorem byOf_74 : byOf Go.Proofs.Tryd.prog 74 = some 8 := by kernel_rfl
@[simp] theorem zeroOf_74 : zeroOf Go.Proofs.Tryd.prog 74 = some [AV.nfn] := by kernel_rfl
@[simp] theorem zsz_74 : zsz Go.Proofs.Tryd.prog 74 = some 1 := by kernel_rfl
@[simp] theorem zeroAV_74 : zeroAV Go.Proofs.Tryd.prog 74 = some AV.nfn := by kernel_rfl
@[simp] theorem underlying_75 : Program.underlying Go.Proofs.Tryd.prog 75 = some (TypeDesc.func { toList := [37] } { toList := [] } false) := by kernel_rfl
@[simp] theorem szOf_75 : szOf Go.Proofs.Tryd.prog 75 = some 1 := by kernel_rfl
@[simp] theorem byOf_75 : byOf Go.Proofs.Tryd.prog 75 = some 8 := by kernel_rfl
@[simp] theorem zeroOf_75 : zeroOf Go.Proofs.Tryd.prog 75 = some [AV.nfn] := by kernel_rfl
@[simp] theorem zsz_75 : zsz Go.Proofs.Tryd.prog 75 = some 1 := by kernel_rfl
@[simp] theorem zeroAV_75 : zeroAV Go.Proofs.Tryd.prog 75 = some AV.nfn := by kernel_rfl
@[simp] theorem underlying_76 : Program.underlying Go.Proofs.Tryd.prog 76 = some (TypeDesc.func { toList := [23, 27] } { toList := [39] } true) := by kernel_rfl
@[simp] theorem szOf_76 : szOf Go.Proofs.Tryd.prog 76 = some 1 := by kernel_rfl
@[simp] theorem byOf_76 : byOf Go.Proofs.Tryd.prog 76 = some 8 := by kernel_rfl
@[simp] theorem zeroOf_76 : zeroOf Go.Proofs.Tryd.prog 76 = some [AV.nfn] := by kernel_rfl
@[simp] theorem zsz_76 : zsz Go.Proofs.Tryd.prog 76 = some 1 := by kernel_rfl
@[simp] theorem zeroAV_76 : zeroAV Go.Proofs.Tryd.prog 76 = some AV.nfn := by kernel_rfl
@[simp] theorem underlying_77 : Program.underlying Go.Proofs.Tryd.prog 77 = some (TypeDesc.func { toList := [30, 60] } { toList := [4] } false) := by kernel_rfl
@[simp] theorem szOf_77 : szOf Go.Proofs.Tryd.prog 77 = some 1 := by kernel_rfl
@[simp] theorem byOf_77 : byOf Go.Proofs.Tryd.prog 77 = some 8 := by kernel_rfl
@[simp] theorem zeroOf_77 : zeroOf Go.Proofs.Tryd.prog 77 = some [AV.nfn] := by kernel_rfl
@[simp] theorem zsz_77 : zsz Go.Proofs.Tryd.prog 77 = some 1 := by kernel_rfl
@[simp] theorem zeroAV_77 : zeroAV Go.Proofs.Tryd.prog 77 = some AV.nfn := by kernel_rfl
@[simp] theorem underlying_78 : Program.underlying Go.Proofs.Tryd.prog 78 = some (TypeDesc.map 23 39) := by kernel_rfl
@[simp] theorem szOf_78 : szOf Go.Proofs.Tryd.prog 78 = some 1 := by kernel_rfl
@[simp] theorem byOf_78 : byOf Go.Proofs.Tryd.prog 78 = some 8 := by kernel_rfl
@[simp] theorem zeroOf_78 : zeroOf Go.Proofs.Tryd.prog 78 = some [AV.mp none] := by kernel_rfl
@[simp] theorem zsz_78 : zsz Go.Proofs.Tryd.prog 78 = some 1 := by kernel_rfl
@[simp] theorem zeroAV_78 : zeroAV Go.Proofs.Tryd.prog 78 = some (AV.mp none) := by kernel_rfl
@[simp] theorem underlying_79 : Program.underlying Go.Proofs.Tryd.prog 79 = some (TypeDesc.func { toList := [27, 3] } { toList := [4] } false) := by kernel_rfl
@[simp] theorem szOf_79 : szOf Go.Proofs.Tryd.prog 79 = some 1 := by kernel_rfl
@[simp] theorem byOf_79 : byOf Go.Proofs.Tryd.prog 79 = some 8 := by kernel_rfl
@[simp] theorem zeroOf_79 : zeroOf Go.Proofs.Tryd.prog 79 = some [AV.nfn] := by kernel_rfl
@[simp] theorem zsz_79 : zsz Go.Proofs.Tryd.prog 79 = some 1 := by kernel_rfl
@[simp] theorem zeroAV_79 : zeroAV Go.Proofs.Tryd.prog 79 = some AV.nfn := by kernel_rfl
@[simp] theorem underlying_80 : Program.underlying Go.Proofs.Tryd.prog 80 = some (TypeDesc.func { toList := [27] } { toList := [4] } false) := by kernel_rfl
@[simp] theorem szOf_80 : szOf Go.Proofs.Tryd.prog 80 = some 1 := by kernel_rfl
@[simp] theorem byOf_80 : byOf Go.Proofs.Tryd.prog 80 = some 8 := by kernel_rfl
@[simp] theorem zeroOf_80 : zeroOf Go.Proofs.Tryd.prog 80 = some [AV.nfn] := by kernel_rfl
@[simp] theorem zsz_80 : zsz Go.Proofs.Tryd.prog 80 = some 1 := by kernel_rfl
@[simp] theorem zeroAV_80 : zeroAV Go.Proofs.Tryd.prog 80 = some AV.nfn := by kernel_rfl
@[simp] theorem underlying_81 : Program.underlying Go.Proofs.Tryd.prog 81 = some (TypeDesc.func { toList := [50] } { toList := [25] } false) := by kernel_rfl
@[simp] theorem szOf_81 : szOf Go.Proofs.Tryd.prog 81 = some 1 := by kernel_rfl
@[simp] theorem byOf_81 : byOf Go.Proofs.Tryd.prog 81 = some 8 := by kernel_rfl
@[simp] theorem zeroOf_81 : zeroOf Go.Proofs.Tryd.prog 81 = some [AV.nfn] := by kernel_rfl
@[simp] theorem zsz_81 : zsz Go.Proofs.Tryd.prog 81 = some 1 := by kernel_rfl
@[simp] theorem zeroAV_81 : zeroAV Go.Proofs.Tryd.prog 81 = some AV.nfn := by kernel_rfl
@[simp] theorem underlying_82 : Program.underlying Go.Proofs.Tryd.prog 82 = some (TypeDesc.func { toList := [30, 23] } { toList := [3] } false) := by kernel_rfl
@[simp] theorem szOf_82 : szOf Go.Proofs.Tryd.prog 82 = some 1 := by kernel_rfl
@[simp] theorem byOf_82 : byOf Go.Proofs.Tryd.prog 82 = some 8 := by kernel_rfl
@[simp] theorem zeroOf_82 : zeroOf Go.Proofs.Tryd.prog 82 = some [AV.nfn] := by kernel_rfl
@[simp] theorem zsz_82 : zsz Go.Proofs.Tryd.prog 82 = some 1 := by kernel_rfl
@[simp] theorem zeroAV_82 : zeroAV Go.Proofs.Tryd.prog 82 = some AV.nfn := by kernel_rfl
@[simp] theorem underlying_83 : Program.underlying Go.Proofs.Tryd.prog 83 = some (TypeDesc.func { toList := [30, 3, 3, 3, 64] } { toList := [] } false) := by kernel_rfl
@[simp] theorem szOf_83 : szOf Go.Proofs.Tryd.prog 83 = some 1 := by kernel_rfl
@[simp] theorem byOf_83 : byOf Go.Proofs.Tryd.prog 83 = some 8 := by kernel_rfl
@[simp] theorem zeroOf_83 : zeroOf Go.Proofs.Tryd.prog 83 = some [AV.nfn] := by kernel_rfl
@[simp] theorem zsz_83 : zsz Go.Proofs.Tryd.prog 83 = some 1 := by kernel_rfl
@[simp] theorem zeroAV_83 : zeroAV Go.Proofs.Tryd.prog 83 = some AV.nfn := by kernel_rfl
@[simp] theorem underlying_84 : Program.underlying Go.Proofs.Tryd.prog 84 = some (TypeDesc.func { toList := [85] } { toList := [3] } false) := by kernel_rfl
@[simp] theorem szOf_84 : szOf Go.Proofs.Tryd.prog 84 = some 1 := by kernel_rfl
@[simp] theorem byOf_84 : byOf Go.Proofs.Tryd.prog 84 = some 8 := by kernel_rfl
@[simp] theorem zeroOf_84 : zeroOf Go.Proofs.Tryd.prog 84 = some [AV.nfn] := by kernel_rfl
@[simp] theorem zsz_84 : zsz Go.Proofs.Tryd.prog 84 = some 1 := by kernel_rfl
@[simp] theorem zeroAV_84 : zeroAV Go.Proofs.Tryd.prog 84 = some AV.nfn := by kernel_rfl
@[simp] theorem underlying_85 : Program.underlying Go.Proofs.Tryd.prog 85 = some (TypeDesc.int IntKind.u64) := by kernel_rfl
@[simp] theorem szOf_85 : szOf Go.Proofs.Tryd.prog 85 = some 1 := by kernel_rfl
@[simp] theorem byOf_85 : byOf Go.Proofs.Tryd.prog 85 = some 8 := by kernel_rfl
@[simp] theorem zeroOf_85 : zeroOf Go.Proofs.Tryd.prog 85 = some [AV.i IntKind.u64 (0)] := by kernel_rfl
@[simp] theorem zsz_85 : zsz Go.Proofs.Tryd.prog 85 = some 1 := by kernel_rfl
@[simp] theorem zeroAV_85 : zeroAV Go.Proofs.Tryd.prog 85 = some (AV.i IntKind.u64 (0)) := by kernel_rfl
@[simp] theorem underlying_86 : Program.underlying Go.Proofs.Tryd.prog 86 = some (TypeDesc.func { toList := [41, 23] } { toList := [41] } false) := by kernel_rfl
@[simp] theorem szOf_86 : szOf Go.Proofs.Tryd.prog 86 = some 1 := by kernel_rfl
@[simp] theorem byOf_86 : byOf Go.Proofs.Tryd.prog 86 = some 8 := by kernel_rfl
@[simp] theorem zeroOf_86 : zeroOf Go.Proofs.Tryd.prog 86 = some [AV.nfn] := by kernel_rfl
@[simp] theorem zsz_86 : zsz Go.Proofs.Tryd.prog 86 = some 1 := by kernel_rfl
@[simp] theorem zeroAV_86 : zeroAV Go.Proofs.Tryd.prog 86 = some AV.nfn := by kernel_rfl
@[simp] theorem underlying_87 : Program.underlying Go.Proofs.Tryd.prog 87 = some (TypeDesc.func { toList := [50] } { toList := [41, 25] } false) := by kernel_rfl
@[simp] theorem szOf_87 : szOf Go.Proofs.Tryd.prog 87 = some 1 := by kernel_rfl
@[simp] theorem byOf_87 : byOf Go.Proofs.Tryd.prog 87 = some 8 := by kernel_rfl
@[simp] theorem zeroOf_87 : zeroOf Go.Proofs.Tryd.prog 87 = some [AV.nfn] := by kernel_rfl
@[simp] theorem zsz_87 : zsz Go.Proofs.Tryd.prog 87 = some 1 := by kernel_rfl
@[simp] theorem zeroAV_87 : zeroAV Go.Proofs.Tryd.prog 87 = some AV.nfn := by kernel_rfl
@[simp] theorem underlying_88 : Program.underlying Go.Proofs.Tryd.prog 88 = some (TypeDesc.func { toList := [27, 27] } { toList := [4] } false) := by kernel_rfl
@[simp] theorem szOf_88 : szOf Go.Proofs.Tryd.prog 88 = some 1 := by kernel_rfl
@[simp] theorem byOf_88 : byOf Go.Proofs.Tryd.prog 88 = some 8 := by kernel_rfl
@[simp] theorem zeroOf_88 : zeroOf Go.Proofs.Tryd.prog 88 = some [AV.nfn] := by kernel_rfl
@[simp] theorem zsz_88 : zsz Go.Proofs.Tryd.prog 88 = some 1 := by kernel_rfl
@[simp] theorem zeroAV_88 : zeroAV Go.Proofs.Tryd.prog 88 = some AV.nfn := by kernel_rfl
@[simp] theorem underlying_89 : Program.underlying Go.Proofs.Tryd.prog 89 = some (TypeDesc.func { toList := [37, 37, 90] } { toList := [4] } false) := by kernel_rfl
@[simp] theorem szOf_89 : szOf Go.Proofs.Tryd.prog 89 = some 1 := by kernel_rfl
@[simp] theorem byOf_89 : byOf Go.Proofs.Tryd.prog 89 = some 8 := by kernel_rfl
@[simp] theorem zeroOf_89 : zeroOf Go.Proofs.Tryd.prog 89 = some [AV.nfn] := by kernel_rfl
@[simp] theorem zsz_89 : zsz Go.Proofs.Tryd.prog 89 = some 1 := by kernel_rfl
@[simp] theorem zeroAV_89 : zeroAV Go.Proofs.Tryd.prog 89 = some AV.nfn := by kernel_rfl
@[simp] theorem underlying_90 : Program.underlying Go.Proofs.Tryd.prog 90 = some (TypeDesc.func { toList := [50, 50] } { toList := [4] } false) := by kernel_rfl
@[simp] theorem szOf_90 : szOf Go.Proofs.Tryd.prog 90 = some 1 := by kernel_rfl
@[simp] theorem byOf_90 : byOf Go.Proofs.Tryd.prog 90 = some 8 := by kernel_rfl
@[simp] theorem zeroOf_90 : zeroOf Go.Proofs.Tryd.prog 90 = some [AV.nfn] := by kernel_rfl
@[simp] theorem zsz_90 : zsz Go.Proofs.Tryd.prog 90 = some 1 := by kernel_rfl
@[simp] theorem zeroAV_90 : zeroAV Go.Proofs.Tryd.prog 90 = some AV.nfn := by kernel_rfl
@[simp] theorem underlying_91 : Program.underlying Go.Proofs.Tryd.prog 91 = some (TypeDesc.tuple { toList := [41, 41, 4] }) := by kernel_rfl
@[simp] theorem szOf_91 : szOf Go.Proofs.Tryd.prog 91 = some 1 := by kernel_rfl
@[simp] theorem byOf_91 : byOf Go.Proofs.Tryd.prog 91 = some 0 := by kernel_rfl
@[simp] theorem zeroOf_91 : zeroOf Go.Proofs.Tryd.prog 91 = some [AV.undef] := by kernel_rfl
@[simp] theorem zsz_91 : zsz Go.Proofs.Tryd.prog 91 = some 1 := by kernel_rfl
@[simp] theorem zeroAV_91 : zeroAV Go.Proofs.Tryd.prog 91 = some AV.undef := by kernel_rfl
@[simp] theorem underlying_92 : Program.underlying Go.Proofs.Tryd.prog 92 = some (TypeDesc.func { toList := [41, 3] } { toList := [41, 41, 4] } false) := by kernel_rfl
@[simp] theorem szOf_92 : szOf Go.Proofs.Tryd.prog 92 = some 1 := by kernel_rfl
@[simp] theorem byOf_92 : byOf Go.Proofs.Tryd.prog 92 = some 8 := by kernel_rfl
@[simp] theorem zeroOf_92 : zeroOf Go.Proofs.Tryd.prog 92 = some [AV.nfn] := by kernel_rfl
@[simp] theorem zsz_92 : zsz Go.Proofs.Tryd.prog 92 = some 1 := by kernel_rfl
@[simp] theorem zeroAV_92 : zeroAV Go.Proofs.Tryd.prog 92 = some AV.nfn := by kernel_rfl
@[simp] theorem underlying_93 : Program.underlying Go.Proofs.Tryd.prog 93 = some (TypeDesc.tuple { toList := [50, 3, 25] }) := by kernel_rfl
@[simp] theorem szOf_93 : szOf Go.Proofs.Tryd.prog 93 = some 1 := by kernel_rfl
@[simp] theorem byOf_93 : byOf Go.Proofs.Tryd.prog 93 = some 0 := by kernel_rfl
@[simp] theorem zeroOf_93 : zeroOf Go.Proofs.Tryd.prog 93 = some [AV.undef] := by kernel_rfl
@[simp] theorem zsz_93 : zsz Go.Proofs.Tryd.prog 93 = some 1 := by kernel_rfl
@[simp] theorem zeroAV_93 : zeroAV Go.Proofs.Tryd.prog 93 = some AV.undef := by kernel_rfl
@[simp] theorem underlying_94 : Program.underlying Go.Proofs.Tryd.prog 94 = some (TypeDesc.func { toList := [41] } { toList := [50, 3, 25] } false) := by kernel_rfl
@[simp] theorem szOf_94 : szOf Go.Proofs.Tryd.prog 94 = some 1 := by kernel_rfl
@[simp] theorem byOf_94 : byOf Go.Proofs.Tryd.prog 94 = some 8 := by kernel_rfl
@[simp] theorem zeroOf_94 : zeroOf Go.Proofs.Tryd.prog 94 = some [AV.nfn] := by kernel_rfl
@[simp] theorem zsz_94 : zsz Go.Proofs.Tryd.prog 94 = some 1 := by kernel_rfl
@[simp] theorem zeroAV_94 : zeroAV Go.Proofs.Tryd.prog 94 = some AV.nfn := by kernel_rfl
@[simp] theorem underlying_95 : Program.underlying Go.Proofs.Tryd.prog 95 = some (TypeDesc.func { toList := [30, 60] } { toList := [3] } false) := by kernel_rfl
@[simp] theorem szOf_95 : szOf Go.Proofs.Tryd.prog 95 = some 1 := by kernel_rfl
@[simp] theorem byOf_95 : byOf Go.Proofs.Tryd.prog 95 = some 8 := by kernel_rfl
@[simp] theorem zeroOf_95 : zeroOf Go.Proofs.Tryd.prog 95 = some [AV.nfn] := by kernel_rfl
@[simp] theorem zsz_95 : zsz Go.Proofs.Tryd.prog 95 = some 1 := by kernel_rfl
@[simp] theorem zeroAV_95 : zeroAV Go.Proofs.Tryd.prog 95 = some AV.nfn := by kernel_rfl
@[simp] theorem underlying_96 : Program.underlying Go.Proofs.Tryd.prog 96 = some (TypeDesc.func { toList := [37, 97] } { toList := [4] } false) := by kernel_rfl
@[simp] theorem szOf_96 : szOf Go.Proofs.Tryd.prog 96 = some 1 := by kernel_rfl
@[simp] theorem byOf_96 : byOf Go.Proofs.Tryd.prog 96 = some 8 := by kernel_rfl
@[simp] theorem zeroOf_96 : zeroOf Go.Proofs.Tryd.prog 96 = some [AV.nfn] := by kernel_rfl
@[simp] theorem zsz_96 : zsz Go.Proofs.Tryd.prog 96 = some 1 := by kernel_rfl
@[simp] theorem zeroAV_96 : zeroAV Go.Proofs.Tryd.prog 96 = some AV.nfn := by kernel_rfl
@[simp] theorem underlying_97 : Program.underlying Go.Proofs.Tryd.prog 97 = some (TypeDesc.func { toList := [50] } { toList := [4] } false) := by kernel_rfl
@[simp] theorem szOf_97 : szOf Go.Proofs.Tryd.prog 97 = some 1 := by kernel_rfl
@[simp] theorem byOf_97 : byOf Go.Proofs.Tryd.prog 97 = some 8 := by kernel_rfl
@[simp] theorem zeroOf_97 : zeroOf Go.Proofs.Tryd.prog 97 = some [AV.nfn] := by kernel_rfl
@[simp] theorem zsz_97 : zsz Go.Proofs.Tryd.prog 97 = some 1 := by kernel_rfl
@[simp] theorem zeroAV_97 : zeroAV Go.Proofs.Tryd.prog 97 = some AV.nfn := by kernel_rfl
@[simp] theorem underlying_98 : Program.underlying Go.Proofs.Tryd.prog 98 = some (TypeDesc.func { toList := [27, 3] } { toList := [3] } false) := by kernel_rfl
@[simp] theorem szOf_98 : szOf Go.Proofs.Tryd.prog 98 = some 1 := by kernel_rfl
@[simp] theorem byOf_98 : byOf Go.Proofs.Tryd.prog 98 = some 8 := by kernel_rfl
@[simp] theorem zeroOf_98 : zeroOf Go.Proofs.Tryd.prog 98 = some [AV.nfn] := by kernel_rfl
@[simp] theorem zsz_98 : zsz Go.Proofs.Tryd.prog 98 = some 1 := by kernel_rfl
@[simp] theorem zeroAV_98 : zeroAV Go.Proofs.Tryd.prog 98 = some AV.nfn := by kernel_rfl
@[simp] theorem underlying_99 : Program.underlying Go.Proofs.Tryd.prog 99 = some (TypeDesc.func { toList := [9] } { toList := [4] } false) := by kernel_rfl
@[simp] theorem szOf_99 : szOf Go.Proofs.Tryd.prog 99 = some 1 := by kernel_rfl
@[simp] theorem byOf_99 : byOf Go.Proofs.Tryd.prog 99 = some 8 := by kernel_rfl
@[simp] theorem zeroOf_99 : zeroOf Go.Proofs.Tryd.prog 99 = some [AV.nfn] := by kernel_rfl
@[simp] theorem zsz_99 : zsz Go.Proofs.Tryd.prog 99 = some 1 := by kernel_rfl
@[simp] theorem zeroAV_99 : zeroAV Go.Proofs.Tryd.prog 99 = some AV.nfn := by kernel_rfl
@[simp] theorem underlying_100 : Program.underlying Go.Proofs.Tryd.prog 100 = some (TypeDesc.func { toList := [27, 104] } { toList := [4] } false) := by kernel_rfl
@[simp] theorem szOf_100 : szOf Go.Proofs.Tryd.prog 100 = some 1 := by kernel_rfl
@[simp] theorem byOf_100 : byOf Go.Proofs.Tryd.prog 100 = some 8 := by kernel_rfl
@[simp] theorem zeroOf_100 : zeroOf Go.Proofs.Tryd.prog 100 = some [AV.nfn] := by kernel_rfl
@[simp] theorem zsz_100 : zsz Go.Proofs.Tryd.prog 100 = some 1 := by kernel_rfl
@[simp] theorem zeroAV_100 : zeroAV Go.Proofs.Tryd.prog 100 = some AV.nfn := by kernel_rfl
@[simp] theorem underlying_101 : Program.underlying Go.Proofs.Tryd.prog 101 = some (TypeDesc.tuple { toList := [3, 4] }) := by kernel_rfl
@[simp] theorem szOf_101 : szOf Go.Proofs.Tryd.prog 101 = some 1 := by kernel_rfl
@[simp] theorem byOf_101 : byOf Go.Proofs.Tryd.prog 101 = some 0 := by kernel_rfl
@[simp] theorem zeroOf_101 : zeroOf Go.Proofs.Tryd.prog 101 = some [AV.undef] := by kernel_rfl
@[simp] theorem zsz_101 : zsz Go.Proofs.Tryd.prog 101 = some 1 := by kernel_rfl
@[simp] theorem zeroAV_101 : zeroAV Go.Proofs.Tryd.prog 101 = some AV.undef := by kernel_rfl
@[simp] theorem underlying_102 : Program.underlying Go.Proofs.Tryd.prog 102 = some (TypeDesc.func { toList := [30, 23, 103] } { toList := [3, 4] } false) := by kernel_rfl
@[simp] theorem szOf_102 : szOf Go.Proofs.Tryd.prog 102 = some 1 := by kernel_rfl
@[simp] theorem byOf_102 : byOf Go.Proofs.Tryd.prog 102 = some 8 := by kernel_rfl
@[simp] theorem zeroOf_102 : zeroOf Go.Proofs.Tryd.prog 102 = some [AV.nfn] := by kernel_rfl
@[simp] theorem zsz_102 : zsz Go.Proofs.Tryd.prog 102 = some 1 := by kernel_rfl
@[simp] theorem zeroAV_102 : zeroAV Go.Proofs.Tryd.prog 102 = some AV.nfn := by kernel_rfl
@[simp] theorem underlying_103 : Program.underlying Go.Proofs.Tryd.prog 103 = some (TypeDesc.func { toList := [39, 23] } { toList := [3] } false) := by kernel_rfl
@[simp] theorem szOf_103 : szOf Go.Proofs.Tryd.prog 103 = some 1 := by kernel_rfl
@[simp] theorem byOf_103 : byOf Go.Proofs.Tryd.prog 103 = some 8 := by kernel_rfl
@[simp] theorem zeroOf_103 : zeroOf Go.Proofs.Tryd.prog 103 = some [AV.nfn] := by kernel_rfl
@[simp] theorem zsz_103 : zsz Go.Proofs.Tryd.prog 103 = some 1 := by kernel_rfl
@[simp] theorem zeroAV_103 : zeroAV Go.Proofs.Tryd.prog 103 = some AV.nfn := by kernel_rfl
@[simp] theorem underlying_104 : Program.underlying Go.Proofs.Tryd.prog 104 = some (TypeDesc.func { toList := [3] } { toList := [4] } false) := by kernel_rfl
@[simp] theorem szOf_104 : szOf Go.Proofs.Tryd.prog 104 = some 1 := by kernel_rfl
@[simp] theorem byOf_104 : byOf Go.Proofs.Tryd.prog 104 = some 8 := by kernel_rfl
@[simp] theorem zeroOf_104 : zeroOf Go.Proofs.Tryd.prog 104 = some [AV.nfn] := by kernel_rfl
@[simp] theorem zsz_104 : zsz Go.Proofs.Tryd.prog 104 = some 1 := by kernel_rfl
@[simp] theorem zeroAV_104 : zeroAV Go.Proofs.Tryd.prog 104 = some AV.nfn := by kernel_rfl
@[simp] theorem underlying_105 : Program.underlying Go.Proofs.Tryd.prog 105 = some (TypeDesc.func { toList := [30, 3, 3, 64] } { toList := [] } false) := by kernel_rfl
@[simp] theorem szOf_105 : szOf Go.Proofs.Tryd.prog 105 = some 1 := by kernel_rfl
@[simp] theorem byOf_105 : byOf Go.Proofs.Tryd.prog 105 = some 8 := by kernel_rfl
@[simp] theorem zeroOf_105 : zeroOf Go.Proofs.Tryd.prog 105 = some [AV.nfn] := by kernel_rfl
@[simp] theorem zsz_105 : zsz Go.Proofs.Tryd.prog 105 = some 1 := by kernel_rfl
@[simp] theorem zeroAV_105 : zeroAV Go.Proofs.Tryd.prog 105 = some AV.nfn := by kernel_rfl
@[simp] theorem underlying_106 : Program.underlying Go.Proofs.Tryd.prog 106 = some (TypeDesc.int IntKind.i64) := by kernel_rfl
@[simp] theorem szOf_106 : szOf Go.Proofs.Tryd.prog 106 = some 1 := by kernel_rfl
@[simp] theorem byOf_106 : byOf Go.Proofs.Tryd.prog 106 = some 8 := by kernel_rfl
@[simp] theorem zeroOf_106 : zeroOf Go.Proofs.Tryd.prog 106 = some [AV.i IntKind.i64 (0)] := by kernel_rfl
@[simp] theorem zsz_106 : zsz Go.Proofs.Tryd.prog 106 = some 1 := by kernel_rfl
@[simp] theorem zeroAV_106 : zeroAV Go.Proofs.Tryd.prog 106 = some (AV.i IntKind.i64 (0)) := by kernel_rfl
@[simp] theorem underlying_107 : Program.underlying Go.Proofs.Tryd.prog 107 = some (TypeDesc.tuple { toList := [3, 106] }) := by kernel_rfl
@[simp] theorem szOf_107 : szOf Go.Proofs.Tryd.prog 107 = some 1 := by kernel_rfl
@[simp] theorem byOf_107 : byOf Go.Proofs.Tryd.prog 107 = some 0 := by kernel_rfl
@[simp] theorem zeroOf_107 : zeroOf Go.Proofs.Tryd.prog 107 = some [AV.undef] := by kernel_rfl
@[simp] theorem zsz_107 : zsz Go.Proofs.Tryd.prog 107 = some 1 := by kernel_rfl
@[simp] theorem zeroAV_107 : zeroAV Go.Proofs.Tryd.prog 107 = some AV.undef := by kernel_rfl
@[simp] theorem underlying_108 : Program.underlying Go.Proofs.Tryd.prog 108 = some (TypeDesc.func { toList := [30, 3, 3, 64] } { toList := [3, 106] } false) := by kernel_rfl
@[simp] theorem szOf_108 : szOf Go.Proofs.Tryd.prog 108 = some 1 := by kernel_rfl
@[simp] theorem byOf_108 : byOf Go.Proofs.Tryd.prog 108 = some 8 := by kernel_rfl
@[simp] theorem zeroOf_108 : zeroOf Go.Proofs.Tryd.prog 108 = some [AV.nfn] := by kernel_rfl
@[simp] theorem zsz_108 : zsz Go.Proofs.Tryd.prog 108 = some 1 := by kernel_rfl
@[simp] theorem zeroAV_108 : zeroAV Go.Proofs.Tryd.prog 108 = some AV.nfn := by kernel_rfl
@[simp] theorem underlying_109 : Program.underlying Go.Proofs.Tryd.prog 109 = some (TypeDesc.func { toList := [30, 3, 3, 64] } { toList := [4] } false) := by kernel_rfl
@[simp] theorem szOf_109 : szOf Go.Proofs.Tryd.prog 109 = some 1 := by kernel_rfl
@[simp] theorem byOf_109 : byOf Go.Proofs.Tryd.prog 109 = some 8 := by kernel_rfl
@[simp] theorem zeroOf_109 : zeroOf Go.Proofs.Tryd.prog 109 = some [AV.nfn] := by kernel_rfl
@[simp] theorem zsz_109 : zsz Go.Proofs.Tryd.prog 109 = some 1 := by kernel_rfl
@[simp] theorem zeroAV_109 : zeroAV Go.Proofs.Tryd.prog 109 = some AV.nfn := by kernel_rfl
end Ab
end Go.Proofs.YtidoflgcblglbaaDoor
