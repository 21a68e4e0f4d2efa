/-
  DERIVED. The tables of the interpreter for this seat, by program.
  Conditions: none.
-/
import Derived.Test.YtecjchghapgdeaaCf
import Derived.KernelRfl
set_option linter.all false
set_option maxHeartbeats 4000000
namespace Go.Proofs.Ytecjchghapgdeaa
namespace Ab
@[simp] theorem underlying_0 : Program.underlying Try.prog 0 = some (TypeDesc.tuple { toList := [] }) := by kernel_rfl
@[simp] theorem szOf_0 : szOf Try.prog 0 = some 1 := by kernel_rfl
@[simp] theorem byOf_0 : byOf Try.prog 0 = some 0 := by kernel_rfl
@[simp] theorem zeroOf_0 : zeroOf Try.prog 0 = some [AV.undef] := by kernel_rfl
@[simp] theorem zsz_0 : zsz Try.prog 0 = some 1 := by kernel_rfl
@[simp] theorem zeroAV_0 : zeroAV Try.prog 0 = some AV.undef := by kernel_rfl
@[simp] theorem underlying_1 : Program.underlying Try.prog 1 = some (TypeDesc.func { toList := [] } { toList := [] } false) := by kernel_rfl
@[simp] theorem szOf_1 : szOf Try.prog 1 = some 1 := by kernel_rfl
@[simp] theorem byOf_1 : byOf Try.prog 1 = some 8 := by kernel_rfl
@[simp] theorem zeroOf_1 : zeroOf Try.prog 1 = some [AV.nfn] := by kernel_rfl
@[simp] theorem zsz_1 : zsz Try.prog 1 = some 1 := by kernel_rfl
@[simp] theorem zeroAV_1 : zeroAV Try.prog 1 = some AV.nfn := by kernel_rfl
@[simp] theorem underlying_2 : Program.underlying Try.prog 2 = some (TypeDesc.int IntKind.i64) := by kernel_rfl
@[simp] theorem szOf_2 : szOf Try.prog 2 = some 1 := by kernel_rfl
@[simp] theorem byOf_2 : byOf Try.prog 2 = some 8 := by kernel_rfl
@[simp] theorem zeroOf_2 : zeroOf Try.prog 2 = some [AV.i IntKind.i64 (0)] := by kernel_rfl
@[simp] theorem zsz_2 : zsz Try.prog 2 = some 1 := by kernel_rfl
@[simp] theorem zeroAV_2 : zeroAV Try.prog 2 = some (AV.i IntKind.i64 (0)) := by kernel_rfl
@[simp] theorem underlying_3 : Program.underlying Try.prog 3 = some (TypeDesc.int IntKind.i64) := by kernel_rfl
@[simp] theorem szOf_3 : szOf Try.prog 3 = some 1 := by kernel_rfl
@[simp] theorem byOf_3 : byOf Try.prog 3 = some 8 := by kernel_rfl
@[simp] theorem zeroOf_3 : zeroOf Try.prog 3 = some [AV.i IntKind.i64 (0)] := by kernel_rfl
@[simp] theorem zsz_3 : zsz Try.prog 3 = some 1 := by kernel_rfl
@[simp] theorem zeroAV_3 : zeroAV Try.prog 3 = some (AV.i IntKind.i64 (0)) := by kernel_rfl
@[simp] theorem underlying_4 : Program.underlying Try.prog 4 = some TypeDesc.bool := by kernel_rfl
@[simp] theorem szOf_4 : szOf Try.prog 4 = some 1 := by kernel_rfl
@[simp] theorem byOf_4 : byOf Try.prog 4 = some 1 := by kernel_rfl
@[simp] theorem zeroOf_4 : zeroOf Try.prog 4 = some [AV.b false] := by kernel_rfl
@[simp] theorem zsz_4 : zsz Try.prog 4 = some 1 := by kernel_rfl
@[simp] theorem zeroAV_4 : zeroAV Try.prog 4 = some (AV.b false) := by kernel_rfl
@[simp] theorem underlying_5 : Program.underlying Try.prog 5 = some (TypeDesc.int IntKind.u8) := by kernel_rfl
@[simp] theorem szOf_5 : szOf Try.prog 5 = some 1 := by kernel_rfl
@[simp] theorem byOf_5 : byOf Try.prog 5 = some 1 := by kernel_rfl
@[simp] theorem zeroOf_5 : zeroOf Try.prog 5 = some [AV.i IntKind.u8 (0)] := by kernel_rfl
@[simp] theorem zsz_5 : zsz Try.prog 5 = some 1 := by kernel_rfl
@[simp] theorem zeroAV_5 : zeroAV Try.prog 5 = some (AV.i IntKind.u8 (0)) := by kernel_rfl
@[simp] theorem underlying_6 : Program.underlying Try.prog 6 = some (TypeDesc.int IntKind.u8) := by kernel_rfl
@[simp] theorem szOf_6 : szOf Try.prog 6 = some 1 := by kernel_rfl
@[simp] theorem byOf_6 : byOf Try.prog 6 = some 1 := by kernel_rfl
@[simp] theorem zeroOf_6 : zeroOf Try.prog 6 = some [AV.i IntKind.u8 (0)] := by kernel_rfl
@[simp] theorem zsz_6 : zsz Try.prog 6 = some 1 := by kernel_rfl
@[simp] theorem zeroAV_6 : zeroAV Try.prog 6 = some (AV.i IntKind.u8 (0)) := by kernel_rfl
@[simp] theorem underlying_7 : Program.underlying Try.prog 7 = some (TypeDesc.struct { toList := [{ name := "x", type := 2, offset := 0, embedded := false, tag := "", pkgPath := "runtime", byteOffset := 0 }, { name := "y", type := 3, offset := 1, embedded := false, tag := "", pkgPath := "runtime", byteOffset := 8 }, { name := "signed", type := 4, offset := 2, embedded := false, tag := "", pkgPath := "runtime", byteOffset := 16 }, { name := "code", type := 6, offset := 3, embedded := false, tag := "", pkgPath := "runtime", byteOffset := 17 }] }) := by kernel_rfl
@[simp] theorem szOf_7 : szOf Try.prog 7 = some 4 := by kernel_rfl
@[simp] theorem byOf_7 : byOf Try.prog 7 = some 24 := by kernel_rfl
@[simp] theorem zeroOf_7 : zeroOf Try.prog 7 = some [AV.i IntKind.i64 (0), AV.i IntKind.i64 (0), AV.b false, AV.i IntKind.u8 (0)] := by kernel_rfl
@[simp] theorem zsz_7 : zsz Try.prog 7 = some 4 := by kernel_rfl
@[simp] theorem zeroAV_7 : zeroAV Try.prog 7 = some (AV.agg [AV.i IntKind.i64 (0), AV.i IntKind.i64 (0), AV.b false, AV.i IntKind.u8 (0)]) := by kernel_rfl
@[simp] theorem fieldOff_7_0 : fieldOff Try.prog 7 0 = some 0 := by kernel_rfl
@[simp] theorem fieldOff_7_1 : fieldOff Try.prog 7 1 = some 1 := by kernel_rfl
@[simp] theorem fieldOff_7_2 : fieldOff Try.prog 7 2 = some 2 := by kernel_rfl
@[simp] theorem fieldOff_7_3 : fieldOff Try.prog 7 3 = some 3 := by kernel_rfl
@[simp] theorem underlying_8 : Program.underlying Try.prog 8 = some (TypeDesc.struct { toList := [{ name := "x", type := 2, offset := 0, embedded := false, tag := "", pkgPath := "runtime", byteOffset := 0 }, { name := "y", type := 3, offset := 1, embedded := false, tag := "", pkgPath := "runtime", byteOffset := 8 }, { name := "signed", type := 4, offset := 2, embedded := false, tag := "", pkgPath := "runtime", byteOffset := 16 }, { name := "code", type := 6, offset := 3, embedded := false, tag := "", pkgPath := "runtime", byteOffset := 17 }] }) := by kernel_rfl
@[simp] theorem szOf_8 : szOf Try.prog 8 = some 4 := by kernel_rfl
@[simp] theorem byOf_8 : byOf Try.prog 8 = some 24 := by kernel_rfl
@[simp] theorem zeroOf_8 : zeroOf Try.prog 8 = some [AV.i IntKind.i64 (0), AV.i IntKind.i64 (0), AV.b false, AV.i IntKind.u8 (0)] := by kernel_rfl
@[simp] theorem zsz_8 : zsz Try.prog 8 = some 4 := by kernel_rfl
@[simp] theorem zeroAV_8 : zeroAV Try.prog 8 = some (AV.agg [AV.i IntKind.i64 (0), AV.i IntKind.i64 (0), AV.b false, AV.i IntKind.u8 (0)]) := by kernel_rfl
@[simp] theorem fieldOff_8_0 : fieldOff Try.prog 8 0 = some 0 := by kernel_rfl
@[simp] theorem fieldOff_8_1 : fieldOff Try.prog 8 1 = some 1 := by kernel_rfl
@[simp] theorem fieldOff_8_2 : fieldOff Try.prog 8 2 = some 2 := by kernel_rfl
@[simp] theorem fieldOff_8_3 : fieldOff Try.prog 8 3 = some 3 := by kernel_rfl
@[simp] theorem underlying_9 : Program.underlying Try.prog 9 = some TypeDesc.string := by kernel_rfl
@[simp] theorem szOf_9 : szOf Try.prog 9 = some 1 := by kernel_rfl
@[simp] theorem byOf_9 : byOf Try.prog 9 = some 16 := by kernel_rfl
@[simp] theorem zeroOf_9 : zeroOf Try.prog 9 = some [AV.s { data := { toList := [] } }] := by kernel_rfl
@[simp] theorem zsz_9 : zsz Try.prog 9 = some 1 := by kernel_rfl
@[simp] theorem zeroAV_9 : zeroAV Try.prog 9 = some (AV.s { data := { toList := [] } }) := by kernel_rfl
@[simp] theorem underlying_10 : Program.underlying Try.prog 10 = some TypeDesc.string := by kernel_rfl
@[simp] theorem szOf_10 : szOf Try.prog 10 = some 1 := by kernel_rfl
@[simp] theorem byOf_10 : byOf Try.prog 10 = some 16 := by kernel_rfl
@[simp] theorem zeroOf_10 : zeroOf Try.prog 10 = some [AV.s { data := { toList := [] } }] := by kernel_rfl
@[simp] theorem zsz_10 : zsz Try.prog 10 = some 1 := by kernel_rfl
@[simp] theorem zeroAV_10 : zeroAV Try.prog 10 = some (AV.s { data := { toList := [] } }) := by kernel_rfl
@[simp] theorem underlying_11 : Program.underlying Try.prog 11 = some TypeDesc.string := by kernel_rfl
@[simp] theorem szOf_11 : szOf Try.prog 11 = some 1 := by kernel_rfl
@[simp] theorem byOf_11 : byOf Try.prog 11 = some 16 := by kernel_rfl
@[simp] theorem zeroOf_11 : zeroOf Try.prog 11 = some [AV.s { data := { toList := [] } }] := by kernel_rfl
@[simp] theorem zsz_11 : zsz Try.prog 11 = some 1 := by kernel_rfl
@[simp] theorem zeroAV_11 : zeroAV Try.prog 11 = some (AV.s { data := { toList := [] } }) := by kernel_rfl
@[simp] theorem underlying_12 : Program.underlying Try.prog 12 = some (TypeDesc.int IntKind.u64) := by kernel_rfl
@[simp] theorem szOf_12 : szOf Try.prog 12 = some 1 := by kernel_rfl
@[simp] theorem byOf_12 : byOf Try.prog 12 = some 8 := by kernel_rfl
@[simp] theorem zeroOf_12 : zeroOf Try.prog 12 = some [AV.i IntKind.u64 (0)] := by kernel_rfl
@[simp] theorem zsz_12 : zsz Try.prog 12 = some 1 := by kernel_rfl
@[simp] theorem zeroAV_12 : zeroAV Try.prog 12 = some (AV.i IntKind.u64 (0)) := by kernel_rfl
@[simp] theorem underlying_13 : Program.underlying Try.prog 13 = some (TypeDesc.struct { toList := [{ name := "msg", type := 9, offset := 0, embedded := false, tag := "", pkgPath := "runtime", byteOffset := 0 }, { name := "addr", type := 12, offset := 1, embedded := false, tag := "", pkgPath := "runtime", byteOffset := 16 }] }) := by kernel_rfl
@[simp] theorem szOf_13 : szOf Try.prog 13 = some 2 := by kernel_rfl
@[simp] theorem byOf_13 : byOf Try.prog 13 = some 24 := by kernel_rfl
@[simp] theorem zeroOf_13 : zeroOf Try.prog 13 = some [AV.s { data := { toList := [] } }, AV.i IntKind.u64 (0)] := by kernel_rfl
@[simp] theorem zsz_13 : zsz Try.prog 13 = some 2 := by kernel_rfl
@[simp] theorem zeroAV_13 : zeroAV Try.prog 13 = some (AV.agg [AV.s { data := { toList := [] } }, AV.i IntKind.u64 (0)]) := by kernel_rfl
@[simp] theorem fieldOff_13_0 : fieldOff Try.prog 13 0 = some 0 := by kernel_rfl
@[simp] theorem fieldOff_13_1 : fieldOff Try.prog 13 1 = some 1 := by kernel_rfl
@[simp] theorem underlying_14 : Program.underlying Try.prog 14 = some (TypeDesc.struct { toList := [{ name := "msg", type := 9, offset := 0, embedded := false, tag := "", pkgPath := "runtime", byteOffset := 0 }, { name := "addr", type := 12, offset := 1, embedded := false, tag := "", pkgPath := "runtime", byteOffset := 16 }] }) := by kernel_rfl
@[simp] theorem szOf_14 : szOf Try.prog 14 = some 2 := by kernel_rfl
@[simp] theorem byOf_14 : byOf Try.prog 14 = some 24 := by kernel_rfl
@[simp] theorem zeroOf_14 : zeroOf Try.prog 14 = some [AV.s { data := { toList := [] } }, AV.i IntKind.u64 (0)] := by kernel_rfl
@[simp] theorem zsz_14 : zsz Try.prog 14 = some 2 := by kernel_rfl
@[simp] theorem zeroAV_14 : zeroAV Try.prog 14 = some (AV.agg [AV.s { data := { toList := [] } }, AV.i IntKind.u64 (0)]) := by kernel_rfl
@[simp] theorem fieldOff_14_0 : fieldOff Try.prog 14 0 = some 0 := by kernel_rfl
@[simp] theorem fieldOff_14_1 : fieldOff Try.prog 14 1 = some 1 := by kernel_rfl
@[simp] theorem underlying_15 : Program.underlying Try.prog 15 = some (TypeDesc.pointer 136) := by kernel_rfl
@[simp] theorem szOf_15 : szOf Try.prog 15 = some 1 := by kernel_rfl
@[simp] theorem byOf_15 : byOf Try.prog 15 = some 8 := by kernel_rfl
@[simp] theorem zeroOf_15 : zeroOf Try.prog 15 = some [AV.np] := by kernel_rfl
@[simp] theorem zsz_15 : zsz Try.prog 15 = some 1 := by kernel_rfl
@[simp] theorem zeroAV_15 : zeroAV Try.prog 15 = some AV.np := by kernel_rfl
@[simp] theorem underlying_16 : Program.underlying Try.prog 16 = some (TypeDesc.pointer 139) := by kernel_rfl
@[simp] theorem szOf_16 : szOf Try.prog 16 = some 1 := by kernel_rfl
@[simp] theorem byOf_16 : byOf Try.prog 16 = some 8 := by kernel_rfl
@[simp] theorem zeroOf_16 : zeroOf Try.prog 16 = some [AV.np] := by kernel_rfl
@[simp] theorem zsz_16 : zsz Try.prog 16 = some 1 := by kernel_rfl
@[simp] theorem zeroAV_16 : zeroAV Try.prog 16 = some AV.np := by kernel_rfl
@[simp] theorem underlying_17 : Program.underlying Try.prog 17 = some (TypeDesc.pointer 147) := by kernel_rfl
@[simp] theorem szOf_17 : szOf Try.prog 17 = some 1 := by kernel_rfl
@[simp] theorem byOf_17 : byOf Try.prog 17 = some 8 := by kernel_rfl
@[simp] theorem zeroOf_17 : zeroOf Try.prog 17 = some [AV.np] := by kernel_rfl
@[simp] theorem zsz_17 : zsz Try.prog 17 = some 1 := by kernel_rfl
@[simp] theorem zeroAV_17 : zeroAV Try.prog 17 = some AV.np := by kernel_rfl
@[simp] theorem underlying_18 : Program.underlying Try.prog 18 = some (TypeDesc.struct { toList := [{ name := "typ", type := 17, offset := 0, embedded := false, tag := "", pkgPath := "internal/runtime/maps", byteOffset := 0 }] }) := by kernel_rfl
@[simp] theorem szOf_18 : szOf Try.prog 18 = some 1 := by kernel_rfl
@[simp] theorem byOf_18 : byOf Try.prog 18 = some 8 := by kernel_rfl
@[simp] theorem zeroOf_18 : zeroOf Try.prog 18 = some [AV.np] := by kernel_rfl
@[simp] theorem zsz_18 : zsz Try.prog 18 = some 1 := by kernel_rfl
@[simp] theorem zeroAV_18 : zeroAV Try.prog 18 = some (AV.agg [AV.np]) := by kernel_rfl
@[simp] theorem fieldOff_18_0 : fieldOff Try.prog 18 0 = some 0 := by kernel_rfl
@[simp] theorem underlying_19 : Program.underlying Try.prog 19 = some (TypeDesc.struct { toList := [{ name := "typ", type := 17, offset := 0, embedded := false, tag := "", pkgPath := "internal/runtime/maps", byteOffset := 0 }] }) := by kernel_rfl
@[simp] theorem szOf_19 : szOf Try.prog 19 = some 1 := by kernel_rfl
@[simp] theorem byOf_19 : byOf Try.prog 19 = some 8 := by kernel_rfl
@[simp] theorem zeroOf_19 : zeroOf Try.prog 19 = some [AV.np] := by kernel_rfl
@[simp] theorem zsz_19 : zsz Try.prog 19 = some 1 := by kernel_rfl
@[simp] theorem zeroAV_19 : zeroAV Try.prog 19 = some (AV.agg [AV.np]) := by kernel_rfl
@[simp] theorem fieldOff_19_0 : fieldOff Try.prog 19 0 = some 0 := by kernel_rfl
@[simp] theorem underlying_20 : Program.underlying Try.prog 20 = some (TypeDesc.interface { toList := [] }) := by kernel_rfl
@[simp] theorem szOf_20 : szOf Try.prog 20 = some 1 := by kernel_rfl
@[simp] theorem byOf_20 : byOf Try.prog 20 = some 16 := by kernel_rfl
@[simp] theorem zeroOf_20 : zeroOf Try.prog 20 = some [AV.undef] := by kernel_rfl
@[simp] theorem zsz_20 : zsz Try.prog 20 = some 1 := by kernel_rfl
@[simp] theorem zeroAV_20 : zeroAV Try.prog 20 = some AV.undef := by kernel_rfl
@[simp] theorem underlying_21 : Program.underlying Try.prog 21 = some (TypeDesc.int IntKind.i32) := by kernel_rfl
@[simp] theorem szOf_21 : szOf Try.prog 21 = some 1 := by kernel_rfl
@[simp] theorem byOf_21 : byOf Try.prog 21 = some 4 := by kernel_rfl
@[simp] theorem zeroOf_21 : zeroOf Try.prog 21 = some [AV.i IntKind.i32 (0)] := by kernel_rfl
@[simp] theorem zsz_21 : zsz Try.prog 21 = some 1 := by kernel_rfl
@[simp] theorem zeroAV_21 : zeroAV Try.prog 21 = some (AV.i IntKind.i32 (0)) := by kernel_rfl
@[simp] theorem underlying_22 : Program.underlying Try.prog 22 = some (TypeDesc.slice 5) := by kernel_rfl
@[simp] theorem szOf_22 : szOf Try.prog 22 = some 1 := by kernel_rfl
@[simp] theorem byOf_22 : byOf Try.prog 22 = some 24 := by kernel_rfl
@[simp] theorem zeroOf_22 : zeroOf Try.prog 22 = some [AV.vs true 0 []] := by kernel_rfl
@[simp] theorem zsz_22 : zsz Try.prog 22 = some 1 := by kernel_rfl
@[simp] theorem elemOf_22 : elemOf Try.prog 22 = some 5 := by kernel_rfl
@[simp] theorem zeroAV_22 : zeroAV Try.prog 22 = some (AV.vs true 0 []) := by kernel_rfl
@[simp] theorem underlying_23 : Program.underlying Try.prog 23 = some (TypeDesc.slice 3) := by kernel_rfl
@[simp] theorem szOf_23 : szOf Try.prog 23 = some 1 := by kernel_rfl
@[simp] theorem byOf_23 : byOf Try.prog 23 = some 24 := by kernel_rfl
@[simp] theorem zeroOf_23 : zeroOf Try.prog 23 = some [AV.vs true 0 []] := by kernel_rfl
@[simp] theorem zsz_23 : zsz Try.prog 23 = some 1 := by kernel_rfl
@[simp] theorem elemOf_23 : elemOf Try.prog 23 = some 3 := by kernel_rfl
@[simp] theorem zeroAV_23 : zeroAV Try.prog 23 = some (AV.vs true 0 []) := by kernel_rfl
@[simp] theorem underlying_24 : Program.underlying Try.prog 24 = some (TypeDesc.func { toList := [] } { toList := [4] } false) := by kernel_rfl
@[simp] theorem szOf_24 : szOf Try.prog 24 = some 1 := by kernel_rfl
@[simp] theorem byOf_24 : byOf Try.prog 24 = some 8 := by kernel_rfl
@[simp] theorem zeroOf_24 : zeroOf Try.prog 24 = some [AV.nfn] := by kernel_rfl
@[simp] theorem zsz_24 : zsz Try.prog 24 = some 1 := by kernel_rfl
@[simp] theorem zeroAV_24 : zeroAV Try.prog 24 = some AV.nfn := by kernel_rfl
@[simp] theorem underlying_25 : Program.underlying Try.prog 25 = some (TypeDesc.pointer 69) := by kernel_rfl
@[simp] theorem szOf_25 : szOf Try.prog 25 = some 1 := by kernel_rfl
@[simp] theorem byOf_25 : byOf Try.prog 25 = some 8 := by kernel_rfl
@[simp] theorem zeroOf_25 : zeroOf Try.prog 25 = some [AV.np] := by kernel_rfl
@[simp] theorem zsz_25 : zsz Try.prog 25 = some 1 := by kernel_rfl
@[simp] theorem zeroAV_25 : zeroAV Try.prog 25 = some AV.np := by kernel_rfl
@[simp] theorem underlying_26 : Program.underlying Try.prog 26 = some (TypeDesc.int IntKind.i64) := by kernel_rfl
@[simp] theorem szOf_26 : szOf Try.prog 26 = some 1 := by kernel_rfl
@[simp] theorem byOf_26 : byOf Try.prog 26 = some 8 := by kernel_rfl
@[simp] theorem zeroOf_26 : zeroOf Try.prog 26 = some [AV.i IntKind.i64 (0)] := by kernel_rfl
@[simp] theorem zsz_26 : zsz Try.prog 26 = some 1 := by kernel_rfl
@[simp] theorem zeroAV_26 : zeroAV Try.prog 26 = some (AV.i IntKind.i64 (0)) := by kernel_rfl
@[simp] theorem underlying_27 : Program.underlying Try.prog 27 = some (TypeDesc.tuple { toList := [25, 26] }) := by kernel_rfl
@[simp] theorem szOf_27 : szOf Try.prog 27 = some 1 := by kernel_rfl
@[simp] theorem byOf_27 : byOf Try.prog 27 = some 0 := by kernel_rfl
@[simp] theorem zeroOf_27 : zeroOf Try.prog 27 = some [AV.undef] := by kernel_rfl
@[simp] theorem zsz_27 : zsz Try.prog 27 = some 1 := by kernel_rfl
@[simp] theorem zeroAV_27 : zeroAV Try.prog 27 = some AV.undef := by kernel_rfl
@[simp] theorem underlying_28 : Program.underlying Try.prog 28 = some (TypeDesc.func { toList := [3] } { toList := [25, 26] } false) := by kernel_rfl
@[simp] theorem szOf_28 : szOf Try.prog 28 = some 1 := by kernel_rfl
@[simp] theorem byOf_28 : byOf Try.prog 28 = some 8 := by kernel_rfl
@[simp] theorem zeroOf_28 : zeroOf Try.prog 28 = some [AV.nfn] := by kernel_rfl
@[simp] theorem zsz_28 : zsz Try.prog 28 = some 1 := by kernel_rfl
@[simp] theorem zeroAV_28 : zeroAV Try.prog 28 = some AV.nfn := by kernel_rfl
@[simp] theorem underlying_29 : Program.underlying Try.prog 29 = some (TypeDesc.func { toList := [9] } { toList := [26] } false) := by kernel_rfl
@[simp] theorem szOf_29 : szOf Try.prog 29 = some 1 := by kernel_rfl
@[simp] theorem byOf_29 : byOf Try.prog 29 = some 8 := by kernel_rfl
@[simp] theorem zeroOf_29 : zeroOf Try.prog 29 = some [AV.nfn] := by kernel_rfl
@[simp] theorem zsz_29 : zsz Try.prog 29 = some 1 := by kernel_rfl
@[simp] theorem zeroAV_29 : zeroAV Try.prog 29 = some AV.nfn := by kernel_rfl
@[simp] theorem underlying_30 : Program.underlying Try.prog 30 = some (TypeDesc.func { toList := [9, 22] } { toList := [26] } false) := by kernel_rfl
@[simp] theorem szOf_30 : szOf Try.prog 30 = some 1 := by kernel_rfl
@[simp] theorem byOf_30 : byOf Try.prog 30 = some 8 := by kernel_rfl
@[simp] theorem zeroOf_30 : zeroOf Try.prog 30 = some [AV.nfn] := by kernel_rfl
@[simp] theorem zsz_30 : zsz Try.prog 30 = some 1 := by kernel_rfl
@[simp] theorem zeroAV_30 : zeroAV Try.prog 30 = some AV.nfn := by kernel_rfl
@[simp] theorem underlying_31 : Program.underlying Try.prog 31 = some (TypeDesc.func { toList := [] } { toList := [26] } false) := by kernel_rfl
@[simp] theorem szOf_31 : szOf Try.prog 31 = some 1 := by kernel_rfl
@[simp] theorem byOf_31 : byOf Try.prog 31 = some 8 := by kernel_rfl
@[simp] theorem zeroOf_31 : zeroOf Try.prog 31 = some [AV.nfn] := by kernel_rfl
@[simp] theorem zsz_31 : zsz Try.prog 31 = some 1 := by kernel_rfl
@[simp] theorem zeroAV_31 : zeroAV Try.prog 31 = some AV.nfn := by kernel_rfl
@[simp] theorem underlying_32 : Program.underlying Try.prog 32 = some (TypeDesc.func { toList := [9, 9] } { toList := [26] } false) := by kernel_rfl
@[simp] theorem szOf_32 : szOf Try.prog 32 = some 1 := by kernel_rfl
@[simp] theorem byOf_32 : byOf Try.prog 32 = some 8 := by kernel_rfl
@[simp] theorem zeroOf_32 : zeroOf Try.prog 32 = some [AV.nfn] := by kernel_rfl
@[simp] theorem zsz_32 : zsz Try.prog 32 = some 1 := by kernel_rfl
@[simp] theorem zeroAV_32 : zeroAV Try.prog 32 = some AV.nfn := by kernel_rfl
@[simp] theorem underlying_33 : Program.underlying Try.prog 33 = some (TypeDesc.func { toList := [23, 3] } { toList := [] } false) := by kernel_rfl
@[simp] theorem szOf_33 : szOf Try.prog 33 = some 1 := by kernel_rfl
@[simp] theorem byOf_33 : byOf Try.prog 33 = some 8 := by kernel_rfl
@[simp] theorem zeroOf_33 : zeroOf Try.prog 33 = some [AV.nfn] := by kernel_rfl
@[simp] theorem zsz_33 : zsz Try.prog 33 = some 1 := by kernel_rfl
@[simp] theorem zeroAV_33 : zeroAV Try.prog 33 = some AV.nfn := by kernel_rfl
@[simp] theorem underlying_34 : Program.underlying Try.prog 34 = some (TypeDesc.tuple { toList := [22, 26] }) := by kernel_rfl
@[simp] theorem szOf_34 : szOf Try.prog 34 = some 1 := by kernel_rfl
@[simp] theorem byOf_34 : byOf Try.prog 34 = some 0 := by kernel_rfl
@[simp] theorem zeroOf_34 : zeroOf Try.prog 34 = some [AV.undef] := by kernel_rfl
@[simp] theorem zsz_34 : zsz Try.prog 34 = some 1 := by kernel_rfl
@[simp] theorem zeroAV_34 : zeroAV Try.prog 34 = some AV.undef := by kernel_rfl
@[simp] theorem underlying_35 : Program.underlying Try.prog 35 = some (TypeDesc.func { toList := [9] } { toList := [22, 26] } false) := by kernel_rfl
@[simp] theorem szOf_35 : szOf Try.prog 35 = some 1 := by kernel_rfl
@[simp] theorem byOf_35 : byOf Try.prog 35 = some 8 := by kernel_rfl
@[simp] theorem zeroOf_35 : zeroOf Try.prog 35 = some [AV.nfn] := by kernel_rfl
@[simp] theorem zsz_35 : zsz Try.prog 35 = some 1 := by kernel_rfl
@[simp] theorem zeroAV_35 : zeroAV Try.prog 35 = some AV.nfn := by kernel_rfl
@[simp] theorem underlying_36 : Program.underlying Try.prog 36 = some (TypeDesc.func { toList := [22, 22, 5, 23, 3] } { toList := [4] } false) := by kernel_rfl
@[simp] theorem szOf_36 : szOf Try.prog 36 = some 1 := by kernel_rfl
@[simp] theorem byOf_36 : byOf Try.prog 36 = some 8 := by kernel_rfl
@[simp] theorem zeroOf_36 : zeroOf Try.prog 36 = some [AV.nfn] := by kernel_rfl
@[simp] theorem zsz_36 : zsz Try.prog 36 = some 1 := by kernel_rfl
@[simp] theorem zeroAV_36 : zeroAV Try.prog 36 = some AV.nfn := by kernel_rfl
@[simp] theorem underlying_37 : Program.underlying Try.prog 37 = some (TypeDesc.slice 57) := by kernel_rfl
@[simp] theorem szOf_37 : szOf Try.prog 37 = some 1 := by kernel_rfl
@[simp] theorem byOf_37 : byOf Try.prog 37 = some 24 := by kernel_rfl
@[simp] theorem zeroOf_37 : zeroOf Try.prog 37 = some [AV.vs true 0 []] := by kernel_rfl
@[simp] theorem zsz_37 : zsz Try.prog 37 = some 1 := by kernel_rfl
@[simp] theorem elemOf_37 : elemOf Try.prog 37 = some 57 := by kernel_rfl
@[simp] theorem zeroAV_37 : zeroAV Try.prog 37 = some (AV.vs true 0 []) := by kernel_rfl
@[simp] theorem underlying_38 : Program.underlying Try.prog 38 = some (TypeDesc.tuple { toList := [25, 4] }) := by kernel_rfl
@[simp] theorem szOf_38 : szOf Try.prog 38 = some 1 := by kernel_rfl
@[simp] theorem byOf_38 : byOf Try.prog 38 = some 0 := by kernel_rfl
@[simp] theorem zeroOf_38 : zeroOf Try.prog 38 = some [AV.undef] := by kernel_rfl
@[simp] theorem zsz_38 : zsz Try.prog 38 = some 1 := by kernel_rfl
@[simp] theorem zeroAV_38 : zeroAV Try.prog 38 = some AV.undef := by kernel_rfl
@[simp] theorem underlying_39 : Program.underlying Try.prog 39 = some (TypeDesc.func { toList := [3, 37] } { toList := [25, 4] } false) := by kernel_rfl
@[simp] theorem szOf_39 : szOf Try.prog 39 = some 1 := by kernel_rfl
@[simp] theorem byOf_39 : byOf Try.prog 39 = some 8 := by kernel_rfl
@[simp] theorem zeroOf_39 : zeroOf Try.prog 39 = some [AV.nfn] := by kernel_rfl
@[simp] theorem zsz_39 : zsz Try.prog 39 = some 1 := by kernel_rfl
@[simp] theorem zeroAV_39 : zeroAV Try.prog 39 = some AV.nfn := by kernel_rfl
@[simp] theorem underlying_40 : Program.underlying Try.prog 40 = some (TypeDesc.func { toList := [3] } { toList := [] } false) := by kernel_rfl
@[simp] theorem szOf_40 : szOf Try.prog 40 = some 1 := by kernel_rfl
@[simp] theorem byOf_40 : byOf Try.prog 40 = some 8 := by kernel_rfl
@[simp] theorem zeroOf_40 : zeroOf Try.prog 40 = some [AV.nfn] := by kernel_rfl
@[simp] theorem zsz_40 : zsz Try.prog 40 = some 1 := by kernel_rfl
@[simp] theorem zeroAV_40 : zeroAV Try.prog 40 = some AV.nfn := by kernel_rfl
@[simp] theorem underlying_41 : Program.underlying Try.prog 41 = some (TypeDesc.slice 45) := by kernel_rfl
@[simp] theorem szOf_41 : szOf Try.prog 41 = some 1 := by kernel_rfl
@[simp] theorem byOf_41 : byOf Try.prog 41 = some 24 := by kernel_rfl
@[simp] theorem zeroOf_41 : zeroOf Try.prog 41 = some [AV.vs true 0 []] := by kernel_rfl
@[simp] theorem zsz_41 : zsz Try.prog 41 = some 1 := by kernel_rfl
@[simp] theorem elemOf_41 : elemOf Try.prog 41 = some 45 := by kernel_rfl
@[simp] theorem zeroAV_41 : zeroAV Try.prog 41 = some (AV.vs true 0 []) := by kernel_rfl
@[simp] theorem underlying_42 : Program.underlying Try.prog 42 = some (TypeDesc.func { toList := [] } { toList := [41] } false) := by kernel_rfl
@[simp] theorem szOf_42 : szOf Try.prog 42 = some 1 := by kernel_rfl
@[simp] theorem byOf_42 : byOf Try.prog 42 = some 8 := by kernel_rfl
@[simp] theorem zeroOf_42 : zeroOf Try.prog 42 = some [AV.nfn] := by kernel_rfl
@[simp] theorem zsz_42 : zsz Try.prog 42 = some 1 := by kernel_rfl
@[simp] theorem zeroAV_42 : zeroAV Try.prog 42 = some AV.nfn := by kernel_rfl
@[simp] theorem underlying_43 : Program.underlying Try.prog 43 = some (TypeDesc.func { toList := [] } { toList := [3] } false) := by kernel_rfl
@[simp] theorem szOf_43 : szOf Try.prog 43 = some 1 := by kernel_rfl
@[simp] theorem byOf_43 : byOf Try.prog 43 = some 8 := by kernel_rfl
@[simp] theorem zeroOf_43 : zeroOf Try.prog 43 = some [AV.nfn] := by kernel_rfl
@[simp] theorem zsz_43 : zsz Try.prog 43 = some 1 := by kernel_rfl
@[simp] theorem zeroAV_43 : zeroAV Try.prog 43 = some AV.nfn := by kernel_rfl
@[simp] theorem underlying_44 : Program.underlying Try.prog 44 = some (TypeDesc.struct { toList := [{ name := "Name", type := 9, offset := 0, embedded := false, tag := "", pkgPath := "", byteOffset := 0 }, { name := "B", type := 22, offset := 1, embedded := false, tag := "", pkgPath := "", byteOffset := 16 }, { name := "Fast", type := 3, offset := 2, embedded := false, tag := "", pkgPath := "", byteOffset := 40 }] }) := by kernel_rfl
@[simp] theorem szOf_44 : szOf Try.prog 44 = some 3 := by kernel_rfl
@[simp] theorem byOf_44 : byOf Try.prog 44 = some 48 := by kernel_rfl
@[simp] theorem zeroOf_44 : zeroOf Try.prog 44 = some [AV.s { data := { toList := [] } }, AV.vs true 0 [], AV.i IntKind.i64 (0)] := by kernel_rfl
@[simp] theorem zsz_44 : zsz Try.prog 44 = some 3 := by kernel_rfl
@[simp] theorem zeroAV_44 : zeroAV Try.prog 44 = some (AV.agg [AV.s { data := { toList := [] } }, AV.vs true 0 [], AV.i IntKind.i64 (0)]) := by kernel_rfl
@[simp] theorem fieldOff_44_0 : fieldOff Try.prog 44 0 = some 0 := by kernel_rfl
@[simp] theorem fieldOff_44_1 : fieldOff Try.prog 44 1 = some 1 := by kernel_rfl
@[simp] theorem fieldOff_44_2 : fieldOff Try.prog 44 2 = some 2 := by kernel_rfl
@[simp] theorem underlying_45 : Program.underlying Try.prog 45 = some (TypeDesc.struct { toList := [{ name := "Name", type := 9, offset := 0, embedded := false, tag := "", pkgPath := "", byteOffset := 0 }, { name := "B", type := 22, offset := 1, embedded := false, tag := "", pkgPath := "", byteOffset := 16 }, { name := "Fast", type := 3, offset := 2, embedded := false, tag := "", pkgPath := "", byteOffset := 40 }] }) := by kernel_rfl
@[simp] theorem szOf_45 : szOf Try.prog 45 = some 3 := by kernel_rfl
@[simp] theorem byOf_45 : byOf Try.prog 45 = some 48 := by kernel_rfl
@[simp] theorem zeroOf_45 : zeroOf Try.prog 45 = some [AV.s { data := { toList := [] } }, AV.vs true 0 [], AV.i IntKind.i64 (0)] := by kernel_rfl
@[simp] theorem zsz_45 : zsz Try.prog 45 = some 3 := by kernel_rfl
@[simp] theorem zeroAV_45 : zeroAV Try.prog 45 = some (AV.agg [AV.s { data := { toList := [] } }, AV.vs true 0 [], AV.i IntKind.i64 (0)]) := by kernel_rfl
@[simp] theorem fieldOff_45_0 : fieldOff Try.prog 45 0 = some 0 := by kernel_rfl
@[simp] theorem fieldOff_45_1 : fieldOff Try.prog 45 1 = some 1 := by kernel_rfl
@[simp] theorem fieldOff_45_2 : fieldOff Try.prog 45 2 = some 2 := by kernel_rfl
@[simp] theorem underlying_46 : Program.underlying Try.prog 46 = some (TypeDesc.func { toList := [22, 22] } { toList := [4] } false) := by kernel_rfl
@[simp] theorem szOf_46 : szOf Try.prog 46 = some 1 := by kernel_rfl
@[simp] theorem byOf_46 : byOf Try.prog 46 = some 8 := by kernel_rfl
@[simp] theorem zeroOf_46 : zeroOf Try.prog 46 = some [AV.nfn] := by kernel_rfl
@[simp] theorem zsz_46 : zsz Try.prog 46 = some 1 := by kernel_rfl
@[simp] theorem zeroAV_46 : zeroAV Try.prog 46 = some AV.nfn := by kernel_rfl
@[simp] theorem underlying_47 : Program.underlying Try.prog 47 = some (TypeDesc.func { toList := [3, 37, 23, 3] } { toList := [4] } false) := by kernel_rfl
@[simp] theorem szOf_47 : szOf Try.prog 47 = some 1 := by kernel_rfl
@[simp] theorem byOf_47 : byOf Try.prog 47 = some 8 := by kernel_rfl
@[simp] theorem zeroOf_47 : zeroOf Try.prog 47 = some [AV.nfn] := by kernel_rfl
@[simp] theorem zsz_47 : zsz Try.prog 47 = some 1 := by kernel_rfl
@[simp] theorem zeroAV_47 : zeroAV Try.prog 47 = some AV.nfn := by kernel_rfl
@[simp] theorem underlying_48 : Program.underlying Try.prog 48 = some (TypeDesc.func { toList := [41, 41] } { toList := [4] } false) := by kernel_rfl
@[simp] theorem szOf_48 : szOf Try.prog 48 = some 1 := by kernel_rfl
@[simp] theorem byOf_48 : byOf Try.prog 48 = some 8 := by kernel_rfl
@[simp] theorem zeroOf_48 : zeroOf Try.prog 48 = some [AV.nfn] := by kernel_rfl
@[simp] theorem zsz_48 : zsz Try.prog 48 = some 1 := by kernel_rfl
@[simp] theorem zeroAV_48 : zeroAV Try.prog 48 = some AV.nfn := by kernel_rfl
@[simp] theorem underlying_49 : Program.underlying Try.prog 49 = some (TypeDesc.slice 9) := by kernel_rfl
@[simp] theorem szOf_49 : szOf Try.prog 49 = some 1 := by kernel_rfl
@[simp] theorem byOf_49 : byOf Try.prog 49 = some 24 := by kernel_rfl
@[simp] theorem zeroOf_49 : zeroOf Try.prog 49 = some [AV.vs true 0 []] := by kernel_rfl
@[simp] theorem zsz_49 : zsz Try.prog 49 = some 1 := by kernel_rfl
@[simp] theorem elemOf_49 : elemOf Try.prog 49 = some 9 := by kernel_rfl
@[simp] theorem zeroAV_49 : zeroAV Try.prog 49 = some (AV.vs true 0 []) := by kernel_rfl
@[simp] theorem underlying_50 : Program.underlying Try.prog 50 = some (TypeDesc.func { toList := [] } { toList := [49] } false) := by kernel_rfl
@[simp] theorem szOf_50 : szOf Try.prog 50 = some 1 := by kernel_rfl
@[simp] theorem byOf_50 : byOf Try.prog 50 = some 8 := by kernel_rfl
@[simp] theorem zeroOf_50 : zeroOf Try.prog 50 = some [AV.nfn] := by kernel_rfl
@[simp] theorem zsz_50 : zsz Try.prog 50 = some 1 := by kernel_rfl
@[simp] theorem zeroAV_50 : zeroAV Try.prog 50 = some AV.nfn := by kernel_rfl
@[simp] theorem underlying_51 : Program.underlying Try.prog 51 = some (TypeDesc.func { toList := [3, 37, 23, 23, 3, 3] } { toList := [4] } false) := by kernel_rfl
@[simp] theorem szOf_51 : szOf Try.prog 51 = some 1 := by kernel_rfl
@[simp] theorem byOf_51 : byOf Try.prog 51 = some 8 := by kernel_rfl
@[simp] theorem zeroOf_51 : zeroOf Try.prog 51 = some [AV.nfn] := by kernel_rfl
@[simp] theorem zsz_51 : zsz Try.prog 51 = some 1 := by kernel_rfl
@[simp] theorem zeroAV_51 : zeroAV Try.prog 51 = some AV.nfn := by kernel_rfl
@[simp] theorem underlying_52 : Program.underlying Try.prog 52 = some (TypeDesc.pointer 60) := by kernel_rfl
@[simp] theorem szOf_52 : szOf Try.prog 52 = some 1 := by kernel_rfl
@[simp] theorem byOf_52 : byOf Try.prog 52 = some 8 := by kernel_rfl
@[simp] theorem zeroOf_52 : zeroOf Try.prog 52 = some [AV.np] := by kernel_rfl
@[simp] theorem zsz_52 : zsz Try.prog 52 = some 1 := by kernel_rfl
@[simp] theorem zeroAV_52 : zeroAV Try.prog 52 = some AV.np := by kernel_rfl
@[simp] theorem underlying_53 : Program.underlying Try.prog 53 = some (TypeDesc.tuple { toList := [52, 4] }) := by kernel_rfl
@[simp] theorem szOf_53 : szOf Try.prog 53 = some 1 := by kernel_rfl
@[simp] theorem byOf_53 : byOf Try.prog 53 = some 0 := by kernel_rfl
@[simp] theorem zeroOf_53 : zeroOf Try.prog 53 = some [AV.undef] := by kernel_rfl
@[simp] theorem zsz_53 : zsz Try.prog 53 = some 1 := by kernel_rfl
@[simp] theorem zeroAV_53 : zeroAV Try.prog 53 = some AV.undef := by kernel_rfl
@[simp] theorem underlying_54 : Program.underlying Try.prog 54 = some (TypeDesc.func { toList := [3] } { toList := [52, 4] } false) := by kernel_rfl
@[simp] theorem szOf_54 : szOf Try.prog 54 = some 1 := by kernel_rfl
@[simp] theorem byOf_54 : byOf Try.prog 54 = some 8 := by kernel_rfl
@[simp] theorem zeroOf_54 : zeroOf Try.prog 54 = some [AV.nfn] := by kernel_rfl
@[simp] theorem zsz_54 : zsz Try.prog 54 = some 1 := by kernel_rfl
@[simp] theorem zeroAV_54 : zeroAV Try.prog 54 = some AV.nfn := by kernel_rfl
@[simp] theorem underlying_55 : Program.underlying Try.prog 55 = some (TypeDesc.slice 52) := by kernel_rfl
@[simp] theorem szOf_55 : szOf Try.prog 55 = some 1 := by kernel_rfl
@[simp] theorem byOf_55 : byOf Try.prog 55 = some 24 := by kernel_rfl
@[simp] theorem zeroOf_55 : zeroOf Try.prog 55 = some [AV.vs true 0 []] := by kernel_rfl
@[simp] theorem zsz_55 : zsz Try.prog 55 = some 1 := by kernel_rfl
@[simp] theorem elemOf_55 : elemOf Try.prog 55 = some 52 := by kernel_rfl
@[simp] theorem zeroAV_55 : zeroAV Try.prog 55 = some (AV.vs true 0 []) := by kernel_rfl
@[simp] theorem underlying_56 : Program.underlying Try.prog 56 = some (TypeDesc.struct { toList := [{ name := "Kind", type := 3, offset := 0, embedded := false, tag := "", pkgPath := "", byteOffset := 0 }, { name := "Name", type := 9, offset := 1, embedded := false, tag := "", pkgPath := "", byteOffset := 8 }, { name := "To", type := 9, offset := 2, embedded := false, tag := "", pkgPath := "", byteOffset := 24 }, { name := "B", type := 22, offset := 3, embedded := false, tag := "", pkgPath := "", byteOffset := 40 }, { name := "N", type := 3, offset := 4, embedded := false, tag := "", pkgPath := "", byteOffset := 64 }, { name := "Keeps", type := 23, offset := 5, embedded := false, tag := "", pkgPath := "", byteOffset := 72 }] }) := by kernel_rfl
@[simp] theorem szOf_56 : szOf Try.prog 56 = some 6 := by kernel_rfl
@[simp] theorem byOf_56 : byOf Try.prog 56 = some 96 := by kernel_rfl
@[simp] theorem zeroOf_56 : zeroOf Try.prog 56 = some [AV.i IntKind.i64 (0), AV.s { data := { toList := [] } }, AV.s { data := { toList := [] } }, AV.vs true 0 [], AV.i IntKind.i64 (0), AV.vs true 0 []] := by kernel_rfl
@[simp] theorem zsz_56 : zsz Try.prog 56 = some 6 := by kernel_rfl
@[simp] theorem zeroAV_56 : zeroAV Try.prog 56 = some (AV.agg [AV.i IntKind.i64 (0), AV.s { data := { toList := [] } }, AV.s { data := { toList := [] } }, AV.vs true 0 [], AV.i IntKind.i64 (0), AV.vs true 0 []]) := by kernel_rfl
@[simp] theorem fieldOff_56_0 : fieldOff Try.prog 56 0 = some 0 := by kernel_rfl
@[simp] theorem fieldOff_56_1 : fieldOff Try.prog 56 1 = some 1 := by kernel_rfl
@[simp] theorem fieldOff_56_2 : fieldOff Try.prog 56 2 = some 2 := by kernel_rfl
@[simp] theorem fieldOff_56_3 : fieldOff Try.prog 56 3 = some 3 := by kernel_rfl
@[simp] theorem fieldOff_56_4 : fieldOff Try.prog 56 4 = some 4 := by kernel_rfl
@[simp] theorem fieldOff_56_5 : fieldOff Try.prog 56 5 = some 5 := by kernel_rfl
@[simp] theorem underlying_57 : Program.underlying Try.prog 57 = some (TypeDesc.struct { toList := [{ name := "Kind", type := 3, offset := 0, embedded := false, tag := "", pkgPath := "", byteOffset := 0 }, { name := "Name", type := 9, offset := 1, embedded := false, tag := "", pkgPath := "", byteOffset := 8 }, { name := "To", type := 9, offset := 2, embedded := false, tag := "", pkgPath := "", byteOffset := 24 }, { name := "B", type := 22, offset := 3, embedded := false, tag := "", pkgPath := "", byteOffset := 40 }, { name := "N", type := 3, offset := 4, embedded := false, tag := "", pkgPath := "", byteOffset := 64 }, { name := "Keeps", type := 23, offset := 5, embedded := false, tag := "", pkgPath := "", byteOffset := 72 }] }) := by kernel_rfl
@[simp] theorem szOf_57 : szOf Try.prog 57 = some 6 := by kernel_rfl
@[simp] theorem byOf_57 : byOf Try.prog 57 = some 96 := by kernel_rfl
@[simp] theorem zeroOf_57 : zeroOf Try.prog 57 = some [AV.i IntKind.i64 (0), AV.s { data := { toList := [] } }, AV.s { data := { toList := [] } }, AV.vs true 0 [], AV.i IntKind.i64 (0), AV.vs true 0 []] := by kernel_rfl
@[simp] theorem zsz_57 : zsz Try.prog 57 = some 6 := by kernel_rfl
@[simp] theorem zeroAV_57 : zeroAV Try.prog 57 = some (AV.agg [AV.i IntKind.i64 (0), AV.s { data := { toList := [] } }, AV.s { data := { toList := [] } }, AV.vs true 0 [], AV.i IntKind.i64 (0), AV.vs true 0 []]) := by kernel_rfl
@[simp] theorem fieldOff_57_0 : fieldOff Try.prog 57 0 = some 0 := by kernel_rfl
@[simp] theorem fieldOff_57_1 : fieldOff Try.prog 57 1 = some 1 := by kernel_rfl
@[simp] theorem fieldOff_57_2 : fieldOff Try.prog 57 2 = some 2 := by kernel_rfl
@[simp] theorem fieldOff_57_3 : fieldOff Try.prog 57 3 = some 3 := by kernel_rfl
@[simp] theorem fieldOff_57_4 : fieldOff Try.prog 57 4 = some 4 := by kernel_rfl
@[simp] theorem fieldOff_57_5 : fieldOff Try.prog 57 5 = some 5 := by kernel_rfl
@[simp] theorem underlying_58 : Program.underlying Try.prog 58 = some (TypeDesc.pointer 87) := by kernel_rfl
@[simp] theorem szOf_58 : szOf Try.prog 58 = some 1 := by kernel_rfl
@[simp] theorem byOf_58 : byOf Try.prog 58 = some 8 := by kernel_rfl
@[simp] theorem zeroOf_58 : zeroOf Try.prog 58 = some [AV.np] := by kernel_rfl
@[simp] theorem zsz_58 : zsz Try.prog 58 = some 1 := by kernel_rfl
@[simp] theorem zeroAV_58 : zeroAV Try.prog 58 = some AV.np := by kernel_rfl
@[simp] theorem underlying_59 : Program.underlying Try.prog 59 = some (TypeDesc.struct { toList := [{ name := "P", type := 25, offset := 0, embedded := false, tag := "", pkgPath := "", byteOffset := 0 }, { name := "D", type := 58, offset := 1, embedded := false, tag := "", pkgPath := "", byteOffset := 8 }] }) := by kernel_rfl
@[simp] theorem szOf_59 : szOf Try.prog 59 = some 2 := by kernel_rfl
@[simp] theorem byOf_59 : byOf Try.prog 59 = some 16 := by kernel_rfl
@[simp] theorem zeroOf_59 : zeroOf Try.prog 59 = some [AV.np, AV.np] := by kernel_rfl
@[simp] theorem zsz_59 : zsz Try.prog 59 = some 2 := by kernel_rfl
@[simp] theorem zeroAV_59 : zeroAV Try.prog 59 = some (AV.agg [AV.np, AV.np]) := by kernel_rfl
@[simp] theorem fieldOff_59_0 : fieldOff Try.prog 59 0 = some 0 := by kernel_rfl
@[simp] theorem fieldOff_59_1 : fieldOff Try.prog 59 1 = some 1 := by kernel_rfl
@[simp] theorem underlying_60 : Program.underlying Try.prog 60 = some (TypeDesc.struct { toList := [{ name := "P", type := 25, offset := 0, embedded := false, tag := "", pkgPath := "", byteOffset := 0 }, { name := "D", type := 58, offset := 1, embedded := false, tag := "", pkgPath := "", byteOffset := 8 }] }) := by kernel_rfl
@[simp] theorem szOf_60 : szOf Try.prog 60 = some 2 := by kernel_rfl
@[simp] theorem byOf_60 : byOf Try.prog 60 = some 16 := by kernel_rfl
@[simp] theorem zeroOf_60 : zeroOf Try.prog 60 = some [AV.np, AV.np] := by kernel_rfl
@[simp] theorem zsz_60 : zsz Try.prog 60 = some 2 := by kernel_rfl
@[simp] theorem zeroAV_60 : zeroAV Try.prog 60 = some (AV.agg [AV.np, AV.np]) := by kernel_rfl
@[simp] theorem fieldOff_60_0 : fieldOff Try.prog 60 0 = some 0 := by kernel_rfl
@[simp] theorem fieldOff_60_1 : fieldOff Try.prog 60 1 = some 1 := by kernel_rfl
@[simp] theorem underlying_61 : Program.underlying Try.prog 61 = some (TypeDesc.func { toList := [] } { toList := [25] } false) := by kernel_rfl
@[simp] theorem szOf_61 : szOf Try.prog 61 = some 1 := by kernel_rfl
@[simp] theorem byOf_61 : byOf Try.prog 61 = some 8 := by kernel_rfl
@[simp] theorem zeroOf_61 : zeroOf Try.prog 61 = some [AV.nfn] := by kernel_rfl
@[simp] theorem zsz_61 : zsz Try.prog 61 = some 1 := by kernel_rfl
@[simp] theorem zeroAV_61 : zeroAV Try.prog 61 = some AV.nfn := by kernel_rfl
@[simp] theorem underlying_62 : Program.underlying Try.prog 62 = some (TypeDesc.func { toList := [] } { toList := [58] } false) := by kernel_rfl
@[simp] theorem szOf_62 : szOf Try.prog 62 = some 1 := by kernel_rfl
@[simp] theorem byOf_62 : byOf Try.prog 62 = some 8 := by kernel_rfl
@[simp] theorem zeroOf_62 : zeroOf Try.prog 62 = some [AV.nfn] := by kernel_rfl
@[simp] theorem zsz_62 : zsz Try.prog 62 = some 1 := by kernel_rfl
@[simp] theorem zeroAV_62 : zeroAV Try.prog 62 = some AV.nfn := by kernel_rfl
@[simp] theorem underlying_63 : Program.underlying Try.prog 63 = some (TypeDesc.func { toList := [57] } { toList := [4] } false) := by kernel_rfl
@[simp] theorem szOf_63 : szOf Try.prog 63 = some 1 := by kernel_rfl
@[simp] theorem byOf_63 : byOf Try.prog 63 = some 8 := by kernel_rfl
@[simp] theorem zeroOf_63 : zeroOf Try.prog 63 = some [AV.nfn] := by kernel_rfl
@[simp] theorem zsz_63 : zsz Try.prog 63 = some 1 := by kernel_rfl
@[simp] theorem zeroAV_63 : zeroAV Try.prog 63 = some AV.nfn := by kernel_rfl
@[simp] theorem underlying_64 : Program.underlying Try.prog 64 = some (TypeDesc.func { toList := [3, 37] } { toList := [4] } false) := by kernel_rfl
@[simp] theorem szOf_64 : szOf Try.prog 64 = some 1 := by kernel_rfl
@[simp] theorem byOf_64 : byOf Try.prog 64 = some 8 := by kernel_rfl
@[simp] theorem zeroOf_64 : zeroOf Try.prog 64 = some [AV.nfn] := by kernel_rfl
@[simp] theorem zsz_64 : zsz Try.prog 64 = some 1 := by kernel_rfl
@[simp] theorem zeroAV_64 : zeroAV Try.prog 64 = some AV.nfn := by kernel_rfl
@[simp] theorem underlying_65 : Program.underlying Try.prog 65 = some (TypeDesc.func { toList := [3, 37, 37, 23, 3] } { toList := [4] } false) := by kernel_rfl
@[simp] theorem szOf_65 : szOf Try.prog 65 = some 1 := by kernel_rfl
@[simp] theorem byOf_65 : byOf Try.prog 65 = some 8 := by kernel_rfl
@[simp] theorem zeroOf_65 : zeroOf Try.prog 65 = some [AV.nfn] := by kernel_rfl
@[simp] theorem zsz_65 : zsz Try.prog 65 = some 1 := by kernel_rfl
@[simp] theorem zeroAV_65 : zeroAV Try.prog 65 = some AV.nfn := by kernel_rfl
@[simp] theorem underlying_66 : Program.underlying Try.prog 66 = some (TypeDesc.map 9 71) := by kernel_rfl
@[simp] theorem szOf_66 : szOf Try.prog 66 = some 1 := by kernel_rfl
@[simp] theorem byOf_66 : byOf Try.prog 66 = some 8 := by kernel_rfl
@[simp] theorem zeroOf_66 : zeroOf Try.prog 66 = some [AV.mp none] := by kernel_rfl
@[simp] theorem zsz_66 : zsz Try.prog 66 = some 1 := by kernel_rfl
@[simp] theorem zeroAV_66 : zeroAV Try.prog 66 = some (AV.mp none) := by kernel_rfl
@[simp] theorem underlying_67 : Program.underlying Try.prog 67 = some (TypeDesc.slice 66) := by kernel_rfl
@[simp] theorem szOf_67 : szOf Try.prog 67 = some 1 := by kernel_rfl
@[simp] theorem byOf_67 : byOf Try.prog 67 = some 24 := by kernel_rfl
@[simp] theorem zeroOf_67 : zeroOf Try.prog 67 = some [AV.vs true 0 []] := by kernel_rfl
@[simp] theorem zsz_67 : zsz Try.prog 67 = some 1 := by kernel_rfl
@[simp] theorem elemOf_67 : elemOf Try.prog 67 = some 66 := by kernel_rfl
@[simp] theorem zeroAV_67 : zeroAV Try.prog 67 = some (AV.vs true 0 []) := by kernel_rfl
@[simp] theorem underlying_68 : Program.underlying Try.prog 68 = some (TypeDesc.struct { toList := [{ name := "quota", type := 3, offset := 0, embedded := false, tag := "", pkgPath := "lockstep/simfs", byteOffset := 0 }, { name := "names", type := 66, offset := 1, embedded := false, tag := "", pkgPath := "lockstep/simfs", byteOffset := 8 }, { name := "was", type := 67, offset := 2, embedded := false, tag := "", pkgPath := "lockstep/simfs", byteOffset := 16 }, { name := "stop", type := 3, offset := 3, embedded := false, tag := "", pkgPath := "lockstep/simfs", byteOffset := 40 }] }) := by kernel_rfl
@[simp] theorem szOf_68 : szOf Try.prog 68 = some 4 := by kernel_rfl
@[simp] theorem byOf_68 : byOf Try.prog 68 = some 48 := by kernel_rfl
@[simp] theorem zeroOf_68 : zeroOf Try.prog 68 = some [AV.i IntKind.i64 (0), AV.mp none, AV.vs true 0 [], AV.i IntKind.i64 (0)] := by kernel_rfl
@[simp] theorem zsz_68 : zsz Try.prog 68 = some 4 := by kernel_rfl
@[simp] theorem zeroAV_68 : zeroAV Try.prog 68 = some (AV.agg [AV.i IntKind.i64 (0), AV.mp none, AV.vs true 0 [], AV.i IntKind.i64 (0)]) := by kernel_rfl
@[simp] theorem fieldOff_68_0 : fieldOff Try.prog 68 0 = some 0 := by kernel_rfl
@[simp] theorem fieldOff_68_1 : fieldOff Try.prog 68 1 = some 1 := by kernel_rfl
@[simp] theorem fieldOff_68_2 : fieldOff Try.prog 68 2 = some 2 := by kernel_rfl
@[simp] theorem fieldOff_68_3 : fieldOff Try.prog 68 3 = some 3 := by kernel_rfl
@[simp] theorem underlying_69 : Program.underlying Try.prog 69 = some (TypeDesc.struct { toList := [{ name := "quota", type := 3, offset := 0, embedded := false, tag := "", pkgPath := "lockstep/simfs", byteOffset := 0 }, { name := "names", type := 66, offset := 1, embedded := false, tag := "", pkgPath := "lockstep/simfs", byteOffset := 8 }, { name := "was", type := 67, offset := 2, embedded := false, tag := "", pkgPath := "lockstep/simfs", byteOffset := 16 }, { name := "stop", type := 3, offset := 3, embedded := false, tag := "", pkgPath := "lockstep/simfs", byteOffset := 40 }] }) := by kernel_rfl
@[simp] theorem szOf_69 : szOf Try.prog 69 = some 4 := by kernel_rfl
@[simp] theorem byOf_69 : byOf Try.prog 69 = some 48 := by kernel_rfl
@[simp] theorem zeroOf_69 : zeroOf Try.prog 69 = some [AV.i IntKind.i64 (0), AV.mp none, AV.vs true 0 [], AV.i IntKind.i64 (0)] := by kernel_rfl
@[simp] theorem zsz_69 : zsz Try.prog 69 = some 4 := by kernel_rfl
@[simp] theorem zeroAV_69 : zeroAV Try.prog 69 = some (AV.agg [AV.i IntKind.i64 (0), AV.mp none, AV.vs true 0 [], AV.i IntKind.i64 (0)]) := by kernel_rfl
@[simp] theorem fieldOff_69_0 : fieldOff Try.prog 69 0 = some 0 := by kernel_rfl
@[simp] theorem fieldOff_69_1 : fieldOff Try.prog 69 1 = some 1 := by kernel_rfl
@[simp] theorem fieldOff_69_2 : fieldOff Try.prog 69 2 = some 2 := by kernel_rfl
@[simp] theorem fieldOff_69_3 : fieldOff Try.prog 69 3 = some 3 := by kernel_rfl
@[simp] theorem underlying_70 : Program.underlying Try.prog 70 = some (TypeDesc.func { toList := [9] } { toList := [4] } false) := by kernel_rfl
@[simp] theorem szOf_70 : szOf Try.prog 70 = some 1 := by kernel_rfl
@[simp] theorem byOf_70 : byOf Try.prog 70 = some 8 := by kernel_rfl
@[simp] theorem zeroOf_70 : zeroOf Try.prog 70 = some [AV.nfn] := by kernel_rfl
@[simp] theorem zsz_70 : zsz Try.prog 70 = some 1 := by kernel_rfl
@[simp] theorem zeroAV_70 : zeroAV Try.prog 70 = some AV.nfn := by kernel_rfl
@[simp] theorem underlying_71 : Program.underlying Try.prog 71 = some (TypeDesc.pointer 76) := by kernel_rfl
@[simp] theorem szOf_71 : szOf Try.prog 71 = some 1 := by kernel_rfl
@[simp] theorem byOf_71 : byOf Try.prog 71 = some 8 := by kernel_rfl
@[simp] theorem zeroOf_71 : zeroOf Try.prog 71 = some [AV.np] := by kernel_rfl
@[simp] theorem zsz_71 : zsz Try.prog 71 = some 1 := by kernel_rfl
@[simp] theorem zeroAV_71 : zeroAV Try.prog 71 = some AV.np := by kernel_rfl
@[simp] theorem underlying_72 : Program.underlying Try.prog 72 = some (TypeDesc.tuple { toList := [71, 4] }) := by kernel_rfl
@[simp] theorem szOf_72 : szOf Try.prog 72 = some 1 := by kernel_rfl
@[simp] theorem byOf_72 : byOf Try.prog 72 = some 0 := by kernel_rfl
@[simp] theorem zeroOf_72 : zeroOf Try.prog 72 = some [AV.undef] := by kernel_rfl
@[simp] theorem zsz_72 : zsz Try.prog 72 = some 1 := by kernel_rfl
@[simp] theorem zeroAV_72 : zeroAV Try.prog 72 = some AV.undef := by kernel_rfl
@[simp] theorem underlying_73 : Program.underlying Try.prog 73 = some (TypeDesc.tuple { toList := [4, 4] }) := by kernel_rfl
@[simp] theorem szOf_73 : szOf Try.prog 73 = some 1 := by kernel_rfl
@[simp] theorem byOf_73 : byOf Try.prog 73 = some 0 := by kernel_rfl
@[simp] theorem zeroOf_73 : zeroOf Try.prog 73 = some [AV.undef] := by kernel_rfl
@[simp] theorem zsz_73 : zsz Try.prog 73 = some 1 := by kernel_rfl
@[simp] theorem zeroAV_73 : zeroAV Try.prog 73 = some AV.undef := by kernel_rfl
@[simp] theorem underlying_74 : Program.underlying Try.prog 74 = some (TypeDesc.func { toList := [] } { toList := [4, 4] } false) := by kernel_rfl
@[simp] theorem szOf_74 : szOf Try.prog 74 = some 1 := by kernel_rfl
@[simp] theorem byOf_74 : byOf Try.prog 74 = some 8 := by kernel_rfl
@[simp] theorem zeroOf_74 : zeroOf Try.prog 74 = some [AV.nfn] := by kernel_rfl
@[simp] theorem zsz_74 : zsz Try.prog 74 = some 1 := by kernel_rfl
@[simp] theorem zeroAV_74 : zeroAV Try.prog 74 = some AV.nfn := by kernel_rfl
@[simp] theorem underlying_75 : Program.underlying Try.prog 75 = some (TypeDesc.struct { toList := [{ name := "b", type := 22, offset := 0, embedded := false, tag := "", pkgPath := "lockstep/simfs", byteOffset := 0 }, { name := "fast", type := 3, offset := 1, embedded := false, tag := "", pkgPath := "lockstep/simfs", byteOffset := 24 }] }) := by kernel_rfl
@[simp] theorem szOf_75 : szOf Try.prog 75 = some 2 := by kernel_rfl
@[simp] theorem byOf_75 : byOf Try.prog 75 = some 32 := by kernel_rfl
@[simp] theorem zeroOf_75 : zeroOf Try.prog 75 = some [AV.vs true 0 [], AV.i IntKind.i64 (0)] := by kernel_rfl
@[simp] theorem zsz_75 : zsz Try.prog 75 = some 2 := by kernel_rfl
@[simp] theorem zeroAV_75 : zeroAV Try.prog 75 = some (AV.agg [AV.vs true 0 [], AV.i IntKind.i64 (0)]) := by kernel_rfl
@[simp] theorem fieldOff_75_0 : fieldOff Try.prog 75 0 = some 0 := by kernel_rfl
@[simp] theorem fieldOff_75_1 : fieldOff Try.prog 75 1 = some 1 := by kernel_rfl
@[simp] theorem underlying_76 : Program.underlying Try.prog 76 = some (TypeDesc.struct { toList := [{ name := "b", type := 22, offset := 0, embedded := false, tag := "", pkgPath := "lockstep/simfs", byteOffset := 0 }, { name := "fast", type := 3, offset := 1, embedded := false, tag := "", pkgPath := "lockstep/simfs", byteOffset := 24 }] }) := by kernel_rfl
@[simp] theorem szOf_76 : szOf Try.prog 76 = some 2 := by kernel_rfl
@[simp] theorem byOf_76 : byOf Try.prog 76 = some 32 := by kernel_rfl
@[simp] theorem zeroOf_76 : zeroOf Try.prog 76 = some [AV.vs true 0 [], AV.i IntKind.i64 (0)] := by kernel_rfl
@[simp] theorem zsz_76 : zsz Try.prog 76 = some 2 := by kernel_rfl
@[simp] theorem zeroAV_76 : zeroAV Try.prog 76 = some (AV.agg [AV.vs true 0 [], AV.i IntKind.i64 (0)]) := by kernel_rfl
@[simp] theorem fieldOff_76_0 : fieldOff Try.prog 76 0 = some 0 := by kernel_rfl
@[simp] theorem fieldOff_76_1 : fieldOff Try.prog 76 1 = some 1 := by kernel_rfl
@[simp] theorem underlying_77 : Program.underlying Try.prog 77 = some (TypeDesc.tuple { toList := [71, 26] }) := by kernel_rfl
@[simp] theorem szOf_77 : szOf Try.prog 77 = some 1 := by kernel_rfl
@[simp] theorem byOf_77 : byOf Try.prog 77 = some 0 := by kernel_rfl
@[simp] theorem zeroOf_77 : zeroOf Try.prog 77 = some [AV.undef] := by kernel_rfl
@[simp] theorem zsz_77 : zsz Try.prog 77 = some 1 := by kernel_rfl
@[simp] theorem zeroAV_77 : zeroAV Try.prog 77 = some AV.undef := by kernel_rfl
@[simp] theorem underlying_78 : Program.underlying Try.prog 78 = some (TypeDesc.func { toList := [9] } { toList := [71, 26] } false) := by kernel_rfl
@[simp] theorem szOf_78 : szOf Try.prog 78 = some 1 := by kernel_rfl
@[simp] theorem byOf_78 : byOf Try.prog 78 = some 8 := by kernel_rfl
@[simp] theorem zeroOf_78 : zeroOf Try.prog 78 = some [AV.nfn] := by kernel_rfl
@[simp] theorem zsz_78 : zsz Try.prog 78 = some 1 := by kernel_rfl
@[simp] theorem zeroAV_78 : zeroAV Try.prog 78 = some AV.nfn := by kernel_rfl
@[simp] theorem underlying_79 : Program.underlying Try.prog 79 = some (TypeDesc.func { toList := [22] } { toList := [22] } false) := by kernel_rfl
@[simp] theorem szOf_79 : szOf Try.prog 79 = some 1 := by kernel_rfl
@[simp] theorem byOf_79 : byOf Try.prog 79 = some 8 := by kernel_rfl
@[simp] theorem zeroOf_79 : zeroOf Try.prog 79 = some [AV.nfn] := by kernel_rfl
@[simp] theorem zsz_79 : zsz Try.prog 79 = some 1 := by kernel_rfl
@[simp] theorem zeroAV_79 : zeroAV Try.prog 79 = some AV.nfn := by kernel_rfl
@[simp] theorem underlying_80 : Program.underlying Try.prog 80 = some (TypeDesc.tuple { toList := [58, 26] }) := by kernel_rfl
@[simp] theorem szOf_80 : szOf Try.prog 80 = some 1 := by kernel_rfl
@[simp] theorem byOf_80 : byOf Try.prog 80 = some 0 := by kernel_rfl
@[simp] theorem zeroOf_80 : zeroOf Try.prog 80 = some [AV.undef] := by kernel_rfl
@[simp] theorem zsz_80 : zsz Try.prog 80 = some 1 := by kernel_rfl
@[simp] theorem zeroAV_80 : zeroAV Try.prog 80 = some AV.undef := by kernel_rfl
@[simp] theorem underlying_81 : Program.underlying Try.prog 81 = some (TypeDesc.func { toList := [3] } { toList := [58, 26] } false) := by kernel_rfl
@[simp] theorem szOf_81 : szOf Try.prog 81 = some 1 := by kernel_rfl
@[simp] theorem byOf_81 : byOf Try.prog 81 = some 8 := by kernel_rfl
@[simp] theorem zeroOf_81 : zeroOf Try.prog 81 = some [AV.nfn] := by kernel_rfl
@[simp] theorem zsz_81 : zsz Try.prog 81 = some 1 := by kernel_rfl
@[simp] theorem zeroAV_81 : zeroAV Try.prog 81 = some AV.nfn := by kernel_rfl
@[simp] theorem underlying_82 : Program.underlying Try.prog 82 = some (TypeDesc.map 71 71) := by kernel_rfl
@[simp] theorem szOf_82 : szOf Try.prog 82 = some 1 := by kernel_rfl
@[simp] theorem byOf_82 : byOf Try.prog 82 = some 8 := by kernel_rfl
@[simp] theorem zeroOf_82 : zeroOf Try.prog 82 = some [AV.mp none] := by kernel_rfl
@[simp] theorem zsz_82 : zsz Try.prog 82 = some 1 := by kernel_rfl
@[simp] theorem zeroAV_82 : zeroAV Try.prog 82 = some (AV.mp none) := by kernel_rfl
@[simp] theorem underlying_83 : Program.underlying Try.prog 83 = some (TypeDesc.func { toList := [66] } { toList := [66] } false) := by kernel_rfl
@[simp] theorem szOf_83 : szOf Try.prog 83 = some 1 := by kernel_rfl
@[simp] theorem byOf_83 : byOf Try.prog 83 = some 8 := by kernel_rfl
@[simp] theorem zeroOf_83 : zeroOf Try.prog 83 = some [AV.nfn] := by kernel_rfl
@[simp] theorem zsz_83 : zsz Try.prog 83 = some 1 := by kernel_rfl
@[simp] theorem zeroAV_83 : zeroAV Try.prog 83 = some AV.nfn := by kernel_rfl
@[simp] theorem underlying_84 : Program.underlying Try.prog 84 = some (TypeDesc.slice 96) := by kernel_rfl
@[simp] theorem szOf_84 : szOf Try.prog 84 = some 1 := by kernel_rfl
@[simp] theorem byOf_84 : byOf Try.prog 84 = some 24 := by kernel_rfl
@[simp] theorem zeroOf_84 : zeroOf Try.prog 84 = some [AV.vs true 0 []] := by kernel_rfl
@[simp] theorem zsz_84 : zsz Try.prog 84 = some 1 := by kernel_rfl
@[simp] theorem elemOf_84 : elemOf Try.prog 84 = some 96 := by kernel_rfl
@[simp] theorem zeroAV_84 : zeroAV Try.prog 84 = some (AV.vs true 0 []) := by kernel_rfl
@[simp] theorem underlying_85 : Program.underlying Try.prog 85 = some (TypeDesc.slice 93) := by kernel_rfl
@[simp] theorem szOf_85 : szOf Try.prog 85 = some 1 := by kernel_rfl
@[simp] theorem byOf_85 : byOf Try.prog 85 = some 24 := by kernel_rfl
@[simp] theorem zeroOf_85 : zeroOf Try.prog 85 = some [AV.vs true 0 []] := by kernel_rfl
@[simp] theorem zsz_85 : zsz Try.prog 85 = some 1 := by kernel_rfl
@[simp] theorem elemOf_85 : elemOf Try.prog 85 = some 93 := by kernel_rfl
@[simp] theorem zeroAV_85 : zeroAV Try.prog 85 = some (AV.vs true 0 []) := by kernel_rfl
@[simp] theorem underlying_86 : Program.underlying Try.prog 86 = some (TypeDesc.struct { toList := [{ name := "Quota", type := 3, offset := 0, embedded := false, tag := "", pkgPath := "", byteOffset := 0 }, { name := "Files", type := 84, offset := 1, embedded := false, tag := "", pkgPath := "", byteOffset := 8 }, { name := "Ways", type := 85, offset := 2, embedded := false, tag := "", pkgPath := "", byteOffset := 32 }, { name := "Left", type := 3, offset := 3, embedded := false, tag := "", pkgPath := "", byteOffset := 56 }, { name := "Dead", type := 4, offset := 4, embedded := false, tag := "", pkgPath := "", byteOffset := 64 }] }) := by kernel_rfl
@[simp] theorem szOf_86 : szOf Try.prog 86 = some 5 := by kernel_rfl
@[simp] theorem byOf_86 : byOf Try.prog 86 = some 72 := by kernel_rfl
@[simp] theorem zeroOf_86 : zeroOf Try.prog 86 = some [AV.i IntKind.i64 (0), AV.vs true 0 [], AV.vs true 0 [], AV.i IntKind.i64 (0), AV.b false] := by kernel_rfl
@[simp] theorem zsz_86 : zsz Try.prog 86 = some 5 := by kernel_rfl
@[simp] theorem zeroAV_86 : zeroAV Try.prog 86 = some (AV.agg [AV.i IntKind.i64 (0), AV.vs true 0 [], AV.vs true 0 [], AV.i IntKind.i64 (0), AV.b false]) := by kernel_rfl
@[simp] theorem fieldOff_86_0 : fieldOff Try.prog 86 0 = some 0 := by kernel_rfl
@[simp] theorem fieldOff_86_1 : fieldOff Try.prog 86 1 = some 1 := by kernel_rfl
@[simp] theorem fieldOff_86_2 : fieldOff Try.prog 86 2 = some 2 := by kernel_rfl
@[simp] theorem fieldOff_86_3 : fieldOff Try.prog 86 3 = some 3 := by kernel_rfl
@[simp] theorem fieldOff_86_4 : fieldOff Try.prog 86 4 = some 4 := by kernel_rfl
@[simp] theorem underlying_87 : Program.underlying Try.prog 87 = some (TypeDesc.struct { toList := [{ name := "Quota", type := 3, offset := 0, embedded := false, tag := "", pkgPath := "", byteOffset := 0 }, { name := "Files", type := 84, offset := 1, embedded := false, tag := "", pkgPath := "", byteOffset := 8 }, { name := "Ways", type := 85, offset := 2, embedded := false, tag := "", pkgPath := "", byteOffset := 32 }, { name := "Left", type := 3, offset := 3, embedded := false, tag := "", pkgPath := "", byteOffset := 56 }, { name := "Dead", type := 4, offset := 4, embedded := false, tag := "", pkgPath := "", byteOffset := 64 }] }) := by kernel_rfl
@[simp] theorem szOf_87 : szOf Try.prog 87 = some 5 := by kernel_rfl
@[simp] theorem byOf_87 : byOf Try.prog 87 = some 72 := by kernel_rfl
@[simp] theorem zeroOf_87 : zeroOf Try.prog 87 = some [AV.i IntKind.i64 (0), AV.vs true 0 [], AV.vs true 0 [], AV.i IntKind.i64 (0), AV.b false] := by kernel_rfl
@[simp] theorem zsz_87 : zsz Try.prog 87 = some 5 := by kernel_rfl
@[simp] theorem zeroAV_87 : zeroAV Try.prog 87 = some (AV.agg [AV.i IntKind.i64 (0), AV.vs true 0 [], AV.vs true 0 [], AV.i IntKind.i64 (0), AV.b false]) := by kernel_rfl
@[simp] theorem fieldOff_87_0 : fieldOff Try.prog 87 0 = some 0 := by kernel_rfl
@[simp] theorem fieldOff_87_1 : fieldOff Try.prog 87 1 = some 1 := by kernel_rfl
@[simp] theorem fieldOff_87_2 : fieldOff Try.prog 87 2 = some 2 := by kernel_rfl
@[simp] theorem fieldOff_87_3 : fieldOff Try.prog 87 3 = some 3 := by kernel_rfl
@[simp] theorem fieldOff_87_4 : fieldOff Try.prog 87 4 = some 4 := by kernel_rfl
@[simp] theorem underlying_88 : Program.underlying Try.prog 88 = some (TypeDesc.func { toList := [22] } { toList := [] } false) := by kernel_rfl
@[simp] theorem szOf_88 : szOf Try.prog 88 = some 1 := by kernel_rfl
@[simp] theorem byOf_88 : byOf Try.prog 88 = some 8 := by kernel_rfl
@[simp] theorem zeroOf_88 : zeroOf Try.prog 88 = some [AV.nfn] := by kernel_rfl
@[simp] theorem zsz_88 : zsz Try.prog 88 = some 1 := by kernel_rfl
@[simp] theorem zeroAV_88 : zeroAV Try.prog 88 = some AV.nfn := by kernel_rfl
@[simp] theorem underlying_89 : Program.underlying Try.prog 89 = some (TypeDesc.func { toList := [9, 3] } { toList := [26] } false) := by kernel_rfl
@[simp] theorem szOf_89 : szOf Try.prog 89 = some 1 := by kernel_rfl
@[simp] theorem byOf_89 : byOf Try.prog 89 = some 8 := by kernel_rfl
@[simp] theorem zeroOf_89 : zeroOf Try.prog 89 = some [AV.nfn] := by kernel_rfl
@[simp] theorem zsz_89 : zsz Try.prog 89 = some 1 := by kernel_rfl
@[simp] theorem zeroAV_89 : zeroAV Try.prog 89 = some AV.nfn := by kernel_rfl
@[simp] theorem underlying_90 : Program.underlying Try.prog 90 = some (TypeDesc.tuple { toList := [3, 26] }) := by kernel_rfl
@[simp] theorem szOf_90 : szOf Try.prog 90 = some 1 := by kernel_rfl
@[simp] theorem byOf_90 : byOf Try.prog 90 = some 0 := by kernel_rfl
@[simp] theorem zeroOf_90 : zeroOf Try.prog 90 = some [AV.undef] := by kernel_rfl
@[simp] theorem zsz_90 : zsz Try.prog 90 = some 1 := by kernel_rfl
@[simp] theorem zeroAV_90 : zeroAV Try.prog 90 = some AV.undef := by kernel_rfl
@[simp] theorem underlying_91 : Program.underlying Try.prog 91 = some (TypeDesc.func { toList := [9] } { toList := [3, 26] } false) := by kernel_rfl
@[simp] theorem szOf_91 : szOf Try.prog 91 = some 1 := by kernel_rfl
@[simp] theorem byOf_91 : byOf Try.prog 91 = some 8 := by kernel_rfl
@[simp] theorem zeroOf_91 : zeroOf Try.prog 91 = some [AV.nfn] := by kernel_rfl
@[simp] theorem zsz_91 : zsz Try.prog 91 = some 1 := by kernel_rfl
@[simp] theorem zeroAV_91 : zeroAV Try.prog 91 = some AV.nfn := by kernel_rfl
@[simp] theorem underlying_92 : Program.underlying Try.prog 92 = some (TypeDesc.struct { toList := [{ name := "Name", type := 49, offset := 0, embedded := false, tag := "", pkgPath := "", byteOffset := 0 }, { name := "File", type := 23, offset := 1, embedded := false, tag := "", pkgPath := "", byteOffset := 24 }] }) := by kernel_rfl
@[simp] theorem szOf_92 : szOf Try.prog 92 = some 2 := by kernel_rfl
@[simp] theorem byOf_92 : byOf Try.prog 92 = some 48 := by kernel_rfl
@[simp] theorem zeroOf_92 : zeroOf Try.prog 92 = some [AV.vs true 0 [], AV.vs true 0 []] := by kernel_rfl
@[simp] theorem zsz_92 : zsz Try.prog 92 = some 2 := by kernel_rfl
@[simp] theorem zeroAV_92 : zeroAV Try.prog 92 = some (AV.agg [AV.vs true 0 [], AV.vs true 0 []]) := by kernel_rfl
@[simp] theorem fieldOff_92_0 : fieldOff Try.prog 92 0 = some 0 := by kernel_rfl
@[simp] theorem fieldOff_92_1 : fieldOff Try.prog 92 1 = some 1 := by kernel_rfl
@[simp] theorem underlying_93 : Program.underlying Try.prog 93 = some (TypeDesc.struct { toList := [{ name := "Name", type := 49, offset := 0, embedded := false, tag := "", pkgPath := "", byteOffset := 0 }, { name := "File", type := 23, offset := 1, embedded := false, tag := "", pkgPath := "", byteOffset := 24 }] }) := by kernel_rfl
@[simp] theorem szOf_93 : szOf Try.prog 93 = some 2 := by kernel_rfl
@[simp] theorem byOf_93 : byOf Try.prog 93 = some 48 := by kernel_rfl
@[simp] theorem zeroOf_93 : zeroOf Try.prog 93 = some [AV.vs true 0 [], AV.vs true 0 []] := by kernel_rfl
@[simp] theorem zsz_93 : zsz Try.prog 93 = some 2 := by kernel_rfl
@[simp] theorem zeroAV_93 : zeroAV Try.prog 93 = some (AV.agg [AV.vs true 0 [], AV.vs true 0 []]) := by kernel_rfl
@[simp] theorem fieldOff_93_0 : fieldOff Try.prog 93 0 = some 0 := by kernel_rfl
@[simp] theorem fieldOff_93_1 : fieldOff Try.prog 93 1 = some 1 := by kernel_rfl
@[simp] theorem underlying_94 : Program.underlying Try.prog 94 = some (TypeDesc.func { toList := [3, 3] } { toList := [3] } false) := by kernel_rfl
@[simp] theorem szOf_94 : szOf Try.prog 94 = some 1 := by kernel_rfl
@[simp] theorem byOf_94 : byOf Try.prog 94 = some 8 := by kernel_rfl
@[simp] theorem zeroOf_94 : zeroOf Try.prog 94 = some [AV.nfn] := by kernel_rfl
@[simp] theorem zsz_94 : zsz Try.prog 94 = some 1 := by kernel_rfl
@[simp] theorem zeroAV_94 : zeroAV Try.prog 94 = some AV.nfn := by kernel_rfl
@[simp] theorem underlying_95 : Program.underlying Try.prog 95 = some (TypeDesc.struct { toList := [{ name := "B", type := 22, offset := 0, embedded := false, tag := "", pkgPath := "", byteOffset := 0 }, { name := "Fast", type := 3, offset := 1, embedded := false, tag := "", pkgPath := "", byteOffset := 24 }] }) := by kernel_rfl
@[simp] theorem szOf_95 : szOf Try.prog 95 = some 2 := by kernel_rfl
@[simp] theorem byOf_95 : byOf Try.prog 95 = some 32 := by kernel_rfl
@[simp] theorem zeroOf_95 : zeroOf Try.prog 95 = some [AV.vs true 0 [], AV.i IntKind.i64 (0)] := by kernel_rfl
@[simp] theorem zsz_95 : zsz Try.prog 95 = some 2 := by kernel_rfl
@[simp] theorem zeroAV_95 : zeroAV Try.prog 95 = some (AV.agg [AV.vs true 0 [], AV.i IntKind.i64 (0)]) := by kernel_rfl
@[simp] theorem fieldOff_95_0 : fieldOff Try.prog 95 0 = some 0 := by kernel_rfl
@[simp] theorem fieldOff_95_1 : fieldOff Try.prog 95 1 = some 1 := by kernel_rfl
@[simp] theorem underlying_96 : Program.underlying Try.prog 96 = some (TypeDesc.struct { toList := [{ name := "B", type := 22, offset := 0, embedded := false, tag := "", pkgPath := "", byteOffset := 0 }, { name := "Fast", type := 3, offset := 1, embedded := false, tag := "", pkgPath := "", byteOffset := 24 }] }) := by kernel_rfl
@[simp] theorem szOf_96 : szOf Try.prog 96 = some 2 := by kernel_rfl
@[simp] theorem byOf_96 : byOf Try.prog 96 = some 32 := by kernel_rfl
@[simp] theorem zeroOf_96 : zeroOf Try.prog 96 = some [AV.vs true 0 [], AV.i IntKind.i64 (0)] := by kernel_rfl
@[simp] theorem zsz_96 : zsz Try.prog 96 = some 2 := by kernel_rfl
@[simp] theorem zeroAV_96 : zeroAV Try.prog 96 = some (AV.agg [AV.vs true 0 [], AV.i IntKind.i64 (0)]) := by kernel_rfl
@[simp] theorem fieldOff_96_0 : fieldOff Try.prog 96 0 = some 0 := by kernel_rfl
@[simp] theorem fieldOff_96_1 : fieldOff Try.prog 96 1 = some 1 := by kernel_rfl
@[simp] theorem underlying_97 : Program.underlying Try.prog 97 = some (TypeDesc.func { toList := [3, 96] } { toList := [] } false) := by kernel_rfl
@[simp] theorem szOf_97 : szOf Try.prog 97 = some 1 := by kernel_rfl
@[simp] theorem byOf_97 : byOf Try.prog 97 = some 8 := by kernel_rfl
@[simp] theorem zeroOf_97 : zeroOf Try.prog 97 = some [AV.nfn] := by kernel_rfl
@[simp] theorem zsz_97 : zsz Try.prog 97 = some 1 := by kernel_rfl
@[simp] theorem zeroAV_97 : zeroAV Try.prog 97 = some AV.nfn := by kernel_rfl
@[simp] theorem underlying_98 : Program.underlying Try.prog 98 = some (TypeDesc.func { toList := [100] } { toList := [49] } false) := by kernel_rfl
@[simp] theorem szOf_98 : szOf Try.prog 98 = some 1 := by kernel_rfl
@[simp] theorem byOf_98 : byOf Try.prog 98 = some 8 := by kernel_rfl
@[simp] theorem zeroOf_98 : zeroOf Try.prog 98 = some [AV.nfn] := by kernel_rfl
@[simp] theorem zsz_98 : zsz Try.prog 98 = some 1 := by kernel_rfl
@[simp] theorem zeroAV_98 : zeroAV Try.prog 98 = some AV.nfn := by kernel_rfl
@[simp] theorem underlying_99 : Program.underlying Try.prog 99 = some (TypeDesc.func { toList := [70] } { toList := [] } false) := by kernel_rfl
@[simp] theorem szOf_99 : szOf Try.prog 99 = some 1 := by kernel_rfl
@[simp] theorem byOf_99 : byOf Try.prog 99 = some 8 := by kernel_rfl
@[simp] theorem zeroOf_99 : zeroOf Try.prog 99 = some [AV.nfn] := by kernel_rfl
@[simp] theorem zsz_99 : zsz Try.prog 99 = some 1 := by kernel_rfl
@[simp] theorem zeroAV_99 : zeroAV Try.prog 99 = some AV.nfn := by kernel_rfl
@[simp] theorem underlying_100 : Program.underlying Try.prog 100 = some (TypeDesc.func { toList := [70] } { toList := [] } false) := by kernel_rfl
@[simp] theorem szOf_100 : szOf Try.prog 100 = some 1 := by kernel_rfl
@[simp] theorem byOf_100 : byOf Try.prog 100 = some 8 := by kernel_rfl
@[simp] theorem zeroOf_100 : zeroOf Try.prog 100 = some [AV.nfn] := by kernel_rfl
@[simp] theorem zsz_100 : zsz Try.prog 100 = some 1 := by kernel_rfl
@[simp] theorem zeroAV_100 : zeroAV Try.prog 100 = some AV.nfn := by kernel_rfl
@[simp] theorem underlying_101 : Program.underlying Try.prog 101 = some (TypeDesc.func { toList := [66] } { toList := [100] } false) := by kernel_rfl
@[simp] theorem szOf_101 : szOf Try.prog 101 = some 1 := by kernel_rfl
@[simp] theorem byOf_101 : byOf Try.prog 101 = some 8 := by kernel_rfl
@[simp] theorem zeroOf_101 : zeroOf Try.prog 101 = some [AV.nfn] := by kernel_rfl
@[simp] theorem zsz_101 : zsz Try.prog 101 = some 1 := by kernel_rfl
@[simp] theorem zeroAV_101 : zeroAV Try.prog 101 = some AV.nfn := by kernel_rfl
@[simp] theorem underlying_102 : Program.underlying Try.prog 102 = some (TypeDesc.func { toList := [] } { toList := [93] } false) := by kernel_rfl
@[simp] theorem szOf_102 : szOf Try.prog 102 = some 1 := by kernel_rfl
@[simp] theorem byOf_102 : byOf Try.prog 102 = some 8 := by kernel_rfl
@[simp] theorem zeroOf_102 : zeroOf Try.prog 102 = some [AV.nfn] := by kernel_rfl
@[simp] theorem zsz_102 : zsz Try.prog 102 = some 1 := by kernel_rfl
@[simp] theorem zeroAV_102 : zeroAV Try.prog 102 = some AV.nfn := by kernel_rfl
@[simp] theorem underlying_103 : Program.underlying Try.prog 103 = some (TypeDesc.func { toList := [9] } { toList := [3] } false) := by kernel_rfl
@[simp] theorem szOf_103 : szOf Try.prog 103 = some 1 := by kernel_rfl
@[simp] theorem byOf_103 : byOf Try.prog 103 = some 8 := by kernel_rfl
@[simp] theorem zeroOf_103 : zeroOf Try.prog 103 = some [AV.nfn] := by kernel_rfl
@[simp] theorem zsz_103 : zsz Try.prog 103 = some 1 := by kernel_rfl
@[simp] theorem zeroAV_103 : zeroAV Try.prog 103 = some AV.nfn := by kernel_rfl
@[simp] theorem underlying_104 : Program.underlying Try.prog 104 = some (TypeDesc.func { toList := [93] } { toList := [] } false) := by kernel_rfl
@[simp] theorem szOf_104 : szOf Try.prog 104 = some 1 := by kernel_rfl
@[simp] theorem byOf_104 : byOf Try.prog 104 = some 8 := by kernel_rfl
@[simp] theorem zeroOf_104 : zeroOf Try.prog 104 = some [AV.nfn] := by kernel_rfl
@[simp] theorem zsz_104 : zsz Try.prog 104 = some 1 := by kernel_rfl
@[simp] theorem zeroAV_104 : zeroAV Try.prog 104 = some AV.nfn := by kernel_rfl
@[simp] theorem underlying_105 : Program.underlying Try.prog 105 = some (TypeDesc.func { toList := [9, 3] } { toList := [93] } false) := by kernel_rfl
@[simp] theorem szOf_105 : szOf Try.prog 105 = some 1 := by kernel_rfl
@[simp] theorem byOf_105 : byOf Try.prog 105 = some 8 := by kernel_rfl
@[simp] theorem zeroOf_105 : zeroOf Try.prog 105 = some [AV.nfn] := by kernel_rfl
@[simp] theorem zsz_105 : zsz Try.prog 105 = some 1 := by kernel_rfl
@[simp] theorem zeroAV_105 : zeroAV Try.prog 105 = some AV.nfn := by kernel_rfl
@[simp] theorem underlying_106 : Program.underlying Try.prog 106 = some (TypeDesc.func { toList := [20] } { toList := [20] } false) := by kernel_rfl
@[simp] theorem szOf_106 : szOf Try.prog 106 = some 1 := by kernel_rfl
@[simp] theorem byOf_106 : byOf Try.prog 106 = some 8 := by kernel_rfl
@[simp] theorem zeroOf_106 : zeroOf Try.prog 106 = some [AV.nfn] := by kernel_rfl
@[simp] theorem zsz_106 : zsz Try.prog 106 = some 1 := by kernel_rfl
@[simp] theorem zeroAV_106 : zeroAV Try.prog 106 = some AV.nfn := by kernel_rfl
@[simp] theorem underlying_107 : Program.underlying Try.prog 107 = some (TypeDesc.func { toList := [49] } { toList := [] } false) := by kernel_rfl
@[simp] theorem szOf_107 : szOf Try.prog 107 = some 1 := by kernel_rfl
@[simp] theorem byOf_107 : byOf Try.prog 107 = some 8 := by kernel_rfl
@[simp] theorem zeroOf_107 : zeroOf Try.prog 107 = some [AV.nfn] := by kernel_rfl
@[simp] theorem zsz_107 : zsz Try.prog 107 = some 1 := by kernel_rfl
@[simp] theorem zeroAV_107 : zeroAV Try.prog 107 = some AV.nfn := by kernel_rfl
@[simp] theorem underlying_108 : Program.underlying Try.prog 108 = some (TypeDesc.func { toList := [49, 100] } { toList := [49] } false) := by kernel_rfl
@[simp] theorem szOf_108 : szOf Try.prog 108 = some 1 := by kernel_rfl
@[simp] theorem byOf_108 : byOf Try.prog 108 = some 8 := by kernel_rfl
@[simp] theorem zeroOf_108 : zeroOf Try.prog 108 = some [AV.nfn] := by kernel_rfl
@[simp] theorem zsz_108 : zsz Try.prog 108 = some 1 := by kernel_rfl
@[simp] theorem zeroAV_108 : zeroAV Try.prog 108 = some AV.nfn := by kernel_rfl
@[simp] theorem underlying_109 : Program.underlying Try.prog 109 = some (TypeDesc.func { toList := [49, 3, 3, 3] } { toList := [] } false) := by kernel_rfl
@[simp] theorem szOf_109 : szOf Try.prog 109 = some 1 := by kernel_rfl
@[simp] theorem byOf_109 : byOf Try.prog 109 = some 8 := by kernel_rfl
@[simp] theorem zeroOf_109 : zeroOf Try.prog 109 = some [AV.nfn] := by kernel_rfl
@[simp] theorem zsz_109 : zsz Try.prog 109 = some 1 := by kernel_rfl
@[simp] theorem zeroAV_109 : zeroAV Try.prog 109 = some AV.nfn := by kernel_rfl
@[simp] theorem underlying_110 : Program.underlying Try.prog 110 = some (TypeDesc.func { toList := [111] } { toList := [3] } false) := by kernel_rfl
@[simp] theorem szOf_110 : szOf Try.prog 110 = some 1 := by kernel_rfl
@[simp] theorem byOf_110 : byOf Try.prog 110 = some 8 := by kernel_rfl
@[simp] theorem zeroOf_110 : zeroOf Try.prog 110 = some [AV.nfn] := by kernel_rfl
@[simp] theorem zsz_110 : zsz Try.prog 110 = some 1 := by kernel_rfl
@[simp] theorem zeroAV_110 : zeroAV Try.prog 110 = some AV.nfn := by kernel_rfl
@[simp] theorem underlying_111 : Program.underlying Try.prog 111 = some (TypeDesc.int IntKind.u64) := by kernel_rfl
@[simp] theorem szOf_111 : szOf Try.prog 111 = some 1 := by kernel_rfl
@[simp] theorem byOf_111 : byOf Try.prog 111 = some 8 := by kernel_rfl
@[simp] theorem zeroOf_111 : zeroOf Try.prog 111 = some [AV.i IntKind.u64 (0)] := by kernel_rfl
@[simp] theorem zsz_111 : zsz Try.prog 111 = some 1 := by kernel_rfl
@[simp] theorem zeroAV_111 : zeroAV Try.prog 111 = some (AV.i IntKind.u64 (0)) := by kernel_rfl
@[simp] theorem underlying_112 : Program.underlying Try.prog 112 = some (TypeDesc.func { toList := [49, 3, 3] } { toList := [] } false) := by kernel_rfl
@[simp] theorem szOf_112 : szOf Try.prog 112 = some 1 := by kernel_rfl
@[simp] theorem byOf_112 : byOf Try.prog 112 = some 8 := by kernel_rfl
@[simp] theorem zeroOf_112 : zeroOf Try.prog 112 = some [AV.nfn] := by kernel_rfl
@[simp] theorem zsz_112 : zsz Try.prog 112 = some 1 := by kernel_rfl
@[simp] theorem zeroAV_112 : zeroAV Try.prog 112 = some AV.nfn := by kernel_rfl
@[simp] theorem underlying_113 : Program.underlying Try.prog 113 = some (TypeDesc.int IntKind.i64) := by kernel_rfl
@[simp] theorem szOf_113 : szOf Try.prog 113 = some 1 := by kernel_rfl
@[simp] theorem byOf_113 : byOf Try.prog 113 = some 8 := by kernel_rfl
@[simp] theorem zeroOf_113 : zeroOf Try.prog 113 = some [AV.i IntKind.i64 (0)] := by kernel_rfl
@[simp] theorem zsz_113 : zsz Try.prog 113 = some 1 := by kernel_rfl
@[simp] theorem zeroAV_113 : zeroAV Try.prog 113 = some (AV.i IntKind.i64 (0)) := by kernel_rfl
@[simp] theorem underlying_114 : Program.underlying Try.prog 114 = some (TypeDesc.tuple { toList := [3, 113] }) := by kernel_rfl
@[simp] theorem szOf_114 : szOf Try.prog 114 = some 1 := by kernel_rfl
@[simp] theorem byOf_114 : byOf Try.prog 114 = some 0 := by kernel_rfl
@[simp] theorem zeroOf_114 : zeroOf Try.prog 114 = some [AV.undef] := by kernel_rfl
@[simp] theorem zsz_114 : zsz Try.prog 114 = some 1 := by kernel_rfl
@[simp] theorem zeroAV_114 : zeroAV Try.prog 114 = some AV.undef := by kernel_rfl
@[simp] theorem underlying_115 : Program.underlying Try.prog 115 = some (TypeDesc.func { toList := [49, 3, 3] } { toList := [3, 113] } false) := by kernel_rfl
@[simp] theorem szOf_115 : szOf Try.prog 115 = some 1 := by kernel_rfl
@[simp] theorem byOf_115 : byOf Try.prog 115 = some 8 := by kernel_rfl
@[simp] theorem zeroOf_115 : zeroOf Try.prog 115 = some [AV.nfn] := by kernel_rfl
@[simp] theorem zsz_115 : zsz Try.prog 115 = some 1 := by kernel_rfl
@[simp] theorem zeroAV_115 : zeroAV Try.prog 115 = some AV.nfn := by kernel_rfl
@[simp] theorem underlying_116 : Program.underlying Try.prog 116 = some (TypeDesc.func { toList := [49, 3, 3] } { toList := [4] } false) := by kernel_rfl
@[simp] theorem szOf_116 : szOf Try.prog 116 = some 1 := by kernel_rfl
@[simp] theorem byOf_116 : byOf Try.prog 116 = some 8 := by kernel_rfl
@[simp] theorem zeroOf_116 : zeroOf Try.prog 116 = some [AV.nfn] := by kernel_rfl
@[simp] theorem zsz_116 : zsz Try.prog 116 = some 1 := by kernel_rfl
@[simp] theorem zeroAV_116 : zeroAV Try.prog 116 = some AV.nfn := by kernel_rfl
@[simp] theorem underlying_117 : Program.underlying Try.prog 117 = some (TypeDesc.func { toList := [9, 9] } { toList := [4] } false) := by kernel_rfl
@[simp] theorem szOf_117 : szOf Try.prog 117 = some 1 := by kernel_rfl
@[simp] theorem byOf_117 : byOf Try.prog 117 = some 8 := by kernel_rfl
@[simp] theorem zeroOf_117 : zeroOf Try.prog 117 = some [AV.nfn] := by kernel_rfl
@[simp] theorem zsz_117 : zsz Try.prog 117 = some 1 := by kernel_rfl
@[simp] theorem zeroAV_117 : zeroAV Try.prog 117 = some AV.nfn := by kernel_rfl
@[simp] theorem underlying_118 : Program.underlying Try.prog 118 = some (TypeDesc.func { toList := [49, 3, 3, 3] } { toList := [3] } false) := by kernel_rfl
@[simp] theorem szOf_118 : szOf Try.prog 118 = some 1 := by kernel_rfl
@[simp] theorem byOf_118 : byOf Try.prog 118 = some 8 := by kernel_rfl
@[simp] theorem zeroOf_118 : zeroOf Try.prog 118 = some [AV.nfn] := by kernel_rfl
@[simp] theorem zsz_118 : zsz Try.prog 118 = some 1 := by kernel_rfl
@[simp] theorem zeroAV_118 : zeroAV Try.prog 118 = some AV.nfn := by kernel_rfl
@[simp] theorem underlying_119 : Program.underlying Try.prog 119 = some (TypeDesc.tuple { toList := [3, 4] }) := by kernel_rfl
@[simp] theorem szOf_119 : szOf Try.prog 119 = some 1 := by kernel_rfl
@[simp] theorem byOf_119 : byOf Try.prog 119 = some 0 := by kernel_rfl
@[simp] theorem zeroOf_119 : zeroOf Try.prog 119 = some [AV.undef] := by kernel_rfl
@[simp] theorem zsz_119 : zsz Try.prog 119 = some 1 := by kernel_rfl
@[simp] theorem zeroAV_119 : zeroAV Try.prog 119 = some AV.undef := by kernel_rfl
@[simp] theorem underlying_120 : Program.underlying Try.prog 120 = some (TypeDesc.func { toList := [49, 3, 3, 3] } { toList := [3, 4] } false) := by kernel_rfl
@[simp] theorem szOf_120 : szOf Try.prog 120 = some 1 := by kernel_rfl
@[simp] theorem byOf_120 : byOf Try.prog 120 = some 8 := by kernel_rfl
@[simp] theorem zeroOf_120 : zeroOf Try.prog 120 = some [AV.nfn] := by kernel_rfl
@[simp] theorem zsz_120 : zsz Try.prog 120 = some 1 := by kernel_rfl
@[simp] theorem zeroAV_120 : zeroAV Try.prog 120 = some AV.nfn := by kernel_rfl
@[simp] theorem underlying_121 : Program.underlying Try.prog 121 = some (TypeDesc.func { toList := [122] } { toList := [3] } false) := by kernel_rfl
@[simp] theorem szOf_121 : szOf Try.prog 121 = some 1 := by kernel_rfl
@[simp] theorem byOf_121 : byOf Try.prog 121 = some 8 := by kernel_rfl
@[simp] theorem zeroOf_121 : zeroOf Try.prog 121 = some [AV.nfn] := by kernel_rfl
@[simp] theorem zsz_121 : zsz Try.prog 121 = some 1 := by kernel_rfl
@[simp] theorem zeroAV_121 : zeroAV Try.prog 121 = some AV.nfn := by kernel_rfl
@[simp] theorem underlying_122 : Program.underlying Try.prog 122 = some (TypeDesc.int IntKind.u32) := by kernel_rfl
@[simp] theorem szOf_122 : szOf Try.prog 122 = some 1 := by kernel_rfl
@[simp] theorem byOf_122 : byOf Try.prog 122 = some 4 := by kernel_rfl
@[simp] theorem zeroOf_122 : zeroOf Try.prog 122 = some [AV.i IntKind.u32 (0)] := by kernel_rfl
@[simp] theorem zsz_122 : zsz Try.prog 122 = some 1 := by kernel_rfl
@[simp] theorem zeroAV_122 : zeroAV Try.prog 122 = some (AV.i IntKind.u32 (0)) := by kernel_rfl
@[simp] theorem underlying_123 : Program.underlying Try.prog 123 = some (TypeDesc.func { toList := [124] } { toList := [3] } false) := by kernel_rfl
@[simp] theorem szOf_123 : szOf Try.prog 123 = some 1 := by kernel_rfl
@[simp] theorem byOf_123 : byOf Try.prog 123 = some 8 := by kernel_rfl
@[simp] theorem zeroOf_123 : zeroOf Try.prog 123 = some [AV.nfn] := by kernel_rfl
@[simp] theorem zsz_123 : zsz Try.prog 123 = some 1 := by kernel_rfl
@[simp] theorem zeroAV_123 : zeroAV Try.prog 123 = some AV.nfn := by kernel_rfl
@[simp] theorem underlying_124 : Program.underlying Try.prog 124 = some (TypeDesc.int IntKind.u64) := by kernel_rfl
@[simp] theorem szOf_124 : szOf Try.prog 124 = some 1 := by kernel_rfl
@[simp] theorem byOf_124 : byOf Try.prog 124 = some 8 := by kernel_rfl
@[simp] theorem zeroOf_124 : zeroOf Try.prog 124 = some [AV.i IntKind.u64 (0)] := by kernel_rfl
@[simp] theorem zsz_124 : zsz Try.prog 124 = some 1 := by kernel_rfl
@[simp] theorem zeroAV_124 : zeroAV Try.prog 124 = some (AV.i IntKind.u64 (0)) := by kernel_rfl
@[simp] theorem underlying_125 : Program.underlying Try.prog 125 = some (TypeDesc.int IntKind.u64) := by kernel_rfl
@[simp] theorem szOf_125 : szOf Try.prog 125 = some 1 := by kernel_rfl
@[simp] theorem byOf_125 : byOf Try.prog 125 = some 8 := by kernel_rfl
@[simp] theorem zeroOf_125 : zeroOf Try.prog 125 = some [AV.i IntKind.u64 (0)] := by kernel_rfl
@[simp] theorem zsz_125 : zsz Try.prog 125 = some 1 := by kernel_rfl
@[simp] theorem zeroAV_125 : zeroAV Try.prog 125 = some (AV.i IntKind.u64 (0)) := by kernel_rfl
@[simp] theorem underlying_126 : Program.underlying Try.prog 126 = some (TypeDesc.func { toList := [3] } { toList := [111] } false) := by kernel_rfl
@[simp] theorem szOf_126 : szOf Try.prog 126 = some 1 := by kernel_rfl
@[simp] theorem byOf_126 : byOf Try.prog 126 = some 8 := by kernel_rfl
@[simp] theorem zeroOf_126 : zeroOf Try.prog 126 = some [AV.nfn] := by kernel_rfl
@[simp] theorem zsz_126 : zsz Try.prog 126 = some 1 := by kernel_rfl
@[simp] theorem zeroAV_126 : zeroAV Try.prog 126 = some AV.nfn := by kernel_rfl
@[simp] theorem underlying_127 : Program.underlying Try.prog 127 = some (TypeDesc.func { toList := [] } { toList := [124] } false) := by kernel_rfl
@[simp] theorem szOf_127 : szOf Try.prog 127 = some 1 := by kernel_rfl
@[simp] theorem byOf_127 : byOf Try.prog 127 = some 8 := by kernel_rfl
@[simp] theorem zeroOf_127 : zeroOf Try.prog 127 = some [AV.nfn] := by kernel_rfl
@[simp] theorem zsz_127 : zsz Try.prog 127 = some 1 := by kernel_rfl
@[simp] theorem zeroAV_127 : zeroAV Try.prog 127 = some AV.nfn := by kernel_rfl
@[simp] theorem underlying_128 : Program.underlying Try.prog 128 = some (TypeDesc.func { toList := [49, 3, 129] } { toList := [3] } false) := by kernel_rfl
@[simp] theorem szOf_128 : szOf Try.prog 128 = some 1 := by kernel_rfl
@[simp] theorem byOf_128 : byOf Try.prog 128 = some 8 := by kernel_rfl
@[simp] theorem zeroOf_128 : zeroOf Try.prog 128 = some [AV.nfn] := by kernel_rfl
@[simp] theorem zsz_128 : zsz Try.prog 128 = some 1 := by kernel_rfl
@[simp] theorem zeroAV_128 : zeroAV Try.prog 128 = some AV.nfn := by kernel_rfl
@[simp] theorem underlying_129 : Program.underlying Try.prog 129 = some (TypeDesc.pointer 3) := by kernel_rfl
@[simp] theorem szOf_129 : szOf Try.prog 129 = some 1 := by kernel_rfl
@[simp] theorem byOf_129 : byOf Try.prog 129 = some 8 := by kernel_rfl
@[simp] theorem zeroOf_129 : zeroOf Try.prog 129 = some [AV.np] := by kernel_rfl
@[simp] theorem zsz_129 : zsz Try.prog 129 = some 1 := by kernel_rfl
@[simp] theorem zeroAV_129 : zeroAV Try.prog 129 = some AV.np := by kernel_rfl
@[simp] theorem underlying_130 : Program.underlying Try.prog 130 = some (TypeDesc.func { toList := [49, 3, 3, 3, 129] } { toList := [3] } false) := by kernel_rfl
@[simp] theorem szOf_130 : szOf Try.prog 130 = some 1 := by kernel_rfl
@[simp] theorem byOf_130 : byOf Try.prog 130 = some 8 := by kernel_rfl
@[simp] theorem zeroOf_130 : zeroOf Try.prog 130 = some [AV.nfn] := by kernel_rfl
@[simp] theorem zsz_130 : zsz Try.prog 130 = some 1 := by kernel_rfl
@[simp] theorem zeroAV_130 : zeroAV Try.prog 130 = some AV.nfn := by kernel_rfl
@[simp] theorem underlying_131 : Program.underlying Try.prog 131 = some (TypeDesc.pointer 125) := by kernel_rfl
@[simp] theorem szOf_131 : szOf Try.prog 131 = some 1 := by kernel_rfl
@[simp] theorem byOf_131 : byOf Try.prog 131 = some 8 := by kernel_rfl
@[simp] theorem zeroOf_131 : zeroOf Try.prog 131 = some [AV.np] := by kernel_rfl
@[simp] theorem zsz_131 : zsz Try.prog 131 = some 1 := by kernel_rfl
@[simp] theorem zeroAV_131 : zeroAV Try.prog 131 = some AV.np := by kernel_rfl
@[simp] theorem underlying_132 : Program.underlying Try.prog 132 = some (TypeDesc.tuple { toList := [3, 3] }) := by kernel_rfl
@[simp] theorem szOf_132 : szOf Try.prog 132 = some 1 := by kernel_rfl
@[simp] theorem byOf_132 : byOf Try.prog 132 = some 0 := by kernel_rfl
@[simp] theorem zeroOf_132 : zeroOf Try.prog 132 = some [AV.undef] := by kernel_rfl
@[simp] theorem zsz_132 : zsz Try.prog 132 = some 1 := by kernel_rfl
@[simp] theorem zeroAV_132 : zeroAV Try.prog 132 = some AV.undef := by kernel_rfl
@[simp] theorem underlying_133 : Program.underlying Try.prog 133 = some (TypeDesc.func { toList := [49, 3, 3, 129] } { toList := [3, 3] } false) := by kernel_rfl
@[simp] theorem szOf_133 : szOf Try.prog 133 = some 1 := by kernel_rfl
@[simp] theorem byOf_133 : byOf Try.prog 133 = some 8 := by kernel_rfl
@[simp] theorem zeroOf_133 : zeroOf Try.prog 133 = some [AV.nfn] := by kernel_rfl
@[simp] theorem zsz_133 : zsz Try.prog 133 = some 1 := by kernel_rfl
@[simp] theorem zeroAV_133 : zeroAV Try.prog 133 = some AV.nfn := by kernel_rfl
@[simp] theorem underlying_134 : Program.underlying Try.prog 134 = some (TypeDesc.func { toList := [] } { toList := [9] } false) := by kernel_rfl
@[simp] theorem szOf_134 : szOf Try.prog 134 = some 1 := by kernel_rfl
@[simp] theorem byOf_134 : byOf Try.prog 134 = some 8 := by kernel_rfl
@[simp] theorem zeroOf_134 : zeroOf Try.prog 134 = some [AV.nfn] := by kernel_rfl
@[simp] theorem zsz_134 : zsz Try.prog 134 = some 1 := by kernel_rfl
@[simp] theorem zeroAV_134 : zeroAV Try.prog 134 = some AV.nfn := by kernel_rfl
@[simp] theorem underlying_135 : Program.underlying Try.prog 135 = some (TypeDesc.struct { toList := [{ name := "_interface", type := 17, offset := 0, embedded := false, tag := "", pkgPath := "runtime", byteOffset := 0 }, { name := "concrete", type := 17, offset := 1, embedded := false, tag := "", pkgPath := "runtime", byteOffset := 8 }, { name := "asserted", type := 17, offset := 2, embedded := false, tag := "", pkgPath := "runtime", byteOffset := 16 }, { name := "missingMethod", type := 9, offset := 3, embedded := false, tag := "", pkgPath := "runtime", byteOffset := 24 }] }) := by kernel_rfl
@[simp] theorem szOf_135 : szOf Try.prog 135 = some 4 := by kernel_rfl
@[simp] theorem byOf_135 : byOf Try.prog 135 = some 40 := by kernel_rfl
@[simp] theorem zeroOf_135 : zeroOf Try.prog 135 = some [AV.np, AV.np, AV.np, AV.s { data := { toList := [] } }] := by kernel_rfl
@[simp] theorem zsz_135 : zsz Try.prog 135 = some 4 := by kernel_rfl
@[simp] theorem zeroAV_135 : zeroAV Try.prog 135 = some (AV.agg [AV.np, AV.np, AV.np, AV.s { data := { toList := [] } }]) := by kernel_rfl
@[simp] theorem fieldOff_135_0 : fieldOff Try.prog 135 0 = some 0 := by kernel_rfl
@[simp] theorem fieldOff_135_1 : fieldOff Try.prog 135 1 = some 1 := by kernel_rfl
@[simp] theorem fieldOff_135_2 : fieldOff Try.prog 135 2 = some 2 := by kernel_rfl
@[simp] theorem fieldOff_135_3 : fieldOff Try.prog 135 3 = some 3 := by kernel_rfl
@[simp] theorem underlying_136 : Program.underlying Try.prog 136 = some (TypeDesc.struct { toList := [{ name := "_interface", type := 17, offset := 0, embedded := false, tag := "", pkgPath := "runtime", byteOffset := 0 }, { name := "concrete", type := 17, offset := 1, embedded := false, tag := "", pkgPath := "runtime", byteOffset := 8 }, { name := "asserted", type := 17, offset := 2, embedded := false, tag := "", pkgPath := "runtime", byteOffset := 16 }, { name := "missingMethod", type := 9, offset := 3, embedded := false, tag := "", pkgPath := "runtime", byteOffset := 24 }] }) := by kernel_rfl
@[simp] theorem szOf_136 : szOf Try.prog 136 = some 4 := by kernel_rfl
@[simp] theorem byOf_136 : byOf Try.prog 136 = some 40 := by kernel_rfl
@[simp] theorem zeroOf_136 : zeroOf Try.prog 136 = some [AV.np, AV.np, AV.np, AV.s { data := { toList := [] } }] := by kernel_rfl
@[simp] theorem zsz_136 : zsz Try.prog 136 = some 4 := by kernel_rfl
@[simp] theorem zeroAV_136 : zeroAV Try.prog 136 = some (AV.agg [AV.np, AV.np, AV.np, AV.s { data := { toList := [] } }]) := by kernel_rfl
@[simp] theorem fieldOff_136_0 : fieldOff Try.prog 136 0 = some 0 := by kernel_rfl
@[simp] theorem fieldOff_136_1 : fieldOff Try.prog 136 1 = some 1 := by kernel_rfl
@[simp] theorem fieldOff_136_2 : fieldOff Try.prog 136 2 = some 2 := by kernel_rfl
@[simp] theorem fieldOff_136_3 : fieldOff Try.prog 136 3 = some 3 := by kernel_rfl
@[simp] theorem underlying_137 : Program.underlying Try.prog 137 = some (TypeDesc.array 0 16) := by kernel_rfl
@[simp] theorem szOf_137 : szOf Try.prog 137 = some 0 := by kernel_rfl
@[simp] theorem byOf_137 : byOf Try.prog 137 = some 0 := by kernel_rfl
@[simp] theorem zeroOf_137 : zeroOf Try.prog 137 = some [] := by kernel_rfl
@[simp] theorem zsz_137 : zsz Try.prog 137 = some 0 := by kernel_rfl
@[simp] theorem zeroAV_137 : zeroAV Try.prog 137 = some (AV.agg []) := by kernel_rfl
@[simp] theorem underlying_138 : Program.underlying Try.prog 138 = some (TypeDesc.struct { toList := [{ name := "_", type := 137, offset := 0, embedded := false, tag := "", pkgPath := "runtime", byteOffset := 0 }] }) := by kernel_rfl
@[simp] theorem szOf_138 : szOf Try.prog 138 = some 0 := by kernel_rfl
@[simp] theorem byOf_138 : byOf Try.prog 138 = some 0 := by kernel_rfl
@[simp] theorem zeroOf_138 : zeroOf Try.prog 138 = some [] := by kernel_rfl
@[simp] theorem zsz_138 : zsz Try.prog 138 = some 0 := by kernel_rfl
@[simp] theorem zeroAV_138 : zeroAV Try.prog 138 = some (AV.agg []) := by kernel_rfl
@[simp] theorem underlying_139 : Program.underlying Try.prog 139 = some (TypeDesc.struct { toList := [{ name := "_", type := 137, offset := 0, embedded := false, tag := "", pkgPath := "runtime", byteOffset := 0 }] }) := by kernel_rfl
@[simp] theorem szOf_139 : szOf Try.prog 139 = some 0 := by kernel_rfl
@[simp] theorem byOf_139 : byOf Try.prog 139 = some 0 := by kernel_rfl
@[simp] theorem zeroOf_139 : zeroOf Try.prog 139 = some [] := by kernel_rfl
@[simp] theorem zsz_139 : zsz Try.prog 139 = some 0 := by kernel_rfl
@[simp] theorem zeroAV_139 : zeroAV Try.prog 139 = some (AV.agg []) := by kernel_rfl
@[simp] theorem underlying_140 : Program.underlying Try.prog 140 = some (TypeDesc.int IntKind.u8) := by kernel_rfl
@[simp] theorem szOf_140 : szOf Try.prog 140 = some 1 := by kernel_rfl
@[simp] theorem byOf_140 : byOf Try.prog 140 = some 1 := by kernel_rfl
@[simp] theorem zeroOf_140 : zeroOf Try.prog 140 = some [AV.i IntKind.u8 (0)] := by kernel_rfl
@[simp] theorem zsz_140 : zsz Try.prog 140 = some 1 := by kernel_rfl
@[simp] theorem zeroAV_140 : zeroAV Try.prog 140 = some (AV.i IntKind.u8 (0)) := by kernel_rfl
@[simp] theorem underlying_141 : Program.underlying Try.prog 141 = some (TypeDesc.int IntKind.u8) := by kernel_rfl
@[simp] theorem szOf_141 : szOf Try.prog 141 = some 1 := by kernel_rfl
@[simp] theorem byOf_141 : byOf Try.prog 141 = some 1 := by kernel_rfl
@[simp] theorem zeroOf_141 : zeroOf Try.prog 141 = some [AV.i IntKind.u8 (0)] := by kernel_rfl
@[simp] theorem zsz_141 : zsz Try.prog 141 = some 1 := by kernel_rfl
@[simp] theorem zeroAV_141 : zeroAV Try.prog 141 = some (AV.i IntKind.u8 (0)) := by kernel_rfl
end Ab
end Go.Proofs.Ytecjchghapgdeaa
