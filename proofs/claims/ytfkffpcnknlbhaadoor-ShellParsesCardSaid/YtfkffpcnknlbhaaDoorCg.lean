/-
  DERIVED. The simp facts of the tables.
  Conditions: none of a program's.
-/
import Derived.Test.YtfkffpcnknlbhaaDoorCf
import Derived.Test.YtfkffpcnknlbhaaDoorAbG
set_option linter.all false
set_option maxHeartbeats 4000000
namespace Go.Proofs.YtfkffpcnknlbhaaDoor
namespace Ab
attribute [simp] cP
@[simp] theorem live_3 : cfg.live 3 = cfgLive3 := rfl
attribute [simp] cfgLive3
@[simp] theorem live_4 : cfg.live 4 = cfgLive4 := rfl
attribute [simp] cfgLive4
@[simp] theorem live_5 : cfg.live 5 = cfgLive5 := rfl
attribute [simp] cfgLive5
@[simp] theorem live_6 : cfg.live 6 = cfgLive6 := rfl
attribute [simp] cfgLive6
@[simp] theorem live_7 : cfg.live 7 = cfgLive7 := rfl
attribute [simp] cfgLive7
@[simp] theorem live_8 : cfg.live 8 = cfgLive8 := rfl
attribute [simp] cfgLive8
@[simp] theorem live_9 : cfg.live 9 = cfgLive9 := rfl
attribute [simp] cfgLive9
@[simp] theorem live_10 : cfg.live 10 = cfgLive10 := rfl
attribute [simp] cfgLive10
@[simp] theorem live_12 : cfg.live 12 = cfgLive12 := rfl
attribute [simp] cfgLive12
@[simp] theorem live_13 : cfg.live 13 = cfgLive13 := rfl
attribute [simp] cfgLive13
@[simp] theorem live_14 : cfg.live 14 = cfgLive14 := rfl
attribute [simp] cfgLive14
@[simp] theorem live_16 : cfg.live 16 = cfgLive16 := rfl
attribute [simp] cfgLive16
@[simp] theorem live_17 : cfg.live 17 = cfgLive17 := rfl
attribute [simp] cfgLive17
@[simp] theorem live_19 : cfg.live 19 = cfgLive19 := rfl
attribute [simp] cfgLive19
@[simp] theorem live_20 : cfg.live 20 = cfgLive20 := rfl
attribute [simp] cfgLive20
@[simp] theorem live_30 : cfg.live 30 = cfgLive30 := rfl
attribute [simp] cfgLive30
@[simp] theorem live_31 : cfg.live 31 = cfgLive31 := rfl
attribute [simp] cfgLive31
@[simp] theorem live_32 : cfg.live 32 = cfgLive32 := rfl
attribute [simp] cfgLive32
@[simp] theorem loc_3 (d : Nat) : cfg.loc 3 d = false := rfl
@[simp] theorem goCall_3 (call : CallT) (st : St) (nx : Nat) (dst : Option Nat) (args : List AV) : goCall cfg call st nx dst 3 args = nCall call st nx dst 3 args := goCall_n rfl rfl
@[simp] theorem loc_4 (d : Nat) : cfg.loc 4 d = false := rfl
@[simp] theorem goCall_4 (call : CallT) (st : St) (nx : Nat) (dst : Option Nat) (args : List AV) : goCall cfg call st nx dst 4 args = pCall call st nx dst 4 args := goCall_eq rfl rfl
@[simp] theorem loc_5 (d : Nat) : cfg.loc 5 d = false := rfl
@[simp] theorem goCall_5 (call : CallT) (st : St) (nx : Nat) (dst : Option Nat) (args : List AV) : goCall cfg call st nx dst 5 args = pCall call st nx dst 5 args := goCall_eq rfl rfl
@[simp] theorem loc_6 (d : Nat) : cfg.loc 6 d = [8].contains d := rfl
@[simp] theorem goCall_6 (call : CallT) (st : St) (nx : Nat) (dst : Option Nat) (args : List AV) : goCall cfg call st nx dst 6 args = pCall call st nx dst 6 args := goCall_eq rfl rfl
@[simp] theorem loc_7 (d : Nat) : cfg.loc 7 d = false := rfl
@[simp] theorem goCall_7 (call : CallT) (st : St) (nx : Nat) (dst : Option Nat) (args : List AV) : goCall cfg call st nx dst 7 args = pCall call st nx dst 7 args := goCall_eq rfl rfl
@[simp] theorem loc_8 (d : Nat) : cfg.loc 8 d = false := rfl
@[simp] theorem goCall_8 (call : CallT) (st : St) (nx : Nat) (dst : Option Nat) (args : List AV) : goCall cfg call st nx dst 8 args = pCall call st nx dst 8 args := goCall_eq rfl rfl
@[simp] theorem loc_9 (d : Nat) : cfg.loc 9 d = false := rfl
@[simp] theorem goCall_9 (call : CallT) (st : St) (nx : Nat) (dst : Option Nat) (args : List AV) : goCall cfg call st nx dst 9 args = pCall call st nx dst 9 args := goCall_eq rfl rfl
@[simp] theorem loc_10 (d : Nat) : cfg.loc 10 d = false := rfl
@[simp] theorem goCall_10 (call : CallT) (st : St) (nx : Nat) (dst : Option Nat) (args : List AV) : goCall cfg call st nx dst 10 args = pCall call st nx dst 10 args := goCall_eq rfl rfl
@[simp] theorem loc_12 (d : Nat) : cfg.loc 12 d = [2, 8].contains d := rfl
@[simp] theorem goCall_12 (call : CallT) (st : St) (nx : Nat) (dst : Option Nat) (args : List AV) : goCall cfg call st nx dst 12 args = pCall call st nx dst 12 args := goCall_eq rfl rfl
@[simp] theorem loc_13 (d : Nat) : cfg.loc 13 d = false := rfl
@[simp] theorem goCall_13 (call : CallT) (st : St) (nx : Nat) (dst : Option Nat) (args : List AV) : goCall cfg call st nx dst 13 args = pCall call st nx dst 13 args := goCall_eq rfl rfl
@[simp] theorem loc_14 (d : Nat) : cfg.loc 14 d = false := rfl
@[simp] theorem goCall_14 (call : CallT) (st : St) (nx : Nat) (dst : Option Nat) (args : List AV) : goCall cfg call st nx dst 14 args = pCall call st nx dst 14 args := goCall_eq rfl rfl
@[simp] theorem loc_16 (d : Nat) : cfg.loc 16 d = false := rfl
@[simp] theorem goCall_16 (call : CallT) (st : St) (nx : Nat) (dst : Option Nat) (args : List AV) : goCall cfg call st nx dst 16 args = pCall call st nx dst 16 args := goCall_eq rfl rfl
@[simp] theorem loc_17 (d : Nat) : cfg.loc 17 d = false := rfl
@[simp] theorem goCall_17 (call : CallT) (st : St) (nx : Nat) (dst : Option Nat) (args : List AV) : goCall cfg call st nx dst 17 args = pCall call st nx dst 17 args := goCall_eq rfl rfl
@[simp] theorem loc_19 (d : Nat) : cfg.loc 19 d = false := rfl
@[simp] theorem goCall_19 (call : CallT) (st : St) (nx : Nat) (dst : Option Nat) (args : List AV) : goCall cfg call st nx dst 19 args = pCall call st nx dst 19 args := goCall_eq rfl rfl
@[simp] theorem loc_20 (d : Nat) : cfg.loc 20 d = false := rfl
@[simp] theorem goCall_20 (call : CallT) (st : St) (nx : Nat) (dst : Option Nat) (args : List AV) : goCall cfg call st nx dst 20 args = pCall call st nx dst 20 args := goCall_eq rfl rfl
@[simp] theorem loc_30 (d : Nat) : cfg.loc 30 d = [11].contains d := rfl
@[simp] theorem goCall_30 (call : CallT) (st : St) (nx : Nat) (dst : Option Nat) (args : List AV) : goCall cfg call st nx dst 30 args = pCall call st nx dst 30 args := goCall_eq rfl rfl
@[simp] theorem loc_31 (d : Nat) : cfg.loc 31 d = false := rfl
@[simp] theorem goCall_31 (call : CallT) (st : St) (nx : Nat) (dst : Option Nat) (args : List AV) : goCall cfg call st nx dst 31 args = pCall call st nx dst 31 args := goCall_eq rfl rfl
@[simp] theorem loc_32 (d : Nat) : cfg.loc 32 d = false := rfl
@[simp] theorem goCall_32 (call : CallT) (st : St) (nx : Nat) (dst : Option Nat) (args : List AV) : goCall cfg call st nx dst 32 args = pCall call st nx dst 32 args := goCall_eq rfl rfl
end Ab
end Go.Proofs.YtfkffpcnknlbhaaDoor
