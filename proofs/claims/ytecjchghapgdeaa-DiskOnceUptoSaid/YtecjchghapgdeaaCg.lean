/-
  DERIVED. The simp facts of the tables.
  Conditions: none of a program's.
-/
import Derived.Test.YtecjchghapgdeaaCf
import Derived.Test.YtecjchghapgdeaaAbG
set_option linter.all false
set_option maxHeartbeats 4000000
namespace Go.Proofs.Ytecjchghapgdeaa
namespace Ab
attribute [simp] cP
@[simp] theorem live_3 : cfg.live 3 = cfgLive3 := rfl
attribute [simp] cfgLive3
@[simp] theorem live_4 : cfg.live 4 = cfgLive4 := rfl
attribute [simp] cfgLive4
@[simp] theorem live_5 : cfg.live 5 = cfgLive5 := rfl
attribute [simp] cfgLive5
@[simp] theorem live_6 : cfg.live 6 = cfgLive6 := rfl
attribute [simp] cfgLive6
@[simp] theorem live_7 : cfg.live 7 = cfgLive7 := rfl
attribute [simp] cfgLive7
@[simp] theorem live_8 : cfg.live 8 = cfgLive8 := rfl
attribute [simp] cfgLive8
@[simp] theorem live_9 : cfg.live 9 = cfgLive9 := rfl
attribute [simp] cfgLive9
@[simp] theorem live_10 : cfg.live 10 = cfgLive10 := rfl
attribute [simp] cfgLive10
@[simp] theorem live_11 : cfg.live 11 = cfgLive11 := rfl
attribute [simp] cfgLive11
@[simp] theorem live_12 : cfg.live 12 = cfgLive12 := rfl
attribute [simp] cfgLive12
@[simp] theorem live_13 : cfg.live 13 = cfgLive13 := rfl
attribute [simp] cfgLive13
@[simp] theorem live_14 : cfg.live 14 = cfgLive14 := rfl
attribute [simp] cfgLive14
@[simp] theorem live_15 : cfg.live 15 = cfgLive15 := rfl
attribute [simp] cfgLive15
@[simp] theorem live_16 : cfg.live 16 = cfgLive16 := rfl
attribute [simp] cfgLive16
@[simp] theorem live_17 : cfg.live 17 = cfgLive17 := rfl
attribute [simp] cfgLive17
@[simp] theorem live_18 : cfg.live 18 = cfgLive18 := rfl
attribute [simp] cfgLive18
@[simp] theorem live_19 : cfg.live 19 = cfgLive19 := rfl
attribute [simp] cfgLive19
@[simp] theorem live_20 : cfg.live 20 = cfgLive20 := rfl
attribute [simp] cfgLive20
@[simp] theorem live_21 : cfg.live 21 = cfgLive21 := rfl
attribute [simp] cfgLive21
@[simp] theorem live_22 : cfg.live 22 = cfgLive22 := rfl
attribute [simp] cfgLive22
@[simp] theorem live_23 : cfg.live 23 = cfgLive23 := rfl
attribute [simp] cfgLive23
@[simp] theorem live_24 : cfg.live 24 = cfgLive24 := rfl
attribute [simp] cfgLive24
@[simp] theorem live_25 : cfg.live 25 = cfgLive25 := rfl
attribute [simp] cfgLive25
@[simp] theorem live_26 : cfg.live 26 = cfgLive26 := rfl
attribute [simp] cfgLive26
@[simp] theorem live_27 : cfg.live 27 = cfgLive27 := rfl
attribute [simp] cfgLive27
@[simp] theorem live_28 : cfg.live 28 = cfgLive28 := rfl
attribute [simp] cfgLive28
@[simp] theorem live_29 : cfg.live 29 = cfgLive29 := rfl
attribute [simp] cfgLive29
@[simp] theorem live_30 : cfg.live 30 = cfgLive30 := rfl
attribute [simp] cfgLive30
@[simp] theorem live_31 : cfg.live 31 = cfgLive31 := rfl
attribute [simp] cfgLive31
@[simp] theorem live_32 : cfg.live 32 = cfgLive32 := rfl
attribute [simp] cfgLive32
@[simp] theorem live_33 : cfg.live 33 = cfgLive33 := rfl
attribute [simp] cfgLive33
@[simp] theorem live_34 : cfg.live 34 = cfgLive34 := rfl
attribute [simp] cfgLive34
@[simp] theorem live_35 : cfg.live 35 = cfgLive35 := rfl
attribute [simp] cfgLive35
@[simp] theorem live_36 : cfg.live 36 = cfgLive36 := rfl
attribute [simp] cfgLive36
@[simp] theorem live_37 : cfg.live 37 = cfgLive37 := rfl
attribute [simp] cfgLive37
@[simp] theorem live_38 : cfg.live 38 = cfgLive38 := rfl
attribute [simp] cfgLive38
@[simp] theorem live_39 : cfg.live 39 = cfgLive39 := rfl
attribute [simp] cfgLive39
@[simp] theorem live_40 : cfg.live 40 = cfgLive40 := rfl
attribute [simp] cfgLive40
@[simp] theorem live_41 : cfg.live 41 = cfgLive41 := rfl
attribute [simp] cfgLive41
@[simp] theorem live_42 : cfg.live 42 = cfgLive42 := rfl
attribute [simp] cfgLive42
@[simp] theorem live_43 : cfg.live 43 = cfgLive43 := rfl
attribute [simp] cfgLive43
@[simp] theorem live_44 : cfg.live 44 = cfgLive44 := rfl
attribute [simp] cfgLive44
@[simp] theorem live_45 : cfg.live 45 = cfgLive45 := rfl
attribute [simp] cfgLive45
@[simp] theorem live_46 : cfg.live 46 = cfgLive46 := rfl
attribute [simp] cfgLive46
@[simp] theorem live_47 : cfg.live 47 = cfgLive47 := rfl
attribute [simp] cfgLive47
@[simp] theorem live_48 : cfg.live 48 = cfgLive48 := rfl
attribute [simp] cfgLive48
@[simp] theorem live_49 : cfg.live 49 = cfgLive49 := rfl
attribute [simp] cfgLive49
@[simp] theorem live_50 : cfg.live 50 = cfgLive50 := rfl
attribute [simp] cfgLive50
@[simp] theorem live_51 : cfg.live 51 = cfgLive51 := rfl
attribute [simp] cfgLive51
@[simp] theorem live_52 : cfg.live 52 = cfgLive52 := rfl
attribute [simp] cfgLive52
@[simp] theorem live_53 : cfg.live 53 = cfgLive53 := rfl
attribute [simp] cfgLive53
@[simp] theorem live_54 : cfg.live 54 = cfgLive54 := rfl
attribute [simp] cfgLive54
@[simp] theorem live_55 : cfg.live 55 = cfgLive55 := rfl
attribute [simp] cfgLive55
@[simp] theorem live_56 : cfg.live 56 = cfgLive56 := rfl
attribute [simp] cfgLive56
@[simp] theorem live_57 : cfg.live 57 = cfgLive57 := rfl
attribute [simp] cfgLive57
@[simp] theorem live_58 : cfg.live 58 = cfgLive58 := rfl
attribute [simp] cfgLive58
@[simp] theorem live_59 : cfg.live 59 = cfgLive59 := rfl
attribute [simp] cfgLive59
@[simp] theorem live_60 : cfg.live 60 = cfgLive60 := rfl
attribute [simp] cfgLive60
@[simp] theorem live_61 : cfg.live 61 = cfgLive61 := rfl
attribute [simp] cfgLive61
@[simp] theorem live_62 : cfg.live 62 = cfgLive62 := rfl
attribute [simp] cfgLive62
@[simp] theorem live_63 : cfg.live 63 = cfgLive63 := rfl
attribute [simp] cfgLive63
@[simp] theorem live_64 : cfg.live 64 = cfgLive64 := rfl
attribute [simp] cfgLive64
@[simp] theorem live_65 : cfg.live 65 = cfgLive65 := rfl
attribute [simp] cfgLive65
@[simp] theorem live_66 : cfg.live 66 = cfgLive66 := rfl
attribute [simp] cfgLive66
@[simp] theorem live_67 : cfg.live 67 = cfgLive67 := rfl
attribute [simp] cfgLive67
@[simp] theorem live_68 : cfg.live 68 = cfgLive68 := rfl
attribute [simp] cfgLive68
@[simp] theorem live_69 : cfg.live 69 = cfgLive69 := rfl
attribute [simp] cfgLive69
@[simp] theorem live_70 : cfg.live 70 = cfgLive70 := rfl
attribute [simp] cfgLive70
@[simp] theorem live_71 : cfg.live 71 = cfgLive71 := rfl
attribute [simp] cfgLive71
@[simp] theorem loc_0 (d : Nat) : cfg.loc 0 d = false := rfl
@[simp] theorem goCall_0 (call : CallT) (st : St) (nx : Nat) (dst : Option Nat) (args : List AV) : goCall cfg call st nx dst 0 args = nCall call st nx dst 0 args := goCall_n rfl rfl rfl rfl rfl
@[simp] theorem loc_1 (d : Nat) : cfg.loc 1 d = false := rfl
@[simp] theorem goCall_1 (call : CallT) (st : St) (nx : Nat) (dst : Option Nat) (args : List AV) : goCall cfg call st nx dst 1 args = nCall call st nx dst 1 args := goCall_n rfl rfl rfl rfl rfl
@[simp] theorem loc_2 (d : Nat) : cfg.loc 2 d = false := rfl
@[simp] theorem goCall_2 (call : CallT) (st : St) (nx : Nat) (dst : Option Nat) (args : List AV) : goCall cfg call st nx dst 2 args = nCall call st nx dst 2 args := goCall_n rfl rfl rfl rfl rfl
@[simp] theorem loc_3 (d : Nat) : cfg.loc 3 d = false := rfl
@[simp] theorem goCall_3 (call : CallT) (st : St) (nx : Nat) (dst : Option Nat) (args : List AV) : goCall cfg call st nx dst 3 args = nCall call st nx dst 3 args := goCall_n rfl rfl rfl rfl rfl
@[simp] theorem loc_4 (d : Nat) : cfg.loc 4 d = false := rfl
@[simp] theorem goCall_4 (call : CallT) (st : St) (nx : Nat) (dst : Option Nat) (args : List AV) : goCall cfg call st nx dst 4 args = nCall call st nx dst 4 args := goCall_n rfl rfl rfl rfl rfl
@[simp] theorem loc_5 (d : Nat) : cfg.loc 5 d = false := rfl
@[simp] theorem goCall_5 (call : CallT) (st : St) (nx : Nat) (dst : Option Nat) (args : List AV) : goCall cfg call st nx dst 5 args = nCall call st nx dst 5 args := goCall_n rfl rfl rfl rfl rfl
@[simp] theorem loc_6 (d : Nat) : cfg.loc 6 d = false := rfl
@[simp] theorem goCall_6 (call : CallT) (st : St) (nx : Nat) (dst : Option Nat) (args : List AV) : goCall cfg call st nx dst 6 args = nCall call st nx dst 6 args := goCall_n rfl rfl rfl rfl rfl
@[simp] theorem loc_7 (d : Nat) : cfg.loc 7 d = false := rfl
@[simp] theorem goCall_7 (call : CallT) (st : St) (nx : Nat) (dst : Option Nat) (args : List AV) : goCall cfg call st nx dst 7 args = nCall call st nx dst 7 args := goCall_n rfl rfl rfl rfl rfl
@[simp] theorem loc_8 (d : Nat) : cfg.loc 8 d = false := rfl
@[simp] theorem goCall_8 (call : CallT) (st : St) (nx : Nat) (dst : Option Nat) (args : List AV) : goCall cfg call st nx dst 8 args = pnCall call st nx dst 8 args := goCall_eq rfl rfl rfl rfl rfl
@[simp] theorem loc_9 (d : Nat) : cfg.loc 9 d = false := rfl
@[simp] theorem goCall_9 (call : CallT) (st : St) (nx : Nat) (dst : Option Nat) (args : List AV) : goCall cfg call st nx dst 9 args = nCall call st nx dst 9 args := goCall_n rfl rfl rfl rfl rfl
@[simp] theorem loc_10 (d : Nat) : cfg.loc 10 d = false := rfl
@[simp] theorem goCall_10 (call : CallT) (st : St) (nx : Nat) (dst : Option Nat) (args : List AV) : goCall cfg call st nx dst 10 args = nCall call st nx dst 10 args := goCall_n rfl rfl rfl rfl rfl
@[simp] theorem loc_11 (d : Nat) : cfg.loc 11 d = false := rfl
@[simp] theorem goCall_11 (call : CallT) (st : St) (nx : Nat) (dst : Option Nat) (args : List AV) : goCall cfg call st nx dst 11 args = nCall call st nx dst 11 args := goCall_n rfl rfl rfl rfl rfl
@[simp] theorem loc_12 (d : Nat) : cfg.loc 12 d = false := rfl
@[simp] theorem goCall_12 (call : CallT) (st : St) (nx : Nat) (dst : Option Nat) (args : List AV) : goCall cfg call st nx dst 12 args = nCall call st nx dst 12 args := goCall_n rfl rfl rfl rfl rfl
@[simp] theorem loc_13 (d : Nat) : cfg.loc 13 d = false := rfl
@[simp] theorem goCall_13 (call : CallT) (st : St) (nx : Nat) (dst : Option Nat) (args : List AV) : goCall cfg call st nx dst 13 args = nCall call st nx dst 13 args := goCall_n rfl rfl rfl rfl rfl
@[simp] theorem loc_14 (d : Nat) : cfg.loc 14 d = false := rfl
@[simp] theorem goCall_14 (call : CallT) (st : St) (nx : Nat) (dst : Option Nat) (args : List AV) : goCall cfg call st nx dst 14 args = nCall call st nx dst 14 args := goCall_n rfl rfl rfl rfl rfl
@[simp] theorem loc_15 (d : Nat) : cfg.loc 15 d = false := rfl
@[simp] theorem goCall_15 (call : CallT) (st : St) (nx : Nat) (dst : Option Nat) (args : List AV) : goCall cfg call st nx dst 15 args = nCall call st nx dst 15 args := goCall_n rfl rfl rfl rfl rfl
@[simp] theorem loc_16 (d : Nat) : cfg.loc 16 d = false := rfl
@[simp] theorem goCall_16 (call : CallT) (st : St) (nx : Nat) (dst : Option Nat) (args : List AV) : goCall cfg call st nx dst 16 args = nCall call st nx dst 16 args := goCall_n rfl rfl rfl rfl rfl
@[simp] theorem loc_17 (d : Nat) : cfg.loc 17 d = false := rfl
@[simp] theorem goCall_17 (call : CallT) (st : St) (nx : Nat) (dst : Option Nat) (args : List AV) : goCall cfg call st nx dst 17 args = goCallH call st nx dst 17 args := goCall_h rfl rfl
@[simp] theorem loc_18 (d : Nat) : cfg.loc 18 d = false := rfl
@[simp] theorem goCall_18 (call : CallT) (st : St) (nx : Nat) (dst : Option Nat) (args : List AV) : goCall cfg call st nx dst 18 args = nCall call st nx dst 18 args := goCall_n rfl rfl rfl rfl rfl
@[simp] theorem loc_19 (d : Nat) : cfg.loc 19 d = false := rfl
@[simp] theorem goCall_19 (call : CallT) (st : St) (nx : Nat) (dst : Option Nat) (args : List AV) : goCall cfg call st nx dst 19 args = nCall call st nx dst 19 args := goCall_n rfl rfl rfl rfl rfl
@[simp] theorem loc_20 (d : Nat) : cfg.loc 20 d = false := rfl
@[simp] theorem goCall_20 (call : CallT) (st : St) (nx : Nat) (dst : Option Nat) (args : List AV) : goCall cfg call st nx dst 20 args = rCall call st nx dst 20 args := goCall_r rfl rfl rfl rfl
@[simp] theorem loc_21 (d : Nat) : cfg.loc 21 d = false := rfl
@[simp] theorem goCall_21 (call : CallT) (st : St) (nx : Nat) (dst : Option Nat) (args : List AV) : goCall cfg call st nx dst 21 args = pnCall call st nx dst 21 args := goCall_eq rfl rfl rfl rfl rfl
@[simp] theorem loc_22 (d : Nat) : cfg.loc 22 d = false := rfl
@[simp] theorem goCall_22 (call : CallT) (st : St) (nx : Nat) (dst : Option Nat) (args : List AV) : goCall cfg call st nx dst 22 args = pnCall call st nx dst 22 args := goCall_eq rfl rfl rfl rfl rfl
@[simp] theorem loc_23 (d : Nat) : cfg.loc 23 d = false := rfl
@[simp] theorem goCall_23 (call : CallT) (st : St) (nx : Nat) (dst : Option Nat) (args : List AV) : goCall cfg call st nx dst 23 args = nCall call st nx dst 23 args := goCall_n rfl rfl rfl rfl rfl
@[simp] theorem loc_24 (d : Nat) : cfg.loc 24 d = false := rfl
@[simp] theorem goCall_24 (call : CallT) (st : St) (nx : Nat) (dst : Option Nat) (args : List AV) : goCall cfg call st nx dst 24 args = goCallH call st nx dst 24 args := goCall_h rfl rfl
@[simp] theorem loc_25 (d : Nat) : cfg.loc 25 d = false := rfl
@[simp] theorem goCall_25 (call : CallT) (st : St) (nx : Nat) (dst : Option Nat) (args : List AV) : goCall cfg call st nx dst 25 args = nCall call st nx dst 25 args := goCall_n rfl rfl rfl rfl rfl
@[simp] theorem loc_26 (d : Nat) : cfg.loc 26 d = false := rfl
@[simp] theorem goCall_26 (call : CallT) (st : St) (nx : Nat) (dst : Option Nat) (args : List AV) : goCall cfg call st nx dst 26 args = nCall call st nx dst 26 args := goCall_n rfl rfl rfl rfl rfl
@[simp] theorem loc_27 (d : Nat) : cfg.loc 27 d = [3].contains d := rfl
@[simp] theorem goCall_27 (call : CallT) (st : St) (nx : Nat) (dst : Option Nat) (args : List AV) : goCall cfg call st nx dst 27 args = nCall call st nx dst 27 args := goCall_n rfl rfl rfl rfl rfl
@[simp] theorem loc_28 (d : Nat) : cfg.loc 28 d = false := rfl
@[simp] theorem goCall_28 (call : CallT) (st : St) (nx : Nat) (dst : Option Nat) (args : List AV) : goCall cfg call st nx dst 28 args = nCall call st nx dst 28 args := goCall_n rfl rfl rfl rfl rfl
@[simp] theorem loc_29 (d : Nat) : cfg.loc 29 d = [6, 9].contains d := rfl
@[simp] theorem goCall_29 (call : CallT) (st : St) (nx : Nat) (dst : Option Nat) (args : List AV) : goCall cfg call st nx dst 29 args = nCall call st nx dst 29 args := goCall_n rfl rfl rfl rfl rfl
@[simp] theorem loc_30 (d : Nat) : cfg.loc 30 d = false := rfl
@[simp] theorem goCall_30 (call : CallT) (st : St) (nx : Nat) (dst : Option Nat) (args : List AV) : goCall cfg call st nx dst 30 args = pnCall call st nx dst 30 args := goCall_eq rfl rfl rfl rfl rfl
@[simp] theorem loc_31 (d : Nat) : cfg.loc 31 d = false := rfl
@[simp] theorem goCall_31 (call : CallT) (st : St) (nx : Nat) (dst : Option Nat) (args : List AV) : goCall cfg call st nx dst 31 args = nCall call st nx dst 31 args := goCall_n rfl rfl rfl rfl rfl
@[simp] theorem loc_32 (d : Nat) : cfg.loc 32 d = false := rfl
@[simp] theorem goCall_32 (call : CallT) (st : St) (nx : Nat) (dst : Option Nat) (args : List AV) : goCall cfg call st nx dst 32 args = nCall call st nx dst 32 args := goCall_n rfl rfl rfl rfl rfl
@[simp] theorem loc_33 (d : Nat) : cfg.loc 33 d = false := rfl
@[simp] theorem goCall_33 (call : CallT) (st : St) (nx : Nat) (dst : Option Nat) (args : List AV) : goCall cfg call st nx dst 33 args = rCall call st nx dst 33 args := goCall_r rfl rfl rfl rfl
@[simp] theorem loc_34 (d : Nat) : cfg.loc 34 d = false := rfl
@[simp] theorem goCall_34 (call : CallT) (st : St) (nx : Nat) (dst : Option Nat) (args : List AV) : goCall cfg call st nx dst 34 args = rCall call st nx dst 34 args := goCall_r rfl rfl rfl rfl
@[simp] theorem loc_35 (d : Nat) : cfg.loc 35 d = false := rfl
@[simp] theorem goCall_35 (call : CallT) (st : St) (nx : Nat) (dst : Option Nat) (args : List AV) : goCall cfg call st nx dst 35 args = nCall call st nx dst 35 args := goCall_n rfl rfl rfl rfl rfl
@[simp] theorem loc_36 (d : Nat) : cfg.loc 36 d = false := rfl
@[simp] theorem goCall_36 (call : CallT) (st : St) (nx : Nat) (dst : Option Nat) (args : List AV) : goCall cfg call st nx dst 36 args = fCall call st nx dst 36 args := goCall_f rfl rfl rfl
@[simp] theorem loc_37 (d : Nat) : cfg.loc 37 d = false := rfl
@[simp] theorem goCall_37 (call : CallT) (st : St) (nx : Nat) (dst : Option Nat) (args : List AV) : goCall cfg call st nx dst 37 args = goCallH call st nx dst 37 args := goCall_h rfl rfl
@[simp] theorem loc_38 (d : Nat) : cfg.loc 38 d = false := rfl
@[simp] theorem goCall_38 (call : CallT) (st : St) (nx : Nat) (dst : Option Nat) (args : List AV) : goCall cfg call st nx dst 38 args = nCall call st nx dst 38 args := goCall_n rfl rfl rfl rfl rfl
@[simp] theorem loc_39 (d : Nat) : cfg.loc 39 d = false := rfl
@[simp] theorem goCall_39 (call : CallT) (st : St) (nx : Nat) (dst : Option Nat) (args : List AV) : goCall cfg call st nx dst 39 args = nCall call st nx dst 39 args := goCall_n rfl rfl rfl rfl rfl
@[simp] theorem loc_40 (d : Nat) : cfg.loc 40 d = false := rfl
@[simp] theorem goCall_40 (call : CallT) (st : St) (nx : Nat) (dst : Option Nat) (args : List AV) : goCall cfg call st nx dst 40 args = fCall call st nx dst 40 args := goCall_f rfl rfl rfl
@[simp] theorem loc_41 (d : Nat) : cfg.loc 41 d = false := rfl
@[simp] theorem goCall_41 (call : CallT) (st : St) (nx : Nat) (dst : Option Nat) (args : List AV) : goCall cfg call st nx dst 41 args = goCallH call st nx dst 41 args := goCall_h rfl rfl
@[simp] theorem loc_42 (d : Nat) : cfg.loc 42 d = [10].contains d := rfl
@[simp] theorem goCall_42 (call : CallT) (st : St) (nx : Nat) (dst : Option Nat) (args : List AV) : goCall cfg call st nx dst 42 args = nCall call st nx dst 42 args := goCall_n rfl rfl rfl rfl rfl
@[simp] theorem loc_43 (d : Nat) : cfg.loc 43 d = false := rfl
@[simp] theorem goCall_43 (call : CallT) (st : St) (nx : Nat) (dst : Option Nat) (args : List AV) : goCall cfg call st nx dst 43 args = nCall call st nx dst 43 args := goCall_n rfl rfl rfl rfl rfl
@[simp] theorem loc_44 (d : Nat) : cfg.loc 44 d = [9].contains d := rfl
@[simp] theorem goCall_44 (call : CallT) (st : St) (nx : Nat) (dst : Option Nat) (args : List AV) : goCall cfg call st nx dst 44 args = nCall call st nx dst 44 args := goCall_n rfl rfl rfl rfl rfl
@[simp] theorem loc_45 (d : Nat) : cfg.loc 45 d = false := rfl
@[simp] theorem goCall_45 (call : CallT) (st : St) (nx : Nat) (dst : Option Nat) (args : List AV) : goCall cfg call st nx dst 45 args = nCall call st nx dst 45 args := goCall_n rfl rfl rfl rfl rfl
@[simp] theorem loc_46 (d : Nat) : cfg.loc 46 d = false := rfl
@[simp] theorem goCall_46 (call : CallT) (st : St) (nx : Nat) (dst : Option Nat) (args : List AV) : goCall cfg call st nx dst 46 args = nCall call st nx dst 46 args := goCall_n rfl rfl rfl rfl rfl
@[simp] theorem loc_47 (d : Nat) : cfg.loc 47 d = false := rfl
@[simp] theorem goCall_47 (call : CallT) (st : St) (nx : Nat) (dst : Option Nat) (args : List AV) : goCall cfg call st nx dst 47 args = nCall call st nx dst 47 args := goCall_n rfl rfl rfl rfl rfl
@[simp] theorem loc_48 (d : Nat) : cfg.loc 48 d = [7].contains d := rfl
@[simp] theorem goCall_48 (call : CallT) (st : St) (nx : Nat) (dst : Option Nat) (args : List AV) : goCall cfg call st nx dst 48 args = nCall call st nx dst 48 args := goCall_n rfl rfl rfl rfl rfl
@[simp] theorem loc_49 (d : Nat) : cfg.loc 49 d = false := rfl
@[simp] theorem goCall_49 (call : CallT) (st : St) (nx : Nat) (dst : Option Nat) (args : List AV) : goCall cfg call st nx dst 49 args = nCall call st nx dst 49 args := goCall_n rfl rfl rfl rfl rfl
@[simp] theorem loc_50 (d : Nat) : cfg.loc 50 d = false := rfl
@[simp] theorem goCall_50 (call : CallT) (st : St) (nx : Nat) (dst : Option Nat) (args : List AV) : goCall cfg call st nx dst 50 args = nCall call st nx dst 50 args := goCall_n rfl rfl rfl rfl rfl
@[simp] theorem loc_51 (d : Nat) : cfg.loc 51 d = false := rfl
@[simp] theorem goCall_51 (call : CallT) (st : St) (nx : Nat) (dst : Option Nat) (args : List AV) : goCall cfg call st nx dst 51 args = rCall call st nx dst 51 args := goCall_r rfl rfl rfl rfl
@[simp] theorem loc_52 (d : Nat) : cfg.loc 52 d = false := rfl
@[simp] theorem goCall_52 (call : CallT) (st : St) (nx : Nat) (dst : Option Nat) (args : List AV) : goCall cfg call st nx dst 52 args = rCall call st nx dst 52 args := goCall_r rfl rfl rfl rfl
@[simp] theorem loc_53 (d : Nat) : cfg.loc 53 d = false := rfl
@[simp] theorem goCall_53 (call : CallT) (st : St) (nx : Nat) (dst : Option Nat) (args : List AV) : goCall cfg call st nx dst 53 args = rCall call st nx dst 53 args := goCall_r rfl rfl rfl rfl
@[simp] theorem loc_54 (d : Nat) : cfg.loc 54 d = false := rfl
@[simp] theorem goCall_54 (call : CallT) (st : St) (nx : Nat) (dst : Option Nat) (args : List AV) : goCall cfg call st nx dst 54 args = rCall call st nx dst 54 args := goCall_r rfl rfl rfl rfl
@[simp] theorem loc_55 (d : Nat) : cfg.loc 55 d = false := rfl
@[simp] theorem goCall_55 (call : CallT) (st : St) (nx : Nat) (dst : Option Nat) (args : List AV) : goCall cfg call st nx dst 55 args = rCall call st nx dst 55 args := goCall_r rfl rfl rfl rfl
@[simp] theorem loc_56 (d : Nat) : cfg.loc 56 d = [4].contains d := rfl
@[simp] theorem goCall_56 (call : CallT) (st : St) (nx : Nat) (dst : Option Nat) (args : List AV) : goCall cfg call st nx dst 56 args = rCall call st nx dst 56 args := goCall_r rfl rfl rfl rfl
@[simp] theorem loc_57 (d : Nat) : cfg.loc 57 d = false := rfl
@[simp] theorem goCall_57 (call : CallT) (st : St) (nx : Nat) (dst : Option Nat) (args : List AV) : goCall cfg call st nx dst 57 args = rCall call st nx dst 57 args := goCall_r rfl rfl rfl rfl
@[simp] theorem loc_58 (d : Nat) : cfg.loc 58 d = false := rfl
@[simp] theorem goCall_58 (call : CallT) (st : St) (nx : Nat) (dst : Option Nat) (args : List AV) : goCall cfg call st nx dst 58 args = rCall call st nx dst 58 args := goCall_r rfl rfl rfl rfl
@[simp] theorem loc_59 (d : Nat) : cfg.loc 59 d = [4, 6].contains d := rfl
@[simp] theorem goCall_59 (call : CallT) (st : St) (nx : Nat) (dst : Option Nat) (args : List AV) : goCall cfg call st nx dst 59 args = nCall call st nx dst 59 args := goCall_n rfl rfl rfl rfl rfl
@[simp] theorem loc_60 (d : Nat) : cfg.loc 60 d = false := rfl
@[simp] theorem goCall_60 (call : CallT) (st : St) (nx : Nat) (dst : Option Nat) (args : List AV) : goCall cfg call st nx dst 60 args = pnCall call st nx dst 60 args := goCall_eq rfl rfl rfl rfl rfl
@[simp] theorem loc_61 (d : Nat) : cfg.loc 61 d = [5].contains d := rfl
@[simp] theorem goCall_61 (call : CallT) (st : St) (nx : Nat) (dst : Option Nat) (args : List AV) : goCall cfg call st nx dst 61 args = nCall call st nx dst 61 args := goCall_n rfl rfl rfl rfl rfl
@[simp] theorem loc_62 (d : Nat) : cfg.loc 62 d = false := rfl
@[simp] theorem goCall_62 (call : CallT) (st : St) (nx : Nat) (dst : Option Nat) (args : List AV) : goCall cfg call st nx dst 62 args = nCall call st nx dst 62 args := goCall_n rfl rfl rfl rfl rfl
@[simp] theorem loc_63 (d : Nat) : cfg.loc 63 d = false := rfl
@[simp] theorem goCall_63 (call : CallT) (st : St) (nx : Nat) (dst : Option Nat) (args : List AV) : goCall cfg call st nx dst 63 args = nCall call st nx dst 63 args := goCall_n rfl rfl rfl rfl rfl
@[simp] theorem loc_64 (d : Nat) : cfg.loc 64 d = false := rfl
@[simp] theorem goCall_64 (call : CallT) (st : St) (nx : Nat) (dst : Option Nat) (args : List AV) : goCall cfg call st nx dst 64 args = nCall call st nx dst 64 args := goCall_n rfl rfl rfl rfl rfl
@[simp] theorem loc_65 (d : Nat) : cfg.loc 65 d = false := rfl
@[simp] theorem goCall_65 (call : CallT) (st : St) (nx : Nat) (dst : Option Nat) (args : List AV) : goCall cfg call st nx dst 65 args = pnCall call st nx dst 65 args := goCall_eq rfl rfl rfl rfl rfl
@[simp] theorem loc_66 (d : Nat) : cfg.loc 66 d = [2].contains d := rfl
@[simp] theorem goCall_66 (call : CallT) (st : St) (nx : Nat) (dst : Option Nat) (args : List AV) : goCall cfg call st nx dst 66 args = rCall call st nx dst 66 args := goCall_r rfl rfl rfl rfl
@[simp] theorem loc_67 (d : Nat) : cfg.loc 67 d = [2].contains d := rfl
@[simp] theorem goCall_67 (call : CallT) (st : St) (nx : Nat) (dst : Option Nat) (args : List AV) : goCall cfg call st nx dst 67 args = pnCall call st nx dst 67 args := goCall_eq rfl rfl rfl rfl rfl
@[simp] theorem loc_68 (d : Nat) : cfg.loc 68 d = false := rfl
@[simp] theorem goCall_68 (call : CallT) (st : St) (nx : Nat) (dst : Option Nat) (args : List AV) : goCall cfg call st nx dst 68 args = nCall call st nx dst 68 args := goCall_n rfl rfl rfl rfl rfl
@[simp] theorem loc_69 (d : Nat) : cfg.loc 69 d = [3].contains d := rfl
@[simp] theorem goCall_69 (call : CallT) (st : St) (nx : Nat) (dst : Option Nat) (args : List AV) : goCall cfg call st nx dst 69 args = nCall call st nx dst 69 args := goCall_n rfl rfl rfl rfl rfl
@[simp] theorem loc_70 (d : Nat) : cfg.loc 70 d = [3, 6, 7].contains d := rfl
@[simp] theorem goCall_70 (call : CallT) (st : St) (nx : Nat) (dst : Option Nat) (args : List AV) : goCall cfg call st nx dst 70 args = goCallH call st nx dst 70 args := goCall_h rfl rfl
@[simp] theorem loc_71 (d : Nat) : cfg.loc 71 d = false := rfl
@[simp] theorem goCall_71 (call : CallT) (st : St) (nx : Nat) (dst : Option Nat) (args : List AV) : goCall cfg call st nx dst 71 args = rCall call st nx dst 71 args := goCall_r rfl rfl rfl rfl
end Ab
end Go.Proofs.Ytecjchghapgdeaa
