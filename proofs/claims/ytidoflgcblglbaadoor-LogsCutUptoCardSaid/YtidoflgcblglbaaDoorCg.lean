/-
  DERIVED. The simp facts of the tables.
  Conditions: none of a program's.
-/
import Derived.Test.YtidoflgcblglbaaDoorCf
import Derived.Test.YtidoflgcblglbaaDoorAbG
set_option linter.all false
set_option maxHeartbeats 4000000
namespace Go.Proofs.YtidoflgcblglbaaDoor
namespace Ab
attribute [simp] cP
@[simp] theorem live_3 : cfg.live 3 = cfgLive3 := rfl
attribute [simp] cfgLive3
@[simp] theorem live_4 : cfg.live 4 = cfgLive4 := rfl
attribute [simp] cfgLive4
@[simp] theorem live_5 : cfg.live 5 = cfgLive5 := rfl
attribute [simp] cfgLive5
@[simp] theorem live_6 : cfg.live 6 = cfgLive6 := rfl
attribute [simp] cfgLive6
@[simp] theorem live_7 : cfg.live 7 = cfgLive7 := rfl
attribute [simp] cfgLive7
@[simp] theorem live_8 : cfg.live 8 = cfgLive8 := rfl
attribute [simp] cfgLive8
@[simp] theorem live_9 : cfg.live 9 = cfgLive9 := rfl
attribute [simp] cfgLive9
@[simp] theorem live_10 : cfg.live 10 = cfgLive10 := rfl
attribute [simp] cfgLive10
@[simp] theorem live_11 : cfg.live 11 = cfgLive11 := rfl
attribute [simp] cfgLive11
@[simp] theorem live_12 : cfg.live 12 = cfgLive12 := rfl
attribute [simp] cfgLive12
@[simp] theorem live_13 : cfg.live 13 = cfgLive13 := rfl
attribute [simp] cfgLive13
@[simp] theorem live_14 : cfg.live 14 = cfgLive14 := rfl
attribute [simp] cfgLive14
@[simp] theorem live_15 : cfg.live 15 = cfgLive15 := rfl
attribute [simp] cfgLive15
@[simp] theorem live_16 : cfg.live 16 = cfgLive16 := rfl
attribute [simp] cfgLive16
@[simp] theorem live_17 : cfg.live 17 = cfgLive17 := rfl
attribute [simp] cfgLive17
@[simp] theorem live_18 : cfg.live 18 = cfgLive18 := rfl
attribute [simp] cfgLive18
@[simp] theorem live_19 : cfg.live 19 = cfgLive19 := rfl
attribute [simp] cfgLive19
@[simp] theorem live_20 : cfg.live 20 = cfgLive20 := rfl
attribute [simp] cfgLive20
@[simp] theorem live_21 : cfg.live 21 = cfgLive21 := rfl
attribute [simp] cfgLive21
@[simp] theorem live_22 : cfg.live 22 = cfgLive22 := rfl
attribute [simp] cfgLive22
@[simp] theorem live_23 : cfg.live 23 = cfgLive23 := rfl
attribute [simp] cfgLive23
@[simp] theorem live_24 : cfg.live 24 = cfgLive24 := rfl
attribute [simp] cfgLive24
@[simp] theorem live_25 : cfg.live 25 = cfgLive25 := rfl
attribute [simp] cfgLive25
@[simp] theorem live_26 : cfg.live 26 = cfgLive26 := rfl
attribute [simp] cfgLive26
@[simp] theorem live_27 : cfg.live 27 = cfgLive27 := rfl
attribute [simp] cfgLive27
@[simp] theorem live_28 : cfg.live 28 = cfgLive28 := rfl
attribute [simp] cfgLive28
@[simp] theorem live_29 : cfg.live 29 = cfgLive29 := rfl
attribute [simp] cfgLive29
@[simp] theorem live_30 : cfg.live 30 = cfgLive30 := rfl
attribute [simp] cfgLive30
@[simp] theorem live_31 : cfg.live 31 = cfgLive31 := rfl
attribute [simp] cfgLive31
@[simp] theorem live_32 : cfg.live 32 = cfgLive32 := rfl
attribute [simp] cfgLive32
@[simp] theorem live_33 : cfg.live 33 = cfgLive33 := rfl
attribute [simp] cfgLive33
@[simp] theorem live_34 : cfg.live 34 = cfgLive34 := rfl
attribute [simp] cfgLive34
@[simp] theorem live_35 : cfg.live 35 = cfgLive35 := rfl
attribute [simp] cfgLive35
@[simp] theorem live_36 : cfg.live 36 = cfgLive36 := rfl
attribute [simp] cfgLive36
@[simp] theorem live_37 : cfg.live 37 = cfgLive37 := rfl
attribute [simp] cfgLive37
@[simp] theorem live_38 : cfg.live 38 = cfgLive38 := rfl
attribute [simp] cfgLive38
@[simp] theorem live_39 : cfg.live 39 = cfgLive39 := rfl
attribute [simp] cfgLive39
@[simp] theorem live_40 : cfg.live 40 = cfgLive40 := rfl
attribute [simp] cfgLive40
@[simp] theorem live_41 : cfg.live 41 = cfgLive41 := rfl
attribute [simp] cfgLive41
@[simp] theorem live_42 : cfg.live 42 = cfgLive42 := rfl
attribute [simp] cfgLive42
@[simp] theorem live_43 : cfg.live 43 = cfgLive43 := rfl
attribute [simp] cfgLive43
@[simp] theorem live_44 : cfg.live 44 = cfgLive44 := rfl
attribute [simp] cfgLive44
@[simp] theorem live_45 : cfg.live 45 = cfgLive45 := rfl
attribute [simp] cfgLive45
@[simp] theorem live_46 : cfg.live 46 = cfgLive46 := rfl
attribute [simp] cfgLive46
@[simp] theorem live_47 : cfg.live 47 = cfgLive47 := rfl
attribute [simp] cfgLive47
@[simp] theorem live_48 : cfg.live 48 = cfgLive48 := rfl
attribute [simp] cfgLive48
@[simp] theorem live_49 : cfg.live 49 = cfgLive49 := rfl
attribute [simp] cfgLive49
@[simp] theorem live_50 : cfg.live 50 = cfgLive50 := rfl
attribute [simp] cfgLive50
@[simp] theorem live_51 : cfg.live 51 = cfgLive51 := rfl
attribute [simp] cfgLive51
@[simp] theorem live_52 : cfg.live 52 = cfgLive52 := rfl
attribute [simp] cfgLive52
@[simp] theorem live_53 : cfg.live 53 = cfgLive53 := rfl
attribute [simp] cfgLive53
@[simp] theorem live_54 : cfg.live 54 = cfgLive54 := rfl
attribute [simp] cfgLive54
@[simp] theorem live_55 : cfg.live 55 = cfgLive55 := rfl
attribute [simp] cfgLive55
@[simp] theorem live_56 : cfg.live 56 = cfgLive56 := rfl
attribute [simp] cfgLive56
@[simp] theorem live_57 : cfg.live 57 = cfgLive57 := rfl
attribute [simp] cfgLive57
@[simp] theorem live_58 : cfg.live 58 = cfgLive58 := rfl
attribute [simp] cfgLive58
@[simp] theorem live_59 : cfg.live 59 = cfgLive59 := rfl
attribute [simp] cfgLive59
@[simp] theorem live_60 : cfg.live 60 = cfgLive60 := rfl
attribute [simp] cfgLive60
@[simp] theorem live_61 : cfg.live 61 = cfgLive61 := rfl
attribute [simp] cfgLive61
@[simp] theorem live_62 : cfg.live 62 = cfgLive62 := rfl
attribute [simp] cfgLive62
@[simp] theorem live_63 : cfg.live 63 = cfgLive63 := rfl
attribute [simp] cfgLive63
@[simp] theorem live_64 : cfg.live 64 = cfgLive64 := rfl
attribute [simp] cfgLive64
@[simp] theorem live_65 : cfg.live 65 = cfgLive65 := rfl
attribute [simp] cfgLive65
@[simp] theorem live_66 : cfg.live 66 = cfgLive66 := rfl
attribute [simp] cfgLive66
@[simp] theorem live_67 : cfg.live 67 = cfgLive67 := rfl
attribute [simp] cfgLive67
@[simp] theorem live_68 : cfg.live 68 = cfgLive68 := rfl
attribute [simp] cfgLive68
@[simp] theorem live_69 : cfg.live 69 = cfgLive69 := rfl
attribute [simp] cfgLive69
@[simp] theorem live_70 : cfg.live 70 = cfgLive70 := rfl
attribute [simp] cfgLive70
@[simp] theorem live_71 : cfg.live 71 = cfgLive71 := rfl
attribute [simp] cfgLive71
@[simp] theorem live_72 : cfg.live 72 = cfgLive72 := rfl
attribute [simp] cfgLive72
@[simp] theorem live_73 : cfg.live 73 = cfgLive73 := rfl
attribute [simp] cfgLive73
@[simp] theorem live_74 : cfg.live 74 = cfgLive74 := rfl
attribute [simp] cfgLive74
@[simp] theorem live_75 : cfg.live 75 = cfgLive75 := rfl
attribute [simp] cfgLive75
@[simp] theorem live_76 : cfg.live 76 = cfgLive76 := rfl
attribute [simp] cfgLive76
@[simp] theorem live_77 : cfg.live 77 = cfgLive77 := rfl
attribute [simp] cfgLive77
@[simp] theorem live_78 : cfg.live 78 = cfgLive78 := rfl
attribute [simp] cfgLive78
@[simp] theorem live_79 : cfg.live 79 = cfgLive79 := rfl
attribute [simp] cfgLive79
@[simp] theorem live_80 : cfg.live 80 = cfgLive80 := rfl
attribute [simp] cfgLive80
@[simp] theorem live_81 : cfg.live 81 = cfgLive81 := rfl
attribute [simp] cfgLive81
@[simp] theorem live_82 : cfg.live 82 = cfgLive82 := rfl
attribute [simp] cfgLive82
@[simp] theorem live_83 : cfg.live 83 = cfgLive83 := rfl
attribute [simp] cfgLive83
@[simp] theorem live_84 : cfg.live 84 = cfgLive84 := rfl
attribute [simp] cfgLive84
@[simp] theorem live_85 : cfg.live 85 = cfgLive85 := rfl
attribute [simp] cfgLive85
@[simp] theorem live_86 : cfg.live 86 = cfgLive86 := rfl
attribute [simp] cfgLive86
@[simp] theorem live_87 : cfg.live 87 = cfgLive87 := rfl
attribute [simp] cfgLive87
@[simp] theorem live_88 : cfg.live 88 = cfgLive88 := rfl
attribute [simp] cfgLive88
@[simp] theorem live_89 : cfg.live 89 = cfgLive89 := rfl
attribute [simp] cfgLive89
@[simp] theorem live_90 : cfg.live 90 = cfgLive90 := rfl
attribute [simp] cfgLive90
@[simp] theorem live_91 : cfg.live 91 = cfgLive91 := rfl
attribute [simp] cfgLive91
@[simp] theorem live_92 : cfg.live 92 = cfgLive92 := rfl
attribute [simp] cfgLive92
@[simp] theorem live_93 : cfg.live 93 = cfgLive93 := rfl
attribute [simp] cfgLive93
@[simp] theorem live_94 : cfg.live 94 = cfgLive94 := rfl
attribute [simp] cfgLive94
@[simp] theorem live_95 : cfg.live 95 = cfgLive95 := rfl
attribute [simp] cfgLive95
@[simp] theorem live_96 : cfg.live 96 = cfgLive96 := rfl
attribute [simp] cfgLive96
@[simp] theorem live_97 : cfg.live 97 = cfgLive97 := rfl
attribute [simp] cfgLive97
@[simp] theorem live_98 : cfg.live 98 = cfgLive98 := rfl
attribute [simp] cfgLive98
@[simp] theorem live_99 : cfg.live 99 = cfgLive99 := rfl
attribute [simp] cfgLive99
@[simp] theorem live_100 : cfg.live 100 = cfgLive100 := rfl
attribute [simp] cfgLive100
@[simp] theorem live_101 : cfg.live 101 = cfgLive101 := rfl
attribute [simp] cfgLive101
@[simp] theorem live_102 : cfg.live 102 = cfgLive102 := rfl
attribute [simp] cfgLive102
@[simp] theorem live_103 : cfg.live 103 = cfgLive103 := rfl
attribute [simp] cfgLive103
@[simp] theorem live_104 : cfg.live 104 = cfgLive104 := rfl
attribute [simp] cfgLive104
@[simp] theorem live_105 : cfg.live 105 = cfgLive105 := rfl
attribute [simp] cfgLive105
@[simp] theorem live_106 : cfg.live 106 = cfgLive106 := rfl
attribute [simp] cfgLive106
@[simp] theorem live_107 : cfg.live 107 = cfgLive107 := rfl
attribute [simp] cfgLive107
@[simp] theorem live_108 : cfg.live 108 = cfgLive108 := rfl
attribute [simp] cfgLive108
@[simp] theorem loc_0 (d : Nat) : cfg.loc 0 d = false := rfl
@[simp] theorem goCall_0 (call : CallT) (st : St) (nx : Nat) (dst : Option Nat) (args : List AV) : goCall cfg call st nx dst 0 args = nCall call st nx dst 0 args := goCall_n rfl rfl rfl rfl rfl
@[simp] theorem loc_1 (d : Nat) : cfg.loc 1 d = false := rfl
@[simp] theorem goCall_1 (call : CallT) (st : St) (nx : Nat) (dst : Option Nat) (args : List AV) : goCall cfg call st nx dst 1 args = nCall call st nx dst 1 args := goCall_n rfl rfl rfl rfl rfl
@[simp] theorem loc_2 (d : Nat) : cfg.loc 2 d = false := rfl
@[simp] theorem goCall_2 (call : CallT) (st : St) (nx : Nat) (dst : Option Nat) (args : List AV) : goCall cfg call st nx dst 2 args = nCall call st nx dst 2 args := goCall_n rfl rfl rfl rfl rfl
@[simp] theorem loc_3 (d : Nat) : cfg.loc 3 d = false := rfl
@[simp] theorem goCall_3 (call : CallT) (st : St) (nx : Nat) (dst : Option Nat) (args : List AV) : goCall cfg call st nx dst 3 args = nCall call st nx dst 3 args := goCall_n rfl rfl rfl rfl rfl
@[simp] theorem loc_4 (d : Nat) : cfg.loc 4 d = [3, 4, 7, 8, 15, 17].contains d := rfl
@[simp] theorem goCall_4 (call : CallT) (st : St) (nx : Nat) (dst : Option Nat) (args : List AV) : goCall cfg call st nx dst 4 args = nCall call st nx dst 4 args := goCall_n rfl rfl rfl rfl rfl
@[simp] theorem loc_5 (d : Nat) : cfg.loc 5 d = [15].contains d := rfl
@[simp] theorem goCall_5 (call : CallT) (st : St) (nx : Nat) (dst : Option Nat) (args : List AV) : goCall cfg call st nx dst 5 args = nCall call st nx dst 5 args := goCall_n rfl rfl rfl rfl rfl
@[simp] theorem loc_6 (d : Nat) : cfg.loc 6 d = false := rfl
@[simp] theorem goCall_6 (call : CallT) (st : St) (nx : Nat) (dst : Option Nat) (args : List AV) : goCall cfg call st nx dst 6 args = nCall call st nx dst 6 args := goCall_n rfl rfl rfl rfl rfl
@[simp] theorem loc_7 (d : Nat) : cfg.loc 7 d = false := rfl
@[simp] theorem goCall_7 (call : CallT) (st : St) (nx : Nat) (dst : Option Nat) (args : List AV) : goCall cfg call st nx dst 7 args = fCall call st nx dst 7 args := goCall_f rfl rfl rfl
@[simp] theorem loc_8 (d : Nat) : cfg.loc 8 d = false := rfl
@[simp] theorem goCall_8 (call : CallT) (st : St) (nx : Nat) (dst : Option Nat) (args : List AV) : goCall cfg call st nx dst 8 args = pnCall call st nx dst 8 args := goCall_eq rfl rfl rfl rfl rfl
@[simp] theorem loc_9 (d : Nat) : cfg.loc 9 d = false := rfl
@[simp] theorem goCall_9 (call : CallT) (st : St) (nx : Nat) (dst : Option Nat) (args : List AV) : goCall cfg call st nx dst 9 args = pnCall call st nx dst 9 args := goCall_eq rfl rfl rfl rfl rfl
@[simp] theorem loc_10 (d : Nat) : cfg.loc 10 d = false := rfl
@[simp] theorem goCall_10 (call : CallT) (st : St) (nx : Nat) (dst : Option Nat) (args : List AV) : goCall cfg call st nx dst 10 args = fCall call st nx dst 10 args := goCall_f rfl rfl rfl
@[simp] theorem loc_11 (d : Nat) : cfg.loc 11 d = false := rfl
@[simp] theorem goCall_11 (call : CallT) (st : St) (nx : Nat) (dst : Option Nat) (args : List AV) : goCall cfg call st nx dst 11 args = nCall call st nx dst 11 args := goCall_n rfl rfl rfl rfl rfl
@[simp] theorem loc_12 (d : Nat) : cfg.loc 12 d = [10].contains d := rfl
@[simp] theorem goCall_12 (call : CallT) (st : St) (nx : Nat) (dst : Option Nat) (args : List AV) : goCall cfg call st nx dst 12 args = fCall call st nx dst 12 args := goCall_f rfl rfl rfl
@[simp] theorem loc_13 (d : Nat) : cfg.loc 13 d = [10].contains d := rfl
@[simp] theorem goCall_13 (call : CallT) (st : St) (nx : Nat) (dst : Option Nat) (args : List AV) : goCall cfg call st nx dst 13 args = nCall call st nx dst 13 args := goCall_n rfl rfl rfl rfl rfl
@[simp] theorem loc_14 (d : Nat) : cfg.loc 14 d = false := rfl
@[simp] theorem goCall_14 (call : CallT) (st : St) (nx : Nat) (dst : Option Nat) (args : List AV) : goCall cfg call st nx dst 14 args = goCallH call st nx dst 14 args := goCall_h rfl rfl
@[simp] theorem loc_15 (d : Nat) : cfg.loc 15 d = [7, 8].contains d := rfl
@[simp] theorem goCall_15 (call : CallT) (st : St) (nx : Nat) (dst : Option Nat) (args : List AV) : goCall cfg call st nx dst 15 args = fCall call st nx dst 15 args := goCall_f rfl rfl rfl
@[simp] theorem loc_16 (d : Nat) : cfg.loc 16 d = false := rfl
@[simp] theorem goCall_16 (call : CallT) (st : St) (nx : Nat) (dst : Option Nat) (args : List AV) : goCall cfg call st nx dst 16 args = nCall call st nx dst 16 args := goCall_n rfl rfl rfl rfl rfl
@[simp] theorem loc_17 (d : Nat) : cfg.loc 17 d = false := rfl
@[simp] theorem goCall_17 (call : CallT) (st : St) (nx : Nat) (dst : Option Nat) (args : List AV) : goCall cfg call st nx dst 17 args = fCall call st nx dst 17 args := goCall_f rfl rfl rfl
@[simp] theorem loc_18 (d : Nat) : cfg.loc 18 d = [1, 2].contains d := rfl
@[simp] theorem goCall_18 (call : CallT) (st : St) (nx : Nat) (dst : Option Nat) (args : List AV) : goCall cfg call st nx dst 18 args = fCall call st nx dst 18 args := goCall_f rfl rfl rfl
@[simp] theorem loc_19 (d : Nat) : cfg.loc 19 d = false := rfl
@[simp] theorem goCall_19 (call : CallT) (st : St) (nx : Nat) (dst : Option Nat) (args : List AV) : goCall cfg call st nx dst 19 args = nCall call st nx dst 19 args := goCall_n rfl rfl rfl rfl rfl
@[simp] theorem loc_20 (d : Nat) : cfg.loc 20 d = [1].contains d := rfl
@[simp] theorem goCall_20 (call : CallT) (st : St) (nx : Nat) (dst : Option Nat) (args : List AV) : goCall cfg call st nx dst 20 args = nCall call st nx dst 20 args := goCall_n rfl rfl rfl rfl rfl
@[simp] theorem loc_21 (d : Nat) : cfg.loc 21 d = [1].contains d := rfl
@[simp] theorem goCall_21 (call : CallT) (st : St) (nx : Nat) (dst : Option Nat) (args : List AV) : goCall cfg call st nx dst 21 args = nCall call st nx dst 21 args := goCall_n rfl rfl rfl rfl rfl
@[simp] theorem loc_22 (d : Nat) : cfg.loc 22 d = [2, 3].contains d := rfl
@[simp] theorem goCall_22 (call : CallT) (st : St) (nx : Nat) (dst : Option Nat) (args : List AV) : goCall cfg call st nx dst 22 args = nCall call st nx dst 22 args := goCall_n rfl rfl rfl rfl rfl
@[simp] theorem loc_23 (d : Nat) : cfg.loc 23 d = [2, 3].contains d := rfl
@[simp] theorem goCall_23 (call : CallT) (st : St) (nx : Nat) (dst : Option Nat) (args : List AV) : goCall cfg call st nx dst 23 args = pnCall call st nx dst 23 args := goCall_eq rfl rfl rfl rfl rfl
@[simp] theorem loc_24 (d : Nat) : cfg.loc 24 d = [2, 4].contains d := rfl
@[simp] theorem goCall_24 (call : CallT) (st : St) (nx : Nat) (dst : Option Nat) (args : List AV) : goCall cfg call st nx dst 24 args = nCall call st nx dst 24 args := goCall_n rfl rfl rfl rfl rfl
@[simp] theorem loc_25 (d : Nat) : cfg.loc 25 d = [2, 4].contains d := rfl
@[simp] theorem goCall_25 (call : CallT) (st : St) (nx : Nat) (dst : Option Nat) (args : List AV) : goCall cfg call st nx dst 25 args = nCall call st nx dst 25 args := goCall_n rfl rfl rfl rfl rfl
@[simp] theorem loc_26 (d : Nat) : cfg.loc 26 d = [1].contains d := rfl
@[simp] theorem goCall_26 (call : CallT) (st : St) (nx : Nat) (dst : Option Nat) (args : List AV) : goCall cfg call st nx dst 26 args = goCallH call st nx dst 26 args := goCall_h rfl rfl
@[simp] theorem loc_27 (d : Nat) : cfg.loc 27 d = false := rfl
@[simp] theorem goCall_27 (call : CallT) (st : St) (nx : Nat) (dst : Option Nat) (args : List AV) : goCall cfg call st nx dst 27 args = pnCall call st nx dst 27 args := goCall_eq rfl rfl rfl rfl rfl
@[simp] theorem loc_28 (d : Nat) : cfg.loc 28 d = [10].contains d := rfl
@[simp] theorem goCall_28 (call : CallT) (st : St) (nx : Nat) (dst : Option Nat) (args : List AV) : goCall cfg call st nx dst 28 args = nCall call st nx dst 28 args := goCall_n rfl rfl rfl rfl rfl
@[simp] theorem loc_29 (d : Nat) : cfg.loc 29 d = false := rfl
@[simp] theorem goCall_29 (call : CallT) (st : St) (nx : Nat) (dst : Option Nat) (args : List AV) : goCall cfg call st nx dst 29 args = pnCall call st nx dst 29 args := goCall_eq rfl rfl rfl rfl rfl
@[simp] theorem loc_30 (d : Nat) : cfg.loc 30 d = [7].contains d := rfl
@[simp] theorem goCall_30 (call : CallT) (st : St) (nx : Nat) (dst : Option Nat) (args : List AV) : goCall cfg call st nx dst 30 args = pnCall call st nx dst 30 args := goCall_eq rfl rfl rfl rfl rfl
@[simp] theorem loc_31 (d : Nat) : cfg.loc 31 d = [9, 10].contains d := rfl
@[simp] theorem goCall_31 (call : CallT) (st : St) (nx : Nat) (dst : Option Nat) (args : List AV) : goCall cfg call st nx dst 31 args = pnCall call st nx dst 31 args := goCall_eq rfl rfl rfl rfl rfl
@[simp] theorem loc_32 (d : Nat) : cfg.loc 32 d = [1].contains d := rfl
@[simp] theorem goCall_32 (call : CallT) (st : St) (nx : Nat) (dst : Option Nat) (args : List AV) : goCall cfg call st nx dst 32 args = pnCall call st nx dst 32 args := goCall_eq rfl rfl rfl rfl rfl
@[simp] theorem loc_33 (d : Nat) : cfg.loc 33 d = [7].contains d := rfl
@[simp] theorem goCall_33 (call : CallT) (st : St) (nx : Nat) (dst : Option Nat) (args : List AV) : goCall cfg call st nx dst 33 args = pnCall call st nx dst 33 args := goCall_eq rfl rfl rfl rfl rfl
@[simp] theorem loc_34 (d : Nat) : cfg.loc 34 d = [12].contains d := rfl
@[simp] theorem goCall_34 (call : CallT) (st : St) (nx : Nat) (dst : Option Nat) (args : List AV) : goCall cfg call st nx dst 34 args = fCall call st nx dst 34 args := goCall_f rfl rfl rfl
@[simp] theorem loc_35 (d : Nat) : cfg.loc 35 d = [5].contains d := rfl
@[simp] theorem goCall_35 (call : CallT) (st : St) (nx : Nat) (dst : Option Nat) (args : List AV) : goCall cfg call st nx dst 35 args = pnCall call st nx dst 35 args := goCall_eq rfl rfl rfl rfl rfl
@[simp] theorem loc_36 (d : Nat) : cfg.loc 36 d = [1, 2, 5].contains d := rfl
@[simp] theorem goCall_36 (call : CallT) (st : St) (nx : Nat) (dst : Option Nat) (args : List AV) : goCall cfg call st nx dst 36 args = fCall call st nx dst 36 args := goCall_f rfl rfl rfl
@[simp] theorem loc_37 (d : Nat) : cfg.loc 37 d = false := rfl
@[simp] theorem goCall_37 (call : CallT) (st : St) (nx : Nat) (dst : Option Nat) (args : List AV) : goCall cfg call st nx dst 37 args = nCall call st nx dst 37 args := goCall_n rfl rfl rfl rfl rfl
@[simp] theorem loc_38 (d : Nat) : cfg.loc 38 d = [2, 3].contains d := rfl
@[simp] theorem goCall_38 (call : CallT) (st : St) (nx : Nat) (dst : Option Nat) (args : List AV) : goCall cfg call st nx dst 38 args = pnCall call st nx dst 38 args := goCall_eq rfl rfl rfl rfl rfl
@[simp] theorem loc_39 (d : Nat) : cfg.loc 39 d = false := rfl
@[simp] theorem goCall_39 (call : CallT) (st : St) (nx : Nat) (dst : Option Nat) (args : List AV) : goCall cfg call st nx dst 39 args = fCall call st nx dst 39 args := goCall_f rfl rfl rfl
@[simp] theorem loc_40 (d : Nat) : cfg.loc 40 d = false := rfl
@[simp] theorem goCall_40 (call : CallT) (st : St) (nx : Nat) (dst : Option Nat) (args : List AV) : goCall cfg call st nx dst 40 args = fCall call st nx dst 40 args := goCall_f rfl rfl rfl
@[simp] theorem loc_41 (d : Nat) : cfg.loc 41 d = false := rfl
@[simp] theorem goCall_41 (call : CallT) (st : St) (nx : Nat) (dst : Option Nat) (args : List AV) : goCall cfg call st nx dst 41 args = fCall call st nx dst 41 args := goCall_f rfl rfl rfl
@[simp] theorem loc_42 (d : Nat) : cfg.loc 42 d = [1].contains d := rfl
@[simp] theorem goCall_42 (call : CallT) (st : St) (nx : Nat) (dst : Option Nat) (args : List AV) : goCall cfg call st nx dst 42 args = nCall call st nx dst 42 args := goCall_n rfl rfl rfl rfl rfl
@[simp] theorem loc_43 (d : Nat) : cfg.loc 43 d = false := rfl
@[simp] theorem goCall_43 (call : CallT) (st : St) (nx : Nat) (dst : Option Nat) (args : List AV) : goCall cfg call st nx dst 43 args = nCall call st nx dst 43 args := goCall_n rfl rfl rfl rfl rfl
@[simp] theorem loc_44 (d : Nat) : cfg.loc 44 d = false := rfl
@[simp] theorem goCall_44 (call : CallT) (st : St) (nx : Nat) (dst : Option Nat) (args : List AV) : goCall cfg call st nx dst 44 args = nCall call st nx dst 44 args := goCall_n rfl rfl rfl rfl rfl
@[simp] theorem loc_45 (d : Nat) : cfg.loc 45 d = false := rfl
@[simp] theorem goCall_45 (call : CallT) (st : St) (nx : Nat) (dst : Option Nat) (args : List AV) : goCall cfg call st nx dst 45 args = nCall call st nx dst 45 args := goCall_n rfl rfl rfl rfl rfl
@[simp] theorem loc_46 (d : Nat) : cfg.loc 46 d = [2, 3].contains d := rfl
@[simp] theorem goCall_46 (call : CallT) (st : St) (nx : Nat) (dst : Option Nat) (args : List AV) : goCall cfg call st nx dst 46 args = pnCall call st nx dst 46 args := goCall_eq rfl rfl rfl rfl rfl
@[simp] theorem loc_47 (d : Nat) : cfg.loc 47 d = [1, 2].contains d := rfl
@[simp] theorem goCall_47 (call : CallT) (st : St) (nx : Nat) (dst : Option Nat) (args : List AV) : goCall cfg call st nx dst 47 args = pnCall call st nx dst 47 args := goCall_eq rfl rfl rfl rfl rfl
@[simp] theorem loc_48 (d : Nat) : cfg.loc 48 d = [2].contains d := rfl
@[simp] theorem goCall_48 (call : CallT) (st : St) (nx : Nat) (dst : Option Nat) (args : List AV) : goCall cfg call st nx dst 48 args = nCall call st nx dst 48 args := goCall_n rfl rfl rfl rfl rfl
@[simp] theorem loc_49 (d : Nat) : cfg.loc 49 d = false := rfl
@[simp] theorem goCall_49 (call : CallT) (st : St) (nx : Nat) (dst : Option Nat) (args : List AV) : goCall cfg call st nx dst 49 args = nCall call st nx dst 49 args := goCall_n rfl rfl rfl rfl rfl
@[simp] theorem loc_50 (d : Nat) : cfg.loc 50 d = [7].contains d := rfl
@[simp] theorem goCall_50 (call : CallT) (st : St) (nx : Nat) (dst : Option Nat) (args : List AV) : goCall cfg call st nx dst 50 args = nCall call st nx dst 50 args := goCall_n rfl rfl rfl rfl rfl
@[simp] theorem loc_51 (d : Nat) : cfg.loc 51 d = false := rfl
@[simp] theorem goCall_51 (call : CallT) (st : St) (nx : Nat) (dst : Option Nat) (args : List AV) : goCall cfg call st nx dst 51 args = goCallH call st nx dst 51 args := goCall_h rfl rfl
@[simp] theorem loc_52 (d : Nat) : cfg.loc 52 d = [4].contains d := rfl
@[simp] theorem goCall_52 (call : CallT) (st : St) (nx : Nat) (dst : Option Nat) (args : List AV) : goCall cfg call st nx dst 52 args = nCall call st nx dst 52 args := goCall_n rfl rfl rfl rfl rfl
@[simp] theorem loc_53 (d : Nat) : cfg.loc 53 d = false := rfl
@[simp] theorem goCall_53 (call : CallT) (st : St) (nx : Nat) (dst : Option Nat) (args : List AV) : goCall cfg call st nx dst 53 args = pnCall call st nx dst 53 args := goCall_eq rfl rfl rfl rfl rfl
@[simp] theorem loc_54 (d : Nat) : cfg.loc 54 d = [1].contains d := rfl
@[simp] theorem goCall_54 (call : CallT) (st : St) (nx : Nat) (dst : Option Nat) (args : List AV) : goCall cfg call st nx dst 54 args = pnCall call st nx dst 54 args := goCall_eq rfl rfl rfl rfl rfl
@[simp] theorem loc_55 (d : Nat) : cfg.loc 55 d = [1].contains d := rfl
@[simp] theorem goCall_55 (call : CallT) (st : St) (nx : Nat) (dst : Option Nat) (args : List AV) : goCall cfg call st nx dst 55 args = pnCall call st nx dst 55 args := goCall_eq rfl rfl rfl rfl rfl
@[simp] theorem loc_56 (d : Nat) : cfg.loc 56 d = false := rfl
@[simp] theorem goCall_56 (call : CallT) (st : St) (nx : Nat) (dst : Option Nat) (args : List AV) : goCall cfg call st nx dst 56 args = pnCall call st nx dst 56 args := goCall_eq rfl rfl rfl rfl rfl
@[simp] theorem loc_57 (d : Nat) : cfg.loc 57 d = false := rfl
@[simp] theorem goCall_57 (call : CallT) (st : St) (nx : Nat) (dst : Option Nat) (args : List AV) : goCall cfg call st nx dst 57 args = pnCall call st nx dst 57 args := goCall_eq rfl rfl rfl rfl rfl
@[simp] theorem loc_58 (d : Nat) : cfg.loc 58 d = [1].contains d := rfl
@[simp] theorem goCall_58 (call : CallT) (st : St) (nx : Nat) (dst : Option Nat) (args : List AV) : goCall cfg call st nx dst 58 args = pnCall call st nx dst 58 args := goCall_eq rfl rfl rfl rfl rfl
@[simp] theorem loc_59 (d : Nat) : cfg.loc 59 d = false := rfl
@[simp] theorem goCall_59 (call : CallT) (st : St) (nx : Nat) (dst : Option Nat) (args : List AV) : goCall cfg call st nx dst 59 args = pnCall call st nx dst 59 args := goCall_eq rfl rfl rfl rfl rfl
@[simp] theorem loc_60 (d : Nat) : cfg.loc 60 d = false := rfl
@[simp] theorem goCall_60 (call : CallT) (st : St) (nx : Nat) (dst : Option Nat) (args : List AV) : goCall cfg call st nx dst 60 args = pnCall call st nx dst 60 args := goCall_eq rfl rfl rfl rfl rfl
@[simp] theorem loc_61 (d : Nat) : cfg.loc 61 d = false := rfl
@[simp] theorem goCall_61 (call : CallT) (st : St) (nx : Nat) (dst : Option Nat) (args : List AV) : goCall cfg call st nx dst 61 args = pnCall call st nx dst 61 args := goCall_eq rfl rfl rfl rfl rfl
@[simp] theorem loc_62 (d : Nat) : cfg.loc 62 d = false := rfl
@[simp] theorem goCall_62 (call : CallT) (st : St) (nx : Nat) (dst : Option Nat) (args : List AV) : goCall cfg call st nx dst 62 args = nCall call st nx dst 62 args := goCall_n rfl rfl rfl rfl rfl
@[simp] theorem loc_63 (d : Nat) : cfg.loc 63 d = false := rfl
@[simp] theorem goCall_63 (call : CallT) (st : St) (nx : Nat) (dst : Option Nat) (args : List AV) : goCall cfg call st nx dst 63 args = nCall call st nx dst 63 args := goCall_n rfl rfl rfl rfl rfl
@[simp] theorem loc_64 (d : Nat) : cfg.loc 64 d = false := rfl
@[simp] theorem goCall_64 (call : CallT) (st : St) (nx : Nat) (dst : Option Nat) (args : List AV) : goCall cfg call st nx dst 64 args = nCall call st nx dst 64 args := goCall_n rfl rfl rfl rfl rfl
@[simp] theorem loc_65 (d : Nat) : cfg.loc 65 d = false := rfl
@[simp] theorem goCall_65 (call : CallT) (st : St) (nx : Nat) (dst : Option Nat) (args : List AV) : goCall cfg call st nx dst 65 args = nCall call st nx dst 65 args := goCall_n rfl rfl rfl rfl rfl
@[simp] theorem loc_66 (d : Nat) : cfg.loc 66 d = false := rfl
@[simp] theorem goCall_66 (call : CallT) (st : St) (nx : Nat) (dst : Option Nat) (args : List AV) : goCall cfg call st nx dst 66 args = nCall call st nx dst 66 args := goCall_n rfl rfl rfl rfl rfl
@[simp] theorem loc_67 (d : Nat) : cfg.loc 67 d = [1].contains d := rfl
@[simp] theorem goCall_67 (call : CallT) (st : St) (nx : Nat) (dst : Option Nat) (args : List AV) : goCall cfg call st nx dst 67 args = nCall call st nx dst 67 args := goCall_n rfl rfl rfl rfl rfl
@[simp] theorem loc_68 (d : Nat) : cfg.loc 68 d = false := rfl
@[simp] theorem goCall_68 (call : CallT) (st : St) (nx : Nat) (dst : Option Nat) (args : List AV) : goCall cfg call st nx dst 68 args = pnCall call st nx dst 68 args := goCall_eq rfl rfl rfl rfl rfl
@[simp] theorem loc_69 (d : Nat) : cfg.loc 69 d = [8, 9].contains d := rfl
@[simp] theorem goCall_69 (call : CallT) (st : St) (nx : Nat) (dst : Option Nat) (args : List AV) : goCall cfg call st nx dst 69 args = pnCall call st nx dst 69 args := goCall_eq rfl rfl rfl rfl rfl
@[simp] theorem loc_70 (d : Nat) : cfg.loc 70 d = [2, 3].contains d := rfl
@[simp] theorem goCall_70 (call : CallT) (st : St) (nx : Nat) (dst : Option Nat) (args : List AV) : goCall cfg call st nx dst 70 args = pnCall call st nx dst 70 args := goCall_eq rfl rfl rfl rfl rfl
@[simp] theorem loc_71 (d : Nat) : cfg.loc 71 d = false := rfl
@[simp] theorem goCall_71 (call : CallT) (st : St) (nx : Nat) (dst : Option Nat) (args : List AV) : goCall cfg call st nx dst 71 args = nCall call st nx dst 71 args := goCall_n rfl rfl rfl rfl rfl
@[simp] theorem loc_72 (d : Nat) : cfg.loc 72 d = false := rfl
@[simp] theorem goCall_72 (call : CallT) (st : St) (nx : Nat) (dst : Option Nat) (args : List AV) : goCall cfg call st nx dst 72 args = nCall call st nx dst 72 args := goCall_n rfl rfl rfl rfl rfl
@[simp] theorem loc_73 (d : Nat) : cfg.loc 73 d = false := rfl
@[simp] theorem goCall_73 (call : CallT) (st : St) (nx : Nat) (dst : Option Nat) (args : List AV) : goCall cfg call st nx dst 73 args = nCall call st nx dst 73 args := goCall_n rfl rfl rfl rfl rfl
@[simp] theorem loc_74 (d : Nat) : cfg.loc 74 d = [2].contains d := rfl
@[simp] theorem goCall_74 (call : CallT) (st : St) (nx : Nat) (dst : Option Nat) (args : List AV) : goCall cfg call st nx dst 74 args = nCall call st nx dst 74 args := goCall_n rfl rfl rfl rfl rfl
@[simp] theorem loc_75 (d : Nat) : cfg.loc 75 d = false := rfl
@[simp] theorem goCall_75 (call : CallT) (st : St) (nx : Nat) (dst : Option Nat) (args : List AV) : goCall cfg call st nx dst 75 args = pnCall call st nx dst 75 args := goCall_eq rfl rfl rfl rfl rfl
@[simp] theorem loc_76 (d : Nat) : cfg.loc 76 d = false := rfl
@[simp] theorem goCall_76 (call : CallT) (st : St) (nx : Nat) (dst : Option Nat) (args : List AV) : goCall cfg call st nx dst 76 args = pnCall call st nx dst 76 args := goCall_eq rfl rfl rfl rfl rfl
@[simp] theorem loc_77 (d : Nat) : cfg.loc 77 d = [1].contains d := rfl
@[simp] theorem goCall_77 (call : CallT) (st : St) (nx : Nat) (dst : Option Nat) (args : List AV) : goCall cfg call st nx dst 77 args = pnCall call st nx dst 77 args := goCall_eq rfl rfl rfl rfl rfl
@[simp] theorem loc_78 (d : Nat) : cfg.loc 78 d = [1].contains d := rfl
@[simp] theorem goCall_78 (call : CallT) (st : St) (nx : Nat) (dst : Option Nat) (args : List AV) : goCall cfg call st nx dst 78 args = pnCall call st nx dst 78 args := goCall_eq rfl rfl rfl rfl rfl
@[simp] theorem loc_79 (d : Nat) : cfg.loc 79 d = false := rfl
@[simp] theorem goCall_79 (call : CallT) (st : St) (nx : Nat) (dst : Option Nat) (args : List AV) : goCall cfg call st nx dst 79 args = pnCall call st nx dst 79 args := goCall_eq rfl rfl rfl rfl rfl
@[simp] theorem loc_80 (d : Nat) : cfg.loc 80 d = false := rfl
@[simp] theorem goCall_80 (call : CallT) (st : St) (nx : Nat) (dst : Option Nat) (args : List AV) : goCall cfg call st nx dst 80 args = pnCall call st nx dst 80 args := goCall_eq rfl rfl rfl rfl rfl
@[simp] theorem loc_81 (d : Nat) : cfg.loc 81 d = false := rfl
@[simp] theorem goCall_81 (call : CallT) (st : St) (nx : Nat) (dst : Option Nat) (args : List AV) : goCall cfg call st nx dst 81 args = pnCall call st nx dst 81 args := goCall_eq rfl rfl rfl rfl rfl
@[simp] theorem loc_82 (d : Nat) : cfg.loc 82 d = false := rfl
@[simp] theorem goCall_82 (call : CallT) (st : St) (nx : Nat) (dst : Option Nat) (args : List AV) : goCall cfg call st nx dst 82 args = pnCall call st nx dst 82 args := goCall_eq rfl rfl rfl rfl rfl
@[simp] theorem loc_83 (d : Nat) : cfg.loc 83 d = false := rfl
@[simp] theorem goCall_83 (call : CallT) (st : St) (nx : Nat) (dst : Option Nat) (args : List AV) : goCall cfg call st nx dst 83 args = pnCall call st nx dst 83 args := goCall_eq rfl rfl rfl rfl rfl
@[simp] theorem loc_84 (d : Nat) : cfg.loc 84 d = [2].contains d := rfl
@[simp] theorem goCall_84 (call : CallT) (st : St) (nx : Nat) (dst : Option Nat) (args : List AV) : goCall cfg call st nx dst 84 args = pnCall call st nx dst 84 args := goCall_eq rfl rfl rfl rfl rfl
@[simp] theorem loc_85 (d : Nat) : cfg.loc 85 d = false := rfl
@[simp] theorem goCall_85 (call : CallT) (st : St) (nx : Nat) (dst : Option Nat) (args : List AV) : goCall cfg call st nx dst 85 args = nCall call st nx dst 85 args := goCall_n rfl rfl rfl rfl rfl
@[simp] theorem loc_86 (d : Nat) : cfg.loc 86 d = false := rfl
@[simp] theorem goCall_86 (call : CallT) (st : St) (nx : Nat) (dst : Option Nat) (args : List AV) : goCall cfg call st nx dst 86 args = nCall call st nx dst 86 args := goCall_n rfl rfl rfl rfl rfl
@[simp] theorem loc_87 (d : Nat) : cfg.loc 87 d = false := rfl
@[simp] theorem goCall_87 (call : CallT) (st : St) (nx : Nat) (dst : Option Nat) (args : List AV) : goCall cfg call st nx dst 87 args = nCall call st nx dst 87 args := goCall_n rfl rfl rfl rfl rfl
@[simp] theorem loc_88 (d : Nat) : cfg.loc 88 d = false := rfl
@[simp] theorem goCall_88 (call : CallT) (st : St) (nx : Nat) (dst : Option Nat) (args : List AV) : goCall cfg call st nx dst 88 args = nCall call st nx dst 88 args := goCall_n rfl rfl rfl rfl rfl
@[simp] theorem loc_89 (d : Nat) : cfg.loc 89 d = false := rfl
@[simp] theorem goCall_89 (call : CallT) (st : St) (nx : Nat) (dst : Option Nat) (args : List AV) : goCall cfg call st nx dst 89 args = nCall call st nx dst 89 args := goCall_n rfl rfl rfl rfl rfl
@[simp] theorem loc_90 (d : Nat) : cfg.loc 90 d = false := rfl
@[simp] theorem goCall_90 (call : CallT) (st : St) (nx : Nat) (dst : Option Nat) (args : List AV) : goCall cfg call st nx dst 90 args = nCall call st nx dst 90 args := goCall_n rfl rfl rfl rfl rfl
@[simp] theorem loc_91 (d : Nat) : cfg.loc 91 d = false := rfl
@[simp] theorem goCall_91 (call : CallT) (st : St) (nx : Nat) (dst : Option Nat) (args : List AV) : goCall cfg call st nx dst 91 args = nCall call st nx dst 91 args := goCall_n rfl rfl rfl rfl rfl
@[simp] theorem loc_92 (d : Nat) : cfg.loc 92 d = false := rfl
@[simp] theorem goCall_92 (call : CallT) (st : St) (nx : Nat) (dst : Option Nat) (args : List AV) : goCall cfg call st nx dst 92 args = nCall call st nx dst 92 args := goCall_n rfl rfl rfl rfl rfl
@[simp] theorem loc_93 (d : Nat) : cfg.loc 93 d = false := rfl
@[simp] theorem goCall_93 (call : CallT) (st : St) (nx : Nat) (dst : Option Nat) (args : List AV) : goCall cfg call st nx dst 93 args = nCall call st nx dst 93 args := goCall_n rfl rfl rfl rfl rfl
@[simp] theorem loc_94 (d : Nat) : cfg.loc 94 d = false := rfl
@[simp] theorem goCall_94 (call : CallT) (st : St) (nx : Nat) (dst : Option Nat) (args : List AV) : goCall cfg call st nx dst 94 args = nCall call st nx dst 94 args := goCall_n rfl rfl rfl rfl rfl
@[simp] theorem loc_95 (d : Nat) : cfg.loc 95 d = [6].contains d := rfl
@[simp] theorem goCall_95 (call : CallT) (st : St) (nx : Nat) (dst : Option Nat) (args : List AV) : goCall cfg call st nx dst 95 args = nCall call st nx dst 95 args := goCall_n rfl rfl rfl rfl rfl
@[simp] theorem loc_96 (d : Nat) : cfg.loc 96 d = false := rfl
@[simp] theorem goCall_96 (call : CallT) (st : St) (nx : Nat) (dst : Option Nat) (args : List AV) : goCall cfg call st nx dst 96 args = nCall call st nx dst 96 args := goCall_n rfl rfl rfl rfl rfl
@[simp] theorem loc_97 (d : Nat) : cfg.loc 97 d = [1].contains d := rfl
@[simp] theorem goCall_97 (call : CallT) (st : St) (nx : Nat) (dst : Option Nat) (args : List AV) : goCall cfg call st nx dst 97 args = nCall call st nx dst 97 args := goCall_n rfl rfl rfl rfl rfl
@[simp] theorem loc_98 (d : Nat) : cfg.loc 98 d = [6].contains d := rfl
@[simp] theorem goCall_98 (call : CallT) (st : St) (nx : Nat) (dst : Option Nat) (args : List AV) : goCall cfg call st nx dst 98 args = nCall call st nx dst 98 args := goCall_n rfl rfl rfl rfl rfl
@[simp] theorem loc_99 (d : Nat) : cfg.loc 99 d = [2].contains d := rfl
@[simp] theorem goCall_99 (call : CallT) (st : St) (nx : Nat) (dst : Option Nat) (args : List AV) : goCall cfg call st nx dst 99 args = nCall call st nx dst 99 args := goCall_n rfl rfl rfl rfl rfl
@[simp] theorem loc_100 (d : Nat) : cfg.loc 100 d = [2, 7].contains d := rfl
@[simp] theorem goCall_100 (call : CallT) (st : St) (nx : Nat) (dst : Option Nat) (args : List AV) : goCall cfg call st nx dst 100 args = nCall call st nx dst 100 args := goCall_n rfl rfl rfl rfl rfl
@[simp] theorem loc_101 (d : Nat) : cfg.loc 101 d = false := rfl
@[simp] theorem goCall_101 (call : CallT) (st : St) (nx : Nat) (dst : Option Nat) (args : List AV) : goCall cfg call st nx dst 101 args = pnCall call st nx dst 101 args := goCall_eq rfl rfl rfl rfl rfl
@[simp] theorem loc_102 (d : Nat) : cfg.loc 102 d = [6].contains d := rfl
@[simp] theorem loc_103 (d : Nat) : cfg.loc 103 d = false := rfl
@[simp] theorem goCall_103 (call : CallT) (st : St) (nx : Nat) (dst : Option Nat) (args : List AV) : goCall cfg call st nx dst 103 args = pnCall call st nx dst 103 args := goCall_eq rfl rfl rfl rfl rfl
@[simp] theorem loc_104 (d : Nat) : cfg.loc 104 d = false := rfl
@[simp] theorem goCall_104 (call : CallT) (st : St) (nx : Nat) (dst : Option Nat) (args : List AV) : goCall cfg call st nx dst 104 args = nCall call st nx dst 104 args := goCall_n rfl rfl rfl rfl rfl
@[simp] theorem loc_105 (d : Nat) : cfg.loc 105 d = false := rfl
@[simp] theorem goCall_105 (call : CallT) (st : St) (nx : Nat) (dst : Option Nat) (args : List AV) : goCall cfg call st nx dst 105 args = nCall call st nx dst 105 args := goCall_n rfl rfl rfl rfl rfl
@[simp] theorem loc_106 (d : Nat) : cfg.loc 106 d = false := rfl
@[simp] theorem goCall_106 (call : CallT) (st : St) (nx : Nat) (dst : Option Nat) (args : List AV) : goCall cfg call st nx dst 106 args = nCall call st nx dst 106 args := goCall_n rfl rfl rfl rfl rfl
@[simp] theorem loc_107 (d : Nat) : cfg.loc 107 d = false := rfl
@[simp] theorem goCall_107 (call : CallT) (st : St) (nx : Nat) (dst : Option Nat) (args : List AV) : goCall cfg call st nx dst 107 args = nCall call st nx dst 107 args := goCall_n rfl rfl rfl rfl rfl
@[simp] theorem loc_108 (d : Nat) : cfg.loc 108 d = false := rfl
@[simp] theorem goCall_108 (call : CallT) (st : St) (nx : Nat) (dst : Option Nat) (args : List AV) : goCall cfg call st nx dst 108 args = nCall call st nx dst 108 args := goCall_n rfl rfl rfl rfl rfl
end Ab
end Go.Proofs.YtidoflgcblglbaaDoor
