/-
  DERIVED. The simp facts of the tables.
  Conditions: none of a program's.
-/
import Derived.Test.YtmbbnoipoifhhaaGreatDoorCf
import Derived.Test.YtmbbnoipoifhhaaGreatDoorAbG
set_option linter.all false
set_option maxHeartbeats 4000000
namespace Go.Proofs.YtmbbnoipoifhhaaGreatDoor
namespace Ab
attribute [simp] cP
@[simp] theorem live_3 : cfg.live 3 = cfgLive3 := rfl
attribute [simp] cfgLive3
@[simp] theorem live_4 : cfg.live 4 = cfgLive4 := rfl
attribute [simp] cfgLive4
@[simp] theorem live_5 : cfg.live 5 = cfgLive5 := rfl
attribute [simp] cfgLive5
@[simp] theorem live_6 : cfg.live 6 = cfgLive6 := rfl
attribute [simp] cfgLive6
@[simp] theorem live_7 : cfg.live 7 = cfgLive7 := rfl
attribute [simp] cfgLive7
@[simp] theorem live_8 : cfg.live 8 = cfgLive8 := rfl
attribute [simp] cfgLive8
@[simp] theorem live_9 : cfg.live 9 = cfgLive9 := rfl
attribute [simp] cfgLive9
@[simp] theorem live_10 : cfg.live 10 = cfgLive10 := rfl
attribute [simp] cfgLive10
@[simp] theorem live_11 : cfg.live 11 = cfgLive11 := rfl
attribute [simp] cfgLive11
@[simp] theorem live_12 : cfg.live 12 = cfgLive12 := rfl
attribute [simp] cfgLive12
@[simp] theorem live_13 : cfg.live 13 = cfgLive13 := rfl
attribute [simp] cfgLive13
@[simp] theorem live_14 : cfg.live 14 = cfgLive14 := rfl
attribute [simp] cfgLive14
@[simp] theorem live_15 : cfg.live 15 = cfgLive15 := rfl
attribute [simp] cfgLive15
@[simp] theorem live_16 : cfg.live 16 = cfgLive16 := rfl
attribute [simp] cfgLive16
@[simp] theorem live_17 : cfg.live 17 = cfgLive17 := rfl
attribute [simp] cfgLive17
@[simp] theorem live_18 : cfg.live 18 = cfgLive18 := rfl
attribute [simp] cfgLive18
@[simp] theorem live_19 : cfg.live 19 = cfgLive19 := rfl
attribute [simp] cfgLive19
@[simp] theorem live_20 : cfg.live 20 = cfgLive20 := rfl
attribute [simp] cfgLive20
@[simp] theorem live_21 : cfg.live 21 = cfgLive21 := rfl
attribute [simp] cfgLive21
@[simp] theorem live_22 : cfg.live 22 = cfgLive22 := rfl
attribute [simp] cfgLive22
@[simp] theorem live_23 : cfg.live 23 = cfgLive23 := rfl
attribute [simp] cfgLive23
@[simp] theorem live_24 : cfg.live 24 = cfgLive24 := rfl
attribute [simp] cfgLive24
@[simp] theorem live_25 : cfg.live 25 = cfgLive25 := rfl
attribute [simp] cfgLive25
@[simp] theorem live_26 : cfg.live 26 = cfgLive26 := rfl
attribute [simp] cfgLive26
@[simp] theorem live_27 : cfg.live 27 = cfgLive27 := rfl
attribute [simp] cfgLive27
@[simp] theorem live_28 : cfg.live 28 = cfgLive28 := rfl
attribute [simp] cfgLive28
@[simp] theorem live_29 : cfg.live 29 = cfgLive29 := rfl
attribute [simp] cfgLive29
@[simp] theorem live_30 : cfg.live 30 = cfgLive30 := rfl
attribute [simp] cfgLive30
@[simp] theorem live_31 : cfg.live 31 = cfgLive31 := rfl
attribute [simp] cfgLive31
@[simp] theorem live_32 : cfg.live 32 = cfgLive32 := rfl
attribute [simp] cfgLive32
@[simp] theorem live_33 : cfg.live 33 = cfgLive33 := rfl
attribute [simp] cfgLive33
@[simp] theorem live_34 : cfg.live 34 = cfgLive34 := rfl
attribute [simp] cfgLive34
@[simp] theorem live_35 : cfg.live 35 = cfgLive35 := rfl
attribute [simp] cfgLive35
@[simp] theorem live_36 : cfg.live 36 = cfgLive36 := rfl
attribute [simp] cfgLive36
@[simp] theorem live_37 : cfg.live 37 = cfgLive37 := rfl
attribute [simp] cfgLive37
@[simp] theorem live_38 : cfg.live 38 = cfgLive38 := rfl
attribute [simp] cfgLive38
@[simp] theorem live_39 : cfg.live 39 = cfgLive39 := rfl
attribute [simp] cfgLive39
@[simp] theorem live_40 : cfg.live 40 = cfgLive40 := rfl
attribute [simp] cfgLive40
@[simp] theorem live_41 : cfg.live 41 = cfgLive41 := rfl
attribute [simp] cfgLive41
@[simp] theorem live_42 : cfg.live 42 = cfgLive42 := rfl
attribute [simp] cfgLive42
@[simp] theorem live_43 : cfg.live 43 = cfgLive43 := rfl
attribute [simp] cfgLive43
@[simp] theorem live_44 : cfg.live 44 = cfgLive44 := rfl
attribute [simp] cfgLive44
@[simp] theorem live_45 : cfg.live 45 = cfgLive45 := rfl
attribute [simp] cfgLive45
@[simp] theorem live_46 : cfg.live 46 = cfgLive46 := rfl
attribute [simp] cfgLive46
@[simp] theorem live_47 : cfg.live 47 = cfgLive47 := rfl
attribute [simp] cfgLive47
@[simp] theorem live_48 : cfg.live 48 = cfgLive48 := rfl
attribute [simp] cfgLive48
@[simp] theorem live_49 : cfg.live 49 = cfgLive49 := rfl
attribute [simp] cfgLive49
@[simp] theorem live_50 : cfg.live 50 = cfgLive50 := rfl
attribute [simp] cfgLive50
@[simp] theorem live_51 : cfg.live 51 = cfgLive51 := rfl
attribute [simp] cfgLive51
@[simp] theorem live_52 : cfg.live 52 = cfgLive52 := rfl
attribute [simp] cfgLive52
@[simp] theorem live_53 : cfg.live 53 = cfgLive53 := rfl
attribute [simp] cfgLive53
@[simp] theorem live_54 : cfg.live 54 = cfgLive54 := rfl
attribute [simp] cfgLive54
@[simp] theorem live_55 : cfg.live 55 = cfgLive55 := rfl
attribute [simp] cfgLive55
@[simp] theorem live_56 : cfg.live 56 = cfgLive56 := rfl
attribute [simp] cfgLive56
@[simp] theorem live_57 : cfg.live 57 = cfgLive57 := rfl
attribute [simp] cfgLive57
@[simp] theorem live_58 : cfg.live 58 = cfgLive58 := rfl
attribute [simp] cfgLive58
@[simp] theorem live_59 : cfg.live 59 = cfgLive59 := rfl
attribute [simp] cfgLive59
@[simp] theorem live_60 : cfg.live 60 = cfgLive60 := rfl
attribute [simp] cfgLive60
@[simp] theorem live_61 : cfg.live 61 = cfgLive61 := rfl
attribute [simp] cfgLive61
@[simp] theorem live_62 : cfg.live 62 = cfgLive62 := rfl
attribute [simp] cfgLive62
@[simp] theorem live_63 : cfg.live 63 = cfgLive63 := rfl
attribute [simp] cfgLive63
@[simp] theorem live_64 : cfg.live 64 = cfgLive64 := rfl
attribute [simp] cfgLive64
@[simp] theorem live_65 : cfg.live 65 = cfgLive65 := rfl
attribute [simp] cfgLive65
@[simp] theorem live_66 : cfg.live 66 = cfgLive66 := rfl
attribute [simp] cfgLive66
@[simp] theorem live_67 : cfg.live 67 = cfgLive67 := rfl
attribute [simp] cfgLive67
@[simp] theorem live_68 : cfg.live 68 = cfgLive68 := rfl
attribute [simp] cfgLive68
@[simp] theorem live_69 : cfg.live 69 = cfgLive69 := rfl
attribute [simp] cfgLive69
@[simp] theorem live_70 : cfg.live 70 = cfgLive70 := rfl
attribute [simp] cfgLive70
@[simp] theorem live_71 : cfg.live 71 = cfgLive71 := rfl
attribute [simp] cfgLive71
@[simp] theorem live_72 : cfg.live 72 = cfgLive72 := rfl
attribute [simp] cfgLive72
@[simp] theorem live_73 : cfg.live 73 = cfgLive73 := rfl
attribute [simp] cfgLive73
@[simp] theorem live_74 : cfg.live 74 = cfgLive74 := rfl
attribute [simp] cfgLive74
@[simp] theorem live_75 : cfg.live 75 = cfgLive75 := rfl
attribute [simp] cfgLive75
@[simp] theorem live_76 : cfg.live 76 = cfgLive76 := rfl
attribute [simp] cfgLive76
@[simp] theorem live_77 : cfg.live 77 = cfgLive77 := rfl
attribute [simp] cfgLive77
@[simp] theorem live_78 : cfg.live 78 = cfgLive78 := rfl
attribute [simp] cfgLive78
@[simp] theorem live_79 : cfg.live 79 = cfgLive79 := rfl
attribute [simp] cfgLive79
@[simp] theorem live_80 : cfg.live 80 = cfgLive80 := rfl
attribute [simp] cfgLive80
@[simp] theorem live_81 : cfg.live 81 = cfgLive81 := rfl
attribute [simp] cfgLive81
@[simp] theorem live_82 : cfg.live 82 = cfgLive82 := rfl
attribute [simp] cfgLive82
@[simp] theorem live_83 : cfg.live 83 = cfgLive83 := rfl
attribute [simp] cfgLive83
@[simp] theorem live_84 : cfg.live 84 = cfgLive84 := rfl
attribute [simp] cfgLive84
@[simp] theorem live_85 : cfg.live 85 = cfgLive85 := rfl
attribute [simp] cfgLive85
@[simp] theorem live_86 : cfg.live 86 = cfgLive86 := rfl
attribute [simp] cfgLive86
@[simp] theorem live_87 : cfg.live 87 = cfgLive87 := rfl
attribute [simp] cfgLive87
@[simp] theorem live_88 : cfg.live 88 = cfgLive88 := rfl
attribute [simp] cfgLive88
@[simp] theorem live_89 : cfg.live 89 = cfgLive89 := rfl
attribute [simp] cfgLive89
@[simp] theorem live_90 : cfg.live 90 = cfgLive90 := rfl
attribute [simp] cfgLive90
@[simp] theorem live_91 : cfg.live 91 = cfgLive91 := rfl
attribute [simp] cfgLive91
@[simp] theorem live_92 : cfg.live 92 = cfgLive92 := rfl
attribute [simp] cfgLive92
@[simp] theorem live_93 : cfg.live 93 = cfgLive93 := rfl
attribute [simp] cfgLive93
@[simp] theorem live_94 : cfg.live 94 = cfgLive94 := rfl
attribute [simp] cfgLive94
@[simp] theorem live_95 : cfg.live 95 = cfgLive95 := rfl
attribute [simp] cfgLive95
@[simp] theorem live_96 : cfg.live 96 = cfgLive96 := rfl
attribute [simp] cfgLive96
@[simp] theorem live_97 : cfg.live 97 = cfgLive97 := rfl
attribute [simp] cfgLive97
@[simp] theorem live_98 : cfg.live 98 = cfgLive98 := rfl
attribute [simp] cfgLive98
@[simp] theorem live_99 : cfg.live 99 = cfgLive99 := rfl
attribute [simp] cfgLive99
@[simp] theorem live_100 : cfg.live 100 = cfgLive100 := rfl
attribute [simp] cfgLive100
@[simp] theorem live_101 : cfg.live 101 = cfgLive101 := rfl
attribute [simp] cfgLive101
@[simp] theorem live_102 : cfg.live 102 = cfgLive102 := rfl
attribute [simp] cfgLive102
@[simp] theorem live_103 : cfg.live 103 = cfgLive103 := rfl
attribute [simp] cfgLive103
@[simp] theorem live_104 : cfg.live 104 = cfgLive104 := rfl
attribute [simp] cfgLive104
@[simp] theorem live_105 : cfg.live 105 = cfgLive105 := rfl
attribute [simp] cfgLive105
@[simp] theorem live_106 : cfg.live 106 = cfgLive106 := rfl
attribute [simp] cfgLive106
@[simp] theorem live_107 : cfg.live 107 = cfgLive107 := rfl
attribute [simp] cfgLive107
@[simp] theorem live_108 : cfg.live 108 = cfgLive108 := rfl
attribute [simp] cfgLive108
@[simp] theorem live_109 : cfg.live 109 = cfgLive109 := rfl
attribute [simp] cfgLive109
@[simp] theorem live_110 : cfg.live 110 = cfgLive110 := rfl
attribute [simp] cfgLive110
@[simp] theorem live_111 : cfg.live 111 = cfgLive111 := rfl
attribute [simp] cfgLive111
@[simp] theorem live_112 : cfg.live 112 = cfgLive112 := rfl
attribute [simp] cfgLive112
@[simp] theorem live_113 : cfg.live 113 = cfgLive113 := rfl
attribute [simp] cfgLive113
@[simp] theorem live_114 : cfg.live 114 = cfgLive114 := rfl
attribute [simp] cfgLive114
@[simp] theorem live_115 : cfg.live 115 = cfgLive115 := rfl
attribute [simp] cfgLive115
@[simp] theorem live_116 : cfg.live 116 = cfgLive116 := rfl
attribute [simp] cfgLive116
@[simp] theorem live_117 : cfg.live 117 = cfgLive117 := rfl
attribute [simp] cfgLive117
@[simp] theorem live_118 : cfg.live 118 = cfgLive118 := rfl
attribute [simp] cfgLive118
@[simp] theorem live_119 : cfg.live 119 = cfgLive119 := rfl
attribute [simp] cfgLive119
@[simp] theorem live_121 : cfg.live 121 = cfgLive121 := rfl
attribute [simp] cfgLive121
@[simp] theorem live_122 : cfg.live 122 = cfgLive122 := rfl
attribute [simp] cfgLive122
@[simp] theorem live_123 : cfg.live 123 = cfgLive123 := rfl
attribute [simp] cfgLive123
@[simp] theorem live_124 : cfg.live 124 = cfgLive124 := rfl
attribute [simp] cfgLive124
@[simp] theorem live_125 : cfg.live 125 = cfgLive125 := rfl
attribute [simp] cfgLive125
@[simp] theorem live_126 : cfg.live 126 = cfgLive126 := rfl
attribute [simp] cfgLive126
@[simp] theorem live_127 : cfg.live 127 = cfgLive127 := rfl
attribute [simp] cfgLive127
@[simp] theorem live_128 : cfg.live 128 = cfgLive128 := rfl
attribute [simp] cfgLive128
@[simp] theorem live_129 : cfg.live 129 = cfgLive129 := rfl
attribute [simp] cfgLive129
@[simp] theorem live_130 : cfg.live 130 = cfgLive130 := rfl
attribute [simp] cfgLive130
@[simp] theorem live_131 : cfg.live 131 = cfgLive131 := rfl
attribute [simp] cfgLive131
@[simp] theorem live_132 : cfg.live 132 = cfgLive132 := rfl
attribute [simp] cfgLive132
@[simp] theorem live_133 : cfg.live 133 = cfgLive133 := rfl
attribute [simp] cfgLive133
@[simp] theorem live_134 : cfg.live 134 = cfgLive134 := rfl
attribute [simp] cfgLive134
@[simp] theorem live_135 : cfg.live 135 = cfgLive135 := rfl
attribute [simp] cfgLive135
@[simp] theorem live_136 : cfg.live 136 = cfgLive136 := rfl
attribute [simp] cfgLive136
@[simp] theorem live_137 : cfg.live 137 = cfgLive137 := rfl
attribute [simp] cfgLive137
@[simp] theorem live_138 : cfg.live 138 = cfgLive138 := rfl
attribute [simp] cfgLive138
@[simp] theorem live_139 : cfg.live 139 = cfgLive139 := rfl
attribute [simp] cfgLive139
@[simp] theorem live_140 : cfg.live 140 = cfgLive140 := rfl
attribute [simp] cfgLive140
@[simp] theorem live_141 : cfg.live 141 = cfgLive141 := rfl
attribute [simp] cfgLive141
@[simp] theorem live_142 : cfg.live 142 = cfgLive142 := rfl
attribute [simp] cfgLive142
@[simp] theorem live_143 : cfg.live 143 = cfgLive143 := rfl
attribute [simp] cfgLive143
@[simp] theorem live_144 : cfg.live 144 = cfgLive144 := rfl
attribute [simp] cfgLive144
@[simp] theorem live_145 : cfg.live 145 = cfgLive145 := rfl
attribute [simp] cfgLive145
@[simp] theorem live_146 : cfg.live 146 = cfgLive146 := rfl
attribute [simp] cfgLive146
@[simp] theorem live_147 : cfg.live 147 = cfgLive147 := rfl
attribute [simp] cfgLive147
@[simp] theorem live_148 : cfg.live 148 = cfgLive148 := rfl
attribute [simp] cfgLive148
@[simp] theorem live_149 : cfg.live 149 = cfgLive149 := rfl
attribute [simp] cfgLive149
@[simp] theorem live_150 : cfg.live 150 = cfgLive150 := rfl
attribute [simp] cfgLive150
@[simp] theorem live_151 : cfg.live 151 = cfgLive151 := rfl
attribute [simp] cfgLive151
@[simp] theorem live_152 : cfg.live 152 = cfgLive152 := rfl
attribute [simp] cfgLive152
@[simp] theorem live_153 : cfg.live 153 = cfgLive153 := rfl
attribute [simp] cfgLive153
@[simp] theorem live_154 : cfg.live 154 = cfgLive154 := rfl
attribute [simp] cfgLive154
@[simp] theorem live_155 : cfg.live 155 = cfgLive155 := rfl
attribute [simp] cfgLive155
@[simp] theorem live_157 : cfg.live 157 = cfgLive157 := rfl
attribute [simp] cfgLive157
@[simp] theorem live_158 : cfg.live 158 = cfgLive158 := rfl
attribute [simp] cfgLive158
@[simp] theorem live_160 : cfg.live 160 = cfgLive160 := rfl
attribute [simp] cfgLive160
@[simp] theorem live_161 : cfg.live 161 = cfgLive161 := rfl
attribute [simp] cfgLive161
@[simp] theorem live_162 : cfg.live 162 = cfgLive162 := rfl
attribute [simp] cfgLive162
@[simp] theorem live_163 : cfg.live 163 = cfgLive163 := rfl
attribute [simp] cfgLive163
@[simp] theorem live_164 : cfg.live 164 = cfgLive164 := rfl
attribute [simp] cfgLive164
@[simp] theorem live_165 : cfg.live 165 = cfgLive165 := rfl
attribute [simp] cfgLive165
@[simp] theorem live_166 : cfg.live 166 = cfgLive166 := rfl
attribute [simp] cfgLive166
@[simp] theorem live_167 : cfg.live 167 = cfgLive167 := rfl
attribute [simp] cfgLive167
@[simp] theorem live_168 : cfg.live 168 = cfgLive168 := rfl
attribute [simp] cfgLive168
@[simp] theorem live_169 : cfg.live 169 = cfgLive169 := rfl
attribute [simp] cfgLive169
@[simp] theorem live_170 : cfg.live 170 = cfgLive170 := rfl
attribute [simp] cfgLive170
@[simp] theorem live_171 : cfg.live 171 = cfgLive171 := rfl
attribute [simp] cfgLive171
@[simp] theorem live_172 : cfg.live 172 = cfgLive172 := rfl
attribute [simp] cfgLive172
@[simp] theorem live_173 : cfg.live 173 = cfgLive173 := rfl
attribute [simp] cfgLive173
@[simp] theorem live_174 : cfg.live 174 = cfgLive174 := rfl
attribute [simp] cfgLive174
@[simp] theorem live_175 : cfg.live 175 = cfgLive175 := rfl
attribute [simp] cfgLive175
@[simp] theorem live_176 : cfg.live 176 = cfgLive176 := rfl
attribute [simp] cfgLive176
@[simp] theorem live_178 : cfg.live 178 = cfgLive178 := rfl
attribute [simp] cfgLive178
@[simp] theorem live_179 : cfg.live 179 = cfgLive179 := rfl
attribute [simp] cfgLive179
@[simp] theorem live_180 : cfg.live 180 = cfgLive180 := rfl
attribute [simp] cfgLive180
@[simp] theorem live_181 : cfg.live 181 = cfgLive181 := rfl
attribute [simp] cfgLive181
@[simp] theorem live_182 : cfg.live 182 = cfgLive182 := rfl
attribute [simp] cfgLive182
@[simp] theorem live_183 : cfg.live 183 = cfgLive183 := rfl
attribute [simp] cfgLive183
@[simp] theorem live_206 : cfg.live 206 = cfgLive206 := rfl
attribute [simp] cfgLive206
@[simp] theorem loc_0 (d : Nat) : cfg.loc 0 d = false := rfl
@[simp] theorem loc_1 (d : Nat) : cfg.loc 1 d = false := rfl
@[simp] theorem loc_2 (d : Nat) : cfg.loc 2 d = false := rfl
@[simp] theorem loc_3 (d : Nat) : cfg.loc 3 d = false := rfl
@[simp] theorem loc_4 (d : Nat) : cfg.loc 4 d = false := rfl
@[simp] theorem loc_5 (d : Nat) : cfg.loc 5 d = [13].contains d := rfl
@[simp] theorem loc_6 (d : Nat) : cfg.loc 6 d = false := rfl
@[simp] theorem loc_7 (d : Nat) : cfg.loc 7 d = false := rfl
@[simp] theorem goCall_7 (call : CallT) (st : St) (nx : Nat) (dst : Option Nat) (args : List AV) : goCall cfg call st nx dst 7 args = pnCall call st nx dst 7 args := goCall_eq rfl rfl rfl rfl rfl
@[simp] theorem loc_8 (d : Nat) : cfg.loc 8 d = false := rfl
@[simp] theorem goCall_8 (call : CallT) (st : St) (nx : Nat) (dst : Option Nat) (args : List AV) : goCall cfg call st nx dst 8 args = nCall call st nx dst 8 args := goCall_n rfl rfl rfl rfl rfl
@[simp] theorem loc_9 (d : Nat) : cfg.loc 9 d = false := rfl
@[simp] theorem goCall_9 (call : CallT) (st : St) (nx : Nat) (dst : Option Nat) (args : List AV) : goCall cfg call st nx dst 9 args = goCallH call st nx dst 9 args := goCall_h rfl rfl
@[simp] theorem loc_10 (d : Nat) : cfg.loc 10 d = false := rfl
@[simp] theorem goCall_10 (call : CallT) (st : St) (nx : Nat) (dst : Option Nat) (args : List AV) : goCall cfg call st nx dst 10 args = nCall call st nx dst 10 args := goCall_n rfl rfl rfl rfl rfl
@[simp] theorem loc_11 (d : Nat) : cfg.loc 11 d = false := rfl
@[simp] theorem goCall_11 (call : CallT) (st : St) (nx : Nat) (dst : Option Nat) (args : List AV) : goCall cfg call st nx dst 11 args = fCall call st nx dst 11 args := goCall_f rfl rfl rfl
@[simp] theorem loc_12 (d : Nat) : cfg.loc 12 d = false := rfl
@[simp] theorem goCall_12 (call : CallT) (st : St) (nx : Nat) (dst : Option Nat) (args : List AV) : goCall cfg call st nx dst 12 args = rCall call st nx dst 12 args := goCall_r rfl rfl rfl rfl
@[simp] theorem loc_13 (d : Nat) : cfg.loc 13 d = false := rfl
@[simp] theorem goCall_13 (call : CallT) (st : St) (nx : Nat) (dst : Option Nat) (args : List AV) : goCall cfg call st nx dst 13 args = nCall call st nx dst 13 args := goCall_n rfl rfl rfl rfl rfl
@[simp] theorem loc_14 (d : Nat) : cfg.loc 14 d = false := rfl
@[simp] theorem goCall_14 (call : CallT) (st : St) (nx : Nat) (dst : Option Nat) (args : List AV) : goCall cfg call st nx dst 14 args = nCall call st nx dst 14 args := goCall_n rfl rfl rfl rfl rfl
@[simp] theorem loc_15 (d : Nat) : cfg.loc 15 d = false := rfl
@[simp] theorem goCall_15 (call : CallT) (st : St) (nx : Nat) (dst : Option Nat) (args : List AV) : goCall cfg call st nx dst 15 args = nCall call st nx dst 15 args := goCall_n rfl rfl rfl rfl rfl
@[simp] theorem loc_16 (d : Nat) : cfg.loc 16 d = false := rfl
@[simp] theorem goCall_16 (call : CallT) (st : St) (nx : Nat) (dst : Option Nat) (args : List AV) : goCall cfg call st nx dst 16 args = nCall call st nx dst 16 args := goCall_n rfl rfl rfl rfl rfl
@[simp] theorem loc_17 (d : Nat) : cfg.loc 17 d = false := rfl
@[simp] theorem goCall_17 (call : CallT) (st : St) (nx : Nat) (dst : Option Nat) (args : List AV) : goCall cfg call st nx dst 17 args = nCall call st nx dst 17 args := goCall_n rfl rfl rfl rfl rfl
@[simp] theorem loc_18 (d : Nat) : cfg.loc 18 d = false := rfl
@[simp] theorem loc_19 (d : Nat) : cfg.loc 19 d = false := rfl
@[simp] theorem loc_20 (d : Nat) : cfg.loc 20 d = false := rfl
@[simp] theorem goCall_20 (call : CallT) (st : St) (nx : Nat) (dst : Option Nat) (args : List AV) : goCall cfg call st nx dst 20 args = nCall call st nx dst 20 args := goCall_n rfl rfl rfl rfl rfl
@[simp] theorem loc_21 (d : Nat) : cfg.loc 21 d = false := rfl
@[simp] theorem loc_22 (d : Nat) : cfg.loc 22 d = false := rfl
@[simp] theorem loc_23 (d : Nat) : cfg.loc 23 d = false := rfl
@[simp] theorem goCall_23 (call : CallT) (st : St) (nx : Nat) (dst : Option Nat) (args : List AV) : goCall cfg call st nx dst 23 args = nCall call st nx dst 23 args := goCall_n rfl rfl rfl rfl rfl
@[simp] theorem loc_24 (d : Nat) : cfg.loc 24 d = false := rfl
@[simp] theorem loc_25 (d : Nat) : cfg.loc 25 d = false := rfl
@[simp] theorem goCall_25 (call : CallT) (st : St) (nx : Nat) (dst : Option Nat) (args : List AV) : goCall cfg call st nx dst 25 args = nCall call st nx dst 25 args := goCall_n rfl rfl rfl rfl rfl
@[simp] theorem loc_26 (d : Nat) : cfg.loc 26 d = false := rfl
@[simp] theorem loc_27 (d : Nat) : cfg.loc 27 d = false := rfl
@[simp] theorem loc_28 (d : Nat) : cfg.loc 28 d = false := rfl
@[simp] theorem loc_29 (d : Nat) : cfg.loc 29 d = [5].contains d := rfl
@[simp] theorem loc_30 (d : Nat) : cfg.loc 30 d = false := rfl
@[simp] theorem loc_31 (d : Nat) : cfg.loc 31 d = false := rfl
@[simp] theorem loc_32 (d : Nat) : cfg.loc 32 d = false := rfl
@[simp] theorem goCall_32 (call : CallT) (st : St) (nx : Nat) (dst : Option Nat) (args : List AV) : goCall cfg call st nx dst 32 args = nCall call st nx dst 32 args := goCall_n rfl rfl rfl rfl rfl
@[simp] theorem loc_33 (d : Nat) : cfg.loc 33 d = false := rfl
@[simp] theorem goCall_33 (call : CallT) (st : St) (nx : Nat) (dst : Option Nat) (args : List AV) : goCall cfg call st nx dst 33 args = pnCall call st nx dst 33 args := goCall_eq rfl rfl rfl rfl rfl
@[simp] theorem loc_34 (d : Nat) : cfg.loc 34 d = false := rfl
@[simp] theorem goCall_34 (call : CallT) (st : St) (nx : Nat) (dst : Option Nat) (args : List AV) : goCall cfg call st nx dst 34 args = nCall call st nx dst 34 args := goCall_n rfl rfl rfl rfl rfl
@[simp] theorem loc_35 (d : Nat) : cfg.loc 35 d = false := rfl
@[simp] theorem goCall_35 (call : CallT) (st : St) (nx : Nat) (dst : Option Nat) (args : List AV) : goCall cfg call st nx dst 35 args = nCall call st nx dst 35 args := goCall_n rfl rfl rfl rfl rfl
@[simp] theorem loc_36 (d : Nat) : cfg.loc 36 d = false := rfl
@[simp] theorem goCall_36 (call : CallT) (st : St) (nx : Nat) (dst : Option Nat) (args : List AV) : goCall cfg call st nx dst 36 args = nCall call st nx dst 36 args := goCall_n rfl rfl rfl rfl rfl
@[simp] theorem loc_37 (d : Nat) : cfg.loc 37 d = false := rfl
@[simp] theorem goCall_37 (call : CallT) (st : St) (nx : Nat) (dst : Option Nat) (args : List AV) : goCall cfg call st nx dst 37 args = nCall call st nx dst 37 args := goCall_n rfl rfl rfl rfl rfl
@[simp] theorem loc_38 (d : Nat) : cfg.loc 38 d = false := rfl
@[simp] theorem goCall_38 (call : CallT) (st : St) (nx : Nat) (dst : Option Nat) (args : List AV) : goCall cfg call st nx dst 38 args = nCall call st nx dst 38 args := goCall_n rfl rfl rfl rfl rfl
@[simp] theorem loc_39 (d : Nat) : cfg.loc 39 d = false := rfl
@[simp] theorem goCall_39 (call : CallT) (st : St) (nx : Nat) (dst : Option Nat) (args : List AV) : goCall cfg call st nx dst 39 args = nCall call st nx dst 39 args := goCall_n rfl rfl rfl rfl rfl
@[simp] theorem loc_40 (d : Nat) : cfg.loc 40 d = false := rfl
@[simp] theorem goCall_40 (call : CallT) (st : St) (nx : Nat) (dst : Option Nat) (args : List AV) : goCall cfg call st nx dst 40 args = nCall call st nx dst 40 args := goCall_n rfl rfl rfl rfl rfl
@[simp] theorem loc_41 (d : Nat) : cfg.loc 41 d = false := rfl
@[simp] theorem goCall_41 (call : CallT) (st : St) (nx : Nat) (dst : Option Nat) (args : List AV) : goCall cfg call st nx dst 41 args = nCall call st nx dst 41 args := goCall_n rfl rfl rfl rfl rfl
@[simp] theorem loc_42 (d : Nat) : cfg.loc 42 d = false := rfl
@[simp] theorem goCall_42 (call : CallT) (st : St) (nx : Nat) (dst : Option Nat) (args : List AV) : goCall cfg call st nx dst 42 args = rCall call st nx dst 42 args := goCall_r rfl rfl rfl rfl
@[simp] theorem loc_43 (d : Nat) : cfg.loc 43 d = false := rfl
@[simp] theorem goCall_43 (call : CallT) (st : St) (nx : Nat) (dst : Option Nat) (args : List AV) : goCall cfg call st nx dst 43 args = fCall call st nx dst 43 args := goCall_f rfl rfl rfl
@[simp] theorem loc_44 (d : Nat) : cfg.loc 44 d = false := rfl
@[simp] theorem goCall_44 (call : CallT) (st : St) (nx : Nat) (dst : Option Nat) (args : List AV) : goCall cfg call st nx dst 44 args = pnCall call st nx dst 44 args := goCall_eq rfl rfl rfl rfl rfl
@[simp] theorem loc_45 (d : Nat) : cfg.loc 45 d = false := rfl
@[simp] theorem goCall_45 (call : CallT) (st : St) (nx : Nat) (dst : Option Nat) (args : List AV) : goCall cfg call st nx dst 45 args = nCall call st nx dst 45 args := goCall_n rfl rfl rfl rfl rfl
@[simp] theorem loc_46 (d : Nat) : cfg.loc 46 d = false := rfl
@[simp] theorem goCall_46 (call : CallT) (st : St) (nx : Nat) (dst : Option Nat) (args : List AV) : goCall cfg call st nx dst 46 args = nCall call st nx dst 46 args := goCall_n rfl rfl rfl rfl rfl
@[simp] theorem loc_47 (d : Nat) : cfg.loc 47 d = false := rfl
@[simp] theorem goCall_47 (call : CallT) (st : St) (nx : Nat) (dst : Option Nat) (args : List AV) : goCall cfg call st nx dst 47 args = rCall call st nx dst 47 args := goCall_r rfl rfl rfl rfl
@[simp] theorem loc_48 (d : Nat) : cfg.loc 48 d = false := rfl
@[simp] theorem goCall_48 (call : CallT) (st : St) (nx : Nat) (dst : Option Nat) (args : List AV) : goCall cfg call st nx dst 48 args = nCall call st nx dst 48 args := goCall_n rfl rfl rfl rfl rfl
@[simp] theorem loc_49 (d : Nat) : cfg.loc 49 d = false := rfl
@[simp] theorem goCall_49 (call : CallT) (st : St) (nx : Nat) (dst : Option Nat) (args : List AV) : goCall cfg call st nx dst 49 args = nCall call st nx dst 49 args := goCall_n rfl rfl rfl rfl rfl
@[simp] theorem loc_50 (d : Nat) : cfg.loc 50 d = false := rfl
@[simp] theorem goCall_50 (call : CallT) (st : St) (nx : Nat) (dst : Option Nat) (args : List AV) : goCall cfg call st nx dst 50 args = nCall call st nx dst 50 args := goCall_n rfl rfl rfl rfl rfl
@[simp] theorem loc_51 (d : Nat) : cfg.loc 51 d = false := rfl
@[simp] theorem goCall_51 (call : CallT) (st : St) (nx : Nat) (dst : Option Nat) (args : List AV) : goCall cfg call st nx dst 51 args = nCall call st nx dst 51 args := goCall_n rfl rfl rfl rfl rfl
@[simp] theorem loc_52 (d : Nat) : cfg.loc 52 d = false := rfl
@[simp] theorem goCall_52 (call : CallT) (st : St) (nx : Nat) (dst : Option Nat) (args : List AV) : goCall cfg call st nx dst 52 args = nCall call st nx dst 52 args := goCall_n rfl rfl rfl rfl rfl
@[simp] theorem loc_53 (d : Nat) : cfg.loc 53 d = false := rfl
@[simp] theorem loc_54 (d : Nat) : cfg.loc 54 d = [3].contains d := rfl
@[simp] theorem loc_55 (d : Nat) : cfg.loc 55 d = [10].contains d := rfl
@[simp] theorem loc_56 (d : Nat) : cfg.loc 56 d = false := rfl
@[simp] theorem loc_57 (d : Nat) : cfg.loc 57 d = false := rfl
@[simp] theorem loc_58 (d : Nat) : cfg.loc 58 d = [4, 6].contains d := rfl
@[simp] theorem loc_59 (d : Nat) : cfg.loc 59 d = false := rfl
@[simp] theorem loc_60 (d : Nat) : cfg.loc 60 d = false := rfl
@[simp] theorem loc_61 (d : Nat) : cfg.loc 61 d = false := rfl
@[simp] theorem loc_62 (d : Nat) : cfg.loc 62 d = false := rfl
@[simp] theorem loc_63 (d : Nat) : cfg.loc 63 d = false := rfl
@[simp] theorem loc_64 (d : Nat) : cfg.loc 64 d = false := rfl
@[simp] theorem loc_65 (d : Nat) : cfg.loc 65 d = [6, 9].contains d := rfl
@[simp] theorem loc_66 (d : Nat) : cfg.loc 66 d = false := rfl
@[simp] theorem loc_67 (d : Nat) : cfg.loc 67 d = false := rfl
@[simp] theorem loc_68 (d : Nat) : cfg.loc 68 d = false := rfl
@[simp] theorem loc_69 (d : Nat) : cfg.loc 69 d = false := rfl
@[simp] theorem loc_70 (d : Nat) : cfg.loc 70 d = false := rfl
@[simp] theorem loc_71 (d : Nat) : cfg.loc 71 d = false := rfl
@[simp] theorem goCall_71 (call : CallT) (st : St) (nx : Nat) (dst : Option Nat) (args : List AV) : goCall cfg call st nx dst 71 args = nCall call st nx dst 71 args := goCall_n rfl rfl rfl rfl rfl
@[simp] theorem loc_72 (d : Nat) : cfg.loc 72 d = false := rfl
@[simp] theorem goCall_72 (call : CallT) (st : St) (nx : Nat) (dst : Option Nat) (args : List AV) : goCall cfg call st nx dst 72 args = pnCall call st nx dst 72 args := goCall_eq rfl rfl rfl rfl rfl
@[simp] theorem loc_73 (d : Nat) : cfg.loc 73 d = false := rfl
@[simp] theorem goCall_73 (call : CallT) (st : St) (nx : Nat) (dst : Option Nat) (args : List AV) : goCall cfg call st nx dst 73 args = nCall call st nx dst 73 args := goCall_n rfl rfl rfl rfl rfl
@[simp] theorem loc_74 (d : Nat) : cfg.loc 74 d = false := rfl
@[simp] theorem goCall_74 (call : CallT) (st : St) (nx : Nat) (dst : Option Nat) (args : List AV) : goCall cfg call st nx dst 74 args = goCallH call st nx dst 74 args := goCall_h rfl rfl
@[simp] theorem loc_75 (d : Nat) : cfg.loc 75 d = false := rfl
@[simp] theorem goCall_75 (call : CallT) (st : St) (nx : Nat) (dst : Option Nat) (args : List AV) : goCall cfg call st nx dst 75 args = nCall call st nx dst 75 args := goCall_n rfl rfl rfl rfl rfl
@[simp] theorem loc_76 (d : Nat) : cfg.loc 76 d = false := rfl
@[simp] theorem goCall_76 (call : CallT) (st : St) (nx : Nat) (dst : Option Nat) (args : List AV) : goCall cfg call st nx dst 76 args = nCall call st nx dst 76 args := goCall_n rfl rfl rfl rfl rfl
@[simp] theorem loc_77 (d : Nat) : cfg.loc 77 d = false := rfl
@[simp] theorem goCall_77 (call : CallT) (st : St) (nx : Nat) (dst : Option Nat) (args : List AV) : goCall cfg call st nx dst 77 args = nCall call st nx dst 77 args := goCall_n rfl rfl rfl rfl rfl
@[simp] theorem loc_78 (d : Nat) : cfg.loc 78 d = false := rfl
@[simp] theorem goCall_78 (call : CallT) (st : St) (nx : Nat) (dst : Option Nat) (args : List AV) : goCall cfg call st nx dst 78 args = nCall call st nx dst 78 args := goCall_n rfl rfl rfl rfl rfl
@[simp] theorem loc_79 (d : Nat) : cfg.loc 79 d = false := rfl
@[simp] theorem goCall_79 (call : CallT) (st : St) (nx : Nat) (dst : Option Nat) (args : List AV) : goCall cfg call st nx dst 79 args = goCallH call st nx dst 79 args := goCall_h rfl rfl
@[simp] theorem loc_80 (d : Nat) : cfg.loc 80 d = false := rfl
@[simp] theorem goCall_80 (call : CallT) (st : St) (nx : Nat) (dst : Option Nat) (args : List AV) : goCall cfg call st nx dst 80 args = nCall call st nx dst 80 args := goCall_n rfl rfl rfl rfl rfl
@[simp] theorem loc_81 (d : Nat) : cfg.loc 81 d = false := rfl
@[simp] theorem loc_82 (d : Nat) : cfg.loc 82 d = false := rfl
@[simp] theorem loc_83 (d : Nat) : cfg.loc 83 d = false := rfl
@[simp] theorem loc_84 (d : Nat) : cfg.loc 84 d = false := rfl
@[simp] theorem loc_85 (d : Nat) : cfg.loc 85 d = false := rfl
@[simp] theorem loc_86 (d : Nat) : cfg.loc 86 d = false := rfl
@[simp] theorem loc_87 (d : Nat) : cfg.loc 87 d = [10].contains d := rfl
@[simp] theorem loc_88 (d : Nat) : cfg.loc 88 d = [9].contains d := rfl
@[simp] theorem loc_89 (d : Nat) : cfg.loc 89 d = false := rfl
@[simp] theorem loc_90 (d : Nat) : cfg.loc 90 d = false := rfl
@[simp] theorem loc_91 (d : Nat) : cfg.loc 91 d = false := rfl
@[simp] theorem loc_92 (d : Nat) : cfg.loc 92 d = [7].contains d := rfl
@[simp] theorem loc_93 (d : Nat) : cfg.loc 93 d = false := rfl
@[simp] theorem loc_94 (d : Nat) : cfg.loc 94 d = false := rfl
@[simp] theorem loc_95 (d : Nat) : cfg.loc 95 d = false := rfl
@[simp] theorem loc_96 (d : Nat) : cfg.loc 96 d = false := rfl
@[simp] theorem loc_97 (d : Nat) : cfg.loc 97 d = false := rfl
@[simp] theorem loc_98 (d : Nat) : cfg.loc 98 d = false := rfl
@[simp] theorem loc_99 (d : Nat) : cfg.loc 99 d = [4].contains d := rfl
@[simp] theorem loc_100 (d : Nat) : cfg.loc 100 d = [2].contains d := rfl
@[simp] theorem loc_101 (d : Nat) : cfg.loc 101 d = false := rfl
@[simp] theorem loc_102 (d : Nat) : cfg.loc 102 d = false := rfl
@[simp] theorem loc_103 (d : Nat) : cfg.loc 103 d = false := rfl
@[simp] theorem loc_104 (d : Nat) : cfg.loc 104 d = false := rfl
@[simp] theorem loc_105 (d : Nat) : cfg.loc 105 d = false := rfl
@[simp] theorem loc_106 (d : Nat) : cfg.loc 106 d = [5].contains d := rfl
@[simp] theorem loc_107 (d : Nat) : cfg.loc 107 d = false := rfl
@[simp] theorem loc_108 (d : Nat) : cfg.loc 108 d = false := rfl
@[simp] theorem loc_109 (d : Nat) : cfg.loc 109 d = [2].contains d := rfl
@[simp] theorem loc_110 (d : Nat) : cfg.loc 110 d = false := rfl
@[simp] theorem loc_111 (d : Nat) : cfg.loc 111 d = false := rfl
@[simp] theorem loc_112 (d : Nat) : cfg.loc 112 d = false := rfl
@[simp] theorem loc_113 (d : Nat) : cfg.loc 113 d = false := rfl
@[simp] theorem loc_114 (d : Nat) : cfg.loc 114 d = false := rfl
@[simp] theorem goCall_114 (call : CallT) (st : St) (nx : Nat) (dst : Option Nat) (args : List AV) : goCall cfg call st nx dst 114 args = pnCall call st nx dst 114 args := goCall_eq rfl rfl rfl rfl rfl
@[simp] theorem loc_115 (d : Nat) : cfg.loc 115 d = false := rfl
@[simp] theorem loc_116 (d : Nat) : cfg.loc 116 d = false := rfl
@[simp] theorem goCall_116 (call : CallT) (st : St) (nx : Nat) (dst : Option Nat) (args : List AV) : goCall cfg call st nx dst 116 args = nCall call st nx dst 116 args := goCall_n rfl rfl rfl rfl rfl
@[simp] theorem loc_117 (d : Nat) : cfg.loc 117 d = false := rfl
@[simp] theorem goCall_117 (call : CallT) (st : St) (nx : Nat) (dst : Option Nat) (args : List AV) : goCall cfg call st nx dst 117 args = pnCall call st nx dst 117 args := goCall_eq rfl rfl rfl rfl rfl
@[simp] theorem loc_118 (d : Nat) : cfg.loc 118 d = false := rfl
@[simp] theorem goCall_118 (call : CallT) (st : St) (nx : Nat) (dst : Option Nat) (args : List AV) : goCall cfg call st nx dst 118 args = pnCall call st nx dst 118 args := goCall_eq rfl rfl rfl rfl rfl
@[simp] theorem loc_119 (d : Nat) : cfg.loc 119 d = false := rfl
@[simp] theorem goCall_119 (call : CallT) (st : St) (nx : Nat) (dst : Option Nat) (args : List AV) : goCall cfg call st nx dst 119 args = pnCall call st nx dst 119 args := goCall_eq rfl rfl rfl rfl rfl
@[simp] theorem loc_120 (d : Nat) : cfg.loc 120 d = false := rfl
@[simp] theorem loc_121 (d : Nat) : cfg.loc 121 d = false := rfl
@[simp] theorem loc_122 (d : Nat) : cfg.loc 122 d = false := rfl
@[simp] theorem loc_123 (d : Nat) : cfg.loc 123 d = false := rfl
@[simp] theorem loc_124 (d : Nat) : cfg.loc 124 d = false := rfl
@[simp] theorem loc_125 (d : Nat) : cfg.loc 125 d = [2].contains d := rfl
@[simp] theorem loc_126 (d : Nat) : cfg.loc 126 d = false := rfl
@[simp] theorem loc_127 (d : Nat) : cfg.loc 127 d = [3].contains d := rfl
@[simp] theorem loc_128 (d : Nat) : cfg.loc 128 d = [3, 6, 7].contains d := rfl
@[simp] theorem loc_129 (d : Nat) : cfg.loc 129 d = false := rfl
@[simp] theorem loc_130 (d : Nat) : cfg.loc 130 d = [4].contains d := rfl
@[simp] theorem loc_131 (d : Nat) : cfg.loc 131 d = false := rfl
@[simp] theorem loc_132 (d : Nat) : cfg.loc 132 d = false := rfl
@[simp] theorem loc_133 (d : Nat) : cfg.loc 133 d = false := rfl
@[simp] theorem loc_134 (d : Nat) : cfg.loc 134 d = false := rfl
@[simp] theorem loc_135 (d : Nat) : cfg.loc 135 d = false := rfl
@[simp] theorem loc_136 (d : Nat) : cfg.loc 136 d = false := rfl
@[simp] theorem loc_137 (d : Nat) : cfg.loc 137 d = false := rfl
@[simp] theorem loc_138 (d : Nat) : cfg.loc 138 d = false := rfl
@[simp] theorem goCall_138 (call : CallT) (st : St) (nx : Nat) (dst : Option Nat) (args : List AV) : goCall cfg call st nx dst 138 args = pnCall call st nx dst 138 args := goCall_eq rfl rfl rfl rfl rfl
@[simp] theorem loc_139 (d : Nat) : cfg.loc 139 d = false := rfl
@[simp] theorem loc_140 (d : Nat) : cfg.loc 140 d = false := rfl
@[simp] theorem goCall_140 (call : CallT) (st : St) (nx : Nat) (dst : Option Nat) (args : List AV) : goCall cfg call st nx dst 140 args = nCall call st nx dst 140 args := goCall_n rfl rfl rfl rfl rfl
@[simp] theorem loc_141 (d : Nat) : cfg.loc 141 d = false := rfl
@[simp] theorem loc_142 (d : Nat) : cfg.loc 142 d = false := rfl
@[simp] theorem loc_143 (d : Nat) : cfg.loc 143 d = false := rfl
@[simp] theorem goCall_143 (call : CallT) (st : St) (nx : Nat) (dst : Option Nat) (args : List AV) : goCall cfg call st nx dst 143 args = nCall call st nx dst 143 args := goCall_n rfl rfl rfl rfl rfl
@[simp] theorem loc_144 (d : Nat) : cfg.loc 144 d = false := rfl
@[simp] theorem loc_145 (d : Nat) : cfg.loc 145 d = false := rfl
@[simp] theorem goCall_145 (call : CallT) (st : St) (nx : Nat) (dst : Option Nat) (args : List AV) : goCall cfg call st nx dst 145 args = nCall call st nx dst 145 args := goCall_n rfl rfl rfl rfl rfl
@[simp] theorem loc_146 (d : Nat) : cfg.loc 146 d = false := rfl
@[simp] theorem goCall_146 (call : CallT) (st : St) (nx : Nat) (dst : Option Nat) (args : List AV) : goCall cfg call st nx dst 146 args = pnCall call st nx dst 146 args := goCall_eq rfl rfl rfl rfl rfl
@[simp] theorem loc_147 (d : Nat) : cfg.loc 147 d = false := rfl
@[simp] theorem loc_148 (d : Nat) : cfg.loc 148 d = false := rfl
@[simp] theorem loc_149 (d : Nat) : cfg.loc 149 d = false := rfl
@[simp] theorem loc_150 (d : Nat) : cfg.loc 150 d = false := rfl
@[simp] theorem goCall_150 (call : CallT) (st : St) (nx : Nat) (dst : Option Nat) (args : List AV) : goCall cfg call st nx dst 150 args = pnCall call st nx dst 150 args := goCall_eq rfl rfl rfl rfl rfl
@[simp] theorem loc_151 (d : Nat) : cfg.loc 151 d = false := rfl
@[simp] theorem goCall_151 (call : CallT) (st : St) (nx : Nat) (dst : Option Nat) (args : List AV) : goCall cfg call st nx dst 151 args = pnCall call st nx dst 151 args := goCall_eq rfl rfl rfl rfl rfl
@[simp] theorem loc_152 (d : Nat) : cfg.loc 152 d = [2].contains d := rfl
@[simp] theorem loc_153 (d : Nat) : cfg.loc 153 d = false := rfl
@[simp] theorem loc_154 (d : Nat) : cfg.loc 154 d = false := rfl
@[simp] theorem loc_155 (d : Nat) : cfg.loc 155 d = [9].contains d := rfl
@[simp] theorem loc_156 (d : Nat) : cfg.loc 156 d = false := rfl
@[simp] theorem loc_157 (d : Nat) : cfg.loc 157 d = false := rfl
@[simp] theorem loc_158 (d : Nat) : cfg.loc 158 d = false := rfl
@[simp] theorem goCall_158 (call : CallT) (st : St) (nx : Nat) (dst : Option Nat) (args : List AV) : goCall cfg call st nx dst 158 args = pnCall call st nx dst 158 args := goCall_eq rfl rfl rfl rfl rfl
@[simp] theorem loc_159 (d : Nat) : cfg.loc 159 d = false := rfl
@[simp] theorem loc_160 (d : Nat) : cfg.loc 160 d = false := rfl
@[simp] theorem loc_161 (d : Nat) : cfg.loc 161 d = false := rfl
@[simp] theorem loc_162 (d : Nat) : cfg.loc 162 d = false := rfl
@[simp] theorem loc_163 (d : Nat) : cfg.loc 163 d = false := rfl
@[simp] theorem goCall_163 (call : CallT) (st : St) (nx : Nat) (dst : Option Nat) (args : List AV) : goCall cfg call st nx dst 163 args = nCall call st nx dst 163 args := goCall_n rfl rfl rfl rfl rfl
@[simp] theorem loc_164 (d : Nat) : cfg.loc 164 d = false := rfl
@[simp] theorem goCall_164 (call : CallT) (st : St) (nx : Nat) (dst : Option Nat) (args : List AV) : goCall cfg call st nx dst 164 args = nCall call st nx dst 164 args := goCall_n rfl rfl rfl rfl rfl
@[simp] theorem loc_165 (d : Nat) : cfg.loc 165 d = false := rfl
@[simp] theorem goCall_165 (call : CallT) (st : St) (nx : Nat) (dst : Option Nat) (args : List AV) : goCall cfg call st nx dst 165 args = pnCall call st nx dst 165 args := goCall_eq rfl rfl rfl rfl rfl
@[simp] theorem loc_166 (d : Nat) : cfg.loc 166 d = false := rfl
@[simp] theorem loc_167 (d : Nat) : cfg.loc 167 d = false := rfl
@[simp] theorem loc_168 (d : Nat) : cfg.loc 168 d = false := rfl
@[simp] theorem loc_169 (d : Nat) : cfg.loc 169 d = false := rfl
@[simp] theorem loc_170 (d : Nat) : cfg.loc 170 d = false := rfl
@[simp] theorem loc_171 (d : Nat) : cfg.loc 171 d = false := rfl
@[simp] theorem loc_172 (d : Nat) : cfg.loc 172 d = false := rfl
@[simp] theorem loc_173 (d : Nat) : cfg.loc 173 d = false := rfl
@[simp] theorem loc_174 (d : Nat) : cfg.loc 174 d = false := rfl
@[simp] theorem loc_175 (d : Nat) : cfg.loc 175 d = false := rfl
@[simp] theorem loc_176 (d : Nat) : cfg.loc 176 d = false := rfl
@[simp] theorem loc_177 (d : Nat) : cfg.loc 177 d = false := rfl
@[simp] theorem loc_178 (d : Nat) : cfg.loc 178 d = false := rfl
@[simp] theorem goCall_178 (call : CallT) (st : St) (nx : Nat) (dst : Option Nat) (args : List AV) : goCall cfg call st nx dst 178 args = nCall call st nx dst 178 args := goCall_n rfl rfl rfl rfl rfl
@[simp] theorem loc_179 (d : Nat) : cfg.loc 179 d = false := rfl
@[simp] theorem loc_180 (d : Nat) : cfg.loc 180 d = false := rfl
@[simp] theorem loc_181 (d : Nat) : cfg.loc 181 d = false := rfl
@[simp] theorem loc_182 (d : Nat) : cfg.loc 182 d = false := rfl
@[simp] theorem loc_183 (d : Nat) : cfg.loc 183 d = false := rfl
@[simp] theorem loc_184 (d : Nat) : cfg.loc 184 d = false := rfl
@[simp] theorem loc_185 (d : Nat) : cfg.loc 185 d = false := rfl
@[simp] theorem loc_186 (d : Nat) : cfg.loc 186 d = false := rfl
@[simp] theorem loc_187 (d : Nat) : cfg.loc 187 d = false := rfl
@[simp] theorem loc_188 (d : Nat) : cfg.loc 188 d = false := rfl
@[simp] theorem loc_189 (d : Nat) : cfg.loc 189 d = false := rfl
@[simp] theorem loc_190 (d : Nat) : cfg.loc 190 d = false := rfl
@[simp] theorem loc_191 (d : Nat) : cfg.loc 191 d = false := rfl
@[simp] theorem loc_192 (d : Nat) : cfg.loc 192 d = false := rfl
@[simp] theorem loc_193 (d : Nat) : cfg.loc 193 d = false := rfl
@[simp] theorem loc_194 (d : Nat) : cfg.loc 194 d = false := rfl
@[simp] theorem loc_195 (d : Nat) : cfg.loc 195 d = false := rfl
@[simp] theorem loc_196 (d : Nat) : cfg.loc 196 d = false := rfl
@[simp] theorem loc_197 (d : Nat) : cfg.loc 197 d = false := rfl
@[simp] theorem loc_198 (d : Nat) : cfg.loc 198 d = false := rfl
@[simp] theorem loc_199 (d : Nat) : cfg.loc 199 d = false := rfl
@[simp] theorem loc_200 (d : Nat) : cfg.loc 200 d = false := rfl
@[simp] theorem loc_201 (d : Nat) : cfg.loc 201 d = false := rfl
@[simp] theorem loc_202 (d : Nat) : cfg.loc 202 d = false := rfl
@[simp] theorem loc_203 (d : Nat) : cfg.loc 203 d = false := rfl
@[simp] theorem loc_204 (d : Nat) : cfg.loc 204 d = false := rfl
@[simp] theorem loc_205 (d : Nat) : cfg.loc 205 d = false := rfl
@[simp] theorem loc_206 (d : Nat) : cfg.loc 206 d = false := rfl
end Ab
end Go.Proofs.YtmbbnoipoifhhaaGreatDoor
