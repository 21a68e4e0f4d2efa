/-
  DERIVED. strings.Cut, Trim, TrimLeft, strconv.Atoi of the program, by the shelf's contracts; the cell that they look at stays as it is.
  Conditions: internal/bytealg.MaxLen's cell holds an int.
-/
import Derived.Test.YtfkffpcnknlbhaaDoorR11
import Derived.Test.YtfkffpcnknlbhaaDoorAbF
import Derived.ProofKit
import Derived.Shelf.LaysM
import Derived.Shelf.Strings.Cut
import Derived.Shelf.Strings.SlTrimAscii
import Derived.Shelf.Strconv.Atoi
import Derived.Lib.SmallJoins
import Derived.WalkSmall
set_option linter.all false
set_option maxHeartbeats 4000000
namespace Go.Proofs
open Go.RowKit Go.Shelf Go.Lib
def Tryd.laysCut_ren : Go.Shelf.Ren := ⟨fun | 145 => 11 | 220 => 15 | 219 => 21 | 217 => 33 | 225 => 34 | 224 => 35 | 267 => 36 | 266 => 42 | 314 => 43 | n => n, fun | 9 => 9 | 4 => 4 | 59 => 37 | 3 => 3 | 5 => 5 | 46 => 59 | 146 => 72 | 51 => 71 | n => n, fun | 1 => 0 | n => n⟩
theorem Tryd.laysCut : Go.Proofs.LaysM.n145 Tryd.prog Tryd.laysCut_ren := {
  mixed := by kernel_rfl
  f145 := Tryd.func11.trans (congrArg some (by kernel_rfl))
  f217 := Tryd.func33.trans (congrArg some (by kernel_rfl))
  f219 := Tryd.func21.trans (congrArg some (by kernel_rfl))
  f220 := Tryd.func15.trans (congrArg some (by kernel_rfl))
  f224 := Tryd.func35.trans (congrArg some (by kernel_rfl))
  f225 := Tryd.func34.trans (congrArg some (by kernel_rfl))
  f266 := Tryd.func42.trans (congrArg some (by kernel_rfl))
  f267 := Tryd.func36.trans (congrArg some (by kernel_rfl))
  f314 := Tryd.func43.trans (congrArg some (by kernel_rfl))
  t3 := Tryd.underlying3
  a3 := Tryd.isAgg3
  z3 := Tryd.sizeOf3
  v3 := Tryd.zeroValue3
  t4 := Tryd.underlying4
  a4 := Tryd.isAgg4
  z4 := Tryd.sizeOf4
  v4 := Tryd.zeroValue4
  t5 := Tryd.underlying5
  a5 := Tryd.isAgg5
  z5 := Tryd.sizeOf5
  v5 := Tryd.zeroValue5
  t9 := Tryd.underlying9
  a9 := Tryd.isAgg9
  z9 := Tryd.sizeOf9
  v9 := Tryd.zeroValue9
  t46 := Tryd.underlying59
  a46 := Tryd.isAgg59
  z46 := Tryd.sizeOf59
  v46 := Tryd.zeroValue59
  t51 := Tryd.underlying71
  a51 := Tryd.isAgg71
  z51 := Tryd.sizeOf71
  v51 := Tryd.zeroValue71
  t59 := Tryd.underlying37
  a59 := Tryd.isAgg37
  z59 := Tryd.sizeOf37
  v59 := Tryd.zeroValue37
  t146 := Tryd.underlying72
  a146 := Tryd.isAgg72
  z146 := Tryd.sizeOf72
  v146 := Tryd.zeroValue72
  g1 := by kernel_rfl
  i3 := by kernel_rfl
  i4 := by kernel_rfl
  i5 := by kernel_rfl
  i9 := by kernel_rfl
  i46 := by kernel_rfl
  i51 := by kernel_rfl
  i59 := by kernel_rfl
  i146 := by kernel_rfl
  m1 := by kernel_rfl
  s1_3 := fun w h => Go.Proofs.cell_of_shapedOpen_int (zero := #[.int .i64 0]) (t := 3) h (of_decide_eq_true (by kernel_rfl)) (by kernel_rfl) rfl (by kernel_rfl) (by kernel_rfl) Tryd.underlying3 }

def Tryd.laysTrim_ren : Go.Shelf.Ren := ⟨fun | 160 => 18 | 232 => 24 | 231 => 23 | 227 => 25 | 234 => 27 | 233 => 26 | 236 => 29 | 235 => 28 | 228 => 37 | 271 => 40 | 151 => 39 | 197 => 38 | 120 => 46 | 152 => 45 | 260 => 44 | 137 => 49 | 119 => 50 | 224 => 35 | 225 => 34 | 217 => 33 | 266 => 42 | n => n, fun | 9 => 9 | 4 => 4 | 3 => 3 | 5 => 5 | 117 => 49 | 116 => 48 | 0 => 0 | 124 => 52 | 21 => 21 | 105 => 61 | 46 => 59 | 119 => 76 | 139 => 79 | 138 => 78 | n => n, fun | 3 => 1 | 4 => 2 | n => n⟩
theorem Tryd.laysTrim : Go.Proofs.Lays.n160 Tryd.prog Tryd.laysTrim_ren := {
  mixed := by kernel_rfl
  f119 := Tryd.func50.trans (congrArg some (by kernel_rfl))
  f120 := Tryd.func46.trans (congrArg some (by kernel_rfl))
  f137 := Tryd.func49.trans (congrArg some (by kernel_rfl))
  f151 := Tryd.func39.trans (congrArg some (by kernel_rfl))
  f152 := Tryd.func45.trans (congrArg some (by kernel_rfl))
  f160 := Tryd.func18.trans (congrArg some (by kernel_rfl))
  f197 := Tryd.func38.trans (congrArg some (by kernel_rfl))
  f217 := Tryd.func33.trans (congrArg some (by kernel_rfl))
  f224 := Tryd.func35.trans (congrArg some (by kernel_rfl))
  f225 := Tryd.func34.trans (congrArg some (by kernel_rfl))
  f227 := Tryd.func25.trans (congrArg some (by kernel_rfl))
  f228 := Tryd.func37.trans (congrArg some (by kernel_rfl))
  f231 := Tryd.func23.trans (congrArg some (by kernel_rfl))
  f232 := Tryd.func24.trans (congrArg some (by kernel_rfl))
  f233 := Tryd.func26.trans (congrArg some (by kernel_rfl))
  f234 := Tryd.func27.trans (congrArg some (by kernel_rfl))
  f235 := Tryd.func28.trans (congrArg some (by kernel_rfl))
  f236 := Tryd.func29.trans (congrArg some (by kernel_rfl))
  f260 := Tryd.func44.trans (congrArg some (by kernel_rfl))
  f266 := Tryd.func42.trans (congrArg some (by kernel_rfl))
  f271 := Tryd.func40.trans (congrArg some (by kernel_rfl))
  t0 := Tryd.underlying0
  a0 := Tryd.isAgg0
  z0 := Tryd.sizeOf0
  v0 := Tryd.zeroValue0
  t3 := Tryd.underlying3
  a3 := Tryd.isAgg3
  z3 := Tryd.sizeOf3
  v3 := Tryd.zeroValue3
  t4 := Tryd.underlying4
  a4 := Tryd.isAgg4
  z4 := Tryd.sizeOf4
  v4 := Tryd.zeroValue4
  t5 := Tryd.underlying5
  a5 := Tryd.isAgg5
  z5 := Tryd.sizeOf5
  v5 := Tryd.zeroValue5
  t9 := Tryd.underlying9
  a9 := Tryd.isAgg9
  z9 := Tryd.sizeOf9
  v9 := Tryd.zeroValue9
  t21 := Tryd.underlying21
  a21 := Tryd.isAgg21
  z21 := Tryd.sizeOf21
  v21 := Tryd.zeroValue21
  t46 := Tryd.underlying59
  a46 := Tryd.isAgg59
  z46 := Tryd.sizeOf59
  v46 := Tryd.zeroValue59
  t105 := Tryd.underlying61
  a105 := Tryd.isAgg61
  z105 := Tryd.sizeOf61
  v105 := Tryd.zeroValue61
  t116 := Tryd.underlying48
  a116 := Tryd.isAgg48
  z116 := Tryd.sizeOf48
  t117 := Tryd.underlying49
  a117 := Tryd.isAgg49
  z117 := Tryd.sizeOf49
  v117 := Tryd.zeroValue49
  t119 := Tryd.underlying76
  a119 := Tryd.isAgg76
  z119 := Tryd.sizeOf76
  t124 := Tryd.underlying52
  a124 := Tryd.isAgg52
  z124 := Tryd.sizeOf52
  v124 := Tryd.zeroValue52
  t138 := Tryd.underlying78
  a138 := Tryd.isAgg78
  z138 := Tryd.sizeOf78
  v138 := Tryd.zeroValue78
  t139 := Tryd.underlying79
  a139 := Tryd.isAgg79
  z139 := Tryd.sizeOf79
  v139 := Tryd.zeroValue79
  g3 := by kernel_rfl
  g4 := by kernel_rfl }

def Tryd.laysTrimL_ren : Go.Shelf.Ren := ⟨fun | 161 => 22 | 231 => 23 | 227 => 25 | 233 => 26 | 235 => 28 | 228 => 37 | 197 => 38 | 151 => 39 | 260 => 44 | 152 => 45 | 137 => 49 | 119 => 50 | 224 => 35 | 225 => 34 | 217 => 33 | 266 => 42 | n => n, fun | 9 => 9 | 4 => 4 | 3 => 3 | 5 => 5 | 117 => 49 | 116 => 48 | 0 => 0 | 124 => 52 | 105 => 61 | 21 => 21 | 119 => 76 | 46 => 59 | 139 => 79 | 138 => 78 | n => n, fun | 3 => 1 | 4 => 2 | n => n⟩
theorem Tryd.laysTrimL : Go.Proofs.Lays.n161 Tryd.prog Tryd.laysTrimL_ren := {
  mixed := by kernel_rfl
  f119 := Tryd.func50.trans (congrArg some (by kernel_rfl))
  f137 := Tryd.func49.trans (congrArg some (by kernel_rfl))
  f151 := Tryd.func39.trans (congrArg some (by kernel_rfl))
  f152 := Tryd.func45.trans (congrArg some (by kernel_rfl))
  f161 := Tryd.func22.trans (congrArg some (by kernel_rfl))
  f197 := Tryd.func38.trans (congrArg some (by kernel_rfl))
  f217 := Tryd.func33.trans (congrArg some (by kernel_rfl))
  f224 := Tryd.func35.trans (congrArg some (by kernel_rfl))
  f225 := Tryd.func34.trans (congrArg some (by kernel_rfl))
  f227 := Tryd.func25.trans (congrArg some (by kernel_rfl))
  f228 := Tryd.func37.trans (congrArg some (by kernel_rfl))
  f231 := Tryd.func23.trans (congrArg some (by kernel_rfl))
  f233 := Tryd.func26.trans (congrArg some (by kernel_rfl))
  f235 := Tryd.func28.trans (congrArg some (by kernel_rfl))
  f260 := Tryd.func44.trans (congrArg some (by kernel_rfl))
  f266 := Tryd.func42.trans (congrArg some (by kernel_rfl))
  t0 := Tryd.underlying0
  a0 := Tryd.isAgg0
  z0 := Tryd.sizeOf0
  v0 := Tryd.zeroValue0
  t3 := Tryd.underlying3
  a3 := Tryd.isAgg3
  z3 := Tryd.sizeOf3
  v3 := Tryd.zeroValue3
  t4 := Tryd.underlying4
  a4 := Tryd.isAgg4
  z4 := Tryd.sizeOf4
  v4 := Tryd.zeroValue4
  t5 := Tryd.underlying5
  a5 := Tryd.isAgg5
  z5 := Tryd.sizeOf5
  v5 := Tryd.zeroValue5
  t9 := Tryd.underlying9
  a9 := Tryd.isAgg9
  z9 := Tryd.sizeOf9
  v9 := Tryd.zeroValue9
  t21 := Tryd.underlying21
  a21 := Tryd.isAgg21
  z21 := Tryd.sizeOf21
  v21 := Tryd.zeroValue21
  t46 := Tryd.underlying59
  a46 := Tryd.isAgg59
  z46 := Tryd.sizeOf59
  v46 := Tryd.zeroValue59
  t105 := Tryd.underlying61
  a105 := Tryd.isAgg61
  z105 := Tryd.sizeOf61
  v105 := Tryd.zeroValue61
  t116 := Tryd.underlying48
  a116 := Tryd.isAgg48
  z116 := Tryd.sizeOf48
  t117 := Tryd.underlying49
  a117 := Tryd.isAgg49
  z117 := Tryd.sizeOf49
  v117 := Tryd.zeroValue49
  t119 := Tryd.underlying76
  a119 := Tryd.isAgg76
  z119 := Tryd.sizeOf76
  t124 := Tryd.underlying52
  a124 := Tryd.isAgg52
  z124 := Tryd.sizeOf52
  v124 := Tryd.zeroValue52
  t138 := Tryd.underlying78
  a138 := Tryd.isAgg78
  z138 := Tryd.sizeOf78
  v138 := Tryd.zeroValue78
  t139 := Tryd.underlying79
  a139 := Tryd.isAgg79
  z139 := Tryd.sizeOf79
  v139 := Tryd.zeroValue79
  g3 := by kernel_rfl
  g4 := by kernel_rfl }

def Tryd.laysAtoi_ren : Go.Shelf.Ren := ⟨fun | 172 => 41 | 244 => 47 | 245 => 48 | 247 => 51 | 279 => 52 | 280 => 53 | 281 => 54 | 282 => 55 | 287 => 56 | 316 => 57 | 171 => 59 | 205 => 58 | 321 => 60 | 322 => 61 | 243 => 62 | 246 => 63 | 283 => 64 | 284 => 65 | 285 => 66 | 286 => 67 | 129 => 69 | 317 => 68 | 318 => 70 | 319 => 71 | 320 => 72 | 337 => 73 | 338 => 74 | n => n, fun | 9 => 9 | 3 => 3 | 75 => 68 | 76 => 69 | 4 => 4 | 5 => 5 | 167 => 80 | 37 => 81 | 0 => 0 | 85 => 82 | 2 => 2 | 168 => 84 | 53 => 87 | 175 => 88 | 46 => 59 | 210 => 91 | 127 => 95 | 145 => 98 | 143 => 96 | 21 => 21 | 171 => 100 | 173 => 103 | 212 => 106 | 51 => 71 | 20 => 20 | 213 => 107 | 232 => 111 | 233 => 112 | 80 => 113 | n => n, fun | 15 => 3 | 16 => 4 | 17 => 5 | 18 => 6 | 19 => 7 | n => n⟩
theorem Tryd.laysAtoi : Go.Proofs.Lays.n172 Tryd.prog Tryd.laysAtoi_ren := {
  mixed := by kernel_rfl
  f129 := Tryd.func69.trans (congrArg some (by kernel_rfl))
  f171 := Tryd.func59.trans (congrArg some (by kernel_rfl))
  f172 := Tryd.func41.trans (congrArg some (by kernel_rfl))
  f205 := Tryd.func58.trans (congrArg some (by kernel_rfl))
  f243 := Tryd.func62.trans (congrArg some (by kernel_rfl))
  f244 := Tryd.func47.trans (congrArg some (by kernel_rfl))
  f245 := Tryd.func48.trans (congrArg some (by kernel_rfl))
  f246 := Tryd.func63.trans (congrArg some (by kernel_rfl))
  f247 := Tryd.func51.trans (congrArg some (by kernel_rfl))
  f279 := Tryd.func52.trans (congrArg some (by kernel_rfl))
  f280 := Tryd.func53.trans (congrArg some (by kernel_rfl))
  f281 := Tryd.func54.trans (congrArg some (by kernel_rfl))
  f282 := Tryd.func55.trans (congrArg some (by kernel_rfl))
  f283 := Tryd.func64.trans (congrArg some (by kernel_rfl))
  f284 := Tryd.func65.trans (congrArg some (by kernel_rfl))
  f285 := Tryd.func66.trans (congrArg some (by kernel_rfl))
  f286 := Tryd.func67.trans (congrArg some (by kernel_rfl))
  f287 := Tryd.func56.trans (congrArg some (by kernel_rfl))
  f316 := Tryd.func57.trans (congrArg some (by kernel_rfl))
  f317 := Tryd.func68.trans (congrArg some (by kernel_rfl))
  f318 := Tryd.func70.trans (congrArg some (by kernel_rfl))
  f319 := Tryd.func71.trans (congrArg some (by kernel_rfl))
  f320 := Tryd.func72.trans (congrArg some (by kernel_rfl))
  f321 := Tryd.func60.trans (congrArg some (by kernel_rfl))
  f322 := Tryd.func61.trans (congrArg some (by kernel_rfl))
  f337 := Tryd.func73.trans (congrArg some (by kernel_rfl))
  f338 := Tryd.func74.trans (congrArg some (by kernel_rfl))
  t0 := Tryd.underlying0
  a0 := Tryd.isAgg0
  z0 := Tryd.sizeOf0
  v0 := Tryd.zeroValue0
  t2 := Tryd.underlying2
  a2 := Tryd.isAgg2
  z2 := Tryd.sizeOf2
  v2 := Tryd.zeroValue2
  t3 := Tryd.underlying3
  a3 := Tryd.isAgg3
  z3 := Tryd.sizeOf3
  v3 := Tryd.zeroValue3
  t4 := Tryd.underlying4
  a4 := Tryd.isAgg4
  z4 := Tryd.sizeOf4
  v4 := Tryd.zeroValue4
  t5 := Tryd.underlying5
  a5 := Tryd.isAgg5
  z5 := Tryd.sizeOf5
  v5 := Tryd.zeroValue5
  t9 := Tryd.underlying9
  a9 := Tryd.isAgg9
  z9 := Tryd.sizeOf9
  v9 := Tryd.zeroValue9
  t20 := Tryd.underlying20
  a20 := Tryd.isAgg20
  z20 := Tryd.sizeOf20
  v20 := Tryd.zeroValue20
  t21 := Tryd.underlying21
  a21 := Tryd.isAgg21
  z21 := Tryd.sizeOf21
  v21 := Tryd.zeroValue21
  t37 := Tryd.underlying81
  a37 := Tryd.isAgg81
  z37 := Tryd.sizeOf81
  v37 := Tryd.zeroValue81
  t46 := Tryd.underlying59
  a46 := Tryd.isAgg59
  z46 := Tryd.sizeOf59
  v46 := Tryd.zeroValue59
  t51 := Tryd.underlying71
  a51 := Tryd.isAgg71
  z51 := Tryd.sizeOf71
  v51 := Tryd.zeroValue71
  t53 := Tryd.underlying87
  a53 := Tryd.isAgg87
  z53 := Tryd.sizeOf87
  v53 := Tryd.zeroValue87
  t75 := Tryd.underlying68
  a75 := Tryd.isAgg68
  z75 := Tryd.sizeOf68
  v75 := Tryd.zeroValue68
  t76 := Tryd.underlying69
  a76 := Tryd.isAgg69
  z76 := Tryd.sizeOf69
  v76 := Tryd.zeroValue69
  t85 := Tryd.underlying82
  a85 := Tryd.isAgg82
  z85 := Tryd.sizeOf82
  v85 := Tryd.zeroValue82
  t127 := Tryd.underlying95
  a127 := Tryd.isAgg95
  z127 := Tryd.sizeOf95
  v127 := Tryd.zeroValue95
  t143 := Tryd.underlying96
  a143 := Tryd.isAgg96
  z143 := Tryd.sizeOf96
  v143 := Tryd.zeroValue96
  t145 := Tryd.underlying98
  a145 := Tryd.isAgg98
  z145 := Tryd.sizeOf98
  v145 := Tryd.zeroValue98
  t167 := Tryd.underlying80
  a167 := Tryd.isAgg80
  z167 := Tryd.sizeOf80
  v167 := Tryd.zeroValue80
  t168 := Tryd.underlying84
  a168 := Tryd.isAgg84
  z168 := Tryd.sizeOf84
  v168 := Tryd.zeroValue84
  t171 := Tryd.underlying100
  a171 := Tryd.isAgg100
  z171 := Tryd.sizeOf100
  v171 := Tryd.zeroValue100
  t173 := Tryd.underlying103
  a173 := Tryd.isAgg103
  z173 := Tryd.sizeOf103
  v173 := Tryd.zeroValue103
  t175 := Tryd.underlying88
  a175 := Tryd.isAgg88
  z175 := Tryd.sizeOf88
  v175 := Tryd.zeroValue88
  t210 := Tryd.underlying91
  a210 := Tryd.isAgg91
  z210 := Tryd.sizeOf91
  v210 := Tryd.zeroValue91
  t212 := Tryd.underlying106
  a212 := Tryd.isAgg106
  z212 := Tryd.sizeOf106
  v212 := Tryd.zeroValue106
  t213 := Tryd.underlying107
  a213 := Tryd.isAgg107
  z213 := Tryd.sizeOf107
  t232 := Tryd.underlying111
  a232 := Tryd.isAgg111
  z232 := Tryd.sizeOf111
  v232 := Tryd.zeroValue111
  t233 := Tryd.underlying112
  a233 := Tryd.isAgg112
  z233 := Tryd.sizeOf112
  v233 := Tryd.zeroValue112
  g15 := by kernel_rfl
  g16 := by kernel_rfl
  g17 := by kernel_rfl
  g18 := by kernel_rfl
  g19 := by kernel_rfl }

namespace YtfkffpcnknlbhaaDoor
namespace Ab
set_option maxRecDepth 100000
set_option linter.all false

theorem cell_same {w w' : World} {b c : Nat} (h : w'.heap[b]? = w.heap[b]?) : w'.cell? ⟨b, c, none⟩ = w.cell? ⟨b, c, none⟩ := by
  simp only [World.cell?, h]

instance maxX : WX := {
  X := fun I w => I 0 ∧ ∃ m, w.cell? ⟨0, 0, none⟩ = some (.int .i64 m)
  stable := fun h1 h2 h3 => ⟨h1 0 h3.1, h3.2.imp fun m hm => (cell_same (h2 0 h3.1)).trans hm⟩ }

theorem keep_below {w w' : World} (h : Below w.heap.size w w') : Keep (fun _ => False) w w' := by
  refine ⟨h.os, h.tape, h.output, h.size, fun b => ?_, fun b hb _ => h.block b hb⟩
  by_cases hb : b < w.heap.size
  · unfold csz
    rw [h.block b hb]
    exact Nat.le_refl _
  · have : csz w b = 0 := by
      unfold csz
      rw [Array.getElem?_eq_none (by omega)]
    omega

theorem vals1 {vals : Array Value} (h : vals.size = 1) : ∃ v, vals = #[v] := ⟨vals[0], by
  apply Array.ext
  · simp [h]
  · intro i h1 h2
    obtain rfl : i = 0 := by omega
    rfl⟩
theorem vals2 {vals : Array Value} (h : vals.size = 2) : ∃ v u, vals = #[v, u] := ⟨vals[0], vals[1], by
  apply Array.ext
  · simp [h]
  · intro i h1 h2
    have : i = 0 ∨ i = 1 := by omega
    rcases this with rfl | rfl
    · rfl
    · rfl⟩
theorem args1 {I : Nat → Prop} {w : World} {β : BMap} {vals : Array Value} {s : ByteArray} (h : Args I w β vals [.s s]) : vals = #[.string s] := by
  obtain ⟨hl, hv⟩ := h
  obtain ⟨v, rfl⟩ := vals1 hl
  have h0 := hv 0 v (.s s) rfl rfl
  cases h0
  rfl
theorem args2 {I : Nat → Prop} {w : World} {β : BMap} {vals : Array Value} {s p : ByteArray} (h : Args I w β vals [.s s, .s p]) : vals = #[.string s, .string p] := by
  obtain ⟨hl, hv⟩ := h
  obtain ⟨v, u, rfl⟩ := vals2 hl
  have h0 := hv 0 v (.s s) rfl rfl
  have h1 := hv 1 u (.s p) rfl rfl
  cases h0
  cases h1
  rfl

theorem info116 : (Tryd.prog.info? 48).map (fun i => (i.zero, i.size)) = some (some (.agg (Array.replicate 256 (.bool false))), 256) := by kernel_rfl

theorem intrOk : IntrOk cfg := by
  intro f h args r hf hr
  have e : cfg.intr f = intr30 f := rfl
  rw [e] at hf
  unfold intr30 at hf
  split at hf
  · -- Cut
    injection hf with hf
    subst hf
    refine ⟨⟨Tryd.f11, _, Tryd.func11, rfl⟩, ?_⟩
    intro I β w vals hI hX hA
    simp only at hr
    split at hr
    · rename_i s p
      split at hr
      · rename_i c hp
        split at hr
        · rename_i hs
          injection hr with hr
          subst hr
          obtain rfl := args2 hA
          obtain ⟨_, m, hm⟩ := hX
          have hc := Any.strings_Cut (P := Tryd.prog) (ρ := Tryd.laysCut_ren) { Tryd.laysCut with } s p m w hs hm
          rw [hp, cut_one] at hc
          refine hc.mono ?_
          rintro e w' ⟨he, n, rfl⟩
          refine ⟨_, he, .tup _ _ _ rfl ?_, keep_below (below_drewN (Below.refl _ _) n)⟩
          intro j v x hv hx
          match j, hv, hx with
          | 0, hv, hx => cases hv; cases hx; exact .s _ _
          | 1, hv, hx => cases hv; cases hx; exact .s _ _
          | 2, hv, hx => cases hv; cases hx; exact .b _ _
          | j + 3, hv, hx => cases hx
        · cases hr
      · cases hr
    · cases hr
  · -- Trim
    injection hf with hf
    subst hf
    refine ⟨⟨Tryd.f18, _, Tryd.func18, rfl⟩, ?_⟩
    intro I β w vals hI hX hA
    simp only at hr
    split at hr
    · rename_i s p
      split at hr
      · rename_i hs
        injection hr with hr
        subst hr
        obtain rfl := args2 hA
        have hc := Any.strings_Trim_laid (P := Tryd.prog) (ρ := Tryd.laysTrim_ren) Tryd.laysTrim info116 s p w (by omega) hs.2.1 (ascii_of_all hs.2.2)
        exact hc.mono fun e w' ⟨he, hb⟩ => ⟨_, he, .s _ _, keep_below hb⟩
      · cases hr
    · cases hr
  · -- TrimLeft
    injection hf with hf
    subst hf
    refine ⟨⟨Tryd.f22, _, Tryd.func22, rfl⟩, ?_⟩
    intro I β w vals hI hX hA
    simp only at hr
    split at hr
    · rename_i s p
      split at hr
      · rename_i hs
        injection hr with hr
        subst hr
        obtain rfl := args2 hA
        have hc := Any.strings_TrimLeft_laid (P := Tryd.prog) (ρ := Tryd.laysTrimL_ren) Tryd.laysTrimL info116 s p w hs.1 (ascii_of_all hs.2)
        exact hc.mono fun e w' ⟨he, hb⟩ => ⟨_, he, .s _ _, keep_below hb⟩
      · cases hr
    · cases hr
  · -- Atoi
    injection hf with hf
    subst hf
    refine ⟨⟨Tryd.f41, _, Tryd.func41, rfl⟩, ?_⟩
    intro I β w vals hI hX hA
    simp only at hr
    split at hr
    · rename_i s
      split at hr
      · rename_i n hn
        split at hr
        · rename_i hs
          injection hr with hr
          subst hr
          obtain rfl := args1 hA
          have hc := Any.strconv_Atoi (P := Tryd.prog) (ρ := Tryd.laysAtoi_ren) Tryd.laysAtoi s n hs hn w
          refine hc.mono ?_
          rintro e w' ⟨he, t, rfl⟩
          refine ⟨_, he, .tup _ _ _ rfl ?_, keep_below (Go.Joins.below_bytesWorld _ _ _ _ (Nat.le_refl _))⟩
          intro j v x hv hx
          match j, hv, hx with
          | 0, hv, hx => cases hv; cases hx; exact .i _ _ _
          | 1, hv, hx => cases hx; exact .undef _ _
          | j + 2, hv, hx => cases hx
        · cases hr
      · cases hr
    · cases hr
  · cases hf

theorem names_ok : (Tryd.prog.funcs.toList.all fun fn => !(fn.name == "runtime.NumGoroutine")) = true := by kernel_rfl
theorem dsts_ok : (Tryd.prog.funcs.toList.all fun fn => match fn.body with
    | some c => dstOk fn.ntmps c
    | none => true) = true := by kernel_rfl
theorem mem_of {f : FuncId} {fn : Func} (h : Tryd.prog.funcs[f]? = some fn) : fn ∈ Tryd.prog.funcs.toList := by
  have := Array.mem_of_getElem? h
  exact Array.mem_toList_iff.2 this

theorem fitC : Fit cfg := by
  refine ⟨intrOk, ?_, (by kernel_rfl : Tryd.prog.follows .mixedOrders = true), ?_⟩
  · intro f fn hf
    have := List.all_eq_true.1 names_ok fn (mem_of hf)
    simpa using this
  · intro f fn c hf hb
    have := List.all_eq_true.1 dsts_ok fn (mem_of hf)
    rw [hb] at this
    exact this

end Ab
end YtfkffpcnknlbhaaDoor
end Go.Proofs
