/-
  DERIVED. utf8.ValidString of the program, by the shelf's contract; the tables that it reads stay as they are.
  Conditions: the two tables hold what their initialisers lay.
-/
import Derived.Test.YtgkaidnfmkncmaaDoorS25
import Derived.Shelf.Unicode.ValidAny
import Derived.Lib.LaidU8T
set_option linter.all false
set_option maxHeartbeats 4000000
namespace Go.Proofs
open Go.RowKit Go.Shelf Go.Lib
def Tryd.laysValid_ren : Go.Shelf.Ren := ⟨fun | 196 => 47 | 259 => 50 | n => n, fun | 9 => 9 | 4 => 4 | 3 => 3 | 5 => 5 | 12 => 12 | 119 => 85 | 0 => 0 | 46 => 89 | 139 => 88 | 138 => 87 | 53 => 41 | n => n, fun | 3 => 0 | 4 => 1 | n => n⟩
theorem Tryd.laysValid : Go.Proofs.Lays.n196 Tryd.prog Tryd.laysValid_ren := {
  mixed := by kernel_rfl
  f196 := Tryd.func47.trans (congrArg some (by kernel_rfl))
  f259 := Tryd.func50.trans (congrArg some (by kernel_rfl))
  t0 := Tryd.underlying0
  a0 := Tryd.isAgg0
  z0 := Tryd.sizeOf0
  v0 := Tryd.zeroValue0
  t3 := Tryd.underlying3
  a3 := Tryd.isAgg3
  z3 := Tryd.sizeOf3
  v3 := Tryd.zeroValue3
  t4 := Tryd.underlying4
  a4 := Tryd.isAgg4
  z4 := Tryd.sizeOf4
  v4 := Tryd.zeroValue4
  t5 := Tryd.underlying5
  a5 := Tryd.isAgg5
  z5 := Tryd.sizeOf5
  v5 := Tryd.zeroValue5
  t9 := Tryd.underlying9
  a9 := Tryd.isAgg9
  z9 := Tryd.sizeOf9
  v9 := Tryd.zeroValue9
  t12 := Tryd.underlying12
  a12 := Tryd.isAgg12
  z12 := Tryd.sizeOf12
  v12 := Tryd.zeroValue12
  t46 := Tryd.underlying89
  a46 := Tryd.isAgg89
  z46 := Tryd.sizeOf89
  v46 := Tryd.zeroValue89
  t53 := Tryd.underlying41
  a53 := Tryd.isAgg41
  z53 := Tryd.sizeOf41
  v53 := Tryd.zeroValue41
  t119 := Tryd.underlying85
  a119 := Tryd.isAgg85
  z119 := Tryd.sizeOf85
  t138 := Tryd.underlying87
  a138 := Tryd.isAgg87
  z138 := Tryd.sizeOf87
  v138 := Tryd.zeroValue87
  t139 := Tryd.underlying88
  a139 := Tryd.isAgg88
  z139 := Tryd.sizeOf88
  v139 := Tryd.zeroValue88
  g3 := by kernel_rfl
  g4 := by kernel_rfl }
namespace YtgkaidnfmkncmaaDoor
namespace Ab
set_option maxRecDepth 100000

theorem cell_same {w w' : World} {b c : Nat} (h : w'.heap[b]? = w.heap[b]?) : w'.cell? ⟨b, c, none⟩ = w.cell? ⟨b, c, none⟩ := by
  simp only [World.cell?, h]

instance tabX : WX := {
  X := fun I w => I 0 ∧ I 1 ∧ Lib.Utf8Tabs 0 1 w
  stable := fun h1 h2 h3 => ⟨h1 0 h3.1, h1 1 h3.2.1, fun c hc => (cell_same (h2 0 h3.1)).trans (h3.2.2.1 c hc), fun i hi => ⟨(cell_same (h2 1 h3.2.1)).trans (h3.2.2.2 i hi).1, (cell_same (h2 1 h3.2.1)).trans (h3.2.2.2 i hi).2⟩⟩ }

theorem keep_below {w w' : World} (h : Below w.heap.size w w') : Keep (fun _ => False) w w' := by
  refine ⟨h.os, h.tape, h.output, h.size, fun b => ?_, fun b hb _ => h.block b hb⟩
  by_cases hb : b < w.heap.size
  · unfold csz
    rw [h.block b hb]
    exact Nat.le_refl _
  · have : csz w b = 0 := by
      unfold csz
      rw [Array.getElem?_eq_none (by omega)]
    omega

theorem intrOk : IntrOk cfg := by
  intro f h args r hf hr
  by_cases h47 : f = 47
  · subst h47
    rw [i47] at hf
    injection hf with hf
    subst hf
    refine ⟨⟨Tryd.f47, _, Tryd.func47, rfl⟩, ?_⟩
    intro I β w vals hI hX hA
    simp only at hr
    split at hr
    · rename_i s
      split at hr
      · rename_i hs
        injection hr with hr
        subst hr
        obtain ⟨hl, hv⟩ := hA
        have hsz : vals.size = 1 := hl
        obtain ⟨v, rfl⟩ : ∃ v, vals = #[v] := ⟨vals[0], by
          apply Array.ext
          · simp [hsz]
          · intro i h1 h2
            obtain rfl : i = 0 := by omega
            rfl⟩
        have h0 := hv 0 v (.s s) rfl rfl
        cases h0
        have hc := Any.utf8_ValidString (P := Tryd.prog) (ρ := Tryd.laysValid_ren) Tryd.laysValid s w (by omega) hX.2.2
        exact hc.mono fun e w' ⟨he, hb⟩ => ⟨_, he, .b _ _, keep_below hb⟩
      · cases hr
    · cases hr
  · exfalso
    have : cfg.intr f = none := by
      show (if f = 47 then _ else none) = none
      rw [if_neg h47]
    rw [this] at hf
    cases hf

theorem names_ok : (Tryd.prog.funcs.toList.all fun fn => !(fn.name == "runtime.NumGoroutine")) = true := by kernel_rfl
theorem dsts_ok : (Tryd.prog.funcs.toList.all fun fn => match fn.body with
    | some c => dstOk fn.ntmps c
    | none => true) = true := by kernel_rfl
theorem mem_of {f : FuncId} {fn : Func} (h : Tryd.prog.funcs[f]? = some fn) : fn ∈ Tryd.prog.funcs.toList := by
  have := Array.mem_of_getElem? h
  exact Array.mem_toList_iff.2 this

theorem fitC : Fit cfg := by
  refine ⟨intrOk, ?_, (by kernel_rfl : Tryd.prog.follows .mixedOrders = true), ?_⟩
  · intro f fn hf
    have := List.all_eq_true.1 names_ok fn (mem_of hf)
    simpa using this
  · intro f fn c hf hb
    have := List.all_eq_true.1 dsts_ok fn (mem_of hf)
    rw [hb] at this
    exact this

end Ab
end YtgkaidnfmkncmaaDoor
end Go.Proofs
