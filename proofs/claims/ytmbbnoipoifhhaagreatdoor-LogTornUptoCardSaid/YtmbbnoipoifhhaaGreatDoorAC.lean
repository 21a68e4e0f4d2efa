/-
  DERIVED. strings.Trim, strings.IndexByte of the program, by the shelf's contracts (layings printed by the kit's own elab, its text turned into a printer); that the interpreter's answers are the program's; what the laws' arguments are.
  Conditions: none.
-/
import Derived.Test.YtmbbnoipoifhhaaGreatDoorHl
import Derived.Test.YtmbbnoipoifhhaaGreatDoorV34
import Derived.Test.YtmbbnoipoifhhaaGreatDoorAbF
import Derived.Shelf.Small.Strs
import Derived.Shelf.Strings.SlTrimAscii
set_option linter.all false
set_option maxHeartbeats 4000000
namespace Go.Proofs
open Go.RowKit Go.Shelf Go.Lib
def Tryz.laysTrim_ren : Go.Shelf.Ren := ⟨fun | 160 => 70 | 232 => 108 | 231 => 107 | 227 => 109 | 234 => 111 | 233 => 110 | 236 => 113 | 235 => 112 | 228 => 134 | 271 => 137 | 151 => 136 | 197 => 135 | 120 => 157 | 152 => 156 | 260 => 155 | 137 => 115 | 119 => 175 | 224 => 176 | 225 => 177 | 217 => 139 | 266 => 159 | n => n, fun | 9 => 9 | 4 => 4 | 3 => 3 | 5 => 5 | 117 => 164 | 116 => 163 | 0 => 0 | 124 => 167 | 21 => 21 | 105 => 184 | 46 => 171 | 119 => 215 | 139 => 218 | 138 => 217 | n => n, fun | 3 => 0 | 4 => 1 | n => n⟩
theorem Tryz.laysTrim : Go.Proofs.Lays.n160 Tryz.prog Tryz.laysTrim_ren := {
  mixed := by kernel_rfl
  f119 := Tryz.func175.trans (congrArg some (by kernel_rfl))
  f120 := Tryz.func157.trans (congrArg some (by kernel_rfl))
  f137 := Tryz.func115.trans (congrArg some (by kernel_rfl))
  f151 := Tryz.func136.trans (congrArg some (by kernel_rfl))
  f152 := Tryz.func156.trans (congrArg some (by kernel_rfl))
  f160 := Tryz.func70.trans (congrArg some (by kernel_rfl))
  f197 := Tryz.func135.trans (congrArg some (by kernel_rfl))
  f217 := Tryz.func139.trans (congrArg some (by kernel_rfl))
  f224 := Tryz.func176.trans (congrArg some (by kernel_rfl))
  f225 := Tryz.func177.trans (congrArg some (by kernel_rfl))
  f227 := Tryz.func109.trans (congrArg some (by kernel_rfl))
  f228 := Tryz.func134.trans (congrArg some (by kernel_rfl))
  f231 := Tryz.func107.trans (congrArg some (by kernel_rfl))
  f232 := Tryz.func108.trans (congrArg some (by kernel_rfl))
  f233 := Tryz.func110.trans (congrArg some (by kernel_rfl))
  f234 := Tryz.func111.trans (congrArg some (by kernel_rfl))
  f235 := Tryz.func112.trans (congrArg some (by kernel_rfl))
  f236 := Tryz.func113.trans (congrArg some (by kernel_rfl))
  f260 := Tryz.func155.trans (congrArg some (by kernel_rfl))
  f266 := Tryz.func159.trans (congrArg some (by kernel_rfl))
  f271 := Tryz.func137.trans (congrArg some (by kernel_rfl))
  t0 := Tryz.underlying0
  a0 := Tryz.isAgg0
  z0 := Tryz.sizeOf0
  v0 := Tryz.zeroValue0
  t3 := Tryz.underlying3
  a3 := Tryz.isAgg3
  z3 := Tryz.sizeOf3
  v3 := Tryz.zeroValue3
  t4 := Tryz.underlying4
  a4 := Tryz.isAgg4
  z4 := Tryz.sizeOf4
  v4 := Tryz.zeroValue4
  t5 := Tryz.underlying5
  a5 := Tryz.isAgg5
  z5 := Tryz.sizeOf5
  v5 := Tryz.zeroValue5
  t9 := Tryz.underlying9
  a9 := Tryz.isAgg9
  z9 := Tryz.sizeOf9
  v9 := Tryz.zeroValue9
  t21 := Tryz.underlying21
  a21 := Tryz.isAgg21
  z21 := Tryz.sizeOf21
  v21 := Tryz.zeroValue21
  t46 := Tryz.underlying171
  a46 := Tryz.isAgg171
  z46 := Tryz.sizeOf171
  v46 := Tryz.zeroValue171
  t105 := Tryz.underlying184
  a105 := Tryz.isAgg184
  z105 := Tryz.sizeOf184
  v105 := Tryz.zeroValue184
  t116 := Tryz.underlying163
  a116 := Tryz.isAgg163
  z116 := Tryz.sizeOf163
  t117 := Tryz.underlying164
  a117 := Tryz.isAgg164
  z117 := Tryz.sizeOf164
  v117 := Tryz.zeroValue164
  t119 := Tryz.underlying215
  a119 := Tryz.isAgg215
  z119 := Tryz.sizeOf215
  t124 := Tryz.underlying167
  a124 := Tryz.isAgg167
  z124 := Tryz.sizeOf167
  v124 := Tryz.zeroValue167
  t138 := Tryz.underlying217
  a138 := Tryz.isAgg217
  z138 := Tryz.sizeOf217
  v138 := Tryz.zeroValue217
  t139 := Tryz.underlying218
  a139 := Tryz.isAgg218
  z139 := Tryz.sizeOf218
  v139 := Tryz.zeroValue218
  g3 := by kernel_rfl
  g4 := by kernel_rfl }

def Tryz.laysIB_ren : Go.Shelf.Ren := ⟨fun | 137 => 115 | 217 => 139 | 266 => 159 | n => n, fun | 9 => 9 | 5 => 5 | 3 => 3 | n => n, fun | n => n⟩
theorem Tryz.laysIB : Go.Proofs.Lays.n137 Tryz.prog Tryz.laysIB_ren := {
  mixed := by kernel_rfl
  f137 := Tryz.func115.trans (congrArg some (by kernel_rfl))
  f217 := Tryz.func139.trans (congrArg some (by kernel_rfl))
  f266 := Tryz.func159.trans (congrArg some (by kernel_rfl))
  t3 := Tryz.underlying3
  a3 := Tryz.isAgg3
  z3 := Tryz.sizeOf3
  v3 := Tryz.zeroValue3
  t5 := Tryz.underlying5
  a5 := Tryz.isAgg5
  z5 := Tryz.sizeOf5
  v5 := Tryz.zeroValue5
  t9 := Tryz.underlying9
  a9 := Tryz.isAgg9
  z9 := Tryz.sizeOf9
  v9 := Tryz.zeroValue9 }


namespace YtmbbnoipoifhhaaGreatDoor
namespace Ab
set_option maxRecDepth 100000
set_option linter.all false

instance freeX : WX := { X := fun _ _ => True, stable := fun _ _ _ => trivial }

theorem fnames_ok : (Tryz.prog.funcs.toList.all fun fn => !(fn.name == "runtime.NumGoroutine")) = true := by kernel_rfl
theorem dsts_ok : (Tryz.prog.funcs.toList.all fun fn => match fn.body with
    | some c => dstOk fn.ntmps c
    | none => true) = true := by kernel_rfl
theorem mem_of {f : FuncId} {fn : Func} (h : Tryz.prog.funcs[f]? = some fn) : fn ∈ Tryz.prog.funcs.toList := by
  have := Array.mem_of_getElem? h
  exact Array.mem_toList_iff.2 this

theorem vals2 {vals : Array Value} (h : vals.size = 2) : ∃ v u, vals = #[v, u] := ⟨vals[0], vals[1], by
  apply Array.ext
  · simp [h]
  · intro i h1 h2
    have : i = 0 ∨ i = 1 := by omega
    rcases this with rfl | rfl
    · rfl
    · rfl⟩
theorem args_ss {I : Nat → Prop} {w : World} {β : BMap} {vals : Array Value} {s p : ByteArray} (h : Args I w β vals [.s s, .s p]) : vals = #[.string s, .string p] := by
  obtain ⟨hl, hv⟩ := h
  obtain ⟨v, u, rfl⟩ := vals2 hl
  have h0 := hv 0 v (.s s) rfl rfl
  have h1 := hv 1 u (.s p) rfl rfl
  cases h0
  cases h1
  rfl
theorem args_sc {I : Nat → Prop} {w : World} {β : BMap} {vals : Array Value} {s : ByteArray} {c : Int} (h : Args I w β vals [.s s, .i .u8 c]) : vals = #[.string s, .int .u8 c] := by
  obtain ⟨hl, hv⟩ := h
  obtain ⟨v, u, rfl⟩ := vals2 hl
  have h0 := hv 0 v (.s s) rfl rfl
  have h1 := hv 1 u (.i .u8 c) rfl rfl
  cases h0
  cases h1
  rfl
theorem info116 : (Tryz.prog.info? (Tryz.laysTrim_ren.t 116)).map (fun i => (i.zero, i.size)) = some (some (.agg (Array.replicate 256 (.bool false))), 256) := by kernel_rfl

theorem intrOk : IntrOk cfg := by
  intro f h args r hf hr
  have e : cfg.intr f = intr10 f := rfl
  rw [e] at hf
  unfold intr10 at hf
  split at hf
  · injection hf with hf
    subst hf
    refine ⟨⟨Tryz.f70, _, Tryz.func70, rfl⟩, ?_⟩
    intro I β w vals hI hX hA
    simp only at hr
    split at hr
    · rename_i s p
      split at hr
      · rename_i hs
        injection hr with hr
        subst hr
        obtain rfl := args_ss hA
        have hc := Any.strings_Trim_laid (P := Tryz.prog) (ρ := Tryz.laysTrim_ren) Tryz.laysTrim info116 s p w (by omega) hs.2.1 (ascii_of_all hs.2.2)
        exact hc.mono fun e w' ⟨he, hb⟩ => ⟨_, he, .s _ _, keep_below hb⟩
      · cases hr
    · cases hr
  · injection hf with hf
    subst hf
    refine ⟨⟨Tryz.f115, _, Tryz.func115, rfl⟩, ?_⟩
    intro I β w vals hI hX hA
    simp only at hr
    split at hr
    · rename_i s c
      injection hr with hr
      subst hr
      obtain rfl := args_sc hA
      have hc := Any.strings_IndexByte (P := Tryz.prog) (ρ := Tryz.laysIB_ren) Tryz.laysIB s c w
      exact hc.mono fun e w' ⟨he, hb⟩ => ⟨_, he, .i _ _ _, by rw [hb]; exact keep_below (Below.refl _ _)⟩
    · cases hr
  · cases hf
theorem fitC : Fit cfg := by
  refine ⟨intrOk, ?_, (by kernel_rfl : Tryz.prog.follows .mixedOrders = true), ?_, fun f h hh => hint_all f h hh⟩
  · intro f fn hf
    have := List.all_eq_true.1 fnames_ok fn (mem_of hf)
    simpa using this
  · intro f fn c hf hb
    have := List.all_eq_true.1 dsts_ok fn (mem_of hf)
    rw [hb] at this
    exact this


theorem cells5 : Tryz.prog.cellsOf 5 = 1 := by kernel_rfl
theorem list_of {α : Type} {f : α → List AV} {P : α → Prop} : ∀ {rows : List (List AV)}, (∀ r ∈ rows, ∃ c, r = f c ∧ P c) → ∃ l : List α, rows = l.map f ∧ ∀ c ∈ l, P c
  | [], _ => ⟨[], rfl, fun c h => by cases h⟩
  | r :: rows, h => by
    obtain ⟨c, rfl, hc⟩ := h r List.mem_cons_self
    obtain ⟨l, rfl, hl⟩ := list_of (rows := rows) fun r hr => h r (List.mem_cons_of_mem _ hr)
    exact ⟨c :: l, rfl, fun x hx => by
      rcases List.mem_cons.1 hx with rfl | hx
      · exact hc
      · exact hl x hx⟩

theorem ty5 {n : Nat} {cs : List AV} (h : TyC Tryz.prog (n + 1) 5 cs) : ∃ c : UInt8, cs = [.i .u8 (c.toNat : Int)] := by
  simp only [TyC, underlying_5] at h
  obtain ⟨x, h, hw⟩ := h
  have hx : 0 ≤ x ∧ x < 256 := by
    have h1 : IntKind.u8.min = 0 := by decide
    have h2 : IntKind.u8.max = 255 := by decide
    simp [Lit.wf, h1, h2] at hw
    omega
  refine ⟨UInt8.ofNat x.toNat, ?_⟩
  have h2 : (UInt8.ofNat x.toNat).toNat = x.toNat := by
    simp only [UInt8.toNat_ofNat']
    omega
  rw [h2, h, Int.toNat_of_nonneg hx.1]
theorem ty37 {n : Nat} {cs : List AV} (h : TyC Tryz.prog (n + 2) 37 cs) : ∃ z l, cs = [.vs z 1 (byteRows l)] ∧ (z = true → l = []) := by
  unfold TyC at h
  simp only [underlying_37, cells5] at h
  obtain ⟨z, rows, rfl, h1, _, h2⟩ := h
  obtain ⟨l, rfl, _⟩ := list_of (f := fun c : UInt8 => [AV.i .u8 (c.toNat : Int)]) (P := fun _ => True) fun r hr => by
    obtain ⟨x, hx⟩ := ty5 (h2 r hr).2
    exact ⟨x, hx, trivial⟩
  exact ⟨z, l, rfl, fun hz => by simpa using h1 hz⟩
/-- A slice of rows of one cell each is of bulk at least its length. -/
theorem bulk_rows {n : Nat} {z : Bool} {rows : List (List AV)} (h : ∀ r ∈ rows, 1 ≤ r.length) : rows.length + 1 ≤ bulkL (n + 1) (AV.vs z 1 rows).cells := by
  have h0 : bulkL (n + 1) (AV.vs z 1 rows).cells = (rows.map fun r => (r.map (bulkA n)).sum).sum + 1 := by
    simp [AV.cells, bulkL, bulkA]
  rw [h0]
  have : ∀ rows : List (List AV), (∀ r ∈ rows, 1 ≤ r.length) → rows.length ≤ (rows.map fun r => (r.map (bulkA n)).sum).sum := by
    intro rows h
    induction rows with
    | nil => simp
    | cons r rows ih =>
      have h1 := h r List.mem_cons_self
      have h2 := bulkL_len n r
      have h3 := ih fun r hr => h r (List.mem_cons_of_mem _ hr)
      unfold bulkL at h2
      simp only [List.length_cons, List.map_cons, List.sum_cons]
      omega
  have := this rows h
  omega
theorem bulk_bytes {n : Nat} {z : Bool} {l : Bs} : l.length + 1 ≤ bulkL (n + 1) (AV.vs z 1 (byteRows l)).cells := by
  have := bulk_rows (n := n) (z := z) (rows := byteRows l) (fun r hr => by simp [byteRows] at hr; obtain ⟨_, _, rfl⟩ := hr; simp)
  simpa using this
end Ab
end YtmbbnoipoifhhaaGreatDoor
end Go.Proofs

/-
  DERIVED. What LogTorn's arguments are; its plain law.
  Conditions: none.
-/
namespace Go.Proofs.YtmbbnoipoifhhaaGreatDoor
namespace Ab
set_option maxRecDepth 100000
set_option linter.all false

theorem ty23 {n : Nat} {cs : List AV} (h : TyC Tryz.prog (n + 1) 23 cs) : ∃ x : Nat, cs = [.i .u16 (x : Nat)] ∧ x < 65536 := by
  simp only [TyC, underlying_23] at h
  obtain ⟨x, h, hw⟩ := h
  have hx : 0 ≤ x ∧ x < 65536 := by
    have h1 : IntKind.u16.min = 0 := by decide
    have h2 : IntKind.u16.max = 65535 := by decide
    simp [Lit.wf, h1, h2] at hw
    omega
  exact ⟨x.toNat, by rw [h, Int.toNat_of_nonneg hx.1], by omega⟩
theorem cells37 : Tryz.prog.cellsOf 37 = 1 := by kernel_rfl
theorem ty22 {n : Nat} {cs : List AV} (h : TyC Tryz.prog (n + 3) 22 cs) : ∃ z rows bs, cs = [.vs z 1 rows] ∧ (z = true → rows = []) ∧ BsRows rows bs := by
  unfold TyC at h
  simp only [underlying_22, cells37] at h
  obtain ⟨z, rows, rfl, h1, _, h2⟩ := h
  have key : ∀ rows : List (List AV), (∀ r ∈ rows, r.length = 1 ∧ TyC Tryz.prog (n + 2) 37 r) → ∃ l, BsRows rows l := by
    intro rows
    induction rows with
    | nil => intro _; exact ⟨[], rfl, fun i r x h => by simp at h⟩
    | cons r rows ih =>
      intro hr
      obtain ⟨zb, b, rfl, q1⟩ := ty37 (hr r List.mem_cons_self).2
      obtain ⟨l, e1⟩ := ih fun r hr' => hr r (List.mem_cons_of_mem _ hr')
      refine ⟨b :: l, by simp [e1.1], fun i r x p1 p2 => ?_⟩
      cases i with
      | zero => cases p1; cases p2; exact ⟨zb, rfl, q1⟩
      | succ i => exact e1.2 i r x p1 p2
  obtain ⟨l, e1⟩ := key rows h2
  exact ⟨z, rows, l, rfl, h1, e1⟩
theorem bulk_bs {n : Nat} {z : Bool} {rows : List (List AV)} {l : List Bs} (h : BsRows rows l) : l.length + 1 ≤ bulkL (n + 2) (AV.vs z 1 rows).cells ∧ ∀ b ∈ l, b.length ≤ bulkL (n + 2) (AV.vs z 1 rows).cells := by
  have h0 : bulkL (n + 2) (AV.vs z 1 rows).cells = (rows.map fun r => bulkL (n + 1) r).sum + 1 := by
    simp [AV.cells, bulkL, bulkA]
  rw [h0]
  have key : ∀ (l : List Bs) (rows : List (List AV)), BsRows rows l → l.length ≤ (rows.map fun r => bulkL (n + 1) r).sum ∧ ∀ b ∈ l, b.length ≤ (rows.map fun r => bulkL (n + 1) r).sum := by
    intro l
    induction l with
    | nil => intro rows _; exact ⟨by simp, fun a h => by cases h⟩
    | cons b l ih =>
      intro rows h
      match rows, h with
      | [], h => exact absurd h.1 (by simp)
      | r :: rows, h =>
        obtain ⟨zb, rfl, _⟩ := h.2 0 r b rfl rfl
        obtain ⟨i1, i2⟩ := ih rows ⟨by simpa using h.1, fun i r x p1 p2 => h.2 (i + 1) r x p1 p2⟩
        have hb : b.length + 1 ≤ bulkL (n + 1) [.vs zb 1 (byteRows b)] := bulk_bytes (n := n) (z := zb) (l := b)
        simp only [List.length_cons, List.map_cons, List.sum_cons]
        refine ⟨by omega, fun c hc => ?_⟩
        rcases List.mem_cons.1 hc with rfl | hc
        · omega
        · have := i2 c hc
          omega
  obtain ⟨k1, k2⟩ := key l rows h
  exact ⟨by omega, fun b hb => by have := k2 b hb; omega⟩

theorem plainTorn : Plain cfg (2 ^ 20) 8 3 [22, 23, 5] := by
  intro xs hl hty hbulk
  match xs, hl with
  | [x0, x1, x2], _ =>
    have h0 := hty 0 22 x0 rfl rfl
    have h1 := hty 1 23 x1 rfl rfl
    have h2 := hty 2 5 x2 rfl rfl
    unfold ArgOf at h0 h1 h2
    simp only [cP, underlying_22, underlying_23, underlying_5] at h0 h1 h2
    obtain ⟨z, rows, l, e0, hz, hr⟩ := ty22 (n := 5) h0
    obtain ⟨q, e1, q1⟩ := ty23 (n := 7) h1
    obtain ⟨f, e2⟩ := ty5 (n := 7) h2
    cases e0; cases e1; cases e2
    have hs := hbulk 8
    simp only [List.map_cons, List.map_nil, List.sum_cons, List.sum_nil] at hs
    obtain ⟨b1, b2⟩ := bulk_bs (n := 6) (z := z) hr
    simp only [show 6 + 2 = 8 from rfl] at b1 b2
    obtain ⟨r, hp', nx', h5, h6⟩ := c_LogTorn (K := 2 ^ 26) (n := 12) (H := []) (N := 0) (Nat.le_refl _) (Nat.le_refl _) z rows l q f hz hr q1 (by omega) (fun b hb => by have := b2 b hb; omega)
    subst h6
    exact ⟨_, _, _, _, h5⟩

end Ab
end Go.Proofs.YtmbbnoipoifhhaaGreatDoor
