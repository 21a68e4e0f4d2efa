/-
  DERIVED. What the laws' arguments are: logs, a number.
  Conditions: none.
-/
import Derived.Test.YtidoflgcblglbaaDoorW36
import Derived.Test.YtidoflgcblglbaaDoorAbF
import Derived.Test.YtidoflgcblglbaaDoorHs
import Derived.Lib.LaidU8T
set_option linter.all false
set_option maxHeartbeats 4000000
namespace Go.Proofs.YtidoflgcblglbaaDoor
namespace Ab
set_option maxRecDepth 100000
set_option linter.all false
theorem cells3 : Tryd.prog.cellsOf 3 = 1 := by kernel_rfl
theorem cells30 : Tryd.prog.cellsOf 30 = 1 := by kernel_rfl
theorem cells39 : Tryd.prog.cellsOf 39 = 6 := by kernel_rfl
theorem cells50 : Tryd.prog.cellsOf 50 = 3 := by kernel_rfl
section
variable [WX]
theorem list_of {α : Type} {f : α → List AV} {P : α → Prop} : ∀ {rows : List (List AV)}, (∀ r ∈ rows, ∃ c, r = f c ∧ P c) → ∃ l : List α, rows = l.map f ∧ ∀ c ∈ l, P c
  | [], _ => ⟨[], rfl, fun c h => by cases h⟩
  | r :: rows, h => by
    obtain ⟨c, rfl, hc⟩ := h r List.mem_cons_self
    obtain ⟨l, rfl, hl⟩ := list_of (rows := rows) fun r hr => h r (List.mem_cons_of_mem _ hr)
    exact ⟨c :: l, rfl, fun x hx => by
      rcases List.mem_cons.1 hx with rfl | hx
      · exact hc
      · exact hl x hx⟩
theorem ty3 {n : Nat} {cs : List AV} (h : TyC Tryd.prog (n + 1) 3 cs) : ∃ x, cs = [.i .i64 x] := by
  simp only [TyC, underlying_3] at h
  obtain ⟨x, h, _⟩ := h
  exact ⟨x, h⟩
theorem ty2 {n : Nat} {cs : List AV} (h : TyC Tryd.prog (n + 1) 2 cs) : ∃ x, cs = [.i .i64 x] := by
  simp only [TyC, underlying_2] at h
  obtain ⟨x, h, _⟩ := h
  exact ⟨x, h⟩
theorem ty9 {n : Nat} {cs : List AV} (h : TyC Tryd.prog (n + 1) 9 cs) : ∃ x, cs = [.s x] := by
  simp only [TyC, underlying_9] at h
  obtain ⟨x, h, _⟩ := h
  exact ⟨x, h⟩
theorem ty23 {n : Nat} {cs : List AV} (h : TyC Tryd.prog (n + 1) 23 cs) : ∃ x : Nat, cs = [.i .u64 (x : Nat)] ∧ x < 18446744073709551616 := by
  simp only [TyC, underlying_23] at h
  obtain ⟨x, h, hw⟩ := h
  have hx : 0 ≤ x ∧ x < 18446744073709551616 := by
    have h1 : IntKind.u64.min = 0 := by decide
    have h2 : IntKind.u64.max = 18446744073709551615 := by decide
    simp [Lit.wf, h1, h2] at hw
    omega
  exact ⟨x.toNat, by rw [h, Int.toNat_of_nonneg hx.1], by omega⟩
theorem ty27 {n : Nat} {cs : List AV} (h : TyC Tryd.prog (n + 2) 27 cs) : ∃ z l, cs = [.vs z 1 (ints l)] ∧ (z = true → l = []) := by
  unfold TyC at h
  simp only [underlying_27, cells3] at h
  obtain ⟨z, rows, rfl, h1, _, h2⟩ := h
  obtain ⟨l, rfl, _⟩ := list_of (f := fun x : Int => [AV.i .i64 x]) (P := fun _ => True) fun r hr => by
    obtain ⟨x, hx⟩ := ty3 (h2 r hr).2
    exact ⟨x, hx, trivial⟩
  exact ⟨z, l, rfl, fun hz => by simpa using h1 hz⟩
theorem ty50 {n : Nat} {cs : List AV} (h : TyC Tryd.prog (n + 2) 50 cs) : ∃ c : Val, cs = c.row := by
  unfold TyC at h
  simp only [underlying_50, List.map_cons, List.map_nil, TyS] at h
  obtain ⟨a, b, rfl, _, h1, a2, b2, rfl, _, h2, a3, b3, rfl, _, h3, rfl⟩ := h
  obtain ⟨t, rfl⟩ := ty3 h1
  obtain ⟨m, rfl⟩ := ty2 h2
  obtain ⟨s, rfl⟩ := ty9 h3
  exact ⟨⟨t, m, s⟩, rfl⟩
theorem ty37 {n : Nat} {cs : List AV} (h : TyC Tryd.prog (n + 3) 37 cs) : ∃ z l, cs = [.vs z 3 (valRows l)] ∧ (z = true → l = []) := by
  unfold TyC at h
  simp only [underlying_37, cells50] at h
  obtain ⟨z, rows, rfl, h1, _, h2⟩ := h
  obtain ⟨l, rfl, _⟩ := list_of (f := Val.row) (P := fun _ => True) fun r hr => by
    obtain ⟨x, hx⟩ := ty50 (h2 r hr).2
    exact ⟨x, hx, trivial⟩
  exact ⟨z, l, rfl, fun hz => by simpa using h1 hz⟩
/-- A record as it is told, with whether its lists are nil. -/
abbrev RecT := Bool × Bool × Rec
def RecT.cells (t : RecT) : List AV := recCells t.1 t.2.1 t.2.2
def RecT.ok (t : RecT) : Prop := (t.1 = true → t.2.2.parts = []) ∧ (t.2.1 = true → t.2.2.args = []) ∧ t.2.2.id < 18446744073709551616
theorem ty39 {n : Nat} {cs : List AV} (h : TyC Tryd.prog (n + 4) 39 cs) : ∃ t : RecT, cs = t.cells ∧ t.ok := by
  unfold TyC at h
  simp only [underlying_39, List.map_cons, List.map_nil, TyS] at h
  obtain ⟨a, b, rfl, _, h1, a2, b2, rfl, _, h2, a3, b3, rfl, _, h3, a4, b4, rfl, _, h4, a5, b5, rfl, _, h5, a6, b6, rfl, _, h6, rfl⟩ := h
  obtain ⟨x, rfl, hx⟩ := ty23 h1
  obtain ⟨y, rfl, hy⟩ := ty23 h2
  obtain ⟨w, rfl, hw⟩ := ty23 h3
  obtain ⟨zp, p, rfl, hp⟩ := ty27 h4
  obtain ⟨s, rfl⟩ := ty9 h5
  obtain ⟨za, q, rfl, hq⟩ := ty37 h6
  exact ⟨(zp, za, ⟨x, y, w, p, s, q⟩), rfl, hp, hq, hx⟩
theorem ty30 {n : Nat} {cs : List AV} (h : TyC Tryd.prog (n + 5) 30 cs) : ∃ (z : Bool) (l : List RecT), cs = [.vs z 6 (l.map RecT.cells)] ∧ (z = true → l = []) ∧ ∀ t ∈ l, t.ok := by
  unfold TyC at h
  simp only [underlying_30, cells39] at h
  obtain ⟨z, rows, rfl, h1, _, h2⟩ := h
  obtain ⟨l, rfl, hl⟩ := list_of (f := RecT.cells) (P := RecT.ok) fun r hr => ty39 (h2 r hr).2
  exact ⟨z, l, rfl, fun hz => by simpa using h1 hz, hl⟩
abbrev LogT := Bool × List RecT
def LogT.cells (t : LogT) : List AV := [.vs t.1 6 (t.2.map RecT.cells)]
def LogT.ok (t : LogT) : Prop := (t.1 = true → t.2 = []) ∧ ∀ r ∈ t.2, r.ok
theorem ty22 {n : Nat} {cs : List AV} (h : TyC Tryd.prog (n + 6) 22 cs) : ∃ (z : Bool) (L : List LogT), cs = [.vs z 1 (L.map LogT.cells)] ∧ (z = true → L = []) ∧ ∀ t ∈ L, t.ok := by
  unfold TyC at h
  simp only [underlying_22, cells30] at h
  obtain ⟨z, rows, rfl, h1, _, h2⟩ := h
  obtain ⟨l, rfl, hl⟩ := list_of (f := LogT.cells) (P := LogT.ok) fun r hr => by
    obtain ⟨zw, l, rfl, q1, q2⟩ := ty30 (h2 r hr).2
    exact ⟨(zw, l), rfl, q1, q2⟩
  exact ⟨z, l, rfl, fun hz => by simpa using h1 hz, hl⟩
def recsOf (l : List RecT) : List Rec := l.map fun t => t.2.2
def logsOf (L : List LogT) : Logs := L.map fun t => recsOf t.2
theorem recs_V {z : Bool} {l : List RecT} (hz : z = true → l = []) (hok : ∀ t ∈ l, t.ok) : RecsV (.vs z 6 (l.map RecT.cells)) (recsOf l) := by
  refine ⟨z, _, rfl, by simp [recsOf], fun h => by rw [hz h]; rfl, fun i c r hc hr => ?_⟩
  simp only [recsOf, List.getElem?_map, Option.map_eq_some_iff] at hc hr
  obtain ⟨t, ht, rfl⟩ := hc
  obtain ⟨t', ht', rfl⟩ := hr
  rw [ht] at ht'
  cases ht'
  have := hok t (List.mem_of_getElem? ht)
  exact ⟨t.1, t.2.1, rfl, this.1, this.2.1⟩
theorem logs_V {z : Bool} {L : List LogT} (hz : z = true → L = []) (hok : ∀ t ∈ L, t.ok) : LogsV (.vs z 1 (L.map LogT.cells)) (logsOf L) := by
  refine ⟨z, _, rfl, by simp [logsOf], fun h => by rw [hz h]; rfl, fun i c l hc hl => ?_⟩
  simp only [logsOf, List.getElem?_map, Option.map_eq_some_iff] at hc hl
  obtain ⟨t, ht, rfl⟩ := hc
  obtain ⟨t', ht', rfl⟩ := hl
  rw [ht] at ht'
  cases ht'
  have := hok t (List.mem_of_getElem? ht)
  exact ⟨_, rfl, recs_V this.1 this.2⟩

/- Sizes. -/
theorem sum_mem {α : Type} {f : α → Nat} : ∀ {l : List α} {a : α}, a ∈ l → f a ≤ (l.map f).sum
  | x :: l, a, h => by
    rw [List.map_cons, List.sum_cons]
    rcases List.mem_cons.1 h with rfl | h
    · omega
    · have := sum_mem (f := f) h
      omega
theorem sum_len {α : Type} {f : α → Nat} (h : ∀ a, 1 ≤ f a) : ∀ (l : List α), l.length ≤ (l.map f).sum
  | [] => Nat.le_refl _
  | x :: l => by
    have := sum_len h l
    have := h x
    rw [List.map_cons, List.sum_cons, List.length_cons]
    omega
theorem sum_sum {α : Type} {f g : α → Nat} (h : ∀ a, g a ≤ f a) : ∀ (l : List α), (l.map g).sum ≤ (l.map f).sum
  | [] => Nat.le_refl _
  | x :: l => by
    have := sum_sum h l
    have := h x
    simp only [List.map_cons, List.sum_cons]
    omega
def rowB (n : Nat) (r : List AV) : Nat := (r.map (bulkA n)).sum
theorem bulk_vs (n : Nat) (z : Bool) (sz : Nat) (rows : List (List AV)) : bulkA (n + 1) (.vs z sz rows) = (rows.map (rowB n)).sum + 1 := rfl
theorem bulk_i (n : Nat) (k : IntKind) (x : Int) : bulkA n (.i k x) = 1 := by cases n <;> rfl
theorem bulk_s (n : Nat) (s : ByteArray) : bulkA n (.s s) = s.size + 1 := by cases n <;> rfl
theorem ints_bulk (n : Nat) (l : List Int) : l.length ≤ ((ints l).map (rowB n)).sum := by
  unfold ints
  rw [List.map_map]
  exact sum_len (f := rowB n ∘ fun x : Int => [AV.i .i64 x]) (fun c => by simp [rowB, bulk_i]) _
theorem vals_bulk (n : Nat) (l : List Val) : l.length ≤ ((valRows l).map (rowB n)).sum ∧ ∀ v ∈ l, v.s.size ≤ ((valRows l).map (rowB n)).sum := by
  unfold valRows
  refine ⟨?_, fun v hv => ?_⟩
  · rw [List.map_map]
    exact sum_len (f := rowB n ∘ Val.row) (fun c => by simp [rowB, Val.row, bulk_i, bulk_s]) _
  · have h2 := sum_mem (f := rowB n) (List.mem_map_of_mem (f := Val.row) hv)
    have h3 : v.s.size + 1 ≤ rowB n v.row := by
      simp only [rowB, Val.row, List.map_cons, List.sum_cons, bulk_s]; omega
    omega
theorem rec_bulk {n : Nat} {t : RecT} (ht : t.ok) (hb : rowB (n + 1) t.cells ≤ 2 ^ 20) : RecB t.2.2 := by
  have e : rowB (n + 1) t.cells = 1 + (1 + (1 + ((((ints t.2.2.parts).map (rowB n)).sum + 1) + ((t.2.2.proc.size + 1) + ((((valRows t.2.2.args).map (rowB n)).sum + 1) + 0))))) := by
    simp only [rowB, RecT.cells, recCells, List.map_cons, List.map_nil, List.sum_cons, List.sum_nil, bulk_i, bulk_s, bulk_vs]
  have h1 := ints_bulk n t.2.2.parts
  have h2 := vals_bulk n t.2.2.args
  exact ⟨ht.2.2, by omega, by omega, by omega, fun v hv => by have := h2.2 v hv; omega⟩
theorem rec_pos (n : Nat) (t : RecT) : 1 ≤ rowB n t.cells := by
  simp only [rowB, RecT.cells, recCells, List.map_cons, List.sum_cons, bulk_i]
  omega
theorem recs_bulk {n : Nat} {l : List RecT} (hok : ∀ t ∈ l, t.ok) (hb : ((l.map RecT.cells).map (rowB (n + 1))).sum ≤ 2 ^ 20) : LogB (recsOf l) ∧ (recsOf l).length ≤ ((l.map RecT.cells).map (rowB (n + 1))).sum := by
  have hl : l.length ≤ ((l.map RecT.cells).map (rowB (n + 1))).sum := by
    rw [List.map_map]
    exact sum_len (f := rowB (n + 1) ∘ RecT.cells) (fun t => rec_pos _ t) _
  refine ⟨⟨by simp only [recsOf, List.length_map]; omega, fun r hr => ?_⟩, by simp only [recsOf, List.length_map]; exact hl⟩
  simp only [recsOf, List.mem_map] at hr
  obtain ⟨t, ht, rfl⟩ := hr
  refine rec_bulk (n := n) (hok t ht) ?_
  have := sum_mem (f := rowB (n + 1)) (List.mem_map_of_mem (f := RecT.cells) ht)
  omega
theorem logs_bulk {n : Nat} {L : List LogT} (hok : ∀ t ∈ L, t.ok) (hb : ((L.map LogT.cells).map (rowB (n + 2))).sum ≤ 2 ^ 20) : LogsB (logsOf L) ∧ ((logsOf L).map List.length).sum ≤ 2 ^ 20 := by
  have hrow : ∀ t : LogT, rowB (n + 2) t.cells = ((t.2.map RecT.cells).map (rowB (n + 1))).sum + 1 := fun t => by
    simp only [rowB, LogT.cells, List.map_cons, List.map_nil, List.sum_cons, List.sum_nil]
    rfl
  have hlog : ∀ t ∈ L, LogB (recsOf t.2) ∧ (recsOf t.2).length ≤ ((t.2.map RecT.cells).map (rowB (n + 1))).sum := fun t ht => by
    have := sum_mem (f := rowB (n + 2)) (List.mem_map_of_mem (f := LogT.cells) ht)
    rw [hrow] at this
    exact recs_bulk (hok t ht).2 (by omega)
  have hl : L.length ≤ ((L.map LogT.cells).map (rowB (n + 2))).sum := by
    rw [List.map_map]
    exact sum_len (f := rowB (n + 2) ∘ LogT.cells) (fun t => by simp only [Function.comp_apply, hrow]; omega) _
  refine ⟨⟨by simp only [logsOf, List.length_map]; omega, fun l hl => ?_⟩, ?_⟩
  · simp only [logsOf, List.mem_map] at hl
    obtain ⟨t, ht, rfl⟩ := hl
    exact (hlog t ht).1
  · refine Nat.le_trans ?_ hb
    clear hl hb hok
    have gen : ∀ M : List LogT, (∀ t ∈ M, (recsOf t.2).length ≤ ((t.2.map RecT.cells).map (rowB (n + 1))).sum) → ((logsOf M).map List.length).sum ≤ ((M.map LogT.cells).map (rowB (n + 2))).sum := by
      intro M
      induction M with
      | nil => intro _; simp [logsOf]
      | cons t M ih =>
        intro h
        have h1 := h t List.mem_cons_self
        have h2 := ih fun x hx => h x (List.mem_cons_of_mem _ hx)
        simp only [logsOf, List.map_cons, List.sum_cons, hrow] at h2 ⊢
        omega
    exact gen L fun t ht => (hlog t ht).2
theorem plainCut : Plain cfg (2 ^ 20) 8 3 [22, 23] := by
  intro xs hl hty hbulk
  match xs, hl with
  | [x0, x1], _ =>
    have h0 := hty 0 22 x0 rfl rfl
    have h1 := hty 1 23 x1 rfl rfl
    unfold ArgOf at h0 h1
    simp only [cP, underlying_22, underlying_23] at h0 h1
    obtain ⟨z, L, e0, hz, hok⟩ := ty22 (n := 2) h0
    obtain ⟨id, e1, q1⟩ := ty23 (n := 7) h1
    cases e0; cases e1
    have hs := hbulk 8
    simp only [List.map_cons, List.map_nil, List.sum_cons, List.sum_nil] at hs
    have e : bulkL 8 (AV.vs z 1 (L.map LogT.cells)).cells = ((L.map LogT.cells).map (rowB 7)).sum + 1 := by
      simp [AV.cells, bulkL, bulk_vs]
    obtain ⟨hB, hsum⟩ := logs_bulk (n := 5) hok (by
      have h7 : ((L.map LogT.cells).map (rowB (5 + 2))).sum = ((L.map LogT.cells).map (rowB 7)).sum := rfl
      omega)
    obtain ⟨r, hp, nx, hc, rfl⟩ := c_LogsCut (K := 2 ^ 26) (n := 15) (Nat.le_refl _) (Nat.le_refl _) (logs_V hz hok) hB (by omega) id q1
    exact ⟨_, _, _, _, hc⟩
end

end Ab
end Go.Proofs.YtidoflgcblglbaaDoor

/-
  DERIVED. utf8.ValidString of the program, by the shelf's contract; the tables that it reads stay as they are; that the interpreter's answers are the program's.
  Conditions: the two tables hold what their initialisers lay.
-/
namespace Go.Proofs
open Go.RowKit Go.Shelf Go.Lib
namespace YtidoflgcblglbaaDoor
namespace Ab
set_option maxRecDepth 100000
set_option linter.all false

theorem cell_same {w w' : World} {b c : Nat} (h : w'.heap[b]? = w.heap[b]?) : w'.cell? ⟨b, c, none⟩ = w.cell? ⟨b, c, none⟩ := by
  simp only [World.cell?, h]

instance tabX : WX := {
  X := fun I w => I 0 ∧ I 1 ∧ Lib.Utf8Tabs 0 1 w
  stable := fun h1 h2 h3 => ⟨h1 0 h3.1, h1 1 h3.2.1, fun c hc => (cell_same (h2 0 h3.1)).trans (h3.2.2.1 c hc), fun i hi => ⟨(cell_same (h2 1 h3.2.1)).trans (h3.2.2.2 i hi).1, (cell_same (h2 1 h3.2.1)).trans (h3.2.2.2 i hi).2⟩⟩ }

theorem keep_below {w w' : World} (h : Below w.heap.size w w') : Keep (fun _ => False) w w' := by
  refine ⟨h.os, h.tape, h.output, h.size, fun b => ?_, fun b hb _ => h.block b hb⟩
  by_cases hb : b < w.heap.size
  · unfold csz
    rw [h.block b hb]
    exact Nat.le_refl _
  · have : csz w b = 0 := by
      unfold csz
      rw [Array.getElem?_eq_none (by omega)]
    omega

theorem intrOk : IntrOk cfg := by
  intro f h args r hf hr
  have hf2 : intr26 f = some h := hf
  unfold intr26 at hf2
  split at hf2
  · injection hf2 with hf2
    subst hf2
    refine ⟨⟨Tryd.f102, _, Tryd.func102, rfl⟩, ?_⟩
    intro I β w vals hI hX hA
    simp only at hr
    split at hr
    · rename_i s
      split at hr
      · rename_i hs
        injection hr with hr
        subst hr
        obtain ⟨hl, hv⟩ := hA
        have hsz : vals.size = 1 := hl
        obtain ⟨v, rfl⟩ : ∃ v, vals = #[v] := ⟨vals[0], by
          apply Array.ext
          · simp [hsz]
          · intro i h1 h2
            obtain rfl : i = 0 := by omega
            rfl⟩
        have h0 := hv 0 v (.s s) rfl rfl
        cases h0
        have hc := Any.utf8_ValidString (P := Tryd.prog) (ρ := Tryd.laysValid_ren) Tryd.laysValid s w (by omega) hX.2.2
        exact hc.mono fun e w' ⟨he, hb⟩ => ⟨_, he, .b _ _, keep_below hb⟩
      · cases hr
    · cases hr
  · cases hf2
theorem names_ok : (Tryd.prog.funcs.toList.all fun fn => !(fn.name == "runtime.NumGoroutine")) = true := by kernel_rfl
theorem dsts_ok : (Tryd.prog.funcs.toList.all fun fn => match fn.body with
    | some c => dstOk fn.ntmps c
    | none => true) = true := by kernel_rfl
theorem mem_of {f : FuncId} {fn : Func} (h : Tryd.prog.funcs[f]? = some fn) : fn ∈ Tryd.prog.funcs.toList := by
  have := Array.mem_of_getElem? h
  exact Array.mem_toList_iff.2 this
theorem hint_all (f : FuncId) (h : List AV → Hp → Nat → Option (AV × Hp × Nat)) (hh : cfg.hint f = some h) : CallOk Tryd.prog fun g args hp nx => if g = f then h args hp nx else none := by
  have hh2 : hint26 f = some h := hh
  unfold hint26 at hh2
  split at hh2
  · cases hh2; exact sort_ok
  · cases hh2
theorem fitC : Fit cfg := by
  refine ⟨intrOk, ?_, (by kernel_rfl : Tryd.prog.follows .mixedOrders = true), ?_, hint_all⟩
  · intro f fn hf
    have := List.all_eq_true.1 names_ok fn (mem_of hf)
    simpa using this
  · intro f fn c hf hb
    have := List.all_eq_true.1 dsts_ok fn (mem_of hf)
    rw [hb] at this
    exact this

end Ab
end YtidoflgcblglbaaDoor
end Go.Proofs
