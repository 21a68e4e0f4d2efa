/-
  DERIVED. That the interpreter's answers are the program's: closed facts; what the laws' arguments are: bytes, numbers.
  Conditions: none.
-/
import Derived.Test.YtecjchghapgdeaaHl
import Derived.Test.YtecjchghapgdeaaD15
import Derived.Test.YtecjchghapgdeaaAbF
set_option linter.all false
set_option maxHeartbeats 4000000
namespace Go.Proofs.Ytecjchghapgdeaa
namespace Ab
set_option maxRecDepth 100000
set_option linter.all false

instance freeX : WX := { X := fun _ _ => True, stable := fun _ _ _ => trivial }

theorem names_ok : (Try.prog.funcs.toList.all fun fn => !(fn.name == "runtime.NumGoroutine")) = true := by kernel_rfl
theorem dsts_ok : (Try.prog.funcs.toList.all fun fn => match fn.body with
    | some c => dstOk fn.ntmps c
    | none => true) = true := by kernel_rfl
theorem mem_of {f : FuncId} {fn : Func} (h : Try.prog.funcs[f]? = some fn) : fn ∈ Try.prog.funcs.toList := by
  have := Array.mem_of_getElem? h
  exact Array.mem_toList_iff.2 this

theorem intrOk : IntrOk cfg := fun f h args r hf => by
  have hf' : (none : Option (List AV → Option AV)) = some h := hf
  cases hf'
theorem fitC : Fit cfg := by
  refine ⟨intrOk, ?_, (by kernel_rfl : Try.prog.follows .mixedOrders = true), ?_, fun f h hh => hint_all f h hh⟩
  · intro f fn hf
    have := List.all_eq_true.1 names_ok fn (mem_of hf)
    simpa using this
  · intro f fn c hf hb
    have := List.all_eq_true.1 dsts_ok fn (mem_of hf)
    rw [hb] at this
    exact this

theorem cells5 : Try.prog.cellsOf 5 = 1 := by kernel_rfl
theorem cells3 : Try.prog.cellsOf 3 = 1 := by kernel_rfl
theorem list_of {α : Type} {f : α → List AV} {P : α → Prop} : ∀ {rows : List (List AV)}, (∀ r ∈ rows, ∃ c, r = f c ∧ P c) → ∃ l : List α, rows = l.map f ∧ ∀ c ∈ l, P c
  | [], _ => ⟨[], rfl, fun c h => by cases h⟩
  | r :: rows, h => by
    obtain ⟨c, rfl, hc⟩ := h r List.mem_cons_self
    obtain ⟨l, rfl, hl⟩ := list_of (rows := rows) fun r hr => h r (List.mem_cons_of_mem _ hr)
    exact ⟨c :: l, rfl, fun x hx => by
      rcases List.mem_cons.1 hx with rfl | hx
      · exact hc
      · exact hl x hx⟩

theorem ty3 {n : Nat} {cs : List AV} (h : TyC Try.prog (n + 1) 3 cs) : ∃ x, cs = [.i .i64 x] ∧ -9223372036854775808 ≤ x ∧ x ≤ 9223372036854775807 := by
  simp only [TyC, underlying_3] at h
  obtain ⟨x, h, hw⟩ := h
  refine ⟨x, h, ?_⟩
  have h1 : IntKind.i64.min = -9223372036854775808 := by decide
  have h2 : IntKind.i64.max = 9223372036854775807 := by decide
  simp [Lit.wf, h1, h2] at hw
  omega
theorem ty5 {n : Nat} {cs : List AV} (h : TyC Try.prog (n + 1) 5 cs) : ∃ c : UInt8, cs = [.i .u8 (c.toNat : Int)] := by
  simp only [TyC, underlying_5] at h
  obtain ⟨x, h, hw⟩ := h
  have hx : 0 ≤ x ∧ x < 256 := by
    have h1 : IntKind.u8.min = 0 := by decide
    have h2 : IntKind.u8.max = 255 := by decide
    simp [Lit.wf, h1, h2] at hw
    omega
  refine ⟨UInt8.ofNat x.toNat, ?_⟩
  have h2 : (UInt8.ofNat x.toNat).toNat = x.toNat := by
    simp only [UInt8.toNat_ofNat']
    omega
  rw [h2, h, Int.toNat_of_nonneg hx.1]
theorem ty22 {n : Nat} {cs : List AV} (h : TyC Try.prog (n + 2) 22 cs) : ∃ z l, cs = [.vs z 1 (byteRows l)] ∧ (z = true → l = []) := by
  unfold TyC at h
  simp only [underlying_22, cells5] at h
  obtain ⟨z, rows, rfl, h1, _, h2⟩ := h
  obtain ⟨l, rfl, _⟩ := list_of (f := fun c : UInt8 => [AV.i .u8 (c.toNat : Int)]) (P := fun _ => True) fun r hr => by
    obtain ⟨x, hx⟩ := ty5 (h2 r hr).2
    exact ⟨x, hx, trivial⟩
  exact ⟨z, l, rfl, fun hz => by simpa using h1 hz⟩
theorem ty23 {n : Nat} {cs : List AV} (h : TyC Try.prog (n + 2) 23 cs) : ∃ z l, cs = [.vs z 1 (intRows l)] ∧ (z = true → l = []) ∧ ∀ x ∈ l, -9223372036854775808 ≤ x ∧ x ≤ 9223372036854775807 := by
  unfold TyC at h
  simp only [underlying_23, cells3] at h
  obtain ⟨z, rows, rfl, h1, _, h2⟩ := h
  obtain ⟨l, rfl, hl⟩ := list_of (f := fun x : Int => [AV.i .i64 x]) (P := fun x => -9223372036854775808 ≤ x ∧ x ≤ 9223372036854775807) fun r hr => ty3 (h2 r hr).2
  exact ⟨z, l, rfl, fun hz => by simpa using h1 hz, hl⟩

theorem sum_len {α : Type} {f : α → Nat} (hf : ∀ a, 1 ≤ f a) : ∀ l : List α, l.length ≤ (l.map f).sum
  | [] => by simp
  | a :: l => by
    have := hf a
    have := sum_len hf l
    simp only [List.length_cons, List.map_cons, List.sum_cons]
    omega
/-- A slice of rows of one cell each is of bulk at least its length. -/
theorem bulk_rows {n : Nat} {z : Bool} {rows : List (List AV)} (h : ∀ r ∈ rows, 1 ≤ r.length) : rows.length + 1 ≤ bulkL (n + 1) (AV.vs z 1 rows).cells := by
  have h0 : bulkL (n + 1) (AV.vs z 1 rows).cells = (rows.map fun r => (r.map (bulkA n)).sum).sum + 1 := by
    simp [AV.cells, bulkL, bulkA]
  rw [h0]
  have : ∀ rows : List (List AV), (∀ r ∈ rows, 1 ≤ r.length) → rows.length ≤ (rows.map fun r => (r.map (bulkA n)).sum).sum := by
    intro rows h
    induction rows with
    | nil => simp
    | cons r rows ih =>
      have h1 := h r List.mem_cons_self
      have h2 := bulkL_len n r
      have h3 := ih fun r hr => h r (List.mem_cons_of_mem _ hr)
      unfold bulkL at h2
      simp only [List.length_cons, List.map_cons, List.sum_cons]
      omega
  have := this rows h
  omega
theorem bulk_bytes {n : Nat} {z : Bool} {l : Bs} : l.length + 1 ≤ bulkL (n + 1) (AV.vs z 1 (byteRows l)).cells := by
  have := bulk_rows (n := n) (z := z) (rows := byteRows l) (fun r hr => by simp [byteRows] at hr; obtain ⟨_, _, rfl⟩ := hr; simp)
  simpa using this
theorem bulk_ints {n : Nat} {z : Bool} {l : List Int} : l.length + 1 ≤ bulkL (n + 1) (AV.vs z 1 (intRows l)).cells := by
  have := bulk_rows (n := n) (z := z) (rows := intRows l) (fun r hr => by simp [intRows] at hr; obtain ⟨_, _, rfl⟩ := hr; simp)
  simpa using this

end Ab
end Go.Proofs.Ytecjchghapgdeaa
