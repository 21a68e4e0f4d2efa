/-
  DERIVED. What the arguments of TableForms are: a form and a row.
  Conditions: bulk at most 2^20.
-/
import Derived.Test.YtgkaidnfmkncmaaDoorS24
import Derived.Test.YtgkaidnfmkncmaaDoorAbF
set_option linter.all false
set_option maxHeartbeats 4000000
namespace Go.Proofs.YtgkaidnfmkncmaaDoor
namespace Ab
set_option maxRecDepth 100000

theorem cells9 : Tryd.prog.cellsOf 9 = 1 := by kernel_rfl
theorem cells22 : Tryd.prog.cellsOf 22 = 1 := by kernel_rfl
theorem cells23 : Tryd.prog.cellsOf 23 = 1 := by kernel_rfl
theorem cells3 : Tryd.prog.cellsOf 3 = 1 := by kernel_rfl
theorem cells2 : Tryd.prog.cellsOf 2 = 1 := by kernel_rfl
theorem cells4 : Tryd.prog.cellsOf 4 = 1 := by kernel_rfl
theorem cells44 : Tryd.prog.cellsOf 44 = 1 := by kernel_rfl
theorem cells46 : Tryd.prog.cellsOf 46 = 3 := by kernel_rfl
theorem cells51 : Tryd.prog.cellsOf 51 = 4 := by kernel_rfl
theorem cells54 : Tryd.prog.cellsOf 54 = 3 := by kernel_rfl

section
variable [WX]

theorem list_of {α : Type} {f : α → List AV} {P : α → Prop} : ∀ {rows : List (List AV)}, (∀ r ∈ rows, ∃ c, r = f c ∧ P c) → ∃ l : List α, rows = l.map f ∧ ∀ c ∈ l, P c
  | [], _ => ⟨[], rfl, fun c h => by cases h⟩
  | r :: rows, h => by
    obtain ⟨c, rfl, hc⟩ := h r List.mem_cons_self
    obtain ⟨l, rfl, hl⟩ := list_of (rows := rows) fun r hr => h r (List.mem_cons_of_mem _ hr)
    exact ⟨c :: l, rfl, fun x hx => by
      rcases List.mem_cons.1 hx with rfl | hx
      · exact hc
      · exact hl x hx⟩

theorem ty3 {n : Nat} {cs : List AV} (h : TyC Tryd.prog (n + 1) 3 cs) : ∃ x, cs = [.i .i64 x] := by
  simp only [TyC, underlying_3] at h
  obtain ⟨x, h, _⟩ := h
  exact ⟨x, h⟩
theorem ty2 {n : Nat} {cs : List AV} (h : TyC Tryd.prog (n + 1) 2 cs) : ∃ x, cs = [.i .i64 x] := by
  simp only [TyC, underlying_2] at h
  obtain ⟨x, h, _⟩ := h
  exact ⟨x, h⟩
theorem ty4 {n : Nat} {cs : List AV} (h : TyC Tryd.prog (n + 1) 4 cs) : ∃ x, cs = [.b x] := by
  simpa only [TyC, underlying_4] using h
theorem ty9 {n : Nat} {cs : List AV} (h : TyC Tryd.prog (n + 1) 9 cs) : ∃ x, cs = [.s x] := by
  simp only [TyC, underlying_9] at h
  obtain ⟨x, h, _⟩ := h
  exact ⟨x, h⟩
theorem ty44 {n : Nat} {cs : List AV} (h : TyC Tryd.prog (n + 2) 44 cs) : ∃ z l, cs = [.vs z 1 (ints l)] ∧ (z = true → l = []) := by
  unfold TyC at h
  simp only [underlying_44, cells3] at h
  obtain ⟨z, rows, rfl, h1, _, h2⟩ := h
  obtain ⟨l, rfl, _⟩ := list_of (f := fun x : Int => [AV.i .i64 x]) (P := fun _ => True) fun r hr => by
    obtain ⟨x, hx⟩ := ty3 (h2 r hr).2
    exact ⟨x, hx, trivial⟩
  exact ⟨z, l, rfl, fun hz => by simpa using h1 hz⟩

theorem ty51 {n : Nat} {cs : List AV} (h : TyC Tryd.prog (n + 2) 51 cs) : ∃ c : Col, cs = c.row := by
  unfold TyC at h
  simp only [underlying_51, List.map_cons, List.map_nil, TyS] at h
  obtain ⟨a, b, rfl, _, h1, a2, b2, rfl, _, h2, a3, b3, rfl, _, h3, a4, b4, rfl, _, h4, rfl⟩ := h
  obtain ⟨s, rfl⟩ := ty9 h1
  obtain ⟨t, rfl⟩ := ty3 h2
  obtain ⟨m, rfl⟩ := ty3 h3
  obtain ⟨x, rfl⟩ := ty4 h4
  exact ⟨⟨s, t, m, x⟩, rfl⟩
theorem ty54 {n : Nat} {cs : List AV} (h : TyC Tryd.prog (n + 2) 54 cs) : ∃ c : Val, cs = c.row := by
  unfold TyC at h
  simp only [underlying_54, List.map_cons, List.map_nil, TyS] at h
  obtain ⟨a, b, rfl, _, h1, a2, b2, rfl, _, h2, a3, b3, rfl, _, h3, rfl⟩ := h
  obtain ⟨t, rfl⟩ := ty3 h1
  obtain ⟨m, rfl⟩ := ty2 h2
  obtain ⟨s, rfl⟩ := ty9 h3
  exact ⟨⟨t, m, s⟩, rfl⟩
theorem ty46 {n : Nat} {cs : List AV} (h : TyC Tryd.prog (n + 3) 46 cs) : ∃ c : Key, cs = c.row ∧ (c.z = true → c.cs = []) := by
  unfold TyC at h
  simp only [underlying_46, List.map_cons, List.map_nil, TyS] at h
  obtain ⟨a, b, rfl, _, h1, a2, b2, rfl, _, h2, a3, b3, rfl, _, h3, rfl⟩ := h
  obtain ⟨s, rfl⟩ := ty9 h1
  obtain ⟨z, l, rfl, hz⟩ := ty44 h2
  obtain ⟨u, rfl⟩ := ty4 h3
  exact ⟨⟨s, z, l, u⟩, rfl, hz⟩
theorem ty22 {n : Nat} {cs : List AV} (h : TyC Tryd.prog (n + 3) 22 cs) : ∃ (z : Bool) (l : List Col), cs = [.vs z 4 (l.map Col.row)] ∧ (z = true → l = []) := by
  unfold TyC at h
  simp only [underlying_22, cells51] at h
  obtain ⟨z, rows, rfl, h1, _, h2⟩ := h
  obtain ⟨l, rfl, _⟩ := list_of (f := Col.row) (P := fun _ => True) fun r hr => by
    obtain ⟨x, hx⟩ := ty51 (h2 r hr).2
    exact ⟨x, hx, trivial⟩
  exact ⟨z, l, rfl, fun hz => by simpa using h1 hz⟩
theorem ty27 {n : Nat} {cs : List AV} (h : TyC Tryd.prog (n + 3) 27 cs) : ∃ (z : Bool) (l : List Val), cs = [.vs z 3 (l.map Val.row)] ∧ (z = true → l = []) := by
  unfold TyC at h
  simp only [underlying_27, cells54] at h
  obtain ⟨z, rows, rfl, h1, _, h2⟩ := h
  obtain ⟨l, rfl, _⟩ := list_of (f := Val.row) (P := fun _ => True) fun r hr => by
    obtain ⟨x, hx⟩ := ty54 (h2 r hr).2
    exact ⟨x, hx, trivial⟩
  exact ⟨z, l, rfl, fun hz => by simpa using h1 hz⟩
theorem ty23 {n : Nat} {cs : List AV} (h : TyC Tryd.prog (n + 4) 23 cs) : ∃ (z : Bool) (l : List Key), cs = [.vs z 3 (l.map Key.row)] ∧ (z = true → l = []) ∧ ∀ k ∈ l, k.z = true → k.cs = [] := by
  unfold TyC at h
  simp only [underlying_23, cells46] at h
  obtain ⟨z, rows, rfl, h1, _, h2⟩ := h
  obtain ⟨l, rfl, hl⟩ := list_of (f := Key.row) (P := fun k => k.z = true → k.cs = []) fun r hr => ty46 (h2 r hr).2
  exact ⟨z, l, rfl, fun hz => by simpa using h1 hz, hl⟩
theorem ty25 {n : Nat} {cs : List AV} (h : TyC Tryd.prog (n + 5) 25 cs) : ∃ t : Tab, cs = t.row ∧ (t.zc = true → t.cols = []) ∧ (t.zk = true → t.keys = []) ∧ ∀ k ∈ t.keys, k.z = true → k.cs = [] := by
  unfold TyC at h
  simp only [underlying_25, List.map_cons, List.map_nil, TyS] at h
  obtain ⟨a, b, rfl, _, h1, a2, b2, rfl, _, h2, a3, b3, rfl, _, h3, a4, b4, rfl, _, h4, a5, b5, rfl, _, h5, rfl⟩ := h
  obtain ⟨s, rfl⟩ := ty9 h1
  obtain ⟨zc, cols, rfl, hc⟩ := ty22 h2
  obtain ⟨zk, keys, rfl, hk, hkk⟩ := ty23 h3
  obtain ⟨p, rfl⟩ := ty3 h4
  obtain ⟨m, rfl⟩ := ty3 h5
  exact ⟨⟨s, zc, zk, cols, keys, p, m⟩, rfl, hc, hk, hkk⟩

theorem sum_mem {α : Type} {f : α → Nat} : ∀ {l : List α} {a : α}, a ∈ l → f a ≤ (l.map f).sum
  | x :: l, a, h => by
    rw [List.map_cons, List.sum_cons]
    rcases List.mem_cons.1 h with rfl | h
    · omega
    · have := sum_mem (f := f) h
      omega
theorem sum_len {α : Type} {f : α → Nat} (h : ∀ a, 1 ≤ f a) : ∀ (l : List α), l.length ≤ (l.map f).sum
  | [] => Nat.le_refl _
  | x :: l => by
    have := sum_len h l
    have := h x
    rw [List.map_cons, List.sum_cons, List.length_cons]
    omega

def rowB (n : Nat) (r : List AV) : Nat := (r.map (bulkA n)).sum
theorem bulk_vs (n : Nat) (z : Bool) (sz : Nat) (rows : List (List AV)) : bulkA (n + 1) (.vs z sz rows) = (rows.map (rowB n)).sum + 1 := rfl
theorem bulk_i (n : Nat) (k : IntKind) (x : Int) : bulkA n (.i k x) = 1 := by cases n <;> rfl
theorem bulk_s (n : Nat) (s : ByteArray) : bulkA n (.s s) = s.size + 1 := by cases n <;> rfl

theorem plain3 : Plain cfg (2 ^ 20) 8 3 [25, 27] := by
  intro xs hl hty hb
  match xs, hl with
  | [x, y], _ =>
    have h0 := hty 0 25 x rfl rfl
    have h1 := hty 1 27 y rfl rfl
    unfold ArgOf at h0 h1
    simp only [cP, underlying_25, underlying_27] at h0 h1
    obtain ⟨cs, rfl, h0⟩ := h0
    obtain ⟨t, rfl, hzc, hzk, hkz⟩ := ty25 h0
    obtain ⟨z, r, hy, hz⟩ := ty27 h1
    injection hy with hy _
    subst hy
    have hb8 := hb 8
    have e : ([AV.agg t.row, AV.vs z 3 (r.map Val.row)].map fun x => bulkL 8 x.cells).sum = (t.n.size + 1) + (((t.cols.map Col.row).map (rowB 7)).sum + 1) + (((t.keys.map Key.row).map (rowB 7)).sum + 1) + 1 + 1 + (((r.map Val.row).map (rowB 7)).sum + 1) := by
      simp only [List.map_cons, List.map_nil, List.sum_cons, List.sum_nil, AV.cells, bulkL, Tab.row, bulk_vs, bulk_s, bulk_i]
      omega
    rw [e] at hb8
    have hpos : ∀ a : List AV, a ≠ [] → 1 ≤ rowB 7 a := by
      intro a ha
      cases a with
      | nil => exact absurd rfl ha
      | cons x l =>
        have := bulkA_pos 7 x
        simp only [rowB, List.map_cons, List.sum_cons]
        omega
    have lc : t.cols.length ≤ ((t.cols.map Col.row).map (rowB 7)).sum := by
      rw [List.map_map]
      exact sum_len (f := rowB 7 ∘ Col.row) (fun c => hpos c.row (by simp [Col.row])) _
    have lk' : t.keys.length ≤ ((t.keys.map Key.row).map (rowB 7)).sum := by
      rw [List.map_map]
      exact sum_len (f := rowB 7 ∘ Key.row) (fun c => hpos c.row (by simp [Key.row])) _
    have lr : r.length ≤ ((r.map Val.row).map (rowB 7)).sum := by
      rw [List.map_map]
      exact sum_len (f := rowB 7 ∘ Val.row) (fun c => hpos c.row (by simp [Val.row])) _
    refine call3 t ⟨by omega, by omega, by omega, ?_, ?_, hzc, hzk⟩ z r hz (by omega) ?_
    · intro c hc
      have h2 := sum_mem (f := rowB 7) (List.mem_map_of_mem (f := Col.row) hc)
      have h3 : c.n.size + 1 ≤ rowB 7 c.row := by
        simp only [rowB, Col.row, List.map_cons, List.sum_cons, bulk_s]; omega
      omega
    · intro k hk
      have h2 := sum_mem (f := rowB 7) (List.mem_map_of_mem (f := Key.row) hk)
      have h3 : (k.n.size + 1) + (((ints k.cs).map (rowB 6)).sum + 1) ≤ rowB 7 k.row := by
        simp only [rowB, Key.row, List.map_cons, List.sum_cons, bulk_s]
        have : bulkA 7 (.vs k.z 1 (ints k.cs)) = ((ints k.cs).map (rowB 6)).sum + 1 := rfl
        omega
      have h4 : k.cs.length ≤ ((ints k.cs).map (rowB 6)).sum := by
        unfold ints
        rw [List.map_map]
        exact sum_len (f := rowB 6 ∘ fun x : Int => [AV.i .i64 x]) (fun c => by simp [rowB, bulkA]) _
      exact ⟨by omega, by omega, hkz k hk⟩
    · intro v hv
      have h2 := sum_mem (f := rowB 7) (List.mem_map_of_mem (f := Val.row) hv)
      have h3 : v.s.size + 1 ≤ rowB 7 v.row := by
        simp only [rowB, Val.row, List.map_cons, List.sum_cons, bulk_s]; omega
      omega

end
end Ab
end Go.Proofs.YtgkaidnfmkncmaaDoor
