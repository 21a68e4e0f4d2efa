/-
  DERIVED. slices.Index, slices.IndexFunc, slices.Contains, slices.ContainsFunc with the closures of table.check, table.column, table.key: what they come to.
  Conditions: lists shorter than the rounds that are let.
-/
import Derived.Test.YtgkaidnfmkncmaaDoorS6
set_option linter.all false
namespace Go.Proofs.YtgkaidnfmkncmaaDoor
namespace Ab
open Go.Lib
set_option maxRecDepth 100000

/-- Where the first one is that answers. -/
def idxOf {α : Type} (p : α → Bool) : Nat → List α → Int
  | _, [] => -1
  | i, x :: r => if p x then (i : Int) else idxOf p (i + 1) r
theorem idxOf_any {α : Type} (p : α → Bool) : ∀ (l : List α) (i : Nat), decide (0 ≤ idxOf p i l) = l.any p
  | [], i => by simp [idxOf]
  | x :: r, i => by
    unfold idxOf
    cases h : p x
    · simp [h, idxOf_any p r (i + 1)]
    · simp [h]

theorem Ends.eq {call : CallT} {k f nx nx' : Nat} {args : List AV} {hp hp' : Hp} {r : AV} (h : Ends cfg call k f args hp nx fun r1 h1 n1 => r1 = r ∧ h1 = hp' ∧ n1 = nx') : runA cfg call k f args hp nx = some (r, hp', nx') := by
  obtain ⟨_, _, _, h1, rfl, rfl, rfl⟩ := h
  exact h1

theorem get_map {α β : Type} {f : α → β} {l : List α} {i : Nat} (h : i < l.length) : (l.map f)[i]? = some (f l[i]) := by simp [h]

theorem run41 (call : CallT) (k nx : Nat) (c d : Col) : runA cfg call k 41 [.agg c.row, .vp d.row] [] nx = some (.b (c.n.toList == d.n.toList), [], nx + 8) := by
  apply Ends.eq
  refine run_wp Tryd.func41 rfl (by simp [Tryd.f41]) ?_
  simp [Col.row]
theorem run43 (call : CallT) (k nx : Nat) (c d : Key) : runA cfg call k 43 [.agg c.row, .vp d.row] [] nx = some (.b (c.n.toList == d.n.toList), [], nx + 8) := by
  apply Ends.eq
  refine run_wp Tryd.func43 rfl (by simp [Tryd.f43]) ?_
  simp [Key.row]

theorem run45 (call : CallT) (k : Nat) (z : Bool) (l : List Int) (v : Int) (hl : l.length < 2 ^ 40) (hk : l.length < k) : Ends cfg call k 45 [.vs z 1 (ints l), .i .i64 v] [] 0 fun r _ _ => r = .i .i64 (idxOf (v == ·) 0 l) := by
  refine run_wp Tryd.func45 rfl (by simp [Tryd.f45]) ?_
  simp
  refine loop_wp (ι := Nat × Nat) (fun i => { env := [(0, .vs z 1 (ints l)), (1, .i .i64 v), (7, .i .i64 (l.length : Nat)), (8, .i .i64 (i.1 : Nat))], loc := [], hp := [], nx := i.2 }) (fun i => l.length - i.1)
    (fun i => i.1 ≤ l.length ∧ idxOf (v == ·) i.1 (l.drop i.1) = idxOf (v == ·) 0 l) (0, 4) (by simp [ints]) ⟨Nat.zero_le _, rfl⟩ (by simpa using hk) ?_
  rintro Next ⟨i, nx⟩ ⟨hp, hn⟩ hnext
  simp only at hp hn hnext ⊢
  by_cases hi : i < l.length
  · have hd : l.drop i = l[i] :: l.drop (i + 1) := List.drop_eq_getElem_cons hi
    have c3 : IntKind.i64.wrap ((i : Int) + 1) = i + 1 := wrap_i64 (by omega) (by omega)
    have c1 : (i : Int) < l.length := by omega
    have c2 : (0 : Int) ≤ i := by omega
    rw [hd] at hn
    cases hv : (v == l[i])
    · have hn' : idxOf (v == ·) (i + 1) (l.drop (i + 1)) = idxOf (v == ·) 0 l := by rw [← hn]; simp [idxOf, hv]
      simp [ints, c1, c2, c3, hi, hv]
      exact hnext (i + 1, _) (by simp only; omega) ⟨hi, hn'⟩
    · have hn' : idxOf (v == ·) 0 l = i := by rw [← hn]; simp [idxOf, hv]
      simp [ints, c1, c2, hi, hv, hn']
  · obtain rfl : i = l.length := by omega
    rw [List.drop_of_length_le (Nat.le_refl _)] at hn
    have hn' : idxOf (v == ·) 0 l = -1 := hn.symm
    simp [hn']

theorem run33 (call : CallT) (k : Nat) (z : Bool) (l : List Int) (v : Int) (h : pR call 45 [.vs z 1 (ints l), .i .i64 v] = some (.i .i64 (idxOf (v == ·) 0 l))) : Ends cfg call k 33 [.vs z 1 (ints l), .i .i64 v] [] 0 fun r _ _ => r = .b (l.any (v == ·)) := by
  refine run_wp Tryd.func33 rfl (by simp [Tryd.f33]) ?_
  simp [h, idxOf_any]

theorem run48 (call : CallT) (k : Nat) (z : Bool) (l : List Col) (d : Col) (hl : l.length < 2 ^ 40) (hk : l.length < k) (h : ∀ c nx, call 41 [.agg (Col.row c), .vp d.row] [] nx = some (.b (c.n.toList == d.n.toList), [], nx + 8)) : Ends cfg call k 48 [.vs z 4 (l.map Col.row), .fn 41 [.vp d.row]] [] 0 fun r _ _ => r = .i .i64 (idxOf (fun c => c.n.toList == d.n.toList) 0 l) := by
  refine run_wp Tryd.func48 rfl (by simp [Tryd.f48]) ?_
  simp
  refine loop_wp (ι := Nat × Nat) (fun i => { env := [(0, .vs z 4 (l.map Col.row)), (1, .fn 41 [.vp d.row]), (7, .i .i64 (l.length : Nat)), (8, .i .i64 (i.1 : Nat))], loc := [], hp := [], nx := i.2 }) (fun i => l.length - i.1)
    (fun i => i.1 ≤ l.length ∧ idxOf (fun c => c.n.toList == d.n.toList) i.1 (l.drop i.1) = idxOf (fun c => c.n.toList == d.n.toList) 0 l) (0, 4) (by simp) ⟨Nat.zero_le _, rfl⟩ (by simpa using hk) ?_
  rintro Next ⟨i, nx⟩ ⟨hp, hn⟩ hnext
  simp only at hp hn hnext ⊢
  by_cases hi : i < l.length
  · have hd : l.drop i = l[i] :: l.drop (i + 1) := List.drop_eq_getElem_cons hi
    have c3 : IntKind.i64.wrap ((i : Int) + 1) = i + 1 := wrap_i64 (by omega) (by omega)
    have c1 : (i : Int) < l.length := by omega
    have c2 : (0 : Int) ≤ i := by omega
    rw [hd] at hn
    cases hv : (l[i].n.toList == d.n.toList)
    · have hn' : idxOf (fun c => c.n.toList == d.n.toList) (i + 1) (l.drop (i + 1)) = idxOf (fun c => c.n.toList == d.n.toList) 0 l := by rw [← hn]; simp [idxOf, hv]
      simp [c1, c2, c3, hi, hv, h]
      exact hnext (i + 1, _) (by simp only; omega) ⟨hi, hn'⟩
    · have hn' : idxOf (fun c => c.n.toList == d.n.toList) 0 l = i := by rw [← hn]; simp [idxOf, hv]
      simp [c1, c2, hi, hv, h, hn']
  · obtain rfl : i = l.length := by omega
    rw [List.drop_of_length_le (Nat.le_refl _)] at hn
    have hn' : idxOf (fun c => c.n.toList == d.n.toList) 0 l = -1 := hn.symm
    simp [hn']

theorem run40 (call : CallT) (k : Nat) (z : Bool) (l : List Col) (d : Col) (h : pR call 48 [.vs z 4 (l.map Col.row), .fn 41 [.vp d.row]] = some (.i .i64 (idxOf (fun c => c.n.toList == d.n.toList) 0 l))) : Ends cfg call k 40 [.vs z 4 (l.map Col.row), .fn 41 [.vp d.row]] [] 0 fun r _ _ => r = .b (l.any (fun c => c.n.toList == d.n.toList)) := by
  refine run_wp Tryd.func40 rfl (by simp [Tryd.f40]) ?_
  simp [h, idxOf_any]

theorem run49 (call : CallT) (k : Nat) (z : Bool) (l : List Key) (d : Key) (hl : l.length < 2 ^ 40) (hk : l.length < k) (h : ∀ c nx, call 43 [.agg (Key.row c), .vp d.row] [] nx = some (.b (c.n.toList == d.n.toList), [], nx + 8)) : Ends cfg call k 49 [.vs z 3 (l.map Key.row), .fn 43 [.vp d.row]] [] 0 fun r _ _ => r = .i .i64 (idxOf (fun c => c.n.toList == d.n.toList) 0 l) := by
  refine run_wp Tryd.func49 rfl (by simp [Tryd.f49]) ?_
  simp
  refine loop_wp (ι := Nat × Nat) (fun i => { env := [(0, .vs z 3 (l.map Key.row)), (1, .fn 43 [.vp d.row]), (7, .i .i64 (l.length : Nat)), (8, .i .i64 (i.1 : Nat))], loc := [], hp := [], nx := i.2 }) (fun i => l.length - i.1)
    (fun i => i.1 ≤ l.length ∧ idxOf (fun c => c.n.toList == d.n.toList) i.1 (l.drop i.1) = idxOf (fun c => c.n.toList == d.n.toList) 0 l) (0, 4) (by simp) ⟨Nat.zero_le _, rfl⟩ (by simpa using hk) ?_
  rintro Next ⟨i, nx⟩ ⟨hp, hn⟩ hnext
  simp only at hp hn hnext ⊢
  by_cases hi : i < l.length
  · have hd : l.drop i = l[i] :: l.drop (i + 1) := List.drop_eq_getElem_cons hi
    have c3 : IntKind.i64.wrap ((i : Int) + 1) = i + 1 := wrap_i64 (by omega) (by omega)
    have c1 : (i : Int) < l.length := by omega
    have c2 : (0 : Int) ≤ i := by omega
    rw [hd] at hn
    cases hv : (l[i].n.toList == d.n.toList)
    · have hn' : idxOf (fun c => c.n.toList == d.n.toList) (i + 1) (l.drop (i + 1)) = idxOf (fun c => c.n.toList == d.n.toList) 0 l := by rw [← hn]; simp [idxOf, hv]
      simp [c1, c2, c3, hi, hv, h]
      exact hnext (i + 1, _) (by simp only; omega) ⟨hi, hn'⟩
    · have hn' : idxOf (fun c => c.n.toList == d.n.toList) 0 l = i := by rw [← hn]; simp [idxOf, hv]
      simp [c1, c2, hi, hv, h, hn']
  · obtain rfl : i = l.length := by omega
    rw [List.drop_of_length_le (Nat.le_refl _)] at hn
    have hn' : idxOf (fun c => c.n.toList == d.n.toList) 0 l = -1 := hn.symm
    simp [hn']

theorem run42 (call : CallT) (k : Nat) (z : Bool) (l : List Key) (d : Key) (h : pR call 49 [.vs z 3 (l.map Key.row), .fn 43 [.vp d.row]] = some (.i .i64 (idxOf (fun c => c.n.toList == d.n.toList) 0 l))) : Ends cfg call k 42 [.vs z 3 (l.map Key.row), .fn 43 [.vp d.row]] [] 0 fun r _ _ => r = .b (l.any (fun c => c.n.toList == d.n.toList)) := by
  refine run_wp Tryd.func42 rfl (by simp [Tryd.f42]) ?_
  simp [h, idxOf_any]

theorem run44 (call : CallT) (k : Nat) (z : Bool) (l : List Int) (tc : List AV) (q : Int → Bool) (hl : l.length < 2 ^ 40) (hk : l.length < k) (h : ∀ c ∈ l, ∀ nx, call 32 [.i .i64 c, .vp tc] [] nx = some (.b (q c), [], nx + 9)) : Ends cfg call k 44 [.vs z 1 (ints l), .fn 32 [.vp tc]] [] 0 fun r _ _ => r = .i .i64 (idxOf q 0 l) := by
  refine run_wp Tryd.func44 rfl (by simp [Tryd.f44]) ?_
  simp
  refine loop_wp (ι := Nat × Nat) (fun i => { env := [(0, .vs z 1 (ints l)), (1, .fn 32 [.vp tc]), (7, .i .i64 (l.length : Nat)), (8, .i .i64 (i.1 : Nat))], loc := [], hp := [], nx := i.2 }) (fun i => l.length - i.1)
    (fun i => i.1 ≤ l.length ∧ idxOf q i.1 (l.drop i.1) = idxOf q 0 l) (0, 4) (by simp [ints]) ⟨Nat.zero_le _, rfl⟩ (by simpa using hk) ?_
  rintro Next ⟨i, nx⟩ ⟨hp, hn⟩ hnext
  simp only at hp hn hnext ⊢
  by_cases hi : i < l.length
  · have hd : l.drop i = l[i] :: l.drop (i + 1) := List.drop_eq_getElem_cons hi
    have c3 : IntKind.i64.wrap ((i : Int) + 1) = i + 1 := wrap_i64 (by omega) (by omega)
    have c1 : (i : Int) < l.length := by omega
    have c2 : (0 : Int) ≤ i := by omega
    rw [hd] at hn
    cases hv : q l[i]
    · have hn' : idxOf q (i + 1) (l.drop (i + 1)) = idxOf q 0 l := by rw [← hn]; simp [idxOf, hv]
      simp [ints, c1, c2, c3, hi, hv, h l[i] (List.getElem_mem hi)]
      exact hnext (i + 1, _) (by simp only; omega) ⟨hi, hn'⟩
    · have hn' : idxOf q 0 l = i := by rw [← hn]; simp [idxOf, hv]
      simp [ints, c1, c2, hi, hv, h l[i] (List.getElem_mem hi), hn']
  · obtain rfl : i = l.length := by omega
    rw [List.drop_of_length_le (Nat.le_refl _)] at hn
    have hn' : idxOf q 0 l = -1 := hn.symm
    simp [hn']

theorem run31 (call : CallT) (k : Nat) (z : Bool) (l : List Int) (tc : List AV) (q : Int → Bool) (h : pR call 44 [.vs z 1 (ints l), .fn 32 [.vp tc]] = some (.i .i64 (idxOf q 0 l))) : Ends cfg call k 31 [.vs z 1 (ints l), .fn 32 [.vp tc]] [] 0 fun r _ _ => r = .b (l.any q) := by
  refine run_wp Tryd.func31 rfl (by simp [Tryd.f31]) ?_
  simp [h, idxOf_any]

end Ab
end Go.Proofs.YtgkaidnfmkncmaaDoor
