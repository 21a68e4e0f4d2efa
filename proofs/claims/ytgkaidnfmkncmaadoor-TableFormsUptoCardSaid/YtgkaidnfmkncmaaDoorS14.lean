/-
  DERIVED. slices.Clone, lockstep/btree.New, locksteplaw02.Own on the heap: what they come to.
  Conditions: sizes below a row's limit.
-/
import Derived.Test.YtgkaidnfmkncmaaDoorS13
set_option linter.all false
set_option maxHeartbeats 4000000
namespace Go.Proofs.YtgkaidnfmkncmaaDoor
namespace Ab
open Go.Lib
set_option maxRecDepth 100000
set_option maxHeartbeats 4000000
attribute [local simp] appendA appRow newsA rowsSz rowsOf isIntD makeSliceA elemOf rowsBuilt eqA eq1

theorem lk_set {α : Type} (l : List (Nat × α)) (k j : Nat) (x : α) : lk (up l k x) j = if j = k then some x else lk l j := by
  induction l with
  | nil =>
    by_cases h : j = k
    · simp [up, lk, h]
    · simp [up, lk, h, Ne.symm h]
  | cons y r ih =>
    obtain ⟨i, z⟩ := y
    by_cases h : i = k
    · subst h
      by_cases h2 : i = j
      · simp [up, lk, h2]
      · simp [up, lk, h2, Ne.symm h2]
    · by_cases h2 : i = j
      · subst h2
        simp [up, lk, h]
      · simp only [up, if_neg h, lk, if_neg h2, ih]

theorem mostB : mostBytes = 68719476736 := by decide

theorem run37 (call : CallT) (k : Nat) (hp : Hp) (nx n g : Nat) (rows : List (List AV)) (hg : lk hp n = some (g, .arr 4 rows)) (hn : n < nx) (hs : rows.length ≤ 2 ^ 20) {Q : AV → Hp → Nat → Prop}
    (hQ : ∀ n' g' hp' nx', nx ≤ n' → n' < nx' → lk hp' n' = some (g', .arr 4 rows) → (∀ j, j < nx → lk hp' j = lk hp j) → Q (.rs n' g' 0 rows.length 4) hp' nx') :
    Ends cfg call k 37 [.rs n g 0 rows.length 4] hp nx Q := by
  have h1 : ∀ c, ¬ n = nx + c := fun c => by omega
  have h2 : rows.length * 41 ≤ 68719476736 := by omega
  refine run_wp Tryd.func37 rfl (by simp [Tryd.f37]) ?_
  by_cases h0 : rows.length = 0
  · obtain rfl : rows = [] := List.length_eq_zero_iff.1 h0
    simp [mostB, lk_set, hg, h1]
    exact hQ (nx + 3) 0 _ _ (by omega) (by omega) (by simp [lk_set]) (fun j hj => by rw [lk_set, if_neg (by omega)])
  · simp [mostB, lk_set, hg, h1, h0, h2]
    exact hQ (nx + 3) 1 _ _ (by omega) (by omega) (by simp [lk_set]) (fun j hj => by rw [lk_set, if_neg (by omega), lk_set, if_neg (by omega)])

theorem run38 (call : CallT) (k : Nat) (hp : Hp) (nx n g : Nat) (rows : List (List AV)) (hg : lk hp n = some (g, .arr 3 rows)) (hn : n < nx) (hs : rows.length ≤ 2 ^ 20) {Q : AV → Hp → Nat → Prop}
    (hQ : ∀ n' g' hp' nx', nx ≤ n' → n' < nx' → lk hp' n' = some (g', .arr 3 rows) → (∀ j, j < nx → lk hp' j = lk hp j) → Q (.rs n' g' 0 rows.length 3) hp' nx') :
    Ends cfg call k 38 [.rs n g 0 rows.length 3] hp nx Q := by
  have h1 : ∀ c, ¬ n = nx + c := fun c => by omega
  have h2 : rows.length * 49 ≤ 68719476736 := by omega
  refine run_wp Tryd.func38 rfl (by simp [Tryd.f38]) ?_
  by_cases h0 : rows.length = 0
  · obtain rfl : rows = [] := List.length_eq_zero_iff.1 h0
    simp [mostB, lk_set, hg, h1]
    exact hQ (nx + 3) 0 _ _ (by omega) (by omega) (by simp [lk_set]) (fun j hj => by rw [lk_set, if_neg (by omega)])
  · simp [mostB, lk_set, hg, h1, h0, h2]
    exact hQ (nx + 3) 1 _ _ (by omega) (by omega) (by simp [lk_set]) (fun j hj => by rw [lk_set, if_neg (by omega), lk_set, if_neg (by omega)])

theorem run39 (call : CallT) (k : Nat) (hp : Hp) (nx n g : Nat) (rows : List (List AV)) (hg : lk hp n = some (g, .arr 1 rows)) (hn : n < nx) (hs : rows.length ≤ 2 ^ 20) {Q : AV → Hp → Nat → Prop}
    (hQ : ∀ n' g' hp' nx', nx ≤ n' → n' < nx' → lk hp' n' = some (g', .arr 1 rows) → (∀ j, j < nx → lk hp' j = lk hp j) → Q (.rs n' g' 0 rows.length 1) hp' nx') :
    Ends cfg call k 39 [.rs n g 0 rows.length 1] hp nx Q := by
  have h1 : ∀ c, ¬ n = nx + c := fun c => by omega
  have h2 : rows.length * 9 ≤ 68719476736 := by omega
  refine run_wp Tryd.func39 rfl (by simp [Tryd.f39]) ?_
  by_cases h0 : rows.length = 0
  · obtain rfl : rows = [] := List.length_eq_zero_iff.1 h0
    simp [mostB, lk_set, hg, h1]
    exact hQ (nx + 3) 0 _ _ (by omega) (by omega) (by simp [lk_set]) (fun j hj => by rw [lk_set, if_neg (by omega)])
  · simp [mostB, lk_set, hg, h1, h0, h2]
    exact hQ (nx + 3) 1 _ _ (by omega) (by omega) (by simp [lk_set]) (fun j hj => by rw [lk_set, if_neg (by omega), lk_set, if_neg (by omega)])

theorem wrap1 : IntKind.i64.wrap 1 = 1 := wrap_i64 (by omega) (by omega)

theorem run36 (call : CallT) (k : Nat) (b : Bool) (nx : Nat) {Q : AV → Hp → Nat → Prop} (hQ : Q (.ptr (nx + 1 + 2) 0 0) [(nx + 1 + 2, (0, .cells [.b b, .np]))] (nx + 1 + 4)) : Ends cfg call k 36 [.b b] [] nx Q := by
  refine run_wp Tryd.func36 rfl (by simp [Tryd.f36]) ?_
  simp
  exact hQ

theorem run5 (call : CallT) (k : Nat) (nx : Nat) (z : Bool) (r : List Val) (hz : z = true → r = []) (hs : r.length ≤ 2 ^ 20) {Q : AV → Hp → Nat → Prop}
    (hQ : ∀ n g nx', nx ≤ n → n < nx' → Q (.rs n g 0 r.length 3) [(n, (g, .arr 3 (r.map Val.row)))] nx') : Ends cfg call k 5 [.vs z 3 (r.map Val.row)] [] nx Q := by
  have h3 : IntKind.i64.wrap ((r.length : Int) + 1) = r.length + 1 := wrap_i64 (by omega) (by omega)
  have h2 : r.length * 33 ≤ 68719476736 := by omega
  have h4 : (r.length + 1) * 33 ≤ 68719476736 := by omega
  have h5 : (0 : Int) ≤ r.length + 1 := by omega
  have h6 : ((r.length : Int) + 1).toNat = r.length + 1 := by omega
  refine run_wp Tryd.func5 rfl (by simp [Tryd.f5]) ?_
  by_cases h0 : r = []
  · subst h0
    cases z
    · simp [mostB, wrap1]
      exact hQ (nx + 1 + 3) 0 _ (by omega) (by omega)
    · simp [mostB, wrap1]
      exact hQ (nx + 1 + 3) 0 _ (by omega) (by omega)
  · have h7 : ¬ (r.length = 0) := fun h => h0 (List.length_eq_zero_iff.1 h)
    cases z
    · simp [mostB, h0, h2, h3, h4, h5, h6, h7]
      exact hQ (nx + 1 + 3) 1 _ (by omega) (by omega)
    · exact absurd (hz rfl) h0
end Ab
end Go.Proofs.YtgkaidnfmkncmaaDoor
