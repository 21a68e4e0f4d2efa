/-
  DERIVED. locksteplaw08.Form, whole.
  Conditions: sizes below a row's limit.
-/
import Derived.Test.YtgkaidnfmkncmaaDoorS15
set_option linter.all false
set_option maxHeartbeats 4000000
namespace Go.Proofs.YtgkaidnfmkncmaaDoor
namespace Ab
open Go.Lib
set_option maxRecDepth 100000
set_option maxHeartbeats 4000000
attribute [local simp] appendA appRow newsA rowsSz rowsOf isIntD makeSliceA elemOf rowsBuilt

theorem run4 (call : CallT) (k : Nat) (t : Tab) (m : Nat) (ok : t.Ok m) (hm : m ≤ 2 ^ 20) (hk : m ≤ k) (nx : Nat) {Q : AV → Hp → Nat → Prop}
    (hQ : ∀ v hp nx', nx ≤ nx' → Holds hp nx nx' v t → (∀ j, j < nx → lk hp j = none) → Q v hp nx') : Ends cfg call k 4 [.agg t.row] [] nx Q := by
  have okl := ok.cl
  have okk := ok.kl
  have hrow : t.row = [.s t.n, .vs t.zc 4 (t.cols.map Col.row), .vs t.zk 3 (t.keys.map Key.row), .i .i64 t.part, .i .i64 t.most] := rfl
  have d3 : IntKind.i64.wrap ((t.cols.length : Int) + 1) = t.cols.length + 1 := wrap_i64 (by omega) (by omega)
  have d2 : t.cols.length * 41 ≤ 68719476736 := by omega
  have d4 : (t.cols.length + 1) * 41 ≤ 68719476736 := by omega
  have d5 : (0 : Int) ≤ t.cols.length + 1 := by omega
  have d6 : ((t.cols.length : Int) + 1).toNat = t.cols.length + 1 := by omega
  have e3 : IntKind.i64.wrap ((t.keys.length : Int) + 1) = t.keys.length + 1 := wrap_i64 (by omega) (by omega)
  have e4 : (t.keys.length + 1) * 49 ≤ 68719476736 := by omega
  have e5 : (0 : Int) ≤ t.keys.length + 1 := by omega
  have e6 : ((t.keys.length : Int) + 1).toNat = t.keys.length + 1 := by omega
  refine run_wp Tryd.func4 rfl (by simp [Tryd.f4]) ?_
  rw [hrow]
  have hfin : ∀ (g : Nat) (hp : Hp) (nx' : Nat) (rows : List (List AV)), nx + 19 ≤ nx' → KRows hp (nx + 19) nx' (nx + 6) (nx + 16) rows t.keys → lk hp (nx + 16) = some (t.keys.length, .arr 3 rows) → (∀ j, j < nx + 19 → j ≠ nx + 16 → lk hp j = lk [(nx + 6, (g, .arr 4 (t.cols.map Col.row))), (nx + 16, (0, .arr 3 []))] j) →
      Q (.agg [.s t.n, .rs (nx + 6) g 0 t.cols.length 4, .rs (nx + 16) t.keys.length 0 t.keys.length 3, .i .i64 t.part, .i .i64 t.most]) hp (nx' + 5) := by
    intro g hp nx' rows g1 g2 g3 g4
    refine hQ _ _ _ (by omega) ⟨nx + 6, g, nx + 16, t.keys.length, rows, rfl, ?_, g3, g2.mono (by omega) (by omega) fun _ _ _ _ _ => rfl, by omega, by omega, by omega, by omega, by omega⟩ ?_
    · rw [g4 (nx + 6) (by omega) (by omega)]
      simp
    · intro j hj
      have h1 : ∀ c, ¬ nx + c = j := fun c => by omega
      rw [g4 j (by omega) (by omega)]
      simp [h1]
  by_cases h0 : t.cols = []
  · cases hz : t.zc
    · simp [mostB, Nat.add_assoc, h0, hz, wrap1, e3, e4, e5, e6]
      refine ⟨⟨by kernel_rfl, by kernel_rfl⟩, ?_⟩
      refine loop4 call k t m ok hm hk nx (nx + 1) (nx + 6) (nx + 16) nx (nx + 19) _ _ _ _ _ _ (by omega) (by omega) (by omega) (by omega) (by simp) ?_
      intro hp nx' rows g1 g2 g3 g4
      simp
      have := hfin 0 hp nx' rows g1 g2 g3 (by rw [h0]; exact g4)
      simpa [h0] using this
    · simp [mostB, Nat.add_assoc, h0, hz, wrap1, e3, e4, e5, e6]
      refine ⟨⟨by kernel_rfl, by kernel_rfl⟩, ?_⟩
      refine loop4 call k t m ok hm hk nx (nx + 1) (nx + 6) (nx + 16) nx (nx + 19) _ _ _ _ _ _ (by omega) (by omega) (by omega) (by omega) (by simp) ?_
      intro hp nx' rows g1 g2 g3 g4
      simp
      have := hfin 0 hp nx' rows g1 g2 g3 (by rw [h0]; exact g4)
      simpa [h0] using this
  · have h0' : ¬ t.cols.length = 0 := fun h => h0 (List.length_eq_zero_iff.1 h)
    have hz : t.zc = false := by
      cases hz : t.zc with
      | false => rfl
      | true => exact absurd (ok.zc hz) h0
    simp [mostB, Nat.add_assoc, h0, h0', hz, d2, d3, d4, d5, d6, e3, e4, e5, e6]
    refine ⟨⟨by kernel_rfl, by kernel_rfl⟩, ?_⟩
    refine loop4 call k t m ok hm hk nx (nx + 1) (nx + 6) (nx + 16) nx (nx + 19) _ _ _ _ _ _ (by omega) (by omega) (by omega) (by omega) (by simp) ?_
    intro hp nx' rows g1 g2 g3 g4
    simp
    exact hfin 1 hp nx' rows g1 g2 g3 g4

end Ab
end Go.Proofs.YtgkaidnfmkncmaaDoor
