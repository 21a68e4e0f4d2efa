/-
  DERIVED. table.New, (*Table).Form, Len, Next, Mark on the heap.
  Conditions: sizes below a row's limit.
-/
import Derived.Test.YtgkaidnfmkncmaaDoorS20
set_option linter.all false
set_option maxHeartbeats 4000000
namespace Go.Proofs.YtgkaidnfmkncmaaDoor
namespace Ab
open Go.Lib
set_option maxRecDepth 100000
set_option maxHeartbeats 4000000

theorem run16 (call : CallT) (k : Nat) (t : Tab) (hp : Hp) (nx lo hi n : Nat) (h : TAt hp lo hi n t) {Q : AV → Hp → Nat → Prop} (hQ : ∀ nx', nx ≤ nx' → Q (.i .i64 0) hp nx') : Ends cfg call k 16 [.ptr n 0 0] hp nx Q := by
  obtain ⟨w0, w1, w2, w3, w4, mp, kv, e1, e2, e3, e4, e5, e6, e7⟩ := h.h
  refine run_wp Tryd.func16 rfl (by simp [Tryd.f16]) ?_
  simp [Nat.add_assoc, e1, e3]
  exact hQ _ (by omega)
theorem run17 (call : CallT) (k : Nat) (t : Tab) (hp : Hp) (nx lo hi n : Nat) (h : TAt hp lo hi n t) {Q : AV → Hp → Nat → Prop} (hQ : ∀ nx', nx ≤ nx' → Q (.i .u64 1) hp nx') : Ends cfg call k 17 [.ptr n 0 0] hp nx Q := by
  obtain ⟨w0, w1, w2, w3, w4, mp, kv, e1, e2, e3, e4, e5, e6, e7⟩ := h.h
  refine run_wp Tryd.func17 rfl (by simp [Tryd.f17]) ?_
  simp [Nat.add_assoc, e1]
  exact hQ _ (by omega)
theorem run18 (call : CallT) (k : Nat) (t : Tab) (hp : Hp) (nx lo hi n : Nat) (h : TAt hp lo hi n t) {Q : AV → Hp → Nat → Prop} (hQ : ∀ nx', nx ≤ nx' → Q (.i .i64 0) hp nx') : Ends cfg call k 18 [.ptr n 0 0] hp nx Q := by
  obtain ⟨w0, w1, w2, w3, w4, mp, kv, e1, e2, e3, e4, e5, e6, e7⟩ := h.h
  refine run_wp Tryd.func18 rfl (by simp [Tryd.f18]) ?_
  simp [Nat.add_assoc, e1]
  exact hQ _ (by omega)

theorem run14 (call : CallT) (k : Nat) (t : Tab) (h27 : OwnOk call t) (hp : Hp) (nx lo hi n : Nat) (h : TAt hp lo hi n t) (hnx : hi ≤ nx) {Q : AV → Hp → Nat → Prop}
    (hQ : ∀ v' hp' nx', nx ≤ nx' → Holds hp' nx nx' v' t.own → (∀ j, j < nx → lk hp' j = lk hp j) → Q v' hp' nx') : Ends cfg call k 14 [.ptr n 0 0] hp nx Q := by
  obtain ⟨w0, w1, w2, w3, w4, mp, kv, e1, e2, e3, e4, e5, e6, e7⟩ := h.h
  have hcl := fun c => h27 hp (nx + c) lo hi _ e2 (by omega)
  obtain ⟨kc, gc, kk, gk, rows, d1, d2, d3, d4, d5, d6, d7, d8, d9⟩ := e2.h
  simp only [AV.agg.injEq, List.cons.injEq, and_true] at d1
  obtain ⟨rfl, rfl, rfl, rfl, rfl⟩ := d1
  obtain ⟨v', hp1, nx1, q1, q2, q3, q4⟩ := hcl 7
  obtain ⟨kc', gc', kk', gk', rows', e1', e2', e3', e4', e5', e6', e7', e8', e9'⟩ := q3.h
  subst e1'
  refine run_wp Tryd.func14 rfl (by simp [Tryd.f14]) ?_
  simp [Nat.add_assoc, e1, q1]
  exact hQ _ _ _ (by omega) (q3.mono (by omega) (by omega) fun _ _ _ => rfl) fun j hj => q4 j (by omega)

/-- What 'begun' comes to. -/
def BegunOk (call : CallT) (t : Tab) : Prop := ∀ (hp : Hp) (nx lo hi : Nat) (v : AV), Holds hp lo hi v t → hi ≤ nx →
  ∃ n hp' nx', call 26 [v] hp nx = some (.ptr n 0 0, hp', nx') ∧ nx ≤ nx' ∧ TAt hp' nx nx' n t.own ∧ ∀ j, j < nx → lk hp' j = lk hp j

theorem run12 (call : CallT) (k : Nat) (t : Tab) (h19 : pR call 19 [.agg t.heap.row] = some (.i .i64 (tabChk t))) (h26 : BegunOk call t) (hp : Hp) (nx lo hi : Nat) (v : AV) (hv : Holds hp lo hi v t) (hnx : hi ≤ nx) {Q : AV → Hp → Nat → Prop}
    (hQ0 : tabChk t ≠ 0 → ∀ nx', nx ≤ nx' → Q (.tup [.np, .i .i64 (tabChk t)]) hp nx')
    (hQ1 : tabChk t = 0 → ∀ n hp' nx', nx ≤ nx' → TAt hp' nx nx' n t.own → (∀ j, j < nx → lk hp' j = lk hp j) → Q (.tup [.ptr n 0 0, .i .i64 0]) hp' nx') : Ends cfg call k 12 [v] hp nx Q := by
  have hf : ∀ env loc nx, mapO (frz (St.get ⟨env, loc, hp, nx⟩) 12) [v] = some [.agg t.heap.row] := by
    intro env loc nx
    simp only [mapO, frz_holds (get := St.get ⟨env, loc, hp, nx⟩) hv fun _ _ => rfl, Option.map_some]
  have hcl := fun c => h26 hp (nx + c) lo hi v hv (by omega)
  obtain ⟨kc, gc, kk, gk, rows, e1, e2, e3, e4, e5, e6, e7, e8, e9⟩ := hv.h
  subst e1
  have hp19 : ∀ env loc nx1 nx2 dst, pCall call ⟨env, loc, hp, nx1⟩ nx2 dst 19 [.agg [.s t.n, .rs kc gc 0 t.cols.length 4, .rs kk gk 0 t.keys.length 3, .i .i64 t.part, .i .i64 t.most]] = some (⟨dst, .i .i64 (tabChk t), [], none, none⟩, nx2) := by
    intro env loc nx1 nx2 dst
    unfold pCall
    rw [frzDepth, hf]
    simp [h19]
  refine run_wp Tryd.func12 rfl (by simp [Tryd.f12]) ?_
  by_cases hc : tabChk t = 0
  · obtain ⟨n, hp1, nx1, q1, q2, q3, q4⟩ := hcl 12
    rw [hc] at hp19
    simp [-pCall, Nat.add_assoc, hp19, q1]
    exact hQ1 hc n hp1 _ (by omega) ⟨by
      obtain ⟨w0, w1, w2, w3, w4, mp, kv, d1, d2, d3, d4, d5, d6, d7⟩ := q3.h
      exact ⟨w0, w1, w2, w3, w4, mp, kv, d1, d2.mono (by omega) (by omega) fun _ _ _ => rfl, d3, by omega, by omega, by omega, by omega⟩⟩ fun j hj => q4 j (by omega)
  · have hc' : (tabChk t != 0) = true := by simp [hc]
    simp [-pCall, Nat.add_assoc, hp19, hc']
    exact hQ0 hc _ (by omega)

end Ab
end Go.Proofs.YtgkaidnfmkncmaaDoor
