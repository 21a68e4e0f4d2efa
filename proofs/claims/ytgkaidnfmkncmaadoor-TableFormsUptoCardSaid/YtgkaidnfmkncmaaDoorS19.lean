/-
  DERIVED. table.begun, table.New, (*Table).Form, Len, Next, Mark.
  Conditions: sizes below a row's limit.
-/
import Derived.Test.YtgkaidnfmkncmaaDoorS18
set_option linter.all false
set_option maxHeartbeats 4000000
namespace Go.Proofs.YtgkaidnfmkncmaaDoor
namespace Ab
open Go.Lib
set_option maxRecDepth 100000
set_option maxHeartbeats 4000000
attribute [local simp] appendA appRow newsA rowsSz rowsOf isIntD makeSliceA elemOf rowsBuilt

/-- What a table's trees lie in. -/
def KV (hp : Hp) (nx0 i : Nat) (kv : AV) : Prop := (i = 0 ∧ kv = .vs true 0 []) ∨ ∃ kq gq rows, kv = .rs kq gq 0 i 1 ∧ lk hp kq = some (gq, .arr 1 rows) ∧ rows.length = i ∧ nx0 ≤ kq

theorem loop26 (call : CallT) (k : Nat) (h36 : ∀ nx, call 36 [.b false] [] nx = some (.ptr (nx + 3) 0 0, [(nx + 3, (0, .cells [.b false, .np]))], nx + 5)) (kl m : Nat) (hkl : kl < m) (hm : m ≤ 2 ^ 20) (hk : m ≤ k) (n nx0 : Nat) (w0 w1 w2 w3 w4 w5 w6 w7 w9 : AV) (hp0 : Hp) (h0 : lk hp0 n = some (0, .cells [w0, w1, w2, w3, w4, w5, w6, w7, .vs true 0 [], w9])) (hn : n < nx0) {Q : Ex × St → Prop}
    (hQ : ∀ hp nx kv, nx0 ≤ nx → lk hp n = some (0, .cells [w0, w1, w2, w3, w4, w5, w6, w7, kv, w9]) → (∀ j, j < nx0 → j ≠ n → lk hp j = lk hp0 j) → Q (.exit 0, { env := [(3, .ptr n 0 0), (11, .i .i64 (kl : Nat)), (12, .i .i64 (kl : Nat)), (13, .b false)], loc := [], hp := hp, nx := nx })) :
    wp (loopK cfg call k 26 (loopOf Tryd.f26 0) { env := [(3, .ptr n 0 0), (11, .i .i64 (kl : Nat)), (12, .i .i64 (0 : Nat))], loc := [], hp := hp0, nx := nx0 }) Q := by
  refine loop_wp (ι := Nat × Nat × Hp × AV) (fun i => { env := [(3, .ptr n 0 0), (11, .i .i64 (kl : Nat)), (12, .i .i64 (i.1 : Nat))], loc := [], hp := i.2.2.1, nx := i.2.1 }) (fun i => kl - i.1)
    (fun i => i.1 ≤ kl ∧ nx0 ≤ i.2.1 ∧ lk i.2.2.1 n = some (0, .cells [w0, w1, w2, w3, w4, w5, w6, w7, i.2.2.2, w9]) ∧ KV i.2.2.1 nx0 i.1 i.2.2.2 ∧ (∀ kq gq len, i.2.2.2 = .rs kq gq 0 len 1 → kq < i.2.1) ∧ ∀ j, j < nx0 → j ≠ n → lk i.2.2.1 j = lk hp0 j) (0, nx0, hp0, .vs true 0 []) rfl ⟨Nat.zero_le _, Nat.le_refl _, h0, .inl ⟨rfl, rfl⟩, (by intro kq gq len h; cases h), fun j _ _ => rfl⟩ (by simp only; omega) ?_
  rintro Next ⟨i, nx, hp, kv⟩ ⟨hi0, hnx, hln, hkv, hkq, hold⟩ hnext
  simp only at hi0 hnx hln hkv hkq hold hnext ⊢
  by_cases hi : i < kl
  · have c1 : (i : Int) < kl := by omega
    have c3 : IntKind.i64.wrap ((i : Int) + 1) = i + 1 := wrap_i64 (by omega) (by omega)
    have f1 : ∀ c, ¬ n = nx + c := fun c => by omega
    have f2 : ∀ c, ¬ nx + c = n := fun c => by omega
    rcases hkv with ⟨rfl, rfl⟩ | ⟨kq, gq, rows, rfl, q1, q2, q3⟩
    · simp [loopOf, loopsIn, Tryd.f26, mostB, Nat.add_assoc, lk_set, c1, c3, hi, hln, f1, f2, h36, wrap1]
      refine ⟨⟨by kernel_rfl, ?_⟩, ?_⟩
      · simp [dynOk, pairsOk, befOf, Region.binds, Eff.apart, Eff.clear, Eff.wkeys, Ref.key, AV.refs0, f1, f2, List.range, List.range.loop]
      · refine hnext (1, _, _, .rs (nx + 8) 0 0 1 1) (by simp only; omega) ⟨by simp only; omega, by simp only; omega, ?_, ?_, ?_, ?_⟩
        · simp [lk_set]
        · exact .inr ⟨nx + 8, 0, _, rfl, by simp [lk_set, f2]; rfl, rfl, by omega⟩
        · intro kq gq len h
          injection h with h
          simp only; omega
        · intro j hj hjn
          have f3 : ∀ c, ¬ j = nx + c := fun c => by omega
          simp [lk_set, hjn, f3]
          exact hold j hj hjn
    · have hkqn : kq < nx := hkq _ _ _ rfl
      have f4 : ¬ kq = n := by omega
      have f9 : ¬ n = kq := by omega
      have f5 : ∀ c, ¬ kq = nx + c := fun c => by omega
      have f6 : ∀ c, ¬ nx + c = kq := fun c => by omega
      have d1 : (i + 1) * 9 ≤ 68719476736 := by omega
      simp [loopOf, loopsIn, Tryd.f26, mostB, Nat.add_assoc, lk_set, c1, c3, hi, hln, f1, f2, h36, q1, q2, f4, f9, f5, f6, d1]
      refine ⟨⟨by kernel_rfl, ?_⟩, ?_⟩
      · simp [dynOk, pairsOk, befOf, Region.binds, Eff.apart, Eff.clear, Eff.wkeys, Ref.key, AV.refs0, f1, f2, f4, f9, f5, f6, List.range, List.range.loop]
      · refine hnext (i + 1, _, _, .rs kq (gq + 1) 0 (i + 1) 1) (by simp only; omega) ⟨by simp only; omega, by simp only; omega, ?_, ?_, ?_, ?_⟩
        · simp [lk_set]
        · exact .inr ⟨kq, gq + 1, _, rfl, by simp [lk_set, f4]; rfl, by simp [q2], by omega⟩
        · intro kq' gq' len h
          injection h with h
          simp only; omega
        · intro j hj hjn
          have f7 : ∀ c, ¬ j = nx + c := fun c => by omega
          have f8 : ¬ j = kq := by omega
          simp [lk_set, hjn, f7, f8]
          exact hold j hj hjn
  · obtain rfl : i = kl := by omega
    simp [loopOf, loopsIn, Tryd.f26]
    exact hQ hp _ kv (by omega) hln hold

/-- A table without rows in memory. -/
structure TAt (hp : Hp) (lo hi n : Nat) (t : Tab) : Prop where
  h : ∃ w0 w1 w2 w3 w4 mp kv, lk hp n = some (0, .cells [w0, w1, w2, w3, w4, .mp (some mp), .vs true 0 [], .i .u64 1, kv, .vs true 0 []]) ∧ Holds hp lo hi (.agg [w0, w1, w2, w3, w4]) t ∧ lk hp mp = some (0, .mp []) ∧ lo ≤ n ∧ n < hi ∧ lo ≤ mp ∧ mp < hi

theorem TAt.mono {hp hp' : Hp} {lo hi n : Nat} {t : Tab} (h : TAt hp lo hi n t) (h3 : ∀ j, lo ≤ j → j < hi → lk hp' j = lk hp j) : TAt hp' lo hi n t := by
  obtain ⟨w0, w1, w2, w3, w4, mp, kv, e1, e2, e3, e4, e5, e6, e7⟩ := h.h
  exact ⟨w0, w1, w2, w3, w4, mp, kv, by rw [h3 n e4 e5]; exact e1, e2.mono (Nat.le_refl _) (Nat.le_refl _) h3, by rw [h3 mp e6 e7]; exact e3, e4, e5, e6, e7⟩

/-- What 'own' comes to. -/
def OwnOk (call : CallT) (t : Tab) : Prop := ∀ (hp : Hp) (nx lo hi : Nat) (v : AV), Holds hp lo hi v t → hi ≤ nx →
  ∃ v' hp' nx', call 27 [v] hp nx = some (v', hp', nx') ∧ nx ≤ nx' ∧ Holds hp' nx nx' v' t.own ∧ ∀ j, j < nx → lk hp' j = lk hp j

theorem run26 (call : CallT) (k : Nat) (h36 : ∀ nx, call 36 [.b false] [] nx = some (.ptr (nx + 3) 0 0, [(nx + 3, (0, .cells [.b false, .np]))], nx + 5)) (t : Tab) (h27 : OwnOk call t) (m : Nat) (ok : t.Ok m) (hm : m ≤ 2 ^ 20) (hk : m ≤ k) (hp : Hp) (nx lo hi : Nat) (v : AV) (hv : Holds hp lo hi v t) (hnx : hi ≤ nx) {Q : AV → Hp → Nat → Prop}
    (hQ : ∀ n hp' nx', nx ≤ nx' → TAt hp' nx nx' n t.own → (∀ j, j < nx → lk hp' j = lk hp j) → Q (.ptr n 0 0) hp' nx') : Ends cfg call k 26 [v] hp nx Q := by
  have okk := ok.kl
  have hcl := fun c => h27 hp (nx + c) lo hi v hv (by omega)
  obtain ⟨kc, gc, kk, gk, rows, e1, e2, e3, e4, e5, e6, e7, e8, e9⟩ := hv.h
  subst e1
  obtain ⟨v', hp1, nx1, q1, q2, q3, q4⟩ := hcl 8
  obtain ⟨kc', gc', kk', gk', rows', e1', e2', e3', e4', e5', e6', e7', e8', e9'⟩ := q3.h
  subst e1'
  refine run_wp Tryd.func26 rfl (by simp [Tryd.f26]) ?_
  simp [Nat.add_assoc, q1]
  refine loop26 call k h36 t.keys.length m okk hm hk (nx + 6) (nx1 + 4) _ _ _ _ _ _ _ _ _ _ (by rw [lk_set, if_pos rfl]) (by omega) ?_
  intro hp2 nx2 kv s1 s2 s3
  simp
  refine hQ _ _ _ (by omega) ⟨_, _, _, _, _, nx + 4, kv, s2, ?_, ?_, by omega, by omega, by omega, by omega⟩ ?_
  · have : Holds hp2 (nx + 8) nx1 (.agg [.s t.own.n, .rs kc' gc' 0 t.own.cols.length 4, .rs kk' gk' 0 t.own.keys.length 3, .i .i64 t.own.part, .i .i64 t.own.most]) t.own := by
      refine q3.mono (Nat.le_refl _) (Nat.le_refl _) fun j hj1 hj2 => ?_
      rw [s3 j (by omega) (by omega), lk_set, if_neg (by omega), lk_set, if_neg (by omega)]
    exact this.mono (by omega) (by omega) fun _ _ _ => rfl
  · rw [s3 (nx + 4) (by omega) (by omega), lk_set, if_neg (by omega), lk_set, if_pos rfl]
  · intro j hj
    rw [s3 j (by omega) (by omega), lk_set, if_neg (by omega), lk_set, if_neg (by omega), q4 j (by omega)]

end Ab
end Go.Proofs.YtgkaidnfmkncmaaDoor
